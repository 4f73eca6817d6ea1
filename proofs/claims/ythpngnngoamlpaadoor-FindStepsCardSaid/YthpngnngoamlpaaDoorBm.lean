/- How queries and spans are read; the base of the finding laws' rows. No conditions. -/
import Derived.Test.YthpngnngoamlpaaDoorBu
import Derived.Test.YthpngnngoamlpaaDoorM5
namespace Go.Proofs.YthpngnngoamlpaaDoor
namespace Base
open Go Go.Lift Go.RowKit Go.ChangeShapes Go.WideShapes Go.ChangeAt Go.Txt
noncomputable abbrev laidWorld := laidWorldM
theorem rd_Qy {H : Type} {enc : TypeId × Value → H} {w : World} {sp : Nat → Bool} {hd : Bool} : Reads enc Tryd.prog w sp hd S.T.find_Query fun cs => ∃ (t : List UInt8) (fold word : Bool), cs = encY t fold word := by
  intro fuel cs x h
  obtain ⟨hl, n0, y0, h0⟩ := rd_fld (i := 0) (off := 0) (sz := 1) (ty := S.T.string) (by kernel_rfl) h
  obtain ⟨_, n1, y1, h1⟩ := rd_fld (i := 1) (off := 1) (sz := 1) (ty := S.T.bool) (by kernel_rfl) h
  obtain ⟨_, n2, y2, h2⟩ := rd_fld (i := 2) (off := 2) (sz := 1) (ty := S.T.bool) (by kernel_rfl) h
  rw [show Tryd.prog.cellsOf S.T.find_Query = 3 from by kernel_rfl] at hl
  match cs, hl with
  | [u0, u1, u2], _ =>
    obtain ⟨g, hg, _⟩ := rd_str (by kernel_rfl) _ _ _ h0
    obtain ⟨a, ha⟩ := rd_bool (by kernel_rfl) _ _ _ h1
    obtain ⟨b, hb⟩ := rd_bool (by kernel_rfl) _ _ _ h2
    simp at ha hb hg
    subst ha hb hg
    exact ⟨g.data.toList, a, b, by rw [encY, ← tv_of]⟩
theorem rd_Sp {H : Type} {enc : TypeId × Value → H} {w : World} {sp : Nat → Bool} {hd : Bool} : Reads enc Tryd.prog w sp hd S.T.api_Span fun cs => ∃ y : Sp, cs = encV y ∧ True := by
  intro fuel cs x h
  obtain ⟨hl, n0, y0, h0⟩ := rd_fld (i := 0) (off := 0) (sz := 1) (ty := S.T.int) (by kernel_rfl) h
  obtain ⟨_, n1, y1, h1⟩ := rd_fld (i := 1) (off := 1) (sz := 1) (ty := S.T.int) (by kernel_rfl) h
  rw [show Tryd.prog.cellsOf S.T.api_Span = 2 from by kernel_rfl] at hl
  match cs, hl with
  | [u0, u1], _ =>
    obtain ⟨a, ha, _⟩ := rd_int (kd := .i64) (by kernel_rfl) _ _ _ h0
    obtain ⟨b, hb, _⟩ := rd_int (kd := .i64) (by kernel_rfl) _ _ _ h1
    simp at ha hb
    subst ha hb
    exact ⟨(a, b), rfl, trivial⟩
end Base
end Go.Proofs.YthpngnngoamlpaaDoor

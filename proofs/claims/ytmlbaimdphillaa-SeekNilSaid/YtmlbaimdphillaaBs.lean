/- How steps of cursors are read. No conditions. -/
import Derived.Test.YtmlbaimdphillaaBt
import Derived.Test.YtmlbaimdphillaaV4
namespace Go.Proofs.Ytmlbaimdphillaa
namespace Base
open Go Go.Lift Go.RowKit Go.ChangeShapes Go.WideShapes Go.ChangeAt
variable {H : Type} {enc : TypeId × Value → H} {w : World} {sp : Nat → Bool} {hd : Bool}
theorem rd_Sk : Reads enc Try.prog w sp hd S.T.bodkinlaw06_Step fun cs => ∃ y : Sks, cs = encSk y ∧ True := by
  intro fuel cs x h
  obtain ⟨hl, n0, y0, h0⟩ := rd_fld (i := 0) (off := 0) (sz := 1) (ty := S.T.int) (by kernel_rfl) h
  obtain ⟨_, n1, y1, h1⟩ := rd_fld (i := 1) (off := 1) (sz := 1) (ty := S.T.int) (by kernel_rfl) h
  obtain ⟨_, n2, y2, h2⟩ := rd_fld (i := 2) (off := 2) (sz := 1) (ty := S.T.int) (by kernel_rfl) h
  obtain ⟨_, n3, y3, h3⟩ := rd_fld (i := 3) (off := 3) (sz := 1) (ty := S.T.int) (by kernel_rfl) h
  rw [show Try.prog.cellsOf S.T.bodkinlaw06_Step = 4 from by kernel_rfl] at hl
  match cs, hl with
  | [u0, u1, u2, u3], _ =>
    obtain ⟨a, ha, _⟩ := rd_int (kd := .i64) (by kernel_rfl) _ _ _ h0
    obtain ⟨b, hb, _⟩ := rd_int (kd := .i64) (by kernel_rfl) _ _ _ h1
    obtain ⟨c, hc, _⟩ := rd_int (kd := .i64) (by kernel_rfl) _ _ _ h2
    obtain ⟨d, hd', _⟩ := rd_int (kd := .i64) (by kernel_rfl) _ _ _ h3
    simp at ha hb hc hd'
    subst ha hb hc hd'
    exact ⟨(a, b, c, d), rfl, trivial⟩
end Base
end Go.Proofs.Ytmlbaimdphillaa

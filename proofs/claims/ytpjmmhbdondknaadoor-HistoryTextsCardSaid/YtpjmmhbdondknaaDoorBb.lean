/- How edits are read; the base of the batch laws' rows. No conditions. -/
import Derived.Test.YtpjmmhbdondknaaDoorBu
import Derived.Test.YtpjmmhbdondknaaDoorJ4
namespace Go.Proofs.YtpjmmhbdondknaaDoor
namespace Base
open Go Go.Lift Go.RowKit Go.ChangeShapes Go.WideShapes Go.ChangeAt Go.Txt
noncomputable abbrev laidWorld := laidWorldM
theorem rd_Ed {H : Type} {enc : TypeId × Value → H} {w : World} {sp : Nat → Bool} {hd : Bool} : Reads enc Tryd.prog w sp hd S.T.api_Edit fun cs => ∃ y : Ed, cs = encE y ∧ True := by
  intro fuel cs x h
  obtain ⟨hl, n0, y0, h0⟩ := rd_fld (i := 0) (off := 0) (sz := 1) (ty := S.T.int) (by kernel_rfl) h
  obtain ⟨_, n1, y1, h1⟩ := rd_fld (i := 1) (off := 1) (sz := 1) (ty := S.T.int) (by kernel_rfl) h
  obtain ⟨_, n2, y2, h2⟩ := rd_fld (i := 2) (off := 2) (sz := 1) (ty := S.T.string) (by kernel_rfl) h
  rw [show Tryd.prog.cellsOf S.T.api_Edit = 3 from by kernel_rfl] at hl
  match cs, hl with
  | [u0, u1, u2], _ =>
    obtain ⟨a, ha, _⟩ := rd_int (kd := .i64) (by kernel_rfl) _ _ _ h0
    obtain ⟨b, hb, _⟩ := rd_int (kd := .i64) (by kernel_rfl) _ _ _ h1
    obtain ⟨g, hg, _⟩ := rd_str (by kernel_rfl) _ _ _ h2
    simp at ha hb hg
    subst ha hb hg
    exact ⟨(a, b, g.data.toList), by rw [encE, ← tv_of], trivial⟩
end Base
end Go.Proofs.YtpjmmhbdondknaaDoor

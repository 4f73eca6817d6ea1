/- How cells and parts are read. No conditions. -/
import Derived.Test.YtebedhnnokmlgaaDoorC3
import Derived.Test.YtebedhnnokmlgaaDoorRd
namespace Go.Proofs.YtebedhnnokmlgaaDoor
namespace Bc
open Go Go.Lift Go.RowKit Go.ChangeShapes Go.WideShapes Go.ChangeAt
variable {H : Type} {enc : TypeId × Value → H} {w : World} {sp : Nat → Bool} {hd : Bool}
theorem rd_Ce : Reads enc Tryd.prog w sp hd S.T.api_Cell fun cs => ∃ y : Ce, cs = encC y ∧ True := by
  intro fuel cs x h
  obtain ⟨hl, n0, y0, h0⟩ := rd_fld (i := 0) (off := 0) (sz := 1) (ty := S.T.int32) (by kernel_rfl) h
  obtain ⟨_, n1, y1, h1⟩ := rd_fld (i := 1) (off := 1) (sz := 1) (ty := S.T.int) (by kernel_rfl) h
  obtain ⟨_, n2, y2, h2⟩ := rd_fld (i := 2) (off := 2) (sz := 1) (ty := S.T.int) (by kernel_rfl) h
  obtain ⟨_, n3, y3, h3⟩ := rd_fld (i := 3) (off := 3) (sz := 1) (ty := S.T.int) (by kernel_rfl) h
  rw [show Tryd.prog.cellsOf S.T.api_Cell = 4 from by kernel_rfl] at hl
  match cs, hl with
  | [u0, u1, u2, u3], _ =>
    obtain ⟨a, ha, _⟩ := rd_int (kd := .i32) (by kernel_rfl) _ _ _ h0
    obtain ⟨b, hb, _⟩ := rd_int (kd := .i64) (by kernel_rfl) _ _ _ h1
    obtain ⟨c, hc, _⟩ := rd_int (kd := .i64) (by kernel_rfl) _ _ _ h2
    obtain ⟨d, hd', _⟩ := rd_int (kd := .i64) (by kernel_rfl) _ _ _ h3
    simp at ha hb hc hd'
    subst ha hb hc hd'
    exact ⟨(a, b, c, d), rfl, trivial⟩
end Bc
end Go.Proofs.YtebedhnnokmlgaaDoor

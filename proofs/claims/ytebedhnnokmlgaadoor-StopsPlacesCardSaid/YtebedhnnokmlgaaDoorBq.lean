/- How a question of the stops is read. No conditions. -/
import Derived.Test.YtebedhnnokmlgaaDoorT2
import Derived.Test.YtebedhnnokmlgaaDoorRd
namespace Go.Proofs.YtebedhnnokmlgaaDoor
namespace Bq
open Go Go.Lift Go.RowKit Go.ChangeShapes Go.WideShapes Go.ChangeAt
variable {H : Type} {enc : TypeId × Value → H} {w : World} {sp : Nat → Bool} {hd : Bool}
theorem rd_Q : Reads enc Tryd.prog w sp hd S.T.stops_Ask fun cs => ∃ q : Int × Int, cs = encQ q.1 q.2 ∧ I64 q.2 := by
  intro fuel cs x h
  obtain ⟨hl, n0, y0, h0⟩ := rd_fld (i := 0) (off := 0) (sz := 1) (ty := S.T.int) (by kernel_rfl) h
  obtain ⟨_, n1, y1, h1⟩ := rd_fld (i := 1) (off := 1) (sz := 1) (ty := S.T.int) (by kernel_rfl) h
  rw [show Tryd.prog.cellsOf S.T.stops_Ask = 2 from by kernel_rfl] at hl
  match cs, hl with
  | [u0, u1], _ =>
    obtain ⟨a, ha, _⟩ := rd_int (kd := .i64) (by kernel_rfl) _ _ _ h0
    obtain ⟨b, hb, hw⟩ := rd_int (kd := .i64) (by kernel_rfl) _ _ _ h1
    simp at ha hb
    subst ha hb
    exact ⟨(a, b), rfl, wf64 hw⟩
end Bq
end Go.Proofs.YtebedhnnokmlgaaDoor

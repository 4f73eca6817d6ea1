/- How points are read; the base of the row laws' rows. No conditions. -/
import Derived.Test.YtglbidiciapcmaaDoorBu
import Derived.Test.YtglbidiciapcmaaDoorG3
namespace Go.Proofs.YtglbidiciapcmaaDoor
namespace Base
open Go Go.Lift Go.RowKit Go.ChangeShapes Go.WideShapes Go.ChangeAt Go.Txt
noncomputable abbrev laidWorld := laidWorldM
theorem rd_P2 {T : Nat} (h0' : fdQ Tryd.prog T 0 = some (0, 1, S.T.int)) (h1' : fdQ Tryd.prog T 1 = some (1, 1, S.T.int)) (hc : Tryd.prog.cellsOf T = 2) {H : Type} {enc : TypeId × Value → H} {w : World} {sp : Nat → Bool} {hd : Bool} : Reads enc Tryd.prog w sp hd T fun cs => ∃ y : Int × Int, cs = encQ y ∧ True := by
  intro fuel cs x h
  obtain ⟨hl, n0, y0, h0⟩ := rd_fld h0' h
  obtain ⟨_, n1, y1, h1⟩ := rd_fld h1' h
  rw [hc] at hl
  match cs, hl with
  | [u0, u1], _ =>
    obtain ⟨a, ha, _⟩ := rd_int (kd := .i64) (by kernel_rfl) _ _ _ h0
    obtain ⟨b, hb, _⟩ := rd_int (kd := .i64) (by kernel_rfl) _ _ _ h1
    simp at ha hb
    subst ha hb
    exact ⟨(a, b), rfl, trivial⟩
theorem rd_Pt {H : Type} {enc : TypeId × Value → H} {w : World} {sp : Nat → Bool} {hd : Bool} : Reads enc Tryd.prog w sp hd S.T.api_Point fun cs => ∃ y : Int × Int, cs = encQ y ∧ True :=
  rd_P2 (by kernel_rfl) (by kernel_rfl) (by kernel_rfl)
end Base
end Go.Proofs.YtglbidiciapcmaaDoor

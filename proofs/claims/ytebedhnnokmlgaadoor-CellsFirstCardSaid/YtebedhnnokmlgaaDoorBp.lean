/- How parts of a line are read. No conditions. -/
import Derived.Test.YtebedhnnokmlgaaDoorC3
import Derived.Test.YtebedhnnokmlgaaDoorRd
namespace Go.Proofs.YtebedhnnokmlgaaDoor
namespace Bp
open Go Go.Lift Go.RowKit Go.ChangeShapes Go.WideShapes Go.ChangeAt
variable {H : Type} {enc : TypeId × Value → H} {w : World} {sp : Nat → Bool} {hd : Bool}
theorem rd_r : Reads enc Tryd.prog w sp hd S.T.int32 fun cs => ∃ y : Int, cs = encI .i32 y ∧ True := by
  intro fuel cs x h
  obtain ⟨a, ha, _⟩ := rd_int (kd := .i32) (by kernel_rfl) _ _ _ h
  exact ⟨a, ha, trivial⟩
theorem rd_Pt : Reads enc Tryd.prog w sp hd S.T.cells_Part fun cs => ∃ y : Pv, cs = encP y ∧ ∃ rs, Sl w (sv y.2.2) 1 (encI .i32) rs := by
  intro fuel cs x h
  obtain ⟨hl, n0, y0, h0⟩ := rd_fld (i := 0) (off := 0) (sz := 1) (ty := S.T.int) (by kernel_rfl) h
  obtain ⟨_, n1, y1, h1⟩ := rd_fld (i := 1) (off := 1) (sz := 1) (ty := S.T.int) (by kernel_rfl) h
  obtain ⟨_, n2, y2, h2⟩ := rd_fld (i := 2) (off := 2) (sz := 1) (ty := S.T.L_int32) (by kernel_rfl) h
  rw [show Tryd.prog.cellsOf S.T.cells_Part = 3 from by kernel_rfl] at hl
  match cs, hl with
  | [u0, u1, u2], _ =>
    obtain ⟨a, ha, _⟩ := rd_int (kd := .i64) (by kernel_rfl) _ _ _ h0
    obtain ⟨b, hb, _⟩ := rd_int (kd := .i64) (by kernel_rfl) _ _ _ h1
    obtain ⟨c, hc, rs, hrs, _⟩ := rd_slice S.tel_L_int32 S.tsz_int32 (by decide) rd_r _ _ _ h2
    simp at ha hb hc
    subst ha hb hc
    exact ⟨(a, b, c), rfl, rs, hrs⟩
theorem parts {l : Value} {pvs : List Pv} (hl : Sl w l 3 encP pvs) (h : ∀ pv ∈ pvs, ∃ rs, Sl w (sv pv.2.2) 1 (encI .i32) rs) : ∃ ps : List Pt, Parts w l ps := by
  have hx : ∀ pvs : List Pv, (∀ pv ∈ pvs, ∃ rs, Sl w (sv pv.2.2) 1 (encI .i32) rs) → ∃ ps : List Pt, pvs.length = ps.length ∧ ∀ (i : Nat) (pv : Pv) (p : Pt), pvs[i]? = some pv → ps[i]? = some p → Pv.is w pv p := by
    intro pvs
    induction pvs with
    | nil => intro _; exact ⟨[], rfl, fun i pv p h => by simp at h⟩
    | cons pv pvs ih =>
      intro h
      obtain ⟨ps, h1, h2⟩ := ih fun x hx => h x (List.mem_cons_of_mem _ hx)
      obtain ⟨rs, hrs⟩ := h pv (List.mem_cons_self ..)
      refine ⟨(pv.1, pv.2.1, rs) :: ps, by simp [h1], fun i q p hq hp => ?_⟩
      cases i with
      | zero => simp at hq hp; subst hq hp; exact ⟨rfl, rfl, hrs⟩
      | succ i => exact h2 i q p (by simpa using hq) (by simpa using hp)
  obtain ⟨ps, h1, h2⟩ := hx pvs h
  exact ⟨ps, pvs, hl, h1, h2⟩
end Bp
end Go.Proofs.YtebedhnnokmlgaaDoor

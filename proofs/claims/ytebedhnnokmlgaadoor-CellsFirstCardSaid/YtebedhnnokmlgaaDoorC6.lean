/- What 'four' and 'CellsStops' answer: true. Condition: the package's two tables hold what its text says. -/
import Derived.Test.YtebedhnnokmlgaaDoorC5
namespace Go.Proofs.YtebedhnnokmlgaaDoor
open Go Go.Lift Go.RowKit

abbrev ps1 : List Pt := [(1, 5, [9])]
abbrev four4 : List Ce := [(9, 1, 1, 5), (32, 4, 1, 5), (32, 4, 1, 5), (32, 4, 1, 5)]
theorem ofL_four : ofL fP 4 ps1 = four4 := by decide
theorem bP {w : World} {K : K1} (k a : Int) (x : SV) : sBuild Tryd.prog 56 [(0, .int .i64 k), (1, .int .i64 a), (2, sv x)] w K = K (.agg (encP (k, a, x)).toArray) w :=
  sBuild_of (lp := [(0, [.int .i64 k]), (1, [.int .i64 a]), (2, [sv x])]) S.tze_cells_Part S.tpl_cells_Part rfl rfl
theorem four_spec {w : World} (hG : Glob w) : sCall Tryd.prog S.bodkinlaw18_four.n [] w (Yes w) := by
  refine S.bodkinlaw18_four.call ?_
  unfold S.bodkinlaw18_four
  refine (plain_spec hG).mono ?_
  rintro p w1 ⟨e1, hp⟩
  refine sBuildSlice_own (enc := encI .i32) (xs := [9]) (lp := [(0, [.int .i32 9])]) S.tel_L_int32 S.tsz_int32 rfl S.tze_int32 (by decide) (by decide) (encI_ok _) rfl rfl fun v w2 hv ho2 he2 _ => ?_
  subst hv
  have hsv : (Value.slice (some ⟨w1.heap.size, 0, none⟩) 1 1) = sv (some ⟨w1.heap.size, 0, none⟩, 1, 1) := rfl
  rw [hsv, bP]
  refine sBuildSlice_own (n := 1) (enc := encP) (xs := [(1, 5, (some ⟨w1.heap.size, 0, none⟩, 1, 1))]) (lp := [(0, encP (1, 5, (some ⟨w1.heap.size, 0, none⟩, 1, 1)))]) S.tel_L_cells_Part S.tsz_cells_Part rfl S.tze_cells_Part (by decide) (by decide) encP_ok rfl rfl fun l w3 _ ho3 he3 _ => ?_
  have E3 := (e1.trans he2).trans he3
  have hP : Parts w3 l ps1 := ⟨_, ho3.sl encP_ok, rfl, fun i pv q h1 h2 => by
    cases i with
    | zero => cases h1; cases h2; exact ⟨rfl, rfl, (ho2.ext he3).sl (encI_ok _)⟩
    | succ i => simp at h1⟩
  refine (of_spec' (tab := 4) (ofP ((hp.ext he2).ext he3)) (ofT_le _ _) hP ⟨by simp, by intro p hp; simp at hp; subst hp; exact ⟨by simp, by simp, by simp⟩⟩).mono ?_
  rintro u w4 ⟨e4, v, e, rfl, h4⟩
  rcases h4 with ⟨h, _⟩ | ⟨_, h, _⟩ | ⟨_, _, rfl, hv⟩
  · exact absurd ⟨by omega, by omega⟩ h
  · exact absurd (by intro p hp; simp at hp; subst hp; exact ⟨by simp, by simp⟩) h
  rw [ofL_four] at hv
  have hvs := hv.sl encC_ok
  have hl4 : ∀ {K : K1}, sBuiltin Tryd.prog .len [46] 3 [v] w4 K = K (.int .i64 4) w4 := sLen_sl S.tel_L_api_Cell hvs
  rw [sExtract_0, sExtract_1, sBin_eql, sIf_pos rfl, hl4, sBin_eql, sIf_pos rfl]
  obtain ⟨b1, o1, hel1, hc1⟩ := hvs.el (i := 0) rfl
  obtain ⟨b2, o2, hel2, hc2⟩ := hvs.el (i := 3) rfl
  obtain ⟨r1, hr1, heq1, _⟩ := sBin_flat (cx := false) (cy := false) flatC (fitC (9, 1, 1, 5)) (fitC (9, 1, 1, 5))
  obtain ⟨r2, hr2, heq2, _⟩ := sBin_flat (cx := false) (cy := false) flatC (fitC (32, 4, 1, 5)) (fitC (32, 4, 1, 5))
  rw [sIdxA_sl (i := 0) (z := 0) S.tel_L_api_Cell S.tsz_api_Cell (by omega) hvs rfl rfl, hel1, sLoad_agg S.tagg_api_Cell hc1 rfl, bC4, heq1, hr1.2 rfl, sIf_true,
    sIdxA_sl (i := 3) (z := 3) S.tel_L_api_Cell S.tsz_api_Cell (by omega) hvs rfl rfl, hel2, sLoad_agg S.tagg_api_Cell hc2 rfl, bC4, heq2, hr2.2 rfl, sIf_true]
  refine (width_spec hvs (by intro c hc; simp at hc; rcases hc with rfl | rfl <;> simp) (by simp)).mono ?_
  rintro u w5 ⟨e5, hu⟩
  have hu : u = .int .i64 4 := by rw [hu]; rfl
  subst hu
  rw [sBin_eql]
  exact ⟨(E3.trans e4).trans e5, rfl⟩
theorem then_four {w w1 : World} (hG : Glob w) (e : Ext w w1) : sCall Tryd.prog S.bodkinlaw18_four.n [] w1 (Yes w) :=
  (four_spec (hG.ext e)).mono fun _ _ ⟨e2, h⟩ => ⟨e.trans e2, h⟩
end Go.Proofs.YtebedhnnokmlgaaDoor

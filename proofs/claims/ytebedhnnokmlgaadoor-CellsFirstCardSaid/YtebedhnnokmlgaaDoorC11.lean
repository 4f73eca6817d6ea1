/- The document's cells of parts that are right. Conditions: parts in memory; a table in memory. -/
import Derived.Test.YtebedhnnokmlgaaDoorC10
namespace Go.Proofs.YtebedhnnokmlgaaDoor
open Go Go.Lift Go.RowKit

theorem runes_spec {w : World} {pv : Pv} {p : Pt} (h : Pv.is w pv p) : sCall Tryd.prog S.bodkinref18_runes.n [.agg (encP pv).toArray] w fun u w' => Ext w w' ∧ Sl w' u 1 (encI .i32) (run p) := by
  refine S.bodkinref18_runes.call ?_
  unfold S.bodkinref18_runes
  obtain ⟨h1, h2, h3⟩ := h
  refine sBox_new (cs := encP pv) rfl fun b w1 hb hs1 he1 hk1 => ?_
  rw [sFldA_ptr S.tfl_bodkinref18_Part_Kind, sLoad_cell S.tcell_int (hk1.cells.at 0 rfl), sBin_eql, sIf_dec]
  refine ⟨fun h => ?_, fun h => ?_⟩
  · refine sBuildSlice_own (enc := encI .i32) (xs := [8230]) (lp := [(0, [.int .i32 8230])]) S.tel_L_int32 S.tsz_int32 rfl S.tze_int32 (by decide) (by decide) (encI_ok _) rfl rfl fun v w2 _ ho2 he2 _ => ?_
    refine ⟨he1.trans he2, ?_⟩
    rw [show run p = [8230] from if_pos (by omega)]
    exact ho2.sl (encI_ok _)
  · rw [sFldA_ptr S.tfl_bodkinref18_Part_Runes, sLoad_cell S.tcell_L_int32 (hk1.cells.at 2 rfl)]
    refine ⟨he1, ?_⟩
    rw [show run p = p.2.2 from if_neg (by omega)]
    exact h3.ext he1

/-- All that the parts show, rune by rune. -/
def runs (ps : List Pt) : List Int := ps.flatMap run
theorem runs_take {ps : List Pt} {i : Nat} {p : Pt} (h : ps[i]? = some p) : runs (ps.take (i + 1)) = runs (ps.take i) ++ run p := by
  unfold runs; rw [take_succ_of h, List.flatMap_append]; simp
theorem line_cels (p : Pt) : lineOf (cels p) = run p := by
  unfold lineOf cels celsN cel
  rw [List.take_length, List.map_map]
  apply List.ext_getElem?
  intro i
  rw [List.getElem?_map, List.getElem?_zipIdx]
  cases (run p)[i]? <;> simp
theorem line_flat (ps : List Pt) : lineOf (flatC_ ps) = runs ps := by
  induction ps with
  | nil => rfl
  | cons p ps ih =>
    have e1 : flatC_ (p :: ps) = cels p ++ flatC_ ps := by simp [flatC_]
    have e2 : runs (p :: ps) = run p ++ runs ps := by simp [runs]
    rw [e1, e2, ← ih, ← line_cels p]
    simp [lineOf]
theorem runs_len {ps : List Pt} (h : Sml ps) (i : Nat) : (runs (ps.take i)).length ≤ 300 * i := by
  have := flat_len h i
  rwa [← lineOf_len, line_flat] at this
end Go.Proofs.YtebedhnnokmlgaaDoor

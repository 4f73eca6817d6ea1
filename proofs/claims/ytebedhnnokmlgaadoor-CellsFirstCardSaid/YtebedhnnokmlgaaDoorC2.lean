/- Which of any cells are stops: the list that 'Stops' gives. Conditions: cells in memory. -/
import Derived.Test.YtebedhnnokmlgaaDoorC1
namespace Go.Proofs.YtebedhnnokmlgaaDoor
open Go Go.Lift Go.RowKit

def encB (b : Bool) : List Value := [.bool b]
theorem encB_ok : Enc encB 1 := ⟨fun _ => rfl, fun x u hu => by simp [encB] at hu; subst hu; rfl⟩
/-- The first ones, told. -/
def Told (cs : List Ce) (bs : List Bool) : Prop := ∀ (i : Nat) (c : Ce) (b : Bool), cs[i]? = some c → bs[i]? = some b → (b = true ↔ stopAt cs i c)

theorem stops_spec {w : World} {l : Value} {cs : List Ce} (hl : Sl w l 4 encC cs) (hn : cs.length ≤ 1000000) :
    sCall Tryd.prog S.cells_Stops.n [l] w fun u w' => Ext w w' ∧ ∃ bs, Row w' w.heap.size S.T.bool 1 u encB bs ∧ bs.length = cs.length ∧ Told cs bs := by
  refine S.cells_Stops.call ?_
  unfold S.cells_Stops
  rw [sLen_sl S.tel_L_api_Cell hl]
  refine LoopS.intro (fun us w1 => Ext w w1 ∧ ∃ (i : Nat) (v : Value) (bs : List Bool), us = [v, .int .i64 i] ∧ i ≤ cs.length ∧ Row w1 w.heap.size S.T.bool 1 v encB bs ∧ bs.length = i ∧ Told cs bs)
    (fun us _ => match us with | [_, .int _ a] => (cs.length - a).toNat | _ => 0) ⟨Ext.refl w, 0, _, [], rfl, Nat.zero_le _, Row.nil _ _ _ _ _, rfl, fun i c b _ h => by simp at h⟩ ?_
  rintro us vs w1 ⟨he, i, v, bs, rfl, hi, hv, hbl, hT⟩
  unfold S.cells_Stops_L1
  rw [hd, tl, hd, sBin_lss, sIf_dec]
  refine ⟨fun hlt => ?_, fun hge => ⟨he, bs, hv, by omega, hT⟩⟩
  obtain ⟨c, hx⟩ : ∃ x, cs[i]? = some x := ⟨_, List.getElem?_eq_getElem (by omega)⟩
  obtain ⟨b, o, hel, hc⟩ := (hl.ext he).el hx
  rw [sIdxA_sl S.tel_L_api_Cell S.tsz_api_Cell (by omega) (hl.ext he) hx rfl, hel, sLoad_agg S.tagg_api_Cell hc rfl]
  refine sVar S.tze_api_Cell S.tsz_api_Cell (by decide) rfl rfl (encC_ok.one c) fun b2 w2 hb2 hs2 he2 hk => ?_
  have E2 := he.trans he2
  refine JoinS.intro (fun us w' => Ext w2 w' ∧ ∃ t : Bool, us = [.bool t] ∧ (t = true ↔ stopAt cs i c)) ?_ ?_
  · rw [sFldA_ptr S.tfl_api_Cell_Kind, sLoad_cell S.tcell_int (hk.cells.at 1 rfl)]
    refine JoinS.intro (fun us w' => w' = w2 ∧ ∃ t : Bool, us = [.bool t] ∧ (t = true ↔ c.2.1 = 1 ∨ c.2.1 = 3)) ?_ ?_
    · rw [sBin_eql, sIf_dec, sBin_eql]
      refine ⟨fun h => ⟨rfl, _, rfl, by simp [h]⟩, fun h => ⟨rfl, _, rfl, ?_⟩⟩
      rw [decide_eq_true_eq]; omega
    rintro us vs w2 ⟨rfl, t, rfl, ht⟩
    unfold S.cells_Stops_J3
    rw [hd, sIf_bool]
    refine ⟨fun h => ⟨Ext.refl _, true, rfl, ?_⟩, fun h => ?_⟩
    · have := ht.1 h
      simp only [true_iff]
      rcases this with h | h
      · exact .inl h
      · exact .inr (.inl h)
    have hn13 : ¬ (c.2.1 = 1 ∨ c.2.1 = 3) := fun h' => by rw [ht.2 h'] at h; cases h
    rw [sBin_eql, sIf_dec]
    refine ⟨fun h2 => ?_, fun h2 => ⟨Ext.refl _, false, rfl, ?_⟩⟩
    · refine DrawS.ext ?_
      have E : Ext w2 w2.drew := (Ext.refl w2).drew
      rw [stillS_eq (fun w1 h1 K => sBin_eql _ _) E, sIf_dec]
      refine ⟨fun h0 => ⟨E, true, rfl, ?_⟩, fun h0 => ?_⟩
      · simp only [true_iff]; exact .inr (.inr ⟨h2, .inl (by omega)⟩)
      · obtain ⟨d, hd'⟩ : ∃ d, cs[i - 1]? = some d := ⟨_, List.getElem?_eq_getElem (by omega)⟩
        obtain ⟨b3, o3, hel3, hc3⟩ := (hl.ext E2).el hd'
        rw [stillS_eq (fun w1 h1 K => sBin_sub _ _ ⟨by omega, by omega⟩) E, stillS_eq (fun w1 h1 K => sIdxA_sl S.tel_L_api_Cell S.tsz_api_Cell (by omega) ((hl.ext E2).ext h1) hd' (by omega)) E, hel3,
          stillS_eq (fun w1 h1 K => sFldA_ptr S.tfl_api_Cell_At) E, stillS_cell S.tcell_int (hc3.at 3 rfl) E, stillS_eq (fun w1 h1 K => sFldA_ptr S.tfl_api_Cell_At) E, stillS_cell S.tcell_int (hk.cells.at 3 rfl) E, stillS_eq (fun w1 h1 K => sBin_neq _ _) E]
        refine ⟨E, _, rfl, ?_⟩
        simp only [Bool.not_eq_true', decide_eq_false_iff_not]
        constructor
        · intro h; exact .inr (.inr ⟨h2, .inr ⟨d, hd', h⟩⟩)
        · rintro (h | h | ⟨_, h | ⟨d', hd2, h⟩⟩)
          · exact absurd (.inl h) hn13
          · exact absurd (.inr h) hn13
          · omega
          · rw [hd'] at hd2; cases hd2; exact h
    · simp only [Bool.false_eq_true, false_iff]
      rintro (h | h | ⟨h, _⟩)
      · exact hn13 (.inl h)
      · exact hn13 (.inr h)
      · exact h2 h
  rintro us vs w3 ⟨e3, t, rfl, ht⟩
  unfold S.cells_Stops_J2
  have E3 := E2.trans e3
  have hv3 := (hv.ext he2).ext e3
  refine sBuildSlice_own (enc := encB) (xs := [t]) (lp := [(0, [.bool t])]) S.tel_L_bool S.tsz_bool rfl S.tze_bool (by decide) (by decide) encB_ok rfl rfl fun x w4 hx4 ho4 he4 hs4 => ?_
  refine sAppend_row S.tel_L_bool S.tsz_bool (by decide) S.tze_bool rfl encB_ok (hv3.ext he4) (E3.trans he4).size (ho4.sl encB_ok) (by have : maxLen = 9223372036854775807 := rfl; simp; omega) (by rw [S.tby_bool]; simp; omega) fun v' w5 hr5 hg5 _ => ?_
  rw [sBin_add _ _ ⟨by omega, by omega⟩]
  refine ⟨⟨(E3.trans he4).wr hg5 fun g hg => (hv.lt g hg).1, i + 1, v', bs ++ [t], by simp, by omega, hr5, by simp [hbl], fun j c' b' h1 h2 => ?_⟩, by simp only []; omega⟩
  rw [List.getElem?_append] at h2
  split at h2
  · exact hT j c' b' h1 h2
  · rename_i hj
    cases hjj : j - bs.length with
    | zero =>
      rw [hjj] at h2
      cases h2
      obtain rfl : j = i := by omega
      rw [hx] at h1; cases h1
      exact ht
    | succ k => rw [hjj] at h2; simp at h2
end Go.Proofs.YtebedhnnokmlgaaDoor

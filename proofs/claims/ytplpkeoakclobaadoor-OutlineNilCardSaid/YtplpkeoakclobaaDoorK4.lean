/- The law of nested ranges. Conditions: the tables of widths and of sizes in memory. -/
import Derived.Test.YtplpkeoakclobaaDoorK3
namespace Go.Proofs.YtplpkeoakclobaaDoor
open Go Go.Lift Go.RowKit Go.Txt

theorem rngs_rise (l ns : List Int) : ∀ n, (rngs l ns n).Pairwise fun x y => x.1 < y.1
  | 0 => List.Pairwise.nil
  | n + 1 => by
    rw [rngs_succ, List.pairwise_append]
    refine ⟨rngs_rise l ns n, ?_, fun x hx y hy => ?_⟩
    · split
      · exact List.pairwise_singleton _ _
      · exact List.Pairwise.nil
    · split at hy
      · simp only [List.mem_singleton] at hy
        subst hy
        obtain ⟨r, h1, _, rfl⟩ := rngs_mem hx
        unfold mkR
        dsimp only
        omega
      · cases hy
theorem nest {ns : List Int} {a b : Nat} (ha : a < ns.length) (hb : b < ns.length) (hab : a < b) (h1 : a < lastI ns a) (h2 : b < lastI ns b) (h3 : b ≤ lastI ns a) : lastI ns b ≤ lastI ns a := by
  have ia := lastI_is ha
  have ib := lastI_is hb
  rcases Nat.lt_or_ge (lastI ns a) (lastI ns b) with h4 | h4
  · exfalso
    refine ia.mx _ h4 ib.lt ?_
    rcases ia.is with h | ⟨_, n, hn, hn0, _, hd⟩
    · omega
    rcases ib.is with h | ⟨_, m, hm, hm0, hlast, hd2⟩
    · omega
    have hmn : ¬ (0 ≤ m ∧ m ≤ n) := hd b m hab h3 hm
    refine ⟨n, hn, hn0, hlast, fun i x hi hi2 hx => ?_⟩
    rcases Nat.lt_or_ge b i with h5 | h5
    · have := hd2 i x h5 hi2 hx
      omega
    · exact hd i x hi (by omega) hx
  · exact h4
theorem dnew15_spec {w : World} {v : Value} {n : Nat} {a b : Int} (hl : Sl w v 2 encQ [(a, b)]) (hn : n ≤ 1000000) (ha : 0 ≤ a) (hab : a < b) (hb : b ≤ n) : sCall Tryd.prog S.bodkinref15_New.n [.int .i64 n, v] w fun u w' => Ext w w' ∧ ∃ o : Value, u = .agg [.int .i64 n, o, .int .i64 0].toArray := by
  refine S.bodkinref15_New.call ?_
  unfold S.bodkinref15_New
  have hmx : maxLen = 9223372036854775807 := rfl
  refine sAlloc_new S.tze_bodkinref15_Set fun b4 w1 hb4 hs1 e1 hk4 => ?_
  rw [sBin_lss, sIf_dec]
  refine ⟨fun h => by omega, fun _ => ?_⟩
  rw [sBin_gtr, sIf_dec]
  refine ⟨fun h => by omega, fun _ => ?_⟩
  have hl1 := hl.ext e1
  rw [sLen_sl S.tel_L_api_Span hl1, sBin_gtr, sIf_dec]
  refine ⟨fun h => by simp at h, fun _ => ?_⟩
  rw [sLen_sl S.tel_L_api_Span hl1]
  have l4 := hk4.lt
  have s1 := e1.size
  refine LoopS.intro (fun us w2 => Ext w1 w2 ∧ ∃ (i : Nat) (o : Value) (ys : List (Int × Int)), us = [o, .int .i64 i] ∧ i ≤ 1 ∧ Row w2 w1.heap.size S.T.api_Span 2 o encQ ys ∧ (i = 0 → o = .slice none 0 0 ∧ ys = []))
    (fun us _ => match us with | [_, .int _ a] => (1 - a).toNat | _ => 0) ⟨Ext.refl w1, 0, _, [], rfl, by omega, Row.nil _ _ _ _ _, fun _ => ⟨rfl, rfl⟩⟩ ?_
  rintro us vs w2 ⟨e2, i, o, ys, rfl, hi, ho, hz⟩
  unfold S.bodkinref15_New_L1
  have k42 := hk4.ext e2
  have hl2 := hl1.ext e2
  rw [Go.Lift.hd, Go.Lift.tl, Go.Lift.hd, sBin_lss, sIf_dec]
  refine ⟨fun hlt => ?_, fun hge => ?_⟩
  · obtain rfl : i = 0 := by simp at hlt; omega
    obtain ⟨rfl, rfl⟩ := hz rfl
    have hx : [(a, b)][0]? = some (a, b) := rfl
    obtain ⟨bb, of, hel, hc⟩ := hl2.el hx
    rw [sIdxA_sl S.tel_L_api_Span S.tsz_api_Span (by omega) hl2 hx rfl, hel, sLoad_agg (cs := encP2 a b) S.tagg_api_Span hc rfl]
    refine sVar (vs := encP2 a b) S.tze_api_Span S.tsz_api_Span (by decide) rfl rfl (encP2_one _ _) fun b7 w3 hb7 hs3 e3 hk7 => ?_
    have hl3 := hl2.ext e3
    rw [sFldA_ptr S.tfl_api_Span_From, sLoad_cell (v := .int .i64 a) S.tcell_int (hk7.cells.at 0 rfl), sBin_lss, sIf_dec]
    refine ⟨fun h => by omega, fun _ => ?_⟩
    rw [sFldA_ptr S.tfl_api_Span_From, sLoad_cell (v := .int .i64 a) S.tcell_int (hk7.cells.at 0 rfl), sFldA_ptr S.tfl_api_Span_To, sLoad_cell (v := .int .i64 b) S.tcell_int (hk7.cells.at 1 rfl), sBin_geq, sIf_dec]
    refine ⟨fun h => by omega, fun _ => ?_⟩
    rw [sFldA_ptr S.tfl_api_Span_To, sLoad_cell (v := .int .i64 b) S.tcell_int (hk7.cells.at 1 rfl), sBin_gtr, sIf_dec]
    refine ⟨fun h => by omega, fun _ => ?_⟩
    rw [sSlice_h (hi := 0) S.tel_L_api_Span S.tsz_api_Span (by omega) hl3 rfl (Nat.zero_le _)]
    have p0 : Sl w3 (slV v 2 0 0 (capV v)) 2 encQ [] := by
      have hcap := sl_cap hl3
      simpa using hl3.part (lo := 0) (hi := 0) (mx := capV v) (by omega) (Nat.zero_le _) (by omega) (Nat.le_refl _)
    rw [sLen_sl S.tel_L_api_Span p0]
    refine LoopS.intro (fun us w4 => w4 = w3 ∧ us = [.int .i64 0]) (fun _ _ => 0) ⟨rfl, rfl⟩ ?_
    rintro us vs w4 ⟨rfl, rfl⟩
    unfold S.bodkinref15_New_L2
    rw [Go.Lift.hd, sBin_lss, sIf_dec]
    refine ⟨fun h => absurd h (by decide), fun _ => ?_⟩
    rw [sLen_sl S.tel_L_api_Span (Sl.nil w4 2 encQ)]
    refine LoopS.intro (fun us w5 => w5 = w4 ∧ us = [.slice none 0 0, .bool false, .int .i64 0]) (fun _ _ => 0) ⟨rfl, rfl⟩ ?_
    rintro us vs w5 ⟨rfl, rfl⟩
    unfold S.bodkinref15_New_L3
    rw [Go.Lift.hd, Go.Lift.tl, Go.Lift.hd, Go.Lift.tl, Go.Lift.hd, sBin_lss, sIf_dec]
    refine ⟨fun h => absurd h (by decide), fun _ => ?_⟩
    rw [sUn_not, Bool.not_false, sIf_true, sLoad_agg (cs := encP2 a b) S.tagg_api_Span hk7.cells rfl]
    refine sBuildSlice_own (n := 1) (enc := encQ) (xs := [(a, b)]) (lp := [(0, encP2 a b)]) S.tel_L_api_Span S.tsz_api_Span rfl S.tze_api_Span (by decide) (by decide) encQ_ok rfl rfl fun t w6 ht ho6 e6 hs6 => ?_
    have e26 := e3.trans e6
    have e16 := e2.trans e26
    refine sAppend_row S.tel_L_api_Span S.tsz_api_Span (by decide) S.tze_api_Span rfl encQ_ok (ho.ext e26) e16.size (ho6.sl encQ_ok) (by simp; omega) (by rw [S.tby_api_Span]; simp) fun o' w7 ho7 hg7 _ => ?_
    rw [sBin_add _ _ ⟨by omega, by omega⟩]
    exact ⟨⟨e16.wr hg7 fun g hg => ((ho.ext e26).lt g hg).1, 1, o', _, by simp, Nat.le_refl _, ho7, fun h => absurd h (by decide)⟩, by simp⟩
  · have hso := ho.shape
    rw [sBuild_of (cs := [.int .i64 n, o, .int .i64 0]) (lp := [(0, [.int .i64 n]), (1, [o])]) S.tze_bodkinref15_Set S.tpl_bodkinref15_Set (by simp [hso.1]; rfl) rfl]
    refine sStore_blk S.tsz_bodkinref15_Set (by decide) k42 (vs := [.int .i64 n, o, .int .i64 0]) rfl rfl (by simp) (by
      intro u hu
      simp at hu
      rcases hu with rfl | rfl | rfl
      · rfl
      · exact hso.2
      · rfl) fun w3 hs3 hg3 hk3 => ?_
    rw [sLoad_agg (cs := [.int .i64 n, o, .int .i64 0]) S.tagg_bodkinref15_Set hk3.cells rfl]
    exact ⟨rfl, (e1.trans e2).wr hg3 (by rintro _ ⟨⟩; omega), o, rfl⟩
theorem end_rise {l : List Int} {a b : Nat} (hab : a < b) (hb : b ≤ nls l) : endL l a < endL l b := by
  have h1 : endL l a = beh l (a + 1) - 1 := by unfold endL; rw [if_pos (by omega)]
  have h2 := beh_end hb
  have h3 : beh l (a + 1) ≤ beh l b := by
    rcases Nat.lt_or_ge (a + 1) b with h | h
    · have := lt_beh (l := l) (k := b) (a := beh l (a + 1)) hb (by rw [beh_is (by omega)]; exact h)
      omega
    · obtain rfl : b = a + 1 := by omega
      exact Nat.le_refl _
  have h4 := lt_beh (l := l) (k := a + 1) (a := beh l a) (by omega) (by rw [beh_is (by omega)]; omega)
  omega
theorem outlineNests_spec {w : World} (hM : Mem w) (s : List UInt8) (tab : Int) : S.bodkinlaw43_OutlineNests (Yo w) (tv s) (.int .i64 tab) w := by
  unfold S.bodkinlaw43_OutlineNests
  rw [sLen_str tstr, sBin_gtr, sIf_dec]
  refine ⟨fun _ => endOne hM (Ext.refl w), fun hs => ?_⟩
  have hrl := runes_len s
  refine (dright_spec tab).mono ?_
  rintro u w0 ⟨rfl, q, rfl, hq⟩
  rw [sUn_not, sIf_bool]
  refine ⟨fun _ => endOne hM (Ext.refl _), fun hT => ?_⟩
  have ht : St.Right tab := hq.1 (by simpa using hT)
  refine (rnew_one hM.m (by omega)).mono ?_
  rintro u w1 ⟨e1, b, ps, rfl, hr, hp, hfl⟩
  rw [← hfl] at hrl
  rw [sExtract_0, sExtract_1]
  refine (oranges_spec (tab := tab) (hM.g.ext e1) hr hp).mono ?_
  rintro u w2 ⟨e2, hu⟩
  rcases hu with ⟨h, _⟩ | ⟨_, x, rfl, hx⟩
  · exact absurd ht h
  have E2 := e1.trans e2
  have hxs := hx.sl encG_ok
  have hnl := nls_le ps.flatten
  have hil := inds_len tab ps.flatten
  have hlen := rngs_len ps.flatten (inds tab ps.flatten) (nls ps.flatten + 1)
  have hrise := rngs_rise ps.flatten (inds tab ps.flatten) (nls ps.flatten + 1)
  have hmem := @rngs_mem ps.flatten (inds tab ps.flatten) (nls ps.flatten + 1)
  generalize hwant : rngs ps.flatten (inds tab ps.flatten) (nls ps.flatten + 1) = want at *
  rw [sExtract_0, sExtract_1, sBin_neq, sIf_not]
  refine ⟨fun h => absurd rfl h, fun _ => ?_⟩
  rw [sBin_neq, sIf_not]
  refine ⟨fun h => absurd rfl h, fun _ => ?_⟩
  rw [sLen_sl S.tel_L_outline_Range hxs]
  refine LoopS.intro (fun us w3 => Ext w2 w3 ∧ ∃ i : Nat, us = [.int .i64 i] ∧ i ≤ want.length)
    (fun us _ => match us with | [.int _ a] => (want.length - a).toNat | _ => 0) ⟨Ext.refl _, 0, rfl, Nat.zero_le _⟩ ?_
  rintro us vs w3 ⟨e3, i, rfl, hi⟩
  unfold S.bodkinlaw43_OutlineNests_L1
  have E3 := E2.trans e3
  have hx3 := hxs.ext e3
  rw [Go.Lift.hd, sBin_lss, sIf_dec]
  refine ⟨fun hlt => ?_, fun hge => endOne hM E3⟩
  obtain ⟨x1, hx1⟩ : ∃ x, want[i]? = some x := ⟨_, List.getElem?_eq_getElem (by omega)⟩
  obtain ⟨r, hr1, hr2, hxr⟩ := hmem (List.mem_of_getElem? hx1)
  have hlr := lastI_is (ns := inds tab ps.flatten) (row := r) (by omega)
  have hll := hlr.lt
  rw [hil] at hll
  have hes := end_rise (l := ps.flatten) hr2 (by omega)
  have hee := beh_end (l := ps.flatten) (k := lastI (inds tab ps.flatten) r) (by omega)
  obtain ⟨bb, of, hel, hc⟩ := hx3.el hx1
  rw [sIdxA_sl S.tel_L_outline_Range S.tsz_outline_Range (by omega) hx3 hx1 rfl, hel, sLoad_agg (cs := encG x1) S.tagg_outline_Range hc rfl]
  refine sVar (vs := encG x1) S.tze_outline_Range S.tsz_outline_Range (by decide) rfl rfl (encG_one x1) fun b10 w4 hb10 hs4 e4 hk10 => ?_
  have e24 := e3.trans e4
  have E4 := E3.trans e4
  have hfx : x1.2.2.1 = (endL ps.flatten r : Int) ∧ x1.2.2.2 = (endL ps.flatten (lastI (inds tab ps.flatten) r) : Int) := by rw [hxr]; exact ⟨rfl, rfl⟩
  refine JoinS.intro (fun us w' => Ext w4 w') ?_ ?_
  · refine DrawS.ext ?_
    have E : Ext w4 w4.drew := (Ext.refl w4).drew
    rw [stillS_eq (fun w' h1 K => sFldA_ptr S.tfl_outline_Range_Fold) E, stillS_agg (cs := encP2 x1.2.2.1 x1.2.2.2) S.tagg_api_Span (hk10.cells.sub 2 2) rfl E]
    have fin : ∀ (w5 : World) (v : Value), Ext w4 w5 → Sl w5 v 2 encQ [(x1.2.2.1, x1.2.2.2)] → ∀ {C : World → Prop}, (∀ w', Ext w4 w' → C w') → sCall Tryd.prog S.bodkinref15_New.n [.int .i64 ps.flatten.length, v] w5 fun x51 w => C w ∧
        stillS C w (fun w k => sFld Tryd.prog S.T.bodkinref15_Set x51 2 w k) fun x52 =>
        stillS C w (fun w k => sBin Tryd.prog .neq S.T.int false true x52 (.int .i64 0) w k) fun x53 =>
        sIf x53 (Yo w0 (.bool false) w) (Ext w4 w) := by
      intro w5 v e5 hv C hC
      refine (dnew15_spec (n := ps.flatten.length) hv (by omega) (by rw [hfx.1]; omega) (by rw [hfx.1, hfx.2]; omega) (by rw [hfx.2]; omega)).mono ?_
      rintro u w6 ⟨e6, o, rfl⟩
      have f6 := e5.trans e6
      refine ⟨hC _ f6, ?_⟩
      rw [stillC_eq (fun w' h1 K => sFld_cell (v := .int .i64 0) S.tfd_bodkinref15_Set_Err S.tcell_int rfl) (hC _ f6), stillC_eq (fun w' h1 K => sBin_neq _ _) (hC _ f6), sIf_not]
      exact ⟨fun h => absurd rfl h, fun _ => f6⟩
    refine ⟨?_, ?_⟩
    · refine (rrunes_spec (hr.ext ((e2.trans e24).trans E)) hp).mono ?_
      rintro u w5 ⟨e5, rfl⟩
      have f5 := E.trans e5
      refine ⟨f5, ?_⟩
      refine sBuildSlice_own (n := 1) (enc := encQ) (xs := [(x1.2.2.1, x1.2.2.2)]) (lp := [(0, encP2 x1.2.2.1 x1.2.2.2)]) S.tel_L_api_Span S.tsz_api_Span rfl S.tze_api_Span (by decide) (by decide) encQ_ok rfl rfl fun t w6 ht' ho6 e6 hs6 => ?_
      refine ⟨f5.trans e6, ?_⟩
      exact fin w6 t (f5.trans e6) (ho6.sl encQ_ok) (fun w' h => h)
    · refine sBuildSlice_own (n := 1) (enc := encQ) (xs := [(x1.2.2.1, x1.2.2.2)]) (lp := [(0, encP2 x1.2.2.1 x1.2.2.2)]) S.tel_L_api_Span S.tsz_api_Span rfl S.tze_api_Span (by decide) (by decide) encQ_ok rfl rfl fun t w6 ht' ho6 e6 hs6 => ?_
      have f6 := E.trans e6
      refine ⟨f6, ?_⟩
      refine (rrunes_spec (hr.ext ((e2.trans e24).trans f6)) hp).mono ?_
      rintro u w5 ⟨e5, rfl⟩
      have f5 := f6.trans e5
      refine ⟨f5, ?_⟩
      exact fin w5 t f5 ((ho6.sl encQ_ok).ext e5) (fun w' h => h)
  · rintro us vs w5 e5
    unfold S.bodkinlaw43_OutlineNests_J2
    have e25 := e24.trans e5
    have E5 := E4.trans e5
    have k10 := hk10.ext e5
    have hx5 := hxs.ext e25
    have hcap := sl_cap hx5
    rw [sSlice_h (hi := i) S.tel_L_outline_Range S.tsz_outline_Range (by omega) hx5 rfl (by omega)]
    have p1 : Sl w5 (slV x 4 0 i (capV x)) 4 encG (want.take i) := by
      simpa using hx5.part (lo := 0) (hi := i) (mx := capV x) (by omega) (by omega) (by omega) (Nat.le_refl _)
    have hti : (want.take i).length = i := by rw [List.length_take]; omega
    rw [sLen_sl S.tel_L_outline_Range p1, hti]
    refine LoopS.intro (fun us w6 => Ext w5 w6 ∧ ∃ j : Nat, us = [.int .i64 j] ∧ j ≤ i)
      (fun us _ => match us with | [.int _ a] => (i - a).toNat | _ => 0) ⟨Ext.refl _, 0, rfl, Nat.zero_le _⟩ ?_
    rintro us vs w6 ⟨e6, j, rfl, hj⟩
    unfold S.bodkinlaw43_OutlineNests_L3
    have k6 := hk10.ext (e5.trans e6)
    have p6 := p1.ext e6
    rw [Go.Lift.hd, sBin_lss, sIf_dec]
    refine ⟨fun hlt2 => ?_, fun hge2 => ?_⟩
    · obtain ⟨y, hy⟩ : ∃ y, (want.take i)[j]? = some y := ⟨_, List.getElem?_eq_getElem (by omega)⟩
      have hy2 : want[j]? = some y := by rw [List.getElem?_take, if_pos (by omega)] at hy; exact hy
      obtain ⟨r', hr1', hr2', hyr⟩ := hmem (List.mem_of_getElem? hy2)
      have hlt3 : y.1 < x1.1 := by
        have h1 := (List.getElem?_eq_some_iff.1 hy2)
        have h2 := (List.getElem?_eq_some_iff.1 hx1)
        have := List.pairwise_iff_getElem.1 hrise j i h1.1 h2.1 (by omega)
        rwa [h1.2, h2.2] at this
      have hy1 : y.1 = (r' : Int) ∧ y.2.1 = (lastI (inds tab ps.flatten) r' : Int) := by rw [hyr]; exact ⟨rfl, rfl⟩
      have hx1' : x1.1 = (r : Int) ∧ x1.2.1 = (lastI (inds tab ps.flatten) r : Int) := by rw [hxr]; exact ⟨rfl, rfl⟩
      obtain ⟨b2, o2, hel2, hc2⟩ := p6.el hy
      rw [sIdxA_sl S.tel_L_outline_Range S.tsz_outline_Range (by omega) p6 hy rfl, hel2, sLoad_agg (cs := encG y) S.tagg_outline_Range hc2 rfl]
      refine sVar (vs := encG y) S.tze_outline_Range S.tsz_outline_Range (by decide) rfl rfl (encG_one y) fun b12 w7 hb12 hs7 e7 hk12 => ?_
      have k7 := k6.ext e7
      have e57 := e6.trans e7
      rw [sFldA_ptr S.tfl_outline_Range_Row, sLoad_cell (v := .int .i64 y.1) S.tcell_int (hk12.cells.at 0 rfl), sFldA_ptr S.tfl_outline_Range_Row, sLoad_cell (v := .int .i64 x1.1) S.tcell_int (k7.cells.at 0 rfl), sBin_geq, sIf_dec]
      refine ⟨fun h => by omega, fun _ => ?_⟩
      rw [sFldA_ptr S.tfl_outline_Range_Last, sLoad_cell (v := .int .i64 y.2.1) S.tcell_int (hk12.cells.at 1 rfl), sFldA_ptr S.tfl_outline_Range_Row, sLoad_cell (v := .int .i64 x1.1) S.tcell_int (k7.cells.at 0 rfl), sBin_geq, sIf_dec]
      refine ⟨fun h => ?_, fun _ => ?_⟩
      · have hn := nest (ns := inds tab ps.flatten) (a := r') (b := r) (by omega) (by omega) (by omega) hr2' hr2 (by omega)
        rw [sFldA_ptr S.tfl_outline_Range_Last, sLoad_cell (v := .int .i64 y.2.1) S.tcell_int (hk12.cells.at 1 rfl), sFldA_ptr S.tfl_outline_Range_Last, sLoad_cell (v := .int .i64 x1.2.1) S.tcell_int (k7.cells.at 1 rfl), sBin_lss, sIf_dec]
        refine ⟨fun h => by omega, fun _ => ?_⟩
        rw [sBin_add _ _ ⟨by omega, by omega⟩]
        exact ⟨⟨e57, j + 1, by simp, by omega⟩, by simp only []; omega⟩
      · rw [sBin_add _ _ ⟨by omega, by omega⟩]
        exact ⟨⟨e57, j + 1, by simp, by omega⟩, by simp only []; omega⟩
    · rw [sBin_add _ _ ⟨by omega, by omega⟩]
      exact ⟨⟨e25.trans e6, i + 1, by simp, by omega⟩, by simp only []; omega⟩
end Go.Proofs.YtplpkeoakclobaaDoor

/- The document's rows: spans, points, clipped ones. Conditions: not too long. -/
import Derived.Test.YtglbidiciapcmaaDoorG1
namespace Go.Proofs.YtglbidiciapcmaaDoor
open Go Go.Lift Go.RowKit Go.Txt

abbrev encQ (x : Int × Int) : List Value := encP2 x.1 x.2
theorem encQ_ok : Enc encQ 2 := ⟨fun _ => rfl, fun _ u hu => encP2_one _ _ u hu⟩
noncomputable def spn (l : List Int) (k : Nat) : Int × Int := (beh l k, endL l k)
noncomputable def spans (l : List Int) : List (Int × Int) := (List.range (nls l + 1)).map (spn l)
theorem spans_len (l : List Int) : (spans l).length = nls l + 1 := by simp [spans]
theorem spans_at {l : List Int} {k : Nat} (h : k ≤ nls l) : (spans l)[k]? = some (spn l k) := by
  unfold spans
  rw [List.getElem?_map, List.getElem?_range (by omega)]
  rfl
theorem end_at {l : List Int} {i : Nat} (h : l[i]? = some 10) : endL l (nls (l.take i)) = i := by
  have h1 := nls_all l (i + 1)
  rw [nls_succ h, if_pos rfl] at h1
  unfold endL
  rw [if_pos (by omega), beh_next h]
  omega
theorem dspans_spec {w : World} {v : Value} {l : List Int} (hl : Sl w v 1 encRn l) (hn : l.length ≤ 1000000) : sCall Tryd.prog S.bodkinref08_Spans.n [v] w fun u w' => Ext w w' ∧ Row w' w.heap.size S.T.api_Span 2 u encQ (spans l) := by
  refine S.bodkinref08_Spans.call ?_
  unfold S.bodkinref08_Spans
  have hmx : maxLen = 9223372036854775807 := rfl
  rw [sLen_sl S.tel_L_int32 hl]
  refine LoopS.intro (fun us w1 => Ext w w1 ∧ ∃ (i : Nat) (o : Value), us = [o, .int .i64 (beh l (nls (l.take i))), .int .i64 i] ∧ i ≤ l.length ∧ Row w1 w.heap.size S.T.api_Span 2 o encQ ((List.range (nls (l.take i))).map (spn l)))
    (fun us _ => match us with | [_, _, .int _ a] => (l.length - a).toNat | _ => 0) ⟨Ext.refl w, 0, _, by rw [show nls (l.take 0) = 0 by simp [nls], beh_zero]; rfl, Nat.zero_le _, by rw [show nls (l.take 0) = 0 by simp [nls]]; exact Row.nil _ _ _ _ _⟩ ?_
  rintro us vs w1 ⟨e1, i, o, rfl, hi, ho⟩
  unfold S.bodkinref08_Spans_L1
  have hnl := nls_le (l.take i)
  rw [List.length_take] at hnl
  have hna := nls_all l i
  rw [Go.Lift.hd, Go.Lift.tl, Go.Lift.hd, Go.Lift.tl, Go.Lift.hd, sBin_lss, sIf_dec]
  refine ⟨fun hlt => ?_, fun hge => ?_⟩
  · obtain ⟨r, hr⟩ : ∃ r, l[i]? = some r := ⟨_, List.getElem?_eq_getElem (by omega)⟩
    obtain ⟨b, of, hel, hc⟩ := (hl.ext e1).el hr
    have hns := nls_succ hr
    rw [sIdxA_sl S.tel_L_int32 S.tsz_int32 (by omega) (hl.ext e1) hr rfl, hel, sLoad_cell (v := .int .i32 r) S.tcell_int32 (hc.fst rfl), sBin_eql, sIf_dec]
    refine ⟨fun h10 => ?_, fun h10 => ?_⟩
    · subst h10
      rw [if_pos rfl] at hns
      have hsp : spn l (nls (l.take i)) = ((beh l (nls (l.take i)) : Int), (i : Int)) := by unfold spn; rw [end_at hr]
      rw [sBuild_of (cs := encP2 (beh l (nls (l.take i))) i) (lp := [(0, [.int .i64 (beh l (nls (l.take i)))]), (1, [.int .i64 i])]) S.tze_api_Span S.tpl_api_Span rfl rfl]
      refine sBuildSlice_own (n := 1) (enc := encQ) (xs := [((beh l (nls (l.take i)) : Int), (i : Int))]) (lp := [(0, encP2 (beh l (nls (l.take i))) i)]) S.tel_L_api_Span S.tsz_api_Span rfl S.tze_api_Span (by decide) (by decide) encQ_ok rfl rfl fun t w2 ht ho2 e2 hs2 => ?_
      have E2 := e1.trans e2
      refine sAppend_row S.tel_L_api_Span S.tsz_api_Span (by decide) S.tze_api_Span rfl encQ_ok (ho.ext e2) E2.size (ho2.sl encQ_ok) (by simp; omega) (by rw [S.tby_api_Span]; simp; omega) fun o' w3 ho3 hg3 _ => ?_
      have E3 := E2.wr hg3 fun g hg => ((ho.ext e2).lt g hg).1
      rw [sBin_add _ _ ⟨by omega, by omega⟩, sBin_add _ _ ⟨by omega, by omega⟩]
      refine ⟨⟨E3, i + 1, o', by rw [hns, beh_next hr]; simp, by omega, ?_⟩, by simp only []; omega⟩
      rw [hns, List.range_succ, List.map_append, List.map_singleton, hsp]
      exact ho3
    · rw [if_neg h10] at hns
      rw [sBin_add _ _ ⟨by omega, by omega⟩]
      exact ⟨⟨e1, i + 1, o, by rw [hns]; simp, by omega, by rw [hns]; exact ho⟩, by simp only []; omega⟩
  · obtain rfl : i = l.length := by omega
    rw [List.take_length] at ho hnl ⊢
    have hsp : spn l (nls l) = ((beh l (nls l) : Int), (l.length : Int)) := by unfold spn endL; rw [if_neg (by omega)]
    rw [sLen_sl S.tel_L_int32 (hl.ext e1), sBuild_of (cs := encP2 (beh l (nls l)) l.length) (lp := [(0, [.int .i64 (beh l (nls l))]), (1, [.int .i64 l.length])]) S.tze_api_Span S.tpl_api_Span rfl rfl]
    refine sBuildSlice_own (n := 1) (enc := encQ) (xs := [((beh l (nls l) : Int), (l.length : Int))]) (lp := [(0, encP2 (beh l (nls l)) l.length)]) S.tel_L_api_Span S.tsz_api_Span rfl S.tze_api_Span (by decide) (by decide) encQ_ok rfl rfl fun t w2 ht ho2 e2 hs2 => ?_
    have E2 := e1.trans e2
    refine sAppend_row S.tel_L_api_Span S.tsz_api_Span (by decide) S.tze_api_Span rfl encQ_ok (ho.ext e2) E2.size (ho2.sl encQ_ok) (by simp; omega) (by rw [S.tby_api_Span]; simp; omega) fun o' w3 ho3 hg3 _ => ?_
    refine ⟨E2.wr hg3 fun g hg => ((ho.ext e2).lt g hg).1, ?_⟩
    unfold spans
    rw [List.range_succ, List.map_append, List.map_singleton, hsp]
    exact ho3
theorem pt_zero (l : List Int) : ptR l 0 = 0 ∧ ptC l 0 = 0 := by
  unfold ptR ptC
  rw [show nls (l.take 0) = 0 by simp [nls], beh_zero]
  exact ⟨rfl, rfl⟩
theorem pt_break {l : List Int} {i : Nat} (h : l[i]? = some 10) : ptR l (i + 1) = ptR l i + 1 ∧ ptC l (i + 1) = 0 := by
  unfold ptR ptC
  rw [nls_succ h, if_pos rfl, beh_next h]
  omega
theorem pt_on {l : List Int} {i : Nat} {r : Int} (h : l[i]? = some r) (hr : r ≠ 10) : ptR l (i + 1) = ptR l i ∧ ptC l (i + 1) = ptC l i + 1 := by
  unfold ptR ptC
  rw [nls_succ h, if_neg hr, Nat.add_zero]
  omega
theorem pt_bd {l : List Int} {i : Nat} (h : i ≤ l.length) : 0 ≤ ptR l i ∧ ptR l i ≤ l.length ∧ 0 ≤ ptC l i ∧ ptC l i ≤ i := by
  have h1 := at_end h
  have h2 := nls_le (l.take i)
  rw [List.length_take] at h2
  unfold ptR ptC
  omega
theorem dpointat_spec {w : World} {v : Value} {l : List Int} {A : Nat} (hl : Sl w v 1 encRn l) (hn : l.length ≤ 1000000) (hA : A ≤ l.length) : sCall Tryd.prog S.bodkinref08_PointAt.n [v, .int .i64 A] w fun u w' => Ext w w' ∧ u = .agg (encP2 (ptR l A) (ptC l A)).toArray := by
  refine S.bodkinref08_PointAt.call ?_
  unfold S.bodkinref08_PointAt
  refine sAlloc_new S.tze_api_Point fun b4 w1 hb4 hs1 e1 hk4 => ?_
  rw [sBuild_of (cs := encP2 0 0) (lp := []) S.tze_api_Point S.tpl_api_Point rfl rfl]
  refine sVar (vs := encP2 0 0) S.tze_api_Point S.tsz_api_Point (by decide) rfl rfl (encP2_one _ _) fun b5 w2 hb5 hs2 e2 hk5 => ?_
  have E2 := e1.trans e2
  have s1 := e1.size
  have s2 := e2.size
  have hl2 := hl.ext E2
  have hcap := sl_cap hl2
  rw [sSlice_h (hi := A) S.tel_L_int32 S.tsz_int32 (by omega) hl2 rfl hA]
  have p1 : Sl w2 (slV v 1 0 A (capV v)) 1 encRn (l.take A) := by
    simpa using hl2.part (lo := 0) (hi := A) (mx := capV v) (by omega) hA (by omega) (Nat.le_refl _)
  have hlen : (l.take A).length = A := by rw [List.length_take]; omega
  rw [sLen_sl S.tel_L_int32 p1, hlen]
  obtain ⟨z1, z2⟩ := pt_zero l
  refine LoopS.intro (fun us w3 => Wr b5 w2 w3 ∧ ∃ i : Nat, us = [.int .i64 i] ∧ i ≤ A ∧ Blk w3 b5 (encP2 (ptR l i) (ptC l i)))
    (fun us _ => match us with | [.int _ a] => (A - a).toNat | _ => 0) ⟨grown_of_ext (Ext.refl w2) _, 0, rfl, Nat.zero_le _, by rw [z1, z2]; exact hk5⟩ ?_
  rintro us vs w3 ⟨g3, i, rfl, hi, k5⟩
  unfold S.bodkinref08_PointAt_L1
  have hbd := pt_bd (l := l) (i := i) (by omega)
  have e03 : Ext w w3 := E2.wr g3 (by rintro _ ⟨⟩; omega)
  have hl3 : Sl w3 (slV v 1 0 A (capV v)) 1 encRn (l.take A) := by
    have hc3 := sl_cap (hl.ext e03)
    simpa using (hl.ext e03).part (lo := 0) (hi := A) (mx := capV v) (by omega) hA (by omega) (Nat.le_refl _)
  rw [Go.Lift.hd, sBin_lss, sIf_dec]
  refine ⟨fun hlt => ?_, fun hge => ?_⟩
  · obtain ⟨r, hr⟩ : ∃ r, (l.take A)[i]? = some r := ⟨_, List.getElem?_eq_getElem (by omega)⟩
    have hr2 : l[i]? = some r := by rw [List.getElem?_take, if_pos (by omega)] at hr; exact hr
    obtain ⟨b, of, hel, hc⟩ := hl3.el hr
    rw [sIdxA_sl S.tel_L_int32 S.tsz_int32 (by omega) hl3 hr rfl, hel, sLoad_cell (v := .int .i32 r) S.tcell_int32 (hc.fst rfl), sBin_eql, sIf_dec]
    refine ⟨fun h10 => ?_, fun h10 => ?_⟩
    · subst h10
      obtain ⟨q1, q2⟩ := pt_break hr2
      rw [sFldA_ptr S.tfl_api_Point_Row, sLoad_cell (v := .int .i64 (ptR l i)) S.tcell_int (k5.cells.at 0 rfl), sBin_add _ _ ⟨by omega, by omega⟩, sBuild_of (cs := encP2 (ptR l i + 1) 0) (lp := [(0, [.int .i64 (ptR l i + 1)])]) S.tze_api_Point S.tpl_api_Point rfl rfl]
      refine sStore_blk S.tsz_api_Point (by decide) k5 (vs := encP2 (ptR l i + 1) 0) rfl rfl (by simp) (encP2_one _ _) fun w4 hs4 hg4 hk4 => ?_
      rw [sBin_add _ _ ⟨by omega, by omega⟩]
      exact ⟨⟨grown_trans g3 hg4, i + 1, by simp, by omega, by rw [q1, q2]; exact hk4⟩, by simp only []; omega⟩
    · obtain ⟨q1, q2⟩ := pt_on hr2 h10
      rw [sFldA_ptr S.tfl_api_Point_Col, sLoad_cell (v := .int .i64 (ptC l i)) S.tcell_int (k5.cells.at 1 rfl), sBin_add _ _ ⟨by omega, by omega⟩, sFldA_ptr S.tfl_api_Point_Col]
      refine sStore_blk (vs := [.int .i64 (ptC l i + 1)]) S.tsz_int (by decide) k5 rfl rfl (by simp) (by simp; rfl) fun w4 hs4 hg4 hk4 => ?_
      rw [sBin_add _ _ ⟨by omega, by omega⟩]
      exact ⟨⟨grown_trans g3 hg4, i + 1, by simp, by omega, by rw [q1, q2]; exact hk4⟩, by simp only []; omega⟩
  · obtain rfl : i = A := by omega
    have k4 : Blk w3 b4 _ := (hk4.ext e2).wr g3 (by intro e; cases e; omega)
    rw [sLoad_agg (cs := encP2 (ptR l i) (ptC l i)) S.tagg_api_Point k5.cells rfl]
    refine sStore_blk S.tsz_api_Point (by decide) k4 (vs := encP2 (ptR l i) (ptC l i)) rfl rfl (by simp) (encP2_one _ _) fun w4 hs4 hg4 hk4 => ?_
    rw [sLoad_agg (cs := encP2 (ptR l i) (ptC l i)) S.tagg_api_Point hk4.cells rfl]
    exact ⟨rfl, e03.wr hg4 (by rintro _ ⟨⟩; omega), rfl⟩
theorem dis_spec {w : World} {v : Value} {l : List Int} {r c : Int} (hl : Sl w v 1 encRn l) (hn : l.length ≤ 1000000) : sCall Tryd.prog S.bodkinref08_Is.n [v, .agg (encP2 r c).toArray] w fun u w' => Ext w w' ∧ ∃ q : Bool, u = .bool q ∧ (q = true ↔ IsP l r c) := by
  refine S.bodkinref08_Is.call ?_
  unfold S.bodkinref08_Is
  refine sBox_new (cs := encP2 r c) rfl fun b3 w1 hb3 hs1 e1 hk3 => ?_
  refine (dspans_spec (hl.ext e1) hn).mono ?_
  rintro s w2 ⟨e2, hs⟩
  have k3 := hk3.ext e2
  have hsl := hs.sl encQ_ok
  have E2 := e1.trans e2
  have hnl := nls_le l
  refine DrawS.ext ?_
  have E : Ext w2 w2.drew := (Ext.refl w2).drew
  have hE := E2.trans E
  rw [stillS_eq (fun w1 h1 K => sFldA_ptr S.tfl_api_Point_Row) E, stillS_cell (v := .int .i64 r) S.tcell_int (k3.cells.at 0 rfl) E, stillS_eq (fun w1 h1 K => sBin_geq _ _) E, sIf_dec]
  refine ⟨fun h0 => ?_, fun h => ⟨hE, false, rfl, by simp only [Bool.false_eq_true, false_iff]; exact fun h1 => h h1.1.1⟩⟩
  rw [stillS_eq (fun w1 h1 K => sFldA_ptr S.tfl_api_Point_Row) E, stillS_cell (v := .int .i64 r) S.tcell_int (k3.cells.at 0 rfl) E, stillS_eq (fun w1 h1 K => sLen_sl S.tel_L_api_Span (hsl.ext h1)) E, spans_len, stillS_eq (fun w1 h1 K => sBin_lss _ _) E, sIf_dec]
  refine ⟨fun h1 => ?_, fun h => ⟨hE, false, rfl, by simp only [Bool.false_eq_true, false_iff]; exact fun h1 => h (by have := h1.1.2; omega)⟩⟩
  rw [stillS_eq (fun w1 h1 K => sFldA_ptr S.tfl_api_Point_Col) E, stillS_cell (v := .int .i64 c) S.tcell_int (k3.cells.at 1 rfl) E, stillS_eq (fun w1 h1 K => sBin_geq _ _) E, sIf_dec]
  refine ⟨fun h2 => ?_, fun h => ⟨hE, false, rfl, by simp only [Bool.false_eq_true, false_iff]; exact fun h1 => h h1.2.1⟩⟩
  have hk : r.toNat ≤ nls l := by omega
  have hx := spans_at hk
  have hbe := beh_end hk
  obtain ⟨bb, of, hel, hc⟩ := hsl.el hx
  rw [stillS_eq (fun w1 h1 K => sFldA_ptr S.tfl_api_Point_Col) E, stillS_cell (v := .int .i64 c) S.tcell_int (k3.cells.at 1 rfl) E, stillS_eq (fun w1 h1 K => sFldA_ptr S.tfl_api_Point_Row) E, stillS_cell (v := .int .i64 r) S.tcell_int (k3.cells.at 0 rfl) E,
    stillS_eq (fun w1 h1 K => sIdxA_sl (z := r) S.tel_L_api_Span S.tsz_api_Span (by omega) (hsl.ext h1) hx (by omega)) E, hel, stillS_eq (fun w1 h1 K => sFldA_ptr S.tfl_api_Span_To) E, stillS_cell (v := .int .i64 (endL l r.toNat)) S.tcell_int (hc.at 1 rfl) E,
    stillS_eq (fun w1 h1 K => sFldA_ptr S.tfl_api_Point_Row) E, stillS_cell (v := .int .i64 r) S.tcell_int (k3.cells.at 0 rfl) E,
    stillS_eq (fun w1 h1 K => sIdxA_sl (z := r) S.tel_L_api_Span S.tsz_api_Span (by omega) (hsl.ext h1) hx (by omega)) E, hel, stillS_eq (fun w1 h1 K => sFldA_ptr S.tfl_api_Span_From) E, stillS_cell (v := .int .i64 (beh l r.toNat)) S.tcell_int (hc.at 0 rfl) E,
    stillS_eq (fun w1 h1 K => sBin_sub _ _ ⟨by omega, by omega⟩) E, stillS_eq (fun w1 h1 K => sBin_leq _ _) E]
  refine ⟨hE, _, rfl, ?_⟩
  rw [decide_eq_true_eq]
  unfold IsP
  omega
theorem dclip_spec {w : World} {v : Value} {l : List Int} {r c : Int} (hl : Sl w v 1 encRn l) (hn : l.length ≤ 1000000) : sCall Tryd.prog S.bodkinref08_Clip.n [v, .agg (encP2 r c).toArray] w fun u w' => Ext w w' ∧ u = .agg (encP2 (clR l r c) (clC l r c)).toArray := by
  refine S.bodkinref08_Clip.call ?_
  unfold S.bodkinref08_Clip
  refine sBox_new (cs := encP2 r c) rfl fun b3 w1 hb3 hs1 e1 hk3 => ?_
  refine sAlloc_new S.tze_api_Point fun b4 w2 hb4 hs2 e2 hk4 => ?_
  have E2 := e1.trans e2
  have s1 := e1.size
  refine (dspans_spec (hl.ext E2) hn).mono ?_
  rintro s w3 ⟨e3, hs⟩
  have E3 := E2.trans e3
  have k3 := (hk3.ext e2).ext e3
  have hsl := hs.sl encQ_ok
  have hnl := nls_le l
  have fin : ∀ (w5 : World) (a b : Int), Ext w3 w5 → clR l r c = a → clC l r c = b → sStore Tryd.prog S.T.api_Point (.pointer (some ⟨b4, 0, none⟩)) (.agg (encP2 a b).toArray) w5 (fun w_1 => sLoad Tryd.prog S.T.api_Point (.pointer (some ⟨b4, 0, none⟩)) w_1 fun v w' => w' = w_1 ∧ (fun u w' => Ext w w' ∧ u = .agg (encP2 (clR l r c) (clC l r c)).toArray) v w_1) := by
    intro w5 a b e5 ha hb
    subst ha hb
    refine sStore_blk S.tsz_api_Point (by decide) ((hk4.ext e3).ext e5) (vs := encP2 (clR l r c) (clC l r c)) rfl rfl (by simp) (encP2_one _ _) fun w6 hs6 hg6 hk6 => ?_
    rw [sLoad_agg (cs := encP2 (clR l r c) (clC l r c)) S.tagg_api_Point hk6.cells rfl]
    exact ⟨rfl, (E3.trans e5).wr hg6 (by rintro _ ⟨⟩; omega), rfl⟩
  rw [sFldA_ptr S.tfl_api_Point_Row, sLoad_cell (v := .int .i64 r) S.tcell_int (k3.cells.at 0 rfl), sBin_lss, sIf_dec]
  refine ⟨fun hr => ?_, fun hr => ?_⟩
  · rw [sBuild_of (cs := encP2 0 0) (lp := []) S.tze_api_Point S.tpl_api_Point rfl rfl]
    exact fin w3 0 0 (Ext.refl _) (by unfold clR; rw [if_pos hr]) (by unfold clC; rw [if_pos hr])
  rw [sFldA_ptr S.tfl_api_Point_Row, sLoad_cell (v := .int .i64 r) S.tcell_int (k3.cells.at 0 rfl), sLen_sl S.tel_L_api_Span hsl, spans_len, sBin_geq, sIf_dec]
  refine ⟨fun hge => ?_, fun hlt => ?_⟩
  · have hgt : r > nls l := by omega
    rw [sLen_sl S.tel_L_int32 (hl.ext E3)]
    refine (dpointat_spec (A := l.length) (hl.ext E3) hn (Nat.le_refl _)).mono ?_
    rintro u w4 ⟨e4, rfl⟩
    exact fin w4 _ _ e4 (by unfold clR; rw [if_neg hr, if_pos hgt, ptR_all]) (by unfold clC; rw [if_neg hr, if_pos hgt])
  have hng : ¬ r > nls l := by omega
  have hk : r.toNat ≤ nls l := by omega
  have hx := spans_at hk
  have hbe := beh_end hk
  obtain ⟨bb, of, hel, hc⟩ := hsl.el hx
  have hcr : clR l r c = r := by unfold clR; rw [if_neg hr, if_neg hng]
  refine DrawS.ext ?_
  have E : Ext w3 w3.drew := (Ext.refl w3).drew
  rw [stillS_eq (fun w1 h1 K => sFldA_ptr S.tfl_api_Point_Row) E, stillS_cell (v := .int .i64 r) S.tcell_int (k3.cells.at 0 rfl) E,
    stillS_eq (fun w1 h1 K => sIdxA_sl (z := r) S.tel_L_api_Span S.tsz_api_Span (by omega) (hsl.ext h1) hx (by omega)) E, hel, stillS_eq (fun w1 h1 K => sFldA_ptr S.tfl_api_Span_To) E, stillS_cell (v := .int .i64 (endL l r.toNat)) S.tcell_int (hc.at 1 rfl) E,
    stillS_eq (fun w1 h1 K => sFldA_ptr S.tfl_api_Point_Row) E, stillS_cell (v := .int .i64 r) S.tcell_int (k3.cells.at 0 rfl) E,
    stillS_eq (fun w1 h1 K => sIdxA_sl (z := r) S.tel_L_api_Span S.tsz_api_Span (by omega) (hsl.ext h1) hx (by omega)) E, hel, stillS_eq (fun w1 h1 K => sFldA_ptr S.tfl_api_Span_From) E, stillS_cell (v := .int .i64 (beh l r.toNat)) S.tcell_int (hc.at 0 rfl) E,
    stillS_eq (fun w1 h1 K => sBin_sub _ _ ⟨by omega, by omega⟩) E]
  have k3d := k3.ext E
  rw [sFldA_ptr S.tfl_api_Point_Col, sLoad_cell (v := .int .i64 c) S.tcell_int (k3d.cells.at 1 rfl), sBin_lss, sIf_dec]
  refine ⟨fun hc0 => ?_, fun hc0 => ?_⟩
  · rw [sFldA_ptr S.tfl_api_Point_Row, sLoad_cell (v := .int .i64 r) S.tcell_int (k3d.cells.at 0 rfl), sBuild_of (cs := encP2 r 0) (lp := [(0, [.int .i64 r])]) S.tze_api_Point S.tpl_api_Point rfl rfl]
    exact fin _ _ _ E hcr (by unfold clC; rw [if_neg hr, if_neg hng, if_pos hc0])
  rw [sFldA_ptr S.tfl_api_Point_Col, sLoad_cell (v := .int .i64 c) S.tcell_int (k3d.cells.at 1 rfl), sBin_gtr, sIf_dec]
  refine ⟨fun hc1 => ?_, fun hc1 => ?_⟩
  · rw [sFldA_ptr S.tfl_api_Point_Row, sLoad_cell (v := .int .i64 r) S.tcell_int (k3d.cells.at 0 rfl), sBuild_of (cs := encP2 r ((endL l r.toNat : Int) - beh l r.toNat)) (lp := [(0, [.int .i64 r]), (1, [.int .i64 ((endL l r.toNat : Int) - beh l r.toNat)])]) S.tze_api_Point S.tpl_api_Point rfl rfl]
    exact fin _ _ _ E hcr (by unfold clC; rw [if_neg hr, if_neg hng, if_neg hc0, if_pos hc1])
  · rw [sLoad_agg (cs := encP2 r c) S.tagg_api_Point k3d.cells rfl]
    exact fin _ _ _ E hcr (by unfold clC; rw [if_neg hr, if_neg hng, if_neg hc0, if_neg hc1])
end Go.Proofs.YtglbidiciapcmaaDoor

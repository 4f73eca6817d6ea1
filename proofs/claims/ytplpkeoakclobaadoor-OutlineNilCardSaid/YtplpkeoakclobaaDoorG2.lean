/- The document's rows: spans, points, clipped ones. Conditions: not too long. -/
import Derived.Test.YtplpkeoakclobaaDoorG1
namespace Go.Proofs.YtplpkeoakclobaaDoor
open Go Go.Lift Go.RowKit Go.Txt

abbrev encQ (x : Int × Int) : List Value := encP2 x.1 x.2
theorem encQ_ok : Enc encQ 2 := ⟨fun _ => rfl, fun _ u hu => encP2_one _ _ u hu⟩
noncomputable def spn (l : List Int) (k : Nat) : Int × Int := (beh l k, endL l k)
noncomputable def spans (l : List Int) : List (Int × Int) := (List.range (nls l + 1)).map (spn l)
theorem spans_len (l : List Int) : (spans l).length = nls l + 1 := by simp [spans]
theorem spans_at {l : List Int} {k : Nat} (h : k ≤ nls l) : (spans l)[k]? = some (spn l k) := by
  unfold spans
  rw [List.getElem?_map, List.getElem?_range (by omega)]
  rfl
theorem end_at {l : List Int} {i : Nat} (h : l[i]? = some 10) : endL l (nls (l.take i)) = i := by
  have h1 := nls_all l (i + 1)
  rw [nls_succ h, if_pos rfl] at h1
  unfold endL
  rw [if_pos (by omega), beh_next h]
  omega
theorem dspans_spec {w : World} {v : Value} {l : List Int} (hl : Sl w v 1 encRn l) (hn : l.length ≤ 1000000) : sCall Tryd.prog S.bodkinref08_Spans.n [v] w fun u w' => Ext w w' ∧ Row w' w.heap.size S.T.api_Span 2 u encQ (spans l) := by
  refine S.bodkinref08_Spans.call ?_
  unfold S.bodkinref08_Spans
  have hmx : maxLen = 9223372036854775807 := rfl
  rw [sLen_sl S.tel_L_int32 hl]
  refine LoopS.intro (fun us w1 => Ext w w1 ∧ ∃ (i : Nat) (o : Value), us = [o, .int .i64 (beh l (nls (l.take i))), .int .i64 i] ∧ i ≤ l.length ∧ Row w1 w.heap.size S.T.api_Span 2 o encQ ((List.range (nls (l.take i))).map (spn l)))
    (fun us _ => match us with | [_, _, .int _ a] => (l.length - a).toNat | _ => 0) ⟨Ext.refl w, 0, _, by rw [show nls (l.take 0) = 0 by simp [nls], beh_zero]; rfl, Nat.zero_le _, by rw [show nls (l.take 0) = 0 by simp [nls]]; exact Row.nil _ _ _ _ _⟩ ?_
  rintro us vs w1 ⟨e1, i, o, rfl, hi, ho⟩
  unfold S.bodkinref08_Spans_L1
  have hnl := nls_le (l.take i)
  rw [List.length_take] at hnl
  have hna := nls_all l i
  rw [Go.Lift.hd, Go.Lift.tl, Go.Lift.hd, Go.Lift.tl, Go.Lift.hd, sBin_lss, sIf_dec]
  refine ⟨fun hlt => ?_, fun hge => ?_⟩
  · obtain ⟨r, hr⟩ : ∃ r, l[i]? = some r := ⟨_, List.getElem?_eq_getElem (by omega)⟩
    obtain ⟨b, of, hel, hc⟩ := (hl.ext e1).el hr
    have hns := nls_succ hr
    rw [sIdxA_sl S.tel_L_int32 S.tsz_int32 (by omega) (hl.ext e1) hr rfl, hel, sLoad_cell (v := .int .i32 r) S.tcell_int32 (hc.fst rfl), sBin_eql, sIf_dec]
    refine ⟨fun h10 => ?_, fun h10 => ?_⟩
    · subst h10
      rw [if_pos rfl] at hns
      have hsp : spn l (nls (l.take i)) = ((beh l (nls (l.take i)) : Int), (i : Int)) := by unfold spn; rw [end_at hr]
      rw [sBuild_of (cs := encP2 (beh l (nls (l.take i))) i) (lp := [(0, [.int .i64 (beh l (nls (l.take i)))]), (1, [.int .i64 i])]) S.tze_api_Span S.tpl_api_Span rfl rfl]
      refine sBuildSlice_own (n := 1) (enc := encQ) (xs := [((beh l (nls (l.take i)) : Int), (i : Int))]) (lp := [(0, encP2 (beh l (nls (l.take i))) i)]) S.tel_L_api_Span S.tsz_api_Span rfl S.tze_api_Span (by decide) (by decide) encQ_ok rfl rfl fun t w2 ht ho2 e2 hs2 => ?_
      have E2 := e1.trans e2
      refine sAppend_row S.tel_L_api_Span S.tsz_api_Span (by decide) S.tze_api_Span rfl encQ_ok (ho.ext e2) E2.size (ho2.sl encQ_ok) (by simp; omega) (by rw [S.tby_api_Span]; simp; omega) fun o' w3 ho3 hg3 _ => ?_
      have E3 := E2.wr hg3 fun g hg => ((ho.ext e2).lt g hg).1
      rw [sBin_add _ _ ⟨by omega, by omega⟩, sBin_add _ _ ⟨by omega, by omega⟩]
      refine ⟨⟨E3, i + 1, o', by rw [hns, beh_next hr]; simp, by omega, ?_⟩, by simp only []; omega⟩
      rw [hns, List.range_succ, List.map_append, List.map_singleton, hsp]
      exact ho3
    · rw [if_neg h10] at hns
      rw [sBin_add _ _ ⟨by omega, by omega⟩]
      exact ⟨⟨e1, i + 1, o, by rw [hns]; simp, by omega, by rw [hns]; exact ho⟩, by simp only []; omega⟩
  · obtain rfl : i = l.length := by omega
    rw [List.take_length] at ho hnl ⊢
    have hsp : spn l (nls l) = ((beh l (nls l) : Int), (l.length : Int)) := by unfold spn endL; rw [if_neg (by omega)]
    rw [sLen_sl S.tel_L_int32 (hl.ext e1), sBuild_of (cs := encP2 (beh l (nls l)) l.length) (lp := [(0, [.int .i64 (beh l (nls l))]), (1, [.int .i64 l.length])]) S.tze_api_Span S.tpl_api_Span rfl rfl]
    refine sBuildSlice_own (n := 1) (enc := encQ) (xs := [((beh l (nls l) : Int), (l.length : Int))]) (lp := [(0, encP2 (beh l (nls l)) l.length)]) S.tel_L_api_Span S.tsz_api_Span rfl S.tze_api_Span (by decide) (by decide) encQ_ok rfl rfl fun t w2 ht ho2 e2 hs2 => ?_
    have E2 := e1.trans e2
    refine sAppend_row S.tel_L_api_Span S.tsz_api_Span (by decide) S.tze_api_Span rfl encQ_ok (ho.ext e2) E2.size (ho2.sl encQ_ok) (by simp; omega) (by rw [S.tby_api_Span]; simp; omega) fun o' w3 ho3 hg3 _ => ?_
    refine ⟨E2.wr hg3 fun g hg => ((ho.ext e2).lt g hg).1, ?_⟩
    unfold spans
    rw [List.range_succ, List.map_append, List.map_singleton, hsp]
    exact ho3
theorem pt_zero (l : List Int) : ptR l 0 = 0 ∧ ptC l 0 = 0 := by
  unfold ptR ptC
  rw [show nls (l.take 0) = 0 by simp [nls], beh_zero]
  exact ⟨rfl, rfl⟩
theorem pt_break {l : List Int} {i : Nat} (h : l[i]? = some 10) : ptR l (i + 1) = ptR l i + 1 ∧ ptC l (i + 1) = 0 := by
  unfold ptR ptC
  rw [nls_succ h, if_pos rfl, beh_next h]
  omega
theorem pt_on {l : List Int} {i : Nat} {r : Int} (h : l[i]? = some r) (hr : r ≠ 10) : ptR l (i + 1) = ptR l i ∧ ptC l (i + 1) = ptC l i + 1 := by
  unfold ptR ptC
  rw [nls_succ h, if_neg hr, Nat.add_zero]
  omega
theorem pt_bd {l : List Int} {i : Nat} (h : i ≤ l.length) : 0 ≤ ptR l i ∧ ptR l i ≤ l.length ∧ 0 ≤ ptC l i ∧ ptC l i ≤ i := by
  have h1 := at_end h
  have h2 := nls_le (l.take i)
  rw [List.length_take] at h2
  unfold ptR ptC
  omega
end Go.Proofs.YtplpkeoakclobaaDoor

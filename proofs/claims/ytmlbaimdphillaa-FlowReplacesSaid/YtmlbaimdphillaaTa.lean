/- Trees: one item, by its number. No conditions but those of memory and size. -/
import Derived.Test.YtmlbaimdphillaaTi
import Derived.Test.YtmlbaimdphillaaLx
namespace Go.Proofs.Ytmlbaimdphillaa
open Go Go.Lift Go.RowKit

theorem tat_spec {w : World} {t : Value} {xs : List It} {i : Int} (ht : Tp w t xs) (hg : Gd xs) :
    sCall Try.prog S.tree_Tree_At.n [t, .int .i64 i] w fun u w' => Ext w w' ∧ ((¬ (0 ≤ i ∧ i < xs.length) ∧ u = .tuple #[.agg (encT zeroIt).toArray, .int .i64 1]) ∨
      (0 ≤ i ∧ ∃ x, xs[i.toNat]? = some x ∧ u = .tuple #[.agg (encT x).toArray, .int .i64 0])) := by
  refine S.tree_Tree_At.call ?_
  unfold S.tree_Tree_At
  have hgn := hg.n
  refine sAlloc_new S.tze_item_Item fun b w1 hb hs1 e1 hk => ?_
  refine JoinS.intro (fun us w' => Ext w1 w' ∧ ∃ q : Bool, us = [.bool q] ∧ (q = true ↔ ¬ (0 ≤ i ∧ i < xs.length))) ?_ ?_
  · rw [sBin_lss, sIf_dec]
    refine ⟨fun h => ⟨Ext.refl _, true, rfl, by simp; omega⟩, fun h => ?_⟩
    refine (tsum_spec (ht.ext e1)).mono ?_
    rintro u w2 ⟨e2, rfl⟩
    rw [sumN, sBin_geq]
    exact ⟨e2, _, rfl, by rw [decide_eq_true_eq]; omega⟩
  rintro us vs w2 ⟨e2, q, rfl, hq⟩
  unfold S.tree_Tree_At_J1
  have E2 := e1.trans e2
  have k2 := hk.ext e2
  have fin : ∀ (x : It) (n : Nat) w3, Ext w2 w3 → ((n = 1 ∧ x = zeroIt ∧ ¬ (0 ≤ i ∧ i < xs.length)) ∨ (n = 0 ∧ 0 ≤ i ∧ xs[i.toNat]? = some x)) →
      sStore Try.prog S.T.item_Item (.pointer (some ⟨b, 0, none⟩)) (.agg (encT x).toArray) w3 fun w4 => sLoad Try.prog S.T.item_Item (.pointer (some ⟨b, 0, none⟩)) w4 fun v w' => w' = w4 ∧ (Ext w w4 ∧
        ((¬ (0 ≤ i ∧ i < xs.length) ∧ (.tuple #[v, .int .i64 n] : Value) = .tuple #[.agg (encT zeroIt).toArray, .int .i64 1]) ∨
        (0 ≤ i ∧ ∃ x, xs[i.toNat]? = some x ∧ (.tuple #[v, .int .i64 n] : Value) = .tuple #[.agg (encT x).toArray, .int .i64 0]))) := by
    intro x n w3 e3 hn
    refine sStore_blk S.tsz_item_Item (by decide) (k2.ext e3) (vs := encT x) rfl rfl (by simp) (encT_ok.one x) fun w4 hs4 hg4 hk4 => ?_
    rw [sLoad_agg (cs := encT x) S.tagg_item_Item hk4.cells rfl]
    have hsz := e1.size
    refine ⟨rfl, (E2.trans e3).wr hg4 (by rintro _ ⟨⟩; omega), ?_⟩
    rcases hn with ⟨rfl, rfl, h⟩ | ⟨rfl, h0, h⟩
    · exact .inl ⟨h, rfl⟩
    · exact .inr ⟨h0, x, h, rfl⟩
  rw [Go.Lift.hd, sIf_bool]
  refine ⟨fun hT => ?_, fun hF => ?_⟩
  · rw [sBuild_of (cs := encT zeroIt) (lp := []) S.tze_item_Item S.tpl_item_Item rfl rfl]
    exact fin zeroIt 1 w2 (Ext.refl _) (.inl ⟨rfl, rfl, hq.1 hT⟩)
  have hin : 0 ≤ i ∧ i < xs.length := Classical.byContradiction fun h => by rw [hq.2 h] at hF; cases hF
  refine (top_spec (ht.ext E2)).mono ?_
  rintro r w3 ⟨rfl, hr⟩
  obtain ⟨h, k, c, rfl, hd⟩ : ∃ h k c, r = ndv k ∧ Nd w3 h k c xs := by
    rcases hr with ⟨_, h⟩ | h
    · subst h; simp at hin; omega
    · exact h
  refine LoopS.ix (fun n us w4 => Ext w3 w4 ∧ ∃ (h j : Nat) (k : Nv) (c : Nat) (ys : List It), n = h + 1 ∧ us = [.int .i64 j, ndv k] ∧ Nd w4 h k c ys ∧ ys.length ≤ 1000000 ∧ j < ys.length ∧ ys[j]? = xs[i.toNat]?)
    ⟨_, Ext.refl _, h, i.toNat, k, c, xs, rfl, by rw [Int.toNat_of_nonneg hin.1], hd, hgn, by omega, rfl⟩ ?_
  rintro n us vs w4 ⟨e4, h, j, k, c, ys, rfl, rfl, hd, hyn, hj, hy⟩
  unfold S.tree_Tree_At_L2
  rw [Go.Lift.hd, Go.Lift.tl, Go.Lift.hd]
  cases h with
  | zero =>
    obtain ⟨bk, s, rfl, k1, k8, rfl, hc, hsl⟩ := nd_leaf hd
    obtain ⟨z, hz⟩ := sAssert_no (P := Try.prog) (T := S.T.tree_node) (v := .pointer (some ⟨bk, 0, none⟩)) (B := S.T.P_tree_leaf) S.tcq_P_tree_inner (by decide)
    obtain ⟨x, hx⟩ : ∃ x, ys[j]? = some x := ⟨_, List.getElem?_eq_getElem hj⟩
    obtain ⟨b1, o1, hel, hc1⟩ := hsl.el hx
    rw [ndv_t, hz, sExtract_0, sExtract_1, sUn_not, Bool.not_false, sIf_true, sAssert_is S.tcq_P_tree_leaf, sNil_ptr, sFldA_ptr S.tfl_tree_leaf_items, sLoad_cell S.tcell_L_item_Item (hc.fst rfl),
      sIdxA_sl S.tel_L_item_Item S.tsz_item_Item (by omega) hsl hx rfl, hel, sLoad_agg S.tagg_item_Item hc1 rfl]
    exact fin x 0 w4 e4 (.inr ⟨rfl, hin.1, by rw [← hy, hx]⟩)
  | succ h =>
    obtain ⟨bk, s, ks, rfl, k2', k8, rfl, hc, hsl, rfl, hkd⟩ := nd_inner hd
    rw [ndv_f, sAssert_yes S.tcq_P_tree_inner, sExtract_0, sExtract_1, sUn_not, Bool.not_true, sIf_false, sNil_ptr, sFldA_ptr S.tfl_tree_inner_kids, sLoad_cell S.tcell_L_tree_node (hc.fst rfl), sLen_sl S.tel_L_tree_node hsl, List.length_map]
    refine LoopS.intro (fun us w5 => Ext w4 w5 ∧ ∃ m j' : Nat, us = [.int .i64 j', inv bk, .int .i64 m] ∧ m ≤ ks.length ∧ j = ((ks.take m).flatMap (·.2.2)).length + j' ∧ j' < ((ks.drop m).flatMap (·.2.2)).length)
      (fun us _ => match us with | [_, _, .int _ a] => (ks.length - a).toNat | _ => 0) ⟨Ext.refl _, 0, j, rfl, by omega, by simp, by simpa using hj⟩ ?_
    rintro us vs w5 ⟨e5, m, j', rfl, hm, hjj, hj'⟩
    unfold S.tree_Tree_At_L3
    rw [Go.Lift.hd, Go.Lift.tl, Go.Lift.hd, Go.Lift.tl, Go.Lift.hd, sBin_lss, sIf_dec]
    refine ⟨fun hlt => ?_, fun hge => ?_⟩
    · obtain ⟨t, ht'⟩ : ∃ t, ks[m]? = some t := ⟨_, List.getElem?_eq_getElem (by omega)⟩
      have hmem := List.mem_of_getElem? ht'
      obtain ⟨q4, hkt⟩ := hkd t hmem
      have htl := flat_mem_len hmem
      obtain ⟨b1, o1, hel1, hc1⟩ := (hsl.ext e5).el (kids_at ht')
      rw [sIdxA_sl S.tel_L_tree_node S.tsz_tree_node (by omega) (hsl.ext e5) (kids_at ht') rfl, hel1, sLoad_cell S.tcell_tree_node (hc1.fst rfl)]
      refine (sumOf_spec (hkt.ext e5)).mono ?_
      rintro u w6 ⟨e6, rfl⟩
      have E6 := e5.trans e6
      have hfl : (ks.take m).flatMap (·.2.2) ++ (t.2.2 ++ (ks.drop (m + 1)).flatMap (·.2.2)) = ks.flatMap (·.2.2) := by
        conv => rhs; rw [← List.take_append_drop m ks, drop_cons_of ht']
        rw [List.flatMap_append, List.flatMap_cons]
      have hdl : ((ks.drop m).flatMap (·.2.2)).length = t.2.2.length + ((ks.drop (m + 1)).flatMap (·.2.2)).length := by
        rw [drop_cons_of ht', List.flatMap_cons, List.length_append]
      rw [sumN, sBin_geq, sIf_dec]
      refine ⟨fun hge => ?_, fun hlt2 => ?_⟩
      · rw [sBin_sub _ _ ⟨by omega, by omega⟩, sBin_add _ _ ⟨by omega, by omega⟩]
        refine ⟨⟨E6, m + 1, j' - t.2.2.length, ?_, by omega, ?_, by omega⟩, by simp only []; omega⟩
        · simp; omega
        · rw [take_succ_of ht', List.flatMap_append, List.flatMap_singleton, List.length_append]; omega
      · refine ⟨h + 1, by omega, e4.trans E6, h, j', t.1, t.2.1, t.2.2, rfl, rfl, hkt.ext E6, by omega, by omega, ?_⟩
        rw [← hy, ← hfl, hjj, List.getElem?_append_right (by omega), Nat.add_sub_cancel_left, List.getElem?_append_left (by omega)]
    · obtain rfl : m = ks.length := by omega
      rw [List.drop_length] at hj'
      simp at hj'
end Go.Proofs.Ytmlbaimdphillaa

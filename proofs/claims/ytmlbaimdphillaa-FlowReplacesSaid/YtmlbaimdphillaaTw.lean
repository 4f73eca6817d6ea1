/- Trees: the topmost node, the sum, the height; the tree of items. No conditions but that of memory. -/
import Derived.Test.YtmlbaimdphillaaTk
namespace Go.Proofs.Ytmlbaimdphillaa
open Go Go.Lift Go.RowKit

/-- A tree, or nil. -/
def Tp (w : World) (v : Value) (xs : List It) : Prop := (v = .pointer none ∧ xs = []) ∨ ∃ b r, v = .pointer (some ⟨b, 0, none⟩) ∧ Cells w b 0 [r] ∧ Rt w r xs
theorem Tp.ext {w w' : World} {v : Value} {xs : List It} (h : Tp w v xs) (e : Ext w w') : Tp w' v xs := by
  rcases h with h | ⟨b, r, h1, h2, h3⟩
  · exact .inl h
  · exact .inr ⟨b, r, h1, h2.ext e, h3.ext e⟩
theorem Tp.nil (w : World) : Tp w (.pointer none) [] := .inl ⟨rfl, rfl⟩
theorem Tp.shape {w : World} {v : Value} {xs : List It} (h : Tp w v xs) : v.cells = [v].toArray ∧ v.oneCell' = true := by
  rcases h with ⟨rfl, _⟩ | ⟨b, r, rfl, _⟩ <;> exact ⟨rfl, rfl⟩
theorem Tp.ptr {w : World} {v : Value} {xs : List It} (h : Tp w v xs) : ∃ p, v = .pointer p := by
  rcases h with ⟨rfl, _⟩ | ⟨b, r, rfl, _⟩ <;> exact ⟨_, rfl⟩

theorem top_spec {w : World} {t : Value} {xs : List It} (ht : Tp w t xs) : sCall Try.prog S.tree_Tree_top.n [t] w fun u w' => w' = w ∧ Rt w u xs := by
  refine S.tree_Tree_top.call ?_
  unfold S.tree_Tree_top
  rcases ht with ⟨rfl, rfl⟩ | ⟨b, r, rfl, hc, hr⟩
  · rw [sBin_ptr_eq S.tpt_P_tree_Tree]
    exact ⟨rfl, Rt.nil w⟩
  · rw [sBin_ptr_eq S.tpt_P_tree_Tree, Option.isNone_some, sIf_false, sNil_ptr, sFldA_ptr S.tfl_tree_Tree_root, sLoad_cell S.tcell_tree_node (hc.fst rfl)]
    exact ⟨rfl, hr⟩
theorem sumR_spec {w : World} {v : Value} {xs : List It} (hr : Rt w v xs) : sCall Try.prog S.tree_sumOf.n [v] w fun u w' => Ext w w' ∧ u = .agg (encS (allS xs)).toArray := by
  rcases hr with ⟨rfl, rfl⟩ | ⟨h, k, c, rfl, hd⟩
  · exact sumOf_nil
  · exact sumOf_spec hd
theorem tsum_spec {w : World} {t : Value} {xs : List It} (ht : Tp w t xs) : sCall Try.prog S.tree_Tree_Sum.n [t] w fun u w' => Ext w w' ∧ u = .agg (encS (allS xs)).toArray := by
  refine S.tree_Tree_Sum.call ?_
  unfold S.tree_Tree_Sum
  refine sAlloc_new S.tze_item_Sum fun b w1 hb hs1 e1 hk => ?_
  refine (top_spec (ht.ext e1)).mono ?_
  rintro r w2 ⟨rfl, hr⟩
  refine (sumR_spec hr).mono ?_
  rintro u w3 ⟨e3, rfl⟩
  have h3 := e3.size
  refine sStore_blk S.tsz_item_Sum (by decide) (hk.ext e3) (vs := encS (allS xs)) rfl rfl (by simp) (encS_one _) fun w7 hs7 hg7 hk7 => ?_
  rw [sLoad_agg (cs := encS (allS xs)) S.tagg_item_Sum hk7.cells rfl]
  exact ⟨rfl, (e1.trans e3).wr hg7 (by rintro _ ⟨⟩; omega), rfl⟩

/-- What stands between all items and an index that goes through them, eight by eight. -/
def upto (i : Nat) : Nat := 8 * ((i + 7) / 8)
theorem upto_mul {i : Nat} (h : i % 8 = 0) : upto i = i ∧ upto (i + 1) = i + 8 := by unfold upto; omega
theorem upto_not {i : Nat} (h : i % 8 ≠ 0) : upto (i + 1) = upto i := by unfold upto; omega
theorem upto_ge (i : Nat) : i ≤ upto i := by unfold upto; omega
def zeroIt : It := ⟨0, 0, 0, 0, 0, 0, ⟨#[]⟩⟩

theorem new_spec {w : World} {l : Value} {xs : List It} (hl : Sl w l 7 encT xs) :
    sCall Try.prog S.tree_New.n [l] w fun u w' => Ext w w' ∧ ((30000 < xs.length ∧ u = .tuple #[.pointer none, .int .i64 5]) ∨ (xs.length ≤ 30000 ∧ ¬ (∀ x ∈ xs, ItOk x) ∧ u = .tuple #[.pointer none, .int .i64 1]) ∨
      (xs.length ≤ 30000 ∧ (∀ x ∈ xs, ItOk x) ∧ ∃ b r, u = .tuple #[.pointer (some ⟨b, 0, none⟩), .int .i64 0] ∧ Cells w' b 0 [r] ∧ Rt w' r xs)) := by
  refine S.tree_New.call ?_
  unfold S.tree_New
  have hmx : maxLen = 9223372036854775807 := rfl
  rw [sLen_sl S.tel_L_item_Item hl, sBin_gtr, sIf_dec]
  refine ⟨fun h => ⟨Ext.refl w, .inl ⟨by omega, rfl⟩⟩, fun hn => ?_⟩
  have hn : xs.length ≤ 30000 := by omega
  rw [sLen_sl S.tel_L_item_Item hl]
  refine LoopS.intro (fun us w1 => Ext w w1 ∧ ∃ (i : Nat) (r : Value), us = [r, .int .i64 i] ∧ i ≤ xs.length ∧ (∀ x ∈ xs.take i, ItOk x) ∧ Rt w1 r (xs.take (upto i)))
    (fun us _ => match us with | [_, .int _ a] => (xs.length - a).toNat | _ => 0) ⟨Ext.refl w, 0, _, rfl, by omega, by simp, Rt.nil w⟩ ?_
  rintro us vs w1 ⟨e1, i, r, rfl, hi, hok, hr⟩
  unfold S.tree_New_L1
  rw [Go.Lift.hd, Go.Lift.tl, Go.Lift.hd, sBin_lss, sIf_dec]
  refine ⟨fun hlt => ?_, fun hge => ?_⟩
  · obtain ⟨x, hx⟩ : ∃ x, xs[i]? = some x := ⟨_, List.getElem?_eq_getElem (by omega)⟩
    obtain ⟨b, o, hel, hc⟩ := (hl.ext e1).el hx
    rw [sIdxA_sl S.tel_L_item_Item S.tsz_item_Item (by omega) (hl.ext e1) hx rfl, hel, sLoad_agg S.tagg_item_Item hc rfl]
    refine sVar S.tze_item_Item S.tsz_item_Item (by decide) rfl rfl (encT_ok.one x) fun b2 w2 hb2 hs2 e2 hk2 => ?_
    have E2 := e1.trans e2
    rw [sLoad_agg S.tagg_item_Item hk2.cells rfl]
    refine (check_spec x).mono ?_
    rintro u w3 ⟨e3, e, rfl, he⟩
    have E3 := E2.trans e3
    have hr3 := (hr.ext e2).ext e3
    rw [sBin_neq, sIf_not]
    refine ⟨fun hne => ?_, fun heq => ?_⟩
    · obtain ⟨hxo, rfl⟩ : ¬ ItOk x ∧ e = 1 := by
        rcases he with ⟨_, rfl⟩ | h
        · exact absurd rfl hne
        · exact h
      exact ⟨E3, .inr (.inl ⟨hn, fun h => hxo (h x (List.mem_of_getElem? hx)), rfl⟩)⟩
    have hxo : ItOk x := by
      rcases he with ⟨h, _⟩ | ⟨_, rfl⟩
      · exact h
      · cases heq
    have hok' : ∀ y ∈ xs.take (i + 1), ItOk y := by
      intro y hy
      rw [take_succ_of hx] at hy
      rcases List.mem_append.1 hy with hy | hy
      · exact hok y hy
      · simp at hy; subst hy; exact hxo
    rw [sBin_rem _ _ (by omega) (by omega) (by omega), sBin_eql, sIf_dec]
    refine ⟨fun h8 => ?_, fun h8 => ?_⟩
    · obtain ⟨u1, u2⟩ := upto_mul (i := i) (by omega)
      rw [sLen_sl S.tel_L_item_Item (hl.ext E3), sBin_sub _ _ ⟨by omega, by omega⟩, sMin_int]
      obtain ⟨n, hnn, hn1, hn8, hnl⟩ : ∃ n : Nat, (if (xs.length : Int) - i < 8 then (xs.length : Int) - i else 8) = n ∧ 1 ≤ n ∧ n ≤ 8 ∧ n = min 8 (xs.length - i) := by
        refine ⟨min 8 (xs.length - i), ?_, by omega, by omega, rfl⟩
        split <;> omega
      rw [hnn]
      refine sMake_full zeroIt S.tel_L_item_Item S.tsz_item_Item (by decide) S.tze_item_Item encT_ok rfl rfl rfl (by rw [S.tby_item_Item]; omega) (by omega) fun v w4 hv e4 => ?_
      have E4 := E3.trans e4
      have hrl : (List.replicate n zeroIt).length = n := by simp
      have hdl : (xs.drop i).length = xs.length - i := by simp
      rw [sSlice_l (lo := i) S.tel_L_item_Item S.tsz_item_Item (by omega) (hl.ext E4) rfl (by omega)]
      have p2 : Sl w4 (slV l 7 i xs.length (capV l)) 7 encT (xs.drop i) := by
        simpa using (hl.ext E4).part (lo := i) (hi := xs.length) (mx := capV l) (by omega) (by omega) (sl_cap hl) (Nat.le_refl _)
      refine sCopy_row S.tel_L_item_Item S.tsz_item_Item (by decide) encT_ok hv p2 (by omega) fun w5 hs5 hg5 hv5 => ?_
      have E5 : Ext w w5 := E4.wr hg5 fun g hg => by have := (hv.lt g hg).1; have := E3.size; omega
      have e35 : Ext w3 w5 := e4.wr hg5 fun g hg => (hv.lt g hg).1
      rw [hrl] at hv5
      have htl : ((xs.drop i).take n).length = n := by simp; omega
      refine (leafOf_spec (hv5.sl encT_ok) ⟨by omega⟩ (by omega) (by omega)).mono ?_
      rintro u w6 ⟨e6, bl, rfl, hd6⟩
      rw [sIface_mk S.tcq_P_tree_leaf]
      rw [u1] at hr3
      have hjoin : xs.take i ++ (xs.drop i).take n = xs.take (i + 8) := by
        rw [List.take_add]
        congr 1
        by_cases h9 : xs.length - i < 8
        · rw [List.take_of_length_le (by omega), List.take_of_length_le (by omega)]
        · rw [show n = 8 by omega]
      refine (join_spec ((hr3.ext e35).ext e6) (.inr ⟨0, (true, bl), _, rfl, hd6⟩) ⟨by rw [hjoin, List.length_take]; omega⟩).mono ?_
      rintro u w7 ⟨e7, r7⟩
      rw [sBin_add _ _ ⟨by omega, by omega⟩]
      refine ⟨⟨(E5.trans e6).trans e7, i + 1, u, by simp, by omega, hok', ?_⟩, by simp only []; omega⟩
      rw [u2, ← hjoin]; exact r7
    · rw [sBin_add _ _ ⟨by omega, by omega⟩]
      refine ⟨⟨E3, i + 1, r, by simp, by omega, hok', ?_⟩, by simp only []; omega⟩
      rw [upto_not (by omega)]; exact hr3
  · obtain rfl : i = xs.length := by omega
    rw [List.take_of_length_le (upto_ge _)] at hr
    rw [List.take_length] at hok
    rw [sBuild_of (cs := [r]) (lp := [(0, [r])]) S.tze_tree_Tree S.tpl_tree_Tree (by rw [List.map_singleton, List.map_singleton, hr.shape.1]) rfl]
    refine sBox_new (cs := [r]) rfl fun b w2 hb hs2 e2 hk2 => ?_
    exact ⟨e1.trans e2, .inr (.inr ⟨hn, hok, b, r, rfl, hk2.cells, hr.ext e2⟩)⟩
end Go.Proofs.Ytmlbaimdphillaa

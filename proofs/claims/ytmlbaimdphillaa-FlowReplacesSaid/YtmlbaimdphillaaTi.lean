/- Trees: all items. No conditions but those of memory and size. -/
import Derived.Test.YtmlbaimdphillaaTr
namespace Go.Proofs.Ytmlbaimdphillaa
open Go Go.Lift Go.RowKit

/-- What is there while all items of a tree are told: nothing of 'w' has changed; the list so far, at a place. -/
structure Out (w w' : World) (b : Nat) (xs : List It) : Prop where
  e : Ext w w'
  hb : w.heap.size ≤ b
  lt : b < w'.heap.size
  v : ∃ v, Blk w' b [v] ∧ Row w' (b + 1) S.T.item_Item 7 v encT xs
theorem items1 {w0 w : World} {b : Nat} {xs : List It} (x : It) (h : Out w0 w b xs) (hn : xs.length ≤ 1000000) :
    sDyn Try.prog (.func (.func S.tree_Tree_Items_1.n) #[] #[.pointer (some ⟨b, 0, none⟩)]) [.agg (encT x).toArray] w fun _ w' => Out w0 w' b (xs ++ [x]) := by
  rw [sDyn_func]
  refine S.tree_Tree_Items_1.call ?_
  unfold S.tree_Tree_Items_1
  obtain ⟨v, kv, hv⟩ := h.v
  have hmx : maxLen = 9223372036854775807 := rfl
  have hE := h.e; have hB := h.hb; have hlt := h.lt
  refine sBox_new (cs := encT x) rfl fun b2 w1 hb2 hs1 e1 hk2 => ?_
  rw [sLoad_cell S.tcell_L_item_Item ((kv.ext e1).cells.fst rfl), sLoad_agg S.tagg_item_Item hk2.cells rfl]
  refine sBuildSlice_own (n := 1) (enc := encT) (xs := [x]) (lp := [(0, encT x)]) S.tel_L_item_Item S.tsz_item_Item rfl S.tze_item_Item (by decide) (by decide) encT_ok rfl rfl fun t w2 ht ho2 he2 hs2 => ?_
  refine sAppend_row S.tel_L_item_Item S.tsz_item_Item (by decide) S.tze_item_Item rfl encT_ok ((hv.ext e1).ext he2) (by omega) (ho2.sl encT_ok) (by simp; omega) (by rw [S.tby_item_Item]; simp; omega) fun v' w3 hv3 hg3 _ => ?_
  have F2 := e1.trans he2
  have hsz := F2.size
  have hl := fun g hg => (hv.lt g hg)
  have E3 : Ext w0 w3 := (hE.trans F2).wr hg3 fun g hg => by have := hl g hg; omega
  have k3 := (kv.ext F2).wr hg3 (fun e => by have := hl b e.symm; omega)
  have hs3 := hg3.size
  refine sStore_blk S.tsz_L_item_Item (by decide) k3 (vs := [v']) hv3.shape.1 rfl (by simp) (by simpa using hv3.shape.2) fun w4 hs4 hg4 hk4 => ?_
  have hk4 : Blk w4 b [v'] := hk4
  have hv4 : Row w4 (b + 1) S.T.item_Item 7 v' encT (xs ++ [x]) := by
    refine hv3.wr hg4 ?_
    cases hvo : v'.ownBlock with
    | none => exact .inl rfl
    | some g => exact .inr (by intro e; cases e; have := (hv3.lt b hvo).1; omega)
  exact ⟨E3.wr hg4 (by rintro _ ⟨⟩; omega), hB, by omega, v', hk4, hv4⟩

theorem each_nd {b : Nat} : ∀ (h : Nat) {w0 w : World} {k : Nv} {c : Nat} {xs ys : List It}, Nd w0 h k c xs → Out w0 w b ys → (ys ++ xs).length ≤ 1000000 →
    sCall Try.prog S.tree_each.n [ndv k, .func (.func S.tree_Tree_Items_1.n) #[] #[.pointer (some ⟨b, 0, none⟩)]] w fun _ w' => Out w0 w' b (ys ++ xs) := by
  intro h
  induction h with
  | zero =>
    intro w0 w k c xs ys hd ho hn
    refine S.tree_each.call ?_
    unfold S.tree_each
    have hE := ho.e
    obtain ⟨b', s, rfl, k1, k8, rfl, hc, hsl'⟩ := nd_leaf hd
    rw [ndv_t, sAssert_yes S.tcq_P_tree_leaf, sExtract_1, sExtract_0, sIf_true, sNil_ptr, sFldA_ptr S.tfl_tree_leaf_items, sLoad_cell S.tcell_L_item_Item ((hc.ext hE).fst rfl), sLen_sl S.tel_L_item_Item (hsl'.ext hE)]
    refine LoopS.intro (fun us w1 => ∃ i : Nat, us = [.int .i64 i] ∧ i ≤ xs.length ∧ Out w0 w1 b (ys ++ xs.take i))
      (fun us _ => match us with | [.int _ a] => (xs.length - a).toNat | _ => 0) ⟨0, rfl, by omega, by simpa using ho⟩ ?_
    rintro us vs w1 ⟨i, rfl, hi, ho1⟩
    unfold S.tree_each_L1
    rw [List.length_append] at hn
    have hE1 := ho1.e
    rw [Go.Lift.hd, sBin_lss, sIf_dec]
    refine ⟨fun hlt => ?_, fun hge => ?_⟩
    · obtain ⟨x, hx⟩ : ∃ x, xs[i]? = some x := ⟨_, List.getElem?_eq_getElem (by omega)⟩
      obtain ⟨b1, o1, hel, hc1⟩ := (hsl'.ext hE1).el hx
      rw [sIdxA_sl S.tel_L_item_Item S.tsz_item_Item (by omega) (hsl'.ext hE1) hx rfl, hel, sLoad_agg S.tagg_item_Item hc1 rfl]
      refine sVar S.tze_item_Item S.tsz_item_Item (by decide) rfl rfl (encT_ok.one x) fun b2 w2 hb2 hs2 e2 hk2 => ?_
      rw [sLoad_agg S.tagg_item_Item hk2.cells rfl]
      obtain ⟨v, kv, hv⟩ := ho1.v
      have ho2 : Out w0 w2 b (ys ++ xs.take i) := ⟨hE1.trans e2, ho1.hb, by have := ho1.lt; omega, v, kv.ext e2, hv.ext e2⟩
      refine sDyn_mono (fun u w3 ho3 => ?_) (items1 x ho2 (by rw [List.length_append, List.length_take]; omega))
      rw [sBin_add _ _ ⟨by omega, by omega⟩]
      refine ⟨⟨i + 1, by simp, by omega, ?_⟩, by simp only []; omega⟩
      rw [take_succ_of hx, ← List.append_assoc]; exact ho3
    · obtain rfl : i = xs.length := by omega
      rw [List.take_length] at ho1
      exact ho1
  | succ h ih =>
    intro w0 w k c xs ys hd ho hn
    refine S.tree_each.call ?_
    unfold S.tree_each
    have hE := ho.e
    obtain ⟨bk, s, ks, rfl, k2, k8, rfl, hc, hsl, rfl, hk⟩ := nd_inner hd
    obtain ⟨z, hz⟩ := sAssert_no (P := Try.prog) (T := S.T.tree_node) (v := .pointer (some ⟨bk, 0, none⟩)) (B := S.T.P_tree_inner) S.tcq_P_tree_leaf (by decide)
    rw [ndv_f, hz, sExtract_1, sExtract_0, sIf_false, sAssert_yes S.tcq_P_tree_inner, sExtract_1, sExtract_0, sIf_true, sNil_ptr, sFldA_ptr S.tfl_tree_inner_kids, sLoad_cell S.tcell_L_tree_node ((hc.ext hE).fst rfl), sLen_sl S.tel_L_tree_node (hsl.ext hE), List.length_map]
    refine LoopS.intro (fun us w1 => ∃ i : Nat, us = [.int .i64 i] ∧ i ≤ ks.length ∧ Out w0 w1 b (ys ++ (ks.take i).flatMap (·.2.2)))
      (fun us _ => match us with | [.int _ a] => (ks.length - a).toNat | _ => 0) ⟨0, rfl, by omega, by simpa using ho⟩ ?_
    rintro us vs w1 ⟨i, rfl, hi, ho1⟩
    unfold S.tree_each_L2
    have hE1 := ho1.e
    rw [Go.Lift.hd, sBin_lss, sIf_dec]
    refine ⟨fun hlt => ?_, fun hge => ?_⟩
    · obtain ⟨t, ht⟩ : ∃ t, ks[i]? = some t := ⟨_, List.getElem?_eq_getElem (by omega)⟩
      have hm := List.mem_of_getElem? ht
      obtain ⟨b1, o1, hel1, hc1⟩ := (hsl.ext hE1).el (kids_at ht)
      have hfl : (ks.take i).flatMap (·.2.2) ++ (t.2.2 ++ (ks.drop (i + 1)).flatMap (·.2.2)) = ks.flatMap (·.2.2) := by
        conv => rhs; rw [← List.take_append_drop i ks, drop_cons_of ht]
        rw [List.flatMap_append, List.flatMap_cons]
      have hln := congrArg List.length hfl
      rw [List.length_append, List.length_append] at hln
      rw [List.length_append] at hn
      rw [sIdxA_sl S.tel_L_tree_node S.tsz_tree_node (by omega) (hsl.ext hE1) (kids_at ht) rfl, hel1, sLoad_cell S.tcell_tree_node (hc1.fst rfl)]
      refine (ih (hk t hm).2 ho1 (by rw [List.length_append, List.length_append]; omega)).mono ?_
      intro u w2 ho2
      rw [sBin_add _ _ ⟨by omega, by omega⟩]
      refine ⟨⟨i + 1, by simp, by omega, ?_⟩, by simp only []; omega⟩
      rw [take_succ_of ht, List.flatMap_append, List.flatMap_singleton, ← List.append_assoc]; exact ho2
    · obtain rfl : i = ks.length := by omega
      rw [List.take_length] at ho1
      exact ho1

theorem top_at {w : World} {t : Value} {xs : List It} (ht : Tp w t xs) : ∃ r, Rt w r xs ∧ ∀ w', Ext w w' → sCall Try.prog S.tree_Tree_top.n [t] w' fun u w'' => w'' = w' ∧ u = r := by
  rcases ht with ⟨rfl, rfl⟩ | ⟨b, r, rfl, hc, hr⟩
  · refine ⟨.nilIface, Rt.nil w, fun w' e => S.tree_Tree_top.call ?_⟩
    unfold S.tree_Tree_top
    rw [sBin_ptr_eq S.tpt_P_tree_Tree]
    exact ⟨rfl, rfl⟩
  · refine ⟨r, hr, fun w' e => S.tree_Tree_top.call ?_⟩
    unfold S.tree_Tree_top
    rw [sBin_ptr_eq S.tpt_P_tree_Tree, Option.isNone_some, sIf_false, sNil_ptr, sFldA_ptr S.tfl_tree_Tree_root, sLoad_cell S.tcell_tree_node ((hc.ext e).fst rfl)]
    exact ⟨rfl, rfl⟩
theorem titems_spec {w : World} {t : Value} {xs : List It} (ht : Tp w t xs) (hg : Gd xs) :
    sCall Try.prog S.tree_Tree_Items.n [t] w fun u w' => Ext w w' ∧ Row w' w.heap.size S.T.item_Item 7 u encT xs := by
  refine S.tree_Tree_Items.call ?_
  unfold S.tree_Tree_Items
  refine sAlloc_new S.tze_L_item_Item fun b w1 hb hs1 e1 hk => ?_
  obtain ⟨r, hr, htop⟩ := top_at ht
  refine (htop w1 e1).mono ?_
  rintro u w2 ⟨rfl, rfl⟩
  rw [sFunc_mk]
  have h0 : Out w w2 b [] := ⟨e1, by omega, by omega, _, hk, Row.nil _ _ _ _ _⟩
  have fin : ∀ w', Out w w' b xs → sLoad Try.prog S.T.L_item_Item (.pointer (some ⟨b, 0, none⟩)) w' fun x w'' => Ext w w'' ∧ Row w'' w.heap.size S.T.item_Item 7 x encT xs := by
    intro w' ho
    obtain ⟨v, kv, hv⟩ := ho.v
    rw [sLoad_cell S.tcell_L_item_Item (kv.cells.fst rfl)]
    exact ⟨ho.e, hv.mono (by omega)⟩
  rcases hr with ⟨rfl, rfl⟩ | ⟨h, k, c, rfl, hd⟩
  · refine S.tree_each.call ?_
    unfold S.tree_each
    obtain ⟨z, hz⟩ := sAssert_nil (P := Try.prog) (T := S.T.tree_node) S.tcq_P_tree_leaf
    obtain ⟨z2, hz2⟩ := sAssert_nil (P := Try.prog) (T := S.T.tree_node) S.tcq_P_tree_inner
    rw [hz, sExtract_1, sExtract_0, sIf_false, hz2, sExtract_1, sExtract_0, sIf_false]
    exact fin _ h0
  · refine (each_nd h hd h0 (by simpa using hg.n)).mono ?_
    intro u w3 h3
    exact fin w3 (by simpa using h3)
end Go.Proofs.Ytmlbaimdphillaa

/- Trees: their height; that all nodes are right. Conditions: those of memory and size. -/
import Derived.Test.YtmlbaimdphillaaTf
namespace Go.Proofs.Ytmlbaimdphillaa
open Go Go.Lift Go.RowKit

theorem theight_spec {w : World} {t : Value} {xs : List It} {H : Nat} (ht : TpH w t xs H) : sCall Try.prog S.tree_Tree_Height.n [t] w fun u w' => w' = w ∧ u = .int .i64 H := by
  refine S.tree_Tree_Height.call ?_
  unfold S.tree_Tree_Height
  refine (topH ht).mono ?_
  rintro r w1 ⟨rfl, hr⟩
  rcases hr with ⟨rfl, rfl, rfl⟩ | ⟨h, k, c, rfl, hd, rfl⟩
  · exact heightOf_nil.mono fun u w' h => h
  · exact (heightOf_spec hd).mono fun u w' h => h
theorem tallH {w : World} {t : Value} {xs : List It} {H : Nat} (ht : TpH w t xs H) (hn : xs.length ≤ 1000000) : (H = 0 ↔ xs = []) ∧ (2 ≤ H → 2 * 4 ^ (H - 1) ≤ xs.length) ∧ H ≤ 11 := by
  have key : ∀ h k c, Nd w h k c xs → (h + 1 = 0 ↔ xs = []) ∧ (2 ≤ h + 1 → 2 * 4 ^ (h + 1 - 1) ≤ xs.length) ∧ h + 1 ≤ 11 := by
    intro h k c hd
    have hm := hd.many
    have h8 := hd.le8
    have hp : 1 * 4 ^ h ≤ c * 4 ^ h := Nat.mul_le_mul_right _ h8.1
    have hpos : 0 < 4 ^ h := Nat.pow_pos (by decide)
    refine ⟨⟨by omega, fun hx => ?_⟩, fun h2 => ?_, by have := hd.high hn; omega⟩
    · subst hx; simp at hm; omega
    · rw [Nat.add_sub_cancel]
      have hc2 : 2 ≤ c := by
        cases h with
        | zero => omega
        | succ h => exact hd.2.1
      have := Nat.mul_le_mul_right (4 ^ h) hc2
      omega
  rcases ht with ⟨rfl, rfl, rfl⟩ | ⟨b, r, rfl, hc, ⟨rfl, rfl, rfl⟩ | ⟨h, k, c, rfl, hd, rfl⟩⟩
  · simp
  · simp
  · exact key h k c hd

theorem encS_fit (x : Su) : fitB Try.prog S.T.dl_item_Sum (encS x) = true := by kernel_rfl
/-- Sums, compared. -/
theorem sums_eq {cx cy : Bool} (x y : Su) : ∃ r : Bool, (r = true ↔ x = y) ∧ (∀ w K, sBin Try.prog .eql S.T.item_Sum cx cy (.agg (encS x).toArray) (.agg (encS y).toArray) w K = K (.bool r) w) ∧ ∀ w K, sBin Try.prog .neq S.T.item_Sum cx cy (.agg (encS x).toArray) (.agg (encS y).toArray) w K = K (.bool (!r)) w := by
  obtain ⟨r, h1, h2, h3⟩ := sBin_deep (cx := cx) (cy := cy) S.tdq_item_Sum S.taq_item_Sum S.tgq_item_Sum (encS_fit x) (encS_fit y)
  exact ⟨r, h1.trans ⟨encS_inj, fun h => h ▸ rfl⟩, h2, h3⟩

theorem sound_nd : ∀ (h : Nat) {w : World} {k : Nv} {c : Nat} {xs : List It} (top : Bool), Nd w h k c xs → Gd xs → (top = false → 4 ≤ c) →
    sCall Try.prog S.tree_sound.n [ndv k, .bool top] w fun u w' => Ext w w' ∧ u = .bool true := by
  intro h
  induction h with
  | zero =>
    intro w k c xs top hd hg h4
    refine S.tree_sound.call ?_
    unfold S.tree_sound
    obtain ⟨b, s, rfl, k1, k8, rfl, hc, hsl⟩ := nd_leaf hd
    rw [ndv_t, sAssert_yes S.tcq_P_tree_leaf, sExtract_1, sExtract_0, sIf_true]
    refine JoinS.intro (fun us w' => w' = w ∧ ∃ l : Int, us = [.int .i64 l] ∧ l ≤ xs.length) ?_ ?_
    · rw [sIf_bool]
      exact ⟨fun _ => ⟨rfl, 1, rfl, by omega⟩, fun h => ⟨rfl, 4, rfl, by have := h4 h; omega⟩⟩
    rintro us vs w ⟨rfl, l, rfl, hl⟩
    unfold S.tree_sound_J1
    refine DrawS.ext ?_
    have E : Ext w w.drew := (Ext.refl w).drew
    have step : ∀ {k : Value → Prop}, stillS (Ext w) w.drew (fun w k => sFldA Try.prog S.T.tree_leaf (.pointer (some ⟨b, 0, none⟩)) 0 w k) k = k (.pointer (some ⟨b, 0 + 0, none⟩)) := stillS_eq (fun w1 h1 K => sFldA_ptr S.tfl_tree_leaf_items) E
    rw [Go.Lift.hd, sNil_ptr, stillS_eq (fun w1 h1 K => sFldA_ptr S.tfl_tree_leaf_items) E, stillS_cell S.tcell_L_item_Item (hc.fst rfl) E, stillS_eq (fun w1 h1 K => sLen_sl S.tel_L_item_Item (hsl.ext h1)) E, stillS_eq (fun w1 h1 K => sBin_geq _ _) E, sIf_pos hl,
      sNil_ptr, stillS_eq (fun w1 h1 K => sFldA_ptr S.tfl_tree_leaf_items) E, stillS_cell S.tcell_L_item_Item (hc.fst rfl) E, stillS_eq (fun w1 h1 K => sLen_sl S.tel_L_item_Item (hsl.ext h1)) E, stillS_eq (fun w1 h1 K => sBin_leq _ _) E, sIf_pos (by omega),
      sNil_ptr, stillS_eq (fun w1 h1 K => sFldA_ptr S.tfl_tree_leaf_sum) E, stillS_agg (cs := encS (allS xs)) S.tagg_item_Sum (hc.sub 1 6) rfl E,
      sNil_ptr, stillS_eq (fun w1 h1 K => sFldA_ptr S.tfl_tree_leaf_items) E, stillS_cell S.tcell_L_item_Item (hc.fst rfl) E]
    refine (all_spec (hsl.ext E) hg.n).mono ?_
    rintro u w1 ⟨e1, rfl⟩
    have F1 := E.trans e1
    refine ⟨F1, ?_⟩
    obtain ⟨r, hr1, hr2, _⟩ := sums_eq (cx := false) (cy := false) (allS xs) (allS xs)
    rw [stillS_eq (fun w1 h1 K => hr2 w1 K) F1, hr1.2 rfl]
    exact ⟨F1, rfl⟩
  | succ h ih =>
    intro w k c xs top hd hg h4
    refine S.tree_sound.call ?_
    unfold S.tree_sound
    have hhi := hd.high hg.n
    obtain ⟨b, s, ks, rfl, k2, k8, rfl, hc, hsl, rfl, hk⟩ := nd_inner hd
    obtain ⟨z, hz⟩ := sAssert_no (P := Try.prog) (T := S.T.tree_node) (v := .pointer (some ⟨b, 0, none⟩)) (B := S.T.P_tree_inner) S.tcq_P_tree_leaf (by decide)
    rw [ndv_f, hz, sExtract_1, sExtract_0, sIf_false, sAssert_yes S.tcq_P_tree_inner, sExtract_1, sExtract_0, sIf_true]
    refine JoinS.intro (fun us w' => w' = w ∧ ∃ l : Int, us = [.int .i64 l] ∧ l ≤ ks.length) ?_ ?_
    · rw [sIf_bool]
      exact ⟨fun _ => ⟨rfl, 2, rfl, by omega⟩, fun h => ⟨rfl, 4, rfl, by have := h4 h; omega⟩⟩
    rintro us vs w ⟨rfl, l, rfl, hl⟩
    unfold S.tree_sound_J2
    refine sAlloc_new S.tze_item_Sum fun b8 w1 hb8 hs1 e1 hk8 => ?_
    rw [Go.Lift.hd, sNil_ptr, sFldA_ptr S.tfl_tree_inner_kids, sLoad_cell S.tcell_L_tree_node ((hc.ext e1).fst rfl), sLen_sl S.tel_L_tree_node (hsl.ext e1), List.length_map]
    refine LoopS.intro (fun us w2 => Ext w w2 ∧ ∃ i : Nat, us = [.int .i64 i] ∧ i ≤ ks.length ∧ Blk w2 b8 (encS (allS ((ks.take i).flatMap (·.2.2)))))
      (fun us _ => match us with | [.int _ a] => (ks.length - a).toNat | _ => 0) ⟨e1, 0, rfl, by omega, hk8⟩ ?_
    rintro us vs w2 ⟨e2, i, rfl, hi, k8'⟩
    unfold S.tree_sound_L3
    rw [Go.Lift.hd, sBin_lss, sIf_dec]
    refine ⟨fun hlt => ?_, fun hge => ?_⟩
    · obtain ⟨t, ht⟩ : ∃ t, ks[i]? = some t := ⟨_, List.getElem?_eq_getElem (by omega)⟩
      have hm := List.mem_of_getElem? ht
      obtain ⟨q4, hkt⟩ := hk t hm
      have hgt := hg.kid hm
      obtain ⟨b1, o1, hel1, hc1⟩ := (hsl.ext e2).el (kids_at ht)
      rw [sIdxA_sl S.tel_L_tree_node S.tsz_tree_node (by omega) (hsl.ext e2) (kids_at ht) rfl, hel1, sLoad_cell S.tcell_tree_node (hc1.fst rfl)]
      refine DrawS.ext ?_
      have E : Ext w2 w2.drew := (Ext.refl w2).drew
      rw [sNil_ptr, stillS_eq (fun w1 h1 K => sFldA_ptr S.tfl_tree_inner_height) E, stillS_cell S.tcell_int ((hc.ext e2).at 1 rfl) E, stillS_eq (fun w1 h1 K => sBin_sub _ _ ⟨by omega, by omega⟩) E]
      refine (heightOf_spec ((hkt.ext e2).ext E)).mono ?_
      rintro u w3 ⟨rfl, rfl⟩
      refine ⟨E, ?_⟩
      rw [stillS_eq (fun w1 h1 K => sBin_neq _ _) E, sIf_not]
      refine ⟨fun h => absurd (by omega) h, fun _ => ?_⟩
      refine (ih false ((hkt.ext e2).ext E) hgt fun _ => q4).mono ?_
      rintro u w3 ⟨e3, rfl⟩
      have F3 := E.trans e3
      refine ⟨F3, ?_⟩
      rw [stillS_eq (fun w1 h1 K => sUn_not true) F3, Bool.not_true, sIf_false]
      refine DrawS.ext ?_
      have E' : Ext w3 w3.drew := (Ext.refl w3).drew
      rw [stillS_agg (cs := encS (allS ((ks.take i).flatMap (·.2.2)))) S.tagg_item_Sum (k8'.ext F3).cells rfl E']
      refine (sumOf_spec (((hkt.ext e2).ext F3).ext E')).mono ?_
      rintro u w4 ⟨e4, rfl⟩
      have F4 := E'.trans e4
      refine ⟨F4, ?_⟩
      have hsub : ((ks.take i).flatMap (·.2.2)).length ≤ 1000000 := by
        have := congrArg (fun l : List Kd => (l.flatMap (·.2.2)).length) (List.take_append_drop i ks)
        simp only [List.flatMap_append, List.length_append] at this
        have := hg.n
        omega
      refine (add_spec (AddB.all (by omega) (by have := hgt.n; omega))).mono ?_
      rintro u w5 ⟨e5, rfl⟩
      have F5 := (F3.trans F4).trans e5
      refine sStore_blk S.tsz_item_Sum (by decide) (k8'.ext F5) (vs := encS (addS (allS ((ks.take i).flatMap (·.2.2))) (allS t.2.2))) rfl rfl (by simp [encS]) (encS_one _) fun w7 hs7 hg7 hk7 => ?_
      rw [sBin_add _ _ ⟨by omega, by omega⟩]
      refine ⟨⟨(e2.trans F5).wr hg7 (by rintro _ ⟨⟩; omega), i + 1, by simp, by omega, ?_⟩, by simp only []; omega⟩
      rw [take_succ_of ht, List.flatMap_append, List.flatMap_singleton, allS_append]
      exact hk7
    · obtain rfl : i = ks.length := by omega
      rw [List.take_length] at k8'
      refine DrawS.ext ?_
      have E : Ext w2 w2.drew := (Ext.refl w2).drew
      have hc2 := hc.ext e2
      have hs2 := hsl.ext e2
      have hln : ((ks.map (·.1)).length : Int) = ks.length := by rw [List.length_map]
      obtain ⟨r, hr1, hr2, _⟩ := sums_eq (cx := false) (cy := false) (allS (ks.flatMap (·.2.2))) (allS (ks.flatMap (·.2.2)))
      rw [sNil_ptr, stillS_eq (fun w1 h1 K => sFldA_ptr S.tfl_tree_inner_kids) E, stillS_cell S.tcell_L_tree_node (hc2.fst rfl) E, stillS_eq (fun w1 h1 K => sLen_sl S.tel_L_tree_node (hs2.ext h1)) E, hln, stillS_eq (fun w1 h1 K => sBin_geq _ _) E, sIf_pos hl,
        sNil_ptr, stillS_eq (fun w1 h1 K => sFldA_ptr S.tfl_tree_inner_kids) E, stillS_cell S.tcell_L_tree_node (hc2.fst rfl) E, stillS_eq (fun w1 h1 K => sLen_sl S.tel_L_tree_node (hs2.ext h1)) E, hln, stillS_eq (fun w1 h1 K => sBin_leq _ _) E, sIf_pos (by omega),
        sNil_ptr, stillS_eq (fun w1 h1 K => sFldA_ptr S.tfl_tree_inner_sum) E, stillS_agg (cs := encS (allS (ks.flatMap (·.2.2)))) S.tagg_item_Sum (hc2.sub 2 6) rfl E, stillS_agg (cs := encS (allS (ks.flatMap (·.2.2)))) S.tagg_item_Sum k8'.cells rfl E,
        stillS_eq (fun w1 h1 K => hr2 w1 K) E, hr1.2 rfl]
      exact ⟨e2.trans E, rfl⟩
theorem tsound_spec {w : World} {t : Value} {xs : List It} (ht : Tp w t xs) (hg : Gd xs) : sCall Try.prog S.tree_Tree_Sound.n [t] w fun u w' => Ext w w' ∧ u = .bool true := by
  refine S.tree_Tree_Sound.call ?_
  unfold S.tree_Tree_Sound
  refine (top_spec ht).mono ?_
  rintro r w1 ⟨rfl, hr⟩
  rcases hr with ⟨rfl, rfl⟩ | ⟨h, k, c, rfl, hd⟩
  · refine S.tree_sound.call ?_
    unfold S.tree_sound
    obtain ⟨z, hz⟩ := sAssert_nil (P := Try.prog) (T := S.T.tree_node) S.tcq_P_tree_leaf
    obtain ⟨z2, hz2⟩ := sAssert_nil (P := Try.prog) (T := S.T.tree_node) S.tcq_P_tree_inner
    rw [hz, sExtract_1, sExtract_0, sIf_false, hz2, sExtract_1, sExtract_0, sIf_false]
    exact ⟨Ext.refl _, rfl⟩
  · exact (sound_nd h true hd hg fun h => by cases h).mono fun u w' h => h
end Go.Proofs.Ytmlbaimdphillaa

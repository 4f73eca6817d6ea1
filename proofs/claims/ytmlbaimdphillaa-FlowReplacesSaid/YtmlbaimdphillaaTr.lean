/- Trees: a part, two in one, items in the place of others, how high. No conditions but those of memory and size. -/
import Derived.Test.YtmlbaimdphillaaTw
namespace Go.Proofs.Ytmlbaimdphillaa
open Go Go.Lift Go.RowKit

/-- A tree that is none of nil. -/
def Tq (w : World) (v : Value) (xs : List It) : Prop := ∃ b r, v = .pointer (some ⟨b, 0, none⟩) ∧ Cells w b 0 [r] ∧ Rt w r xs
theorem Tq.tp {w : World} {v : Value} {xs : List It} (h : Tq w v xs) : Tp w v xs := .inr h
theorem Tq.ext {w w' : World} {v : Value} {xs : List It} (h : Tq w v xs) (e : Ext w w') : Tq w' v xs := by
  obtain ⟨b, r, h1, h2, h3⟩ := h; exact ⟨b, r, h1, h2.ext e, h3.ext e⟩
theorem treeOf {w : World} {K : K1} {r : Value} {xs : List It} (hr : Rt w r xs) (h : ∀ v w', Ext w w' → Tq w' v xs → K v w') :
    sBuild Try.prog S.T.tree_Tree [(0, r)] w fun x w => sBox Try.prog S.T.tree_Tree x w K := by
  rw [sBuild_of (cs := [r]) (lp := [(0, [r])]) S.tze_tree_Tree S.tpl_tree_Tree (by rw [List.map_singleton, List.map_singleton, hr.shape.1]) rfl]
  refine sBox_new (cs := [r]) rfl fun b w2 hb hs2 e2 hk2 => ?_
  exact h _ w2 e2 ⟨b, r, rfl, hk2.cells, hr.ext e2⟩
theorem sumN {w : World} {K : K1} {xs : List It} : sFld Try.prog S.T.item_Sum (.agg (encS (allS xs)).toArray) 0 w K = K (.int .i64 xs.length) w := by
  have hN : (allS xs).n = xs.length := allS_n _
  rw [sFld_cell S.tfd_item_Sum_N S.tcell_int (v := .int .i64 xs.length) (by rw [← hN]; rfl)]

abbrev InR (xs : List It) (a b : Int) : Prop := 0 ≤ a ∧ a ≤ b ∧ b ≤ xs.length
theorem tslice_spec {w : World} {t : Value} {xs : List It} {a b : Int} (ht : Tp w t xs) (hg : Gd xs) :
    sCall Try.prog S.tree_Tree_Slice.n [t, .int .i64 a, .int .i64 b] w fun u w' => Ext w w' ∧ ((¬ InR xs a b ∧ u = .tuple #[.pointer none, .int .i64 1]) ∨
      (InR xs a b ∧ ∃ v, u = .tuple #[v, .int .i64 0] ∧ Tq w' v ((xs.drop a.toNat).take (b - a).toNat))) := by
  refine S.tree_Tree_Slice.call ?_
  unfold S.tree_Tree_Slice
  have hgn := hg.n
  rw [sBin_lss, sIf_dec]
  refine ⟨fun h => ⟨Ext.refl w, .inl ⟨by omega, rfl⟩⟩, fun h1 => ?_⟩
  rw [sBin_lss, sIf_dec]
  refine ⟨fun h => ⟨Ext.refl w, .inl ⟨by omega, rfl⟩⟩, fun h2 => ?_⟩
  refine (tsum_spec ht).mono ?_
  rintro u w1 ⟨e1, rfl⟩
  rw [sumN, sBin_gtr, sIf_dec]
  refine ⟨fun h => ⟨e1, .inl ⟨by omega, rfl⟩⟩, fun h3 => ?_⟩
  refine (top_spec (ht.ext e1)).mono ?_
  rintro r w2 ⟨rfl, hr⟩
  refine (split_spec hr hg ⟨by omega, by omega⟩).mono ?_
  rintro u w3 ⟨e3, x, y, rfl, hx, hy⟩
  rw [sExtract_0, sExtract_1, sBin_sub _ _ ⟨by omega, by omega⟩]
  refine (split_spec hy (hg.drop _) ⟨by omega, by omega⟩).mono ?_
  rintro u w4 ⟨e4, x, y, rfl, hx, hy⟩
  rw [sExtract_0, sExtract_1]
  refine treeOf hx fun v w5 e5 hv => ?_
  exact ⟨((e1.trans e3).trans e4).trans e5, .inr ⟨⟨by omega, by omega, by omega⟩, v, rfl, hv⟩⟩

theorem treplace_spec {w : World} {t l : Value} {xs ys : List It} {a b : Int} (ht : Tp w t xs) (hx : xs.length ≤ 30000) (hl : Sl w l 7 encT ys) :
    sCall Try.prog S.tree_Tree_Replace.n [t, .int .i64 a, .int .i64 b, l] w fun u w' => Ext w w' ∧ ((¬ InR xs a b ∧ u = .tuple #[.pointer none, .int .i64 1]) ∨
      (InR xs a b ∧ 30000 < ys.length ∧ u = .tuple #[.pointer none, .int .i64 5]) ∨
      (InR xs a b ∧ ys.length ≤ 30000 ∧ ¬ (∀ y ∈ ys, ItOk y) ∧ u = .tuple #[.pointer none, .int .i64 1]) ∨
      (InR xs a b ∧ ys.length ≤ 30000 ∧ (∀ y ∈ ys, ItOk y) ∧ 30000 < xs.length - (b - a) + ys.length ∧ u = .tuple #[.pointer none, .int .i64 5]) ∨
      (InR xs a b ∧ ys.length ≤ 30000 ∧ (∀ y ∈ ys, ItOk y) ∧ xs.length - (b - a) + ys.length ≤ 30000 ∧ ∃ v, u = .tuple #[v, .int .i64 0] ∧ Tq w' v (xs.take a.toNat ++ ys ++ xs.drop b.toNat))) := by
  refine S.tree_Tree_Replace.call ?_
  unfold S.tree_Tree_Replace
  have hg : Gd xs := ⟨by omega⟩
  refine (tsum_spec ht).mono ?_
  rintro u w1 ⟨e1, rfl⟩
  rw [sumN, sBin_lss, sIf_dec]
  refine ⟨fun h => ⟨e1, .inl ⟨by omega, rfl⟩⟩, fun h1 => ?_⟩
  rw [sBin_lss, sIf_dec]
  refine ⟨fun h => ⟨e1, .inl ⟨by omega, rfl⟩⟩, fun h2 => ?_⟩
  rw [sBin_gtr, sIf_dec]
  refine ⟨fun h => ⟨e1, .inl ⟨by omega, rfl⟩⟩, fun h3 => ?_⟩
  have hin : InR xs a b := ⟨by omega, by omega, by omega⟩
  refine (new_spec (hl.ext e1)).mono ?_
  rintro u w2 ⟨e2, hu⟩
  have E2 := e1.trans e2
  rcases hu with ⟨h4, rfl⟩ | ⟨h4, h5, rfl⟩ | ⟨h4, h5, q, m, rfl, hqc, hm⟩
  · rw [sExtract_0, sExtract_1, sBin_neq, sIf_not]
    exact ⟨fun _ => ⟨E2, .inr (.inl ⟨hin, h4, rfl⟩)⟩, fun h => by cases h⟩
  · rw [sExtract_0, sExtract_1, sBin_neq, sIf_not]
    exact ⟨fun _ => ⟨E2, .inr (.inr (.inl ⟨hin, h4, h5, rfl⟩))⟩, fun h => by cases h⟩
  rw [sExtract_0, sExtract_1, sBin_neq, sIf_not]
  refine ⟨fun h => absurd rfl h, fun _ => ?_⟩
  rw [sBin_sub _ _ ⟨by omega, by omega⟩, sBin_sub _ _ ⟨by omega, by omega⟩, sLen_sl S.tel_L_item_Item (hl.ext E2), sBin_add _ _ ⟨by omega, by omega⟩, sBin_gtr, sIf_dec]
  refine ⟨fun h => ⟨E2, .inr (.inr (.inr (.inl ⟨hin, h4, h5, by omega, rfl⟩)))⟩, fun h6 => ?_⟩
  refine (top_spec (ht.ext E2)).mono ?_
  rintro r w ⟨rfl, hr⟩
  refine (split_spec hr hg ⟨by omega, by omega⟩).mono ?_
  rintro u w3 ⟨e3, x, y, rfl, hx1, hy1⟩
  rw [sExtract_0, sExtract_1, sBin_sub _ _ ⟨by omega, by omega⟩]
  refine (split_spec hy1 (hg.drop _) ⟨by omega, by omega⟩).mono ?_
  rintro u w4 ⟨e4, x', y', rfl, hx2, hy2⟩
  have E4 := e3.trans e4
  rw [sExtract_0, sExtract_1, sNil_ptr, sFldA_ptr S.tfl_tree_Tree_root, sLoad_cell S.tcell_tree_node ((hqc.ext E4).fst rfl)]
  have hd : (xs.drop a.toNat).drop (b - a).toNat = xs.drop b.toNat := by rw [List.drop_drop]; congr 1; omega
  rw [hd] at hy2
  have l1 : (xs.take a.toNat).length = a.toNat := by rw [List.length_take]; omega
  have l2 : (xs.drop b.toNat).length = xs.length - b.toNat := by rw [List.length_drop]
  refine (join_spec (hx1.ext e4) (hm.ext E4) ⟨by rw [List.length_append]; omega⟩).mono ?_
  rintro u w5 ⟨e5, r5⟩
  refine (join_spec r5 (hy2.ext e5) ⟨by rw [List.length_append, List.length_append]; omega⟩).mono ?_
  rintro u w6 ⟨e6, r6⟩
  refine treeOf r6 fun v w7 e7 hv => ?_
  exact ⟨((((E2.trans E4).trans e5).trans e6).trans e7), .inr (.inr (.inr (.inr ⟨hin, h4, h5, by omega, v, rfl, hv⟩)))⟩

theorem Rt.high {w : World} {v : Value} {xs : List It} (hr : Rt w v xs) (hg : Gd xs) : ∃ h : Nat, (∀ (K : K1), (∀ w', w' = w → K (.int .i64 h) w') → sCall Try.prog S.tree_heightOf.n [v] w K) ∧ (h = 0 ↔ xs = []) ∧ (1 ≤ h → 4 ^ (h - 1) ≤ xs.length) ∧ h ≤ 11 ∧ (2 ≤ h → 2 * 4 ^ (h - 1) ≤ xs.length) := by
  rcases hr with ⟨rfl, rfl⟩ | ⟨h, k, c, rfl, hd⟩
  · refine ⟨0, fun K hK => heightOf_nil.mono ?_, by simp, by simp, by omega, by simp⟩
    rintro u w' ⟨rfl, rfl⟩; exact hK _ rfl
  · have hm := hd.many
    have h8 := hd.le8
    have hp : 1 * 4 ^ h ≤ c * 4 ^ h := Nat.mul_le_mul_right _ h8.1
    have hpos : 0 < 4 ^ h := Nat.pow_pos (by decide)
    refine ⟨h + 1, fun K hK => (heightOf_spec hd).mono ?_, ⟨by omega, fun hx => ?_⟩, fun _ => by rw [Nat.add_sub_cancel]; omega, by have := hd.high hg.n; omega, fun h2 => ?_⟩
    · rintro u w' ⟨rfl, rfl⟩; exact hK _ rfl
    · subst hx; simp at hm; omega
    · rw [Nat.add_sub_cancel]
      have hc2 : 2 ≤ c := by
        cases h with
        | zero => omega
        | succ h => exact hd.2.1
      have := Nat.mul_le_mul_right (4 ^ h) hc2
      omega
end Go.Proofs.Ytmlbaimdphillaa

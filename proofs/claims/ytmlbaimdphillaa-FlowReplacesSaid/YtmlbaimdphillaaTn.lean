/- Nodes of trees: what they hold, how they are made. Conditions: right items, not too many. -/
import Derived.Test.YtmlbaimdphillaaTm
namespace Go.Proofs.Ytmlbaimdphillaa
open Go Go.Lift Go.RowKit

/-- A node's value: a leaf or not; its block. -/
abbrev Nv := Bool × Nat
abbrev lfv (b : Nat) : Value := .iface S.T.P_tree_leaf (.pointer (some ⟨b, 0, none⟩))
abbrev inv (b : Nat) : Value := .iface S.T.P_tree_inner (.pointer (some ⟨b, 0, none⟩))
def ndv (k : Nv) : Value := bif k.1 then lfv k.2 else inv k.2
theorem ndv_t (b : Nat) : ndv (true, b) = lfv b := rfl
theorem ndv_f (b : Nat) : ndv (false, b) = inv b := rfl
def encK (k : Nv) : List Value := [ndv k]
theorem encK_ok : Enc encK 1 := ⟨fun _ => rfl, fun x u hu => by obtain ⟨t, b⟩ := x; simp [encK] at hu; subst hu; cases t <;> rfl⟩
theorem ndv_or (k : Nv) : ndv k = .nilIface ∨ ∃ A x, ndv k = .iface A x := by obtain ⟨t, b⟩ := k; cases t <;> exact .inr ⟨_, _, rfl⟩
theorem ndv_nn (k : Nv) : isNilI (ndv k) = false := by obtain ⟨t, b⟩ := k; cases t <;> rfl

abbrev Kd := Nv × Nat × List It
/-- A node of a height (one less), with so many items or nodes, and all items below it. -/
def Nd (w : World) : Nat → Nv → Nat → List It → Prop
  | 0, k, c, xs => k.1 = true ∧ c = xs.length ∧ 1 ≤ c ∧ c ≤ 8 ∧ ∃ s : SV, Cells w k.2 0 (sv s :: encS (allS xs)) ∧ Sl w (sv s) 7 encT xs
  | h + 1, k, c, xs => k.1 = false ∧ 2 ≤ c ∧ c ≤ 8 ∧ ∃ (s : SV) (ks : List Kd), Cells w k.2 0 (sv s :: .int .i64 ((h : Int) + 2) :: encS (allS xs)) ∧ Sl w (sv s) 1 encK (ks.map (·.1)) ∧ ks.length = c ∧ xs = ks.flatMap (·.2.2) ∧
      ∀ t ∈ ks, 4 ≤ t.2.1 ∧ Nd w h t.1 t.2.1 t.2.2
theorem Nd.ext {w w' : World} (e : Ext w w') : ∀ {h : Nat} {k : Nv} {c : Nat} {xs : List It}, Nd w h k c xs → Nd w' h k c xs
  | 0, _, _, _, h => by
    obtain ⟨h1, h2, h3, h4, s, h5, h6⟩ := h
    exact ⟨h1, h2, h3, h4, s, h5.ext e, h6.ext e⟩
  | n + 1, _, _, _, h => by
    obtain ⟨h1, h3, h4, s, ks, h5, h6, h7, h8, h9⟩ := h
    exact ⟨h1, h3, h4, s, ks, h5.ext e, h6.ext e, h7, h8, fun t ht => ⟨(h9 t ht).1, Nd.ext e (h9 t ht).2⟩⟩
theorem flat_ge {α β : Type} (f : α → List β) (m : Nat) : ∀ (ks : List α), (∀ t ∈ ks, m ≤ (f t).length) → ks.length * m ≤ (ks.flatMap f).length
  | [], _ => by simp
  | k :: ks, h => by
    have := flat_ge f m ks fun t ht => h t (List.mem_cons_of_mem _ ht)
    have := h k (List.mem_cons_self ..)
    simp only [List.length_cons, List.flatMap_cons, List.length_append, Nat.add_mul, Nat.one_mul]
    omega
theorem Nd.many {w : World} : ∀ {h : Nat} {k : Nv} {c : Nat} {xs : List It}, Nd w h k c xs → c * 4 ^ h ≤ xs.length
  | 0, _, _, _, h => by
    obtain ⟨h1, rfl, h3, h4, _⟩ := h
    simp
  | n + 1, _, _, _, h => by
    obtain ⟨h1, h3, h4, s, ks, h5, h6, rfl, rfl, h9⟩ := h
    have hk : ∀ t ∈ ks, 4 ^ (n + 1) ≤ t.2.2.length := fun t ht => by
      have h1 := Nd.many (h9 t ht).2
      have h2 := Nat.mul_le_mul_right (4 ^ n) (h9 t ht).1
      rw [Nat.pow_succ]; omega
    exact flat_ge (fun t : Kd => t.2.2) _ ks hk
theorem Nd.le8 {w : World} {h : Nat} {k : Nv} {c : Nat} {xs : List It} (hd : Nd w h k c xs) : 1 ≤ c ∧ c ≤ 8 := by
  cases h with
  | zero => exact ⟨hd.2.2.1, hd.2.2.2.1⟩
  | succ h => have := hd.2.1; exact ⟨by omega, hd.2.2.1⟩
theorem Nd.high {w : World} {h : Nat} {k : Nv} {c : Nat} {xs : List It} (hd : Nd w h k c xs) (hn : xs.length ≤ 1000000) : h ≤ 10 := by
  have h1 := hd.many
  have h2 := hd.le8
  have h3 : 4 ^ h ≤ 1000000 := by have := Nat.mul_le_mul_right (4 ^ h) h2.1; omega
  refine Nat.le_of_not_lt fun hlt => ?_
  have := Nat.pow_le_pow_right (n := 4) (by decide) (show 11 ≤ h from hlt)
  have : (4 : Nat) ^ 11 = 4194304 := by decide
  omega
/-- Not too many items. -/
structure Gd (xs : List It) : Prop where
  n : xs.length ≤ 1000000
theorem Gd.sub {xs ys : List It} (h : Gd xs) (_hm : ∀ x ∈ ys, x ∈ xs) (hl : ys.length ≤ xs.length) : Gd ys := ⟨Nat.le_trans hl h.n⟩
theorem Gd.take {xs : List It} (h : Gd xs) (n : Nat) : Gd (xs.take n) := h.sub (fun x hx => List.mem_of_mem_take hx) (by rw [List.length_take]; omega)
theorem Gd.drop {xs : List It} (h : Gd xs) (n : Nat) : Gd (xs.drop n) := h.sub (fun x hx => List.mem_of_mem_drop hx) (by rw [List.length_drop]; omega)
theorem flat_mem_len {ks : List Kd} {t : Kd} (ht : t ∈ ks) : t.2.2.length ≤ (ks.flatMap (·.2.2)).length := by
  induction ks with
  | nil => cases ht
  | cons k ks ih =>
    rw [List.flatMap_cons, List.length_append]
    rcases List.mem_cons.1 ht with rfl | ht
    · omega
    · have := ih ht; omega
theorem Gd.kid {ks : List Kd} {t : Kd} (h : Gd (ks.flatMap (·.2.2))) (ht : t ∈ ks) : Gd t.2.2 := h.sub (fun _ hx => List.mem_flatMap.2 ⟨t, ht, hx⟩) (flat_mem_len ht)

theorem sl_cap {α : Type} {w : World} {v : Value} {k : Nat} {enc : α → List Value} {xs : List α} (h : Sl w v k enc xs) : xs.length ≤ capV v := by
  obtain ⟨a, cap, rfl, h1, _⟩ := h; exact h1

theorem sumOf_spec {w : World} {h : Nat} {k : Nv} {c : Nat} {xs : List It} (hd : Nd w h k c xs) : sCall Try.prog S.tree_sumOf.n [ndv k] w fun u w' => Ext w w' ∧ u = .agg (encS (allS xs)).toArray := by
  refine S.tree_sumOf.call ?_
  unfold S.tree_sumOf
  refine sAlloc_new S.tze_item_Sum fun b w1 hb hs1 e1 hk => ?_
  obtain ⟨t, bk⟩ := k
  cases h with
  | zero =>
    obtain ⟨rfl, _, _, _, s, hc, hsl⟩ := hd.ext e1
    rw [ndv_t, sAssert_yes S.tcq_P_tree_leaf, sExtract_1, sExtract_0, sIf_true, sNil_ptr, sFldA_ptr S.tfl_tree_leaf_sum, sLoad_agg (cs := encS (allS xs)) S.tagg_item_Sum (hc.sub 1 6) rfl]
    refine sStore_blk S.tsz_item_Sum (by decide) hk (vs := encS (allS xs)) rfl rfl (by simp) (encS_one _) fun w7 hs7 hg7 hk7 => ?_
    rw [sLoad_agg (cs := encS (allS xs)) S.tagg_item_Sum hk7.cells rfl]
    exact ⟨rfl, e1.wr hg7 (by rintro _ ⟨⟩; omega), rfl⟩
  | succ h =>
    obtain ⟨rfl, _, _, s, ks, hc, _⟩ := hd.ext e1
    obtain ⟨z, hz⟩ := sAssert_no (P := Try.prog) (T := S.T.tree_node) (v := .pointer (some ⟨bk, 0, none⟩)) (B := S.T.P_tree_inner) S.tcq_P_tree_leaf (by decide)
    rw [ndv_f, hz, sExtract_1, sExtract_0, sIf_false, sAssert_yes S.tcq_P_tree_inner, sExtract_1, sExtract_0, sIf_true, sNil_ptr, sFldA_ptr S.tfl_tree_inner_sum, sLoad_agg (cs := encS (allS xs)) S.tagg_item_Sum (hc.sub 2 6) rfl]
    refine sStore_blk S.tsz_item_Sum (by decide) hk (vs := encS (allS xs)) rfl rfl (by simp) (encS_one _) fun w7 hs7 hg7 hk7 => ?_
    rw [sLoad_agg (cs := encS (allS xs)) S.tagg_item_Sum hk7.cells rfl]
    exact ⟨rfl, e1.wr hg7 (by rintro _ ⟨⟩; omega), rfl⟩
theorem sumOf_nil {w : World} : sCall Try.prog S.tree_sumOf.n [.nilIface] w fun u w' => Ext w w' ∧ u = .agg (encS zeroS).toArray := by
  refine S.tree_sumOf.call ?_
  unfold S.tree_sumOf
  refine sAlloc_new S.tze_item_Sum fun b w1 hb hs1 e1 hk => ?_
  obtain ⟨z, hz⟩ := sAssert_nil (P := Try.prog) (T := S.T.tree_node) S.tcq_P_tree_leaf
  obtain ⟨z2, hz2⟩ := sAssert_nil (P := Try.prog) (T := S.T.tree_node) S.tcq_P_tree_inner
  rw [hz, sExtract_1, sExtract_0, sIf_false, hz2, sExtract_1, sExtract_0, sIf_false, sBuild_of (cs := encS zeroS) (lp := []) S.tze_item_Sum S.tpl_item_Sum rfl rfl]
  refine sStore_blk S.tsz_item_Sum (by decide) hk (vs := encS zeroS) rfl rfl (by simp) (encS_one _) fun w7 hs7 hg7 hk7 => ?_
  rw [sLoad_agg (cs := encS zeroS) S.tagg_item_Sum hk7.cells rfl]
  exact ⟨rfl, e1.wr hg7 (by rintro _ ⟨⟩; omega), rfl⟩

theorem heightOf_spec {w : World} {h : Nat} {k : Nv} {c : Nat} {xs : List It} (hd : Nd w h k c xs) : sCall Try.prog S.tree_heightOf.n [ndv k] w fun u w' => w' = w ∧ u = .int .i64 ((h : Int) + 1) := by
  refine S.tree_heightOf.call ?_
  unfold S.tree_heightOf
  obtain ⟨t, bk⟩ := k
  cases h with
  | zero =>
    obtain ⟨rfl, _⟩ := hd
    rw [ndv_t, sAssert_yes S.tcq_P_tree_leaf, sExtract_1, sExtract_0, sIf_true]
    exact ⟨rfl, rfl⟩
  | succ h =>
    obtain ⟨rfl, _, _, s, ks, hc, _⟩ := hd
    obtain ⟨z, hz⟩ := sAssert_no (P := Try.prog) (T := S.T.tree_node) (v := .pointer (some ⟨bk, 0, none⟩)) (B := S.T.P_tree_inner) S.tcq_P_tree_leaf (by decide)
    rw [ndv_f, hz, sExtract_1, sExtract_0, sIf_false, sAssert_yes S.tcq_P_tree_inner, sExtract_1, sExtract_0, sIf_true, sNil_ptr, sFldA_ptr S.tfl_tree_inner_height, sLoad_cell S.tcell_int (hc.at 1 rfl)]
    exact ⟨rfl, rfl⟩
theorem heightOf_nil {w : World} : sCall Try.prog S.tree_heightOf.n [.nilIface] w fun u w' => w' = w ∧ u = .int .i64 0 := by
  refine S.tree_heightOf.call ?_
  unfold S.tree_heightOf
  obtain ⟨z, hz⟩ := sAssert_nil (P := Try.prog) (T := S.T.tree_node) S.tcq_P_tree_leaf
  obtain ⟨z2, hz2⟩ := sAssert_nil (P := Try.prog) (T := S.T.tree_node) S.tcq_P_tree_inner
  rw [hz, sExtract_1, sExtract_0, sIf_false, hz2, sExtract_1, sExtract_0, sIf_false]
  exact ⟨rfl, rfl⟩

theorem leafOf_spec {w : World} {l : Value} {xs : List It} (hl : Sl w l 7 encT xs) (hg : Gd xs) (h1 : 1 ≤ xs.length) (h8 : xs.length ≤ 8) :
    sCall Try.prog S.tree_leafOf.n [l] w fun u w' => Ext w w' ∧ ∃ b, u = .pointer (some ⟨b, 0, none⟩) ∧ Nd w' 0 (true, b) xs.length xs := by
  refine S.tree_leafOf.call ?_
  unfold S.tree_leafOf
  refine (all_spec hl hg.n).mono ?_
  rintro u w1 ⟨e1, rfl⟩
  obtain ⟨s, rfl⟩ := hl.sv
  rw [sBuild_of (cs := sv s :: encS (allS xs)) (lp := [(0, [sv s]), (1, encS (allS xs))]) S.tze_tree_leaf S.tpl_tree_leaf rfl rfl]
  refine sBox_new (cs := sv s :: encS (allS xs)) rfl fun b w2 hb hs2 e2 hk => ?_
  exact ⟨e1.trans e2, b, rfl, rfl, rfl, h1, h8, s, hk.cells, hl.ext (e1.trans e2)⟩

theorem kids_at {ks : List Kd} {i : Nat} {t : Kd} (h : ks[i]? = some t) : (ks.map (·.1))[i]? = some t.1 := by rw [List.getElem?_map, h]; rfl
theorem innerOf_spec {w : World} {l : Value} {ks : List Kd} {h : Nat} (hl : Sl w l 1 encK (ks.map (·.1))) (hk : ∀ t ∈ ks, 4 ≤ t.2.1 ∧ Nd w h t.1 t.2.1 t.2.2) (hg : Gd (ks.flatMap (·.2.2))) (h1 : 2 ≤ ks.length) (h8 : ks.length ≤ 8) :
    sCall Try.prog S.tree_innerOf.n [l] w fun u w' => Ext w w' ∧ ∃ b, u = .pointer (some ⟨b, 0, none⟩) ∧ Nd w' (h + 1) (false, b) ks.length (ks.flatMap (·.2.2)) := by
  refine S.tree_innerOf.call ?_
  unfold S.tree_innerOf
  obtain ⟨t0, ht0⟩ : ∃ t, ks[0]? = some t := ⟨_, List.getElem?_eq_getElem (by omega)⟩
  have hk0 := hk t0 (List.mem_of_getElem? ht0)
  have hhi := hk0.2.high (hg.kid (List.mem_of_getElem? ht0)).n
  obtain ⟨b0, o0, hel0, hc0⟩ := hl.el (kids_at ht0)
  rw [sIdxA_sl (i := 0) (z := 0) S.tel_L_tree_node S.tsz_tree_node (by omega) hl (kids_at ht0) rfl, hel0, sLoad_cell S.tcell_tree_node (hc0.fst rfl)]
  refine (heightOf_spec hk0.2).mono ?_
  rintro u w1 ⟨rfl, rfl⟩
  obtain ⟨s, rfl⟩ := hl.sv
  have h2 : (h : Int) + 1 + 1 = (h : Int) + 2 := by omega
  rw [sBin_add _ _ ⟨by omega, by omega⟩, h2, sBuild_of (cs := sv s :: .int .i64 ((h : Int) + 2) :: encS zeroS) (lp := [(0, [sv s]), (1, [.int .i64 ((h : Int) + 2)])]) S.tze_tree_inner S.tpl_tree_inner rfl rfl]
  refine sBox_new (cs := sv s :: .int .i64 ((h : Int) + 2) :: encS zeroS) rfl fun b w2 hb hs2 e2 hk2 => ?_
  rw [sLen_sl S.tel_L_tree_node (hl.ext e2), List.length_map]
  refine LoopS.intro (fun us w3 => Ext w1 w3 ∧ ∃ i : Nat, us = [.int .i64 i] ∧ i ≤ ks.length ∧ Blk w3 b (sv s :: .int .i64 ((h : Int) + 2) :: encS (allS ((ks.take i).flatMap (·.2.2)))))
    (fun us _ => match us with | [.int _ a] => (ks.length - a).toNat | _ => 0) ⟨e2, 0, rfl, by omega, hk2⟩ ?_
  rintro us vs w3 ⟨e3, i, rfl, hi, k3⟩
  unfold S.tree_innerOf_L1
  rw [Go.Lift.hd, sBin_lss, sIf_dec]
  refine ⟨fun hlt => ?_, fun hge => ?_⟩
  · obtain ⟨t, ht⟩ : ∃ t, ks[i]? = some t := ⟨_, List.getElem?_eq_getElem (by omega)⟩
    have hm := List.mem_of_getElem? ht
    have hkt := hk t hm
    obtain ⟨b1, o1, hel1, hc1⟩ := (hl.ext e3).el (kids_at ht)
    rw [sIdxA_sl S.tel_L_tree_node S.tsz_tree_node (by omega) (hl.ext e3) (kids_at ht) rfl, hel1, sLoad_cell S.tcell_tree_node (hc1.fst rfl)]
    refine DrawS.ext ?_
    have E : Ext w3 w3.drew := (Ext.refl w3).drew
    rw [sNil_ptr, stillS_eq (fun w1 h1 K => sFldA_ptr S.tfl_tree_inner_sum) E, stillS_agg (cs := encS (allS ((ks.take i).flatMap (·.2.2)))) S.tagg_item_Sum (k3.cells.sub 2 6) rfl E]
    refine (sumOf_spec ((hkt.2.ext e3).ext E)).mono ?_
    rintro u w5 ⟨e5, rfl⟩
    have F5 := E.trans e5
    refine ⟨F5, ?_⟩
    have hgt := hg.kid hm
    have hsub : Gd ((ks.take i).flatMap (·.2.2)) := hg.sub (fun x hx => by
        obtain ⟨q, hq, hx⟩ := List.mem_flatMap.1 hx
        exact List.mem_flatMap.2 ⟨q, List.mem_of_mem_take hq, hx⟩) (by
        have := congrArg (fun l : List Kd => (l.flatMap (·.2.2)).length) (List.take_append_drop i ks)
        simp only [List.flatMap_append, List.length_append] at this
        omega)
    refine (add_spec (AddB.all (by have := hsub.n; omega) (by have := hgt.n; omega))).mono ?_
    rintro u w6 ⟨e6, rfl⟩
    have G := F5.trans e6
    refine ⟨G, ?_⟩
    rw [sNil_ptr, stillS_eq (fun w1 h1 K => sFldA_ptr S.tfl_tree_inner_sum) G]
    refine sStore_blk S.tsz_item_Sum (by decide) (k3.ext G) (vs := encS (addS (allS ((ks.take i).flatMap (·.2.2))) (allS t.2.2))) rfl rfl (by simp [encS]) (encS_one _) fun w7 hs7 hg7 hk7 => ?_
    rw [sBin_add _ _ ⟨by omega, by omega⟩]
    have hG := (e3.trans G).size
    refine ⟨⟨(e3.trans G).wr hg7 (by rintro _ ⟨⟩; omega), i + 1, by simp, by omega, ?_⟩, by simp only []; omega⟩
    rw [take_succ_of ht, List.flatMap_append, List.flatMap_singleton, allS_append]
    exact hk7
  · obtain rfl : i = ks.length := by omega
    rw [List.take_length] at k3
    exact ⟨e3, b, rfl, rfl, h1, h8, s, ks, k3.cells, hl.ext e3, rfl, rfl, fun t ht => ⟨(hk t ht).1, (hk t ht).2.ext e3⟩⟩
end Go.Proofs.Ytmlbaimdphillaa

/- What the statements' own helpers give: items and sums of the document, which items are right. Conditions: not too many items. -/
import Derived.Test.YtmlbaimdphillaaU5
namespace Go.Proofs.Ytmlbaimdphillaa.R05
open Go Go.Lift Go.RowKit

theorem ref_spec {w : World} (x : It) : sCall Try.prog S.bodkinlaw05_ref.n [.agg (encT x).toArray] w fun u w' => Ext w w' ∧ u = .agg (encT x).toArray := by
  refine S.bodkinlaw05_ref.call ?_
  unfold S.bodkinlaw05_ref
  refine sBox_new (cs := encT x) rfl fun b1 w1 hb1 hs1 e1 hk1 => ?_
  refine sAlloc_new S.tze_bodkinref04_Item fun b2 w2 hb2 hs2 e2 hk2 => ?_
  have k1 := hk1.ext e2
  have s1 := e1.size
  rw [sFldA_ptr S.tfl_item_Item_Tag, sLoad_cell S.tcell_int (k1.cells.at 0 rfl), sFldA_ptr S.tfl_item_Item_ID, sLoad_cell S.tcell_int (k1.cells.at 1 rfl), sFldA_ptr S.tfl_item_Item_D, sLoad_agg (cs := [.int .i64 x.d0, .int .i64 x.d1, .int .i64 x.d2]) S.tagg_A3_int (k1.cells.sub 2 3) rfl,
    sFldA_ptr S.tfl_item_Item_Max, sLoad_cell S.tcell_int (k1.cells.at 5 rfl), sFldA_ptr S.tfl_item_Item_Text, sLoad_cell S.tcell_string (k1.cells.at 6 rfl),
    sBuild_of (cs := encT x) (lp := [(0, [.int .i64 x.tag]), (1, [.int .i64 x.id]), (2, [.int .i64 x.d0, .int .i64 x.d1, .int .i64 x.d2]), (3, [.int .i64 x.mx]), (4, [.string x.text])]) S.tze_bodkinref04_Item S.tpl_bodkinref04_Item rfl rfl]
  refine sStore_blk S.tsz_bodkinref04_Item (by decide) hk2 (vs := encT x) rfl rfl (by simp) (encT_ok.one x) fun w3 hs3 hg3 hk3 => ?_
  rw [sLoad_agg (cs := encT x) S.tagg_bodkinref04_Item hk3.cells rfl]
  exact ⟨rfl, (e1.trans e2).wr hg3 (by rintro _ ⟨⟩; omega), rfl⟩
theorem refSum_spec {w : World} (x : Su) : sCall Try.prog S.bodkinlaw05_refSum.n [.agg (encS x).toArray] w fun u w' => Ext w w' ∧ u = .agg (encS x).toArray := by
  refine S.bodkinlaw05_refSum.call ?_
  unfold S.bodkinlaw05_refSum
  refine sBox_new (cs := encS x) rfl fun b1 w1 hb1 hs1 e1 hk1 => ?_
  refine sAlloc_new S.tze_bodkinref04_Sum fun b2 w2 hb2 hs2 e2 hk2 => ?_
  have k1 := hk1.ext e2
  have s1 := e1.size
  rw [sFldA_ptr S.tfl_item_Sum_N, sLoad_cell S.tcell_int (k1.cells.at 0 rfl), sFldA_ptr S.tfl_item_Sum_D, sLoad_agg (cs := [.int .i64 x.d0, .int .i64 x.d1, .int .i64 x.d2]) S.tagg_A3_int (k1.cells.sub 1 3) rfl,
    sFldA_ptr S.tfl_item_Sum_Max, sLoad_cell S.tcell_int (k1.cells.at 4 rfl), sFldA_ptr S.tfl_item_Sum_At, sLoad_cell S.tcell_int (k1.cells.at 5 rfl),
    sBuild_of (cs := encS x) (lp := [(0, [.int .i64 x.n]), (1, [.int .i64 x.d0, .int .i64 x.d1, .int .i64 x.d2]), (2, [.int .i64 x.mx]), (3, [.int .i64 x.at_])]) S.tze_bodkinref04_Sum S.tpl_bodkinref04_Sum rfl rfl]
  refine sStore_blk S.tsz_bodkinref04_Sum (by decide) hk2 (vs := encS x) rfl rfl (by simp) (encS_one x) fun w3 hs3 hg3 hk3 => ?_
  rw [sLoad_agg (cs := encS x) S.tagg_bodkinref04_Sum hk3.cells rfl]
  exact ⟨rfl, (e1.trans e2).wr hg3 (by rintro _ ⟨⟩; omega), rfl⟩
theorem refs_row {w : World} {l : Value} {xs : List It} (hl : Sl w l 7 encT xs) (hn : xs.length ≤ 1000000) : sCall Try.prog S.bodkinlaw05_refs.n [l] w fun u w' => Ext w w' ∧ Row w' w.heap.size S.T.bodkinref04_Item 7 u encT xs := by
  refine S.bodkinlaw05_refs.call ?_
  unfold S.bodkinlaw05_refs
  have hmx : maxLen = 9223372036854775807 := rfl
  rw [sLen_sl S.tel_L_item_Item hl]
  refine LoopS.intro (fun us w1 => Ext w w1 ∧ ∃ (i : Nat) (v : Value), us = [v, .int .i64 i] ∧ i ≤ xs.length ∧ Row w1 w.heap.size S.T.bodkinref04_Item 7 v encT (xs.take i))
    (fun us _ => match us with | [_, .int _ a] => (xs.length - a).toNat | _ => 0) ⟨Ext.refl w, 0, _, rfl, Nat.zero_le _, Row.nil _ _ _ _ _⟩ ?_
  rintro us vs w1 ⟨e1, i, v, rfl, hi, hv⟩
  unfold S.bodkinlaw05_refs_L1
  rw [hd, tl, hd, sBin_lss, sIf_dec]
  refine ⟨fun hlt => ?_, fun hge => ?_⟩
  · obtain ⟨x, hx⟩ : ∃ x, xs[i]? = some x := ⟨_, List.getElem?_eq_getElem (by omega)⟩
    obtain ⟨b, o, hel, hc⟩ := (hl.ext e1).el hx
    rw [sIdxA_sl S.tel_L_item_Item S.tsz_item_Item (by omega) (hl.ext e1) hx rfl, hel, sLoad_agg S.tagg_item_Item hc rfl]
    refine sVar S.tze_item_Item S.tsz_item_Item (by decide) rfl rfl (encT_ok.one x) fun b2 w2 hb2 hs2 e2 hk2 => ?_
    rw [sLoad_agg S.tagg_item_Item hk2.cells rfl]
    refine (ref_spec x).mono ?_
    rintro u w3 ⟨e3, rfl⟩
    have F3 := e2.trans e3
    refine sBuildSlice_own (n := 1) (enc := encT) (xs := [x]) (lp := [(0, encT x)]) S.tel_L_bodkinref04_Item S.tsz_bodkinref04_Item rfl S.tze_bodkinref04_Item (by decide) (by decide) encT_ok rfl rfl fun t w4 ht ho4 e4 hs4 => ?_
    refine sAppend_row S.tel_L_bodkinref04_Item S.tsz_bodkinref04_Item (by decide) S.tze_bodkinref04_Item rfl encT_ok ((hv.ext F3).ext e4) (by have := (e1.trans F3).size; omega) (ho4.sl encT_ok) (by simp; omega) (by rw [S.tby_bodkinref04_Item]; simp; omega) fun v' w5 hv5 hg5 _ => ?_
    rw [sBin_add _ _ ⟨by omega, by omega⟩]
    refine ⟨⟨((e1.trans F3).trans e4).wr hg5 fun g hg => (hv.lt g hg).1, i + 1, v', by simp, by omega, ?_⟩, by simp only []; omega⟩
    rw [take_succ_of hx]; exact hv5
  · obtain rfl : i = xs.length := by omega
    rw [List.take_length] at hv
    exact ⟨e1, hv⟩
theorem refs_spec {w : World} {l : Value} {xs : List It} (hl : Sl w l 7 encT xs) (hn : xs.length ≤ 1000000) : sCall Try.prog S.bodkinlaw05_refs.n [l] w fun u w' => Ext w w' ∧ Sl w' u 7 encT xs :=
  (refs_row hl hn).mono fun _ _ h => ⟨h.1, h.2.sl encT_ok⟩
theorem right_spec {w : World} {l : Value} {xs : List It} (hl : Sl w l 7 encT xs) : sCall Try.prog S.bodkinlaw05_right.n [l] w fun u w' => Ext w w' ∧ ∃ r : Bool, u = .bool r ∧ (r = true ↔ xs.length ≤ 600 ∧ ∀ x ∈ xs, ItOk x) := by
  refine S.bodkinlaw05_right.call ?_
  unfold S.bodkinlaw05_right
  rw [sLen_sl S.tel_L_item_Item hl, sBin_gtr, sIf_dec]
  refine ⟨fun h => ⟨Ext.refl w, false, rfl, by simp only [Bool.false_eq_true, false_iff]; omega⟩, fun hn => ?_⟩
  rw [sLen_sl S.tel_L_item_Item hl]
  refine LoopS.intro (fun us w1 => Ext w w1 ∧ ∃ i : Nat, us = [.int .i64 i] ∧ i ≤ xs.length ∧ ∀ x ∈ xs.take i, ItOk x)
    (fun us _ => match us with | [.int _ a] => (xs.length - a).toNat | _ => 0) ⟨Ext.refl w, 0, rfl, Nat.zero_le _, by simp⟩ ?_
  rintro us vs w1 ⟨e1, i, rfl, hi, hok⟩
  unfold S.bodkinlaw05_right_L1
  rw [hd, sBin_lss, sIf_dec]
  refine ⟨fun hlt => ?_, fun hge => ?_⟩
  · obtain ⟨x, hx⟩ : ∃ x, xs[i]? = some x := ⟨_, List.getElem?_eq_getElem (by omega)⟩
    obtain ⟨b, o, hel, hc⟩ := (hl.ext e1).el hx
    rw [sIdxA_sl S.tel_L_item_Item S.tsz_item_Item (by omega) (hl.ext e1) hx rfl, hel, sLoad_agg S.tagg_item_Item hc rfl]
    refine sVar S.tze_item_Item S.tsz_item_Item (by decide) rfl rfl (encT_ok.one x) fun b2 w2 hb2 hs2 e2 hk2 => ?_
    rw [sLoad_agg S.tagg_item_Item hk2.cells rfl]
    refine (ref_spec x).mono ?_
    rintro u w3 ⟨e3, rfl⟩
    refine (rright_spec x).mono ?_
    rintro u w4 ⟨e4, r, rfl, hr⟩
    have E4 := ((e1.trans e2).trans e3).trans e4
    rw [sUn_not, sIf_bool]
    refine ⟨fun h => ⟨E4, false, rfl, ?_⟩, fun h => ?_⟩
    · simp only [Bool.false_eq_true, false_iff]
      rintro ⟨_, h'⟩
      rw [hr.2 (h' x (List.mem_of_getElem? hx))] at h; cases h
    · rw [sBin_add _ _ ⟨by omega, by omega⟩]
      refine ⟨⟨E4, i + 1, by simp, by omega, fun y hy => ?_⟩, by simp only []; omega⟩
      rw [take_succ_of hx] at hy
      rcases List.mem_append.1 hy with hy | hy
      · exact hok y hy
      · simp at hy; subst hy; exact hr.1 (by simpa using h)
  · obtain rfl : i = xs.length := by omega
    rw [List.take_length] at hok
    exact ⟨e1, true, rfl, by simp only [true_iff]; exact ⟨by omega, hok⟩⟩
end Go.Proofs.Ytmlbaimdphillaa.R05

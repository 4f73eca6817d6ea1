/- Flows of lines: what their functions give. Conditions: those of memory and size. -/
import Derived.Test.YtmlbaimdphillaaU6
namespace Go.Proofs.Ytmlbaimdphillaa
open Go Go.Lift Go.RowKit

/-- A line: its shown runes, those of the buffer, its rows, how wide. -/
structure Ln where
  sh : Int
  bf : Int
  rw : Int
  wd : Int
def encL (x : Ln) : List Value := [.int .i64 x.sh, .int .i64 x.bf, .int .i64 x.rw, .int .i64 x.wd]
theorem encL_ok : Enc encL 4 := ⟨fun _ => rfl, fun x u hu => by simp [encL] at hu; rcases hu with rfl | rfl | rfl | rfl <;> rfl⟩
theorem encL_inj {x y : Ln} (h : encL x = encL y) : x = y := by
  cases x; cases y; simp [encL] at h
  obtain ⟨rfl, rfl, rfl, rfl⟩ := h; rfl
def itL (x : Ln) : It := ⟨0, 0, x.sh, x.bf, x.rw, x.wd, ⟨#[]⟩⟩
def lnI (x : It) : Ln := ⟨x.d0, x.d1, x.d2, x.mx⟩
def lnS (s : Su) : Ln := ⟨s.d0, s.d1, s.d2, s.mx⟩
theorem lnI_itL (x : Ln) : lnI (itL x) = x := rfl
abbrev LnOk (x : Ln) : Prop := (R40 x.sh ∧ R40 x.bf ∧ R40 x.rw ∧ R40 x.wd) ∧ 0 < x.rw
theorem itL_ok (x : Ln) : ItOk (itL x) ↔ (R40 x.sh ∧ R40 x.bf ∧ R40 x.rw ∧ R40 x.wd) := Iff.rfl

theorem itemOf_spec {w : World} (x : Ln) : sCall Try.prog S.flow_itemOf.n [.agg (encL x).toArray] w fun u w' => Ext w w' ∧ u = .agg (encT (itL x)).toArray := by
  refine S.flow_itemOf.call ?_
  unfold S.flow_itemOf
  refine sBox_new (cs := encL x) rfl fun b1 w1 hb1 hs1 e1 hk1 => ?_
  refine sAlloc_new S.tze_item_Item fun b2 w2 hb2 hs2 e2 hk2 => ?_
  have k1 := hk1.ext e2
  have s1 := e1.size
  rw [sFldA_ptr S.tfl_flow_Line_Shown, sLoad_cell S.tcell_int (k1.cells.at 0 rfl), sFldA_ptr S.tfl_flow_Line_Buffer, sLoad_cell S.tcell_int (k1.cells.at 1 rfl), sFldA_ptr S.tfl_flow_Line_Rows, sLoad_cell S.tcell_int (k1.cells.at 2 rfl),
    arr3, sFldA_ptr S.tfl_flow_Line_Wide, sLoad_cell S.tcell_int (k1.cells.at 3 rfl), sBuild_of (cs := encT (itL x)) (lp := [(2, [.int .i64 x.sh, .int .i64 x.bf, .int .i64 x.rw]), (3, [.int .i64 x.wd])]) S.tze_item_Item S.tpl_item_Item rfl rfl]
  refine sStore_blk S.tsz_item_Item (by decide) hk2 (vs := encT (itL x)) rfl rfl (by simp) (encT_ok.one _) fun w3 hs3 hg3 hk3 => ?_
  rw [sLoad_agg (cs := encT (itL x)) S.tagg_item_Item hk3.cells rfl]
  exact ⟨rfl, (e1.trans e2).wr hg3 (by rintro _ ⟨⟩; omega), rfl⟩
theorem lineOf_spec {w : World} (x : It) : sCall Try.prog S.flow_lineOf.n [.agg (encT x).toArray] w fun u w' => Ext w w' ∧ u = .agg (encL (lnI x)).toArray := by
  refine S.flow_lineOf.call ?_
  unfold S.flow_lineOf
  refine sBox_new (cs := encT x) rfl fun b1 w1 hb1 hs1 e1 hk1 => ?_
  refine sAlloc_new S.tze_flow_Line fun b2 w2 hb2 hs2 e2 hk2 => ?_
  have k1 := hk1.ext e2
  have s1 := e1.size
  rw [sFldA_ptr S.tfl_item_Item_D, sIdxA_arr (i := 0) (z := 0) S.tar_A3_int S.tsz_int (by omega) (by omega) rfl, sLoad_cell S.tcell_int (k1.cells.at 2 rfl), sFldA_ptr S.tfl_item_Item_D, sIdxA_arr (i := 1) (z := 1) S.tar_A3_int S.tsz_int (by omega) (by omega) rfl, sLoad_cell S.tcell_int (k1.cells.at 3 rfl),
    sFldA_ptr S.tfl_item_Item_D, sIdxA_arr (i := 2) (z := 2) S.tar_A3_int S.tsz_int (by omega) (by omega) rfl, sLoad_cell S.tcell_int (k1.cells.at 4 rfl), sFldA_ptr S.tfl_item_Item_Max, sLoad_cell S.tcell_int (k1.cells.at 5 rfl),
    sBuild_of (cs := encL (lnI x)) (lp := [(0, [.int .i64 x.d0]), (1, [.int .i64 x.d1]), (2, [.int .i64 x.d2]), (3, [.int .i64 x.mx])]) S.tze_flow_Line S.tpl_flow_Line rfl rfl]
  refine sStore_blk S.tsz_flow_Line (by decide) hk2 (vs := encL (lnI x)) rfl rfl (by simp) (encL_ok.one _) fun w3 hs3 hg3 hk3 => ?_
  rw [sLoad_agg (cs := encL (lnI x)) S.tagg_flow_Line hk3.cells rfl]
  exact ⟨rfl, (e1.trans e2).wr hg3 (by rintro _ ⟨⟩; omega), rfl⟩

theorem fitems_spec {w : World} {l : Value} {ls : List Ln} (hl : Sl w l 4 encL ls) (hn : ls.length ≤ 1000000) : sCall Try.prog S.flow_items.n [l] w fun u w' => Ext w w' ∧ ∃ (v : Value) (ok : Bool), u = .tuple #[v, .bool ok] ∧ Sl w' v 7 encT (ls.map itL) ∧ (ok = true ↔ ∀ x ∈ ls, 0 < x.rw) := by
  refine S.flow_items.call ?_
  unfold S.flow_items
  have hmx : maxLen = 9223372036854775807 := rfl
  rw [sLen_sl S.tel_L_flow_Line hl]
  refine LoopS.intro (fun us w1 => Ext w w1 ∧ ∃ (i : Nat) (v : Value) (ok : Bool), us = [.bool ok, v, .int .i64 i] ∧ i ≤ ls.length ∧ Row w1 w.heap.size S.T.item_Item 7 v encT ((ls.take i).map itL) ∧ (ok = true ↔ ∀ x ∈ ls.take i, 0 < x.rw))
    (fun us _ => match us with | [_, _, .int _ a] => (ls.length - a).toNat | _ => 0) ⟨Ext.refl w, 0, _, true, rfl, Nat.zero_le _, Row.nil _ _ _ _ _, by simp⟩ ?_
  rintro us vs w1 ⟨e1, i, v, ok, rfl, hi, hv, hok⟩
  unfold S.flow_items_L1
  rw [hd, tl, hd, tl, hd, sBin_lss, sIf_dec]
  refine ⟨fun hlt => ?_, fun hge => ?_⟩
  · obtain ⟨x, hx⟩ : ∃ x, ls[i]? = some x := ⟨_, List.getElem?_eq_getElem (by omega)⟩
    obtain ⟨b, o, hel, hc⟩ := (hl.ext e1).el hx
    rw [sIdxA_sl S.tel_L_flow_Line S.tsz_flow_Line (by omega) (hl.ext e1) hx rfl, hel, sLoad_agg S.tagg_flow_Line hc rfl]
    refine sVar S.tze_flow_Line S.tsz_flow_Line (by decide) rfl rfl (encL_ok.one x) fun b2 w2 hb2 hs2 e2 hk2 => ?_
    refine JoinS.intro (fun us w' => w' = w2 ∧ ∃ q : Bool, us = [.bool q] ∧ (q = true ↔ ok = true ∧ 0 < x.rw)) ?_ ?_
    · rw [sIf_bool]
      refine ⟨fun h => ?_, fun h => ⟨rfl, false, rfl, by simp [h]⟩⟩
      rw [sFldA_ptr S.tfl_flow_Line_Rows, sLoad_cell S.tcell_int (hk2.cells.at 2 rfl), sBin_gtr]
      exact ⟨rfl, _, rfl, by simp [h]⟩
    rintro us vs w2 ⟨rfl, q, rfl, hq⟩
    unfold S.flow_items_J2
    rw [hd, sLoad_agg (cs := encL x) S.tagg_flow_Line hk2.cells rfl]
    refine (itemOf_spec x).mono ?_
    rintro u w3 ⟨e3, rfl⟩
    have F3 := e2.trans e3
    have hml : ((ls.take i).map itL).length = i := by rw [List.length_map, List.length_take]; omega
    refine sBuildSlice_own (n := 1) (enc := encT) (xs := [itL x]) (lp := [(0, encT (itL x))]) S.tel_L_item_Item S.tsz_item_Item rfl S.tze_item_Item (by decide) (by decide) encT_ok rfl rfl fun t w4 ht ho4 e4 hs4 => ?_
    refine sAppend_row S.tel_L_item_Item S.tsz_item_Item (by decide) S.tze_item_Item rfl encT_ok ((hv.ext F3).ext e4) (by have := (e1.trans F3).size; omega) (ho4.sl encT_ok) (by rw [hml, List.length_singleton]; omega) (by rw [S.tby_item_Item, hml, List.length_singleton]; omega) fun v' w5 hv5 hg5 _ => ?_
    rw [sBin_add _ _ ⟨by omega, by omega⟩]
    refine ⟨⟨((e1.trans F3).trans e4).wr hg5 fun g hg => (hv.lt g hg).1, i + 1, v', q, by simp, by omega, ?_, ?_⟩, by simp only []; omega⟩
    · rw [take_succ_of hx, List.map_append]; exact hv5
    · rw [hq, hok, take_succ_of hx]
      constructor
      · rintro ⟨h1, h2⟩ y hy
        rcases List.mem_append.1 hy with hy | hy
        · exact h1 y hy
        · simp at hy; subst hy; exact h2
      · intro h; exact ⟨fun y hy => h y (List.mem_append_left _ hy), h x (by simp)⟩
  · obtain rfl : i = ls.length := by omega
    rw [List.take_length] at hv hok
    exact ⟨e1, v, ok, rfl, hv.sl encT_ok, hok⟩

/-- A flow of lines. -/
def Fq (w : World) (v : Value) (ls : List Ln) : Prop := ∃ b t, v = .pointer (some ⟨b, 0, none⟩) ∧ Cells w b 0 [t] ∧ Tp w t (ls.map itL)
theorem Fq.ext {w w' : World} {v : Value} {ls : List Ln} (h : Fq w v ls) (e : Ext w w') : Fq w' v ls := by
  obtain ⟨b, t, h1, h2, h3⟩ := h; exact ⟨b, t, h1, h2.ext e, h3.ext e⟩
theorem Fq.ptr {w : World} {v : Value} {ls : List Ln} (h : Fq w v ls) : ∃ b, v = .pointer (some ⟨b, 0, none⟩) := by obtain ⟨b, t, h1, _⟩ := h; exact ⟨b, h1⟩
theorem ftree_spec {w : World} {v : Value} {ls : List Ln} (h : Fq w v ls) : sCall Try.prog S.flow_Flow_tree.n [v] w fun u w' => w' = w ∧ Tp w u (ls.map itL) := by
  refine S.flow_Flow_tree.call ?_
  unfold S.flow_Flow_tree
  obtain ⟨b, t, rfl, hc, ht⟩ := h
  rw [sBin_ptr_eq S.tpt_P_flow_Flow, Option.isNone_some, sIf_false, sNil_ptr, sFldA_ptr S.tfl_flow_Flow_t, sLoad_cell S.tcell_P_tree_Tree (hc.fst rfl)]
  exact ⟨rfl, ht⟩
theorem checked_err {w : World} {t : Value} {e : Int} {ok : Bool} (he : e ≠ 0) : sCall Try.prog S.flow_checked.n [t, .int .i64 e, .bool ok] w fun u w' => w' = w ∧ u = .tuple #[.pointer none, .int .i64 e] := by
  refine S.flow_checked.call ?_
  unfold S.flow_checked
  rw [sBin_neq, sIf_not]
  exact ⟨fun _ => ⟨rfl, rfl⟩, fun h => absurd h he⟩
theorem checked_ok {w : World} {t : Value} {ok : Bool} {ls : List Ln} (ht : Tp w t (ls.map itL)) : sCall Try.prog S.flow_checked.n [t, .int .i64 0, .bool ok] w fun u w' => Ext w w' ∧ ((ok = false ∧ u = .tuple #[.pointer none, .int .i64 1]) ∨ (ok = true ∧ ∃ v, u = .tuple #[v, .int .i64 0] ∧ Fq w' v ls)) := by
  refine S.flow_checked.call ?_
  unfold S.flow_checked
  rw [sBin_neq, sIf_not]
  refine ⟨fun h => absurd rfl h, fun _ => ?_⟩
  rw [sUn_not, sIf_bool]
  refine ⟨fun h => ⟨Ext.refl w, .inl ⟨by simpa using h, rfl⟩⟩, fun h => ?_⟩
  rw [sBuild_of (cs := [t]) (lp := [(0, [t])]) S.tze_flow_Flow S.tpl_flow_Flow (by rw [List.map_singleton, List.map_singleton, ht.shape.1]) rfl]
  refine sBox_new (cs := [t]) rfl fun b w2 hb hs2 e2 hk2 => ?_
  exact ⟨e2, .inr ⟨by simpa using h, _, rfl, b, t, rfl, hk2.cells, ht.ext e2⟩⟩
theorem fnew_spec {w : World} {l : Value} {ls : List Ln} (hl : Sl w l 4 encL ls) (hn : ls.length ≤ 30000) : sCall Try.prog S.flow_New.n [l] w fun u w' => Ext w w' ∧ ((¬ (∀ x ∈ ls, LnOk x) ∧ u = .tuple #[.pointer none, .int .i64 1]) ∨ ((∀ x ∈ ls, LnOk x) ∧ ∃ v, u = .tuple #[v, .int .i64 0] ∧ Fq w' v ls)) := by
  refine S.flow_New.call ?_
  unfold S.flow_New
  refine (fitems_spec hl (by omega)).mono ?_
  rintro u w1 ⟨e1, v, ok, rfl, hv, hok⟩
  rw [sExtract_0, sExtract_1]
  refine (new_spec hv).mono ?_
  rintro u w2 ⟨e2, hu⟩
  have E2 := e1.trans e2
  rcases hu with ⟨h, _⟩ | ⟨_, h, rfl⟩ | ⟨_, h, b, r, rfl, hc, hr⟩
  · rw [List.length_map] at h; omega
  · rw [sExtract_0, sExtract_1]
    refine (checked_err (by decide)).mono ?_
    rintro u w3 ⟨rfl, rfl⟩
    rw [sExtract_0, sExtract_1]
    exact ⟨E2, .inl ⟨fun h' => h fun y hy => by obtain ⟨x, hx, rfl⟩ := List.mem_map.1 hy; exact (h' x hx).1, rfl⟩⟩
  · rw [sExtract_0, sExtract_1]
    refine (checked_ok (ls := ls) (.inr ⟨b, r, rfl, hc, hr⟩)).mono ?_
    rintro u w3 ⟨e3, hu⟩
    rcases hu with ⟨ho, rfl⟩ | ⟨ho, z, rfl, hz⟩
    · rw [sExtract_0, sExtract_1]
      refine ⟨E2.trans e3, .inl ⟨fun h' => ?_, rfl⟩⟩
      rw [hok.2 fun x hx => (h' x hx).2] at ho; cases ho
    · rw [sExtract_0, sExtract_1]
      exact ⟨E2.trans e3, .inr ⟨fun x hx => ⟨h (itL x) (List.mem_map.2 ⟨x, hx, rfl⟩), hok.1 ho x hx⟩, z, rfl, hz⟩⟩
theorem freplace_spec {w : World} {f l : Value} {fs ls : List Ln} {a b : Int} (hf : Fq w f fs) (hl : Sl w l 4 encL ls) (hx : fs.length ≤ 3000) (hn : ls.length ≤ 3000) : sCall Try.prog S.flow_Flow_Replace.n [f, .int .i64 a, .int .i64 b, l] w fun u w' => Ext w w' ∧
    ((¬ ((0 ≤ a ∧ a ≤ b ∧ b ≤ fs.length) ∧ ∀ x ∈ ls, LnOk x) ∧ u = .tuple #[.pointer none, .int .i64 1]) ∨ (((0 ≤ a ∧ a ≤ b ∧ b ≤ fs.length) ∧ ∀ x ∈ ls, LnOk x) ∧ ∃ v, u = .tuple #[v, .int .i64 0] ∧ Fq w' v (fs.take a.toNat ++ ls ++ fs.drop b.toNat))) := by
  refine S.flow_Flow_Replace.call ?_
  unfold S.flow_Flow_Replace
  refine (fitems_spec hl (by omega)).mono ?_
  rintro u w1 ⟨e1, v, ok, rfl, hv, hok⟩
  rw [sExtract_0, sExtract_1]
  refine (ftree_spec (hf.ext e1)).mono ?_
  rintro t w1 ⟨rfl, ht⟩
  refine (treplace_spec (a := a) (b := b) ht (by rw [List.length_map]; omega) hv).mono ?_
  rintro u w2 ⟨e2, hu⟩
  have E2 := e1.trans e2
  rw [List.length_map, List.length_map] at hu
  have bad : ∀ w3, Ext w w3 → ¬ ((0 ≤ a ∧ a ≤ b ∧ b ≤ fs.length) ∧ ∀ x ∈ ls, LnOk x) → u = .tuple #[.pointer none, .int .i64 1] → True := fun _ _ _ _ => trivial
  clear bad
  have hin : InR (fs.map itL) a b ↔ (0 ≤ a ∧ a ≤ b ∧ b ≤ fs.length) := by unfold InR; rw [List.length_map]
  rcases hu with ⟨h, rfl⟩ | ⟨_, h, _⟩ | ⟨_, _, h, rfl⟩ | ⟨h1, _, _, h, _⟩ | ⟨h1, _, h, _, z, rfl, hz⟩
  · rw [sExtract_0, sExtract_1]
    refine (checked_err (by decide)).mono ?_
    rintro u w3 ⟨rfl, rfl⟩
    rw [sExtract_0, sExtract_1]
    exact ⟨E2, .inl ⟨fun h' => h (hin.2 h'.1), rfl⟩⟩
  · omega
  · rw [sExtract_0, sExtract_1]
    refine (checked_err (by decide)).mono ?_
    rintro u w3 ⟨rfl, rfl⟩
    rw [sExtract_0, sExtract_1]
    exact ⟨E2, .inl ⟨fun h' => h fun y hy => by obtain ⟨x, hx, rfl⟩ := List.mem_map.1 hy; exact (h'.2 x hx).1, rfl⟩⟩
  · have := hin.1 h1; omega
  · rw [sExtract_0, sExtract_1]
    have hz' : Tp w2 z ((fs.take a.toNat ++ ls ++ fs.drop b.toNat).map itL) := by
      rw [List.map_append, List.map_append, List.map_take, List.map_drop]; exact hz.tp
    refine (checked_ok hz').mono ?_
    rintro u w3 ⟨e3, hu⟩
    rcases hu with ⟨ho, rfl⟩ | ⟨ho, q, rfl, hq⟩
    · rw [sExtract_0, sExtract_1]
      refine ⟨E2.trans e3, .inl ⟨fun h' => ?_, rfl⟩⟩
      rw [hok.2 fun x hx => (h'.2 x hx).2] at ho; cases ho
    · rw [sExtract_0, sExtract_1]
      exact ⟨E2.trans e3, .inr ⟨⟨hin.1 h1, fun x hx => ⟨h (itL x) (List.mem_map.2 ⟨x, hx, rfl⟩), hok.1 ho x hx⟩⟩, q, rfl, hq⟩⟩

theorem fsum_spec {w : World} {f : Value} {ls : List Ln} (hf : Fq w f ls) : sCall Try.prog S.flow_Flow_Sum.n [f] w fun u w' => Ext w w' ∧ u = .agg (encL (lnS (allS (ls.map itL)))).toArray := by
  refine S.flow_Flow_Sum.call ?_
  unfold S.flow_Flow_Sum
  refine sAlloc_new S.tze_flow_Line fun b2 w1 hb2 hs1 e1 hk2 => ?_
  refine (ftree_spec (hf.ext e1)).mono ?_
  rintro t w1 ⟨rfl, ht⟩
  refine (tsum_spec ht).mono ?_
  rintro u w2 ⟨e2, rfl⟩
  refine sVar (vs := encS (allS (ls.map itL))) S.tze_item_Sum S.tsz_item_Sum (by decide) rfl rfl (encS_one _) fun b3 w3 hb3 hs3 e3 hk3 => ?_
  have F3 := e2.trans e3
  rw [sFldA_ptr S.tfl_item_Sum_D, sIdxA_arr (i := 0) (z := 0) S.tar_A3_int S.tsz_int (by omega) (by omega) rfl, sLoad_cell S.tcell_int (hk3.cells.at 1 rfl), sFldA_ptr S.tfl_item_Sum_D, sIdxA_arr (i := 1) (z := 1) S.tar_A3_int S.tsz_int (by omega) (by omega) rfl, sLoad_cell S.tcell_int (hk3.cells.at 2 rfl),
    sFldA_ptr S.tfl_item_Sum_D, sIdxA_arr (i := 2) (z := 2) S.tar_A3_int S.tsz_int (by omega) (by omega) rfl, sLoad_cell S.tcell_int (hk3.cells.at 3 rfl), sFldA_ptr S.tfl_item_Sum_Max, sLoad_cell S.tcell_int (hk3.cells.at 4 rfl),
    sBuild_of (cs := encL (lnS (allS (ls.map itL)))) (lp := [(0, [.int .i64 (allS (ls.map itL)).d0]), (1, [.int .i64 (allS (ls.map itL)).d1]), (2, [.int .i64 (allS (ls.map itL)).d2]), (3, [.int .i64 (allS (ls.map itL)).mx])]) S.tze_flow_Line S.tpl_flow_Line rfl rfl]
  refine sStore_blk S.tsz_flow_Line (by decide) (hk2.ext F3) (vs := encL (lnS (allS (ls.map itL)))) rfl rfl (by simp) (encL_ok.one _) fun w4 hs4 hg4 hk4 => ?_
  rw [sLoad_agg (cs := encL (lnS (allS (ls.map itL)))) S.tagg_flow_Line hk4.cells rfl]
  exact ⟨rfl, (e1.trans F3).wr hg4 (by rintro _ ⟨⟩; omega), rfl⟩
theorem fcount_spec {w : World} {f : Value} {ls : List Ln} (hf : Fq w f ls) : sCall Try.prog S.flow_Flow_Count.n [f] w fun u w' => Ext w w' ∧ u = .int .i64 ls.length := by
  refine S.flow_Flow_Count.call ?_
  unfold S.flow_Flow_Count
  refine (ftree_spec hf).mono ?_
  rintro t w1 ⟨rfl, ht⟩
  refine (tsum_spec ht).mono ?_
  rintro u w2 ⟨e2, rfl⟩
  rw [sumN, List.length_map]
  exact ⟨e2, rfl⟩
theorem fheight_spec {w : World} {f : Value} {ls : List Ln} (hf : Fq w f ls) (hn : ls.length ≤ 1000000) : sCall Try.prog S.flow_Flow_Height.n [f] w fun u w' => w' = w ∧ ∃ H : Nat, u = .int .i64 H ∧ (H = 0 ↔ ls.length = 0) ∧ (2 ≤ H → 2 * 4 ^ (H - 1) ≤ ls.length) ∧ H ≤ 11 := by
  refine S.flow_Flow_Height.call ?_
  unfold S.flow_Flow_Height
  refine (ftree_spec hf).mono ?_
  rintro t w1 ⟨rfl, ht⟩
  obtain ⟨H, hH⟩ := ht.withH
  refine (theight_spec hH).mono ?_
  rintro u w2 ⟨rfl, rfl⟩
  obtain ⟨q1, q2, q3⟩ := tallH hH (by rw [List.length_map]; exact hn)
  rw [List.length_map] at q2
  exact ⟨rfl, H, rfl, by rw [q1]; simp, q2, q3⟩
theorem fwidest_spec {w : World} {f : Value} {ls : List Ln} (hf : Fq w f ls) : sCall Try.prog S.flow_Flow_Widest.n [f] w fun u w' => Ext w w' ∧ u = .tuple #[.int .i64 (allS (ls.map itL)).at_, .int .i64 (allS (ls.map itL)).mx] := by
  refine S.flow_Flow_Widest.call ?_
  unfold S.flow_Flow_Widest
  refine (ftree_spec hf).mono ?_
  rintro t w1 ⟨rfl, ht⟩
  refine (tsum_spec ht).mono ?_
  rintro u w2 ⟨e2, rfl⟩
  refine sVar (vs := encS (allS (ls.map itL))) S.tze_item_Sum S.tsz_item_Sum (by decide) rfl rfl (encS_one _) fun b3 w3 hb3 hs3 e3 hk3 => ?_
  refine DrawS.ext ?_
  have E : Ext w3 w3.drew := (Ext.refl w3).drew
  rw [stillS_eq (fun w1 h1 K => sFldA_ptr S.tfl_item_Sum_At) E, stillS_cell S.tcell_int (hk3.cells.at 5 rfl) E, stillS_eq (fun w1 h1 K => sFldA_ptr S.tfl_item_Sum_Max) E, stillS_cell S.tcell_int (hk3.cells.at 4 rfl) E]
  exact ⟨(e2.trans e3).trans E, rfl⟩
theorem flines_spec {w : World} {f : Value} {ls : List Ln} (hf : Fq w f ls) (hn : ls.length ≤ 1000000) : sCall Try.prog S.flow_Flow_Lines.n [f] w fun u w' => Ext w w' ∧ Sl w' u 4 encL ls := by
  refine S.flow_Flow_Lines.call ?_
  unfold S.flow_Flow_Lines
  have hmx : maxLen = 9223372036854775807 := rfl
  refine (ftree_spec hf).mono ?_
  rintro t w1 ⟨rfl, ht⟩
  refine (titems_spec ht ⟨by rw [List.length_map]; exact hn⟩).mono ?_
  rintro q w2 ⟨e2, hq⟩
  have hqs := hq.sl encT_ok
  rw [sLen_sl S.tel_L_item_Item hqs, List.length_map]
  refine LoopS.intro (fun us w3 => Ext w2 w3 ∧ ∃ (i : Nat) (v : Value), us = [v, .int .i64 i] ∧ i ≤ ls.length ∧ Row w3 w2.heap.size S.T.flow_Line 4 v encL (ls.take i))
    (fun us _ => match us with | [_, .int _ a] => (ls.length - a).toNat | _ => 0) ⟨Ext.refl _, 0, _, rfl, Nat.zero_le _, Row.nil _ _ _ _ _⟩ ?_
  rintro us vs w3 ⟨e3, i, v, rfl, hi, hv⟩
  unfold S.flow_Flow_Lines_L1
  rw [hd, tl, hd, sBin_lss, sIf_dec]
  refine ⟨fun hlt => ?_, fun hge => ?_⟩
  · obtain ⟨x, hx⟩ : ∃ x, ls[i]? = some x := ⟨_, List.getElem?_eq_getElem (by omega)⟩
    have hx' : (ls.map itL)[i]? = some (itL x) := by rw [List.getElem?_map, hx]; rfl
    obtain ⟨b, o, hel, hc⟩ := (hqs.ext e3).el hx'
    rw [sIdxA_sl S.tel_L_item_Item S.tsz_item_Item (by omega) (hqs.ext e3) hx' rfl, hel, sLoad_agg S.tagg_item_Item hc rfl]
    refine sVar S.tze_item_Item S.tsz_item_Item (by decide) rfl rfl (encT_ok.one _) fun b2 w4 hb2 hs4 e4 hk2 => ?_
    rw [sLoad_agg S.tagg_item_Item hk2.cells rfl]
    refine (lineOf_spec (itL x)).mono ?_
    rintro u w5 ⟨e5, rfl⟩
    have F5 := e4.trans e5
    refine sBuildSlice_own (n := 1) (enc := encL) (xs := [x]) (lp := [(0, encL x)]) S.tel_L_flow_Line S.tsz_flow_Line rfl S.tze_flow_Line (by decide) (by decide) encL_ok rfl rfl fun t w6 ht ho6 e6 hs6 => ?_
    refine sAppend_row S.tel_L_flow_Line S.tsz_flow_Line (by decide) S.tze_flow_Line rfl encL_ok ((hv.ext F5).ext e6) (by have := (e3.trans F5).size; omega) (ho6.sl encL_ok) (by simp; omega) (by rw [S.tby_flow_Line]; simp; omega) fun v' w7 hv7 hg7 _ => ?_
    rw [sBin_add _ _ ⟨by omega, by omega⟩]
    refine ⟨⟨((e3.trans F5).trans e6).wr hg7 fun g hg => (hv.lt g hg).1, i + 1, v', by simp, by omega, ?_⟩, by simp only []; omega⟩
    rw [take_succ_of hx]; exact hv7
  · obtain rfl : i = ls.length := by omega
    rw [List.take_length] at hv
    exact ⟨e2.trans e3, hv.sl encL_ok⟩
end Go.Proofs.Ytmlbaimdphillaa

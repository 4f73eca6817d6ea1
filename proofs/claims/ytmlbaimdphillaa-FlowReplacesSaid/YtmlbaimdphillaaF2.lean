/- Flows of lines: a place by its row; the document's answers for lines. Conditions: right lines, not too many. -/
import Derived.Test.YtmlbaimdphillaaF1
namespace Go.Proofs.Ytmlbaimdphillaa
open Go Go.Lift Go.RowKit

def encSp (n ins r s b : Int) : List Value := [.int .i64 n, .int .i64 ins, .int .i64 r, .int .i64 s, .int .i64 b]
theorem encSp_one (n ins r s b : Int) : ∀ u ∈ encSp n ins r s b, u.oneCell' = true := fun u hu => by
  simp [encSp] at hu; rcases hu with rfl | rfl | rfl | rfl | rfl <;> rfl
theorem fspot_spec {w : World} (n : Int) (s : Su) (vis ins : Int) : sCall Try.prog S.flow_spot.n [.agg (encPl n s vis).toArray, .int .i64 ins] w fun u w' => Ext w w' ∧ u = .agg (encSp n ins s.d2 s.d0 s.d1).toArray := by
  refine S.flow_spot.call ?_
  unfold S.flow_spot
  refine sBox_new (cs := encPl n s vis) rfl fun b1 w1 hb1 hs1 e1 hk1 => ?_
  refine sAlloc_new S.tze_flow_Spot fun b2 w2 hb2 hs2 e2 hk2 => ?_
  have k1 := hk1.ext e2
  have s1 := e1.size
  rw [sFldA_ptr S.tfl_tree_Place_Index, sLoad_cell S.tcell_int (k1.cells.at 0 rfl),
    sFldA_ptr S.tfl_tree_Place_Before, sFldA_ptr S.tfl_item_Sum_D, sIdxA_arr (i := 2) (z := 2) S.tar_A3_int S.tsz_int (by omega) (by omega) rfl, sLoad_cell (v := .int .i64 s.d2) S.tcell_int (k1.cells.at 4 rfl),
    sFldA_ptr S.tfl_tree_Place_Before, sFldA_ptr S.tfl_item_Sum_D, sIdxA_arr (i := 0) (z := 0) S.tar_A3_int S.tsz_int (by omega) (by omega) rfl, sLoad_cell (v := .int .i64 s.d0) S.tcell_int (k1.cells.at 2 rfl),
    sFldA_ptr S.tfl_tree_Place_Before, sFldA_ptr S.tfl_item_Sum_D, sIdxA_arr (i := 1) (z := 1) S.tar_A3_int S.tsz_int (by omega) (by omega) rfl, sLoad_cell (v := .int .i64 s.d1) S.tcell_int (k1.cells.at 3 rfl),
    sBuild_of (cs := encSp n ins s.d2 s.d0 s.d1) (lp := [(0, [.int .i64 n]), (1, [.int .i64 ins]), (2, [.int .i64 s.d2]), (3, [.int .i64 s.d0]), (4, [.int .i64 s.d1])]) S.tze_flow_Spot S.tpl_flow_Spot rfl rfl]
  refine sStore_blk S.tsz_flow_Spot (by decide) hk2 (vs := encSp n ins s.d2 s.d0 s.d1) rfl rfl (by simp) (encSp_one _ _ _ _ _) fun w3 hs3 hg3 hk3 => ?_
  rw [sLoad_agg (cs := encSp n ins s.d2 s.d0 s.d1) S.tagg_flow_Spot hk3.cells rfl]
  exact ⟨rfl, (e1.trans e2).wr hg3 (by rintro _ ⟨⟩; omega), rfl⟩
/-- The spot of a line and of a row in it. -/
def spotV (ls : List Ln) (n : Nat) (row : Int) : Value := .agg (encSp n (row - szA (ls.map itL) 2 n) (szA (ls.map itL) 2 n) (szA (ls.map itL) 0 n) (szA (ls.map itL) 1 n)).toArray
theorem items_ok {ls : List Ln} (hx : ∀ x ∈ ls, LnOk x) : ∀ y ∈ ls.map itL, ItOk y := fun y hy => by
  obtain ⟨x, hx', rfl⟩ := List.mem_map.1 hy; exact (hx x hx').1
theorem szA_bd {xs : List It} (hx : ∀ x ∈ xs, ItOk x) (hn : xs.length ≤ 1000000) (n : Nat) (h : n ≤ xs.length) : SuB (allS (xs.take n)) n := by
  have := allS_bd (xs := xs.take n) (by rw [List.length_take]; omega) fun y hy => hx y (List.mem_of_mem_take hy)
  rw [List.length_take] at this
  rwa [Nat.min_eq_left h] at this
theorem fby_spec {w : World} {t : Value} {ls : List Ln} {row : Int} (ht : Tp w t (ls.map itL)) (hx : ∀ x ∈ ls, LnOk x) (hn : ls.length ≤ 30000) : sCall Try.prog S.flow_by.n [.func (.func S.tree_Tree_Find.n) #[t] #[], .int .i64 2, .int .i64 row] w fun u w' => Ext w w' ∧
    ((¬ Ask (ls.map itL) 2 row 1 ∧ ∃ v, u = .tuple #[.agg (encSp 0 0 0 0 0).toArray, .int .i64 1] ∧ v = u) ∨ (Ask (ls.map itL) 2 row 1 ∧ ∃ n : Nat, Fnd (ls.map itL) 2 row 1 n ∧ u = .tuple #[spotV ls n row, .int .i64 0])) := by
  refine S.flow_by.call ?_
  unfold S.flow_by
  refine sAlloc_new S.tze_flow_Spot fun b1 w1 hb1 hs1 e1 hk1 => ?_
  rw [sDyn_func]
  obtain ⟨H, hH⟩ := (ht.ext e1).withH
  have hl : (ls.map itL).length = ls.length := List.length_map ..
  refine (tfind_spec hH (items_ok hx) (by omega)).mono ?_
  rintro u w2 ⟨e2, hu⟩
  have E2 := e1.trans e2
  have s1 := e1.size
  have s2 := e2.size
  rcases hu with ⟨ha, rfl⟩ | ⟨ha, n, vis, hf, _, rfl⟩
  · rw [sExtract_0, sExtract_1]
    refine sVar (vs := encPl 0 zeroS 0) S.tze_tree_Place S.tsz_tree_Place (by decide) rfl rfl (encPl_one _ _ _) fun bp w3 hbp hs3 e3 hkp => ?_
    rw [sBin_neq, sIf_not]
    refine ⟨fun _ => ?_, fun h => absurd h (by decide)⟩
    rw [sBuild_of (cs := encSp 0 0 0 0 0) (lp := []) S.tze_flow_Spot S.tpl_flow_Spot rfl rfl]
    refine sStore_blk S.tsz_flow_Spot (by decide) ((hk1.ext e2).ext e3) (vs := encSp 0 0 0 0 0) rfl rfl (by simp) (encSp_one _ _ _ _ _) fun w4 hs4 hg4 hk4 => ?_
    rw [sLoad_agg (cs := encSp 0 0 0 0 0) S.tagg_flow_Spot hk4.cells rfl]
    exact ⟨rfl, (E2.trans e3).wr hg4 (by rintro _ ⟨⟩; omega), .inl ⟨ha, _, rfl, rfl⟩⟩
  · rw [sExtract_0, sExtract_1]
    refine sVar (vs := encPl n (allS ((ls.map itL).take n)) vis) S.tze_tree_Place S.tsz_tree_Place (by decide) rfl rfl (encPl_one _ _ _) fun bp w3 hbp hs3 e3 hkp => ?_
    rw [sBin_neq, sIf_not]
    refine ⟨fun h => absurd rfl h, fun _ => ?_⟩
    have hb := szA_bd (items_ok hx) (by omega) n hf.le
    have hbA := allS_bd (xs := ls.map itL) (by omega) (items_ok hx)
    have c2 := hb.d2
    have cn := hf.le
    have cA := hbA.d2
    refine JoinS.intro (fun us w' => w' = w3 ∧ us = [.int .i64 (row - szA (ls.map itL) 2 n)]) ?_ ?_
    · rw [sBin_neq, sIf_not]
      refine ⟨fun _ => ?_, fun h => absurd h (by decide)⟩
      obtain ⟨_, _, a1, a2, _⟩ := ha
      have a2 : row ≤ (allS (ls.map itL)).d2 := a2
      rw [sFldA_ptr S.tfl_tree_Place_Before, sFldA_ptr S.tfl_item_Sum_D, sIdxA_arr (i := 2) (z := 2) S.tar_A3_int S.tsz_int (by omega) (by omega) rfl, sLoad_cell (v := .int .i64 (allS ((ls.map itL).take n)).d2) S.tcell_int (hkp.cells.at 4 rfl), sBin_sub _ _ ⟨by omega, by omega⟩]
      exact ⟨rfl, rfl⟩
    rintro us vs w4 ⟨rfl, rfl⟩
    unfold S.flow_by_J1
    rw [Go.Lift.hd, sLoad_agg (cs := encPl n (allS ((ls.map itL).take n)) vis) S.tagg_tree_Place hkp.cells rfl]
    refine (fspot_spec _ _ _ _).mono ?_
    rintro u w5 ⟨e5, rfl⟩
    refine sStore_blk S.tsz_flow_Spot (by decide) (((hk1.ext e2).ext e3).ext e5) (vs := encSp n (row - szA (ls.map itL) 2 n) (allS ((ls.map itL).take n)).d2 (allS ((ls.map itL).take n)).d0 (allS ((ls.map itL).take n)).d1) rfl rfl (by simp) (encSp_one _ _ _ _ _) fun w6 hs6 hg6 hk6 => ?_
    rw [sLoad_agg (cs := encSp n (row - szA (ls.map itL) 2 n) (allS ((ls.map itL).take n)).d2 (allS ((ls.map itL).take n)).d0 (allS ((ls.map itL).take n)).d1) S.tagg_flow_Spot hk6.cells rfl]
    exact ⟨rfl, ((E2.trans e3).trans e5).wr hg6 (by rintro _ ⟨⟩; omega), .inr ⟨ha, n, hf, rfl⟩⟩
theorem fbyrow_spec {w : World} {f : Value} {ls : List Ln} {row : Int} (hf : Fq w f ls) (hx : ∀ x ∈ ls, LnOk x) (hn : ls.length ≤ 30000) (h0 : 0 ≤ row) (h1 : row < (allS (ls.map itL)).d2) : sCall Try.prog S.flow_Flow_ByRow.n [f, .int .i64 row] w fun u w' => Ext w w' ∧
    ∃ n : Nat, Fnd (ls.map itL) 2 row 1 n ∧ u = .tuple #[spotV ls n row, .int .i64 0] := by
  refine S.flow_Flow_ByRow.call ?_
  unfold S.flow_Flow_ByRow
  refine sAlloc_new S.tze_flow_Spot fun b1 w1 hb1 hs1 e1 hk1 => ?_
  refine (fsum_spec (hf.ext e1)).mono ?_
  rintro u w2 ⟨e2, rfl⟩
  have E2 := e1.trans e2
  rw [sFld_cell (v := .int .i64 (allS (ls.map itL)).d2) S.tfd_flow_Line_Rows S.tcell_int rfl, sBin_geq, sIf_neg (by omega)]
  refine (ftree_spec (hf.ext E2)).mono ?_
  rintro t w2 ⟨rfl, ht⟩
  rw [sFunc_mk]
  refine (fby_spec ht hx hn).mono ?_
  rintro u w3 ⟨e3, hu⟩
  rcases hu with ⟨ha, _⟩ | ⟨_, n, hfn, rfl⟩
  · exact absurd ⟨by decide, by decide, h0, (show row ≤ (allS (ls.map itL)).d2 by omega), .inr rfl⟩ ha
  rw [sExtract_0, sExtract_1]
  have s1 := e1.size
  refine sStore_blk S.tsz_flow_Spot (by decide) ((hk1.ext e2).ext e3) (vs := encSp n (row - szA (ls.map itL) 2 n) (szA (ls.map itL) 2 n) (szA (ls.map itL) 0 n) (szA (ls.map itL) 1 n)) rfl rfl (by simp) (encSp_one _ _ _ _ _) fun w4 hs4 hg4 hk4 => ?_
  rw [sLoad_agg (cs := encSp n (row - szA (ls.map itL) 2 n) (szA (ls.map itL) 2 n) (szA (ls.map itL) 0 n) (szA (ls.map itL) 1 n)) S.tagg_flow_Spot hk4.cells rfl]
  exact ⟨rfl, (E2.trans e3).wr hg4 (by rintro _ ⟨⟩; omega), n, hfn, rfl⟩

/-! ## The document's answers -/
theorem rright22_one {w : World} (n : Int) : sCall Try.prog S.bodkinref22_right.n [.int .i64 n] w fun u w' => w' = w ∧ u = .bool (decide (R40 n)) := by
  refine S.bodkinref22_right.call ?_
  unfold S.bodkinref22_right
  rw [sBin_geq, sIf_dec]
  refine ⟨fun h => ?_, fun h => ⟨rfl, by rw [decide_eq_false (by intro h'; exact h h'.1)]⟩⟩
  rw [sBin_leq]
  refine ⟨rfl, ?_⟩
  congr 1
  apply decide_eq_decide.2
  exact ⟨fun h' => ⟨h, h'⟩, fun h' => h'.2⟩
theorem rright22_spec {w : World} {l : Value} {ls : List Ln} (hl : Sl w l 4 encL ls) (hn : ls.length ≤ 1000000) : sCall Try.prog S.bodkinref22_Right.n [l] w fun u w' => Ext w w' ∧ ∃ r : Bool, u = .bool r ∧ (r = true ↔ ∀ x ∈ ls, LnOk x) := by
  refine S.bodkinref22_Right.call ?_
  unfold S.bodkinref22_Right
  rw [sLen_sl S.tel_L_bodkinref22_Line hl]
  refine LoopS.intro (fun us w1 => Ext w w1 ∧ ∃ i : Nat, us = [.int .i64 i] ∧ i ≤ ls.length ∧ ∀ x ∈ ls.take i, LnOk x)
    (fun us _ => match us with | [.int _ a] => (ls.length - a).toNat | _ => 0) ⟨Ext.refl w, 0, rfl, Nat.zero_le _, by simp⟩ ?_
  rintro us vs w1 ⟨e1, i, rfl, hi, hok⟩
  unfold S.bodkinref22_Right_L1
  rw [Go.Lift.hd, sBin_lss, sIf_dec]
  refine ⟨fun hlt => ?_, fun hge => ?_⟩
  · obtain ⟨x, hx⟩ : ∃ x, ls[i]? = some x := ⟨_, List.getElem?_eq_getElem (by omega)⟩
    obtain ⟨b, o, hel, hc⟩ := (hl.ext e1).el hx
    have hmem := List.mem_of_getElem? hx
    rw [sIdxA_sl S.tel_L_bodkinref22_Line S.tsz_bodkinref22_Line (by omega) (hl.ext e1) hx rfl, hel, sLoad_agg S.tagg_bodkinref22_Line hc rfl]
    refine sVar S.tze_bodkinref22_Line S.tsz_bodkinref22_Line (by decide) rfl rfl (encL_ok.one x) fun b2 w2 hb2 hs2 e2 hk2 => ?_
    have E2 := e1.trans e2
    rw [sFldA_ptr S.tfl_bodkinref22_Line_Shown, sLoad_cell S.tcell_int (hk2.cells.at 0 rfl)]
    refine (rright22_one _).mono ?_
    rintro u w2 ⟨rfl, rfl⟩
    rw [sUn_not, sIf_not]
    refine ⟨fun h => ⟨E2, false, rfl, by simp only [Bool.false_eq_true, false_iff]; intro h'; exact h (h' x hmem).1.1⟩, fun q1 => ?_⟩
    rw [sFldA_ptr S.tfl_bodkinref22_Line_Buffer, sLoad_cell S.tcell_int (hk2.cells.at 1 rfl)]
    refine (rright22_one _).mono ?_
    rintro u w2 ⟨rfl, rfl⟩
    rw [sUn_not, sIf_not]
    refine ⟨fun h => ⟨E2, false, rfl, by simp only [Bool.false_eq_true, false_iff]; intro h'; exact h (h' x hmem).1.2.1⟩, fun q2 => ?_⟩
    rw [sFldA_ptr S.tfl_bodkinref22_Line_Rows, sLoad_cell S.tcell_int (hk2.cells.at 2 rfl)]
    refine (rright22_one _).mono ?_
    rintro u w2 ⟨rfl, rfl⟩
    rw [sUn_not, sIf_not]
    refine ⟨fun h => ⟨E2, false, rfl, by simp only [Bool.false_eq_true, false_iff]; intro h'; exact h (h' x hmem).1.2.2.1⟩, fun q3 => ?_⟩
    rw [sFldA_ptr S.tfl_bodkinref22_Line_Wide, sLoad_cell S.tcell_int (hk2.cells.at 3 rfl)]
    refine (rright22_one _).mono ?_
    rintro u w2 ⟨rfl, rfl⟩
    rw [sUn_not, sIf_not]
    refine ⟨fun h => ⟨E2, false, rfl, by simp only [Bool.false_eq_true, false_iff]; intro h'; exact h (h' x hmem).1.2.2.2⟩, fun q4 => ?_⟩
    rw [sFldA_ptr S.tfl_bodkinref22_Line_Rows, sLoad_cell S.tcell_int (hk2.cells.at 2 rfl), sBin_eql, sIf_dec]
    refine ⟨fun h => ⟨E2, false, rfl, by simp only [Bool.false_eq_true, false_iff]; intro h'; have := (h' x hmem).2; omega⟩, fun q5 => ?_⟩
    rw [sBin_add _ _ ⟨by omega, by omega⟩]
    refine ⟨⟨E2, i + 1, by simp, by omega, ?_⟩, by simp only []; omega⟩
    rw [take_succ_of hx]
    intro y hy
    rcases List.mem_append.1 hy with hy | hy
    · exact hok y hy
    · simp at hy; subst hy
      exact ⟨⟨q1, q2, q3, q4⟩, by have := q3.1; omega⟩
  · obtain rfl : i = ls.length := by omega
    rw [List.take_length] at hok
    exact ⟨e1, true, rfl, by simp only [true_iff]; exact hok⟩
theorem rsum22_spec {w : World} {l : Value} {ls : List Ln} (hl : Sl w l 4 encL ls) (hx : ∀ x ∈ ls, LnOk x) (hn : ls.length ≤ 1000000) : sCall Try.prog S.bodkinref22_Sum.n [l] w fun u w' => Ext w w' ∧ u = .agg (encL (lnS (allS (ls.map itL)))).toArray := by
  refine S.bodkinref22_Sum.call ?_
  unfold S.bodkinref22_Sum
  refine sAlloc_new S.tze_bodkinref22_Line fun b2 w1 hb2 hs1 e1 hk2 => ?_
  rw [sBuild_of (cs := encL ⟨0, 0, 0, 0⟩) (lp := []) S.tze_bodkinref22_Line S.tpl_bodkinref22_Line rfl rfl]
  refine sVar (vs := encL ⟨0, 0, 0, 0⟩) S.tze_bodkinref22_Line S.tsz_bodkinref22_Line (by decide) rfl rfl (encL_ok.one _) fun b3 w2 hb3 hs2 e2 hk3 => ?_
  have E2 := e1.trans e2
  have s1 := e1.size
  have hli : (ls.map itL).length = ls.length := List.length_map ..
  rw [sLen_sl S.tel_L_bodkinref22_Line (hl.ext E2)]
  refine LoopS.intro (fun us w3 => Ext w w3 ∧ Blk w3 b2 (encL ⟨0, 0, 0, 0⟩) ∧ ∃ i : Nat, us = [.int .i64 i] ∧ i ≤ ls.length ∧ Blk w3 b3 (encL (lnS (allS ((ls.map itL).take i)))))
    (fun us _ => match us with | [.int _ a] => (ls.length - a).toNat | _ => 0) ⟨E2, hk2.ext e2, 0, rfl, by omega, hk3⟩ ?_
  rintro us vs w3 ⟨E3, k2, i, rfl, hi, k3⟩
  unfold S.bodkinref22_Sum_L1
  rw [Go.Lift.hd, sBin_lss, sIf_dec]
  refine ⟨fun hlt => ?_, fun hge => ?_⟩
  · obtain ⟨x, hxi⟩ : ∃ x, ls[i]? = some x := ⟨_, List.getElem?_eq_getElem (by omega)⟩
    have hxi' : (ls.map itL)[i]? = some (itL x) := by rw [List.getElem?_map, hxi]; rfl
    obtain ⟨b, o, hel, hc⟩ := (hl.ext E3).el hxi
    obtain ⟨hgrow, hb⟩ := allS_grow (items_ok hx) (by omega) hxi'
    obtain ⟨⟨q0, q1, q2, q3⟩, _⟩ := hx x (List.mem_of_getElem? hxi)
    have b0 := hb.d0; have b1 := hb.d1; have b2' := hb.d2
    rw [sIdxA_sl S.tel_L_bodkinref22_Line S.tsz_bodkinref22_Line (by omega) (hl.ext E3) hxi rfl, hel, sLoad_agg S.tagg_bodkinref22_Line hc rfl]
    refine sVar S.tze_bodkinref22_Line S.tsz_bodkinref22_Line (by decide) rfl rfl (encL_ok.one x) fun b5 w4 hb5 hs4 e4 hk5 => ?_
    generalize allS ((ls.map itL).take i) = A at k3 hb b0 b1 b2' hgrow
    have h3lt := k3.lt
    have k3 := k3.ext e4
    rw [sFldA_ptr S.tfl_bodkinref22_Line_Shown, sLoad_cell (v := .int .i64 A.d0) S.tcell_int (k3.cells.at 0 rfl), sFldA_ptr S.tfl_bodkinref22_Line_Shown, sLoad_cell S.tcell_int (hk5.cells.at 0 rfl), sBin_add A.d0 x.sh ⟨by omega, by omega⟩, sFldA_ptr S.tfl_bodkinref22_Line_Shown]
    refine sStore_blk (vs := [.int .i64 (A.d0 + x.sh)]) S.tsz_int (by decide) k3 rfl rfl (by simp [encL]) (by simp; rfl) fun w5 hs5 hg5 hk3 => ?_
    have k5 := hk5.wr hg5 (by intro e; cases e; omega)
    rw [sFldA_ptr S.tfl_bodkinref22_Line_Buffer, sLoad_cell (v := .int .i64 A.d1) S.tcell_int (hk3.cells.at 1 rfl), sFldA_ptr S.tfl_bodkinref22_Line_Buffer, sLoad_cell S.tcell_int (k5.cells.at 1 rfl), sBin_add A.d1 x.bf ⟨by omega, by omega⟩, sFldA_ptr S.tfl_bodkinref22_Line_Buffer]
    refine sStore_blk (vs := [.int .i64 (A.d1 + x.bf)]) S.tsz_int (by decide) hk3 rfl rfl (by simp [encL, splice]) (by simp; rfl) fun w6 hs6 hg6 hk3 => ?_
    have k5 := k5.wr hg6 (by intro e; cases e; omega)
    rw [sFldA_ptr S.tfl_bodkinref22_Line_Rows, sLoad_cell (v := .int .i64 A.d2) S.tcell_int (hk3.cells.at 2 rfl), sFldA_ptr S.tfl_bodkinref22_Line_Rows, sLoad_cell S.tcell_int (k5.cells.at 2 rfl), sBin_add A.d2 x.rw ⟨by omega, by omega⟩, sFldA_ptr S.tfl_bodkinref22_Line_Rows]
    refine sStore_blk (vs := [.int .i64 (A.d2 + x.rw)]) S.tsz_int (by decide) hk3 rfl rfl (by simp [encL, splice]) (by simp; rfl) fun w7 hs7 hg7 hk3 => ?_
    have k5 := k5.wr hg7 (by intro e; cases e; omega)
    have G := grown_trans (grown_trans hg5 hg6) hg7
    have E7 := (E3.trans e4).wr G (by rintro _ ⟨⟩; omega)
    have k2 := (k2.ext e4).wr G (by intro e; cases e; omega)
    rw [sFldA_ptr S.tfl_bodkinref22_Line_Wide, sLoad_cell S.tcell_int (k5.cells.at 3 rfl), sFldA_ptr S.tfl_bodkinref22_Line_Wide, sLoad_cell (v := .int .i64 A.mx) S.tcell_int (hk3.cells.at 3 rfl), sBin_gtr, sIf_dec]
    refine ⟨fun hm => ?_, fun hm => ?_⟩
    · rw [sFldA_ptr S.tfl_bodkinref22_Line_Wide, sLoad_cell S.tcell_int (k5.cells.at 3 rfl), sFldA_ptr S.tfl_bodkinref22_Line_Wide]
      refine sStore_blk (vs := [.int .i64 x.wd]) S.tsz_int (by decide) hk3 rfl rfl (by simp [encL, splice]) (by simp; rfl) fun w8 hs8 hg8 hk3 => ?_
      rw [sBin_add _ _ ⟨by omega, by omega⟩]
      refine ⟨⟨E7.wr hg8 (by rintro _ ⟨⟩; omega), k2.wr hg8 (by intro e; cases e; omega), i + 1, by simp, by omega, ?_⟩, by simp only []; omega⟩
      rw [hgrow]
      have hm' : A.mx < (itL x).mx := hm
      rw [if_pos hm']
      exact hk3
    · rw [sBin_add _ _ ⟨by omega, by omega⟩]
      refine ⟨⟨E7, k2, i + 1, by simp, by omega, ?_⟩, by simp only []; omega⟩
      rw [hgrow]
      have hm' : ¬ A.mx < (itL x).mx := hm
      rw [if_neg hm']
      exact hk3
  · obtain rfl : i = ls.length := by omega
    rw [List.take_of_length_le (by omega)] at k3
    rw [sLoad_agg (cs := encL (lnS (allS (ls.map itL)))) S.tagg_bodkinref22_Line k3.cells rfl]
    refine sStore_blk S.tsz_bodkinref22_Line (by decide) k2 (vs := encL (lnS (allS (ls.map itL)))) rfl rfl (by simp [encL]) (encL_ok.one _) fun w7 hs7 hg7 hk7 => ?_
    rw [sLoad_agg (cs := encL (lnS (allS (ls.map itL)))) S.tagg_bodkinref22_Line hk7.cells rfl]
    exact ⟨rfl, E3.wr hg7 (by rintro _ ⟨⟩; omega), rfl⟩
theorem widest_le {xs : List It} (hx : ∀ x ∈ xs, ItOk x) (hn : xs.length ≤ 1000000) : ∀ i, i ≤ xs.length → ∀ j y, j < i → xs[j]? = some y → y.mx ≤ (allS (xs.take i)).mx
  | 0, _, j, y, hj, _ => by omega
  | i + 1, hi, j, y, hj, hy => by
    obtain ⟨x, hxi⟩ : ∃ x, xs[i]? = some x := ⟨_, List.getElem?_eq_getElem (by omega)⟩
    obtain ⟨hg, hb⟩ := allS_grow hx hn hxi
    rw [hg]
    dsimp only
    by_cases e : j = i
    · subst e
      rw [hxi] at hy; cases hy
      split <;> omega
    · have := widest_le hx hn i (by omega) j y (by omega) hy
      split <;> omega
/-- Where the widest line is. -/
theorem widest_at {xs : List It} (hx : ∀ x ∈ xs, ItOk x) (hn : xs.length ≤ 1000000) : ∀ i, i ≤ xs.length →
    ((allS (xs.take i)).at_ = 0 ∧ (allS (xs.take i)).mx = 0) ∨ ∃ k : Nat, ∃ x, k < i ∧ (allS (xs.take i)).at_ = k ∧ xs[k]? = some x ∧ x.mx = (allS (xs.take i)).mx ∧ 0 < x.mx ∧ ∀ j y, j < k → xs[j]? = some y → y.mx < x.mx
  | 0, _ => .inl ⟨rfl, rfl⟩
  | i + 1, hi => by
    obtain ⟨x, hxi⟩ : ∃ x, xs[i]? = some x := ⟨_, List.getElem?_eq_getElem (by omega)⟩
    obtain ⟨hg, hb⟩ := allS_grow hx hn hxi
    have ih := widest_at hx hn i (by omega)
    have hle := widest_le hx hn i (by omega)
    rw [hg]
    dsimp only
    by_cases h : (allS (xs.take i)).mx < x.mx
    · rw [if_pos h, if_pos h]
      have := hb.mx
      exact .inr ⟨i, x, by omega, rfl, hxi, rfl, by omega, fun j y hj hy => by have := hle j y hj hy; omega⟩
    · rw [if_neg h, if_neg h]
      rcases ih with h0 | ⟨k, y, hk, h1, h2, h3, h4, h5⟩
      · exact .inl h0
      · exact .inr ⟨k, y, by omega, h1, h2, h3, h4, h5⟩
theorem rwidest22_spec {w : World} {l : Value} {ls : List Ln} (hl : Sl w l 4 encL ls) (hx : ∀ x ∈ ls, LnOk x) (hn : ls.length ≤ 1000000) : sCall Try.prog S.bodkinref22_Widest.n [l] w fun u w' => Ext w w' ∧ u = .int .i64 (allS (ls.map itL)).at_ := by
  refine S.bodkinref22_Widest.call ?_
  unfold S.bodkinref22_Widest
  have hli : (ls.map itL).length = ls.length := List.length_map ..
  have hat := widest_at (items_ok hx) (by omega) _ (Nat.le_refl (ls.map itL).length)
  rw [List.take_length] at hat
  rw [sLen_sl S.tel_L_bodkinref22_Line hl]
  refine LoopS.intro (fun us w1 => Ext w w1 ∧ ∃ i : Nat, us = [.int .i64 i] ∧ i ≤ ls.length ∧ ∀ j x, j < i → ls[j]? = some x → x.wd ≠ (allS (ls.map itL)).mx)
    (fun us _ => match us with | [.int _ a] => (ls.length - a).toNat | _ => 0) ⟨Ext.refl w, 0, rfl, Nat.zero_le _, fun _ _ h => by omega⟩ ?_
  rintro us vs w1 ⟨e1, i, rfl, hi, hno⟩
  unfold S.bodkinref22_Widest_L1
  rw [Go.Lift.hd, sBin_lss, sIf_dec]
  refine ⟨fun hlt => ?_, fun hge => ?_⟩
  · obtain ⟨x, hxi⟩ : ∃ x, ls[i]? = some x := ⟨_, List.getElem?_eq_getElem (by omega)⟩
    obtain ⟨b, o, hel, hc⟩ := (hl.ext e1).el hxi
    rw [sIdxA_sl S.tel_L_bodkinref22_Line S.tsz_bodkinref22_Line (by omega) (hl.ext e1) hxi rfl, hel, sLoad_agg S.tagg_bodkinref22_Line hc rfl]
    refine sVar S.tze_bodkinref22_Line S.tsz_bodkinref22_Line (by decide) rfl rfl (encL_ok.one x) fun b2 w2 hb2 hs2 e2 hk2 => ?_
    have E2 := e1.trans e2
    refine DrawS.ext ?_
    have E : Ext w2 w2.drew := (Ext.refl w2).drew
    rw [stillS_eq (fun w1 h1 K => sFldA_ptr S.tfl_bodkinref22_Line_Wide) E, stillS_cell S.tcell_int (hk2.cells.at 3 rfl) E]
    refine (rsum22_spec (hl.ext (E2.trans E)) hx hn).mono ?_
    rintro u w3 ⟨e3, rfl⟩
    have E3 := E.trans e3
    refine ⟨E3, ?_⟩
    rw [stillS_eq (fun w1 h1 K => sFld_cell (v := .int .i64 (allS (ls.map itL)).mx) S.tfd_bodkinref22_Line_Wide S.tcell_int rfl) E3, stillS_eq (fun w1 h1 K => sBin_eql _ _) E3, sIf_dec]
    refine ⟨fun h => ⟨E2.trans E3, ?_⟩, fun h => ?_⟩
    · rcases hat with ⟨h1, h2⟩ | ⟨k, z, hk, h1, h2, h3, h4, h5⟩
      · rw [h1]
        rcases Nat.eq_zero_or_pos i with rfl | hpos
        · rfl
        · -- all widths are at most 0
          exfalso
          obtain ⟨x0, hx0⟩ : ∃ x, ls[0]? = some x := ⟨_, List.getElem?_eq_getElem (by omega)⟩
          have := hno 0 x0 hpos hx0
          have hle := widest_le (items_ok hx) (by omega) _ (Nat.le_refl (ls.map itL).length) 0 (itL x0) (by omega) (by rw [List.getElem?_map, hx0]; rfl)
          rw [List.take_length] at hle
          have hr := (hx x0 (List.mem_of_getElem? hx0)).1.2.2.2.1
          have hle : x0.wd ≤ (allS (ls.map itL)).mx := hle
          omega
      · rw [List.getElem?_map] at h2
        obtain ⟨y, hy, rfl⟩ := Option.map_eq_some_iff.1 h2
        have a1 : ¬ i < k := fun hlt' => by
          have := h5 i (itL x) hlt' (by rw [List.getElem?_map, hxi]; rfl)
          have : x.wd < (itL y).mx := this
          omega
        have a2 : ¬ k < i := fun hlt' => hno k y hlt' hy h3
        obtain rfl : k = i := by omega
        rw [h1]
    · rw [sBin_add _ _ ⟨by omega, by omega⟩]
      refine ⟨⟨E2.trans E3, i + 1, by simp, by omega, fun j y hj hy => ?_⟩, by simp only []; omega⟩
      by_cases e : j = i
      · subst e; rw [hxi] at hy; cases hy; exact h
      · exact hno j y (by omega) hy
  · obtain rfl : i = ls.length := by omega
    rcases hat with ⟨h1, h2⟩ | ⟨k, z, hk, h1, h2, h3, h4, h5⟩
    · rw [h1]; exact ⟨e1, rfl⟩
    · rw [List.getElem?_map] at h2
      obtain ⟨y, hy, rfl⟩ := Option.map_eq_some_iff.1 h2
      exact absurd h3 (hno k y (by omega) hy)
end Go.Proofs.Ytmlbaimdphillaa

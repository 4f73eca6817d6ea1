/- The document's items, and its answers for trees: what its functions give. Conditions: right items, not too many. -/
import Derived.Test.YtmlbaimdphillaaTh
import Derived.Test.YtmlbaimdphillaaTs
namespace Go.Proofs.Ytmlbaimdphillaa
open Go Go.Lift Go.RowKit

theorem rright_spec {w : World} (x : It) : sCall Try.prog S.bodkinref04_Right.n [.agg (encT x).toArray] w fun u w' => Ext w w' ∧ ∃ r : Bool, u = .bool r ∧ (r = true ↔ ItOk x) := by
  refine S.bodkinref04_Right.call ?_
  unfold S.bodkinref04_Right
  refine sBox_new (cs := encT x) rfl fun b w1 hb hs1 e1 hk => ?_
  refine LoopS.intro (fun us w2 => w2 = w1 ∧ ∃ i : Nat, us = [.int .i64 i] ∧ i ≤ 3 ∧ (0 < i → R40 x.d0) ∧ (1 < i → R40 x.d1) ∧ (2 < i → R40 x.d2))
    (fun us _ => match us with | [.int _ a] => (3 - a).toNat | _ => 0) ⟨rfl, 0, rfl, by omega, by omega, by omega, by omega⟩ ?_
  rintro us vs w1 ⟨rfl, i, rfl, hi, h0, h1, h2⟩
  unfold S.bodkinref04_Right_L1
  rw [Go.Lift.hd, sBin_lss, sIf_dec]
  refine ⟨fun hlt => ?_, fun hge => ?_⟩
  · obtain ⟨d, hcell, hok, hnx⟩ : ∃ d : Int, w1.cell? ⟨b, 0 + 2 + i * 1, none⟩ = some (.int .i64 d) ∧ (ItOk x → R40 d) ∧ (R40 d → ((0 < i + 1 → R40 x.d0) ∧ (1 < i + 1 → R40 x.d1) ∧ (2 < i + 1 → R40 x.d2))) := by
      rcases (by omega : i = 0 ∨ i = 1 ∨ i = 2) with rfl | rfl | rfl
      · exact ⟨x.d0, hk.cells.at 2 rfl, fun h => h.1, fun h => ⟨fun _ => h, by omega, by omega⟩⟩
      · exact ⟨x.d1, hk.cells.at 3 rfl, fun h => h.2.1, fun h => ⟨fun _ => h0 (by omega), fun _ => h, by omega⟩⟩
      · exact ⟨x.d2, hk.cells.at 4 rfl, fun h => h.2.2.1, fun h => ⟨fun _ => h0 (by omega), fun _ => h1 (by omega), fun _ => h⟩⟩
    rw [sFldA_ptr S.tfl_bodkinref04_Item_D, sIdxA_arr (i := i) S.tar_A3_int S.tsz_int (by omega) (by omega) rfl, sLoad_cell S.tcell_int hcell, sBin_lss, sIf_dec]
    refine ⟨fun h => ⟨e1, false, rfl, by simp only [Bool.false_eq_true, false_iff]; intro h'; have := hok h'; omega⟩, fun h => ?_⟩
    rw [sFldA_ptr S.tfl_bodkinref04_Item_D, sIdxA_arr (i := i) S.tar_A3_int S.tsz_int (by omega) (by omega) rfl, sLoad_cell S.tcell_int hcell, sBin_gtr, sIf_dec]
    refine ⟨fun h' => ⟨e1, false, rfl, by simp only [Bool.false_eq_true, false_iff]; intro h''; have := hok h''; omega⟩, fun h' => ?_⟩
    rw [sBin_add _ _ ⟨by omega, by omega⟩]
    exact ⟨⟨rfl, i + 1, by simp, by omega, hnx ⟨by omega, by omega⟩⟩, by simp only []; omega⟩
  · obtain rfl : i = 3 := by omega
    rw [sFldA_ptr S.tfl_bodkinref04_Item_Max, sLoad_cell S.tcell_int (hk.cells.at 5 rfl), sBin_geq, sIf_dec]
    refine ⟨fun h => ?_, fun h => ⟨e1, false, rfl, by simp only [Bool.false_eq_true, false_iff]; intro h'; have := h'.2.2.2; omega⟩⟩
    rw [sFldA_ptr S.tfl_bodkinref04_Item_Max, sLoad_cell S.tcell_int (hk.cells.at 5 rfl), sBin_leq]
    refine ⟨e1, _, rfl, ?_⟩
    rw [decide_eq_true_eq]
    exact ⟨fun h' => ⟨h0 (by omega), h1 (by omega), h2 (by omega), by omega, h'⟩, fun h' => h'.2.2.2.2⟩

/-- Sums, step by step, of right items. -/
theorem allS_grow {xs : List It} {i : Nat} {x : It} (hx : ∀ x ∈ xs, ItOk x) (hn : xs.length ≤ 1000000) (hi : xs[i]? = some x) :
    allS (xs.take (i + 1)) = ⟨(i : Int) + 1, (allS (xs.take i)).d0 + x.d0, (allS (xs.take i)).d1 + x.d1, (allS (xs.take i)).d2 + x.d2, if (allS (xs.take i)).mx < x.mx then x.mx else (allS (xs.take i)).mx, if (allS (xs.take i)).mx < x.mx then i else (allS (xs.take i)).at_⟩ ∧ SuB (allS (xs.take i)) i := by
  have hlt := (List.getElem?_eq_some_iff.1 hi).1
  have hl : (xs.take i).length = i := by rw [List.length_take]; omega
  have hb := allS_bd (xs := xs.take i) (by omega) fun y hy => hx y (List.mem_of_mem_take hy)
  rw [hl] at hb
  refine ⟨?_, hb⟩
  obtain ⟨h0, h1, h2, h3⟩ := hx x (List.mem_of_getElem? hi)
  have b0 := hb.d0; have b1 := hb.d1; have b2 := hb.d2; have bn := hb.n; have bm := hb.mx; have ba := hb.at_
  rw [take_succ_of hi, allS_snoc]
  have hz : i = 0 → (allS (xs.take i)).mx = 0 ∧ (allS (xs.take i)).at_ = 0 := by rintro rfl; exact ⟨rfl, rfl⟩
  apply Su.ext
  · simp only [addS, ofI]; omega
  · simp only [addS, ofI]; exact wr_in ⟨by omega, by omega⟩
  · simp only [addS, ofI]; exact wr_in ⟨by omega, by omega⟩
  · simp only [addS, ofI]; exact wr_in ⟨by omega, by omega⟩
  · by_cases hh : Hi (allS (xs.take i)) (ofI x)
    · have e1 : (addS (allS (xs.take i)) (ofI x)).mx = x.mx := by unfold addS; dsimp only; rw [if_pos hh]; rfl
      rw [e1]
      dsimp only
      split
      · rfl
      · rename_i hlt2
        rcases hh.2 with hn0 | hn0
        · have := hz (by omega); omega
        · exact absurd hn0 hlt2
    · have e1 : (addS (allS (xs.take i)) (ofI x)).mx = (allS (xs.take i)).mx := by unfold addS; dsimp only; rw [if_neg hh]
      rw [e1]
      dsimp only
      rw [if_neg (show ¬ (allS (xs.take i)).mx < x.mx from fun h => hh ⟨by simp [ofI], .inr h⟩)]
  · by_cases hh : Hi (allS (xs.take i)) (ofI x)
    · have e1 : (addS (allS (xs.take i)) (ofI x)).at_ = (allS (xs.take i)).n + 0 := by unfold addS; dsimp only; rw [if_pos hh]; rfl
      rw [e1]
      dsimp only
      split
      · omega
      · rename_i hlt2
        rcases hh.2 with hn0 | hn0
        · have := hz (by omega); omega
        · exact absurd hn0 hlt2
    · have e1 : (addS (allS (xs.take i)) (ofI x)).at_ = (allS (xs.take i)).at_ := by unfold addS; dsimp only; rw [if_neg hh]
      rw [e1]
      dsimp only
      rw [if_neg (show ¬ (allS (xs.take i)).mx < x.mx from fun h => hh ⟨by simp [ofI], .inr h⟩)]

def withN (s : Su) (n : Int) : Su := ⟨n, s.d0, s.d1, s.d2, s.mx, s.at_⟩
theorem rall_spec {w : World} {l : Value} {xs : List It} (hl : Sl w l 7 encT xs) (hx : ∀ x ∈ xs, ItOk x) (hn : xs.length ≤ 1000000) : sCall Try.prog S.bodkinref04_All.n [l] w fun u w' => Ext w w' ∧ u = .agg (encS (allS xs)).toArray := by
  refine S.bodkinref04_All.call ?_
  unfold S.bodkinref04_All
  refine sAlloc_new S.tze_bodkinref04_Sum fun b2 w1 hb2 hs1 e1 hk2 => ?_
  rw [sLen_sl S.tel_L_bodkinref04_Item (hl.ext e1), sBuild_of (cs := encS ⟨xs.length, 0, 0, 0, 0, 0⟩) (lp := [(0, [.int .i64 xs.length])]) S.tze_bodkinref04_Sum S.tpl_bodkinref04_Sum rfl rfl]
  refine sVar (vs := encS ⟨xs.length, 0, 0, 0, 0, 0⟩) S.tze_bodkinref04_Sum S.tsz_bodkinref04_Sum (by decide) rfl rfl (encS_one _) fun b3 w2 hb3 hs2 e2 hk3 => ?_
  have E2 := e1.trans e2
  have s1 := e1.size
  rw [sLen_sl S.tel_L_bodkinref04_Item (hl.ext E2)]
  refine LoopS.intro (fun us w3 => Ext w w3 ∧ Blk w3 b2 (encS zeroS) ∧ ∃ i : Nat, us = [.int .i64 i] ∧ i ≤ xs.length ∧ Blk w3 b3 (encS (withN (allS (xs.take i)) xs.length)))
    (fun us _ => match us with | [.int _ a] => (xs.length - a).toNat | _ => 0) ⟨E2, hk2.ext e2, 0, rfl, by omega, hk3⟩ ?_
  rintro us vs w3 ⟨E3, k2, i, rfl, hi, k3⟩
  unfold S.bodkinref04_All_L1
  rw [Go.Lift.hd, sBin_lss, sIf_dec]
  refine ⟨fun hlt => ?_, fun hge => ?_⟩
  · obtain ⟨x, hxi⟩ : ∃ x, xs[i]? = some x := ⟨_, List.getElem?_eq_getElem (by omega)⟩
    obtain ⟨b, o, hel, hc⟩ := (hl.ext E3).el hxi
    obtain ⟨hgrow, hb⟩ := allS_grow hx hn hxi
    obtain ⟨q0, q1, q2, q3⟩ := hx x (List.mem_of_getElem? hxi)
    have b0 := hb.d0; have b1 := hb.d1; have b2' := hb.d2
    generalize allS (xs.take i) = A at k3 hb b0 b1 b2' hgrow
    rw [sIdxA_sl S.tel_L_bodkinref04_Item S.tsz_bodkinref04_Item (by omega) (hl.ext E3) hxi rfl, hel, sLoad_agg S.tagg_bodkinref04_Item hc rfl]
    refine sVar S.tze_bodkinref04_Item S.tsz_bodkinref04_Item (by decide) rfl rfl (encT_ok.one x) fun b5 w4 hb5 hs4 e4 hk5 => ?_
    have h3lt := k3.lt
    refine LoopS.intro (fun us w5 => Ext w w5 ∧ Blk w5 b2 (encS zeroS) ∧ Blk w5 b5 (encT x) ∧ ∃ j : Nat, us = [.int .i64 j] ∧ j ≤ 3 ∧
        Blk w5 b3 (encS ⟨xs.length, if 0 < j then A.d0 + x.d0 else A.d0, if 1 < j then A.d1 + x.d1 else A.d1, if 2 < j then A.d2 + x.d2 else A.d2, A.mx, A.at_⟩))
      (fun us _ => match us with | [.int _ a] => (3 - a).toNat | _ => 0) ⟨E3.trans e4, k2.ext e4, hk5, 0, rfl, by omega, k3.ext e4⟩ ?_
    rintro us vs w5 ⟨E5, k2, k5, j, rfl, hj, k3⟩
    unfold S.bodkinref04_All_L2
    rw [Go.Lift.hd, sBin_lss, sIf_dec]
    refine ⟨fun hlt3 => ?_, fun hge3 => ?_⟩
    · refine DrawS.ext ?_
      have E : Ext w5 w5.drew := (Ext.refl w5).drew
      have hw : ∀ w6, w6.heap.size = w5.drew.heap.size → Wr b3 w5.drew w6 → Ext w w6 ∧ Blk w6 b2 (encS zeroS) ∧ Blk w6 b5 (encT x) := fun w6 hs hg =>
        ⟨(E5.trans E).wr hg (by rintro _ ⟨⟩; omega), (k2.ext E).wr hg (by intro e; cases e; omega), (k5.ext E).wr hg (by intro e; cases e; omega)⟩
      rw [stillS_eq (fun w1 h1 K => sFldA_ptr S.tfl_bodkinref04_Sum_D) E, stillS_eq (fun w1 h1 K => sIdxA_arr (i := j) S.tar_A3_int S.tsz_int (by omega) (by omega) rfl) E]
      rcases (by omega : j = 0 ∨ j = 1 ∨ j = 2) with rfl | rfl | rfl
      · rw [stillS_cell (v := .int .i64 A.d0) S.tcell_int (k3.cells.at 1 rfl) E, stillS_eq (fun w1 h1 K => sFldA_ptr S.tfl_bodkinref04_Item_D) E, stillS_eq (fun w1 h1 K => sIdxA_arr (i := 0) S.tar_A3_int S.tsz_int (by omega) (by omega) rfl) E, stillS_cell S.tcell_int (k5.cells.at 2 rfl) E,
          stillS_eq (fun w1 h1 K => sBin_add A.d0 x.d0 ⟨by omega, by omega⟩) E, stillS_eq (fun w1 h1 K => sFldA_ptr S.tfl_bodkinref04_Sum_D) E, stillS_eq (fun w1 h1 K => sIdxA_arr (i := 0) S.tar_A3_int S.tsz_int (by omega) (by omega) rfl) E]
        refine sStore_blk (vs := [.int .i64 (A.d0 + x.d0)]) S.tsz_int (by decide) (k3.ext E) rfl rfl (by simp [encS]) (by simp; rfl) fun w6 hs6 hg6 hk6 => ?_
        rw [sBin_add _ _ ⟨by omega, by omega⟩]
        obtain ⟨q1, q2, q3⟩ := hw w6 hs6 hg6
        exact ⟨⟨q1, q2, q3, 1, rfl, by omega, hk6⟩, by simp only []; omega⟩
      · rw [stillS_cell (v := .int .i64 A.d1) S.tcell_int (k3.cells.at 2 rfl) E, stillS_eq (fun w1 h1 K => sFldA_ptr S.tfl_bodkinref04_Item_D) E, stillS_eq (fun w1 h1 K => sIdxA_arr (i := 1) S.tar_A3_int S.tsz_int (by omega) (by omega) rfl) E, stillS_cell S.tcell_int (k5.cells.at 3 rfl) E,
          stillS_eq (fun w1 h1 K => sBin_add A.d1 x.d1 ⟨by omega, by omega⟩) E, stillS_eq (fun w1 h1 K => sFldA_ptr S.tfl_bodkinref04_Sum_D) E, stillS_eq (fun w1 h1 K => sIdxA_arr (i := 1) S.tar_A3_int S.tsz_int (by omega) (by omega) rfl) E]
        refine sStore_blk (vs := [.int .i64 (A.d1 + x.d1)]) S.tsz_int (by decide) (k3.ext E) rfl rfl (by simp [encS]) (by simp; rfl) fun w6 hs6 hg6 hk6 => ?_
        rw [sBin_add _ _ ⟨by omega, by omega⟩]
        obtain ⟨q1, q2, q3⟩ := hw w6 hs6 hg6
        exact ⟨⟨q1, q2, q3, 2, rfl, by omega, hk6⟩, by simp only []; omega⟩
      · rw [stillS_cell (v := .int .i64 A.d2) S.tcell_int (k3.cells.at 3 rfl) E, stillS_eq (fun w1 h1 K => sFldA_ptr S.tfl_bodkinref04_Item_D) E, stillS_eq (fun w1 h1 K => sIdxA_arr (i := 2) S.tar_A3_int S.tsz_int (by omega) (by omega) rfl) E, stillS_cell S.tcell_int (k5.cells.at 4 rfl) E,
          stillS_eq (fun w1 h1 K => sBin_add A.d2 x.d2 ⟨by omega, by omega⟩) E, stillS_eq (fun w1 h1 K => sFldA_ptr S.tfl_bodkinref04_Sum_D) E, stillS_eq (fun w1 h1 K => sIdxA_arr (i := 2) S.tar_A3_int S.tsz_int (by omega) (by omega) rfl) E]
        refine sStore_blk (vs := [.int .i64 (A.d2 + x.d2)]) S.tsz_int (by decide) (k3.ext E) rfl rfl (by simp [encS]) (by simp; rfl) fun w6 hs6 hg6 hk6 => ?_
        rw [sBin_add _ _ ⟨by omega, by omega⟩]
        obtain ⟨q1, q2, q3⟩ := hw w6 hs6 hg6
        exact ⟨⟨q1, q2, q3, 3, rfl, by omega, hk6⟩, by simp only []; omega⟩
    · obtain rfl : j = 3 := by omega
      rw [sFldA_ptr S.tfl_bodkinref04_Item_Max, sLoad_cell S.tcell_int (k5.cells.at 5 rfl), sFldA_ptr S.tfl_bodkinref04_Sum_Max, sLoad_cell S.tcell_int (k3.cells.at 4 rfl), sBin_gtr, sIf_dec]
      refine ⟨fun hm => ?_, fun hm => ?_⟩
      · rw [sFldA_ptr S.tfl_bodkinref04_Item_Max, sLoad_cell S.tcell_int (k5.cells.at 5 rfl), sFldA_ptr S.tfl_bodkinref04_Sum_Max]
        refine sStore_blk (vs := [.int .i64 x.mx]) S.tsz_int (by decide) k3 rfl rfl (by simp [encS]) (by simp; rfl) fun w6 hs6 hg6 hk6 => ?_
        rw [sFldA_ptr S.tfl_bodkinref04_Sum_At]
        refine sStore_blk (vs := [.int .i64 i]) S.tsz_int (by decide) hk6 rfl rfl (by simp [encS, splice]) (by simp; rfl) fun w7 hs7 hg7 hk7 => ?_
        rw [sBin_add _ _ ⟨by omega, by omega⟩]
        have G := grown_trans hg6 hg7
        refine ⟨⟨E5.wr G (by rintro _ ⟨⟩; omega), k2.wr G (by intro e; cases e; omega), i + 1, by simp, by omega, ?_⟩, by simp only []; omega⟩
        rw [hgrow, if_pos hm, if_pos hm]
        exact hk7
      · rw [sBin_add _ _ ⟨by omega, by omega⟩]
        refine ⟨⟨E5, k2, i + 1, by simp, by omega, ?_⟩, by simp only []; omega⟩
        rw [hgrow, if_neg hm, if_neg hm]
        exact k3
  · obtain rfl : i = xs.length := by omega
    rw [List.take_length] at k3
    have hnn := allS_n xs
    have k3 : Blk w3 b3 (encS (allS xs)) := by rw [← hnn] at k3; exact k3
    rw [sLoad_agg (cs := encS (allS xs)) S.tagg_bodkinref04_Sum k3.cells rfl]
    refine sStore_blk S.tsz_bodkinref04_Sum (by decide) k2 (vs := encS (allS xs)) rfl rfl (by simp [encS]) (encS_one _) fun w7 hs7 hg7 hk7 => ?_
    rw [sLoad_agg (cs := encS (allS xs)) S.tagg_bodkinref04_Sum hk7.cells rfl]
    exact ⟨rfl, E3.wr hg7 (by rintro _ ⟨⟩; omega), rfl⟩
end Go.Proofs.Ytmlbaimdphillaa

/- The document's answers for trees: a size, a place, items replaced, compared; how high a tree may be. Conditions: right items, not too many. -/
import Derived.Test.YtmlbaimdphillaaU4
namespace Go.Proofs.Ytmlbaimdphillaa
open Go Go.Lift Go.RowKit

theorem rsize_spec {w : World} {l : Value} {xs : List It} {dim : Int} (hl : Sl w l 7 encT xs) (hx : ∀ x ∈ xs, ItOk x) (hn : xs.length ≤ 1000000) (h0 : 0 ≤ dim) (h3 : dim ≤ 3) :
    sCall Try.prog S.bodkinref05_size.n [l, .int .i64 dim] w fun u w' => Ext w w' ∧ u = .int .i64 (szD (allS xs) dim) := by
  refine S.bodkinref05_size.call ?_
  unfold S.bodkinref05_size
  rw [sBin_eql, sIf_dec]
  refine ⟨fun h => ?_, fun h => ?_⟩
  · rw [sLen_sl S.tel_L_bodkinref04_Item hl]
    exact ⟨Ext.refl w, by unfold szD; rw [if_pos h, allS_n]⟩
  · refine (rall_spec hl hx hn).mono ?_
    rintro u w1 ⟨e1, rfl⟩
    obtain ⟨n, rfl⟩ : ∃ n : Nat, dim = n := ⟨dim.toNat, by omega⟩
    rw [sFld_agg (n := 3) S.tfd_bodkinref04_Sum_D S.tagg_A3_int]
    unfold szD
    rw [if_neg h]
    rcases (by omega : n = 0 ∨ n = 1 ∨ n = 2) with rfl | rfl | rfl
    · rw [sIdx_cell (i := 0) (v := .int .i64 (allS xs).d0) S.tar_A3_int S.tcell_int S.tsz_int (by omega) rfl rfl]; exact ⟨e1, rfl⟩
    · rw [sIdx_cell (i := 1) (v := .int .i64 (allS xs).d1) S.tar_A3_int S.tcell_int S.tsz_int (by omega) rfl rfl]; exact ⟨e1, rfl⟩
    · rw [sIdx_cell (i := 2) (v := .int .i64 (allS xs).d2) S.tar_A3_int S.tcell_int S.tsz_int (by omega) rfl rfl]; exact ⟨e1, rfl⟩

abbrev encA2 (a b : Int) : List Value := [.int .i64 a, .int .i64 b]
theorem encA2_one (a b : Int) : ∀ u ∈ encA2 a b, u.oneCell' = true := fun u hu => by simp [encA2] at hu; rcases hu with rfl | rfl <;> rfl
theorem rasks_spec {w : World} {l : Value} {xs : List It} {dim v bias : Int} (hl : Sl w l 7 encT xs) (hx : ∀ x ∈ xs, ItOk x) (hn : xs.length ≤ 1000000) :
    sCall Try.prog S.bodkinref05_Asks.n [l, .int .i64 dim, .agg (encA2 v bias).toArray] w fun u w' => Ext w w' ∧ ∃ r : Bool, u = .bool r ∧ (r = true ↔ Ask xs dim v bias) := by
  refine S.bodkinref05_Asks.call ?_
  unfold S.bodkinref05_Asks
  refine sBox_new (cs := encA2 v bias) rfl fun b w1 hb hs1 e1 hk => ?_
  refine DrawS.ext ?_
  have E : Ext w1 w1.drew := (Ext.refl w1).drew
  rw [stillS_eq (fun w1 h1 K => sBin_geq _ _) E, sIf_dec]
  refine ⟨fun h1 => ?_, fun h1 => ⟨e1.trans E, false, rfl, by simp [Ask]; omega⟩⟩
  rw [stillS_eq (fun w1 h1 K => sBin_lss _ _) E, sIf_dec]
  refine ⟨fun h2 => ?_, fun h2 => ⟨e1.trans E, false, rfl, by simp [Ask]; omega⟩⟩
  rw [stillS_eq (fun w1 h1 K => sIdxA_arr (i := 0) (z := 0) S.tar_A2_int S.tsz_int (by omega) (by omega) rfl) E, stillS_cell S.tcell_int (hk.cells.at 0 rfl) E, stillS_eq (fun w1 h1 K => sBin_geq _ _) E, sIf_dec]
  refine ⟨fun h3 => ?_, fun h3 => ⟨e1.trans E, false, rfl, by simp [Ask]; omega⟩⟩
  rw [stillS_eq (fun w1 h1 K => sIdxA_arr (i := 0) (z := 0) S.tar_A2_int S.tsz_int (by omega) (by omega) rfl) E, stillS_cell S.tcell_int (hk.cells.at 0 rfl) E]
  refine (rsize_spec ((hl.ext e1).ext E) hx hn (by omega) (by omega)).mono ?_
  rintro u w2 ⟨e2, rfl⟩
  have F2 := E.trans e2
  refine ⟨F2, ?_⟩
  rw [stillS_eq (fun w1 h1 K => sBin_leq _ _) F2, sIf_dec]
  refine ⟨fun h4 => ?_, fun h4 => ⟨e1.trans F2, false, rfl, by simp [Ask]; omega⟩⟩
  rw [stillS_eq (fun w1 h1 K => sIdxA_arr (i := 1) (z := 1) S.tar_A2_int S.tsz_int (by omega) (by omega) rfl) F2, stillS_cell S.tcell_int (hk.cells.at 1 rfl) F2, stillS_eq (fun w1 h1 K => sBin_eql _ _) F2, sIf_dec]
  refine ⟨fun h5 => ⟨e1.trans F2, true, rfl, by simp [Ask]; omega⟩, fun h5 => ?_⟩
  rw [stillS_eq (fun w1 h1 K => sIdxA_arr (i := 1) (z := 1) S.tar_A2_int S.tsz_int (by omega) (by omega) rfl) F2, stillS_cell S.tcell_int (hk.cells.at 1 rfl) F2, stillS_eq (fun w1 h1 K => sBin_eql _ _) F2]
  exact ⟨e1.trans F2, _, rfl, by simp [Ask]; omega⟩

theorem Fnd.uniq {xs : List It} {dim v bias : Int} {m n : Nat} (h : Fnd xs dim v bias m) (g : Fnd xs dim v bias n) : m = n := by
  have a : ∀ {m n : Nat}, Fnd xs dim v bias m → Fnd xs dim v bias n → ¬ m < n := fun h g hlt => g.no _ hlt (h.yes (by have := g.le; omega))
  have := a h g
  have := a g h
  omega
/-- A place of the document. -/
def encPr (i : Int) (s : Su) : List Value := .int .i64 i :: encS s
theorem encPr_one (i : Int) (s : Su) : ∀ u ∈ encPr i s, u.oneCell' = true := fun u hu => by
  simp [encPr, encS] at hu; rcases hu with rfl | rfl | rfl | rfl | rfl | rfl | rfl <;> rfl
theorem rfind_spec {w : World} {l : Value} {xs : List It} {dim v bias : Int} (hl : Sl w l 7 encT xs) (hx : ∀ x ∈ xs, ItOk x) (hn : xs.length ≤ 1000000) (ha : Ask xs dim v bias) :
    sCall Try.prog S.bodkinref05_Find.n [l, .int .i64 dim, .agg (encA2 v bias).toArray] w fun u w' => Ext w w' ∧ ∃ n : Nat, Fnd xs dim v bias n ∧ u = .agg (encPr n (allS (xs.take n))).toArray := by
  refine S.bodkinref05_Find.call ?_
  unfold S.bodkinref05_Find
  refine sBox_new (cs := encA2 v bias) rfl fun b w1 hb hs1 e1 hk => ?_
  refine sAlloc_new S.tze_bodkinref05_Place fun b6 w2 hb6 hs2 e2 hk6 => ?_
  have E2 := e1.trans e2
  have k2 := hk.ext e2
  have hcap := sl_cap hl
  refine JoinS.intro (fun us w' => Ext w2 w' ∧ ∃ n : Nat, us = [.int .i64 n] ∧ Fnd xs dim v bias n) ?_ ?_
  · refine LoopS.intro (fun us w3 => Ext w2 w3 ∧ ∃ n : Nat, us = [.int .i64 n] ∧ n ≤ xs.length ∧ ∀ m, m < n → ¬ Rch v bias (szA xs dim (m + 1)))
      (fun us _ => match us with | [.int _ a] => (xs.length - a).toNat | _ => 0) ⟨Ext.refl _, 0, rfl, by omega, fun m h => by omega⟩ ?_
    rintro us vs w3 ⟨e3, n, rfl, hle, hno⟩
    unfold S.bodkinref05_Find_L2
    have E3 := E2.trans e3
    have k3 := k2.ext e3
    rw [sLen_sl S.tel_L_bodkinref04_Item (hl.ext E3), Go.Lift.hd, sBin_lss, sIf_dec]
    refine ⟨fun hlt => ?_, fun hge => ⟨e3, n, rfl, hle, hno, fun h => by omega⟩⟩
    rw [sBin_add _ _ ⟨by omega, by omega⟩, sSlice_h (hi := n + 1) S.tel_L_bodkinref04_Item S.tsz_bodkinref04_Item (by omega) (hl.ext E3) (by omega) (by omega)]
    have p1 : Sl w3 (slV l 7 0 (n + 1) (capV l)) 7 encT (xs.take (n + 1)) := by
      simpa using (hl.ext E3).part (lo := 0) (hi := n + 1) (mx := capV l) (by omega) (by omega) (by omega) (Nat.le_refl _)
    refine (rsize_spec p1 (fun x h => hx x (List.mem_of_mem_take h)) (by rw [List.length_take]; omega) ha.1 ha.2.1).mono ?_
    rintro u w4 ⟨e4, rfl⟩
    have F4 := e3.trans e4
    have k4 := k3.ext e4
    have hz : szD (allS (xs.take (n + 1))) dim = szA xs dim (n + 1) := rfl
    rw [hz]
    have found : Rch v bias (szA xs dim (n + 1)) → Fnd xs dim v bias n := fun h => ⟨hle, hno, fun _ => h⟩
    refine JoinS.intro (fun us w' => us = [] ∧ Ext w2 w' ∧ ¬ Rch v bias (szA xs dim (n + 1))) ?_ ?_
    · rw [sIdxA_arr (i := 0) (z := 0) S.tar_A2_int S.tsz_int (by omega) (by omega) rfl, sLoad_cell S.tcell_int (k4.cells.at 0 rfl), sBin_gtr, sIf_dec]
      refine ⟨fun h => ⟨F4, n, rfl, found (.inl h)⟩, fun h => ?_⟩
      rw [sIdxA_arr (i := 1) (z := 1) S.tar_A2_int S.tsz_int (by omega) (by omega) rfl, sLoad_cell S.tcell_int (k4.cells.at 1 rfl), sBin_eql, sIf_dec]
      refine ⟨fun h2 => ?_, fun h2 => ⟨rfl, F4, fun h3 => ?_⟩⟩
      · rw [sIdxA_arr (i := 0) (z := 0) S.tar_A2_int S.tsz_int (by omega) (by omega) rfl, sLoad_cell S.tcell_int (k4.cells.at 0 rfl), sBin_eql, sIf_dec]
        refine ⟨fun h3 => ⟨F4, n, rfl, found (.inr ⟨h2, h3⟩)⟩, fun h3 => ⟨rfl, F4, fun h4 => ?_⟩⟩
        rcases h4 with h4 | h4
        · exact h h4
        · exact h3 h4.2
      · rcases h3 with h3 | h3
        · exact h h3
        · exact h2 h3.1
    rintro us vs w5 ⟨rfl, e5, hnr⟩
    unfold S.bodkinref05_Find_J3
    rw [sBin_add _ _ ⟨by omega, by omega⟩]
    refine ⟨⟨e5, n + 1, by simp, by omega, fun m hm => ?_⟩, by simp only []; omega⟩
    by_cases h : m = n
    · subst h; exact hnr
    · exact hno m (by omega)
  rintro us vs w3 ⟨e3, n, rfl, hf⟩
  unfold S.bodkinref05_Find_J1
  have E3 := E2.trans e3
  have hle := hf.le
  rw [Go.Lift.hd, sSlice_h (hi := n) S.tel_L_bodkinref04_Item S.tsz_bodkinref04_Item (by omega) (hl.ext E3) rfl (by omega)]
  have p1 : Sl w3 (slV l 7 0 n (capV l)) 7 encT (xs.take n) := by
    simpa using (hl.ext E3).part (lo := 0) (hi := n) (mx := capV l) (by omega) (by omega) (by omega) (Nat.le_refl _)
  refine (rall_spec p1 (fun x h => hx x (List.mem_of_mem_take h)) (by rw [List.length_take]; omega)).mono ?_
  rintro u w4 ⟨e4, rfl⟩
  rw [sBuild_of (cs := encPr n (allS (xs.take n))) (lp := [(0, [.int .i64 n]), (1, encS (allS (xs.take n)))]) S.tze_bodkinref05_Place S.tpl_bodkinref05_Place rfl rfl]
  refine sStore_blk S.tsz_bodkinref05_Place (by decide) ((hk6.ext e3).ext e4) (vs := encPr n (allS (xs.take n))) rfl rfl (by simp) (encPr_one _ _) fun w7 hs7 hg7 hk7 => ?_
  rw [sLoad_agg (cs := encPr n (allS (xs.take n))) S.tagg_bodkinref05_Place hk7.cells rfl]
  have := e1.size
  exact ⟨rfl, (E3.trans e4).wr hg7 (by rintro _ ⟨⟩; omega), n, hf, rfl⟩

theorem rreplace_spec {w : World} {l m : Value} {xs ys : List It} {a b : Nat} (hl : Sl w l 7 encT xs) (hm : Sl w m 7 encT ys) (hab : a ≤ b) (hb : b ≤ xs.length) (hn : xs.length + ys.length ≤ 1000000) :
    sCall Try.prog S.bodkinref05_Replace.n [l, .agg (encA2 a b).toArray, m] w fun u w' => Ext w w' ∧ Sl w' u 7 encT (xs.take a ++ ys ++ xs.drop b) := by
  refine S.bodkinref05_Replace.call ?_
  unfold S.bodkinref05_Replace
  have hmx : maxLen = 9223372036854775807 := rfl
  have hcap := sl_cap hl
  refine sBox_new (cs := encA2 a b) rfl fun b4 w1 hb4 hs1 e1 hk => ?_
  rw [sIdxA_arr (i := 0) (z := 0) S.tar_A2_int S.tsz_int (by omega) (by omega) rfl, sLoad_cell S.tcell_int (hk.cells.at 0 rfl), sSlice_h (hi := a) S.tel_L_bodkinref04_Item S.tsz_bodkinref04_Item (by omega) (hl.ext e1) rfl (by omega)]
  have p1 : Sl w1 (slV l 7 0 a (capV l)) 7 encT (xs.take a) := by
    simpa using (hl.ext e1).part (lo := 0) (hi := a) (mx := capV l) (by omega) (by omega) (by omega) (Nat.le_refl _)
  have l1 : (xs.take a).length = a := by rw [List.length_take]; omega
  refine sAppend_row S.tel_L_bodkinref04_Item S.tsz_bodkinref04_Item (by decide) S.tze_bodkinref04_Item rfl encT_ok (Row.nil w1 w1.heap.size _ _ _) (Nat.le_refl _) p1 (by simp; omega) (by rw [S.tby_bodkinref04_Item]; simp; omega) fun v2 w2 hv2 hg2 _ => ?_
  have e2 : Ext w1 w2 := (Ext.refl w1).wr hg2 (fun g hg => by cases hg)
  rw [List.nil_append] at hv2
  have E2 := e1.trans e2
  refine sAppend_row S.tel_L_bodkinref04_Item S.tsz_bodkinref04_Item (by decide) S.tze_bodkinref04_Item rfl encT_ok hv2 e2.size (hm.ext E2) (by omega) (by rw [S.tby_bodkinref04_Item]; omega) fun v3 w3 hv3 hg3 _ => ?_
  have e3 : Ext w1 w3 := e2.wr hg3 (fun g hg => (hv2.lt g hg).1)
  have E3 := e1.trans e3
  rw [sIdxA_arr (i := 1) (z := 1) S.tar_A2_int S.tsz_int (by omega) (by omega) rfl, sLoad_cell S.tcell_int ((hk.ext e3).cells.at 1 rfl), sSlice_l (lo := b) S.tel_L_bodkinref04_Item S.tsz_bodkinref04_Item (by omega) (hl.ext E3) rfl (by omega)]
  have p2 : Sl w3 (slV l 7 b xs.length (capV l)) 7 encT (xs.drop b) := by
    simpa using (hl.ext E3).part (lo := b) (hi := xs.length) (mx := capV l) (by omega) (by omega) (by omega) (Nat.le_refl _)
  have l2 : (xs.drop b).length = xs.length - b := by rw [List.length_drop]
  refine sAppend_row S.tel_L_bodkinref04_Item S.tsz_bodkinref04_Item (by decide) S.tze_bodkinref04_Item rfl encT_ok hv3 e3.size p2 (by rw [List.length_append]; omega) (by rw [S.tby_bodkinref04_Item, List.length_append]; omega) fun v4 w4 hv4 hg4 _ => ?_
  exact ⟨e1.trans (e3.wr hg4 (fun g hg => (hv3.lt g hg).1)), hv4.sl encT_ok⟩

theorem encT_fit (x : It) : fitB Try.prog S.T.dl_bodkinref04_Item (encT x) = true := by kernel_rfl
theorem ritems_eq {cx cy : Bool} (x y : It) : ∃ r : Bool, (r = true ↔ x = y) ∧ (∀ w K, sBin Try.prog .eql S.T.bodkinref04_Item cx cy (.agg (encT x).toArray) (.agg (encT y).toArray) w K = K (.bool r) w) ∧ ∀ w K, sBin Try.prog .neq S.T.bodkinref04_Item cx cy (.agg (encT x).toArray) (.agg (encT y).toArray) w K = K (.bool (!r)) w := by
  obtain ⟨r, h1, h2, h3⟩ := sBin_deep (cx := cx) (cy := cy) S.tdq_bodkinref04_Item S.taq_bodkinref04_Item S.tgq_bodkinref04_Item (encT_fit x) (encT_fit y)
  exact ⟨r, h1.trans ⟨encT_inj, fun h => h ▸ rfl⟩, h2, h3⟩
theorem rsums_eq {cx cy : Bool} (x y : Su) : ∃ r : Bool, (r = true ↔ x = y) ∧ (∀ w K, sBin Try.prog .eql S.T.bodkinref04_Sum cx cy (.agg (encS x).toArray) (.agg (encS y).toArray) w K = K (.bool r) w) ∧ ∀ w K, sBin Try.prog .neq S.T.bodkinref04_Sum cx cy (.agg (encS x).toArray) (.agg (encS y).toArray) w K = K (.bool (!r)) w := by
  obtain ⟨r, h1, h2, h3⟩ := sBin_deep (cx := cx) (cy := cy) S.tdq_bodkinref04_Sum S.taq_bodkinref04_Sum S.tgq_bodkinref04_Sum (show fitB Try.prog S.T.dl_bodkinref04_Sum (encS x) = true by kernel_rfl) (show fitB Try.prog S.T.dl_bodkinref04_Sum (encS y) = true by kernel_rfl)
  exact ⟨r, h1.trans ⟨encS_inj, fun h => h ▸ rfl⟩, h2, h3⟩

theorem rsame_spec {w : World} {a b : Value} {xs ys : List It} (ha : Sl w a 7 encT xs) (hb : Sl w b 7 encT ys) : sCall Try.prog S.bodkinref05_Same.n [a, b] w fun u w' => Ext w w' ∧ ∃ r : Bool, u = .bool r ∧ (r = true ↔ xs = ys) := by
  refine S.bodkinref05_Same.call ?_
  unfold S.bodkinref05_Same
  have h63a := ha.len_le
  have h63b := hb.len_le
  rw [sLen_sl S.tel_L_bodkinref04_Item ha]
  refine LoopS.intro (fun us w1 => Ext w w1 ∧ ∃ i : Nat, us = [.int .i64 i] ∧ i ≤ xs.length ∧ xs.take i = ys.take i)
    (fun us _ => match us with | [.int _ a] => (xs.length - a).toNat | _ => 0) ⟨Ext.refl w, 0, rfl, by omega, rfl⟩ ?_
  rintro us vs w1 ⟨e1, i, rfl, hi, heq⟩
  unfold S.bodkinref05_Same_L1
  rw [Go.Lift.hd, sBin_lss, sIf_dec]
  refine ⟨fun hlt => ?_, fun hge => ?_⟩
  · obtain ⟨x, hx⟩ : ∃ x, xs[i]? = some x := ⟨_, List.getElem?_eq_getElem (by omega)⟩
    refine DrawS.ext ?_
    have E : Ext w1 w1.drew := (Ext.refl w1).drew
    rw [stillS_eq (fun w1' h1 K => sLen_sl S.tel_L_bodkinref04_Item ((hb.ext e1).ext h1)) E, stillS_eq (fun w1 h1 K => sBin_geq _ _) E, sIf_dec]
    refine ⟨fun h => ⟨e1.trans E, false, rfl, by simp only [Bool.false_eq_true, false_iff]; intro h'; rw [h'] at hlt; omega⟩, fun h => ?_⟩
    obtain ⟨y, hy⟩ : ∃ y, ys[i]? = some y := ⟨_, List.getElem?_eq_getElem (by omega)⟩
    obtain ⟨b1, o1, hel1, hc1⟩ := (ha.ext e1).el hx
    obtain ⟨b2, o2, hel2, hc2⟩ := (hb.ext e1).el hy
    obtain ⟨r, hr1, _, hr3⟩ := ritems_eq (cx := false) (cy := false) x y
    rw [stillS_eq (fun w1' h1 K => sIdxA_sl S.tel_L_bodkinref04_Item S.tsz_bodkinref04_Item (by omega) ((ha.ext e1).ext h1) hx rfl) E, hel1, stillS_agg (cs := encT x) S.tagg_bodkinref04_Item hc1 rfl E,
      stillS_eq (fun w1' h1 K => sIdxA_sl S.tel_L_bodkinref04_Item S.tsz_bodkinref04_Item (by omega) ((hb.ext e1).ext h1) hy rfl) E, hel2, stillS_agg (cs := encT y) S.tagg_bodkinref04_Item hc2 rfl E, stillS_eq (fun w1 h1 K => hr3 w1 K) E, sIf_bool]
    refine ⟨fun hne => ⟨e1.trans E, false, rfl, by
      simp only [Bool.false_eq_true, false_iff]
      intro h'
      subst h'
      rw [hx] at hy; cases hy
      rw [hr1.2 rfl] at hne; cases hne⟩, fun hne => ?_⟩
    have hxy : x = y := hr1.1 (by simpa using hne)
    rw [sBin_add _ _ ⟨by omega, by omega⟩]
    refine ⟨⟨e1.trans E, i + 1, by simp, by omega, ?_⟩, by simp only []; omega⟩
    rw [take_succ_of hx, take_succ_of hy, heq, hxy]
  · obtain rfl : i = xs.length := by omega
    rw [sLen_sl S.tel_L_bodkinref04_Item (ha.ext e1), sLen_sl S.tel_L_bodkinref04_Item (hb.ext e1), sBin_eql]
    refine ⟨e1, _, rfl, ?_⟩
    rw [decide_eq_true_eq]
    constructor
    · intro h
      have : xs.length = ys.length := by omega
      rw [List.take_length, this, List.take_length] at heq
      exact heq
    · intro h; rw [h]

theorem high_spec {w : World} {H n : Nat} (h0 : H = 0 ↔ n = 0) (h2 : 2 ≤ H → 2 * 4 ^ (H - 1) ≤ n) (h11 : H ≤ 11) (hn : n ≤ 1000000) : sCall Try.prog S.bodkinref05_High.n [.int .i64 H, .int .i64 n] w fun u w' => w' = w ∧ u = .bool true := by
  refine S.bodkinref05_High.call ?_
  unfold S.bodkinref05_High
  refine LoopS.intro (fun us w1 => w1 = w ∧ ∃ i : Nat, us = [.int .i64 ((4 ^ (i - 2) : Nat) : Int), .int .i64 i] ∧ 2 ≤ i ∧ (i ≤ H ∨ i = 2))
    (fun us _ => match us with | [_, .int _ a] => (H - a).toNat | _ => 0) ⟨rfl, 2, rfl, by omega, .inr rfl⟩ ?_
  rintro us vs w1 ⟨rfl, i, rfl, hi2, hi⟩
  unfold S.bodkinref05_High_L1
  rw [Go.Lift.hd, Go.Lift.tl, Go.Lift.hd, sBin_lss, sIf_dec]
  refine ⟨fun hlt => ?_, fun hge => ?_⟩
  · have hH2 : 2 ≤ H := by omega
    have hp := h2 hH2
    have hmono : 4 ^ (i - 2 + 1) ≤ 4 ^ (H - 1) := Nat.pow_le_pow_right (by decide) (by omega)
    have hstep : 4 ^ (i - 2 + 1) = 4 * 4 ^ (i - 2) := by rw [Nat.pow_succ, Nat.mul_comm]
    have e1 : (4 : Int) * ((4 ^ (i - 2) : Nat) : Int) = ((4 ^ (i - 2 + 1) : Nat) : Int) := by rw [hstep]; simp
    rw [sBin_mul _ _ (by rw [e1]; exact ⟨by omega, by omega⟩), e1, sBin_add _ _ ⟨by omega, by omega⟩, sBin_gtr, sIf_neg (by omega), sBin_add _ _ ⟨by omega, by omega⟩]
    have e2 : i - 2 + 1 = i + 1 - 2 := by omega
    rw [e2]
    exact ⟨⟨rfl, i + 1, by simp, by omega, .inl (by omega)⟩, by simp only []; omega⟩
  · rw [sBin_eql, sBin_eql, sBin_boolEq Try.underlying4]
    have hb : (decide ((H : Int) = 0) == decide ((n : Int) = 0)) = true := by
      rw [beq_iff_eq, decide_eq_decide]; omega
    rw [hb, sIf_true, sBin_geq]
    exact ⟨rfl, by simp⟩
end Go.Proofs.Ytmlbaimdphillaa

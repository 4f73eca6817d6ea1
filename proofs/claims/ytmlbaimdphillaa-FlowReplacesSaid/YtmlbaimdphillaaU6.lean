/- The laws of trees answer true: new ones, places, parts. No conditions but that of memory. -/
import Derived.Test.YtmlbaimdphillaaUr05
namespace Go.Proofs.Ytmlbaimdphillaa
open Go Go.Lift Go.RowKit

abbrev Yes (w : World) : K1 := fun v w' => Ext w w' ∧ v = .bool true
theorem Yes.of {w w1 : World} {v : Value} {w' : World} (e : Ext w w1) (h : Yes w1 v w') : Yes w v w' := ⟨e.trans h.1, h.2⟩
abbrev it3 (d : Int) : It := ⟨0, 0, d, 0, 0, 0, ⟨#[]⟩⟩
abbrev ts3 : List It := [it3 1, it3 2, it3 3]
theorem arr3 {w : World} {K : K1} (a b c : Int) : sBuild Try.prog S.T.A3_int [(0, .int .i64 a), (1, .int .i64 b), (2, .int .i64 c)] w K = K (.agg [.int .i64 a, .int .i64 b, .int .i64 c].toArray) w :=
  sBuild_of (lp := [(0, [.int .i64 a]), (1, [.int .i64 b]), (2, [.int .i64 c])]) S.tze_A3_int S.tpl_A3_int rfl rfl
theorem itm3 {w : World} {K : K1} (d : Int) : sBuild Try.prog S.T.item_Item [(2, .agg [.int .i64 d, .int .i64 0, .int .i64 0].toArray)] w K = K (.agg (encT (it3 d)).toArray) w :=
  sBuild_of (cs := encT (it3 d)) (lp := [(2, [.int .i64 d, .int .i64 0, .int .i64 0])]) S.tze_item_Item S.tpl_item_Item rfl rfl
theorem fnd3 : Fnd ts3 0 1 1 1 ∧ Fnd ts3 0 1 0 0 := by
  refine ⟨⟨by decide, fun m hm => ?_, fun _ => by decide⟩, ⟨by decide, fun m hm => by omega, fun _ => by decide⟩⟩
  obtain rfl : m = 0 := by omega
  decide
theorem place_eq {cx cy : Bool} (i j : Int) (s t : Su) (a b : Int) : ∃ r : Bool, (r = true ↔ encPl i s a = encPl j t b) ∧ (∀ w K, sBin Try.prog .eql S.T.tree_Place cx cy (.agg (encPl i s a).toArray) (.agg (encPl j t b).toArray) w K = K (.bool r) w) := by
  obtain ⟨r, h1, h2, h3⟩ := sBin_deep (cx := cx) (cy := cy) S.tdq_tree_Place S.taq_tree_Place S.tgq_tree_Place (show fitB Try.prog S.T.dl_tree_Place (encPl i s a) = true by kernel_rfl) (show fitB Try.prog S.T.dl_tree_Place (encPl j t b) = true by kernel_rfl)
  exact ⟨r, h1, h2⟩
theorem items_eq {cx cy : Bool} (x y : It) : ∃ r : Bool, (r = true ↔ x = y) ∧ (∀ w K, sBin Try.prog .eql S.T.item_Item cx cy (.agg (encT x).toArray) (.agg (encT y).toArray) w K = K (.bool r) w) ∧ ∀ w K, sBin Try.prog .neq S.T.item_Item cx cy (.agg (encT x).toArray) (.agg (encT y).toArray) w K = K (.bool (!r)) w := by
  obtain ⟨r, h1, h2, h3⟩ := sBin_deep (cx := cx) (cy := cy) S.tdq_item_Item S.taq_item_Item S.tgq_item_Item (show fitB Try.prog S.T.dl_item_Item (encT x) = true by kernel_rfl) (show fitB Try.prog S.T.dl_item_Item (encT y) = true by kernel_rfl)
  exact ⟨r, h1.trans ⟨encT_inj, fun h => h ▸ rfl⟩, h2, h3⟩

theorem three_spec (w : World) : sCall Try.prog S.bodkinlaw05_three.n [] w (Yes w) := by
  refine S.bodkinlaw05_three.call ?_
  unfold S.bodkinlaw05_three
  rw [arr3, itm3, arr3, itm3, arr3, itm3]
  refine sBuildSlice_own (n := 3) (enc := encT) (xs := ts3) (lp := [(0, encT (it3 1)), (1, encT (it3 2)), (2, encT (it3 3))]) S.tel_L_item_Item S.tsz_item_Item rfl S.tze_item_Item (by decide) (by decide) encT_ok rfl rfl fun l w1 _ ho1 e1 _ => ?_
  have hok : ∀ x ∈ ts3, ItOk x := by decide
  refine (new_spec (ho1.sl encT_ok)).mono ?_
  rintro u w2 ⟨e2, hu⟩
  rcases hu with ⟨h, _⟩ | ⟨_, h, _⟩ | ⟨_, _, b, r, rfl, hc, hr⟩
  · exact absurd h (by decide)
  · exact absurd hok h
  have E2 := e1.trans e2
  have ht : Tp w2 (.pointer (some ⟨b, 0, none⟩)) ts3 := .inr ⟨b, r, rfl, hc, hr⟩
  obtain ⟨H, hH⟩ := ht.withH
  obtain ⟨f1, f2⟩ := fnd3
  rw [sExtract_0, sExtract_1]
  refine (tfind_spec (dim := 0) (v := 1) (bias := 1) hH hok (by decide)).mono ?_
  rintro u w3 ⟨e3, hu⟩
  rcases hu with ⟨h, _⟩ | ⟨_, n, vis, hn, _, rfl⟩
  · exact absurd (by decide) h
  obtain rfl := hn.uniq f1
  rw [sExtract_0, sExtract_1]
  refine sVar (vs := encPl 1 (allS (ts3.take 1)) vis) S.tze_tree_Place S.tsz_tree_Place (by decide) rfl rfl (encPl_one _ _ _) fun b3 w4 hb3 hs4 e4 hk3 => ?_
  have F4 := e3.trans e4
  refine (tfind_spec (dim := 0) (v := 1) (bias := 0) (hH.ext F4) hok (by decide)).mono ?_
  rintro u w5 ⟨e5, hu⟩
  rcases hu with ⟨h, _⟩ | ⟨_, n, vis2, hn, _, rfl⟩
  · exact absurd (by decide) h
  obtain rfl := hn.uniq f2
  rw [sExtract_0, sExtract_1]
  refine sVar (vs := encPl 0 (allS (ts3.take 0)) vis2) S.tze_tree_Place S.tsz_tree_Place (by decide) rfl rfl (encPl_one _ _ _) fun b5 w6 hb5 hs6 e6 hk5 => ?_
  have F6 := (F4.trans e5).trans e6
  have k3 := (hk3.ext e5).ext e6
  have h1 : w6.cell? ⟨b3, 0 + 1 + 1 + 0 * 1, none⟩ = some (.int .i64 1) := k3.cells.at 2 rfl
  rw [sBin_eql, sIf_pos rfl, sBin_eql, sIf_pos rfl, sBin_eql, sIf_pos rfl, sFldA_ptr S.tfl_tree_Place_Index, sLoad_cell S.tcell_int (k3.cells.at 0 rfl), sBin_eql, sIf_pos rfl,
    sFldA_ptr S.tfl_tree_Place_Before, sFldA_ptr S.tfl_item_Sum_D, sIdxA_arr (i := 0) (z := 0) S.tar_A3_int S.tsz_int (by omega) (by omega) rfl, sLoad_cell S.tcell_int h1, sBin_eql, sIf_pos rfl,
    sFldA_ptr S.tfl_tree_Place_Index, sLoad_cell S.tcell_int (hk5.cells.at 0 rfl), sBin_eql, sIf_pos rfl]
  refine (theight_spec (hH.ext F6)).mono ?_
  rintro u w7 ⟨rfl, rfl⟩
  obtain ⟨q1, q2, q3⟩ := tallH hH (by decide)
  have hH1 : (H : Int) = 1 := by
    have : H ≠ 0 := fun h => by have := q1.1 h; cases this
    have : ¬ 2 ≤ H := fun h => by
      have := q2 h
      have h4 : 4 ^ 1 ≤ 4 ^ (H - 1) := Nat.pow_le_pow_right (by decide) (by omega)
      simp at this; omega
    omega
  rw [hH1, sBin_eql, sIf_pos rfl]
  refine (tsound_spec (ht.ext F6) ⟨by decide⟩).mono ?_
  rintro u w8 ⟨e8, rfl⟩
  exact ⟨(E2.trans F6).trans e8, rfl⟩
theorem then3 {w w1 : World} (e : Ext w w1) : sCall Try.prog S.bodkinlaw05_three.n [] w1 (Yes w) := (three_spec w1).mono fun _ _ h => Yes.of e h

theorem is_spec {w : World} {t l : Value} {xs : List It} (ht : Tp w t xs) (hl : Sl w l 7 encT xs) (hx : ∀ x ∈ xs, ItOk x) (hn : xs.length ≤ 1000000) : sCall Try.prog S.bodkinlaw05_is.n [t, l] w (Yes w) := by
  refine S.bodkinlaw05_is.call ?_
  unfold S.bodkinlaw05_is
  refine (titems_spec ht ⟨hn⟩).mono ?_
  rintro u w1 ⟨e1, hu⟩
  refine (R05.refs_spec (hu.sl encT_ok) hn).mono ?_
  rintro u w2 ⟨e2, hu2⟩
  have E2 := e1.trans e2
  refine (rsame_spec hu2 (hl.ext E2)).mono ?_
  rintro u w3 ⟨e3, r, rfl, hr⟩
  have E3 := E2.trans e3
  rw [hr.2 rfl, sIf_true]
  refine (tsum_spec (ht.ext E3)).mono ?_
  rintro u w4 ⟨e4, rfl⟩
  refine (R05.refSum_spec _).mono ?_
  rintro u w5 ⟨e5, rfl⟩
  have E5 := (E3.trans e4).trans e5
  refine (rall_spec (hl.ext E5) hx hn).mono ?_
  rintro u w6 ⟨e6, rfl⟩
  have E6 := E5.trans e6
  obtain ⟨r, hr1, hr2, _⟩ := rsums_eq (cx := false) (cy := false) (allS xs) (allS xs)
  rw [hr2, hr1.2 rfl, sIf_true]
  obtain ⟨H, hH⟩ := (ht.ext E6).withH
  refine (theight_spec hH).mono ?_
  rintro u w7 ⟨rfl, rfl⟩
  rw [sLen_sl S.tel_L_bodkinref04_Item (hl.ext E6)]
  obtain ⟨q1, q2, q3⟩ := tallH hH hn
  refine (high_spec (H := H) (n := xs.length) (by rw [q1]; exact ⟨fun h => by rw [h]; rfl, fun h => List.eq_nil_of_length_eq_zero h⟩) q2 q3 hn).mono ?_
  rintro u w8 ⟨rfl, rfl⟩
  rw [sIf_true]
  refine (tsound_spec (ht.ext E6) ⟨hn⟩).mono ?_
  rintro u w9 ⟨e9, rfl⟩
  exact ⟨E6.trans e9, rfl⟩

/-- A tree of right items is made. -/
theorem newOk {w : World} {l : Value} {xs : List It} (hl : Sl w l 7 encT xs) (hx : ∀ x ∈ xs, ItOk x) (hn : xs.length ≤ 30000) :
    sCall Try.prog S.tree_New.n [l] w fun u w' => Ext w w' ∧ ∃ b, u = .tuple #[.pointer (some ⟨b, 0, none⟩), .int .i64 0] ∧ Tp w' (.pointer (some ⟨b, 0, none⟩)) xs := by
  refine (new_spec hl).mono ?_
  rintro u w2 ⟨e2, hu⟩
  rcases hu with ⟨h, _⟩ | ⟨_, h, _⟩ | ⟨_, _, b, r, rfl, hc, hr⟩
  · omega
  · exact absurd hx h
  · exact ⟨e2, b, rfl, .inr ⟨b, r, rfl, hc, hr⟩⟩

theorem treeFinds_spec {w : World} {l : Value} {xs : List It} (hl : Sl w l 7 encT xs) (dim v bias : Int) : S.bodkinlaw05_TreeFinds (Yes w) l (.int .i64 dim) (.agg (encA2 v bias).toArray) w := by
  unfold S.bodkinlaw05_TreeFinds
  refine sBox_new (cs := encA2 v bias) rfl fun b5 w1 hb5 hs1 e1 hk5 => ?_
  refine (R05.right_spec (hl.ext e1)).mono ?_
  rintro u w2 ⟨e2, r, rfl, hr⟩
  have E2 := e1.trans e2
  rw [sUn_not, sIf_bool]
  refine ⟨fun _ => then3 E2, fun h => ?_⟩
  obtain ⟨hn, hx⟩ := hr.1 (by simpa using h)
  refine (newOk (hl.ext E2) hx (by omega)).mono ?_
  rintro u w3 ⟨e3, b, rfl, ht⟩
  have E3 := E2.trans e3
  have k3 := (hk5.ext e2).ext e3
  obtain ⟨H, hH⟩ := ht.withH
  rw [sExtract_0, sExtract_1, sBin_neq, sIf_not]
  refine ⟨fun h => absurd rfl h, fun _ => ?_⟩
  rw [sBin_ptr_eq S.tpt_P_tree_Tree, Option.isNone_some, sIf_false, sIdxA_arr (i := 0) (z := 0) S.tar_A2_int S.tsz_int (by omega) (by omega) rfl, sLoad_cell S.tcell_int (k3.cells.at 0 rfl), sIdxA_arr (i := 1) (z := 1) S.tar_A2_int S.tsz_int (by omega) (by omega) rfl, sLoad_cell S.tcell_int (k3.cells.at 1 rfl)]
  refine (tfind_spec (dim := dim) (v := v) (bias := bias) hH hx (by omega)).mono ?_
  rintro u w4 ⟨e4, hu⟩
  have E4 := E3.trans e4
  rcases hu with ⟨hna, rfl⟩ | ⟨ha, n, vis, hf, hvis, rfl⟩
  · rw [sExtract_0, sExtract_1]
    refine sVar (vs := encPl 0 zeroS 0) S.tze_tree_Place S.tsz_tree_Place (by decide) rfl rfl (encPl_one _ _ _) fun b9 w5 hb9 hs5 e5 hk9 => ?_
    have E5 := E4.trans e5
    refine (R05.refs_spec (hl.ext E5) (by omega)).mono ?_
    rintro m w6 ⟨e6, hm⟩
    have k6 := ((k3.ext e4).ext e5).ext e6
    rw [sLoad_agg (cs := encA2 v bias) S.tagg_A2_int k6.cells rfl]
    refine (rasks_spec (dim := dim) (v := v) (bias := bias) hm hx (by omega)).mono ?_
    rintro u w7 ⟨e7, q, rfl, hq⟩
    have hqf : q = false := by
      rcases Bool.eq_false_or_eq_true q with h | h
      · exact absurd (hq.1 h) hna
      · exact h
    have k9 := (hk9.ext e6).ext e7
    obtain ⟨r2, hr1, hr2⟩ := place_eq (cx := false) (cy := false) 0 0 zeroS zeroS 0 0
    rw [hqf, sUn_not, Bool.not_false, sIf_true, sBin_eql, sIf_pos rfl, sLoad_agg (cs := encPl 0 zeroS 0) S.tagg_tree_Place k9.cells rfl, sBuild_of (cs := encPl 0 zeroS 0) (lp := []) S.tze_tree_Place S.tpl_tree_Place rfl rfl, hr2, hr1.2 rfl, sIf_true]
    exact then3 ((E5.trans e6).trans e7)
  · rw [sExtract_0, sExtract_1]
    refine sVar (vs := encPl n (allS (xs.take n)) vis) S.tze_tree_Place S.tsz_tree_Place (by decide) rfl rfl (encPl_one _ _ _) fun b9 w5 hb9 hs5 e5 hk9 => ?_
    have E5 := E4.trans e5
    refine (R05.refs_spec (hl.ext E5) (by omega)).mono ?_
    rintro m w6 ⟨e6, hm⟩
    have k6 := ((k3.ext e4).ext e5).ext e6
    rw [sLoad_agg (cs := encA2 v bias) S.tagg_A2_int k6.cells rfl]
    refine (rasks_spec (dim := dim) (v := v) (bias := bias) hm hx (by omega)).mono ?_
    rintro u w7 ⟨e7, q, rfl, hq⟩
    rw [hq.2 ha, sUn_not, Bool.not_true, sIf_false, sLoad_agg (cs := encA2 v bias) S.tagg_A2_int (k6.ext e7).cells rfl]
    refine (rfind_spec (dim := dim) (v := v) (bias := bias) (hm.ext e7) hx (by omega) ha).mono ?_
    rintro u w8 ⟨e8, n', hf', rfl⟩
    obtain rfl := hf.uniq hf'
    refine sVar (vs := encPr n (allS (xs.take n))) S.tze_bodkinref05_Place S.tsz_bodkinref05_Place (by decide) rfl rfl (encPr_one _ _) fun b12 w9 hb12 hs9 e9 hk12 => ?_
    have F9 := ((e6.trans e7).trans e8).trans e9
    have k9 := hk9.ext F9
    refine DrawS.ext ?_
    have E : Ext w9 w9.drew := (Ext.refl w9).drew
    rw [stillS_eq (fun w1 h1 K => sBin_eql _ _) E, sIf_pos rfl, stillS_eq (fun w1 h1 K => sFldA_ptr S.tfl_tree_Place_Index) E, stillS_cell S.tcell_int (k9.cells.at 0 rfl) E, stillS_eq (fun w1 h1 K => sFldA_ptr S.tfl_bodkinref05_Place_Index) E, stillS_cell S.tcell_int (hk12.cells.at 0 rfl) E,
      stillS_eq (fun w1 h1 K => sBin_eql _ _) E, sIf_pos rfl, stillS_eq (fun w1 h1 K => sFldA_ptr S.tfl_tree_Place_Before) E, stillS_agg (cs := encS (allS (xs.take n))) S.tagg_item_Sum (k9.cells.sub 1 6) rfl E,
      stillS_eq (fun w1 h1 K => sFldA_ptr S.tfl_bodkinref05_Place_Before) E, stillS_agg (cs := encS (allS (xs.take n))) S.tagg_bodkinref04_Sum (hk12.cells.sub 1 6) rfl E]
    refine (R05.refSum_spec _).mono ?_
    rintro u w10 ⟨e10, rfl⟩
    have F10 := E.trans e10
    refine ⟨F10, ?_⟩
    obtain ⟨r2, hr1, hr2, _⟩ := rsums_eq (cx := false) (cy := false) (allS (xs.take n)) (allS (xs.take n))
    rw [stillS_eq (fun w1 h1 K => hr2 w1 K) F10, hr1.2 rfl, sIf_true, stillS_eq (fun w1 h1 K => sFldA_ptr S.tfl_tree_Place_Visits) F10, stillS_cell S.tcell_int (k9.cells.at 7 rfl) F10, stillS_eq (fun w1 h1 K => sBin_geq _ _) F10, sIf_pos (by omega),
      stillS_eq (fun w1 h1 K => sFldA_ptr S.tfl_tree_Place_Visits) F10, stillS_cell S.tcell_int (k9.cells.at 7 rfl) F10]
    refine (theight_spec (hH.ext (((e4.trans e5).trans F9).trans F10))).mono ?_
    rintro u w11 ⟨rfl, rfl⟩
    refine ⟨F10, ?_⟩
    rw [stillS_eq (fun w1 h1 K => sBin_leq _ _) F10, sIf_pos (by omega)]
    refine (three_spec _).mono ?_
    rintro u w12 ⟨e12, rfl⟩
    exact ⟨F10.trans e12, ((E5.trans F9).trans F10).trans e12, rfl⟩

theorem treeNew_spec {w : World} {l : Value} {xs : List It} (hl : Sl w l 7 encT xs) (at_ : Int) : S.bodkinlaw05_TreeNew (Yes w) l (.int .i64 at_) w := by
  unfold S.bodkinlaw05_TreeNew
  rw [sLen_sl S.tel_L_item_Item hl, sBin_gtr, sIf_dec]
  refine ⟨fun h6 => ?_, fun h6 => ?_⟩
  · refine (new_spec hl).mono ?_
    rintro u w2 ⟨e2, hu⟩
    rcases hu with ⟨h, rfl⟩ | ⟨h, _, rfl⟩ | ⟨h, _, b, r, rfl, hc, hr⟩
    · rw [sExtract_0, sExtract_1, sLen_sl S.tel_L_item_Item (hl.ext e2), sBin_leq, sIf_neg (by omega), sBin_eql, sIf_pos rfl, sBin_ptr_eq S.tpt_P_tree_Tree, Option.isNone_none, sIf_true]
      exact then3 e2
    · rw [sExtract_0, sExtract_1, sLen_sl S.tel_L_item_Item (hl.ext e2), sBin_leq, sIf_pos (by omega)]
      exact then3 e2
    · rw [sExtract_0, sExtract_1, sLen_sl S.tel_L_item_Item (hl.ext e2), sBin_leq, sIf_pos (by omega)]
      exact then3 e2
  refine (new_spec hl).mono ?_
  rintro u w2 ⟨e2, hu⟩
  rcases hu with ⟨h, _⟩ | ⟨_, hno, rfl⟩ | ⟨_, hx, b, r, rfl, hc, hr⟩
  · omega
  · rw [sExtract_0, sExtract_1]
    refine (R05.right_spec (hl.ext e2)).mono ?_
    rintro u w3 ⟨e3, q, rfl, hq⟩
    have hqf : q = false := by
      rcases Bool.eq_false_or_eq_true q with h | h
      · exact absurd (hq.1 h).2 hno
      · exact h
    rw [hqf, sUn_not, Bool.not_false, sIf_true, sBin_eql, sIf_pos rfl, sBin_ptr_eq S.tpt_P_tree_Tree, Option.isNone_none, sIf_true]
    exact then3 (e2.trans e3)
  have ht : Tp w2 (.pointer (some ⟨b, 0, none⟩)) xs := .inr ⟨b, r, rfl, hc, hr⟩
  rw [sExtract_0, sExtract_1]
  refine (R05.right_spec (hl.ext e2)).mono ?_
  rintro u w3 ⟨e3, q, rfl, hq⟩
  have E3 := e2.trans e3
  rw [hq.2 ⟨by omega, hx⟩, sUn_not, Bool.not_true, sIf_false, sBin_neq, sIf_not]
  refine ⟨fun h => absurd rfl h, fun _ => ?_⟩
  rw [sBin_ptr_eq S.tpt_P_tree_Tree, Option.isNone_some, sIf_false]
  refine (R05.refs_spec (hl.ext E3) (by omega)).mono ?_
  rintro m w4 ⟨e4, hm⟩
  refine (is_spec (ht.ext (e3.trans e4)) hm hx (by omega)).mono ?_
  rintro u w5 ⟨e5, rfl⟩
  have E5 := (E3.trans e4).trans e5
  rw [sUn_not, Bool.not_true, sIf_false]
  refine (tat_spec (i := at_) (ht.ext ((e3.trans e4).trans e5)) ⟨by omega⟩).mono ?_
  rintro u w6 ⟨e6, hu⟩
  have E6 := E5.trans e6
  have hgo : ∀ (x : It) (e : Int), ((¬ (0 ≤ at_ ∧ at_ < xs.length) ∧ x = zeroIt ∧ e = 1) ∨ (0 ≤ at_ ∧ xs[at_.toNat]? = some x ∧ e = 0)) → u = .tuple #[.agg (encT x).toArray, .int .i64 e] →
      sExtract u 0 w6 fun x67 w_1 => sExtract u 1 w_1 fun x68 w_2 => sAlloc Try.prog S.T.item_Item w_2 fun x9 w_3 => sStore Try.prog S.T.item_Item x9 x67 w_3 fun w_4 => JoinS 1 7 (fun M1 =>
        sBin Try.prog .lss 3 false true (.int .i64 at_) (.int .i64 0) w_4 fun x70 w =>
        sIf x70 (M1 [(.bool true)] w) (
          sBuiltin Try.prog .len [S.T.L_item_Item] 3 [l] w fun x74 w =>
          sBin Try.prog .geq 3 false false (.int .i64 at_) x74 w fun x75 w =>
          M1 [x75] w)) fun us _ w' => S.bodkinlaw05_TreeNew_J1 (Yes w) (.int .i64 at_) l x68 x9 (Go.Lift.hd us) w' := by
    intro x e hor hu
    subst hu
    rw [sExtract_0, sExtract_1]
    refine sVar (vs := encT x) S.tze_item_Item S.tsz_item_Item (by decide) rfl rfl (encT_ok.one x) fun b9 w7 hb9 hs7 e7 hk9 => ?_
    have E7 := E6.trans e7
    refine JoinS.intro (fun us w' => w' = w7 ∧ ∃ q : Bool, us = [.bool q] ∧ (q = true ↔ ¬ (0 ≤ at_ ∧ at_ < xs.length))) ?_ ?_
    · rw [sBin_lss, sIf_dec]
      refine ⟨fun h => ⟨rfl, true, rfl, by simp only [true_iff]; omega⟩, fun h => ?_⟩
      rw [sLen_sl S.tel_L_item_Item (hl.ext E7), sBin_geq]
      exact ⟨rfl, _, rfl, by rw [decide_eq_true_eq]; omega⟩
    rintro us vs w7 ⟨rfl, q, rfl, hq⟩
    unfold S.bodkinlaw05_TreeNew_J1
    rw [Go.Lift.hd, sIf_bool]
    refine ⟨fun hT => ?_, fun hF => ?_⟩
    · obtain ⟨rfl, rfl⟩ : x = zeroIt ∧ e = 1 := by
        rcases hor with ⟨_, h1, h2⟩ | ⟨h1, h2, _⟩
        · exact ⟨h1, h2⟩
        · have := hq.1 hT
          have := (List.getElem?_eq_some_iff.1 h2).1
          omega
      obtain ⟨r2, hr1, hr2, _⟩ := items_eq (cx := false) (cy := false) zeroIt zeroIt
      rw [sBin_eql, sIf_pos rfl, sLoad_agg (cs := encT zeroIt) S.tagg_item_Item hk9.cells rfl, sBuild_of (cs := encT zeroIt) (lp := []) S.tze_item_Item S.tpl_item_Item rfl rfl, hr2, hr1.2 rfl, sIf_true]
      exact then3 E7
    · have hin : 0 ≤ at_ ∧ at_ < xs.length := Classical.byContradiction fun h => by rw [hq.2 h] at hF; cases hF
      obtain ⟨hxi, rfl⟩ : xs[at_.toNat]? = some x ∧ e = 0 := by
        rcases hor with ⟨h, _⟩ | ⟨_, h1, h2⟩
        · exact absurd hin h
        · exact ⟨h1, h2⟩
      refine DrawS.ext ?_
      have E : Ext w7 w7.drew := (Ext.refl w7).drew
      obtain ⟨b1, o1, hel1, hc1⟩ := (hl.ext E7).el hxi
      obtain ⟨r2, hr1, hr2, _⟩ := items_eq (cx := false) (cy := false) x x
      rw [stillS_eq (fun w1 h1 K => sBin_eql _ _) E, sIf_pos rfl, stillS_agg (cs := encT x) S.tagg_item_Item hk9.cells rfl E, stillS_eq (fun w1 h1 K => sIdxA_sl S.tel_L_item_Item S.tsz_item_Item (by omega) ((hl.ext E7).ext h1) hxi (by omega)) E, hel1, stillS_agg (cs := encT x) S.tagg_item_Item hc1 rfl E,
        stillS_eq (fun w1 h1 K => hr2 w1 K) E, hr1.2 rfl, sIf_true]
      refine (three_spec _).mono ?_
      rintro u w12 ⟨e12, rfl⟩
      exact ⟨E.trans e12, (E7.trans E).trans e12, rfl⟩
  rcases hu with ⟨h1, rfl⟩ | ⟨h1, x, h2, rfl⟩
  · exact hgo zeroIt 1 (.inl ⟨h1, rfl, rfl⟩) rfl
  · exact hgo x 0 (.inr ⟨h1, h2, rfl⟩) rfl
end Go.Proofs.Ytmlbaimdphillaa

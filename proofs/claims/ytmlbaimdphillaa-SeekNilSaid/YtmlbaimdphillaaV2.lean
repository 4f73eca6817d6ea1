/- The document's cursors: what their functions give. Conditions: right items, not too many. -/
import Derived.Test.YtmlbaimdphillaaV1
namespace Go.Proofs.Ytmlbaimdphillaa
open Go Go.Lift Go.RowKit

def encCr (s : SV) (i : Int) : List Value := [sv s, .int .i64 i]
section
variable {w : World} {s : SV} {xs : List It} {bw i : Nat}
theorem kstart_spec (hc : Blk w bw (encCr s i)) (hl : Sl w (sv s) 7 encT xs) (hx : ∀ x ∈ xs, ItOk x) (hn : xs.length ≤ 1000000) (hi : i ≤ xs.length) : sCall Try.prog S.bodkinref06_Cursor_Start.n [.pointer (some ⟨bw, 0, none⟩)] w fun u w' => Ext w w' ∧ u = .agg (encS (allS (xs.take i))).toArray := by
  refine S.bodkinref06_Cursor_Start.call ?_
  unfold S.bodkinref06_Cursor_Start
  refine sAlloc_new S.tze_bodkinref04_Sum fun b2 w1 hb2 hs1 e1 hk2 => ?_
  have hcap := sl_cap hl
  have hc1 := hc.ext e1
  refine DrawS.ext ?_
  have E : Ext w1 w1.drew := (Ext.refl w1).drew
  rw [sNil_ptr, stillS_eq (fun w1 h1 K => sFldA_ptr S.tfl_bodkinref06_Cursor_L) E, stillS_cell S.tcell_L_bodkinref04_Item (hc1.cells.at 0 rfl) E, sNil_ptr, stillS_eq (fun w1 h1 K => sFldA_ptr S.tfl_bodkinref06_Cursor_At) E, stillS_cell S.tcell_int (hc1.cells.at 1 rfl) E,
    stillS_eq (fun w1' h1 K => sSlice_h (hi := i) S.tel_L_bodkinref04_Item S.tsz_bodkinref04_Item (by omega) ((hl.ext e1).ext h1) rfl hi) E]
  have p1 : Sl w (slV (sv s) 7 0 i (capV (sv s))) 7 encT (xs.take i) := by
    simpa using hl.part (lo := 0) (hi := i) (mx := capV (sv s)) (by omega) (by omega) (by omega) (Nat.le_refl _)
  refine (rall_spec (p1.ext (e1.trans E)) (fun x h => hx x (List.mem_of_mem_take h)) (by rw [List.length_take]; omega)).mono ?_
  rintro u w2 ⟨e2, rfl⟩
  have F2 := E.trans e2
  refine sStore_blk S.tsz_bodkinref04_Sum (by decide) (hk2.ext F2) (vs := encS (allS (xs.take i))) rfl rfl (by simp) (encS_one _) fun w5 hs5 hg5 hk5 => ?_
  rw [sLoad_agg (cs := encS (allS (xs.take i))) S.tagg_bodkinref04_Sum hk5.cells rfl]
  exact ⟨rfl, (e1.trans F2).wr hg5 (by rintro _ ⟨⟩; omega), rfl⟩

theorem kend_spec (hc : Blk w bw (encCr s i)) (hl : Sl w (sv s) 7 encT xs) (hx : ∀ x ∈ xs, ItOk x) (hn : xs.length ≤ 1000000) (hi : i ≤ xs.length) : sCall Try.prog S.bodkinref06_Cursor_End.n [.pointer (some ⟨bw, 0, none⟩)] w fun u w' => Ext w w' ∧ u = .agg (encS (allS (xs.take (i + 1)))).toArray := by
  refine S.bodkinref06_Cursor_End.call ?_
  unfold S.bodkinref06_Cursor_End
  refine sAlloc_new S.tze_bodkinref04_Sum fun b2 w1 hb2 hs1 e1 hk2 => ?_
  have hcap := sl_cap hl
  have hc1 := hc.ext e1
  have hl1 := hl.ext e1
  refine DrawS.ext ?_
  have E : Ext w1 w1.drew := (Ext.refl w1).drew
  rw [sNil_ptr, stillS_eq (fun w1 h1 K => sFldA_ptr S.tfl_bodkinref06_Cursor_At) E, stillS_cell S.tcell_int (hc1.cells.at 1 rfl) E, sNil_ptr, stillS_eq (fun w1 h1 K => sFldA_ptr S.tfl_bodkinref06_Cursor_L) E, stillS_cell S.tcell_L_bodkinref04_Item (hc1.cells.at 0 rfl) E,
    stillS_eq (fun w1' h1 K => sLen_sl S.tel_L_bodkinref04_Item (hl1.ext h1)) E, stillS_eq (fun w1 h1 K => sBin_eql _ _) E, sIf_dec]
  refine ⟨fun h => ?_, fun h => ?_⟩
  · refine (kstart_spec (hc1.ext E) (hl1.ext E) hx hn hi).mono ?_
    rintro u w2 ⟨e2, rfl⟩
    have F2 := E.trans e2
    refine sStore_blk S.tsz_bodkinref04_Sum (by decide) (hk2.ext F2) (vs := encS (allS (xs.take i))) rfl rfl (by simp) (encS_one _) fun w5 hs5 hg5 hk5 => ?_
    rw [sLoad_agg (cs := encS (allS (xs.take i))) S.tagg_bodkinref04_Sum hk5.cells rfl]
    refine ⟨rfl, (e1.trans F2).wr hg5 (by rintro _ ⟨⟩; omega), ?_⟩
    rw [List.take_of_length_le (by omega), List.take_of_length_le (by omega)]
  · refine DrawS.ext ?_
    have E' : Ext w1.drew w1.drew.drew := (Ext.refl _).drew
    have hc2 := hc1.ext E
    have hl2 := hl1.ext E
    rw [sNil_ptr, stillS_eq (fun w1 h1 K => sFldA_ptr S.tfl_bodkinref06_Cursor_L) E', stillS_cell S.tcell_L_bodkinref04_Item (hc2.cells.at 0 rfl) E', sNil_ptr, stillS_eq (fun w1 h1 K => sFldA_ptr S.tfl_bodkinref06_Cursor_At) E', stillS_cell S.tcell_int (hc2.cells.at 1 rfl) E',
      stillS_eq (fun w1 h1 K => sBin_add _ _ ⟨by omega, by omega⟩) E', stillS_eq (fun w1' h1 K => sSlice_h (hi := i + 1) S.tel_L_bodkinref04_Item S.tsz_bodkinref04_Item (by omega) (hl2.ext h1) (by omega) (by omega)) E']
    have p1 : Sl w (slV (sv s) 7 0 (i + 1) (capV (sv s))) 7 encT (xs.take (i + 1)) := by
      simpa using hl.part (lo := 0) (hi := i + 1) (mx := capV (sv s)) (by omega) (by omega) (by omega) (Nat.le_refl _)
    have F0 := E.trans E'
    refine (rall_spec (p1.ext (e1.trans F0)) (fun x h => hx x (List.mem_of_mem_take h)) (by rw [List.length_take]; omega)).mono ?_
    rintro u w2 ⟨e2, rfl⟩
    have F2 := F0.trans e2
    refine sStore_blk S.tsz_bodkinref04_Sum (by decide) (hk2.ext F2) (vs := encS (allS (xs.take (i + 1)))) rfl rfl (by simp) (encS_one _) fun w5 hs5 hg5 hk5 => ?_
    rw [sLoad_agg (cs := encS (allS (xs.take (i + 1)))) S.tagg_bodkinref04_Sum hk5.cells rfl]
    exact ⟨rfl, (e1.trans F2).wr hg5 (by rintro _ ⟨⟩; omega), rfl⟩

theorem kto_spec {dim v bias : Int} (hc : Blk w bw (encCr s i)) (hl : Sl w (sv s) 7 encT xs) (hx : ∀ x ∈ xs, ItOk x) (hn : xs.length ≤ 1000000) : sCall Try.prog S.bodkinref06_Cursor_To.n [.pointer (some ⟨bw, 0, none⟩), .int .i64 dim, .agg (encA2 v bias).toArray] w fun u w' =>
    (¬ Ask xs dim v bias ∧ Ext w w' ∧ u = .bool false) ∨ (Ask xs dim v bias ∧ w.grownBy w' (some bw) ∧ u = .bool true ∧ ∃ n : Nat, Fnd xs dim v bias n ∧ Blk w' bw (encCr s n)) := by
  refine S.bodkinref06_Cursor_To.call ?_
  unfold S.bodkinref06_Cursor_To
  refine sBox_new (cs := encA2 v bias) rfl fun b5 w1 hb5 hs1 e1 hk5 => ?_
  have hc1 := hc.ext e1
  have hl1 := hl.ext e1
  refine DrawS.ext ?_
  have E : Ext w1 w1.drew := (Ext.refl w1).drew
  rw [sNil_ptr, stillS_eq (fun w1 h1 K => sFldA_ptr S.tfl_bodkinref06_Cursor_L) E, stillS_cell S.tcell_L_bodkinref04_Item (hc1.cells.at 0 rfl) E, stillS_agg (cs := encA2 v bias) S.tagg_A2_int hk5.cells rfl E]
  refine (rasks_spec (dim := dim) (v := v) (bias := bias) (hl1.ext E) hx hn).mono ?_
  rintro u w2 ⟨e2, q, rfl, hq⟩
  have F2 := E.trans e2
  refine ⟨F2, ?_⟩
  rw [stillS_eq (fun w1 h1 K => sUn_not q) F2, sIf_bool]
  refine ⟨fun h => .inl ⟨(fun h' => by rw [hq.2 h'] at h; cases h), e1.trans F2, rfl⟩, fun h => ?_⟩
  have ha : Ask xs dim v bias := hq.1 (by simpa using h)
  have hc2 := hc1.ext F2
  have hl2 := hl1.ext F2
  have k2 := hk5.ext F2
  have hlt := hc2.lt
  have C0 : Ext w2 w2.drew := (Ext.refl w2).drew
  refine DrawS.ext ?_
  rw [sNil_ptr, stillS_eq (fun w1 h1 K => sFldA_ptr S.tfl_bodkinref06_Cursor_L) C0, stillS_cell S.tcell_L_bodkinref04_Item (hc2.cells.at 0 rfl) C0, stillS_agg (cs := encA2 v bias) S.tagg_A2_int k2.cells rfl C0]
  refine (rfind_spec (dim := dim) (v := v) (bias := bias) (hl2.ext C0) hx hn ha).mono ?_
  rintro u w3 ⟨e3, n, hf, rfl⟩
  have F3 := C0.trans e3
  refine ⟨F3, ?_⟩
  rw [stillS_eq (fun w1 h1 K => sFld_cell S.tfd_bodkinref05_Place_Index S.tcell_int (v := .int .i64 n) rfl) F3, sNil_ptr, stillS_eq (fun w1 h1 K => sFldA_ptr S.tfl_bodkinref06_Cursor_At) F3]
  refine sStore_blk S.tsz_int (by decide) (hc2.ext F3) (vs := [.int .i64 n]) rfl rfl (by simp [encCr]) (by simp; rfl) fun w5 hs5 hg5 hk5' => ?_
  exact .inr ⟨ha, grown_trans (grown_of_ext ((e1.trans F2).trans F3) _) hg5, rfl, n, hf, hk5'⟩

theorem ktake_spec {dim v : Int} (hc : Blk w bw (encCr s i)) (hlb : ∀ w', w.grownBy w' (some bw) → Sl w' (sv s) 7 encT xs) (hx : ∀ x ∈ xs, ItOk x) (hn : xs.length ≤ 1000000) (hi : i ≤ xs.length) : sCall Try.prog S.bodkinref06_Cursor_Take.n [.pointer (some ⟨bw, 0, none⟩), .int .i64 dim, .int .i64 v] w fun u w' =>
    w.grownBy w' (some bw) ∧ ∃ j : Nat, Blk w' bw (encCr s j) ∧ Sl w' u 7 encT ((xs.take j).drop i) ∧ i ≤ j ∧ j ≤ xs.length ∧ ((¬ (0 ≤ dim ∧ dim ≤ 3) ∧ j = i) ∨ (0 ≤ dim ∧ dim ≤ 3 ∧ Tkn xs dim v i j)) := by
  refine S.bodkinref06_Cursor_Take.call ?_
  unfold S.bodkinref06_Cursor_Take
  have hmx : maxLen = 9223372036854775807 := rfl
  have hbc := hc.lt
  have hnil : (xs.take i).drop i = [] := List.drop_of_length_le (by rw [List.length_take]; omega)
  refine LoopS.ix (fun n us w1 => w.grownBy w1 (some bw) ∧ ∃ (j : Nat) (o : Value), us = [o] ∧ n + j = xs.length ∧ i ≤ j ∧ Blk w1 bw (encCr s j) ∧ Row w1 w.heap.size S.T.bodkinref04_Item 7 o encT ((xs.take j).drop i) ∧ (i < j → 0 ≤ dim ∧ dim ≤ 3) ∧ ∀ m, i ≤ m → m < j → szA xs dim (m + 1) ≤ v)
    ⟨xs.length - i, grown_refl _ _, i, _, rfl, by omega, by omega, hc, by rw [hnil]; exact Row.nil _ _ _ _ _, by omega, fun m h1 h2 => by omega⟩ ?_
  rintro n us vs w1 ⟨hg, j, o, rfl, hnj, hij, hk, ho, hdj, hok⟩
  unfold S.bodkinref06_Cursor_Take_L1
  have hl1 := hlb w1 hg
  have hol : ((xs.take j).drop i).length ≤ 1000000 := by rw [List.length_drop, List.length_take]; omega
  have fin : ∀ w2, Ext w1 w2 → ((0 ≤ dim ∧ dim ≤ 3) → j < xs.length → v < szA xs dim (j + 1)) → (w.grownBy w2 (some bw) ∧ ∃ j' : Nat, Blk w2 bw (encCr s j') ∧ Sl w2 o 7 encT ((xs.take j').drop i) ∧ i ≤ j' ∧ j' ≤ xs.length ∧ ((¬ (0 ≤ dim ∧ dim ≤ 3) ∧ j' = i) ∨ (0 ≤ dim ∧ dim ≤ 3 ∧ Tkn xs dim v i j'))) := by
    intro w2 e2 hno
    refine ⟨grown_ext hg e2, j, hk.ext e2, (ho.ext e2).sl encT_ok, hij, by omega, ?_⟩
    by_cases hd : 0 ≤ dim ∧ dim ≤ 3
    · exact .inr ⟨hd.1, hd.2, hij, by omega, hok, fun h => hno hd h⟩
    · exact .inl ⟨hd, Nat.le_antisymm (Nat.le_of_not_lt fun h => hd (hdj h)) hij⟩
  refine DrawS.ext ?_
  have E : Ext w1 w1.drew := (Ext.refl w1).drew
  have hk' := hk.ext E
  rw [stillS_eq (fun w1 h1 K => sBin_geq _ _) E, sIf_dec]
  refine ⟨fun h0 => ?_, fun h0 => fin _ E fun h => by omega⟩
  rw [stillS_eq (fun w1 h1 K => sBin_lss _ _) E, sIf_dec]
  refine ⟨fun h4 => ?_, fun h4 => fin _ E fun h => by omega⟩
  rw [sNil_ptr, stillS_eq (fun w1 h1 K => sFldA_ptr S.tfl_bodkinref06_Cursor_At) E, stillS_cell S.tcell_int (hk.cells.at 1 rfl) E, sNil_ptr, stillS_eq (fun w1 h1 K => sFldA_ptr S.tfl_bodkinref06_Cursor_L) E, stillS_cell S.tcell_L_bodkinref04_Item (hk.cells.at 0 rfl) E,
    stillS_eq (fun w1' h1 K => sLen_sl S.tel_L_bodkinref04_Item (hl1.ext h1)) E, stillS_eq (fun w1 h1 K => sBin_lss _ _) E, sIf_dec]
  refine ⟨fun hlt => ?_, fun hge => fin _ E fun _ h => by omega⟩
  obtain ⟨x, hxj⟩ : ∃ x, xs[j]? = some x := ⟨_, List.getElem?_eq_getElem (by omega)⟩
  rw [sNil_ptr, sFldA_ptr S.tfl_bodkinref06_Cursor_At, sLoad_cell S.tcell_int (hk'.cells.at 1 rfl), sBin_add _ _ ⟨by omega, by omega⟩]
  refine JoinS.intro (fun us w' => Ext w1 w' ∧ us = [.int .i64 (szA xs dim (j + 1))]) ?_ ?_
  · rw [sBin_lss, sIf_dec]
    refine ⟨fun h3 => ?_, fun h3 => ⟨E, ?_⟩⟩
    · refine (kend_spec hk' (hl1.ext E) hx hn (by omega)).mono ?_
      rintro u w2 ⟨e2, rfl⟩
      obtain ⟨d, rfl⟩ : ∃ d : Nat, dim = d := ⟨dim.toNat, by omega⟩
      rw [sFld_agg (n := 3) S.tfd_bodkinref04_Sum_D S.tagg_A3_int]
      have hz : szA xs d (j + 1) = szD (allS (xs.take (j + 1))) d := rfl
      rw [hz]
      unfold szD
      rw [if_neg (by omega)]
      rcases (by omega : d = 0 ∨ d = 1 ∨ d = 2) with rfl | rfl | rfl
      · rw [sIdx_cell (i := 0) (v := .int .i64 (allS (xs.take (j + 1))).d0) S.tar_A3_int S.tcell_int S.tsz_int (by omega) rfl rfl]; exact ⟨E.trans e2, rfl⟩
      · rw [sIdx_cell (i := 1) (v := .int .i64 (allS (xs.take (j + 1))).d1) S.tar_A3_int S.tcell_int S.tsz_int (by omega) rfl rfl]; exact ⟨E.trans e2, rfl⟩
      · rw [sIdx_cell (i := 2) (v := .int .i64 (allS (xs.take (j + 1))).d2) S.tar_A3_int S.tcell_int S.tsz_int (by omega) rfl rfl]; exact ⟨E.trans e2, rfl⟩
    · obtain rfl : dim = 3 := by omega
      rw [szA3 (by omega)]; simp
  rintro us vs w2 ⟨e2, rfl⟩
  unfold S.bodkinref06_Cursor_Take_J2
  rw [Go.Lift.hd, sBin_gtr, sIf_dec]
  refine ⟨fun h => fin _ e2 fun _ _ => h, fun h => ?_⟩
  have hk2 := hk.ext e2
  have hg2 := grown_ext hg e2
  have hl2 := hlb w2 hg2
  obtain ⟨b1, o1, hel1, hc1⟩ := hl2.el hxj
  have hcell : ∀ w', w.grownBy w' (some bw) → Cells w' b1 o1 (encT x) := fun w' h => by
    obtain ⟨b2, o2, hel2, hc2⟩ := (hlb w' h).el hxj
    rw [hel1] at hel2
    cases hel2
    exact hc2
  have E2 : Ext w2 w2.drew := (Ext.refl w2).drew
  have C0 : w.grownBy w2.drew (some bw) ∧ Blk w2.drew bw (encCr s j) := ⟨grown_ext hg2 E2, hk2.ext E2⟩
  refine DrawS.intro (fun w' => w.grownBy w' (some bw) ∧ Blk w' bw (encCr s j)) C0 ?_
  rw [sNil_ptr, stillC_eq (fun w1 h1 K => sFldA_ptr S.tfl_bodkinref06_Cursor_L) C0, stillC_eq (fun w1 h1 K => sLoad_cell S.tcell_L_bodkinref04_Item (h1.2.cells.at 0 rfl)) C0, sNil_ptr, stillC_eq (fun w1 h1 K => sFldA_ptr S.tfl_bodkinref06_Cursor_At) C0, stillC_eq (fun w1 h1 K => sLoad_cell S.tcell_int (h1.2.cells.at 1 rfl)) C0,
    stillC_eq (fun w1' h1 K => sIdxA_sl S.tel_L_bodkinref04_Item S.tsz_bodkinref04_Item (by omega) (hlb w1' h1.1) hxj rfl) C0, hel1, stillC_eq (fun w1' h1 K => sLoad_agg (cs := encT x) S.tagg_bodkinref04_Item (hcell w1' h1.1) rfl) C0]
  refine sBuildSlice_own (n := 1) (enc := encT) (xs := [x]) (lp := [(0, encT x)]) S.tel_L_bodkinref04_Item S.tsz_bodkinref04_Item rfl S.tze_bodkinref04_Item (by decide) (by decide) encT_ok rfl rfl fun q w6 hq ho6 e6 hs6 => ?_
  have C6 : w.grownBy w6 (some bw) ∧ Blk w6 bw (encCr s j) := ⟨grown_ext C0.1 e6, C0.2.ext e6⟩
  refine ⟨C6, ?_⟩
  have hsz6 := C6.1.size
  have F6 := (e2.trans E2).trans e6
  refine sAppend_row S.tel_L_bodkinref04_Item S.tsz_bodkinref04_Item (by decide) S.tze_bodkinref04_Item rfl encT_ok (ho.ext F6) (by omega) (ho6.sl encT_ok) (by rw [List.length_singleton]; omega) (by rw [S.tby_bodkinref04_Item, List.length_singleton]; omega) fun o' w7 ho7 hg7 _ => ?_
  have hlo := fun g hg => (ho.lt g hg).1
  have C7 : w.grownBy w7 (some bw) ∧ Blk w7 bw (encCr s j) := ⟨grown_wr C6.1 hg7 fun b hb => .inr (hlo b hb), C6.2.wr hg7 (fun e => by have := hlo bw e.symm; omega)⟩
  refine ⟨C7, ?_⟩
  have hk7 := C7.2
  rw [sNil_ptr, sFldA_ptr S.tfl_bodkinref06_Cursor_At, sLoad_cell S.tcell_int (hk7.cells.at 1 rfl), sBin_add _ _ ⟨by omega, by omega⟩, sNil_ptr, sFldA_ptr S.tfl_bodkinref06_Cursor_At]
  refine sStore_blk S.tsz_int (by decide) hk7 (vs := [.int .i64 ((j + 1 : Nat) : Int)]) (by simp; rfl) rfl (by simp [encCr]) (by simp; rfl) fun w8 hs8 hg8 hk8 => ?_
  have hgr8 := grown_trans C7.1 hg8
  refine ⟨n - 1, by omega, hgr8, j + 1, o', rfl, by omega, by omega, hk8, ?_, fun _ => ⟨h0, by omega⟩, fun m h1 h2 => ?_⟩
  · have : (xs.take (j + 1)).drop i = (xs.take j).drop i ++ [x] := by
      rw [take_succ_of hxj, List.drop_append_of_le_length (by rw [List.length_take]; omega)]
    rw [this]
    exact ho7.wr hg8 (row_ne' ho7 hbc)
  · by_cases hm : m = j
    · subst hm; omega
    · exact hok m h1 (by omega)
end
end Go.Proofs.Ytmlbaimdphillaa

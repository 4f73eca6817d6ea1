/- Cursors of trees: what their functions give. Conditions: a tree of right items. -/
import Derived.Test.YtpjmmhbdondknaaDoorU5
namespace Go.Proofs.YtpjmmhbdondknaaDoor
open Go Go.Lift Go.RowKit

theorem grown_wr {w w1 w2 : World} {row : Option Nat} {bc : Nat} (h : w.grownBy w1 (some bc)) (g : w1.grownBy w2 row) (hr : ∀ b, row = some b → b = bc ∨ w.heap.size ≤ b) : w.grownBy w2 (some bc) :=
  ⟨g.os.trans h.os, g.tape.trans h.tape, g.output.trans h.output, Nat.le_trans h.size g.size, fun k hk hne => (g.block k (Nat.lt_of_lt_of_le hk h.size) fun e => by
    rcases hr k e.symm with h1 | h1
    · exact hne (by rw [h1])
    · omega).trans (h.block k hk hne)⟩
theorem grown_ext {w w1 w2 : World} {bc : Nat} (h : w.grownBy w1 (some bc)) (e : Ext w1 w2) : w.grownBy w2 (some bc) := grown_wr h (grown_of_ext e none) fun b hb => by cases hb
theorem row_ne' {w : World} {base e k b : Nat} {v : Value} {α : Type} {enc : α → List Value} {xs : List α} (h : Row w base e k v enc xs) (hb : b < base) : v.ownBlock = none ∨ v.ownBlock ≠ some b := by
  cases hv : v.ownBlock with
  | none => exact .inl rfl
  | some g => exact .inr (by intro e; cases e; have := h.lt b hv; omega)
/-- A cursor's cells: its tree, its place. -/
def encCu (t : Value) (i : Int) (s : Su) (vis : Int) : List Value := t :: encPl i s vis
section
variable {w : World} {t : Value} {xs : List It} {bc i : Nat} {s : Su} {vis : Int}

theorem snew_spec (ht : Tp w t xs) : sCall Tryd.prog S.seek_New.n [t] w fun u w' => Ext w w' ∧ ∃ bc, u = .pointer (some ⟨bc, 0, none⟩) ∧ w.heap.size ≤ bc ∧ Blk w' bc (encCu t 0 zeroS 0) := by
  refine S.seek_New.call ?_
  unfold S.seek_New
  rw [sBuild_of (cs := encCu t 0 zeroS 0) (lp := [(0, [t])]) S.tze_seek_Cursor S.tpl_seek_Cursor (by rw [List.map_singleton, List.map_singleton, ht.shape.1]) rfl]
  refine sBox_new (cs := encCu t 0 zeroS 0) rfl fun b w2 hb hs2 e2 hk2 => ?_
  exact ⟨e2, b, rfl, by omega, hk2⟩

theorem sitem_spec (hc : Blk w bc (encCu t i s vis)) (ht : Tp w t xs) (hn : xs.length ≤ 1000000) : sCall Tryd.prog S.seek_Cursor_Item.n [.pointer (some ⟨bc, 0, none⟩)] w fun u w' => Ext w w' ∧
    ((xs.length ≤ i ∧ u = .tuple #[.agg (encT zeroIt).toArray, .bool false]) ∨ ∃ x, xs[i]? = some x ∧ u = .tuple #[.agg (encT x).toArray, .bool true]) := by
  refine S.seek_Cursor_Item.call ?_
  unfold S.seek_Cursor_Item
  refine sAlloc_new S.tze_item_Item fun b2 w1 hb2 hs1 e1 hk2 => ?_
  have hc1 := hc.ext e1
  have ht1 := ht.ext e1
  rw [sBin_ptr_eq S.tpt_P_seek_Cursor, Option.isNone_some, sIf_false]
  refine JoinS.intro (fun us w' => Ext w1 w' ∧ ∃ (b4 : Nat) (x : It) (e : Int), us = [.pointer (some ⟨b4, 0, none⟩), .int .i64 e] ∧ Blk w' b4 (encT x) ∧ b4 ≠ b2 ∧ ((xs.length ≤ i ∧ x = zeroIt ∧ e = 1) ∨ (xs[i]? = some x ∧ e = 0))) ?_ ?_
  · refine DrawS.ext ?_
    have E : Ext w1 w1.drew := (Ext.refl w1).drew
    have at_ : ∀ (w' : World) (u : Value), ((¬ (0 ≤ (i : Int) ∧ (i : Int) < xs.length) ∧ u = .tuple #[.agg (encT zeroIt).toArray, .int .i64 1]) ∨ (0 ≤ (i : Int) ∧ ∃ x, xs[(i : Int).toNat]? = some x ∧ u = .tuple #[.agg (encT x).toArray, .int .i64 0])) → Ext w1 w' →
        ∃ (x : It) (e : Int), u = .tuple #[.agg (encT x).toArray, .int .i64 e] ∧ ((xs.length ≤ i ∧ x = zeroIt ∧ e = 1) ∨ (xs[i]? = some x ∧ e = 0)) := by
      intro w' u hu _
      rcases hu with ⟨h, rfl⟩ | ⟨_, x, hx, rfl⟩
      · exact ⟨_, _, rfl, .inl ⟨by omega, rfl, rfl⟩⟩
      · rw [Int.toNat_natCast] at hx
        exact ⟨x, 0, rfl, .inr ⟨hx, rfl⟩⟩
    rw [sNil_ptr, stillS_eq (fun w1 h1 K => sFldA_ptr S.tfl_seek_Cursor_t) E, stillS_cell S.tcell_P_tree_Tree (hc1.cells.at 0 rfl) E, sNil_ptr, stillS_eq (fun w1 h1 K => sFldA_ptr S.tfl_seek_Cursor_at) E, stillS_eq (fun w1 h1 K => sFldA_ptr S.tfl_tree_Place_Index) E, stillS_cell S.tcell_int (hc1.cells.at 1 rfl) E]
    refine ⟨?_, ?_⟩
    · refine (tat_spec (i := i) (ht1.ext E) ⟨hn⟩).mono ?_
      rintro u w3 ⟨e3, hu⟩
      have F3 := E.trans e3
      refine ⟨F3, ?_⟩
      obtain ⟨x, e, rfl, hor⟩ := at_ w3 u hu F3
      rw [sExtract_0, sExtract_1]
      refine sAlloc_new S.tze_item_Item fun b4 w4 hb4 hs4 e4 hk4 => ⟨F3.trans e4, ?_⟩
      refine sStore_blk S.tsz_item_Item (by decide) hk4 (vs := encT x) rfl rfl (by simp) (encT_ok.one x) fun w5 hs5 hg5 hk5 => ?_
      have F4 := F3.size
      have F5 := (F3.trans e4).wr hg5 (by rintro _ ⟨⟩; omega)
      exact ⟨F5, F5, b4, x, e, rfl, hk5, by omega, hor⟩
    · refine sAlloc_new S.tze_item_Item fun b4 w4 hb4 hs4 e4 hk4 => ⟨E.trans e4, ?_⟩
      refine (tat_spec (i := i) ((ht1.ext E).ext e4) ⟨hn⟩).mono ?_
      rintro u w3 ⟨e3, hu⟩
      have F3 := (E.trans e4).trans e3
      refine ⟨F3, ?_⟩
      obtain ⟨x, e, rfl, hor⟩ := at_ w3 u hu F3
      rw [sExtract_0, sExtract_1]
      have F4 := E.size
      refine sStore_blk S.tsz_item_Item (by decide) (hk4.ext e3) (vs := encT x) rfl rfl (by simp) (encT_ok.one x) fun w5 hs5 hg5 hk5 => ?_
      have F5 := F3.wr hg5 (by rintro _ ⟨⟩; omega)
      exact ⟨F5, F5, b4, x, e, rfl, hk5, by omega, hor⟩
  rintro us vs w3 ⟨e3, b4, x, e, rfl, hk4, hne, hor⟩
  unfold S.seek_Cursor_Item_J1
  rw [Go.Lift.hd, Go.Lift.tl, Go.Lift.hd, sLoad_agg (cs := encT x) S.tagg_item_Item hk4.cells rfl, sBin_eql]
  refine sStore_blk S.tsz_item_Item (by decide) (hk2.ext e3) (vs := encT x) rfl rfl (by simp) (encT_ok.one x) fun w5 hs5 hg5 hk5 => ?_
  rw [sLoad_agg (cs := encT x) S.tagg_item_Item hk5.cells rfl]
  refine ⟨rfl, (e1.trans e3).wr hg5 (by rintro _ ⟨⟩; omega), ?_⟩
  rcases hor with ⟨h1, rfl, rfl⟩ | ⟨h1, rfl⟩
  · exact .inl ⟨h1, rfl⟩
  · exact .inr ⟨x, h1, rfl⟩

theorem sstart_spec (hc : Blk w bc (encCu t i s vis)) : sCall Tryd.prog S.seek_Cursor_Start.n [.pointer (some ⟨bc, 0, none⟩)] w fun u w' => Ext w w' ∧ u = .agg (encS s).toArray := by
  refine S.seek_Cursor_Start.call ?_
  unfold S.seek_Cursor_Start
  refine sAlloc_new S.tze_item_Sum fun b2 w1 hb2 hs1 e1 hk2 => ?_
  rw [sBin_ptr_eq S.tpt_P_seek_Cursor, Option.isNone_some, sIf_false, sNil_ptr, sFldA_ptr S.tfl_seek_Cursor_at, sFldA_ptr S.tfl_tree_Place_Before, sLoad_agg (cs := encS s) S.tagg_item_Sum ((hc.ext e1).cells.sub 2 6) rfl]
  refine sStore_blk S.tsz_item_Sum (by decide) hk2 (vs := encS s) rfl rfl (by simp) (encS_one s) fun w5 hs5 hg5 hk5 => ?_
  rw [sLoad_agg (cs := encS s) S.tagg_item_Sum hk5.cells rfl]
  exact ⟨rfl, e1.wr hg5 (by rintro _ ⟨⟩; omega), rfl⟩

theorem send_spec (hc : Blk w bc (encCu t i (allS (xs.take i)) vis)) (ht : Tp w t xs) (hn : xs.length ≤ 1000000) (hi : i ≤ xs.length) : sCall Tryd.prog S.seek_Cursor_End.n [.pointer (some ⟨bc, 0, none⟩)] w fun u w' => Ext w w' ∧ u = .agg (encS (allS (xs.take (i + 1)))).toArray := by
  refine S.seek_Cursor_End.call ?_
  unfold S.seek_Cursor_End
  refine sAlloc_new S.tze_item_Sum fun b2 w1 hb2 hs1 e1 hk2 => ?_
  refine (sitem_spec (hc.ext e1) (ht.ext e1) hn).mono ?_
  rintro u w2 ⟨e2, hu⟩
  have E2 := e1.trans e2
  have s2 := e2.size
  rcases hu with ⟨hge, rfl⟩ | ⟨x, hx, rfl⟩
  · rw [sExtract_0, sExtract_1]
    refine sVar (vs := encT zeroIt) S.tze_item_Item S.tsz_item_Item (by decide) rfl rfl (encT_ok.one _) fun b3 w3 hb3 hs3 e3 hk3 => ?_
    have E3 := E2.trans e3
    rw [sUn_not, Bool.not_false, sIf_true]
    refine (sstart_spec (hc.ext E3)).mono ?_
    rintro u w4 ⟨e4, rfl⟩
    refine sStore_blk S.tsz_item_Sum (by decide) (((hk2.ext e2).ext e3).ext e4) (vs := encS (allS (xs.take i))) rfl rfl (by simp) (encS_one _) fun w5 hs5 hg5 hk5 => ?_
    rw [sLoad_agg (cs := encS (allS (xs.take i))) S.tagg_item_Sum hk5.cells rfl]
    refine ⟨rfl, (E3.trans e4).wr hg5 (by rintro _ ⟨⟩; omega), ?_⟩
    rw [List.take_of_length_le hge, List.take_of_length_le (by omega)]
  · rw [sExtract_0, sExtract_1]
    refine sVar (vs := encT x) S.tze_item_Item S.tsz_item_Item (by decide) rfl rfl (encT_ok.one _) fun b3 w3 hb3 hs3 e3 hk3 => ?_
    have E3 := E2.trans e3
    rw [sUn_not, Bool.not_true, sIf_false]
    refine DrawS.ext ?_
    have E : Ext w3 w3.drew := (Ext.refl w3).drew
    rw [stillS_agg (cs := encT x) S.tagg_item_Item hk3.cells rfl E]
    refine (sstart_spec ((hc.ext E3).ext E)).mono ?_
    rintro u w4 ⟨e4, rfl⟩
    have F4 := E.trans e4
    refine ⟨F4, ?_⟩
    refine (of_spec x).mono ?_
    rintro u w5 ⟨e5, rfl⟩
    refine (add_spec (AddB.one (xs := xs.take i) (by rw [List.length_take]; omega) x)).mono ?_
    rintro u w6 ⟨e6, rfl⟩
    have F6 := (F4.trans e5).trans e6
    refine sStore_blk S.tsz_item_Sum (by decide) (((hk2.ext e2).ext e3).ext F6) (vs := encS (addS (allS (xs.take i)) (ofI x))) rfl rfl (by simp) (encS_one _) fun w7 hs7 hg7 hk7 => ?_
    rw [sLoad_agg (cs := encS (addS (allS (xs.take i)) (ofI x))) S.tagg_item_Sum hk7.cells rfl]
    refine ⟨rfl, (E3.trans F6).wr hg7 (by rintro _ ⟨⟩; omega), ?_⟩
    rw [take_succ_of hx, allS_snoc]

theorem snext_spec (hc : Blk w bc (encCu t i (allS (xs.take i)) vis)) (ht : Tp w t xs) (hn : xs.length ≤ 1000000) (hi : i ≤ xs.length) : sCall Tryd.prog S.seek_Cursor_Next.n [.pointer (some ⟨bc, 0, none⟩)] w fun u w' =>
    (i = xs.length ∧ Ext w w' ∧ u = .bool false) ∨ (i < xs.length ∧ w.grownBy w' (some bc) ∧ u = .bool true ∧ Blk w' bc (encCu t (i + 1 : Nat) (allS (xs.take (i + 1))) vis)) := by
  refine S.seek_Cursor_Next.call ?_
  unfold S.seek_Cursor_Next
  refine (sitem_spec hc ht hn).mono ?_
  rintro u w2 ⟨E2, hu⟩
  rcases hu with ⟨hge, rfl⟩ | ⟨x, hx, rfl⟩
  · rw [sExtract_0, sExtract_1]
    refine sVar (vs := encT zeroIt) S.tze_item_Item S.tsz_item_Item (by decide) rfl rfl (encT_ok.one _) fun b3 w3 hb3 hs3 e3 hk3 => ?_
    rw [sUn_not, Bool.not_false, sIf_true]
    exact .inl ⟨by omega, E2.trans e3, rfl⟩
  · have hlt := (List.getElem?_eq_some_iff.1 hx).1
    rw [sExtract_0, sExtract_1]
    refine sVar (vs := encT x) S.tze_item_Item S.tsz_item_Item (by decide) rfl rfl (encT_ok.one _) fun b3 w3 hb3 hs3 e3 hk3 => ?_
    have E3 := E2.trans e3
    rw [sUn_not, Bool.not_true, sIf_false]
    refine (send_spec (hc.ext E3) (ht.ext E3) hn hi).mono ?_
    rintro u w4 ⟨e4, rfl⟩
    have E4 := E3.trans e4
    rw [sNil_ptr, sFldA_ptr S.tfl_seek_Cursor_at, sFldA_ptr S.tfl_tree_Place_Before]
    refine sStore_blk S.tsz_item_Sum (by decide) (hc.ext E4) (vs := encS (allS (xs.take (i + 1)))) rfl rfl (by simp [encCu, encPl, encS]) (encS_one _) fun w5 hs5 hg5 hk5 => ?_
    have hk5 : Blk w5 bc (encCu t i (allS (xs.take (i + 1))) vis) := hk5
    rw [sNil_ptr, sFldA_ptr S.tfl_seek_Cursor_at, sFldA_ptr S.tfl_tree_Place_Index, sLoad_cell S.tcell_int (hk5.cells.at 1 rfl), sBin_add _ _ ⟨by omega, by omega⟩, sNil_ptr, sFldA_ptr S.tfl_seek_Cursor_at, sFldA_ptr S.tfl_tree_Place_Index]
    refine sStore_blk S.tsz_int (by decide) hk5 (vs := [.int .i64 ((i + 1 : Nat) : Int)]) (by simp; rfl) rfl (by simp [encCu, encPl, encS]) (by simp; rfl) fun w6 hs6 hg6 hk6 => ?_
    exact .inr ⟨hlt, grown_trans (grown_trans (grown_of_ext E4 _) hg5) hg6, rfl, hk6⟩

theorem sto_spec {dim v bias : Int} (hc : Blk w bc (encCu t i s vis)) (ht : Tp w t xs) (hx : ∀ x ∈ xs, ItOk x) (hn : xs.length ≤ 1000000) : sCall Tryd.prog S.seek_Cursor_To.n [.pointer (some ⟨bc, 0, none⟩), .int .i64 dim, .int .i64 v, .int .i64 bias] w fun u w' =>
    (¬ Ask xs dim v bias ∧ Ext w w' ∧ u = .int .i64 1) ∨ (Ask xs dim v bias ∧ w.grownBy w' (some bc) ∧ u = .int .i64 0 ∧ ∃ n vis' : Nat, Fnd xs dim v bias n ∧ Blk w' bc (encCu t n (allS (xs.take n)) vis')) := by
  refine S.seek_Cursor_To.call ?_
  unfold S.seek_Cursor_To
  obtain ⟨H, hH⟩ := ht.withH
  rw [sBin_ptr_eq S.tpt_P_seek_Cursor, Option.isNone_some, sIf_false, sNil_ptr, sFldA_ptr S.tfl_seek_Cursor_t, sLoad_cell S.tcell_P_tree_Tree (hc.cells.at 0 rfl)]
  refine (tfind_spec (dim := dim) (v := v) (bias := bias) hH hx hn).mono ?_
  rintro u w1 ⟨e1, hu⟩
  rcases hu with ⟨h, rfl⟩ | ⟨h, n, vis', hf, hvis, rfl⟩
  · rw [sExtract_0, sExtract_1]
    refine sVar (vs := encPl 0 zeroS 0) S.tze_tree_Place S.tsz_tree_Place (by decide) rfl rfl (encPl_one _ _ _) fun b3 w3 hb3 hs3 e3 hk3 => ?_
    rw [sBin_eql, sIf_neg (by decide)]
    exact .inl ⟨h, e1.trans e3, rfl⟩
  · rw [sExtract_0, sExtract_1]
    refine sVar (vs := encPl n (allS (xs.take n)) vis') S.tze_tree_Place S.tsz_tree_Place (by decide) rfl rfl (encPl_one _ _ _) fun b3 w3 hb3 hs3 e3 hk3 => ?_
    have E3 := e1.trans e3
    rw [sBin_eql, sIf_pos rfl, sLoad_agg (cs := encPl n (allS (xs.take n)) vis') S.tagg_tree_Place hk3.cells rfl, sNil_ptr, sFldA_ptr S.tfl_seek_Cursor_at]
    refine sStore_blk S.tsz_tree_Place (by decide) (hc.ext E3) (vs := encPl n (allS (xs.take n)) vis') rfl rfl (by simp [encCu, encPl, encS]) (encPl_one _ _ _) fun w5 hs5 hg5 hk5 => ?_
    exact .inr ⟨h, grown_trans (grown_of_ext E3 _) hg5, rfl, n, vis', hf, hk5⟩

theorem szA3 {xs : List It} {n : Nat} (h : n ≤ xs.length) : szA xs 3 n = n := by
  unfold szA szD
  rw [if_pos rfl, allS_n, List.length_take]; omega
theorem fnd3n {xs : List It} {n m : Nat} (h : n ≤ xs.length) (hf : Fnd xs 3 n 1 m) : m = n := by
  refine hf.uniq ⟨h, fun k hk => ?_, fun hlt => ?_⟩
  · rw [szA3 (by omega)]; intro hR; rcases hR with h | ⟨h, _⟩ <;> omega
  · rw [szA3 (by omega)]; exact .inl (by omega)
theorem ask3 {xs : List It} {n : Nat} (h : n ≤ xs.length) : Ask xs 3 n 1 := by
  refine ⟨by omega, by omega, by omega, ?_, .inr rfl⟩
  unfold szD; rw [if_pos rfl, allS_n]; omega
/-- What is taken from a place on, up to an end. -/
structure Tkn (xs : List It) (dim v : Int) (i j : Nat) : Prop where
  ij : i ≤ j
  le : j ≤ xs.length
  ok : ∀ m, i ≤ m → m < j → szA xs dim (m + 1) ≤ v
  no : j < xs.length → v < szA xs dim (j + 1)
theorem Tkn.uniq {xs : List It} {dim v : Int} {i j k : Nat} (h : Tkn xs dim v i j) (g : Tkn xs dim v i k) : j = k := by
  have a : ∀ {j k : Nat}, Tkn xs dim v i j → Tkn xs dim v i k → ¬ j < k := fun h g hlt => by
    have h1 := h.no (by have := g.le; omega)
    have h2 := g.ok _ h.ij hlt
    omega
  have := a h g
  have := a g h
  omega
end
end Go.Proofs.YtpjmmhbdondknaaDoor

/- The laws of trees answer true: parts, two in one, items replaced, a nil tree. No conditions but that of memory. -/
import Derived.Test.YtmlbaimdphillaaU6
namespace Go.Proofs.Ytmlbaimdphillaa
open Go Go.Lift Go.RowKit

theorem tjoin_spec {w : World} {s t : Value} {xs ys : List It} (hs : Tp w s xs) (ht : Tp w t ys) (hx : xs.length ≤ 30000) (hy : ys.length ≤ 30000) :
    sCall Try.prog S.tree_Join.n [s, t] w fun u w' => Ext w w' ∧ ((30000 < xs.length + ys.length ∧ u = .tuple #[.pointer none, .int .i64 5]) ∨ (xs.length + ys.length ≤ 30000 ∧ ∃ v, u = .tuple #[v, .int .i64 0] ∧ Tq w' v (xs ++ ys))) := by
  refine S.tree_Join.call ?_
  unfold S.tree_Join
  refine (tsum_spec hs).mono ?_
  rintro u w1 ⟨e1, rfl⟩
  rw [sumN]
  refine (tsum_spec (ht.ext e1)).mono ?_
  rintro u w2 ⟨e2, rfl⟩
  have E2 := e1.trans e2
  rw [sumN, sBin_add _ _ ⟨by omega, by omega⟩, sBin_gtr, sIf_dec]
  refine ⟨fun h => ⟨E2, .inl ⟨by omega, rfl⟩⟩, fun h => ?_⟩
  refine (top_spec (hs.ext E2)).mono ?_
  rintro r w3 ⟨rfl, hr⟩
  refine (top_spec (ht.ext E2)).mono ?_
  rintro r' w3 ⟨rfl, hr'⟩
  refine (join_spec hr hr' ⟨by rw [List.length_append]; omega⟩).mono ?_
  rintro u w4 ⟨e4, r4⟩
  refine treeOf r4 fun v w5 e5 hv => ?_
  exact ⟨(E2.trans e4).trans e5, .inr ⟨by omega, v, rfl, hv⟩⟩

theorem Tq.ptr {w : World} {v : Value} {xs : List It} (h : Tq w v xs) : ∃ b, v = .pointer (some ⟨b, 0, none⟩) := by obtain ⟨b, r, h, _⟩ := h; exact ⟨b, h⟩

theorem treeSlices_spec {w : World} {l : Value} {xs : List It} (hl : Sl w l 7 encT xs) (a b : Int) : S.bodkinlaw05_TreeSlices (Yes w) l (.int .i64 a) (.int .i64 b) w := by
  unfold S.bodkinlaw05_TreeSlices
  refine (R05.right_spec hl).mono ?_
  rintro u w2 ⟨E2, r, rfl, hr⟩
  rw [sUn_not, sIf_bool]
  refine ⟨fun _ => then3 E2, fun h => ?_⟩
  obtain ⟨hn, hx⟩ := hr.1 (by simpa using h)
  refine (newOk (hl.ext E2) hx (by omega)).mono ?_
  rintro u w3 ⟨e3, bt, rfl, ht⟩
  have E3 := E2.trans e3
  have hcap := sl_cap hl
  rw [sExtract_0, sExtract_1, sBin_neq, sIf_not]
  refine ⟨fun h => absurd rfl h, fun _ => ?_⟩
  rw [sBin_ptr_eq S.tpt_P_tree_Tree, Option.isNone_some, sIf_false]
  refine (tslice_spec (a := a) (b := b) ht ⟨by omega⟩).mono ?_
  rintro u w4 ⟨e4, hu⟩
  have E4 := E3.trans e4
  have hcond : ∀ {x18 x31 x32 : Value}, (∀ q : Bool, (q = true ↔ ¬ InR xs a b) → S.bodkinlaw05_TreeSlices_J1 (Yes w) (.int .i64 a) l (.int .i64 b) x18 x31 x32 (.bool q) w4) →
      JoinS 1 12 (fun M1 =>
          sBin Try.prog .lss 3 false true (.int .i64 a) (.int .i64 0) w4 fun x34 w =>
          sIf x34 (M1 [(.bool true)] w) (
            sBin Try.prog .lss 3 false false (.int .i64 b) (.int .i64 a) w fun x38 w =>
            sIf x38 (M1 [(.bool true)] w) (
              sBuiltin Try.prog .len [S.T.L_item_Item] 3 [l] w fun x43 w =>
              sBin Try.prog .gtr 3 false false (.int .i64 b) x43 w fun x44 w =>
              M1 [x44] w))) fun us _ w' => S.bodkinlaw05_TreeSlices_J1 (Yes w) (.int .i64 a) l (.int .i64 b) x18 x31 x32 (Go.Lift.hd us) w' := by
    intro x18 x31 x32 hJ
    refine JoinS.intro (fun us w' => w' = w4 ∧ ∃ q : Bool, us = [.bool q] ∧ (q = true ↔ ¬ InR xs a b)) ?_ ?_
    · rw [sBin_lss, sIf_dec]
      refine ⟨fun h => ⟨rfl, true, rfl, by simp only [true_iff]; omega⟩, fun h => ?_⟩
      rw [sBin_lss, sIf_dec]
      refine ⟨fun h => ⟨rfl, true, rfl, by simp only [true_iff]; omega⟩, fun h => ?_⟩
      rw [sLen_sl S.tel_L_item_Item (hl.ext E4), sBin_gtr]
      exact ⟨rfl, _, rfl, by rw [decide_eq_true_eq]; omega⟩
    rintro us vs w5 ⟨rfl, q, rfl, hq⟩
    exact hJ q hq
  rcases hu with ⟨hni, rfl⟩ | ⟨hin, v, rfl, hv⟩
  · rw [sExtract_0, sExtract_1]
    refine hcond fun q hq => ?_
    unfold S.bodkinlaw05_TreeSlices_J1
    rw [hq.2 hni, sIf_true, sBin_eql, sIf_pos rfl, sBin_ptr_eq S.tpt_P_tree_Tree, Option.isNone_none, sIf_true]
    exact then3 E4
  · rw [sExtract_0, sExtract_1]
    refine hcond fun q hq => ?_
    unfold S.bodkinlaw05_TreeSlices_J1
    obtain ⟨bv, rfl⟩ := hv.ptr
    have hqf : q = false := by
      rcases Bool.eq_false_or_eq_true q with h | h
      · exact absurd hin (hq.1 h)
      · exact h
    obtain ⟨m, rfl⟩ : ∃ m : Nat, a = m := ⟨a.toNat, by omega⟩
    obtain ⟨n, rfl⟩ : ∃ n : Nat, b = n := ⟨b.toNat, by omega⟩
    rw [hqf, sIf_false, sBin_eql, sIf_pos rfl, sBin_ptr_ne S.tpt_P_tree_Tree, Option.isSome_some, sIf_true, sSlice_lh (lo := m) (hi := n) S.tel_L_item_Item S.tsz_item_Item (by omega) (hl.ext E4) rfl rfl (by omega) (by omega)]
    have p1 := (hl.ext E4).part (lo := m) (hi := n) (mx := capV l) (by omega) (by omega) (by omega) (Nat.le_refl _)
    have hlist : (xs.drop (m : Int).toNat).take ((n : Int) - m).toNat = (xs.take n).drop m := by
      rw [List.drop_take, Int.toNat_natCast]; congr 1; omega
    rw [hlist] at hv
    refine (R05.refs_spec p1 (by rw [List.length_drop, List.length_take]; omega)).mono ?_
    rintro q w5 ⟨e5, hq5⟩
    refine (is_spec (hv.ext e5).tp hq5 (fun x h => hx x (List.mem_of_mem_take (List.mem_of_mem_drop h))) (by rw [List.length_drop, List.length_take]; omega)).mono ?_
    rintro u w6 ⟨e6, rfl⟩
    rw [sIf_true]
    have F6 := e5.trans e6
    refine (R05.refs_spec (hl.ext (E4.trans F6)) (by omega)).mono ?_
    rintro q w7 ⟨e7, hq7⟩
    have F7 := F6.trans e7
    refine (is_spec (ht.ext (e4.trans F7)) hq7 hx (by omega)).mono ?_
    rintro u w8 ⟨e8, rfl⟩
    rw [sIf_true]
    exact then3 ((E4.trans F7).trans e8)

theorem treeJoins_spec {w : World} {a b : Value} {xs ys : List It} (ha : Sl w a 7 encT xs) (hb : Sl w b 7 encT ys) : S.bodkinlaw05_TreeJoins (Yes w) a b w := by
  unfold S.bodkinlaw05_TreeJoins
  have hmx : maxLen = 9223372036854775807 := rfl
  refine (R05.right_spec ha).mono ?_
  rintro u w1 ⟨E1, r, rfl, hr⟩
  rw [sUn_not, sIf_bool]
  refine ⟨fun _ => then3 E1, fun h => ?_⟩
  obtain ⟨hn, hx⟩ := hr.1 (by simpa using h)
  refine (R05.right_spec (hb.ext E1)).mono ?_
  rintro u w2 ⟨e2, r2, rfl, hr2⟩
  have E2 := E1.trans e2
  rw [sUn_not, sIf_bool]
  refine ⟨fun _ => then3 E2, fun h => ?_⟩
  obtain ⟨hn2, hy⟩ := hr2.1 (by simpa using h)
  refine (newOk (ha.ext E2) hx (by omega)).mono ?_
  rintro u w3 ⟨e3, bs, rfl, hs⟩
  have E3 := E2.trans e3
  rw [sExtract_0, sExtract_1]
  refine (newOk (hb.ext E3) hy (by omega)).mono ?_
  rintro u w4 ⟨e4, bt, rfl, ht⟩
  have E4 := E3.trans e4
  have hs4 := hs.ext e4
  rw [sExtract_0, sExtract_1, sBin_neq, sIf_not]
  refine ⟨fun h => absurd rfl h, fun _ => ?_⟩
  rw [sBin_neq, sIf_not]
  refine ⟨fun h => absurd rfl h, fun _ => ?_⟩
  rw [sBin_ptr_eq S.tpt_P_tree_Tree, Option.isNone_some, sIf_false, sBin_ptr_eq S.tpt_P_tree_Tree, Option.isNone_some, sIf_false]
  refine (tjoin_spec hs4 ht (by omega) (by omega)).mono ?_
  rintro u w5 ⟨e5, hu⟩
  rcases hu with ⟨h, _⟩ | ⟨_, v, rfl, hv⟩
  · omega
  obtain ⟨bv, rfl⟩ := hv.ptr
  have E5 := E4.trans e5
  rw [sExtract_0, sExtract_1]
  refine sAppend_row S.tel_L_item_Item S.tsz_item_Item (by decide) S.tze_item_Item rfl encT_ok (Row.nil w5 w5.heap.size _ _ _) (Nat.le_refl _) (ha.ext E5) (by simp; omega) (by rw [S.tby_item_Item]; simp; omega) fun v1 w6 hv1 hg1 _ => ?_
  rw [List.nil_append] at hv1
  have e6 : Ext w5 w6 := (Ext.refl w5).wr hg1 (fun g hg => by cases hg)
  refine sAppend_row S.tel_L_item_Item S.tsz_item_Item (by decide) S.tze_item_Item rfl encT_ok hv1 e6.size (hb.ext (E5.trans e6)) (by omega) (by rw [S.tby_item_Item]; omega) fun v2 w7 hv2 hg2 _ => ?_
  have e7 : Ext w5 w7 := e6.wr hg2 (fun g hg => (hv1.lt g hg).1)
  have E7 := E5.trans e7
  have hxy : ∀ x ∈ xs ++ ys, ItOk x := fun x h => by
    rcases List.mem_append.1 h with h | h
    · exact hx x h
    · exact hy x h
  rw [sBin_eql, sIf_pos rfl, sBin_ptr_ne S.tpt_P_tree_Tree, Option.isSome_some, sIf_true]
  refine (R05.refs_spec (hv2.sl encT_ok) (by rw [List.length_append]; omega)).mono ?_
  rintro q w8 ⟨e8, hq⟩
  refine (is_spec (hv.ext (e7.trans e8)).tp hq hxy (by rw [List.length_append]; omega)).mono ?_
  rintro u w9 ⟨e9, rfl⟩
  have F9 := (e7.trans e8).trans e9
  rw [sIf_true]
  refine (R05.refs_spec (ha.ext (E5.trans F9)) (by omega)).mono ?_
  rintro q w10 ⟨e10, hq⟩
  have F10 := F9.trans e10
  refine (is_spec (hs4.ext (e5.trans F10)) hq hx (by omega)).mono ?_
  rintro u w11 ⟨e11, rfl⟩
  have F11 := F10.trans e11
  rw [sIf_true]
  refine (R05.refs_spec (hb.ext (E5.trans F11)) (by omega)).mono ?_
  rintro q w12 ⟨e12, hq⟩
  have F12 := F11.trans e12
  refine (is_spec (ht.ext (e5.trans F12)) hq hy (by omega)).mono ?_
  rintro u w13 ⟨e13, rfl⟩
  rw [sIf_true]
  exact then3 ((E5.trans F12).trans e13)

/-- A step: from, to, and the items that come. -/
abbrev Stp := Int × Int × List It
abbrev Stv := Int × Int × SV
def encSt (p : Stv) : List Value := [.int .i64 p.1, .int .i64 p.2.1, sv p.2.2]
theorem encSt_ok : Enc encSt 3 := ⟨fun _ => rfl, fun x u hu => by simp [encSt] at hu; rcases hu with rfl | rfl | rfl <;> rfl⟩
def Steps (w : World) (l : Value) (pvs : List Stv) : Prop := Sl w l 3 encSt pvs ∧ ∀ p ∈ pvs, ∃ xs, Sl w (sv p.2.2) 7 encT xs
theorem treeReplaces_spec {w : World} {l m : Value} {xs : List It} {pvs : List Stv} (hl : Sl w l 7 encT xs) (hm : Steps w m pvs) : S.bodkinlaw05_TreeReplaces (Yes w) l m w := by
  unfold S.bodkinlaw05_TreeReplaces
  obtain ⟨hms, hmo⟩ := hm
  refine (R05.right_spec hl).mono ?_
  rintro u w1 ⟨E1, r, rfl, hr⟩
  rw [sUn_not, sIf_bool]
  refine ⟨fun _ => then3 E1, fun h => ?_⟩
  obtain ⟨hn, hx⟩ := hr.1 (by simpa using h)
  rw [sLen_sl S.tel_L_bodkinlaw05_Step (hms.ext E1), sBin_gtr, sIf_dec]
  refine ⟨fun _ => then3 E1, fun h20 => ?_⟩
  refine (newOk (hl.ext E1) hx (by omega)).mono ?_
  rintro u w2 ⟨e2, bt, rfl, ht⟩
  have E2 := E1.trans e2
  rw [sExtract_0, sExtract_1, sBin_neq, sIf_not]
  refine ⟨fun h => absurd rfl h, fun _ => ?_⟩
  rw [sBin_ptr_eq S.tpt_P_tree_Tree, Option.isNone_some, sIf_false]
  refine (R05.refs_spec (hl.ext E2) (by omega)).mono ?_
  rintro q w3 ⟨e3, hq⟩
  have E3 := E2.trans e3
  rw [sLen_sl S.tel_L_bodkinlaw05_Step (hms.ext E3)]
  refine LoopS.intro (fun us w4 => Ext w w4 ∧ ∃ (i b : Nat) (q : Value) (zs : List It), us = [.pointer (some ⟨b, 0, none⟩), q, .int .i64 i] ∧ i ≤ pvs.length ∧ Tp w4 (.pointer (some ⟨b, 0, none⟩)) zs ∧ Sl w4 q 7 encT zs ∧ (∀ x ∈ zs, ItOk x) ∧ zs.length ≤ 600 + 100 * i)
    (fun us _ => match us with | [_, _, .int _ a] => (pvs.length - a).toNat | _ => 0) ⟨E3, 0, bt, q, xs, rfl, by omega, ht.ext e3, hq, hx, by omega⟩ ?_
  rintro us vs w4 ⟨E4, i, b, q, zs, rfl, hi, ht, hq, hz, hzn⟩
  unfold S.bodkinlaw05_TreeReplaces_L1
  rw [Go.Lift.hd, Go.Lift.tl, Go.Lift.hd, Go.Lift.tl, Go.Lift.hd, sBin_lss, sIf_dec]
  refine ⟨fun hlt => ?_, fun _ => then3 E4⟩
  obtain ⟨p, hp⟩ : ∃ x, pvs[i]? = some x := ⟨_, List.getElem?_eq_getElem (by omega)⟩
  obtain ⟨ys, hys⟩ := hmo p (List.mem_of_getElem? hp)
  obtain ⟨b1, o1, hel, hc⟩ := (hms.ext E4).el hp
  rw [sIdxA_sl S.tel_L_bodkinlaw05_Step S.tsz_bodkinlaw05_Step (by omega) (hms.ext E4) hp rfl, hel, sLoad_agg S.tagg_bodkinlaw05_Step hc rfl]
  refine sVar S.tze_bodkinlaw05_Step S.tsz_bodkinlaw05_Step (by decide) rfl rfl (encSt_ok.one p) fun b9 w5 hb9 hs5 e5 hk9 => ?_
  have E5 := E4.trans e5
  rw [sFldA_ptr S.tfl_bodkinlaw05_Step_L, sLoad_cell S.tcell_L_item_Item (hk9.cells.at 2 rfl), sLen_sl S.tel_L_item_Item (hys.ext E5), sBin_gtr, sIf_dec]
  refine ⟨fun _ => then3 E5, fun h100 => ?_⟩
  rw [sFldA_ptr S.tfl_bodkinlaw05_Step_From, sLoad_cell S.tcell_int (hk9.cells.at 0 rfl), sFldA_ptr S.tfl_bodkinlaw05_Step_To, sLoad_cell S.tcell_int (hk9.cells.at 1 rfl), sFldA_ptr S.tfl_bodkinlaw05_Step_L, sLoad_cell S.tcell_L_item_Item (hk9.cells.at 2 rfl)]
  refine (treplace_spec (a := p.1) (b := p.2.1) (ht.ext e5) (by omega) (hys.ext E5)).mono ?_
  rintro u w6 ⟨e6, hu⟩
  have E6 := E5.trans e6
  have k6 := hk9.ext e6
  obtain ⟨v, e, rfl, hor⟩ : ∃ (v : Value) (e : Int), u = .tuple #[v, .int .i64 e] ∧ ((v = .pointer none ∧ e = 1 ∧ ¬ (InR zs p.1 p.2.1 ∧ ∀ y ∈ ys, ItOk y)) ∨ (e = 0 ∧ InR zs p.1 p.2.1 ∧ (∀ y ∈ ys, ItOk y) ∧ Tq w6 v (zs.take p.1.toNat ++ ys ++ zs.drop p.2.1.toNat))) := by
    rcases hu with ⟨h, rfl⟩ | ⟨_, h, _⟩ | ⟨_, _, h, rfl⟩ | ⟨_, _, _, h, _⟩ | ⟨h1, _, h2, _, v, rfl, hv⟩
    · exact ⟨_, _, rfl, .inl ⟨rfl, rfl, fun h' => h h'.1⟩⟩
    · omega
    · exact ⟨_, _, rfl, .inl ⟨rfl, rfl, fun h' => h h'.2⟩⟩
    · omega
    · exact ⟨v, 0, rfl, .inr ⟨rfl, h1, h2, hv⟩⟩
  rw [sExtract_0, sExtract_1]
  refine JoinS.intro (fun us w' => Ext w6 w' ∧ ∃ q : Bool, us = [.bool q] ∧ (q = true ↔ ¬ (InR zs p.1 p.2.1 ∧ ∀ y ∈ ys, ItOk y))) ?_ ?_
  · rw [sFldA_ptr S.tfl_bodkinlaw05_Step_From, sLoad_cell S.tcell_int (k6.cells.at 0 rfl), sBin_lss, sIf_dec]
    refine ⟨fun h => ⟨Ext.refl _, true, rfl, by simp only [true_iff]; omega⟩, fun g1 => ?_⟩
    rw [sFldA_ptr S.tfl_bodkinlaw05_Step_To, sLoad_cell S.tcell_int (k6.cells.at 1 rfl), sFldA_ptr S.tfl_bodkinlaw05_Step_From, sLoad_cell S.tcell_int (k6.cells.at 0 rfl), sBin_lss, sIf_dec]
    refine ⟨fun h => ⟨Ext.refl _, true, rfl, by simp only [true_iff]; omega⟩, fun g2 => ?_⟩
    rw [sFldA_ptr S.tfl_bodkinlaw05_Step_To, sLoad_cell S.tcell_int (k6.cells.at 1 rfl), sLen_sl S.tel_L_bodkinref04_Item (hq.ext (e5.trans e6)), sBin_gtr, sIf_dec]
    refine ⟨fun h => ⟨Ext.refl _, true, rfl, by simp only [true_iff]; omega⟩, fun g3 => ?_⟩
    rw [sFldA_ptr S.tfl_bodkinlaw05_Step_L, sLoad_cell S.tcell_L_item_Item (k6.cells.at 2 rfl)]
    refine (R05.right_spec (hys.ext E6)).mono ?_
    rintro u w7 ⟨e7, r2, rfl, hr2⟩
    rw [sUn_not]
    refine ⟨e7, !r2, rfl, ?_⟩
    rw [Bool.not_eq_true', ← Bool.not_eq_true, hr2]
    constructor
    · intro h h'; exact h ⟨by omega, h'.2⟩
    · intro h h'; exact h ⟨⟨by omega, by omega, by omega⟩, h'.2⟩
  rintro us vs w7 ⟨e7, qq, rfl, hqq⟩
  unfold S.bodkinlaw05_TreeReplaces_J2
  have E7 := E6.trans e7
  have F7 := (e5.trans e6).trans e7
  have k7 := k6.ext e7
  rw [Go.Lift.hd, sIf_bool]
  refine ⟨fun hT => ?_, fun hF => ?_⟩
  · obtain ⟨rfl, rfl⟩ : v = .pointer none ∧ e = 1 := by
      rcases hor with ⟨h1, h2, _⟩ | ⟨_, h1, h2, _⟩
      · exact ⟨h1, h2⟩
      · exact absurd ⟨h1, h2⟩ (hqq.1 hT)
    rw [sBin_neq, sIf_not]
    refine ⟨fun h => absurd rfl h, fun _ => ?_⟩
    rw [sBin_ptr_ne S.tpt_P_tree_Tree, Option.isSome_none, sIf_false, sBin_add _ _ ⟨by omega, by omega⟩]
    exact ⟨⟨E7, i + 1, b, q, zs, by simp, by omega, ht.ext F7, hq.ext F7, hz, by omega⟩, by simp only []; omega⟩
  · obtain ⟨rfl, hin, hyo, hv⟩ : e = 0 ∧ InR zs p.1 p.2.1 ∧ (∀ y ∈ ys, ItOk y) ∧ Tq w6 v (zs.take p.1.toNat ++ ys ++ zs.drop p.2.1.toNat) := by
      rcases hor with ⟨_, _, h⟩ | h
      · rw [hqq.2 h] at hF; cases hF
      · exact h
    obtain ⟨bv, rfl⟩ := hv.ptr
    obtain ⟨a, ha⟩ : ∃ a : Nat, p.1 = a := ⟨p.1.toNat, by omega⟩
    obtain ⟨c, hc'⟩ : ∃ c : Nat, p.2.1 = c := ⟨p.2.1.toNat, by omega⟩
    have hk0 : w7.cell? ⟨b9, 0 + 0, none⟩ = some (.int .i64 (a : Int)) := by rw [← ha]; exact k7.cells.at 0 rfl
    have hk1 : w7.cell? ⟨b9, 0 + 1, none⟩ = some (.int .i64 (c : Int)) := by rw [← hc']; exact k7.cells.at 1 rfl
    rw [ha, hc', Int.toNat_natCast, Int.toNat_natCast] at hv
    have hlen : (zs.take a ++ ys ++ zs.drop c).length ≤ 600 + 100 * (i + 1) := by
      rw [List.length_append, List.length_append, List.length_take, List.length_drop]; omega
    have hok : ∀ x ∈ zs.take a ++ ys ++ zs.drop c, ItOk x := fun x h => by
      rcases List.mem_append.1 h with h | h
      · rcases List.mem_append.1 h with h | h
        · exact hz x (List.mem_of_mem_take h)
        · exact hyo x h
      · exact hz x (List.mem_of_mem_drop h)
    refine DrawS.ext ?_
    have E : Ext w7 w7.drew := (Ext.refl w7).drew
    rw [stillS_eq (fun w1 h1 K => sFldA_ptr S.tfl_bodkinlaw05_Step_From) E, stillS_cell S.tcell_int hk0 E, stillS_eq (fun w1 h1 K => sFldA_ptr S.tfl_bodkinlaw05_Step_To) E, stillS_cell S.tcell_int hk1 E,
      stillS_eq (fun w1 h1 K => sBuild_of (cs := encA2 a c) (lp := [(0, [.int .i64 a]), (1, [.int .i64 c])]) S.tze_A2_int S.tpl_A2_int rfl rfl) E, stillS_eq (fun w1 h1 K => sFldA_ptr S.tfl_bodkinlaw05_Step_L) E, stillS_cell S.tcell_L_item_Item (k7.cells.at 2 rfl) E]
    refine (R05.refs_spec (hys.ext (E7.trans E)) (by omega)).mono ?_
    rintro q2 w8 ⟨e8, hq2⟩
    have F8 := E.trans e8
    refine ⟨F8, ?_⟩
    refine (rreplace_spec (a := a) (b := c) (hq.ext (F7.trans F8)) hq2 (by omega) (by omega) (by omega)).mono ?_
    rintro q3 w9 ⟨e9, hq3⟩
    have F9 := F8.trans e9
    refine ⟨F9, ?_⟩
    rw [sBin_neq, sIf_not]
    refine ⟨fun h => absurd rfl h, fun _ => ?_⟩
    rw [sBin_ptr_eq S.tpt_P_tree_Tree, Option.isNone_some, sIf_false]
    refine (is_spec (hv.ext (e7.trans F9)).tp hq3 hok (by omega)).mono ?_
    rintro u w10 ⟨e10, rfl⟩
    have F10 := F9.trans e10
    rw [sUn_not, Bool.not_true, sIf_false]
    refine (is_spec (ht.ext (F7.trans F10)) (hq.ext (F7.trans F10)) hz (by omega)).mono ?_
    rintro u w11 ⟨e11, rfl⟩
    have F11 := F10.trans e11
    rw [sUn_not, Bool.not_true, sIf_false, sBin_add _ _ ⟨by omega, by omega⟩]
    exact ⟨⟨E7.trans F11, i + 1, bv, q3, _, by simp, by omega, (hv.ext (e7.trans F11)).tp, hq3.ext (e10.trans e11), hok, hlen⟩, by simp only []; omega⟩

theorem treeNil_spec (w : World) (i : Int) : S.bodkinlaw05_TreeNil (Yes w) (.int .i64 i) w := by
  unfold S.bodkinlaw05_TreeNil
  have g0 : Gd ([] : List It) := ⟨by simp⟩
  refine (tat_spec (i := i) (Tp.nil w) g0).mono ?_
  rintro u w1 ⟨e1, hu⟩
  rcases hu with ⟨_, rfl⟩ | ⟨_, x, h, _⟩
  case inr => simp at h
  rw [sExtract_0, sExtract_1]
  refine sVar (vs := encT zeroIt) S.tze_item_Item S.tsz_item_Item (by decide) rfl rfl (encT_ok.one zeroIt) fun b4 w2 hb4 hs2 e2 hk4 => ?_
  have E2 := e1.trans e2
  refine (tslice_spec (a := 0) (b := 0) (Tp.nil w2) g0).mono ?_
  rintro u w3 ⟨e3, hu⟩
  rcases hu with ⟨h, _⟩ | ⟨_, v, rfl, hv⟩
  · exact absurd (by decide) h
  obtain ⟨bv, rfl⟩ := hv.ptr
  rw [sExtract_0, sExtract_1]
  refine (tfind_spec (H := 0) (dim := 3) (v := 0) (bias := 0) (.inl ⟨rfl, rfl, rfl⟩) (by simp) (by simp)).mono ?_
  rintro u w4 ⟨e4, hu⟩
  rcases hu with ⟨h, _⟩ | ⟨_, n, vis, hf, hvis, rfl⟩
  · exact absurd (by decide) h
  obtain rfl : n = 0 := by have := hf.le; simpa using this
  obtain rfl : vis = 0 := by omega
  rw [sExtract_0, sExtract_1]
  refine sVar (vs := encPl 0 zeroS 0) S.tze_tree_Place S.tsz_tree_Place (by decide) rfl rfl (encPl_one _ _ _) fun b8 w5 hb8 hs5 e5 hk8 => ?_
  refine (tjoin_spec (Tp.nil w5) (Tp.nil w5) (by simp) (by simp)).mono ?_
  rintro u w6 ⟨e6, hu⟩
  rcases hu with ⟨h, _⟩ | ⟨_, z, rfl, hz⟩
  · simp at h
  obtain ⟨bz, rfl⟩ := hz.ptr
  have F6 := ((E2.trans e3).trans (e4.trans e5)).trans e6
  rw [sExtract_0, sExtract_1, sBin_eql, sIf_pos rfl, sBin_eql, sIf_pos rfl, sBin_eql, sIf_pos rfl, sBin_eql, sIf_pos rfl, sBin_ptr_ne S.tpt_P_tree_Tree, Option.isSome_some, sIf_true, sBin_ptr_ne S.tpt_P_tree_Tree, Option.isSome_some, sIf_true]
  refine (titems_spec (hv.ext ((e4.trans e5).trans e6)).tp ⟨by simp⟩).mono ?_
  rintro u w7 ⟨e7, hu⟩
  have hus := hu.sl encT_ok
  have hl0 : ((((([] : List It).drop (0 : Int).toNat).take ((0 : Int) - 0).toNat).length : Nat) : Int) = 0 := by decide
  rw [sLen_sl S.tel_L_item_Item hus, hl0, sBin_eql, sIf_pos rfl]
  obtain ⟨H, hH⟩ := (hz.ext e7).tp.withH
  refine (theight_spec hH).mono ?_
  rintro u w8 ⟨rfl, rfl⟩
  have hH0 : (H : Int) = 0 := by have := (tallH hH (by simp)).1.2 rfl; omega
  obtain ⟨r2, hr1, hr2⟩ := place_eq (cx := false) (cy := false) 0 0 zeroS zeroS 0 0
  rw [hH0, sBin_eql, sIf_pos rfl, sLoad_agg (cs := encPl 0 zeroS 0) S.tagg_tree_Place ((hk8.ext e6).ext e7).cells rfl, sBuild_of (cs := encPl 0 zeroS 0) (lp := []) S.tze_tree_Place S.tpl_tree_Place rfl rfl, hr2, hr1.2 rfl, sIf_true]
  refine (theight_spec (H := 0) (.inl ⟨rfl, rfl, rfl⟩)).mono ?_
  rintro u w9 ⟨rfl, rfl⟩
  rw [sBin_eql, sIf_pos (show ((0 : Nat) : Int) = 0 from rfl)]
  refine (tsum_spec (Tp.nil _)).mono ?_
  rintro u w10 ⟨e10, rfl⟩
  obtain ⟨r3, hr3, hr4, _⟩ := sums_eq (cx := false) (cy := false) (allS []) zeroS
  rw [sBuild_of (cs := encS zeroS) (lp := []) S.tze_item_Sum S.tpl_item_Sum rfl rfl, hr4, hr3.2 rfl, sIf_true]
  refine (tsound_spec (Tp.nil _) g0).mono ?_
  rintro u w11 ⟨e11, rfl⟩
  rw [sIf_true]
  exact then3 (((F6.trans e7).trans e10).trans e11)
end Go.Proofs.Ytmlbaimdphillaa

/- The laws of flows answer true: lines replaced, rows. No conditions but that of memory. -/
import Derived.Test.YtmlbaimdphillaaF3
import Derived.Test.YtmlbaimdphillaaU7
namespace Go.Proofs.Ytmlbaimdphillaa
open Go Go.Lift Go.RowKit

theorem fnewOk {w : World} {l : Value} {ls : List Ln} (hl : Sl w l 4 encL ls) (hx : ∀ x ∈ ls, LnOk x) (hn : ls.length ≤ 30000) :
    sCall Try.prog S.flow_New.n [l] w fun u w' => Ext w w' ∧ ∃ b, u = .tuple #[.pointer (some ⟨b, 0, none⟩), .int .i64 0] ∧ Fq w' (.pointer (some ⟨b, 0, none⟩)) ls := by
  refine (fnew_spec hl hn).mono ?_
  rintro u w2 ⟨e2, hu⟩
  rcases hu with ⟨h, _⟩ | ⟨_, v, rfl, hv⟩
  · exact absurd hx h
  · obtain ⟨b, rfl⟩ := hv.ptr
    exact ⟨e2, b, rfl, hv⟩
def Steps22 (w : World) (l : Value) (pvs : List Stv) : Prop := Sl w l 3 encSt pvs ∧ ∀ p ∈ pvs, ∃ xs, Sl w (sv p.2.2) 4 encL xs
abbrev InL (zs : List Ln) (a b : Int) : Prop := 0 ≤ a ∧ a ≤ b ∧ b ≤ zs.length
theorem flowReplaces_spec {w : World} {l m : Value} {xs : List Ln} {pvs : List Stv} (hl : Sl w l 4 encL xs) (hm : Steps22 w m pvs) : S.bodkinlaw22_FlowReplaces (Yes w) l m w := by
  unfold S.bodkinlaw22_FlowReplaces
  obtain ⟨hms, hmo⟩ := hm
  have hmx : maxLen = 9223372036854775807 := rfl
  rw [sLen_sl S.tel_L_flow_Line hl, sBin_gtr, sIf_dec]
  refine ⟨fun _ => then6 (Ext.refl w), fun h100 => ?_⟩
  rw [sLen_sl S.tel_L_bodkinlaw22_Step hms, sBin_gtr, sIf_dec]
  refine ⟨fun _ => then6 (Ext.refl w), fun h20 => ?_⟩
  refine (line_refs hl (by omega)).mono ?_
  rintro q w1 ⟨e1, hq⟩
  refine (rright22_spec hq (by omega)).mono ?_
  rintro u w1' ⟨e1', r, rfl, hr⟩
  have E1 := e1.trans e1'
  rw [sUn_not, sIf_bool]
  refine ⟨fun _ => then6 E1, fun h => ?_⟩
  have hx := hr.1 (by simpa using h)
  clear hq
  refine (fnewOk (hl.ext E1) hx (by omega)).mono ?_
  rintro u w2 ⟨e2, bt, rfl, ht⟩
  have E2 := E1.trans e2
  rw [sExtract_0, sExtract_1]
  refine (line_refs (hl.ext E2) (by omega)).mono ?_
  rintro q w3 ⟨e3, hq⟩
  have E3 := E2.trans e3
  rw [sBin_neq, sIf_not]
  refine ⟨fun h => absurd rfl h, fun _ => ?_⟩
  rw [sBin_ptr_eq S.tpt_P_flow_Flow, Option.isNone_some, sIf_false]
  rw [sLen_sl S.tel_L_bodkinlaw22_Step (hms.ext E3)]
  refine LoopS.intro (fun us w4 => Ext w w4 ∧ ∃ (i b : Nat) (q : Value) (zs : List Ln), us = [.pointer (some ⟨b, 0, none⟩), q, .int .i64 i] ∧ i ≤ pvs.length ∧ Fq w4 (.pointer (some ⟨b, 0, none⟩)) zs ∧ Sl w4 q 4 encL zs ∧ (∀ x ∈ zs, LnOk x) ∧ zs.length ≤ 100 + 50 * i)
    (fun us _ => match us with | [_, _, .int _ a] => (pvs.length - a).toNat | _ => 0) ⟨E3, 0, bt, q, xs, rfl, by omega, ht.ext e3, hq, hx, by omega⟩ ?_
  rintro us vs w4 ⟨E4, i, b, q, zs, rfl, hi, ht, hq, hz, hzn⟩
  unfold S.bodkinlaw22_FlowReplaces_L1
  rw [Go.Lift.hd, Go.Lift.tl, Go.Lift.hd, Go.Lift.tl, Go.Lift.hd, sBin_lss, sIf_dec]
  refine ⟨fun hlt => ?_, fun _ => then6 E4⟩
  obtain ⟨p, hp⟩ : ∃ x, pvs[i]? = some x := ⟨_, List.getElem?_eq_getElem (by omega)⟩
  obtain ⟨ys, hys⟩ := hmo p (List.mem_of_getElem? hp)
  obtain ⟨b1, o1, hel, hc⟩ := (hms.ext E4).el hp
  rw [sIdxA_sl S.tel_L_bodkinlaw22_Step S.tsz_bodkinlaw22_Step (by omega) (hms.ext E4) hp rfl, hel, sLoad_agg S.tagg_bodkinlaw22_Step hc rfl]
  refine sVar S.tze_bodkinlaw22_Step S.tsz_bodkinlaw22_Step (by decide) rfl rfl (encSt_ok.one p) fun b9 w5 hb9 hs5 e5 hk9 => ?_
  have E5 := E4.trans e5
  rw [sFldA_ptr S.tfl_bodkinlaw22_Step_L, sLoad_cell S.tcell_L_flow_Line (hk9.cells.at 2 rfl), sLen_sl S.tel_L_flow_Line (hys.ext E5), sBin_gtr, sIf_dec]
  refine ⟨fun _ => then6 E5, fun h50 => ?_⟩
  rw [sFldA_ptr S.tfl_bodkinlaw22_Step_From, sLoad_cell S.tcell_int (hk9.cells.at 0 rfl), sFldA_ptr S.tfl_bodkinlaw22_Step_To, sLoad_cell S.tcell_int (hk9.cells.at 1 rfl), sFldA_ptr S.tfl_bodkinlaw22_Step_L, sLoad_cell S.tcell_L_flow_Line (hk9.cells.at 2 rfl)]
  refine (freplace_spec (a := p.1) (b := p.2.1) (ht.ext e5) (hys.ext E5) (by omega) (by omega)).mono ?_
  rintro u w6 ⟨e6, hu⟩
  have E6 := E5.trans e6
  have k6 := hk9.ext e6
  obtain ⟨v, e, rfl, hor⟩ : ∃ (v : Value) (e : Int), u = .tuple #[v, .int .i64 e] ∧ ((v = .pointer none ∧ e = 1 ∧ ¬ (InL zs p.1 p.2.1 ∧ ∀ y ∈ ys, LnOk y)) ∨ (e = 0 ∧ InL zs p.1 p.2.1 ∧ (∀ y ∈ ys, LnOk y) ∧ Fq w6 v (zs.take p.1.toNat ++ ys ++ zs.drop p.2.1.toNat))) := by
    rcases hu with ⟨h, rfl⟩ | ⟨⟨h1, h2⟩, v, rfl, hv⟩
    · exact ⟨_, _, rfl, .inl ⟨rfl, rfl, h⟩⟩
    · exact ⟨v, 0, rfl, .inr ⟨rfl, h1, h2, hv⟩⟩
  rw [sExtract_0, sExtract_1]
  refine JoinS.intro (fun us w' => Ext w6 w' ∧ ∃ q : Bool, us = [.bool q] ∧ (q = true ↔ ¬ (InL zs p.1 p.2.1 ∧ ∀ y ∈ ys, LnOk y))) ?_ ?_
  · rw [sFldA_ptr S.tfl_bodkinlaw22_Step_From, sLoad_cell S.tcell_int (k6.cells.at 0 rfl), sBin_lss, sIf_dec]
    refine ⟨fun h => ⟨Ext.refl _, true, rfl, by simp only [true_iff]; omega⟩, fun g1 => ?_⟩
    rw [sFldA_ptr S.tfl_bodkinlaw22_Step_To, sLoad_cell S.tcell_int (k6.cells.at 1 rfl), sFldA_ptr S.tfl_bodkinlaw22_Step_From, sLoad_cell S.tcell_int (k6.cells.at 0 rfl), sBin_lss, sIf_dec]
    refine ⟨fun h => ⟨Ext.refl _, true, rfl, by simp only [true_iff]; omega⟩, fun g2 => ?_⟩
    rw [sFldA_ptr S.tfl_bodkinlaw22_Step_To, sLoad_cell S.tcell_int (k6.cells.at 1 rfl), sLen_sl S.tel_L_bodkinref22_Line (hq.ext (e5.trans e6)), sBin_gtr, sIf_dec]
    refine ⟨fun h => ⟨Ext.refl _, true, rfl, by simp only [true_iff]; omega⟩, fun g3 => ?_⟩
    rw [sFldA_ptr S.tfl_bodkinlaw22_Step_L, sLoad_cell S.tcell_L_flow_Line (k6.cells.at 2 rfl)]
    refine (line_refs (hys.ext E6) (by omega)).mono ?_
    rintro u w7 ⟨e7, hqy⟩
    refine (rright22_spec hqy (by omega)).mono ?_
    rintro u w8 ⟨e8, r2, rfl, hr2⟩
    rw [sUn_not]
    refine ⟨e7.trans e8, !r2, rfl, ?_⟩
    rw [Bool.not_eq_true', ← Bool.not_eq_true, hr2]
    constructor
    · intro h h'; exact h h'.2
    · intro h h'; exact h ⟨⟨by omega, by omega, by omega⟩, h'⟩
  rintro us vs w7 ⟨e7, qq, rfl, hqq⟩
  unfold S.bodkinlaw22_FlowReplaces_J2
  have E7 := E6.trans e7
  have F7 := (e5.trans e6).trans e7
  have k7 := k6.ext e7
  rw [Go.Lift.hd, sIf_bool]
  refine ⟨fun hT => ?_, fun hF => ?_⟩
  · obtain ⟨rfl, rfl⟩ : v = .pointer none ∧ e = 1 := by
      rcases hor with ⟨h1, h2, _⟩ | ⟨_, h1, h2, _⟩
      · exact ⟨h1, h2⟩
      · exact absurd ⟨h1, h2⟩ (hqq.1 hT)
    rw [sBin_neq, sIf_not]
    refine ⟨fun h => absurd rfl h, fun _ => ?_⟩
    rw [sBin_ptr_ne S.tpt_P_flow_Flow, Option.isSome_none, sIf_false, sBin_add _ _ ⟨by omega, by omega⟩]
    exact ⟨⟨E7, i + 1, b, q, zs, by simp, by omega, ht.ext F7, hq.ext F7, hz, by omega⟩, by simp only []; omega⟩
  · obtain ⟨rfl, hin, hyo, hv⟩ : e = 0 ∧ InL zs p.1 p.2.1 ∧ (∀ y ∈ ys, LnOk y) ∧ Fq w6 v (zs.take p.1.toNat ++ ys ++ zs.drop p.2.1.toNat) := by
      rcases hor with ⟨_, _, h⟩ | h
      · rw [hqq.2 h] at hF; cases hF
      · exact h
    obtain ⟨bv, rfl⟩ := hv.ptr
    obtain ⟨a, ha⟩ : ∃ a : Nat, p.1 = a := ⟨p.1.toNat, by omega⟩
    obtain ⟨c, hc'⟩ : ∃ c : Nat, p.2.1 = c := ⟨p.2.1.toNat, by omega⟩
    have hcap := sl_cap (hq.ext F7)
    have hk0 : w7.cell? ⟨b9, 0 + 0, none⟩ = some (.int .i64 (a : Int)) := by rw [← ha]; exact k7.cells.at 0 rfl
    rw [ha, hc', Int.toNat_natCast, Int.toNat_natCast] at hv
    have hlen : (zs.take a ++ ys ++ zs.drop c).length ≤ 100 + 50 * (i + 1) := by
      rw [List.length_append, List.length_append, List.length_take, List.length_drop]; omega
    have hok : ∀ x ∈ zs.take a ++ ys ++ zs.drop c, LnOk x := fun x h => by
      rcases List.mem_append.1 h with h | h
      · rcases List.mem_append.1 h with h | h
        · exact hz x (List.mem_of_mem_take h)
        · exact hyo x h
      · exact hz x (List.mem_of_mem_drop h)
    have l1 : (zs.take a).length = a := by rw [List.length_take]; omega
    rw [sFldA_ptr S.tfl_bodkinlaw22_Step_From, sLoad_cell S.tcell_int hk0, sSlice_h (hi := a) S.tel_L_bodkinref22_Line S.tsz_bodkinref22_Line (by omega) (hq.ext F7) rfl (by omega)]
    have p1 : Sl w7 (slV q 4 0 a (capV q)) 4 encL (zs.take a) := by
      simpa using (hq.ext F7).part (lo := 0) (hi := a) (mx := capV q) (by omega) (by omega) (by omega) (Nat.le_refl _)
    refine sAppend_row S.tel_L_bodkinref22_Line S.tsz_bodkinref22_Line (by decide) S.tze_bodkinref22_Line rfl encL_ok (Row.nil w7 w7.heap.size _ _ _) (Nat.le_refl _) p1 (by simp; omega) (by rw [S.tby_bodkinref22_Line]; simp; omega) fun v1 w8 hv1 hg8 _ => ?_
    rw [List.nil_append] at hv1
    have e8 : Ext w7 w8 := (Ext.refl w7).wr hg8 (fun g hg => by cases hg)
    rw [sFldA_ptr S.tfl_bodkinlaw22_Step_L, sLoad_cell S.tcell_L_flow_Line ((k7.ext e8).cells.at 2 rfl)]
    refine (line_refs (hys.ext (E7.trans e8)) (by omega)).mono ?_
    rintro q2 w9 ⟨e9, hq2⟩
    have F9 := e8.trans e9
    refine sAppend_row S.tel_L_bodkinref22_Line S.tsz_bodkinref22_Line (by decide) S.tze_bodkinref22_Line rfl encL_ok (hv1.ext e9) F9.size hq2 (by omega) (by rw [S.tby_bodkinref22_Line]; omega) fun v2 w10 hv2 hg10 _ => ?_
    have F10 : Ext w7 w10 := F9.wr hg10 (fun g hg => (hv1.lt g hg).1)
    have hk1 : w10.cell? ⟨b9, 0 + 1, none⟩ = some (.int .i64 (c : Int)) := by rw [← hc']; exact (k7.ext F10).cells.at 1 rfl
    rw [sFldA_ptr S.tfl_bodkinlaw22_Step_To, sLoad_cell S.tcell_int hk1, sSlice_l (lo := c) S.tel_L_bodkinref22_Line S.tsz_bodkinref22_Line (by omega) (hq.ext (F7.trans F10)) rfl (by omega)]
    have p2 : Sl w10 (slV q 4 c zs.length (capV q)) 4 encL (zs.drop c) := by
      simpa using (hq.ext (F7.trans F10)).part (lo := c) (hi := zs.length) (mx := capV q) (by omega) (by omega) (by omega) (Nat.le_refl _)
    refine sAppend_row S.tel_L_bodkinref22_Line S.tsz_bodkinref22_Line (by decide) S.tze_bodkinref22_Line rfl encL_ok hv2 F10.size p2 (by rw [List.length_append, List.length_drop]; omega) (by rw [S.tby_bodkinref22_Line, List.length_append, List.length_drop]; omega) fun v3 w11 hv3 hg11 _ => ?_
    have F11 : Ext w7 w11 := F10.wr hg11 (fun g hg => (hv2.lt g hg).1)
    have hq3 := hv3.sl encL_ok
    rw [sBin_neq, sIf_not]
    refine ⟨fun h => absurd rfl h, fun _ => ?_⟩
    refine (is22_spec (hv.ext (e7.trans F11)) hq3 hok (by omega)).mono ?_
    rintro u w12 ⟨e12, rfl⟩
    have F12 := F11.trans e12
    rw [sUn_not, Bool.not_true, sIf_false]
    refine (is22_spec (ht.ext (F7.trans F12)) (hq.ext (F7.trans F12)) hz (by omega)).mono ?_
    rintro u w13 ⟨e13, rfl⟩
    have F13 := F12.trans e13
    rw [sUn_not, Bool.not_true, sIf_false, sBin_add _ _ ⟨by omega, by omega⟩]
    exact ⟨⟨E7.trans F13, i + 1, bv, v3, _, by simp, by omega, hv.ext (e7.trans F13), hq3.ext (e12.trans e13), hok, hlen⟩, by simp only []; omega⟩

/-! ## Rows -/
theorem szA_line {ls : List Ln} (hx : ∀ x ∈ ls, LnOk x) (hn : ls.length ≤ 30000) {m : Nat} {x : Ln} (h : ls[m]? = some x) : szA (ls.map itL) 2 (m + 1) = szA (ls.map itL) 2 m + x.rw := by
  have hl : (ls.map itL).length = ls.length := List.length_map ..
  obtain ⟨hg, _⟩ := allS_grow (items_ok hx) (by omega) (show (ls.map itL)[m]? = some (itL x) by rw [List.getElem?_map, h]; rfl)
  unfold szA
  rw [hg]
  rfl
/-- A row within a line. -/
abbrev RowAt (ls : List Ln) (n : Nat) (row : Int) : Prop := n < ls.length ∧ szA (ls.map itL) 2 n ≤ row ∧ row < szA (ls.map itL) 2 (n + 1)
theorem szA_all (ls : List Ln) : szA (ls.map itL) 2 ls.length = (allS (ls.map itL)).d2 := by
  unfold szA
  rw [List.take_of_length_le (by rw [List.length_map]; exact Nat.le_refl _)]
  rfl
theorem szA_z (ls : List Ln) : szA (ls.map itL) 2 0 = 0 := rfl
theorem fnd_row {ls : List Ln} {row : Int} {n : Nat} (h0 : 0 ≤ row) (h1 : row < (allS (ls.map itL)).d2) (hf : Fnd (ls.map itL) 2 row 1 n) : RowAt ls n row := by
  have hl : (ls.map itL).length = ls.length := List.length_map ..
  have hle := hf.le
  have hlow : szA (ls.map itL) 2 n ≤ row := by
    rcases Nat.eq_zero_or_pos n with rfl | hpos
    · rw [szA_z]; exact h0
    · have := hf.no (n - 1) (by omega)
      rw [Nat.sub_add_cancel hpos] at this
      unfold Rch at this
      omega
  have hlt : n < ls.length := by
    rcases Nat.lt_or_ge n ls.length with h | h
    · exact h
    · obtain rfl : n = ls.length := by omega
      rw [szA_all] at hlow
      omega
  refine ⟨hlt, hlow, ?_⟩
  rcases hf.yes (by omega) with h | ⟨h, _⟩
  · exact h
  · cases h
theorem row_next {ls : List Ln} (hx : ∀ x ∈ ls, LnOk x) (hn : ls.length ≤ 30000) {m n : Nat} {row : Int} (hm : RowAt ls m (row - 1)) (hn' : RowAt ls n row) : n = m ∨ (n = m + 1 ∧ row = szA (ls.map itL) 2 n) := by
  have hl : (ls.map itL).length = ls.length := List.length_map ..
  obtain ⟨m1, m2, m3⟩ := hm
  obtain ⟨n1, n2, n3⟩ := hn'
  have mono : ∀ {a b : Nat}, a ≤ b → szA (ls.map itL) 2 a ≤ szA (ls.map itL) 2 b := fun h => szA_mono (items_ok hx) (by omega) 2 h
  have a1 : m ≤ n := Nat.le_of_not_lt fun h => by
    have := mono (show n + 1 ≤ m from h); omega
  rcases Nat.eq_or_lt_of_le a1 with h | h
  · exact .inl h.symm
  · right
    have s1 := mono (show m + 1 ≤ n from h)
    have a2 : n ≤ m + 1 := Nat.le_of_not_lt fun h' => by
      obtain ⟨x, hxm⟩ : ∃ x, ls[m + 1]? = some x := ⟨_, List.getElem?_eq_getElem (by omega)⟩
      have s2 := szA_line hx hn hxm
      have s3 := mono (show m + 1 + 1 ≤ n from h')
      have := (hx x (List.mem_of_getElem? hxm)).2
      omega
    obtain rfl : n = m + 1 := by omega
    exact ⟨rfl, by omega⟩
def LastAt (ls : List Ln) (row a b : Int) : Prop := (row = 0 ∧ a = -1 ∧ b = 0) ∨ (0 < row ∧ ∃ m : Nat, RowAt ls m (row - 1) ∧ a = m ∧ b = row - 1 - szA (ls.map itL) 2 m)
theorem flowRows_spec {w : World} {l : Value} {ls : List Ln} (hl : Sl w l 4 encL ls) : S.bodkinlaw22_FlowRows (Yes w) l w := by
  unfold S.bodkinlaw22_FlowRows
  rw [sLen_sl S.tel_L_flow_Line hl, sBin_gtr, sIf_dec]
  refine ⟨fun _ => then6 (Ext.refl w), fun h60 => ?_⟩
  refine (line_refs hl (by omega)).mono ?_
  rintro q w1 ⟨e1, hq⟩
  refine (rright22_spec hq (by omega)).mono ?_
  rintro u w2 ⟨e2, r, rfl, hr⟩
  have E2 := e1.trans e2
  rw [sUn_not, sIf_bool]
  refine ⟨fun _ => then6 E2, fun h => ?_⟩
  have hx := hr.1 (by simpa using h)
  refine (line_refs (hl.ext E2) (by omega)).mono ?_
  rintro q w3 ⟨e3, hq⟩
  refine (rsum22_spec hq hx (by omega)).mono ?_
  rintro u w4 ⟨e4, rfl⟩
  have E4 := (E2.trans e3).trans e4
  rw [sFld_cell (v := .int .i64 (allS (ls.map itL)).d2) S.tfd_bodkinref22_Line_Rows S.tcell_int rfl, sBin_gtr, sIf_dec]
  refine ⟨fun _ => then6 E4, fun h400 => ?_⟩
  refine (fnewOk (hl.ext E4) hx (by omega)).mono ?_
  rintro u w5 ⟨e5, bt, rfl, ht⟩
  have E5 := E4.trans e5
  rw [sExtract_0, sExtract_1, sBin_neq, sIf_not]
  refine ⟨fun h => absurd rfl h, fun _ => ?_⟩
  have hli : (ls.map itL).length = ls.length := List.length_map ..
  have hmono : ∀ {a b : Nat}, a ≤ b → szA (ls.map itL) 2 a ≤ szA (ls.map itL) 2 b := fun h => szA_mono (items_ok hx) (by omega) 2 h
  have hall : ∀ n, n ≤ ls.length → 0 ≤ szA (ls.map itL) 2 n ∧ szA (ls.map itL) 2 n ≤ (allS (ls.map itL)).d2 := fun n h => by
    have a1 := hmono (Nat.zero_le n)
    have a2 := hmono h
    rw [szA_z] at a1
    rw [szA_all] at a2
    exact ⟨a1, a2⟩
  have ht0 : 0 ≤ (allS (ls.map itL)).d2 := by have := (hall ls.length (Nat.le_refl _)).1; rw [szA_all] at this; exact this
  rw [sBuild_of (cs := encSp (-1) 0 0 0 0) (lp := [(0, [.int .i64 (-1)])]) S.tze_flow_Spot S.tpl_flow_Spot rfl rfl]
  refine sVar (vs := encSp (-1) 0 0 0 0) S.tze_flow_Spot S.tsz_flow_Spot (by decide) rfl rfl (encSp_one _ _ _ _ _) fun b5 w6 hb5 hs6 e6 hk5 => ?_
  have s5 := E5.size
  refine LoopS.intro (fun us w7 => Ext w5 w7 ∧ ∃ row a b c d e : Int, us = [.int .i64 row] ∧ 0 ≤ row ∧ row ≤ (allS (ls.map itL)).d2 ∧ Blk w7 b5 (encSp a b c d e) ∧ LastAt ls row a b)
    (fun us _ => match us with | [.int _ a] => ((allS (ls.map itL)).d2 - a).toNat | _ => 0) ⟨e6, 0, -1, 0, 0, 0, 0, rfl, by omega, ht0, hk5, .inl ⟨rfl, rfl, rfl⟩⟩ ?_
  rintro us vs w7 ⟨g7, row, a, b, c, d, e, rfl, hr0, hr1, k7, hlast⟩
  unfold S.bodkinlaw22_FlowRows_L1
  have E7 := E5.trans g7
  have hf7 := ht.ext g7
  rw [Go.Lift.hd]
  refine (line_refs (hl.ext E7) (by omega)).mono ?_
  rintro q w8 ⟨e8, hq⟩
  refine (rsum22_spec hq hx (by omega)).mono ?_
  rintro u w9 ⟨e9, rfl⟩
  have F9 := e8.trans e9
  have E9 := E7.trans F9
  rw [sFld_cell (v := .int .i64 (allS (ls.map itL)).d2) S.tfd_bodkinref22_Line_Rows S.tcell_int rfl, sBin_lss, sIf_dec]
  refine ⟨fun hlt => ?_, fun hge => ?_⟩
  · refine (fbyrow_spec (hf7.ext F9) hx (by omega) hr0 hlt).mono ?_
    rintro u w10 ⟨e10, n, hfn, rfl⟩
    have hat := fnd_row hr0 hlt hfn
    obtain ⟨n1, n2, n3⟩ := hat
    obtain ⟨x, hxn⟩ : ∃ x, ls[n]? = some x := ⟨_, List.getElem?_eq_getElem n1⟩
    have hstep := szA_line hx (by omega) hxn
    obtain ⟨c1, c2⟩ := hall n (by omega)
    unfold spotV
    generalize hP : szA (ls.map itL) 2 n = P at *
    generalize szA (ls.map itL) 0 n = P0
    generalize szA (ls.map itL) 1 n = P1
    rw [sExtract_0, sExtract_1]
    refine sVar (vs := encSp n (row - P) P P0 P1) S.tze_flow_Spot S.tsz_flow_Spot (by decide) rfl rfl (encSp_one _ _ _ _ _) fun b7 w11 hb7 hs11 e11 hk7 => ?_
    have F11 := (F9.trans e10).trans e11
    have E11 := E7.trans F11
    have k5 := k7.ext F11
    rw [sBin_neq, sIf_not]
    refine ⟨fun h => absurd rfl h, fun _ => ?_⟩
    rw [sFldA_ptr S.tfl_flow_Spot_Row, sLoad_cell S.tcell_int (hk7.cells.at 2 rfl), sFldA_ptr S.tfl_flow_Spot_Inside, sLoad_cell S.tcell_int (hk7.cells.at 1 rfl), sBin_add _ _ ⟨by omega, by omega⟩, sBin_neq, sIf_not]
    refine ⟨fun h => absurd (by omega) h, fun _ => ?_⟩
    rw [sFldA_ptr S.tfl_flow_Spot_Line, sLoad_cell S.tcell_int (hk7.cells.at 0 rfl), sBin_lss, sIf_neg (by omega), sFldA_ptr S.tfl_flow_Spot_Line, sLoad_cell S.tcell_int (hk7.cells.at 0 rfl), sLen_sl S.tel_L_flow_Line (hl.ext E11), sBin_geq, sIf_neg (by omega)]
    refine JoinS.intro (fun us w' => w' = w11 ∧ us = [.bool true]) ?_ ?_
    · rw [sFldA_ptr S.tfl_flow_Spot_Line, sLoad_cell S.tcell_int (hk7.cells.at 0 rfl), sFldA_ptr S.tfl_flow_Spot_Line, sLoad_cell (v := .int .i64 a) S.tcell_int (k5.cells.at 0 rfl), sBin_eql, sIf_dec]
      have hcase : (n = a ∧ row - P = b + 1) ∨ ((n : Int) = a + 1 ∧ row - P = 0) := by
        rcases hlast with ⟨h1, h2, h3⟩ | ⟨h1, m, hm, rfl, rfl⟩
        · right
          have hn0 : n = 0 := by
            rcases Nat.eq_zero_or_pos n with h | h
            · exact h
            · obtain ⟨x0, hx0⟩ : ∃ x, ls[0]? = some x := ⟨_, List.getElem?_eq_getElem (by omega)⟩
              have t1 := szA_line hx (by omega) hx0
              have t2 := hmono (show 0 + 1 ≤ n from h)
              have := (hx x0 (List.mem_of_getElem? hx0)).2
              rw [szA_z] at t1
              omega
          subst hn0
          rw [szA_z] at hP
          omega
        · rcases row_next hx (by omega) hm (⟨n1, by rw [hP]; exact n2, n3⟩ : RowAt ls n row) with rfl | ⟨rfl, hrow⟩
          · left
            rw [hP]
            exact ⟨rfl, by omega⟩
          · right
            rw [hP] at hrow
            exact ⟨by omega, by omega⟩
      refine ⟨fun hEq => ?_, fun hNe => ?_⟩
      · have hb : row - P = b + 1 := by
          rcases hcase with h | h
          · exact h.2
          · omega
        have hbb : -1 ≤ b ∧ b ≤ 400 := by omega
        rw [sFldA_ptr S.tfl_flow_Spot_Inside, sLoad_cell S.tcell_int (hk7.cells.at 1 rfl), sFldA_ptr S.tfl_flow_Spot_Inside, sLoad_cell (v := .int .i64 b) S.tcell_int (k5.cells.at 1 rfl), sBin_add _ _ ⟨by omega, by omega⟩, sBin_eql, sIf_pos hb]
        exact ⟨rfl, rfl⟩
      · obtain ⟨h1, h2⟩ : (n : Int) = a + 1 ∧ row - P = 0 := by
          rcases hcase with h | h
          · omega
          · exact h
        rw [sFldA_ptr S.tfl_flow_Spot_Line, sLoad_cell S.tcell_int (hk7.cells.at 0 rfl), sFldA_ptr S.tfl_flow_Spot_Line, sLoad_cell (v := .int .i64 a) S.tcell_int (k5.cells.at 0 rfl), sBin_add _ _ ⟨by omega, by omega⟩, sBin_eql, sIf_pos h1,
          sFldA_ptr S.tfl_flow_Spot_Inside, sLoad_cell S.tcell_int (hk7.cells.at 1 rfl), sBin_eql, decide_eq_true h2]
        exact ⟨rfl, rfl⟩
    rintro us vs w11 ⟨rfl, rfl⟩
    unfold S.bodkinlaw22_FlowRows_J2
    refine DrawS.ext ?_
    have E : Ext w11 w11.drew := (Ext.refl w11).drew
    obtain ⟨b1, o1, hel1, hc1⟩ := (hl.ext E11).el hxn
    rw [Go.Lift.hd, stillS_eq (fun w1 h1 K => sUn_not true) E, Bool.not_true, sIf_false, stillS_eq (fun w1 h1 K => sFldA_ptr S.tfl_flow_Spot_Inside) E, stillS_cell S.tcell_int (hk7.cells.at 1 rfl) E, stillS_eq (fun w1 h1 K => sFldA_ptr S.tfl_flow_Spot_Line) E, stillS_cell S.tcell_int (hk7.cells.at 0 rfl) E,
      stillS_eq (fun w1' h1 K => sIdxA_sl (i := n) S.tel_L_flow_Line S.tsz_flow_Line (by omega) ((hl.ext E11).ext h1) hxn rfl) E, hel1, stillS_eq (fun w1 h1 K => sFldA_ptr S.tfl_flow_Line_Rows) E, stillS_cell (v := .int .i64 x.rw) S.tcell_int (hc1.at 2 rfl) E, stillS_eq (fun w1 h1 K => sBin_geq _ _) E, sIf_neg (by omega),
      sLoad_agg (cs := encSp n (row - P) P P0 P1) S.tagg_flow_Spot (hk7.ext E).cells rfl]
    refine sStore_blk S.tsz_flow_Spot (by decide) (k5.ext E) (vs := encSp n (row - P) P P0 P1) rfl rfl (by simp [encSp]) (encSp_one _ _ _ _ _) fun w12 hs12 hg12 hk12 => ?_
    rw [sBin_add _ _ ⟨by omega, by omega⟩]
    have G : Ext w5 w11.drew := (g7.trans F11).trans E
    refine ⟨⟨G.wr hg12 (by rintro _ ⟨⟩; omega), row + 1, n, row - P, P, P0, P1, rfl, by omega, by omega, hk12, .inr ⟨by omega, n, ?_, rfl, ?_⟩⟩, by simp only []; omega⟩
    · exact ⟨n1, by rw [hP]; omega, by omega⟩
    · rw [hP]; omega
  · obtain rfl : row = (allS (ls.map itL)).d2 := by omega
    have k9 := k7.ext F9
    have hend : a = (ls.length : Int) - 1 := by
      rcases hlast with ⟨h1, h2, h3⟩ | ⟨h1, m, ⟨m1, m2, m3⟩, rfl, rfl⟩
      · rcases Nat.eq_zero_or_pos ls.length with h | h
        · omega
        · exfalso
          obtain ⟨x0, hx0⟩ : ∃ x, ls[0]? = some x := ⟨_, List.getElem?_eq_getElem (by omega)⟩
          have t1 := szA_line hx (by omega) hx0
          have t2 := (hall (0 + 1) (by omega)).2
          have := (hx x0 (List.mem_of_getElem? hx0)).2
          rw [szA_z] at t1
          omega
      · rcases Nat.lt_or_ge (m + 1) ls.length with h | h
        · exfalso
          obtain ⟨x0, hx0⟩ : ∃ x, ls[m + 1]? = some x := ⟨_, List.getElem?_eq_getElem h⟩
          have t1 := szA_line hx (by omega) hx0
          have t2 := (hall (m + 1 + 1) (by omega)).2
          have := (hx x0 (List.mem_of_getElem? hx0)).2
          omega
        · omega
    rw [sFldA_ptr S.tfl_flow_Spot_Line, sLoad_cell (v := .int .i64 a) S.tcell_int (k9.cells.at 0 rfl), sLen_sl S.tel_L_flow_Line (hl.ext E9), sBin_sub _ _ ⟨by omega, by omega⟩, sBin_eql, sIf_pos hend]
    exact then6 E9
end Go.Proofs.Ytmlbaimdphillaa

/- The laws of cursors answer true: steps, one back. No conditions but that of memory. -/
import Derived.Test.YtmlbaimdphillaaV3
namespace Go.Proofs.Ytmlbaimdphillaa
open Go Go.Lift Go.RowKit

theorem seekBack_spec {w : World} {l : Value} {xs : List It} (hl : Sl w l 7 encT xs) (n : Int) : S.bodkinlaw06_SeekBack (Yes w) l (.int .i64 n) w := by
  unfold S.bodkinlaw06_SeekBack
  refine (R06.right_spec hl).mono ?_
  rintro u w1 ⟨E1, r, rfl, hr⟩
  rw [sUn_not, sIf_bool]
  refine ⟨fun _ => then7 E1, fun h => ?_⟩
  obtain ⟨hn, hx⟩ := hr.1 (by simpa using h)
  rw [sBin_lss, sIf_dec]
  refine ⟨fun _ => then7 E1, fun h0 => ?_⟩
  rw [sLen_sl S.tel_L_item_Item (hl.ext E1), sBin_gtr, sIf_dec]
  refine ⟨fun _ => then7 E1, fun h1 => ?_⟩
  obtain ⟨i, rfl⟩ : ∃ i : Nat, n = i := ⟨n.toNat, by omega⟩
  refine (newOk (hl.ext E1) hx (by omega)).mono ?_
  rintro u w2 ⟨e2, bt, rfl, ht⟩
  have E2 := E1.trans e2
  rw [sExtract_0, sExtract_1]
  refine (snew_spec ht).mono ?_
  rintro u w3 ⟨e3, bc, rfl, hbc, hk⟩
  rw [sBin_neq, sIf_not]
  refine ⟨fun h => absurd rfl h, fun _ => ?_⟩
  rw [sBin_ptr_eq S.tpt_P_seek_Cursor, Option.isNone_some, sIf_false]
  refine (sto_spec (i := 0) (vis := 0) (dim := 3) (v := i) (bias := 1) hk (ht.ext e3) hx (by omega)).mono ?_
  rintro u w4 hu
  rcases hu with ⟨h, _⟩ | ⟨_, hg4, rfl, m, vis, hf, hk4⟩
  · exact absurd (ask3 (by omega)) h
  obtain rfl := fnd3n (by omega) hf
  have e4 : Ext w2 w4 := e3.wr hg4 (by rintro _ ⟨⟩; exact hbc)
  rw [sBin_neq, sIf_not]
  refine ⟨fun h => absurd rfl h, fun _ => ?_⟩
  refine (sstart_spec hk4).mono ?_
  rintro u w5 ⟨e5, rfl⟩
  refine sVar (vs := encS (allS (xs.take m))) S.tze_item_Sum S.tsz_item_Sum (by decide) rfl rfl (encS_one _) fun b8 w6 hb8 hs6 e6 hk8 => ?_
  have F6 := e5.trans e6
  have hbc4 := hk4.lt
  have s5 := e5.size
  refine (sitem_spec (hk4.ext F6) (ht.ext (e4.trans F6)) (by omega)).mono ?_
  rintro u w7 ⟨e7, hu⟩
  have F7 := F6.trans e7
  rcases hu with ⟨hge, rfl⟩ | ⟨x, hx', rfl⟩
  · obtain rfl : m = xs.length := by omega
    rw [sExtract_0, sExtract_1]
    refine sVar (vs := encT zeroIt) S.tze_item_Item S.tsz_item_Item (by decide) rfl rfl (encT_ok.one _) fun b9 w8 hb9 hs8 e8 hk9 => ?_
    have F8 := F7.trans e8
    refine (snext_spec (hk4.ext F8) (ht.ext (e4.trans F8)) (by omega) (by omega)).mono ?_
    rintro u w9 hu
    rcases hu with ⟨_, e9, rfl⟩ | ⟨h, _⟩
    case inr => omega
    rw [sBin_boolNe Try.underlying4, beq_self_eq_true, Bool.not_true, sIf_false, sUn_not, Bool.not_false, sIf_true, sLen_sl S.tel_L_item_Item (hl.ext (E2.trans ((e4.trans F8).trans e9))), sBin_eql, sIf_pos rfl]
    exact then7 (E2.trans ((e4.trans F8).trans e9))
  · have hlt := (List.getElem?_eq_some_iff.1 hx').1
    rw [sExtract_0, sExtract_1]
    refine sVar (vs := encT x) S.tze_item_Item S.tsz_item_Item (by decide) rfl rfl (encT_ok.one _) fun b9 w8 hb9 hs8 e8 hk9 => ?_
    have F8 := F7.trans e8
    have s7 := F7.size
    refine (snext_spec (hk4.ext F8) (ht.ext (e4.trans F8)) (by omega) (by omega)).mono ?_
    rintro u w9 hu
    rcases hu with ⟨h, _⟩ | ⟨_, hg9, rfl, hk9'⟩
    · omega
    have e9 : Ext w2 w9 := (e4.trans F8).wr hg9 (by rintro _ ⟨⟩; exact hbc)
    rw [sBin_boolNe Try.underlying4, beq_self_eq_true, Bool.not_true, sIf_false, sUn_not, Bool.not_true, sIf_false]
    refine (sback_spec (xs := xs) hk9' (ht.ext e9) hx (by omega) (by omega)).mono ?_
    rintro u w10 hu
    rcases hu with ⟨h, _⟩ | ⟨_, hg10, rfl, vis', hk10⟩
    · omega
    rw [Nat.add_sub_cancel] at hk10
    have e10 : Ext w2 w10 := e9.wr hg10 (by rintro _ ⟨⟩; exact hbc)
    have n8 : some b8 ≠ some bc := by intro e; cases e; omega
    have n9 : some b9 ≠ some bc := by intro e; cases e; omega
    have k8 := (((hk8.ext e7).ext e8).wr hg9 n8).wr hg10 n8
    have k9 := (hk9.wr hg9 n9).wr hg10 n9
    refine (sitem_spec hk10 (ht.ext e10) (by omega)).mono ?_
    rintro u w11 ⟨e11, hu⟩
    rcases hu with ⟨h, _⟩ | ⟨x2, hx2, rfl⟩
    · omega
    rw [hx'] at hx2; cases hx2
    rw [sExtract_0, sExtract_1]
    refine sVar (vs := encT x) S.tze_item_Item S.tsz_item_Item (by decide) rfl rfl (encT_ok.one _) fun b12 w12 hb12 hs12 e12 hk12 => ?_
    have F12 := e11.trans e12
    refine DrawS.ext ?_
    have E : Ext w12 w12.drew := (Ext.refl w12).drew
    obtain ⟨r2, hr1, hr2, _⟩ := items_eq (cx := false) (cy := false) x x
    rw [sIf_true, sIf_true, stillS_agg (cs := encT x) S.tagg_item_Item (k9.ext F12).cells rfl E, stillS_agg (cs := encT x) S.tagg_item_Item hk12.cells rfl E, stillS_eq (fun w1 h1 K => hr2 w1 K) E, hr1.2 rfl, sIf_true, stillS_agg (cs := encS (allS (xs.take m))) S.tagg_item_Sum (k8.ext F12).cells rfl E]
    refine (sstart_spec ((hk10.ext F12).ext E)).mono ?_
    rintro u w13 ⟨e13, rfl⟩
    have G13 := E.trans e13
    refine ⟨G13, ?_⟩
    obtain ⟨r4, hr4, hr5, _⟩ := sums_eq (cx := false) (cy := false) (allS (xs.take m)) (allS (xs.take m))
    rw [stillS_eq (fun w1 h1 K => hr5 w1 K) G13, hr4.2 rfl, sIf_true]
    refine (third_spec _).mono ?_
    rintro u w14 ⟨e14, rfl⟩
    exact ⟨G13.trans e14, (E2.trans (e10.trans (F12.trans G13))).trans e14, rfl⟩

/-- The document's list, apart from both cursors. -/
def Rr (w : World) (s : SV) (xs : List It) (bc bw : Nat) : Prop := ∃ base, Row w base S.T.bodkinref04_Item 7 (sv s) encT xs ∧ (sv s).ownBlock ≠ some bc ∧ (sv s).ownBlock ≠ some bw
theorem Rr.ext {w w' : World} {s : SV} {xs : List It} {bc bw : Nat} (h : Rr w s xs bc bw) (e : Ext w w') : Rr w' s xs bc bw := by
  obtain ⟨b, h1, h2⟩ := h; exact ⟨b, h1.ext e, h2⟩
theorem Rr.wc {w w' : World} {s : SV} {xs : List It} {bc bw : Nat} (h : Rr w s xs bc bw) (g : w.grownBy w' (some bc)) : Rr w' s xs bc bw := by
  obtain ⟨b, h1, h2⟩ := h; exact ⟨b, h1.wr g (.inr h2.1), h2⟩
theorem Rr.ww {w w' : World} {s : SV} {xs : List It} {bc bw : Nat} (h : Rr w s xs bc bw) (g : w.grownBy w' (some bw)) : Rr w' s xs bc bw := by
  obtain ⟨b, h1, h2⟩ := h; exact ⟨b, h1.wr g (.inr h2.2), h2⟩
theorem Rr.sl {w : World} {s : SV} {xs : List It} {bc bw : Nat} (h : Rr w s xs bc bw) : Sl w (sv s) 7 encT xs := by
  obtain ⟨b, h1, h2⟩ := h; exact h1.sl encT_ok
/-- Both cursors, at one place. -/
structure Bth (w0 w : World) (t : Value) (s : SV) (xs : List It) (bc bw i : Nat) : Prop where
  e : Ext w0 w
  cu : ∃ vis : Nat, Blk w bc (encCu t i (allS (xs.take i)) vis)
  cr : Blk w bw (encCr s i)
  rr : Rr w s xs bc bw
  ne : bc ≠ bw
  bc0 : w0.heap.size ≤ bc
  bw0 : w0.heap.size ≤ bw
  le : i ≤ xs.length
theorem Bth.ext {w0 w w' : World} {t : Value} {s : SV} {xs : List It} {bc bw i : Nat} (h : Bth w0 w t s xs bc bw i) (e : Ext w w') : Bth w0 w' t s xs bc bw i :=
  ⟨h.e.trans e, by obtain ⟨vis, hk⟩ := h.cu; exact ⟨vis, hk.ext e⟩, h.cr.ext e, h.rr.ext e, h.ne, h.bc0, h.bw0, h.le⟩
section
variable {w0 w : World} {t : Value} {s : SV} {xs : List It} {bc bw i : Nat}
theorem agrees_spec (ht : Tp w0 t xs) (hx : ∀ x ∈ xs, ItOk x) (hn : xs.length ≤ 1000000) (hb : Bth w0 w t s xs bc bw i) :
    sCall Try.prog S.bodkinlaw06_agrees.n [.pointer (some ⟨bc, 0, none⟩), .pointer (some ⟨bw, 0, none⟩)] w (Yes w) := by
  refine S.bodkinlaw06_agrees.call ?_
  unfold S.bodkinlaw06_agrees
  have hE := hb.e
  have hi := hb.le
  obtain ⟨vis, hk⟩ := hb.cu
  have fin : ∀ w1, Ext w w1 → S.bodkinlaw06_agrees_J1 (Yes w) (.pointer (some ⟨bc, 0, none⟩)) (.pointer (some ⟨bw, 0, none⟩)) w1 := by
    intro w1 e1
    unfold S.bodkinlaw06_agrees_J1
    refine (sstart_spec (hk.ext e1)).mono ?_
    rintro u w2 ⟨e2, rfl⟩
    refine (R06.refSum_spec _).mono ?_
    rintro u w3 ⟨e3, rfl⟩
    have F3 := (e1.trans e2).trans e3
    refine (kstart_spec (hb.cr.ext F3) (hb.rr.ext F3).sl hx hn hi).mono ?_
    rintro u w4 ⟨e4, rfl⟩
    have F4 := F3.trans e4
    obtain ⟨r, hr1, hr2, _⟩ := rsums_eq (cx := false) (cy := false) (allS (xs.take i)) (allS (xs.take i))
    rw [hr2, hr1.2 rfl, sIf_true]
    refine (send_spec (hk.ext F4) (ht.ext (hE.trans F4)) hn hi).mono ?_
    rintro u w5 ⟨e5, rfl⟩
    refine (R06.refSum_spec _).mono ?_
    rintro u w6 ⟨e6, rfl⟩
    have F6 := (F4.trans e5).trans e6
    refine (kend_spec (hb.cr.ext F6) (hb.rr.ext F6).sl hx hn hi).mono ?_
    rintro u w7 ⟨e7, rfl⟩
    obtain ⟨r, hr1, hr2, _⟩ := rsums_eq (cx := false) (cy := false) (allS (xs.take (i + 1))) (allS (xs.take (i + 1)))
    rw [hr2, hr1.2 rfl]
    exact ⟨F6.trans e7, rfl⟩
  refine (sitem_spec hk (ht.ext hE) hn).mono ?_
  rintro u w1 ⟨e1, hu⟩
  rcases hu with ⟨hge, rfl⟩ | ⟨x, hxi, rfl⟩
  · rw [sExtract_0, sExtract_1]
    refine sVar (vs := encT zeroIt) S.tze_item_Item S.tsz_item_Item (by decide) rfl rfl (encT_ok.one _) fun b5 w2 hb5 hs2 e2 hk5 => ?_
    have F2 := e1.trans e2
    have hc2 := hb.cr.ext F2
    refine JoinS.intro (fun us w' => us = [] ∧ Ext w w') ?_ (by rintro us vs w3 ⟨rfl, e3⟩; exact fin w3 e3)
    refine DrawS.ext ?_
    have E : Ext w2 w2.drew := (Ext.refl w2).drew
    have hlt : decide ((i : Int) < xs.length) = false := by rw [decide_eq_false_iff_not]; omega
    obtain ⟨r2, hr1, _, hr3⟩ := items_eq (cx := false) (cy := false) zeroIt zeroIt
    rw [sNil_ptr, stillS_eq (fun w1 h1 K => sFldA_ptr S.tfl_bodkinref06_Cursor_At) E, stillS_cell S.tcell_int (hc2.cells.at 1 rfl) E, sNil_ptr, stillS_eq (fun w1 h1 K => sFldA_ptr S.tfl_bodkinref06_Cursor_L) E, stillS_cell S.tcell_L_bodkinref04_Item (hc2.cells.at 0 rfl) E,
      stillS_eq (fun w1 h1 K => sLen_sl S.tel_L_bodkinref04_Item (hb.rr.ext (F2.trans h1)).sl) E, stillS_eq (fun w1 h1 K => sBin_lss _ _) E, hlt, stillS_eq (fun w1 h1 K => sBin_boolNe Try.underlying4 _ _) E, beq_self_eq_true, Bool.not_true, sIf_false, sIf_false,
      stillS_eq (fun w1 h1 K => sUn_not false) E, Bool.not_false, sIf_true, stillS_agg (cs := encT zeroIt) S.tagg_item_Item hk5.cells rfl E, stillS_eq (fun w1 h1 K => sBuild_of (cs := encT zeroIt) (lp := []) S.tze_item_Item S.tpl_item_Item rfl rfl) E,
      stillS_eq (fun w1 h1 K => hr3 w1 K) E, hr1.2 rfl, Bool.not_true, sIf_false]
    exact ⟨rfl, F2.trans E⟩
  · have hlt' := (List.getElem?_eq_some_iff.1 hxi).1
    rw [sExtract_0, sExtract_1]
    refine sVar (vs := encT x) S.tze_item_Item S.tsz_item_Item (by decide) rfl rfl (encT_ok.one _) fun b5 w2 hb5 hs2 e2 hk5 => ?_
    have F2 := e1.trans e2
    have hc2 := hb.cr.ext F2
    have hl2 := (hb.rr.ext F2).sl
    obtain ⟨b1, o1, hel1, hc1⟩ := hl2.el hxi
    refine JoinS.intro (fun us w' => us = [] ∧ Ext w w') ?_ (by rintro us vs w3 ⟨rfl, e3⟩; exact fin w3 e3)
    refine DrawS.ext ?_
    have E : Ext w2 w2.drew := (Ext.refl w2).drew
    have hlt : decide ((i : Int) < xs.length) = true := by rw [decide_eq_true_eq]; omega
    obtain ⟨r2, hr1, _, hr3⟩ := ritems_eq (cx := false) (cy := false) x x
    rw [sNil_ptr, stillS_eq (fun w1 h1 K => sFldA_ptr S.tfl_bodkinref06_Cursor_At) E, stillS_cell S.tcell_int (hc2.cells.at 1 rfl) E, sNil_ptr, stillS_eq (fun w1 h1 K => sFldA_ptr S.tfl_bodkinref06_Cursor_L) E, stillS_cell S.tcell_L_bodkinref04_Item (hc2.cells.at 0 rfl) E,
      stillS_eq (fun w1 h1 K => sLen_sl S.tel_L_bodkinref04_Item (hl2.ext h1)) E, stillS_eq (fun w1 h1 K => sBin_lss _ _) E, hlt, stillS_eq (fun w1 h1 K => sBin_boolNe Try.underlying4 _ _) E, beq_self_eq_true, Bool.not_true, sIf_false, sIf_true,
      stillS_agg (cs := encT x) S.tagg_item_Item hk5.cells rfl E, sNil_ptr, stillS_eq (fun w1 h1 K => sFldA_ptr S.tfl_bodkinref06_Cursor_L) E, stillS_cell S.tcell_L_bodkinref04_Item (hc2.cells.at 0 rfl) E, sNil_ptr, stillS_eq (fun w1 h1 K => sFldA_ptr S.tfl_bodkinref06_Cursor_At) E, stillS_cell S.tcell_int (hc2.cells.at 1 rfl) E,
      stillS_eq (fun w1 h1 K => sIdxA_sl S.tel_L_bodkinref04_Item S.tsz_bodkinref04_Item (by omega) (hl2.ext h1) hxi rfl) E, hel1, stillS_agg (cs := encT x) S.tagg_bodkinref04_Item hc1 rfl E]
    refine (R06.ref_spec x).mono ?_
    rintro u w3 ⟨e3, rfl⟩
    have G3 := E.trans e3
    refine ⟨G3, ?_⟩
    rw [stillS_eq (fun w1 h1 K => hr3 w1 K) G3, hr1.2 rfl, Bool.not_true, sIf_false, stillS_eq (fun w1 h1 K => sUn_not true) G3, Bool.not_true, sIf_false]
    exact ⟨rfl, F2.trans G3⟩

theorem does_spec (ht : Tp w0 t xs) (hx : ∀ x ∈ xs, ItOk x) (hn : xs.length ≤ 1000000) (hb : Bth w0 w t s xs bc bw i) (p : Sks) :
    sCall Try.prog S.bodkinlaw06_does.n [.pointer (some ⟨bc, 0, none⟩), .pointer (some ⟨bw, 0, none⟩), .agg (encSk p).toArray] w fun u w' => u = .bool true ∧ ∃ i', Bth w0 w' t s xs bc bw i' := by
  refine S.bodkinlaw06_does.call ?_
  unfold S.bodkinlaw06_does
  refine sBox_new (cs := encSk p) rfl fun b5 w1 hb5 hs1 e1 hk5 => ?_
  have hb1 := hb.ext e1
  have hE1 := hb1.e
  have hi := hb.le
  obtain ⟨vis, hk1⟩ := hb1.cu
  have hcr1 := hb1.cr
  have hr1 := hb1.rr
  have ne1 := hb.ne; have q1 := hb.bc0; have q2 := hb.bw0
  have hbcl : bc < w1.heap.size := hk1.lt
  have hne5 : b5 ≠ bc ∧ b5 ≠ bw := by
    obtain ⟨_, hk⟩ := hb.cu
    have := hk.lt; have := hb.cr.lt
    omega
  rw [sFldA_ptr S.tfl_bodkinlaw06_Step_What, sLoad_cell S.tcell_int (hk5.cells.at 0 rfl)]
  refine JoinS.intro (fun us w' => w' = w1 ∧ ∃ q : Bool, us = [.bool q] ∧ (q = true ↔ p.1 = 0 ∨ p.1 = 1)) ?_ ?_
  · rw [sBin_eql, sIf_dec]
    refine ⟨fun h => ⟨rfl, _, rfl, by simp [h]⟩, fun h => ?_⟩
    rw [sBin_eql]
    exact ⟨rfl, _, rfl, by simp [h]⟩
  rintro us vs w1 ⟨rfl, q, rfl, hq⟩
  unfold S.bodkinlaw06_does_J1
  rw [Go.Lift.hd, sIf_bool]
  refine ⟨fun hT => ?_, fun hF => ?_⟩
  · rw [sFldA_ptr S.tfl_bodkinlaw06_Step_Dim, sLoad_cell S.tcell_int (hk5.cells.at 1 rfl), sFldA_ptr S.tfl_bodkinlaw06_Step_V, sLoad_cell S.tcell_int (hk5.cells.at 2 rfl), sFldA_ptr S.tfl_bodkinlaw06_Step_Bias, sLoad_cell S.tcell_int (hk5.cells.at 3 rfl)]
    refine (sto_spec (dim := p.2.1) (v := p.2.2.1) (bias := p.2.2.2) hk1 (ht.ext hE1) hx hn).mono ?_
    rintro u w2 hu
    have hgo : ∀ (e : Int) (k5 : Blk w2 b5 (encSk p)) (hcr2 : Blk w2 bw (encCr s i)) (E2 : Ext w0 w2) (hr2 : Rr w2 s xs bc bw), u = .int .i64 e → ((e = 1 ∧ ¬ Ask xs p.2.1 p.2.2.1 p.2.2.2 ∧ Ext w1 w2) ∨ (e = 0 ∧ Ask xs p.2.1 p.2.2.1 p.2.2.2 ∧ ∃ n vis' : Nat, Fnd xs p.2.1 p.2.2.1 p.2.2.2 n ∧ Blk w2 bc (encCu t n (allS (xs.take n)) vis'))) →
        sFldA Try.prog S.T.bodkinlaw06_Step (.pointer (some ⟨b5, 0, none⟩)) 1 w2 fun x25 w => sLoad Try.prog S.T.int x25 w fun x26 w => sFldA Try.prog S.T.bodkinlaw06_Step (.pointer (some ⟨b5, 0, none⟩)) 2 w fun x27 w => sLoad Try.prog S.T.int x27 w fun x28 w => sFldA Try.prog S.T.bodkinlaw06_Step (.pointer (some ⟨b5, 0, none⟩)) 3 w fun x29 w => sLoad Try.prog S.T.int x29 w fun x30 w =>
          sBuild Try.prog S.T.A2_int [(0, x28), (1, x30)] w fun x31 w => sCall Try.prog S.bodkinref06_Cursor_To.n [.pointer (some ⟨bw, 0, none⟩), x26, x31] w fun x32 w => sBin Try.prog .eql S.T.api_Errno false true u (.int .i64 0) w fun x34 w => sBin Try.prog .eql S.T.bool false false x34 x32 w fun x36 w =>
          sIf x36 (sBin Try.prog .eql S.T.api_Errno false true u (.int .i64 1) w fun x39 w => sUn Try.prog .not x32 w fun x41 w => sBin Try.prog .eql S.T.bool false false x39 x41 w fun x42 w => x42 = .bool true ∧ ∃ i', Bth w0 w t s xs bc bw i') ((.bool false : Value) = .bool true ∧ ∃ i', Bth w0 w t s xs bc bw i') := by
      intro e k5 hcr2 E2 hr2 hu hor
      subst hu
      rw [sFldA_ptr S.tfl_bodkinlaw06_Step_Dim, sLoad_cell S.tcell_int (k5.cells.at 1 rfl), sFldA_ptr S.tfl_bodkinlaw06_Step_V, sLoad_cell S.tcell_int (k5.cells.at 2 rfl), sFldA_ptr S.tfl_bodkinlaw06_Step_Bias, sLoad_cell S.tcell_int (k5.cells.at 3 rfl),
        sBuild_of (cs := encA2 p.2.2.1 p.2.2.2) (lp := [(0, [.int .i64 p.2.2.1]), (1, [.int .i64 p.2.2.2])]) S.tze_A2_int S.tpl_A2_int rfl rfl]
      refine (kto_spec (dim := p.2.1) (v := p.2.2.1) (bias := p.2.2.2) hcr2 hr2.sl hx hn).mono ?_
      rintro u w3 hu3
      rcases hor with ⟨rfl, hna, e2⟩ | ⟨rfl, ha, n, vis', hf, hk2⟩
      · rcases hu3 with ⟨_, e3, rfl⟩ | ⟨h, _⟩
        case inr => exact absurd h hna
        rw [sBin_eql, sBin_boolEq Try.underlying4, (show (decide ((1 : Int) = 0) == false) = true from rfl), sIf_true, sBin_eql, sUn_not, sBin_boolEq Try.underlying4]
        exact ⟨rfl, i, (hb1.ext e2).ext e3⟩
      · rcases hu3 with ⟨h, _⟩ | ⟨_, hg3, rfl, n', hf', hk3⟩
        · exact absurd ha h
        obtain rfl := hf.uniq hf'
        rw [sBin_eql, sBin_boolEq Try.underlying4, (show (decide ((0 : Int) = 0) == true) = true from rfl), sIf_true, sBin_eql, sUn_not, sBin_boolEq Try.underlying4]
        exact ⟨rfl, n, E2.wr hg3 (by rintro _ ⟨⟩; exact q2), ⟨vis', hk2.wr hg3 (by intro e; cases e; exact ne1 rfl)⟩, hk3, hr2.ww hg3, ne1, q1, q2, hf.le⟩
    rcases hu with ⟨h, e2, rfl⟩ | ⟨h, hg2, rfl, n, vis', hf, hk2⟩
    · exact hgo 1 (hk5.ext e2) (hcr1.ext e2) (hE1.trans e2) (hr1.ext e2) rfl (.inl ⟨rfl, h, e2⟩)
    · exact hgo 0 (hk5.wr hg2 (by intro e; cases e; exact hne5.1 rfl)) (hcr1.wr hg2 (by intro e; cases e; exact ne1 rfl)) (hE1.wr hg2 (by rintro _ ⟨⟩; exact q1)) (hr1.wc hg2) rfl (.inr ⟨rfl, h, n, vis', hf, hk2⟩)
  refine JoinS.intro (fun us w' => w' = w1 ∧ ∃ q : Bool, us = [.bool q] ∧ (q = true ↔ p.1 = 2 ∨ p.1 = 3)) ?_ ?_
  · rw [sBin_eql, sIf_dec]
    refine ⟨fun h => ⟨rfl, _, rfl, by simp [h]⟩, fun h => ?_⟩
    rw [sBin_eql]
    exact ⟨rfl, _, rfl, by simp [h]⟩
  rintro us vs w1 ⟨rfl, q2', rfl, hq2⟩
  unfold S.bodkinlaw06_does_J2
  rw [Go.Lift.hd, sIf_bool]
  refine ⟨fun hT => ?_, fun hF2 => ?_⟩
  · refine DrawS.ext ?_
    have E : Ext w1 w1.drew := (Ext.refl w1).drew
    have hl1 := hr1.sl
    rw [sNil_ptr, stillS_eq (fun w1 h1 K => sFldA_ptr S.tfl_bodkinref06_Cursor_At) E, stillS_cell S.tcell_int (hcr1.cells.at 1 rfl) E, sNil_ptr, stillS_eq (fun w1 h1 K => sFldA_ptr S.tfl_bodkinref06_Cursor_L) E, stillS_cell S.tcell_L_bodkinref04_Item (hcr1.cells.at 0 rfl) E,
      stillS_eq (fun w1' h1 K => sLen_sl S.tel_L_bodkinref04_Item (hl1.ext h1)) E, stillS_eq (fun w1 h1 K => sBin_lss _ _) E]
    refine JoinS.intro (fun us w' => us = [] ∧ ((i < xs.length ∧ w1.grownBy w' (some bw) ∧ Blk w' bw (encCr s (i + 1 : Nat))) ∨ (i = xs.length ∧ Ext w1 w'))) ?_ ?_
    · rw [sIf_dec]
      refine ⟨fun h => ?_, fun h => ⟨rfl, .inr ⟨by omega, E⟩⟩⟩
      have hcd := hcr1.ext E
      rw [sNil_ptr, sFldA_ptr S.tfl_bodkinref06_Cursor_At, sLoad_cell S.tcell_int (hcd.cells.at 1 rfl), sBin_add _ _ ⟨by omega, by omega⟩, sNil_ptr, sFldA_ptr S.tfl_bodkinref06_Cursor_At]
      refine sStore_blk S.tsz_int (by decide) hcd (vs := [.int .i64 ((i + 1 : Nat) : Int)]) (by simp; rfl) rfl (by simp [encCr]) (by simp; rfl) fun w8 hs8 hg8 hk8 => ?_
      exact ⟨rfl, .inl ⟨by omega, grown_trans (grown_of_ext E _) hg8, hk8⟩⟩
    rintro us vs w2 ⟨rfl, hor⟩
    unfold S.bodkinlaw06_does_J3
    rcases hor with ⟨hlt, hg2, hk2⟩ | ⟨rfl, e2⟩
    · have E2 : Ext w0 w2 := hE1.wr hg2 (by rintro _ ⟨⟩; exact q2)
      refine (snext_spec (hk1.wr hg2 (by intro e; cases e; exact ne1 rfl)) (ht.ext E2) hn hi).mono ?_
      rintro u w3 hu
      rcases hu with ⟨h, _⟩ | ⟨_, hg3, rfl, hk3⟩
      · omega
      have hd : decide ((i : Int) < xs.length) = true := by rw [decide_eq_true_eq]; omega
      rw [hd, sBin_boolEq Try.underlying4]
      exact ⟨rfl, i + 1, E2.wr hg3 (by rintro _ ⟨⟩; exact q1), ⟨vis, hk3⟩, hk2.wr hg3 (by intro e; cases e; exact ne1 rfl), (hr1.ww hg2).wc hg3, ne1, q1, q2, by omega⟩
    · refine (snext_spec (hk1.ext e2) (ht.ext (hE1.trans e2)) hn hi).mono ?_
      rintro u w3 hu
      rcases hu with ⟨_, e3, rfl⟩ | ⟨h, _⟩
      case inr => omega
      have hd : decide ((xs.length : Int) < xs.length) = false := by rw [decide_eq_false_iff_not]; omega
      rw [hd, sBin_boolEq Try.underlying4]
      exact ⟨rfl, _, (hb1.ext e2).ext e3⟩
  rw [sBin_eql, sIf_dec]
  refine ⟨fun h4 => ?_, fun h4 => ?_⟩
  · rw [sNil_ptr, sFldA_ptr S.tfl_bodkinref06_Cursor_At, sLoad_cell S.tcell_int (hcr1.cells.at 1 rfl), sBin_gtr]
    refine JoinS.intro (fun us w' => us = [] ∧ ((0 < i ∧ w1.grownBy w' (some bw) ∧ Blk w' bw (encCr s (i - 1 : Nat))) ∨ (i = 0 ∧ Ext w1 w'))) ?_ ?_
    · rw [sIf_dec]
      refine ⟨fun h => ?_, fun h => ⟨rfl, .inr ⟨by omega, Ext.refl _⟩⟩⟩
      rw [sNil_ptr, sFldA_ptr S.tfl_bodkinref06_Cursor_At, sLoad_cell S.tcell_int (hcr1.cells.at 1 rfl), sBin_sub _ _ ⟨by omega, by omega⟩, sNil_ptr, sFldA_ptr S.tfl_bodkinref06_Cursor_At]
      have hm : (i : Int) - 1 = ((i - 1 : Nat) : Int) := by omega
      rw [hm]
      refine sStore_blk S.tsz_int (by decide) hcr1 (vs := [.int .i64 ((i - 1 : Nat) : Int)]) rfl rfl (by simp [encCr]) (by simp; rfl) fun w8 hs8 hg8 hk8 => ?_
      exact ⟨rfl, .inl ⟨by omega, hg8, hk8⟩⟩
    rintro us vs w2 ⟨rfl, hor⟩
    unfold S.bodkinlaw06_does_J4
    rcases hor with ⟨hlt, hg2, hk2⟩ | ⟨rfl, e2⟩
    · have E2 : Ext w0 w2 := hE1.wr hg2 (by rintro _ ⟨⟩; exact q2)
      refine (sback_spec (xs := xs) (hk1.wr hg2 (by intro e; cases e; exact ne1 rfl)) (ht.ext E2) hx hn hi).mono ?_
      rintro u w3 hu
      rcases hu with ⟨h, _⟩ | ⟨_, hg3, rfl, vis', hk3⟩
      · omega
      have hd : decide ((0 : Int) < i) = true := by rw [decide_eq_true_eq]; omega
      rw [hd, sBin_boolEq Try.underlying4]
      exact ⟨rfl, i - 1, E2.wr hg3 (by rintro _ ⟨⟩; exact q1), ⟨vis', hk3⟩, hk2.wr hg3 (by intro e; cases e; exact ne1 rfl), (hr1.ww hg2).wc hg3, ne1, q1, q2, by omega⟩
    · refine (sback_spec (xs := xs) (hk1.ext e2) (ht.ext (hE1.trans e2)) hx hn hi).mono ?_
      rintro u w3 hu
      rcases hu with ⟨_, e3, rfl⟩ | ⟨h, _⟩
      case inr => omega
      rw [sBin_boolEq Try.underlying4]
      exact ⟨rfl, _, (hb1.ext e2).ext e3⟩
  rw [sBin_eql, sIf_dec]
  refine ⟨fun h5 => ?_, fun h5 => ⟨rfl, i, hb1⟩⟩
  have E : Ext w1 w1.drew := (Ext.refl w1).drew
  have C0 : Blk w1.drew b5 (encSk p) := hk5.ext E
  refine DrawS.intro (fun w' => Blk w' b5 (encSk p)) C0 ?_
  rw [stillC_eq (fun w1 h1 K => sFldA_ptr S.tfl_bodkinlaw06_Step_Dim) C0, stillC_eq (fun w1 h1 K => sLoad_cell S.tcell_int (h1.cells.at 1 rfl)) C0, stillC_eq (fun w1 h1 K => sFldA_ptr S.tfl_bodkinlaw06_Step_V) C0, stillC_eq (fun w1 h1 K => sLoad_cell S.tcell_int (h1.cells.at 2 rfl)) C0,
    stillC_eq (fun w1 h1 K => sFldA_ptr S.tfl_bodkinlaw06_Step_Dim) C0, stillC_eq (fun w1 h1 K => sLoad_cell S.tcell_int (h1.cells.at 1 rfl)) C0, stillC_eq (fun w1 h1 K => sFldA_ptr S.tfl_bodkinlaw06_Step_V) C0, stillC_eq (fun w1 h1 K => sLoad_cell S.tcell_int (h1.cells.at 2 rfl)) C0]
  have E1 := hE1.trans E
  refine (stake_spec (xs := xs) (dim := p.2.1) (v := p.2.2.1) (hk1.ext E) (fun w' h => ht.ext (E1.wr h (by rintro _ ⟨⟩; exact q1))) hn hi).mono ?_
  rintro u w2 ⟨hg2, j, hk2, hs2, hij, hjl, hor⟩
  have C2 : Blk w2 b5 (encSk p) := C0.wr hg2 (by intro e; cases e; exact hne5.1 rfl)
  refine ⟨C2, ?_⟩
  have E2 : Ext w0 w2 := E1.wr hg2 (by rintro _ ⟨⟩; exact q1)
  have hcr2 := (hcr1.ext E).wr hg2 (by intro e; cases e; exact ne1 rfl)
  have hbw2 := hcr2.lt
  have hr2 := (hr1.ext E).wc hg2
  refine (R06.refs_row hs2 (by rw [List.length_drop, List.length_take]; omega)).mono ?_
  rintro q3 w3 ⟨e3, hq3⟩
  have C3 := C2.ext e3
  refine ⟨C3, ?_⟩
  have E3 := E2.trans e3
  refine (ktake_spec (xs := xs) (dim := p.2.1) (v := p.2.2.1) (hcr2.ext e3) (fun w' h => ((hr2.ext e3).ww h).sl) hx hn hi).mono ?_
  rintro u2 w4 ⟨hg4, j2, hk4, hs4, _, hjl2, hor2⟩
  have C4 : Blk w4 b5 (encSk p) := C3.wr hg4 (by intro e; cases e; exact hne5.2 rfl)
  refine ⟨C4, ?_⟩
  have hjj : j = j2 := by
    rcases hor with ⟨hd, rfl⟩ | ⟨d0, d3, htk⟩ <;> rcases hor2 with ⟨hd2, rfl⟩ | ⟨d02, d32, htk2⟩
    · rfl
    · exact absurd ⟨d02, d32⟩ hd
    · exact absurd ⟨d0, d3⟩ hd2
    · exact htk.uniq htk2
  subst hjj
  have hq4 := hq3.wr hg4 (row_ne' hq3 hbw2)
  refine (rsame_spec (hq4.sl encT_ok) hs4).mono ?_
  rintro u3 w5 ⟨e5, r, rfl, hr⟩
  refine ⟨C4.ext e5, ?_⟩
  rw [hr.2 rfl]
  exact ⟨rfl, j, (E3.wr hg4 (by rintro _ ⟨⟩; exact q2)).trans e5, ⟨vis, ((hk2.ext e3).wr hg4 (by intro e; cases e; exact ne1 rfl)).ext e5⟩, hk4.ext e5, ((hr2.ext e3).ww hg4).ext e5, ne1, q1, q2, hjl⟩
end

theorem seekSteps_spec {w : World} {l m : Value} {xs : List It} {ps : List Sks} (hl : Sl w l 7 encT xs) (hm : Sl w m 4 encSk ps) : S.bodkinlaw06_SeekSteps (Yes w) l m w := by
  unfold S.bodkinlaw06_SeekSteps
  refine (R06.right_spec hl).mono ?_
  rintro u w1 ⟨E1, r, rfl, hr⟩
  rw [sUn_not, sIf_bool]
  refine ⟨fun _ => then7 E1, fun h => ?_⟩
  obtain ⟨hn, hx⟩ := hr.1 (by simpa using h)
  rw [sLen_sl S.tel_L_bodkinlaw06_Step (hm.ext E1), sBin_gtr, sIf_dec]
  refine ⟨fun _ => then7 E1, fun h40 => ?_⟩
  refine (newOk (hl.ext E1) hx (by omega)).mono ?_
  rintro u w2 ⟨e2, bt, rfl, ht⟩
  have E2 := E1.trans e2
  rw [sExtract_0, sExtract_1]
  refine (snew_spec ht).mono ?_
  rintro u w3 ⟨e3, bc, rfl, hbc, hk⟩
  rw [sBin_neq, sIf_not]
  refine ⟨fun h => absurd rfl h, fun _ => ?_⟩
  rw [sBin_ptr_eq S.tpt_P_seek_Cursor, Option.isNone_some, sIf_false]
  have E3 := E2.trans e3
  refine (R06.refs_row (hl.ext E3) (by omega)).mono ?_
  rintro q w4 ⟨e4, hq⟩
  have s3 := hk.lt
  obtain ⟨sq, rfl⟩ := (hq.sl encT_ok).sv
  rw [sBuild_of (cs := encCr sq 0) (lp := [(0, [sv sq])]) S.tze_bodkinref06_Cursor S.tpl_bodkinref06_Cursor rfl rfl]
  refine sBox_new (cs := encCr sq 0) rfl fun bw w5 hbw hs5 e5 hkw => ?_
  have F5 := e4.trans e5
  have s23 := e3.size
  have s34 := e4.size
  have hrr : Rr w5 sq xs bc bw := ⟨_, hq.ext e5, by
    cases h : (sv sq).ownBlock with
    | none => simp
    | some g => intro e; cases e; have := (hq.lt bc h).1; omega, by
    cases h : (sv sq).ownBlock with
    | none => simp
    | some g => intro e; cases e; have := (hq.lt bw h).2; omega⟩
  have hb0 : Bth w2 w5 (.pointer (some ⟨bt, 0, none⟩)) sq xs bc bw 0 := ⟨e3.trans F5, ⟨0, hk.ext F5⟩, hkw, hrr, by omega, hbc, by omega, by omega⟩
  rw [sLen_sl S.tel_L_bodkinlaw06_Step (hm.ext (E2.trans hb0.e))]
  refine LoopS.intro (fun us w6 => ∃ j i : Nat, us = [.int .i64 j] ∧ j ≤ ps.length ∧ Bth w2 w6 (.pointer (some ⟨bt, 0, none⟩)) sq xs bc bw i)
    (fun us _ => match us with | [.int _ a] => (ps.length - a).toNat | _ => 0) ⟨0, 0, rfl, by omega, hb0⟩ ?_
  rintro us vs w6 ⟨j, i, rfl, hj, hb⟩
  unfold S.bodkinlaw06_SeekSteps_L1
  have hE := hb.e
  rw [Go.Lift.hd, sBin_lss, sIf_dec]
  refine ⟨fun hlt => ?_, fun hge => ?_⟩
  · obtain ⟨p, hp⟩ : ∃ x, ps[j]? = some x := ⟨_, List.getElem?_eq_getElem (by omega)⟩
    obtain ⟨b1, o1, hel, hc⟩ := (hm.ext (E2.trans hE)).el hp
    rw [sIdxA_sl S.tel_L_bodkinlaw06_Step S.tsz_bodkinlaw06_Step (by omega) (hm.ext (E2.trans hE)) hp rfl, hel, sLoad_agg S.tagg_bodkinlaw06_Step hc rfl]
    refine sVar S.tze_bodkinlaw06_Step S.tsz_bodkinlaw06_Step (by decide) rfl rfl (encSk_ok.one p) fun b10 w7 hb10 hs7 e7 hk10 => ?_
    refine (agrees_spec ht hx (by omega) (hb.ext e7)).mono ?_
    rintro u w8 ⟨e8, rfl⟩
    rw [sUn_not, Bool.not_true, sIf_false, sLoad_agg (cs := encSk p) S.tagg_bodkinlaw06_Step (hk10.ext e8).cells rfl]
    refine (does_spec ht hx (by omega) (hb.ext (e7.trans e8)) p).mono ?_
    rintro u w9 ⟨rfl, i', hb'⟩
    rw [sUn_not, Bool.not_true, sIf_false, sBin_add _ _ ⟨by omega, by omega⟩]
    exact ⟨⟨j + 1, i', by simp, by omega, hb'⟩, by simp only []; omega⟩
  · refine (agrees_spec ht hx (by omega) hb).mono ?_
    rintro u w8 ⟨e8, rfl⟩
    rw [sIf_true]
    exact then7 (E2.trans (hE.trans e8))
end Go.Proofs.Ytmlbaimdphillaa

/- What 'HistorySteps' answers: true. No conditions. -/
import Derived.Test.YtphpegpbkapieaaW7
namespace Go.Proofs.Ytphpegpbkapieaa
open Go Go.Lift Go.RowKit

theorem Hist.wr {w w' : World} {base b c : Nat} {D U : List (List Ed × List Ed)} (h : Hist w base b D U) (g : Only c w w') (hc : c < base) (hbc : b ≠ c) : Hist w' base b D U := by
  obtain ⟨x0, x1, ds, us, h⟩ := h
  have st : ∀ {ds : List (SV × SV)} {D : List (List Ed × List Ed)}, Steps w base ds D → Steps w' base ds D := fun hs =>
    ⟨hs.1, fun i s d h1 h2 => ⟨(hs.2 i s d h1 h2).1.wr g (row_ne (hs.2 i s d h1 h2).1 hc), (hs.2 i s d h1 h2).2.wr g (row_ne (hs.2 i s d h1 h2).2 hc)⟩⟩
  exact ⟨x0, x1, ds, us, h.hb, h.blk.wr g (by intro e; cases e; exact hbc rfl), h.r0.wr g (row_ne h.r0 hc), h.r1.wr g (row_ne h.r1 hc), h.ne, st h.s0, st h.s1⟩
theorem Ref.frm {W0 w w' : World} {base b c n : Nat} {L : List (List Ed × List Ed)} (h : Ref W0 w base c L n) (F : Frm S.T.history_Step base b w w') (hb : b < base) (hbc : c ≠ b) : Ref W0 w' base c L n := by
  obtain ⟨l, ds, h⟩ := h
  exact ⟨l, ds, h.hc, F.cells h.blk hbc h.hc, F.own h.row (by decide) hb, h.held, h.le⟩
theorem Ref.ext {W0 w w' : World} {base c n : Nat} {L : List (List Ed × List Ed)} (h : Ref W0 w base c L n) (e : Ext w w') : Ref W0 w' base c L n := by
  obtain ⟨l, ds, h⟩ := h
  exact ⟨l, ds, h.hc, h.blk.ext e, h.row.ext e, h.held, h.le⟩

/-- Both histories hold the same. -/
structure Both (W0 : World) (base b c : Nat) (w : World) (L : List (List Ed × List Ed)) (n : Nat) : Prop where
  ext : Ext W0 w
  size : base ≤ w.heap.size
  len : L.length ≤ 100
  sm : Sm L
  hist : Hist w base b (L.take n) (L.drop n).reverse
  ref : Ref W0 w base c L n
theorem Both.le {W0 w : World} {base b c n : Nat} {L : List (List Ed × List Ed)} (h : Both W0 base b c w L n) : n ≤ L.length := by
  obtain ⟨l, ds, h⟩ := h.ref; exact h.le
theorem Both.more {W0 w w' : World} {base b c n : Nat} {L : List (List Ed × List Ed)} (h : Both W0 base b c w L n) (e : Ext w w') : Both W0 base b c w' L n :=
  ⟨h.ext.trans e, by have := h.size; have := e.size; omega, h.len, h.sm, h.hist.ext e, h.ref.ext e⟩
structure Fix (W0 : World) (base b c : Nat) : Prop where
  hb : b < base
  hc : c < base
  bc : b ≠ c
  wb : W0.heap.size ≤ b
  wc : W0.heap.size ≤ c
  wbase : W0.heap.size ≤ base

theorem steps_J3 {W0 w : World} {base b c n i m : Nat} {L : List (List Ed × List Ed)} (h : Both W0 base b c w L n) (hi : i < m) (hm : m ≤ 300) {Nx : List Value → World → Prop} (hN : ∀ w' L n, Both W0 base b c w' L n → Nx [.int .i64 ((i : Int) + 1)] w') :
    S.bodkinlaw12_HistorySteps_J3 (Yes W0) Nx (.pointer (some ⟨b, 0, none⟩)) (.pointer (some ⟨c, 0, none⟩)) (.int .i64 i) w := by
  unfold S.bodkinlaw12_HistorySteps_J3
  refine (sizes_spec h.hist).mono ?_
  rintro u w1 ⟨e1, rfl⟩
  rw [sExtract_0, sExtract_1]
  have h1 := h.more e1
  have hle := h.le
  have hln := h.len
  obtain ⟨l, ds, hr⟩ := h1.ref
  have hdl : ds.length = L.length := hr.held.1
  refine DrawS.ext ?_
  have E : Ext w1 w1.drew := (Ext.refl w1).drew
  rw [sNil_ptr, stillS_eq (fun w1 h1 K => sFldA_ptr S.tfl_bodkinref12_History_N) E, stillS_cell S.tcell_int (hr.blk.cells.at 1 rfl) E, stillS_eq (fun w1 h1 K => sBin_neq _ _) E, sIf_not]
  refine ⟨fun h => absurd (by rw [List.length_take]; omega) h, fun _ => ?_⟩
  rw [sNil_ptr, stillS_eq (fun w1 h1 K => sFldA_ptr S.tfl_bodkinref12_History_L) E, stillS_cell S.tcell_L_bodkinref12_Step (hr.blk.cells.at 0 rfl) E, stillS_eq (fun w1 h1 K => sLen_sl S.tel_L_bodkinref12_Step ((hr.row.ext h1).sl encS_ok)) E,
    sNil_ptr, stillS_eq (fun w1 h1 K => sFldA_ptr S.tfl_bodkinref12_History_N) E, stillS_cell S.tcell_int (hr.blk.cells.at 1 rfl) E, stillS_eq (fun w1 h1 K => sBin_sub _ _ ⟨by omega, by omega⟩) E, stillS_eq (fun w1 h1 K => sBin_neq _ _) E, sIf_not]
  refine ⟨fun h => absurd (by rw [List.length_reverse, List.length_drop]; omega) h, fun _ => ?_⟩
  rw [sBin_add _ _ ⟨by omega, by omega⟩]
  exact hN _ _ _ (h1.more E)

theorem steps_J5 {W0 w : World} {base b c n : Nat} {L : List (List Ed × List Ed)} (hF : Fix W0 base b c) (h : Both W0 base b c w L n) {M : List Value → World → Prop} (hM : ∀ w' L n, Both W0 base b c w' L n → M [] w') (what : Int) (t : Bool) :
    S.bodkinlaw12_HistorySteps_J5 (Yes W0) M (.pointer (some ⟨b, 0, none⟩)) (.pointer (some ⟨c, 0, none⟩)) (.int .i64 what) (.bool t) w := by
  unfold S.bodkinlaw12_HistorySteps_J5
  have hle := h.le
  have hln := h.len
  rw [sIf_bool]
  refine ⟨fun _ => ?_, fun _ => ?_⟩
  · refine (undo_spec h.hist h.size (by rw [List.length_take]; omega) (by rw [List.length_reverse, List.length_drop]; omega) (fun d hd => h.sm d (List.mem_of_mem_take hd))).mono ?_
    rintro u w1 ⟨F1, v, k, l1, rfl, r1, hh⟩
    rw [sExtract_0, sExtract_1]
    have E1 : Ext W0 w1 := F1.ext h.ext hF.wbase hF.wb
    have hs1 := F1.size
    have hs := h.size
    refine (refundo_spec (h.ref.frm F1 hF.hb hF.bc.symm) (by omega)).mono ?_
    rintro u w2 ⟨F2, v2, k2, l2, rfl, hh2⟩
    rw [sExtract_0, sExtract_1]
    have E2 : Ext W0 w2 := E1.wr F2 fun g hg => by cases hg; exact hF.wc
    have hs2 := F2.size
    have r2 := r1.wr F2 (row_ne r1 hF.hc)
    have fin : k = k2 ∧ l1 = l2 ∧ Sl w2 v2 3 encE l2 ∧ ∃ L n, Both W0 base b c w2 L n := by
      rcases hh2 with ⟨rfl, rfl, rfl, rfl, R2⟩ | ⟨k', d, rfl, hd, rfl, rfl, hv2, R2⟩
      · rcases hh with ⟨_, rfl, rfl, H1⟩ | ⟨D', d, hD, _⟩
        · exact ⟨rfl, rfl, Sl.nil w2 3 encE, L, 0, E2, by omega, h.len, h.sm, H1.wr F2 hF.hc hF.bc, R2⟩
        · simp at hD
      · have htk : L.take (k' + 1) = L.take k' ++ [d] := by rw [List.take_add_one, hd]; rfl
        rw [htk] at hh
        rcases hh with ⟨h0, _⟩ | ⟨D', d', hD, rfl, rfl, H1⟩
        · simp at h0
        obtain ⟨rfl, rfl⟩ := snoc_inj hD
        refine ⟨rfl, rfl, hv2.ext E2, L, k', E2, by omega, h.len, h.sm, ?_, R2⟩
        have hdr : L.drop k' = d :: L.drop (k' + 1) := by
          obtain ⟨hlt, hval⟩ := List.getElem?_eq_some_iff.1 hd
          rw [List.drop_eq_getElem_cons hlt, hval]
        rw [hdr, List.reverse_cons]
        exact H1.wr F2 hF.hc hF.bc
    obtain ⟨rfl, rfl, hv2, L', n', B⟩ := fin
    rw [sBin_neq, sIf_not]
    refine ⟨fun h => absurd rfl h, fun _ => ?_⟩
    refine (edits_spec (r2.sl encE_ok) hv2).mono ?_
    rintro u w3 ⟨e3, r, rfl, hr⟩
    rw [hr.2 rfl, sUn_not, Bool.not_true, sIf_false]
    exact hM _ _ _ (B.more e3)
  · rw [sBin_eql, sIf_dec]
    refine ⟨fun _ => ?_, fun _ => hM _ _ _ h⟩
    refine (redo_spec h.hist h.size (by rw [List.length_take]; omega) (by rw [List.length_reverse, List.length_drop]; omega) (fun d hd => h.sm d (List.mem_of_mem_drop (List.mem_reverse.1 hd)))).mono ?_
    rintro u w1 ⟨F1, v, k, l1, rfl, r1, hh⟩
    rw [sExtract_0, sExtract_1]
    have E1 : Ext W0 w1 := F1.ext h.ext hF.wbase hF.wb
    have hs1 := F1.size
    have hs := h.size
    refine (refredo_spec (h.ref.frm F1 hF.hb hF.bc.symm) (by omega)).mono ?_
    rintro u w2 ⟨F2, v2, k2, l2, rfl, hh2⟩
    rw [sExtract_0, sExtract_1]
    have E2 : Ext W0 w2 := E1.wr F2 fun g hg => by cases hg; exact hF.wc
    have hs2 := F2.size
    have r2 := r1.wr F2 (row_ne r1 hF.hc)
    have fin : k = k2 ∧ l1 = l2 ∧ Sl w2 v2 3 encE l2 ∧ ∃ L n, Both W0 base b c w2 L n := by
      rcases hh2 with ⟨rfl, rfl, rfl, rfl, R2⟩ | ⟨d, hd, rfl, rfl, hv2, R2⟩
      · rcases hh with ⟨_, rfl, rfl, H1⟩ | ⟨D', d, hD, _⟩
        · exact ⟨rfl, rfl, Sl.nil w2 3 encE, L, L.length, E2, by omega, h.len, h.sm, H1.wr F2 hF.hc hF.bc, R2⟩
        · simp at hD
      · have hdr : L.drop n = d :: L.drop (n + 1) := by
          obtain ⟨hlt, hval⟩ := List.getElem?_eq_some_iff.1 hd
          rw [List.drop_eq_getElem_cons hlt, hval]
        rw [hdr, List.reverse_cons] at hh
        rcases hh with ⟨h0, _⟩ | ⟨D', d', hD, rfl, rfl, H1⟩
        · simp at h0
        obtain ⟨rfl, rfl⟩ := snoc_inj hD
        refine ⟨rfl, rfl, hv2.ext E2, L, n + 1, E2, by omega, h.len, h.sm, ?_, R2⟩
        rw [List.take_add_one, hd]
        exact H1.wr F2 hF.hc hF.bc
    obtain ⟨rfl, rfl, hv2, L', n', B⟩ := fin
    rw [sBin_neq, sIf_not]
    refine ⟨fun h => absurd rfl h, fun _ => ?_⟩
    refine (edits_spec (r2.sl encE_ok) hv2).mono ?_
    rintro u w3 ⟨e3, r, rfl, hr⟩
    rw [hr.2 rfl, sUn_not, Bool.not_true, sIf_false]
    exact hM _ _ _ (B.more e3)

theorem bR {w : World} {K : K1} (x y : SV) : sBuild Try.prog 38 [(0, sv x), (1, sv y)] w K = K (.agg #[sv x, sv y]) w :=
  sBuild_of (lp := [(0, [sv x]), (1, [sv y])]) (cs := [sv x, sv y]) S.tze_bodkinref12_Step S.tpl_bodkinref12_Step rfl rfl
theorem steps_J4 {W0 w : World} {base b c n b6 : Nat} {L : List (List Ed × List Ed)} (hF : Fix W0 base b c) (h : Both W0 base b c w L n) {o : Int × SV × SV} (hk : Blk w b6 (encO o)) (hb6 : base ≤ b6) (h6 : ¬ Ty w S.T.history_Step b6) {bs fs : List Ed} (hbs : Sl W0 (sv o.2.1) 3 encE bs) (hfs : Sl W0 (sv o.2.2) 3 encE fs) (hbl : bs.length ≤ 70) (hfl : fs.length ≤ 70)
    {M : List Value → World → Prop} (hM : ∀ w' L n, Both W0 base b c w' L n → M [] w') (t : Bool) :
    S.bodkinlaw12_HistorySteps_J4 (Yes W0) M (.pointer (some ⟨b6, 0, none⟩)) (.pointer (some ⟨b, 0, none⟩)) (.pointer (some ⟨c, 0, none⟩)) (.int .i64 o.1) (.bool t) w := by
  unfold S.bodkinlaw12_HistorySteps_J4
  have hle := h.le
  have hln := h.len
  rw [sIf_bool]
  refine ⟨fun _ => ?_, fun _ => ?_⟩
  · rw [sFldA_ptr S.tfl_bodkinlaw12_Op_Back, sLoad_cell S.tcell_L_api_Edit (hk.cells.at 1 rfl), sFldA_ptr S.tfl_bodkinlaw12_Op_Forth, sLoad_cell S.tcell_L_api_Edit (hk.cells.at 2 rfl), bS]
    refine (push_spec h.hist h.size (by rw [List.length_take]; omega) (fun w' F => hbs.ext (F.ext h.ext hF.wbase hF.wb)) (fun w' F => hfs.ext (F.ext h.ext hF.wbase hF.wb)) (by omega) (by omega)).mono ?_
    rintro u w1 ⟨rfl, F1, H1⟩
    have E1 : Ext W0 w1 := F1.ext h.ext hF.wbase hF.wb
    have hs1 := F1.size
    have hs := h.size
    have hk1 : Blk w1 b6 (encO o) := by
      obtain ⟨T, hT⟩ := hk
      exact ⟨T, (F1.blk b6 (Array.getElem?_eq_some_iff.1 hT).1 (by have := hF.hb; omega) fun _ => h6).trans hT⟩
    rw [sBin_neq, sIf_not]
    refine ⟨fun h => absurd rfl h, fun _ => ?_⟩
    rw [sFldA_ptr S.tfl_bodkinlaw12_Op_Back, sLoad_cell S.tcell_L_api_Edit (hk1.cells.at 1 rfl), sFldA_ptr S.tfl_bodkinlaw12_Op_Forth, sLoad_cell S.tcell_L_api_Edit (hk1.cells.at 2 rfl), bR]
    refine (refpush_spec (h.ref.frm F1 hF.hb hF.bc.symm) (by omega) (by omega) hbs hfs).mono ?_
    rintro u w2 ⟨F2, R2⟩
    have hs2 := F2.size
    refine hM _ _ _ ⟨E1.wr F2 fun g hg => by cases hg; exact hF.wc, by omega, cut_len _, ?_, ?_, R2⟩
    · intro d hd
      have hd := List.mem_of_mem_drop hd
      rcases List.mem_append.1 hd with hd | hd
      · exact h.sm d (List.mem_of_mem_take hd)
      · simp at hd; subst hd; exact ⟨by simp; omega, by simp; omega⟩
    · rw [List.take_length, List.drop_length]
      exact H1.wr F2 hF.hc hF.bc
  · refine JoinS.intro (fun us w' => w' = w ∧ ∃ t : Bool, us = [.bool t]) ?_ ?_
    · rw [sBin_eql, sIf_dec, sBin_eql]
      exact ⟨fun _ => ⟨rfl, _, rfl⟩, fun _ => ⟨rfl, _, rfl⟩⟩
    rintro us vs w ⟨rfl, t, rfl⟩
    exact steps_J5 hF h hM _ t

theorem historySteps_spec {w : World} {l : Value} {os : List (Int × SV × SV)} (hl : Sl w l 3 encO os) (hall : ∀ o ∈ os, (∃ bs, Sl w (sv o.2.1) 3 encE bs) ∧ ∃ fs, Sl w (sv o.2.2) 3 encE fs) : S.bodkinlaw12_HistorySteps (Yes w) l w := by
  unfold S.bodkinlaw12_HistorySteps
  refine (new_spec w).mono ?_
  rintro p w1 ⟨rfl, e1, hs1, hk1⟩
  refine JoinS.intro (fun us w' => w' = w1 ∧ ∃ t : Bool, us = [.bool t] ∧ (t = true ↔ 300 < os.length)) ?_ ?_
  · rw [sBin_ptr_eq S.tpt_P_history_History, Option.isNone_some, sIf_false, sLen_sl S.tel_L_bodkinlaw12_Op (hl.ext e1), sBin_gtr]
    refine ⟨rfl, _, rfl, ?_⟩
    rw [decide_eq_true_eq]; omega
  rintro us vs w1 ⟨rfl, t, rfl, ht⟩
  unfold S.bodkinlaw12_HistorySteps_J1
  rw [hd, sIf_bool]
  refine ⟨fun _ => ?_, fun h => ?_⟩
  · rw [sBin_ptr_ne S.tpt_P_history_History, Option.isSome_some, sIf_true]
    exact then_again e1
  have hn : os.length ≤ 300 := by
    have : ¬ 300 < os.length := fun h' => by rw [ht.2 h'] at h; cases h
    omega
  rw [sBuild_of (lp := []) (cs := [.slice none 0 0, .int .i64 0]) S.tze_bodkinref12_History S.tpl_bodkinref12_History rfl rfl]
  refine sBox_new rfl fun c w2 hc2 hs2 he2 hk2 => ?_
  have E2 := e1.trans he2
  have hF : Fix w w2.heap.size w.heap.size c := ⟨by omega, by omega, by omega, Nat.le_refl _, by omega, by omega⟩
  have B0 : Both w w2.heap.size w.heap.size c w2 [] 0 := ⟨E2, Nat.le_refl _, by simp, (fun d hd => by cases hd), hist_nil hF.hb (hk1.ext he2), _, [], hF.hc, hk2, Row.nil _ _ _ _ _, ⟨rfl, fun i s d h => by simp at h⟩, Nat.le_refl _⟩
  generalize hbase : w2.heap.size = base at *
  rw [sLen_sl S.tel_L_bodkinlaw12_Op (hl.ext E2)]
  refine LoopS.intro (fun us w3 => ∃ i : Nat, us = [.int .i64 i] ∧ i ≤ os.length ∧ ∃ L n, Both w base w.heap.size c w3 L n)
    (fun us _ => match us with | [.int _ a] => (os.length - a).toNat | _ => 0) ⟨0, rfl, Nat.zero_le _, [], 0, B0⟩ ?_
  rintro us vs w3 ⟨i, rfl, hi, L, n, B3⟩
  unfold S.bodkinlaw12_HistorySteps_L2
  rw [hd, sBin_lss, sIf_dec]
  refine ⟨fun hlt => ?_, fun _ => then_again B3.ext⟩
  obtain ⟨o, ho⟩ : ∃ o, os[i]? = some o := ⟨_, List.getElem?_eq_getElem (by omega)⟩
  obtain ⟨⟨bs, hbs⟩, fs, hfs⟩ := hall o (List.mem_of_getElem? ho)
  obtain ⟨bb, oo, hel, hc⟩ := (hl.ext B3.ext).el ho
  rw [sIdxA_sl S.tel_L_bodkinlaw12_Op S.tsz_bodkinlaw12_Op (by decide) (hl.ext B3.ext) ho rfl, hel, sLoad_agg S.tagg_bodkinlaw12_Op hc rfl]
  refine sVarT S.tze_bodkinlaw12_Op S.tsz_bodkinlaw12_Op (by decide) rfl rfl (encO_ok.one o) fun b6 w4 hb6 hs4 he4 hT4 => ?_
  have B4 := B3.more he4
  have hk4 : Blk w4 b6 (encO o) := ⟨_, hT4⟩
  have h36 : ¬ Ty w4 S.T.history_Step b6 := fun ⟨cs, hcs⟩ => by
    rw [hT4] at hcs
    injection hcs with h1
    injection h1 with _ h2
    exact absurd h2 (by decide)
  rw [sFldA_ptr S.tfl_bodkinlaw12_Op_Back, sLoad_cell S.tcell_L_api_Edit (hk4.cells.at 1 rfl), sLen_sl S.tel_L_api_Edit (hbs.ext B4.ext), sBin_gtr, sIf_dec, sFldA_ptr S.tfl_bodkinlaw12_Op_Forth, sLoad_cell S.tcell_L_api_Edit (hk4.cells.at 2 rfl), sLen_sl S.tel_L_api_Edit (hfs.ext B4.ext), sBin_gtr, sIf_dec]
  refine ⟨fun _ => then_again B4.ext, fun h1 => ⟨fun _ => then_again B4.ext, fun h2 => ?_⟩⟩
  refine JoinS.intro (fun us w' => us = [] ∧ ∃ L n, Both w base w.heap.size c w' L n) ?_ ?_
  · rw [sFldA_ptr S.tfl_bodkinlaw12_Op_What, sLoad_cell S.tcell_int (hk4.cells.at 0 rfl)]
    refine JoinS.intro (fun us w' => w' = w4 ∧ ∃ t : Bool, us = [.bool t]) ?_ ?_
    · rw [sBin_eql, sIf_dec, sBin_eql]
      exact ⟨fun _ => ⟨rfl, _, rfl⟩, fun _ => ⟨rfl, _, rfl⟩⟩
    rintro us vs w4 ⟨rfl, t, rfl⟩
    exact steps_J4 hF B4 hk4 (by have := B3.size; omega) h36 hbs hfs (by omega) (by omega) (fun w' L n B => ⟨rfl, L, n, B⟩) t
  rintro us vs w5 ⟨rfl, L5, n5, B5⟩
  exact steps_J3 B5 (m := os.length) (by omega) hn fun w' L' n' B' => ⟨⟨i + 1, by simp, by omega, L', n', B'⟩, by simp only []; omega⟩
end Go.Proofs.Ytphpegpbkapieaa

/- What 'New' and 'Push' of a history do. Conditions: the state; not too many steps. -/
import Derived.Test.YtpjmmhbdondknaaDoorH1
namespace Go.Proofs.YtpjmmhbdondknaaDoor.H
open Go Go.Lift Go.RowKit Go.Txt

theorem row0 {w : World} {K : K1} {b : Nat} : sIdxA Tryd.prog S.T.A2_L_history_Step (.pointer (some ⟨b, 0 + 0, none⟩)) (.int .i64 0) w K = K (.pointer (some ⟨b, 0, none⟩)) w :=
  sIdxA_arr (i := 0) S.tar_A2_L_history_Step S.tsz_L_history_Step (by decide) (by decide) rfl
theorem row1 {w : World} {K : K1} {b : Nat} : sIdxA Tryd.prog S.T.A2_L_history_Step (.pointer (some ⟨b, 0 + 0, none⟩)) (.int .i64 1) w K = K (.pointer (some ⟨b, 1, none⟩)) w :=
  sIdxA_arr (i := 1) S.tar_A2_L_history_Step S.tsz_L_history_Step (by decide) (by decide) rfl
theorem new_spec (w : World) : sCall Tryd.prog S.history_New.n [] w fun v w' => v = .pointer (some ⟨w.heap.size, 0, none⟩) ∧ Ext w w' ∧ w'.heap.size = w.heap.size + 1 ∧ Blk w' w.heap.size [.slice none 0 0, .slice none 0 0] := by
  refine S.history_New.call ?_
  unfold S.history_New
  rw [sBuild_of (lp := []) (cs := [.slice none 0 0, .slice none 0 0]) S.tze_history_History S.tpl_history_History rfl rfl]
  refine sBox_new rfl fun b1 w1 hb1 hs1 he1 hk1 => ?_
  subst hb1
  exact ⟨rfl, he1, hs1, hk1⟩
theorem hist_nil {w : World} {base b : Nat} (hb : b < base) (hk : Blk w b [.slice none 0 0, .slice none 0 0]) : Hist w base b [] [] :=
  ⟨_, _, [], [], hb, hk, Row.nil _ _ _ _ _, Row.nil _ _ _ _ _, (by simp [Value.ownBlock]), ⟨rfl, by simp⟩, ⟨rfl, by simp⟩, .nil, .nil⟩

/-- As many as there may be. -/
def cut {α : Type} (l : List α) : List α := l.drop (l.length - 100)
theorem cut_len {α : Type} (l : List α) : (cut l).length ≤ 100 := by unfold cut; rw [List.length_drop]; omega

theorem push_spec {w : World} {base b : Nat} {D U : List (List Ed × List Ed)} (h : Hist w base b D U) (hbase : base ≤ w.heap.size) (hD : D.length ≤ 100) {bv fv : SV} {bs fs : List Ed}
    (hbv : ∀ w', Frm S.T.history_Step base b w w' → Sl w' (sv bv) 3 encE bs) (hfv : ∀ w', Frm S.T.history_Step base b w w' → Sl w' (sv fv) 3 encE fs) (hbl : bs.length ≤ 1000) (hfl : fs.length ≤ 1000) :
    sCall Tryd.prog S.history_History_Push.n [.pointer (some ⟨b, 0, none⟩), .agg #[sv bv, sv fv]] w fun u w' => u = .int .i64 0 ∧ Frm S.T.history_Step base b w w' ∧ Kp w w' ∧ Hist w' base b (cut (D ++ [(bs, fs)])) [] := by
  obtain ⟨x0, x1, ds, us, h⟩ := h
  refine S.history_History_Push.call ?_
  unfold S.history_History_Push
  refine sBox_new (cs := [sv bv, sv fv]) rfl fun b3 w1 hb3 hs1 he1 hk1 => ?_
  have F1 : Frm S.T.history_Step base b w w1 := .of_ext he1
  have h1 := h.ext he1
  rw [sBin_ptr_eq S.tpt_P_history_History, Option.isNone_some, sIf_false, sNil_ptr, sFldA_ptr S.tfl_history_History_rows, row1]
  refine sStore_blk (vs := [.slice none 0 0]) S.tsz_L_history_Step (by decide) h1.blk rfl rfl (by simp) (by intro u hu; simp at hu; subst hu; rfl) fun w2 hs2 hg2 hk2 => ?_
  have hk2 : Blk w2 b [x0, .slice none 0 0] := hk2
  have F2 : Frm S.T.history_Step base b w w2 := F1.trans (.of_grown hg2 fun g hg => .inl (by cases hg; rfl))
  have hs2' : base ≤ w2.heap.size := by have := he1.size; omega
  have hbw : b < w.heap.size := h.blk.lt
  have h0b : ∀ g, x0.ownBlock = some g → base ≤ g ∧ g < w.heap.size := fun g hg => h.r0.lt g hg
  have r02 : Row w2 base S.T.history_Step 2 x0 encS ds := h1.r0.wr hg2 (by
    cases hv : x0.ownBlock with
    | none => exact .inl rfl
    | some g => exact .inr (by intro e; cases e; have := h0b b hv; have := h.hb; omega))
  have nb0 : x0.ownBlock = none ∨ x0.ownBlock ≠ some b := by
    cases hv : x0.ownBlock with
    | none => exact .inl rfl
    | some g => exact .inr (by intro e; cases e; have := h0b b hv; have := h.hb; omega)
  have a02 : OwnS w2 x0 := (h.a0.ext he1).wr hg2 nb0
  have K2 : Kp w w2 := (Kp.of_ext he1).trans (.of_grown hg2 fun g hg _ => by cases hg; exact h1.blk.isS (two_isS (row_isS h1.r0) (row_isS h1.r1)))
  have k32 : Blk w2 b3 [sv bv, sv fv] := hk1.wr hg2 (by intro e; cases e; omega)
  have s02 : Steps w2 base ds D := h.s0.frm h.hb F2
  have hb3ne : some b3 ≠ x0.ownBlock := fun e => by have := h0b b3 e.symm; omega
  have hbne : some b ≠ x0.ownBlock := fun e => by have := h0b b e.symm; have := h.hb; omega
  -- while the order is open: only the row that is appended to changes
  refine DrawS.intro (fun w' => w2.grownBy w' x0.ownBlock) (grown_drew _ _) ?_
  have cl : ∀ {w3 w4 : World}, w2.grownBy w3 x0.ownBlock → Ext w3 w4 → w2.grownBy w4 x0.ownBlock := fun a e => grown_trans a (grown_of_ext e _)
  have FC : ∀ {w3 : World}, w2.grownBy w3 x0.ownBlock → Frm S.T.history_Step base b w w3 := fun a => F2.trans (.of_grown a fun g hg => .inr (r02.ty hg))
  have C0 := grown_drew w2 x0.ownBlock
  rw [sNil_ptr, stillC_eq (fun w1 h1 K => sFldA_ptr S.tfl_history_History_rows) C0, stillC_eq (fun w1 h1 K => row0) C0,
    stillC_eq (fun w1 (h1 : w2.grownBy w1 _) K => sLoad_cell S.tcell_L_history_Step ((hk2.wr h1 hbne).cells.at 0 rfl)) C0,
    stillC_eq (fun w1 h1 K => sFldA_ptr S.tfl_history_Step_Back) C0, stillC_eq (fun w1 (h1 : w2.grownBy w1 _) K => sLoad_cell S.tcell_L_api_Edit ((k32.wr h1 hb3ne).cells.at 0 rfl)) C0,
    stillC_eq (fun w1 h1 K => sFldA_ptr S.tfl_history_Step_Forth) C0, stillC_eq (fun w1 (h1 : w2.grownBy w1 _) K => sLoad_cell S.tcell_L_api_Edit ((k32.wr h1 hb3ne).cells.at 1 rfl)) C0,
    sNil_ptr, stillC_eq (fun w1 h1 K => sFldA_ptr S.tfl_history_History_rows) C0]
  refine (clone_spec (hbv _ (FC C0)) hbl).mono ?_
  rintro cb w3 ⟨e3, hcb⟩
  have C3 := cl C0 e3
  refine ⟨C3, (clone_spec (hfv _ (FC C3)) hfl).mono ?_⟩
  rintro cf w4 ⟨e4, hcf⟩
  have C4 := cl C3 e4
  refine ⟨C4, ?_⟩
  obtain ⟨sb, rfl⟩ := (hcb.sl encE_ok).sv
  obtain ⟨sf, rfl⟩ := (hcf.sl encE_ok).sv
  rw [stillC_eq (fun w1 h1 K => sBuild_of (lp := [(0, [sv sb]), (1, [sv sf])]) (cs := encS (sb, sf)) S.tze_history_Step S.tpl_history_Step rfl rfl) C4]
  refine sBuildSlice_own (enc := encS) (xs := [(sb, sf)]) (lp := [(0, encS (sb, sf))]) S.tel_L_history_Step S.tsz_history_Step rfl S.tze_history_Step (by decide) (by decide) encS_ok rfl rfl fun t w5 ht ho5 he5 hs5 => ?_
  have C5 := cl C4 he5
  refine ⟨C5, ?_⟩
  have hw25 : w2.heap.size ≤ w5.heap.size := C5.size
  have hdl : ds.length = D.length := h.s0.1
  have r05 : Row w5 base S.T.history_Step 2 x0 encS ds := ((((r02.ext (Ext.refl w2).drew).ext e3).ext e4).ext he5)
  refine sAppend_rowS S.tel_L_history_Step S.tsz_history_Step (by decide) S.tze_history_Step rfl encS_ok r05 (by omega) (ho5.sl encS_ok) (by simp) (by have : maxLen = 9223372036854775807 := rfl; simp; omega) (by rw [S.tby_history_Step]; simp; omega) ((((a02.ext (Ext.refl w2).drew).ext e3).ext e4).ext he5) (fun u hu => by simp at hu; rcases hu with rfl | rfl <;> rfl) encS_isS fun x0' w6 r06 g6 hor hS6 => ?_
  have C6 := grown_trans C5 g6
  refine ⟨C6, ?_⟩
  rw [stillC_eq (fun w1 h1 K => row0) C6]
  refine sStore_blk S.tsz_L_history_Step (by decide) (hk2.wr C6 hbne) r06.shape.1 rfl (by simp) (by simpa using r06.shape.2) fun w7 hs7 hg7 hk7 => ?_
  have hk7 : Blk w7 b [x0', .slice none 0 0] := hk7
  have hw67 : base ≤ w6.heap.size := by have := C6.size; omega
  have r07 : Row w7 base S.T.history_Step 2 x0' encS (ds ++ [(sb, sf)]) := r06.wr hg7 (by
    cases hv : x0'.ownBlock with
    | none => exact .inl rfl
    | some g => exact .inr (by intro e; cases e; have := r06.lt b hv; have := h.hb; omega))
  have n6 : x0'.ownBlock = none ∨ x0'.ownBlock ≠ some b := by
    cases hv : x0'.ownBlock with
    | none => exact .inl rfl
    | some g => exact .inr (by intro e; cases e; have := r06.lt b hv; have := h.hb; omega)
  have a07 : OwnS w7 x0' := hS6.wr hg7 n6
  have K7 : Kp w w7 := (K2.trans (.of_grown C6 fun g hg _ => a02 g hg)).trans (.of_grown hg7 fun g hg _ => by cases hg; exact (hk2.wr C6 hbne).isS (two_isS (row_isS h.r0) rfl))
  have G7 : Frm S.T.history_Step base b w6 w7 := .of_grown hg7 fun g hg => .inl (by cases hg; rfl)
  have F7 : Frm S.T.history_Step base b w w7 := (FC C6).trans G7
  have s07 : Steps w7 base ds D := h.s0.frm h.hb F7
  have G57 : Frm S.T.history_Step base b w5 w7 := (Frm.of_grown g6 fun g hg => .inr (r05.ty hg)).trans G7
  have hw2 : base ≤ w2.drew.heap.size := hs2'
  have hb7 : Row w7 base S.T.api_Edit 3 (sv sb) encE bs := G57.own (((hcb.ext e4).ext he5).mono hw2) (by decide) h.hb
  have hf7 : Row w7 base S.T.api_Edit 3 (sv sf) encE fs := G57.own ((hcf.ext he5).mono (by have := e3.size; omega)) (by decide) h.hb
  have S7 : Steps w7 base (ds ++ [(sb, sf)]) (D ++ [(bs, fs)]) := s07.push hb7 hf7
  have hlen : (ds ++ [(sb, sf)]).length = D.length + 1 := by simp [hdl]
  rw [sNil_ptr, sFldA_ptr S.tfl_history_History_rows, row0, sLoad_cell S.tcell_L_history_Step (hk7.cells.at 0 rfl), sLen_sl S.tel_L_history_Step (r07.sl encS_ok), hlen, sBin_sub _ _ ⟨by omega, by omega⟩, sBin_gtr, sIf_dec]
  refine ⟨fun hgt => ?_, fun hle => ⟨rfl, F7, K7, x0', _, ds ++ [(sb, sf)], [], h.hb, hk7, r07, Row.nil _ _ _ _ _, by simp [Value.ownBlock], ?_, ⟨rfl, by simp⟩, a07, .nil⟩⟩
  · have h1 : D.length = 100 := by omega
    refine DrawS.ext ?_
    have E : Ext w7 w7.drew := (Ext.refl w7).drew
    rw [sNil_ptr, stillS_eq (fun w1 h1 K => sFldA_ptr S.tfl_history_History_rows) E, stillS_eq (fun w1 h1 K => row0) E,
      stillS_cell S.tcell_L_history_Step (hk7.cells.at 0 rfl) E, stillS_eq (fun w1 h1 K => sSlice_l (lo := 1) S.tel_L_history_Step S.tsz_history_Step (by decide) ((r07.ext h1).sl encS_ok) (by omega) (by omega)) E,
      sNil_ptr, stillS_eq (fun w1 h1 K => sFldA_ptr S.tfl_history_History_rows) E, stillS_eq (fun w1 h1 K => row0) E]
    have r8 := (r07.ext E).part encS_ok (lo := 1) (hi := (ds ++ [(sb, sf)]).length) (by omega) (Nat.le_refl _)
    rw [List.take_length] at r8
    refine sStore_blk S.tsz_L_history_Step (by decide) (hk7.ext E) r8.shape.1 rfl (by simp) (by simpa using r8.shape.2) fun w9 hs9 hg9 hk9 => ?_
    have hk9 : Blk w9 b [slV x0' 2 1 (ds ++ [(sb, sf)]).length (capV x0'), .slice none 0 0] := hk9
    have F9 : Frm S.T.history_Step base b w w9 := (F7.trans (.of_ext E)).trans (.of_grown hg9 fun g hg => .inl (by cases hg; rfl))
    have n9 : (slV x0' 2 1 (ds ++ [(sb, sf)]).length (capV x0')).ownBlock = none ∨ (slV x0' 2 1 (ds ++ [(sb, sf)]).length (capV x0')).ownBlock ≠ some b := by rw [slV_own]; exact n6
    have a09 : OwnS w9 (slV x0' 2 1 (ds ++ [(sb, sf)]).length (capV x0')) := OwnS.wr (fun g hg => (a07.ext E) g (by rw [slV_own] at hg; exact hg)) hg9 n9
    have K9 : Kp w w9 := (K7.trans (.of_ext E)).trans (.of_grown hg9 fun g hg _ => by cases hg; exact (hk7.ext E).isS (two_isS (row_isS r07) rfl))
    refine ⟨rfl, F9, K9, _, _, (ds ++ [(sb, sf)]).drop 1, [], h.hb, hk9, r8.wr hg9 ?_, Row.nil _ _ _ _ _, by simp [Value.ownBlock], ?_, ⟨rfl, by simp⟩, a09, .nil⟩
    · cases hv : (slV x0' 2 1 (ds ++ [(sb, sf)]).length (capV x0')).ownBlock with
      | none => exact .inl rfl
      | some g => exact .inr (by intro e; cases e; have := r8.lt b hv; have := h.hb; omega)
    · have e1 : cut (D ++ [(bs, fs)]) = (D ++ [(bs, fs)]).drop 1 := by unfold cut; congr 1; simp; omega
      rw [e1]
      exact (S7.frm h.hb ((Frm.of_ext E).trans (.of_grown hg9 fun g hg => .inl (by cases hg; rfl)))).drop 1
  · have e1 : cut (D ++ [(bs, fs)]) = D ++ [(bs, fs)] := by unfold cut; rw [show (D ++ [(bs, fs)]).length - 100 = 0 from by simp; omega]; rfl
    rw [e1]
    exact S7
end Go.Proofs.YtpjmmhbdondknaaDoor.H

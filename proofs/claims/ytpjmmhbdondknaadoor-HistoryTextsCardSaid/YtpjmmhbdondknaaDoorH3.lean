/- What 'move', 'Undo', 'Redo' and 'Sizes' of a history do. Conditions: the state. -/
import Derived.Test.YtpjmmhbdondknaaDoorH2
namespace Go.Proofs.YtpjmmhbdondknaaDoor.H
open Go Go.Lift Go.RowKit Go.Txt

/-- Two rows, seen from one of them. -/
def mk2 (f : Nat) (a c : Value) : List Value := if f = 0 then [a, c] else [c, a]
structure HistF (w : World) (base b f : Nat) (xf xt : Value) (ds us : List (SV × SV)) (D U : List (List Ed × List Ed)) : Prop where
  hb : b < base
  blk : Blk w b (mk2 f xf xt)
  rf : Row w base S.T.history_Step 2 xf encS ds
  rt : Row w base S.T.history_Step 2 xt encS us
  ne : ∀ g, xf.ownBlock = some g → xt.ownBlock ≠ some g
  sf : Steps w base ds D
  st : Steps w base us U
  aF : OwnS w xf
  aT : OwnS w xt
theorem HistAt.f0 {w : World} {base b : Nat} {x0 x1 : Value} {ds us : List (SV × SV)} {D U : List (List Ed × List Ed)} (h : HistAt w base b x0 x1 ds us D U) : HistF w base b 0 x0 x1 ds us D U :=
  ⟨h.hb, h.blk, h.r0, h.r1, h.ne, h.s0, h.s1, h.a0, h.a1⟩
theorem HistAt.f1 {w : World} {base b : Nat} {x0 x1 : Value} {ds us : List (SV × SV)} {D U : List (List Ed × List Ed)} (h : HistAt w base b x0 x1 ds us D U) : HistF w base b 1 x1 x0 us ds U D :=
  ⟨h.hb, h.blk, h.r1, h.r0, fun g h1 h2 => h.ne g h2 h1, h.s1, h.s0, h.a1, h.a0⟩
theorem HistF.at0 {w : World} {base b : Nat} {xf xt : Value} {ds us : List (SV × SV)} {D U : List (List Ed × List Ed)} (h : HistF w base b 0 xf xt ds us D U) : Hist w base b D U :=
  ⟨xf, xt, ds, us, h.hb, h.blk, h.rf, h.rt, h.ne, h.sf, h.st, h.aF, h.aT⟩
theorem HistF.at1 {w : World} {base b : Nat} {xf xt : Value} {ds us : List (SV × SV)} {D U : List (List Ed × List Ed)} (h : HistF w base b 1 xf xt ds us D U) : Hist w base b U D :=
  ⟨xt, xf, us, ds, h.hb, h.blk, h.rt, h.rf, fun g h1 h2 => h.ne g h2 h1, h.st, h.sf, h.aT, h.aF⟩
theorem HistF.ext {w w' : World} {base b f : Nat} {xf xt : Value} {ds us : List (SV × SV)} {D U : List (List Ed × List Ed)} (h : HistF w base b f xf xt ds us D U) (he : Ext w w') : HistF w' base b f xf xt ds us D U :=
  ⟨h.hb, h.blk.ext he, h.rf.ext he, h.rt.ext he, h.ne, h.sf.ext he, h.st.ext he, h.aF.ext he, h.aT.ext he⟩
section
variable {f : Nat} {a c a' c' : Value}
theorem mk2_len : (mk2 f a c).length = 2 := by unfold mk2; split <;> rfl
theorem mk2_f (hf : f ≤ 1) : (mk2 f a c)[f]? = some a := by
  rcases Nat.le_one_iff_eq_zero_or_eq_one.1 hf with rfl | rfl <;> rfl
theorem mk2_t (hf : f ≤ 1) : (mk2 f a c)[1 - f]? = some c := by
  rcases Nat.le_one_iff_eq_zero_or_eq_one.1 hf with rfl | rfl <;> rfl
theorem mk2_setf (hf : f ≤ 1) : splice (mk2 f a c) f [a'] = mk2 f a' c := by
  rcases Nat.le_one_iff_eq_zero_or_eq_one.1 hf with rfl | rfl <;> rfl
theorem mk2_sett (hf : f ≤ 1) : splice (mk2 f a c) (1 - f) [c'] = mk2 f a c' := by
  rcases Nat.le_one_iff_eq_zero_or_eq_one.1 hf with rfl | rfl <;> rfl
end
theorem rowi {w : World} {K : K1} {b i : Nat} {z : Int} (hi : i < 2) (hz : z = i) : sIdxA Tryd.prog S.T.A2_L_history_Step (.pointer (some ⟨b, 0 + 0, none⟩)) (.int .i64 z) w K = K (.pointer (some ⟨b, i, none⟩)) w := by
  rw [sIdxA_arr (i := i) S.tar_A2_L_history_Step S.tsz_L_history_Step (by decide) hi hz]
  simp only [Nat.mul_one, Nat.zero_add]
theorem cell_at {w : World} {b i : Nat} {cs : List Value} {v : Value} (h : Blk w b cs) (hi : cs[i]? = some v) : w.cell? ⟨b, i, none⟩ = some v := by
  have := h.cells.at i hi
  rwa [Nat.zero_add] at this
theorem row_ne {w : World} {base e k b : Nat} {v : Value} {α : Type} {enc : α → List Value} {xs : List α} (h : Row w base e k v enc xs) (hb : b < base) : v.ownBlock = none ∨ v.ownBlock ≠ some b := by
  cases hv : v.ownBlock with
  | none => exact .inl rfl
  | some g => exact .inr (by intro e; cases e; have := h.lt b hv; omega)

abbrev NilS : SV × SV := ((none, 0, 0), (none, 0, 0))
theorem move_spec {w : World} {base b f : Nat} {xf xt : Value} {ds us : List (SV × SV)} {D U : List (List Ed × List Ed)} (h : HistF w base b f xf xt ds us D U) (hf : f ≤ 1) (hbase : base ≤ w.heap.size) (hD : D.length ≤ 1000) (hU : U.length ≤ 1000) :
    sCall Tryd.prog S.history_History_move.n [.pointer (some ⟨b, 0, none⟩), .int .i64 f] w fun u w' => Frm S.T.history_Step base b w w' ∧ Kp w w' ∧ ∃ (s : SV × SV) (n : Int), u = .tuple #[.agg (encS s).toArray, .int .i64 n] ∧
      ((D = [] ∧ n = 6 ∧ s = NilS ∧ HistF w' base b f xf xt ds us D U) ∨
       (∃ D' d xf' xt' ds' us', D = D' ++ [d] ∧ n = 0 ∧ Row w' base S.T.api_Edit 3 (sv s.1) encE d.1 ∧ Row w' base S.T.api_Edit 3 (sv s.2) encE d.2 ∧ HistF w' base b f xf' xt' ds' us' D' (U ++ [d]))) := by
  refine S.history_History_move.call ?_
  unfold S.history_History_move
  refine sAlloc_new S.tze_history_Step fun b4 w1 hb4 hs1 he1 hk1 => ?_
  have h1 := h.ext he1
  have hbw : b < w.heap.size := h.blk.lt
  have hdl : ds.length = D.length := h.sf.1
  have hul : us.length = U.length := h.st.1
  refine JoinS.intro (fun v w' => w' = w1 ∧ ∃ t : Bool, v = [.bool t] ∧ (t = true ↔ D = [])) ?_ ?_
  · rw [sBin_ptr_eq S.tpt_P_history_History, Option.isNone_some, sIf_false, sNil_ptr, sFldA_ptr S.tfl_history_History_rows, rowi (i := f) (by omega) rfl, sLoad_cell S.tcell_L_history_Step (cell_at h1.blk (mk2_f hf)), sLen_sl S.tel_L_history_Step (h1.rf.sl encS_ok), sBin_eql]
    refine ⟨rfl, _, rfl, ?_⟩
    rw [decide_eq_true_eq, hdl]
    constructor
    · intro h; exact List.eq_nil_of_length_eq_zero (by omega)
    · rintro rfl; rfl
  rintro v vs w1 ⟨rfl, t, rfl, ht⟩
  unfold S.history_History_move_J1
  rw [hd, sIf_bool]
  refine ⟨fun h0 => ?_, fun h0 => ?_⟩
  · rw [sBuild_of (lp := []) (cs := encS NilS) S.tze_history_Step S.tpl_history_Step rfl rfl]
    refine sStore_blk (vs := encS NilS) S.tsz_history_Step (by decide) hk1 rfl rfl (by simp) (encS_ok.one NilS) fun w2 hs2 hg2 hk2 => ?_
    have hk2 : Blk w2 b4 (encS NilS) := hk2
    have E2 : Ext w w2 := he1.wr hg2 fun g hg => by cases hg; omega
    rw [sLoad_agg S.tagg_history_Step hk2.cells rfl]
    exact ⟨rfl, .of_ext E2, .of_ext E2, NilS, 6, rfl, .inl ⟨ht.1 h0, rfl, rfl, h.ext E2⟩⟩
  have hne : D ≠ [] := fun e => by rw [ht.2 e] at h0; cases h0
  obtain ⟨D', d, rfl⟩ : ∃ D' d, D = D' ++ [d] := ⟨_, _, (List.dropLast_concat_getLast hne).symm⟩
  have hdne : ds ≠ [] := fun e => by rw [e] at hdl; simp at hdl
  obtain ⟨ds', s, rfl⟩ : ∃ ds' s, ds = ds' ++ [s] := ⟨_, _, (List.dropLast_concat_getLast hdne).symm⟩
  have hdl' : ds'.length = D'.length := by simpa using hdl
  have hlen : (ds' ++ [s]).length = D'.length + 1 := by simp [hdl']
  have hs : (ds' ++ [s])[D'.length]? = some s := by rw [← hdl']; simp
  have hd' : (D' ++ [d])[D'.length]? = some d := by simp
  obtain ⟨bb, oo, hel, hc⟩ := (h1.rf.sl encS_ok).el hs
  have hDl : D'.length + 1 ≤ 1000 := by simpa using hD
  rw [sNil_ptr, sFldA_ptr S.tfl_history_History_rows, rowi (i := f) (by omega) rfl, sLoad_cell S.tcell_L_history_Step (cell_at h1.blk (mk2_f hf)), sLen_sl S.tel_L_history_Step (h1.rf.sl encS_ok), hlen, sBin_sub _ _ ⟨by omega, by omega⟩,
    sNil_ptr, sFldA_ptr S.tfl_history_History_rows, rowi (i := f) (by omega) rfl, sLoad_cell S.tcell_L_history_Step (cell_at h1.blk (mk2_f hf)), sIdxA_sl S.tel_L_history_Step S.tsz_history_Step (by decide) (h1.rf.sl encS_ok) hs (by omega), hel, sLoad_agg S.tagg_history_Step hc rfl]
  refine sVar S.tze_history_Step S.tsz_history_Step (by decide) rfl rfl (encS_ok.one s) fun b7 w2 hb7 hs2 he2 hk7 => ?_
  have E2 := he1.trans he2
  have h2 := h1.ext he2
  refine DrawS.ext ?_
  have E : Ext w2 w2.drew := (Ext.refl w2).drew
  rw [sNil_ptr, stillS_eq (fun w1 h1 K => sFldA_ptr S.tfl_history_History_rows) E, stillS_eq (fun w1 h1 K => rowi (i := f) (by omega) rfl) E, stillS_cell S.tcell_L_history_Step (cell_at h2.blk (mk2_f hf)) E,
    stillS_eq (fun w1 h1 K => sSlice_h (hi := D'.length) S.tel_L_history_Step S.tsz_history_Step (by decide) ((h2.rf.ext h1).sl encS_ok) (by omega) (by omega)) E,
    sNil_ptr, stillS_eq (fun w1 h1 K => sFldA_ptr S.tfl_history_History_rows) E, stillS_eq (fun w1 h1 K => rowi (i := f) (by omega) rfl) E]
  have r3 := (h2.rf.ext E).part encS_ok (lo := 0) (hi := D'.length) (by omega) (by omega)
  have ht' : (ds' ++ [s]).take D'.length = ds' := by rw [← hdl']; simp
  rw [ht', List.drop_zero] at r3
  refine sStore_blk S.tsz_L_history_Step (by decide) (h2.blk.ext E) r3.shape.1 rfl (by rw [mk2_len]; omega) (by simpa using r3.shape.2) fun w3 hs3 hg3 hk3 => ?_
  rw [mk2_setf hf] at hk3
  have F3 : Frm S.T.history_Step base b w w3 := (Frm.of_ext (E2.trans E)).trans (.of_grown hg3 fun g hg => .inl (by cases hg; rfl))
  have mkS : ∀ {a c : Value}, isS a = true → isS c = true → ∀ u ∈ mk2 f a c, isS u = true := fun h1 h2 => by unfold mk2; split; exact two_isS h1 h2; exact two_isS h2 h1
  have K3 : Kp w w3 := (Kp.of_ext (E2.trans E)).trans (.of_grown hg3 fun g hg _ => by cases hg; exact (h2.blk.ext E).isS (mkS (row_isS h2.rf) (row_isS h2.rt)))
  have aT3 : OwnS w3 xt := (h.aT.ext (E2.trans E)).wr hg3 (row_ne (h2.rt.ext E) h.hb)
  have aF3 : OwnS w3 (slV xf 2 0 D'.length (capV xf)) := OwnS.wr (fun g hg => (h.aF.ext (E2.trans E)) g (by rw [slV_own] at hg; exact hg)) hg3 (row_ne r3 h.hb)
  have r33 := r3.wr hg3 (row_ne r3 h.hb)
  have rt3 := (h2.rt.ext E).wr hg3 (row_ne (h2.rt.ext E) h.hb)
  have k73 : Blk w3 b7 (encS s) := (hk7.ext E).wr hg3 (by intro e; cases e; omega)
  have k43 : Blk w3 b4 [.slice none 0 0, .slice none 0 0] := ((hk1.ext he2).ext E).wr hg3 (by intro e; cases e; omega)
  have hs3' : base ≤ w3.heap.size := by have := F3.size; omega
  have ht0 : ∀ g, xt.ownBlock = some g → base ≤ g ∧ g < w.heap.size := fun g hg => h.rt.lt g hg
  have hbt : some b ≠ xt.ownBlock := fun e => by have := ht0 b e.symm; have := h.hb; omega
  have hb7t : some b7 ≠ xt.ownBlock := fun e => by have := ht0 b7 e.symm; have := he1.size; omega
  have hb4t : some b4 ≠ xt.ownBlock := fun e => by have := ht0 b4 e.symm; omega
  refine DrawS.intro (fun w' => w3.grownBy w' xt.ownBlock) (grown_drew _ _) ?_
  have C0 := grown_drew w3 xt.ownBlock
  have hone : (1 : Int) - (f : Int) = ((1 - f : Nat) : Int) := by omega
  rw [stillC_eq (fun w1 h1 K => sBin_sub _ _ ⟨by omega, by omega⟩) C0, stillC_eq (fun w1 h1 K => sBin_sub _ _ ⟨by omega, by omega⟩) C0, sNil_ptr, stillC_eq (fun w1 h1 K => sFldA_ptr S.tfl_history_History_rows) C0, stillC_eq (fun w1 h1 K => rowi (i := 1 - f) (by omega) hone) C0,
    stillC_eq (fun w1 (h1 : w3.grownBy w1 _) K => sLoad_cell S.tcell_L_history_Step (cell_at (hk3.wr h1 hbt) (mk2_t hf))) C0, stillC_eq (fun w1 (h1 : w3.grownBy w1 _) K => sLoad_agg S.tagg_history_Step (k73.wr h1 hb7t).cells rfl) C0,
    sNil_ptr, stillC_eq (fun w1 h1 K => sFldA_ptr S.tfl_history_History_rows) C0]
  refine sBuildSlice_own (enc := encS) (xs := [s]) (lp := [(0, encS s)]) S.tel_L_history_Step S.tsz_history_Step rfl S.tze_history_Step (by decide) (by decide) encS_ok rfl rfl fun t w5 ht ho5 he5 hs5 => ?_
  have C5 := grown_trans C0 (grown_of_ext he5 _)
  refine ⟨C5, ?_⟩
  have rt5 := (rt3.ext (Ext.refl w3).drew).ext he5
  have hw5 : base ≤ w5.heap.size := by have := C5.size; omega
  refine sAppend_rowS S.tel_L_history_Step S.tsz_history_Step (by decide) S.tze_history_Step rfl encS_ok rt5 hw5 (ho5.sl encS_ok) (by simp) (by have : maxLen = 9223372036854775807 := rfl; simp; omega) (by rw [S.tby_history_Step]; simp; omega) ((aT3.ext (Ext.refl w3).drew).ext he5) (fun u hu => by simp at hu; rcases hu with rfl | rfl <;> rfl) encS_isS fun xt' w6 r06 g6 hor hS6 => ?_
  have C6 := grown_trans C5 g6
  refine ⟨C6, ?_⟩
  rw [stillC_eq (fun w1 h1 K => rowi (i := 1 - f) (by omega) hone) C6]
  refine sStore_blk S.tsz_L_history_Step (by decide) (hk3.wr C6 hbt) r06.shape.1 rfl (by rw [mk2_len]; omega) (by simpa using r06.shape.2) fun w7 hs7 hg7 hk77 => ?_
  rw [mk2_sett hf] at hk77
  have k77 : Blk w7 b7 (encS s) := (k73.wr C6 hb7t).wr hg7 (by intro e; cases e; omega)
  have k47 : Blk w7 b4 [.slice none 0 0, .slice none 0 0] := (k43.wr C6 hb4t).wr hg7 (by intro e; cases e; omega)
  rw [sLoad_agg S.tagg_history_Step k77.cells rfl]
  refine sStore_blk (vs := encS s) S.tsz_history_Step (by decide) k47 rfl rfl (by simp) (encS_ok.one s) fun w8 hs8 hg8 hk8 => ?_
  have hk8 : Blk w8 b4 (encS s) := hk8
  rw [sLoad_agg S.tagg_history_Step hk8.cells rfl]
  have G36 : Frm S.T.history_Step base b w3 w7 := (Frm.of_grown C6 fun g hg => .inr (rt3.ty hg)).trans (.of_grown hg7 fun g hg => .inl (by cases hg; rfl))
  have F7 := F3.trans G36
  have F8 : Frm S.T.history_Step base b w w8 := by
    refine ⟨hg8.os.trans F7.os, hg8.tape.trans F7.tape, hg8.output.trans F7.output, Nat.le_trans F7.size hg8.size, fun k hk hb hT => ?_⟩
    exact (hg8.block k (by have := F7.size; omega) (by intro e; cases e; omega)).trans (F7.blk k hk hb hT)
  have s8 : Steps w8 base (ds' ++ [s]) (D' ++ [d]) := h.sf.frm h.hb F8
  have u8 : Steps w8 base us U := h.st.frm h.hb F8
  obtain ⟨q1, q2⟩ := s8.2 _ s d hs hd'
  -- the source row, behind the append and the two stores
  have hxo : (slV xf 2 0 D'.length (capV xf)).ownBlock = xf.ownBlock := slV_own
  have hf0 : ∀ g, xf.ownBlock = some g → base ≤ g ∧ g < w.heap.size := fun g hg => h.rf.lt g hg
  have c36 : (slV xf 2 0 D'.length (capV xf)).ownBlock = none ∨ (slV xf 2 0 D'.length (capV xf)).ownBlock ≠ xt.ownBlock := by
    rw [hxo]
    cases hv : xf.ownBlock with
    | none => exact .inl rfl
    | some g => exact .inr fun e => h.ne g hv e.symm
  have c38 : (slV xf 2 0 D'.length (capV xf)).ownBlock = none ∨ (slV xf 2 0 D'.length (capV xf)).ownBlock ≠ some b4 := by
    rw [hxo]
    cases hv : xf.ownBlock with
    | none => exact .inl rfl
    | some g => exact .inr (by intro e; cases e; have := hf0 b4 hv; omega)
  have r36 : Row w6 base S.T.history_Step 2 (slV xf 2 0 D'.length (capV xf)) encS ds' := r33.wr C6 c36
  have r37 := r36.wr hg7 (row_ne r36 h.hb)
  have r38 := r37.wr hg8 c38
  have aF8 := ((aF3.wr C6 c36).wr hg7 (row_ne r36 h.hb)).wr hg8 c38
  have hw45 : b4 < w5.heap.size := by have := C5.size; have := he2.size; have e0 : w2.drew.heap.size = w2.heap.size := rfl; omega
  have c08 : xt'.ownBlock = none ∨ xt'.ownBlock ≠ some b4 := by
    cases hv : xt'.ownBlock with
    | none => exact .inl rfl
    | some g =>
      refine .inr ?_
      intro e; cases e
      rcases hor with h9 | h9
      · rw [hv] at h9; have := ht0 b4 h9.symm; omega
      · have := h9 b4 hv; omega
  have r08 := (r06.wr hg7 (row_ne r06 h.hb)).wr hg8 c08
  have aT8 := (hS6.wr hg7 (row_ne r06 h.hb)).wr hg8 c08
  have K6 : Kp w w6 := K3.trans (.of_grown C6 fun g hg _ => aT3 g hg)
  have K7 : Kp w w7 := K6.trans (.of_grown hg7 fun g hg _ => by cases hg; exact (hk3.wr C6 hbt).isS (mkS (row_isS r36) (row_isS (h.rt))))
  have K8 : Kp w w8 := K7.trans (.of_grown hg8 fun g hg _ => by cases hg; exact k47.isS (two_isS rfl rfl))
  have hk88 : Blk w8 b (mk2 f (slV xf 2 0 D'.length (capV xf)) xt') := hk77.wr hg8 (by intro e; cases e; omega)
  refine ⟨rfl, F8, K8, s, 0, rfl, .inr ⟨D', d, _, xt', ds', us ++ [s], rfl, rfl, q1, q2, h.hb, hk88, r38, r08, fun g h9 h10 => ?_, ?_, u8.push q1 q2, aF8, aT8⟩⟩
  · rw [hxo] at h9
    rcases hor with h11 | h11
    · rw [h11] at h10; exact h.ne g h9 h10
    · have := h11 g h10; have := hf0 g h9; have := he1.size; have := he2.size; have := C5.size; omega
  · have := s8.take D'.length
    rw [ht', List.take_left' rfl] at this
    exact this
end Go.Proofs.YtpjmmhbdondknaaDoor.H

/- What the document's own history ('bodkinref12') does. Conditions: the state. -/
import Derived.Test.YtphpegpbkapieaaW5
namespace Go.Proofs.Ytphpegpbkapieaa
open Go Go.Lift Go.RowKit

/-- Steps that hold what was handed in: read anywhere. -/
def Held (w : World) (ds : List (SV × SV)) (D : List (List Ed × List Ed)) : Prop :=
  ds.length = D.length ∧ ∀ (i : Nat) (s : SV × SV) (d : List Ed × List Ed), ds[i]? = some s → D[i]? = some d → Sl w (sv s.1) 3 encE d.1 ∧ Sl w (sv s.2) 3 encE d.2
theorem Held.ext {w w' : World} {ds : List (SV × SV)} {D : List (List Ed × List Ed)} (h : Held w ds D) (he : Ext w w') : Held w' ds D :=
  ⟨h.1, fun i s d hs hd => ⟨(h.2 i s d hs hd).1.ext he, (h.2 i s d hs hd).2.ext he⟩⟩
theorem Held.take {w : World} {ds : List (SV × SV)} {D : List (List Ed × List Ed)} (h : Held w ds D) (n : Nat) : Held w (ds.take n) (D.take n) := by
  refine ⟨by simp [h.1], fun i s d hs hd => ?_⟩
  rw [List.getElem?_take] at hs hd
  split at hs
  · rename_i hi; rw [if_pos hi] at hd; exact h.2 _ s d hs hd
  · cases hs
theorem Held.drop {w : World} {ds : List (SV × SV)} {D : List (List Ed × List Ed)} (h : Held w ds D) (n : Nat) : Held w (ds.drop n) (D.drop n) := by
  refine ⟨by simp [h.1], fun i s d hs hd => ?_⟩
  rw [List.getElem?_drop] at hs hd
  exact h.2 _ s d hs hd
theorem Held.push {w : World} {ds : List (SV × SV)} {D : List (List Ed × List Ed)} (h : Held w ds D) {s : SV × SV} {d : List Ed × List Ed} (h1 : Sl w (sv s.1) 3 encE d.1) (h2 : Sl w (sv s.2) 3 encE d.2) : Held w (ds ++ [s]) (D ++ [d]) := by
  refine ⟨by simp [h.1], fun i s' d' hs hd => ?_⟩
  rw [List.getElem?_append] at hs hd
  rw [h.1] at hs
  split at hs
  · rename_i hi
    rw [if_pos hi] at hd
    exact h.2 i s' d' hs hd
  · rename_i hi
    rw [if_neg hi] at hd
    cases hj : i - D.length with
    | zero => rw [hj] at hs hd; cases hs; cases hd; exact ⟨h1, h2⟩
    | succ j => rw [hj] at hs; simp at hs
/-- The state: all steps, and how many of them are done. W0: the world that the steps were handed in from. -/
structure RefAt (W0 w : World) (base c : Nat) (l : Value) (ds : List (SV × SV)) (L : List (List Ed × List Ed)) (n : Nat) : Prop where
  hc : c < base
  blk : Blk w c [l, .int .i64 n]
  row : Row w base S.T.bodkinref12_Step 2 l encS ds
  held : Held W0 ds L
  le : n ≤ L.length
def Ref (W0 w : World) (base c : Nat) (L : List (List Ed × List Ed)) (n : Nat) : Prop := ∃ l ds, RefAt W0 w base c l ds L n

/-- Nothing but the block is written. -/
abbrev Only (c : Nat) (w w' : World) : Prop := w.grownBy w' (some c)

theorem refpush_spec {W0 w : World} {base c n : Nat} {L : List (List Ed × List Ed)} (h : Ref W0 w base c L n) (hbase : base ≤ w.heap.size) (hn : n ≤ 100) {bv fv : SV} {bs fs : List Ed} (hbv : Sl W0 (sv bv) 3 encE bs) (hfv : Sl W0 (sv fv) 3 encE fs) :
    sCall Try.prog S.bodkinref12_History_Push.n [.pointer (some ⟨c, 0, none⟩), .agg #[sv bv, sv fv]] w fun _ w' => Only c w w' ∧ Ref W0 w' base c (cut (L.take n ++ [(bs, fs)])) (cut (L.take n ++ [(bs, fs)])).length := by
  obtain ⟨l, ds, h⟩ := h
  refine S.bodkinref12_History_Push.call ?_
  unfold S.bodkinref12_History_Push
  have hcw := h.blk.lt
  have hdl : ds.length = L.length := h.held.1
  have hle := h.le
  refine sBox_new (cs := [sv bv, sv fv]) rfl fun b3 w1 hb3 hs1 he1 hk1 => ?_
  have k1 := h.blk.ext he1
  refine JoinS.intro (fun us w' => w' = w1 ∧ us = [.int .i64 ((n - 99 : Nat) : Int)]) ?_ ?_
  · rw [sNil_ptr, sFldA_ptr S.tfl_bodkinref12_History_N, sLoad_cell S.tcell_int (k1.cells.at 1 rfl), sBin_eql, sIf_dec]
    exact ⟨fun h => ⟨rfl, by congr 2; omega⟩, fun h => ⟨rfl, by congr 2; omega⟩⟩
  rintro us vs w1 ⟨rfl, rfl⟩
  unfold S.bodkinref12_History_Push_J1
  have r1 := h.row.ext he1
  refine DrawS.ext ?_
  have E : Ext w1 w1.drew := (Ext.refl w1).drew
  rw [hd, sNil_ptr, stillS_eq (fun w1 h1 K => sFldA_ptr S.tfl_bodkinref12_History_L) E, stillS_cell S.tcell_L_bodkinref12_Step (k1.cells.at 0 rfl) E, sNil_ptr, stillS_eq (fun w1 h1 K => sFldA_ptr S.tfl_bodkinref12_History_N) E, stillS_cell S.tcell_int (k1.cells.at 1 rfl) E,
    stillS_eq (fun w1 h1 K => sSlice_lh (lo := n - 99) (hi := n) S.tel_L_bodkinref12_Step S.tsz_bodkinref12_Step (by decide) ((r1.ext h1).sl encS_ok) rfl rfl (by omega) (by omega)) E]
  have r2 := (r1.ext E).part encS_ok (lo := n - 99) (hi := n) (by omega) (by omega)
  refine sAppend_own (base := w.heap.size) (enc := encS) (xs := []) S.tel_L_bodkinref12_Step S.tsz_bodkinref12_Step (by decide) S.tze_bodkinref12_Step rfl encS_ok (Own.nil _ _ _ _ _) (by have := he1.size; exact this) (r2.sl encS_ok) (by have : maxLen = 9223372036854775807 := rfl; simp; omega) (by rw [S.tby_bodkinref12_Step]; simp; omega) fun v2 w2 ho2 hg2 => ?_
  rw [List.nil_append] at ho2
  have e2 : Ext w1 w2 := E.wr hg2 fun g hg => by cases hg
  have hxl : ((ds.take n).drop (n - 99)).length = n - (n - 99) := by simp; omega
  refine ⟨e2, ?_⟩
  rw [sLoad_agg S.tagg_bodkinref12_Step (hk1.ext e2).cells rfl]
  refine sBuildSlice_own (n := 1) (enc := encS) (xs := [(bv, fv)]) (lp := [(0, encS (bv, fv))]) S.tel_L_bodkinref12_Step S.tsz_bodkinref12_Step rfl S.tze_bodkinref12_Step (by decide) (by decide) encS_ok rfl rfl fun t w3 ht ho3 he3 hs3 => ?_
  have E3 : Ext w w3 := (he1.trans e2).trans he3
  have r3 := ho2.row.ext he3
  refine sAppend_row S.tel_L_bodkinref12_Step S.tsz_bodkinref12_Step (by decide) S.tze_bodkinref12_Step rfl encS_ok r3 E3.size (ho3.sl encS_ok) (by have : maxLen = 9223372036854775807 := rfl; simp; omega) (by rw [S.tby_bodkinref12_Step, hxl]; simp; omega) fun v4 w4 r4 hg4 hor => ?_
  have E4 : Ext w w4 := E3.wr hg4 fun g hg => (r3.lt g hg).1
  rw [sNil_ptr, sFldA_ptr S.tfl_bodkinref12_History_L]
  refine sStore_blk S.tsz_L_bodkinref12_Step (by decide) (h.blk.ext E4) r4.shape.1 rfl (by simp) (by simpa using r4.shape.2) fun w5 hs5 hg5 hk5 => ?_
  have hk5 : Blk w5 c [v4, .int .i64 n] := hk5
  have hne4 : v4.ownBlock = none ∨ v4.ownBlock ≠ some c := by
    cases hv : v4.ownBlock with
    | none => exact .inl rfl
    | some g => exact .inr (by intro e; cases e; have := r4.lt c hv; omega)
  have r5 := r4.wr hg5 hne4
  have hcut : cut (L.take n ++ [(bs, fs)]) = (L.take n).drop (n - 99) ++ [(bs, fs)] := by
    have hl : (L.take n ++ [(bs, fs)]).length = n + 1 := by simp; omega
    unfold cut
    rw [hl, List.drop_append_of_le_length (by simp; omega)]
    congr 2
  have hcl : (cut (L.take n ++ [(bs, fs)])).length = n - (n - 99) + 1 := by rw [hcut]; simp; omega
  have hyl : ((ds.take n).drop (n - 99) ++ [(bv, fv)]).length = n - (n - 99) + 1 := by rw [List.length_append, hxl]; rfl
  rw [sLen_sl S.tel_L_bodkinref12_Step (r5.sl encS_ok), hyl, ← hcl, sNil_ptr, sFldA_ptr S.tfl_bodkinref12_History_N]
  refine sStore_blk (vs := [.int .i64 (cut (L.take n ++ [(bs, fs)])).length]) S.tsz_int (by decide) hk5 rfl rfl (by simp) (by intro u hu; simp at hu; subst hu; rfl) fun w6 hs6 hg6 hk6 => ?_
  have hk6 : Blk w6 c [v4, .int .i64 (cut (L.take n ++ [(bs, fs)])).length] := hk6
  refine ⟨grown_trans (grown_trans (grown_of_ext E4 _) hg5) hg6, v4, _, h.hc, hk6, (r5.wr hg6 hne4).mono hbase, ?_, Nat.le_refl _⟩
  rw [hcut]
  exact (((h.held.take n).drop _)).push hbv hfv

theorem refundo_spec {W0 w : World} {base c n : Nat} {L : List (List Ed × List Ed)} (h : Ref W0 w base c L n) (hL : L.length ≤ 1000) :
    sCall Try.prog S.bodkinref12_History_Undo.n [.pointer (some ⟨c, 0, none⟩)] w fun u w' => Only c w w' ∧ ∃ (v : Value) (m : Int) (l : List Ed), u = .tuple #[v, .int .i64 m] ∧ ((n = 0 ∧ m = 6 ∧ v = .slice none 0 0 ∧ l = [] ∧ Ref W0 w' base c L n) ∨
      (∃ k d, n = k + 1 ∧ L[k]? = some d ∧ m = 0 ∧ l = d.1 ∧ Sl W0 v 3 encE l ∧ Ref W0 w' base c L k)) := by
  obtain ⟨l, ds, h⟩ := h
  refine S.bodkinref12_History_Undo.call ?_
  unfold S.bodkinref12_History_Undo
  have hdl : ds.length = L.length := h.held.1
  have hle := h.le
  rw [sNil_ptr, sFldA_ptr S.tfl_bodkinref12_History_N, sLoad_cell S.tcell_int (h.blk.cells.at 1 rfl), sBin_eql, sIf_dec]
  refine ⟨fun h0 => ⟨grown_refl _ _, _, 6, [], rfl, .inl ⟨by omega, rfl, rfl, rfl, l, ds, h⟩⟩, fun h0 => ?_⟩
  obtain ⟨k, rfl⟩ : ∃ k, n = k + 1 := ⟨n - 1, by omega⟩
  obtain ⟨s, hs⟩ : ∃ s, ds[k]? = some s := ⟨_, List.getElem?_eq_getElem (by omega)⟩
  obtain ⟨d, hd'⟩ : ∃ d, L[k]? = some d := ⟨_, List.getElem?_eq_getElem (by omega)⟩
  rw [sNil_ptr, sFldA_ptr S.tfl_bodkinref12_History_N, sLoad_cell S.tcell_int (h.blk.cells.at 1 rfl), sBin_sub _ _ ⟨by omega, by omega⟩, sNil_ptr, sFldA_ptr S.tfl_bodkinref12_History_N, show (((k + 1 : Nat) : Int) - 1) = (k : Int) from by omega]
  refine sStore_blk (vs := [.int .i64 k]) S.tsz_int (by decide) h.blk rfl rfl (by simp) (by intro u hu; simp at hu; subst hu; rfl) fun w1 hs1 hg1 hk1 => ?_
  have hk1 : Blk w1 c [l, .int .i64 k] := hk1
  have r1 := h.row.wr hg1 (by
    cases hv : l.ownBlock with
    | none => exact .inl rfl
    | some g => exact .inr (by intro e; cases e; have := h.row.lt c hv; have := h.hc; omega))
  obtain ⟨bb, oo, hel, hc⟩ := (r1.sl encS_ok).el hs
  refine DrawS.ext ?_
  have E : Ext w1 w1.drew := (Ext.refl w1).drew
  rw [sNil_ptr, stillS_eq (fun w1 h1 K => sFldA_ptr S.tfl_bodkinref12_History_L) E, stillS_cell S.tcell_L_bodkinref12_Step (hk1.cells.at 0 rfl) E, sNil_ptr, stillS_eq (fun w1 h1 K => sFldA_ptr S.tfl_bodkinref12_History_N) E, stillS_cell S.tcell_int (hk1.cells.at 1 rfl) E,
    stillS_eq (fun w1 h1 K => sIdxA_sl S.tel_L_bodkinref12_Step S.tsz_bodkinref12_Step (by decide) ((r1.ext h1).sl encS_ok) hs rfl) E, hel, stillS_eq (fun w1 h1 K => sFldA_ptr S.tfl_bodkinref12_Step_Back) E, stillS_cell S.tcell_L_api_Edit (hc.at 0 rfl) E]
  exact ⟨grown_trans hg1 (grown_of_ext E _), _, 0, d.1, rfl, .inr ⟨k, d, rfl, hd', rfl, rfl, (h.held.2 k s d hs hd').1, l, ds, h.hc, hk1.ext E, r1.ext E, h.held, by omega⟩⟩

theorem refredo_spec {W0 w : World} {base c n : Nat} {L : List (List Ed × List Ed)} (h : Ref W0 w base c L n) (hL : L.length ≤ 1000) :
    sCall Try.prog S.bodkinref12_History_Redo.n [.pointer (some ⟨c, 0, none⟩)] w fun u w' => Only c w w' ∧ ∃ (v : Value) (m : Int) (l : List Ed), u = .tuple #[v, .int .i64 m] ∧ ((n = L.length ∧ m = 6 ∧ v = .slice none 0 0 ∧ l = [] ∧ Ref W0 w' base c L n) ∨
      (∃ d, L[n]? = some d ∧ m = 0 ∧ l = d.2 ∧ Sl W0 v 3 encE l ∧ Ref W0 w' base c L (n + 1))) := by
  obtain ⟨l, ds, h⟩ := h
  refine S.bodkinref12_History_Redo.call ?_
  unfold S.bodkinref12_History_Redo
  have hdl : ds.length = L.length := h.held.1
  have hle := h.le
  refine DrawS.ext ?_
  have E0 : Ext w w.drew := (Ext.refl w).drew
  rw [sNil_ptr, stillS_eq (fun w1 h1 K => sFldA_ptr S.tfl_bodkinref12_History_N) E0, stillS_cell S.tcell_int (h.blk.cells.at 1 rfl) E0, sNil_ptr, stillS_eq (fun w1 h1 K => sFldA_ptr S.tfl_bodkinref12_History_L) E0, stillS_cell S.tcell_L_bodkinref12_Step (h.blk.cells.at 0 rfl) E0,
    stillS_eq (fun w1 h1 K => sLen_sl S.tel_L_bodkinref12_Step ((h.row.ext h1).sl encS_ok)) E0, stillS_eq (fun w1 h1 K => sBin_eql _ _) E0, sIf_dec]
  refine ⟨fun h0 => ⟨grown_of_ext E0 _, _, 6, [], rfl, .inl ⟨by omega, rfl, rfl, rfl, l, ds, h.hc, h.blk.ext E0, h.row.ext E0, h.held, hle⟩⟩, fun h0 => ?_⟩
  obtain ⟨s, hs⟩ : ∃ s, ds[n]? = some s := ⟨_, List.getElem?_eq_getElem (by omega)⟩
  obtain ⟨d, hd'⟩ : ∃ d, L[n]? = some d := ⟨_, List.getElem?_eq_getElem (by omega)⟩
  have r0 := h.row.ext E0
  rw [sNil_ptr, sFldA_ptr S.tfl_bodkinref12_History_N, sLoad_cell S.tcell_int ((h.blk.ext E0).cells.at 1 rfl), sBin_add _ _ ⟨by omega, by omega⟩, sNil_ptr, sFldA_ptr S.tfl_bodkinref12_History_N, show ((n : Int) + 1) = ((n + 1 : Nat) : Int) from by omega]
  refine sStore_blk (vs := [.int .i64 (n + 1 : Nat)]) S.tsz_int (by decide) (h.blk.ext E0) rfl rfl (by simp) (by intro u hu; simp at hu; subst hu; rfl) fun w1 hs1 hg1 hk1 => ?_
  have hk1 : Blk w1 c [l, .int .i64 (n + 1 : Nat)] := hk1
  have r1 := r0.wr hg1 (by
    cases hv : l.ownBlock with
    | none => exact .inl rfl
    | some g => exact .inr (by intro e; cases e; have := h.row.lt c hv; have := h.hc; omega))
  obtain ⟨bb, oo, hel, hc⟩ := (r1.sl encS_ok).el hs
  refine DrawS.ext ?_
  have E : Ext w1 w1.drew := (Ext.refl w1).drew
  rw [sNil_ptr, stillS_eq (fun w1 h1 K => sFldA_ptr S.tfl_bodkinref12_History_L) E, stillS_cell S.tcell_L_bodkinref12_Step (hk1.cells.at 0 rfl) E, sNil_ptr, stillS_eq (fun w1 h1 K => sFldA_ptr S.tfl_bodkinref12_History_N) E, stillS_cell S.tcell_int (hk1.cells.at 1 rfl) E,
    stillS_eq (fun w1 h1 K => sBin_sub _ _ ⟨by omega, by omega⟩) E, stillS_eq (fun w1 h1 K => sIdxA_sl S.tel_L_bodkinref12_Step S.tsz_bodkinref12_Step (by decide) ((r1.ext h1).sl encS_ok) hs (by omega)) E, hel, stillS_eq (fun w1 h1 K => sFldA_ptr S.tfl_bodkinref12_Step_Forth) E, stillS_cell S.tcell_L_api_Edit (hc.at 1 rfl) E]
  exact ⟨grown_trans (grown_trans (grown_of_ext E0 _) hg1) (grown_of_ext E _), _, 0, d.2, rfl, .inr ⟨d, hd', rfl, rfl, (h.held.2 n s d hs hd').2, l, ds, h.hc, hk1.ext E, r1.ext E, h.held, by omega⟩⟩
end Go.Proofs.Ytphpegpbkapieaa

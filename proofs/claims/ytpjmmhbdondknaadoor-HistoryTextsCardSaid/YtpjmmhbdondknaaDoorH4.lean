/- What 'Undo', 'Redo' and 'Sizes' of a history do; all of it at a nil history too. Conditions: the state. -/
import Derived.Test.YtpjmmhbdondknaaDoorH3
namespace Go.Proofs.YtpjmmhbdondknaaDoor.H
open Go Go.Lift Go.RowKit Go.Txt

def Sm (D : List (List Ed × List Ed)) : Prop := ∀ d ∈ D, d.1.length ≤ 1000 ∧ d.2.length ≤ 1000
theorem undo_spec {w : World} {base b : Nat} {D U : List (List Ed × List Ed)} (h : Hist w base b D U) (hbase : base ≤ w.heap.size) (hD : D.length ≤ 1000) (hU : U.length ≤ 1000) (hm : Sm D) :
    sCall Tryd.prog S.history_History_Undo.n [.pointer (some ⟨b, 0, none⟩)] w fun u w' => Frm S.T.history_Step base b w w' ∧ Kp w w' ∧ ∃ (v : Value) (n : Int) (l : List Ed), u = .tuple #[v, .int .i64 n] ∧ Row w' base S.T.api_Edit 3 v encE l ∧
      ((D = [] ∧ n = 6 ∧ l = [] ∧ Hist w' base b D U) ∨ (∃ D' d, D = D' ++ [d] ∧ n = 0 ∧ l = d.1 ∧ Hist w' base b D' (U ++ [d]))) := by
  obtain ⟨x0, x1, ds, us, h⟩ := h
  refine S.history_History_Undo.call ?_
  unfold S.history_History_Undo
  refine (move_spec (f := 0) h.f0 (by omega) hbase hD hU).mono ?_
  rintro u w1 ⟨F1, K1', s, n, rfl, hc⟩
  rw [sExtract_0, sExtract_1]
  have hs1 := F1.size
  refine sVar S.tze_history_Step S.tsz_history_Step (by decide) rfl rfl (encS_ok.one s) fun b2 w2 hb2 hs2 he2 hk2 => ?_
  rw [sFldA_ptr S.tfl_history_Step_Back, sLoad_cell S.tcell_L_api_Edit (hk2.cells.at 0 rfl)]
  rcases hc with ⟨rfl, rfl, rfl, hh⟩ | ⟨D', d, xf', xt', ds', us', rfl, rfl, q1, q2, hh⟩
  · refine (clone_spec (xs := []) (Sl.nil w2 3 encE) (by simp)).mono ?_
    rintro v w3 ⟨e3, hv⟩
    exact ⟨F1.trans (.of_ext (he2.trans e3)), K1'.trans (.of_ext (he2.trans e3)), v, 6, [], rfl, hv.mono (by omega), .inl ⟨rfl, rfl, rfl, hh.at0.ext (he2.trans e3)⟩⟩
  · refine (clone_spec ((q1.ext he2).sl encE_ok) (hm d (by simp)).1).mono ?_
    rintro v w3 ⟨e3, hv⟩
    exact ⟨F1.trans (.of_ext (he2.trans e3)), K1'.trans (.of_ext (he2.trans e3)), v, 0, d.1, rfl, hv.mono (by omega), .inr ⟨D', d, rfl, rfl, rfl, hh.at0.ext (he2.trans e3)⟩⟩
theorem redo_spec {w : World} {base b : Nat} {D U : List (List Ed × List Ed)} (h : Hist w base b D U) (hbase : base ≤ w.heap.size) (hD : D.length ≤ 1000) (hU : U.length ≤ 1000) (hm : Sm U) :
    sCall Tryd.prog S.history_History_Redo.n [.pointer (some ⟨b, 0, none⟩)] w fun u w' => Frm S.T.history_Step base b w w' ∧ Kp w w' ∧ ∃ (v : Value) (n : Int) (l : List Ed), u = .tuple #[v, .int .i64 n] ∧ Row w' base S.T.api_Edit 3 v encE l ∧
      ((U = [] ∧ n = 6 ∧ l = [] ∧ Hist w' base b D U) ∨ (∃ U' d, U = U' ++ [d] ∧ n = 0 ∧ l = d.2 ∧ Hist w' base b (D ++ [d]) U')) := by
  obtain ⟨x0, x1, ds, us, h⟩ := h
  refine S.history_History_Redo.call ?_
  unfold S.history_History_Redo
  refine (move_spec (f := 1) h.f1 (by omega) hbase hU hD).mono ?_
  rintro u w1 ⟨F1, K1', s, n, rfl, hc⟩
  rw [sExtract_0, sExtract_1]
  have hs1 := F1.size
  refine sVar S.tze_history_Step S.tsz_history_Step (by decide) rfl rfl (encS_ok.one s) fun b2 w2 hb2 hs2 he2 hk2 => ?_
  rw [sFldA_ptr S.tfl_history_Step_Forth, sLoad_cell S.tcell_L_api_Edit (hk2.cells.at 1 rfl)]
  rcases hc with ⟨rfl, rfl, rfl, hh⟩ | ⟨D', d, xf', xt', ds', us', rfl, rfl, q1, q2, hh⟩
  · refine (clone_spec (xs := []) (Sl.nil w2 3 encE) (by simp)).mono ?_
    rintro v w3 ⟨e3, hv⟩
    exact ⟨F1.trans (.of_ext (he2.trans e3)), K1'.trans (.of_ext (he2.trans e3)), v, 6, [], rfl, hv.mono (by omega), .inl ⟨rfl, rfl, rfl, hh.at1.ext (he2.trans e3)⟩⟩
  · refine (clone_spec ((q2.ext he2).sl encE_ok) (hm d (by simp)).2).mono ?_
    rintro v w3 ⟨e3, hv⟩
    exact ⟨F1.trans (.of_ext (he2.trans e3)), K1'.trans (.of_ext (he2.trans e3)), v, 0, d.2, rfl, hv.mono (by omega), .inr ⟨D', d, rfl, rfl, rfl, hh.at1.ext (he2.trans e3)⟩⟩

theorem sizes_spec {w : World} {base b : Nat} {D U : List (List Ed × List Ed)} (h : Hist w base b D U) :
    sCall Tryd.prog S.history_History_Sizes.n [.pointer (some ⟨b, 0, none⟩)] w fun u w' => Ext w w' ∧ u = .tuple #[.int .i64 D.length, .int .i64 U.length] := by
  obtain ⟨x0, x1, ds, us, h⟩ := h
  refine S.history_History_Sizes.call ?_
  unfold S.history_History_Sizes
  rw [sBin_ptr_eq S.tpt_P_history_History, Option.isNone_some, sIf_false]
  refine DrawS.ext ?_
  have E : Ext w w.drew := (Ext.refl w).drew
  rw [sNil_ptr, stillS_eq (fun w1 h1 K => sFldA_ptr S.tfl_history_History_rows) E, stillS_eq (fun w1 h1 K => row0) E, stillS_cell S.tcell_L_history_Step (cell_at h.blk rfl) E, stillS_eq (fun w1 h1 K => sLen_sl S.tel_L_history_Step ((h.r0.ext h1).sl encS_ok)) E,
    sNil_ptr, stillS_eq (fun w1 h1 K => sFldA_ptr S.tfl_history_History_rows) E, stillS_eq (fun w1 h1 K => row1) E, stillS_cell S.tcell_L_history_Step (cell_at h.blk rfl) E, stillS_eq (fun w1 h1 K => sLen_sl S.tel_L_history_Step ((h.r1.ext h1).sl encS_ok)) E,
    h.s0.1, h.s1.1]
  exact ⟨E, rfl⟩

/-! ## At nil -/
theorem move_nil {w : World} (f : Value) : sCall Tryd.prog S.history_History_move.n [.pointer none, f] w fun u w' => Ext w w' ∧ u = .tuple #[.agg (encS NilS).toArray, .int .i64 6] := by
  refine S.history_History_move.call ?_
  unfold S.history_History_move
  refine sAlloc_new S.tze_history_Step fun b4 w1 hb4 hs1 he1 hk1 => ?_
  refine JoinS.intro (fun v w' => w' = w1 ∧ v = [.bool true]) ?_ ?_
  · rw [sBin_ptr_eq S.tpt_P_history_History, Option.isNone_none, sIf_true]
    exact ⟨rfl, rfl⟩
  rintro v vs w1 ⟨rfl, rfl⟩
  unfold S.history_History_move_J1
  rw [hd, sIf_true, sBuild_of (lp := []) (cs := encS NilS) S.tze_history_Step S.tpl_history_Step rfl rfl]
  refine sStore_blk (vs := encS NilS) S.tsz_history_Step (by decide) hk1 rfl rfl (by simp) (encS_ok.one NilS) fun w2 hs2 hg2 hk2 => ?_
  have hk2 : Blk w2 b4 (encS NilS) := hk2
  rw [sLoad_agg S.tagg_history_Step hk2.cells rfl]
  exact ⟨rfl, he1.wr hg2 fun g hg => by cases hg; omega, rfl⟩
theorem undo_nil {w : World} : sCall Tryd.prog S.history_History_Undo.n [.pointer none] w fun u w' => Ext w w' ∧ ∃ v, u = .tuple #[v, .int .i64 6] ∧ Sl w' v 3 encE [] := by
  refine S.history_History_Undo.call ?_
  unfold S.history_History_Undo
  refine (move_nil _).mono ?_
  rintro u w1 ⟨e1, rfl⟩
  rw [sExtract_0, sExtract_1]
  refine sVar S.tze_history_Step S.tsz_history_Step (by decide) rfl rfl (encS_ok.one NilS) fun b2 w2 hb2 hs2 he2 hk2 => ?_
  rw [sFldA_ptr S.tfl_history_Step_Back, sLoad_cell S.tcell_L_api_Edit (hk2.cells.at 0 rfl)]
  refine (clone_spec (xs := []) (Sl.nil w2 3 encE) (by simp)).mono ?_
  rintro v w3 ⟨e3, hv⟩
  exact ⟨(e1.trans he2).trans e3, v, rfl, hv.sl encE_ok⟩
theorem redo_nil {w : World} : sCall Tryd.prog S.history_History_Redo.n [.pointer none] w fun u w' => Ext w w' ∧ ∃ v, u = .tuple #[v, .int .i64 6] ∧ Sl w' v 3 encE [] := by
  refine S.history_History_Redo.call ?_
  unfold S.history_History_Redo
  refine (move_nil _).mono ?_
  rintro u w1 ⟨e1, rfl⟩
  rw [sExtract_0, sExtract_1]
  refine sVar S.tze_history_Step S.tsz_history_Step (by decide) rfl rfl (encS_ok.one NilS) fun b2 w2 hb2 hs2 he2 hk2 => ?_
  rw [sFldA_ptr S.tfl_history_Step_Forth, sLoad_cell S.tcell_L_api_Edit (hk2.cells.at 1 rfl)]
  refine (clone_spec (xs := []) (Sl.nil w2 3 encE) (by simp)).mono ?_
  rintro v w3 ⟨e3, hv⟩
  exact ⟨(e1.trans he2).trans e3, v, rfl, hv.sl encE_ok⟩
theorem sizes_nil {w : World} : sCall Tryd.prog S.history_History_Sizes.n [.pointer none] w fun u w' => Ext w w' ∧ u = .tuple #[.int .i64 0, .int .i64 0] := by
  refine S.history_History_Sizes.call ?_
  unfold S.history_History_Sizes
  rw [sBin_ptr_eq S.tpt_P_history_History, Option.isNone_none, sIf_true]
  exact ⟨Ext.refl w, rfl⟩
theorem push_nil {w : World} {cs : List Value} : sCall Tryd.prog S.history_History_Push.n [.pointer none, .agg cs.toArray] w fun u w' => Ext w w' ∧ u = .int .i64 7 := by
  refine S.history_History_Push.call ?_
  unfold S.history_History_Push
  refine sBox_new (cs := cs) rfl fun b3 w1 hb3 hs1 he1 hk1 => ?_
  rw [sBin_ptr_eq S.tpt_P_history_History, Option.isNone_none, sIf_true]
  exact ⟨he1, rfl⟩
end Go.Proofs.YtpjmmhbdondknaaDoor.H

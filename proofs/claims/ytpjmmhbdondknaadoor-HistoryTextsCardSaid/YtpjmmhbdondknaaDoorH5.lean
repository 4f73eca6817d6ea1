/- What 'again', 'HistoryNil' and 'HistoryMost' answer: true. No conditions. -/
import Derived.Test.YtpjmmhbdondknaaDoorH4
namespace Go.Proofs.YtpjmmhbdondknaaDoor.H
open Go Go.Lift Go.RowKit Go.Txt

theorem snoc_inj {α : Type} {A B : List α} {x y : α} (h : A ++ [x] = B ++ [y]) : A = B ∧ x = y := by
  have := List.append_inj' h rfl
  exact ⟨this.1, by simpa using this.2⟩
def ed (a b : Int) : Ed := (a, b, [])
/-- A literal of one edit. -/
theorem lit1 {w : World} {K : K1} {a b : Int} {ps : List (Nat × Value)} (hp : ∀ K : K1, sBuild Tryd.prog S.T.api_Edit ps w K = K (.agg (encE (ed a b)).toArray) w)
    (h : ∀ (v : SV) w', Row w' w.heap.size S.T.api_Edit 3 (sv v) encE [ed a b] → Ext w w' → w'.heap.size = w.heap.size + 1 → K (sv v) w') : sBuild Tryd.prog S.T.api_Edit ps w fun x w => sBuildSlice Tryd.prog S.T.L_api_Edit 1 [(0, x)] w K := by
  rw [hp]
  refine sBuildSlice_own (enc := encE) (xs := [ed a b]) (lp := [(0, encE (ed a b))]) S.tel_L_api_Edit S.tsz_api_Edit rfl S.tze_api_Edit (by decide) (by decide) encE_ok rfl rfl fun v w1 hv ho he hs => ?_
  subst hv
  exact h (some ⟨w.heap.size, 0, none⟩, 1, 1) w1 ho.row he hs
theorem bE1 {w : World} {K : K1} (a : Int) : sBuild Tryd.prog S.T.api_Edit [(0, .int .i64 a)] w K = K (.agg (encE (ed a 0)).toArray) w :=
  sBuild_of (lp := [(0, [.int .i64 a])]) S.tze_api_Edit S.tpl_api_Edit rfl rfl
theorem bE2 {w : World} {K : K1} (a b : Int) : sBuild Tryd.prog S.T.api_Edit [(0, .int .i64 a), (1, .int .i64 b)] w K = K (.agg (encE (ed a b)).toArray) w :=
  sBuild_of (lp := [(0, [.int .i64 a]), (1, [.int .i64 b])]) S.tze_api_Edit S.tpl_api_Edit rfl rfl
theorem bS {w : World} {K : K1} (x y : SV) : sBuild Tryd.prog S.T.history_Step [(0, sv x), (1, sv y)] w K = K (.agg #[sv x, sv y]) w :=
  sBuild_of (lp := [(0, [sv x]), (1, [sv y])]) (cs := [sv x, sv y]) S.tze_history_Step S.tpl_history_Step rfl rfl
theorem bS1 {w : World} {K : K1} (x : SV) : sBuild Tryd.prog S.T.history_Step [(0, sv x)] w K = K (.agg #[sv x, sv (none, 0, 0)]) w :=
  sBuild_of (lp := [(0, [sv x])]) (cs := [sv x, sv (none, 0, 0)]) S.tze_history_Step S.tpl_history_Step rfl rfl

/-- The From of the first edit of a row. -/
theorem from0 {w : World} {K : K1} {base : Nat} {v : Value} {x : Ed} {xs : List Ed} (h : Row w base S.T.api_Edit 3 v encE (x :: xs)) :
    (sIdxA Tryd.prog S.T.L_api_Edit v (.int .i64 0) w fun p w => sFldA Tryd.prog S.T.api_Edit p 0 w fun q w => sLoad Tryd.prog 3 q w K) = K (.int .i64 x.1) w := by
  have hs := h.sl encE_ok
  obtain ⟨b, o, hel, hc⟩ := hs.el (i := 0) rfl
  rw [sIdxA_sl (i := 0) (z := 0) S.tel_L_api_Edit S.tsz_api_Edit (by decide) hs rfl rfl, hel, sFldA_ptr S.tfl_api_Edit_From, sLoad_cell S.tcell_int (hc.at 0 rfl)]

theorem fromE {w : World} {K : K1} {base : Nat} {v : Value} {a b : Int} {xs : List Ed} (h : Row w base S.T.api_Edit 3 v encE (ed a b :: xs)) :
    (sIdxA Tryd.prog S.T.L_api_Edit v (.int .i64 0) w fun p w => sFldA Tryd.prog S.T.api_Edit p 0 w fun q w => sLoad Tryd.prog 3 q w K) = K (.int .i64 a) w := from0 h
abbrev Yes (w : World) : K1 := fun v w' => Ext w w' ∧ v = .bool true
theorem again_spec (w : World) : sCall Tryd.prog S.bodkinlaw12_again.n [] w (Yes w) := by
  refine S.bodkinlaw12_again.call ?_
  unfold S.bodkinlaw12_again
  refine (new_spec w).mono ?_
  rintro p w1 ⟨rfl, e1, hs1, hk1⟩
  have hb : w.heap.size < w1.heap.size := by omega
  have H1 : Hist w1 w1.heap.size w.heap.size [] [] := hist_nil hb hk1
  generalize hbase : w1.heap.size = base at *
  refine lit1 (fun _ => bE1 1) fun v1 w2 r1 e2 hs2 => ?_
  refine lit1 (fun _ => bE1 2) fun v2 w3 r2 e3 hs3 => ?_
  rw [bS]
  have q1 : Row w3 base S.T.api_Edit 3 (sv v1) encE [ed 1 0] := (r1.ext e3).mono (by omega)
  have q2 : Row w3 base S.T.api_Edit 3 (sv v2) encE [ed 2 0] := r2.mono (by omega)
  refine (push_spec ((H1.ext e2).ext e3) (by omega) (by simp) (fun w' F => (F.own q1 (by decide) hb).sl encE_ok) (fun w' F => (F.own q2 (by decide) hb).sl encE_ok) (by simp) (by simp)).mono ?_
  rintro u w4 ⟨rfl, F4, _, H4⟩
  have hs4 := F4.size
  refine lit1 (fun _ => bE1 3) fun v3 w5 r3 e5 hs5 => ?_
  refine lit1 (fun _ => bE1 4) fun v4 w6 r4 e6 hs6 => ?_
  rw [bS]
  have q3 : Row w6 base S.T.api_Edit 3 (sv v3) encE [ed 3 0] := (r3.ext e6).mono (by omega)
  have q4 : Row w6 base S.T.api_Edit 3 (sv v4) encE [ed 4 0] := r4.mono (by omega)
  refine (push_spec ((H4.ext e5).ext e6) (by omega) (cut_len _) (fun w' F => (F.own q3 (by decide) hb).sl encE_ok) (fun w' F => (F.own q4 (by decide) hb).sl encE_ok) (by simp) (by simp)).mono ?_
  rintro u w7 ⟨rfl, F7, _, H7⟩
  have hs7 := F7.size
  have H7 : Hist w7 base w.heap.size ([([ed 1 0], [ed 2 0])] ++ [([ed 3 0], [ed 4 0])]) [] := H7
  refine (undo_spec H7 (by omega) (by simp) (by simp) (by intro d hd; simp at hd; rcases hd with rfl | rfl <;> simp)).mono ?_
  rintro u w8 ⟨F8, _, v8, n, l, rfl, r8, h8⟩
  have hs8 := F8.size
  rcases h8 with ⟨h, _⟩ | ⟨D', d, hD, rfl, rfl, H8⟩
  · simp at h
  obtain ⟨rfl, rfl⟩ := snoc_inj hD
  rw [sExtract_0, sExtract_1]
  have H8 : Hist w8 base w.heap.size ([] ++ [([ed 1 0], [ed 2 0])]) [([ed 3 0], [ed 4 0])] := H8
  refine (undo_spec H8 (by omega) (by simp) (by simp) (by intro d hd; simp at hd; subst hd; simp)).mono ?_
  rintro u w9 ⟨F9, _, v9, n, l, rfl, r9, h9⟩
  have hs9 := F9.size
  rcases h9 with ⟨h, _⟩ | ⟨D', d, hD, rfl, rfl, H9⟩
  · simp at h
  obtain ⟨rfl, rfl⟩ := snoc_inj hD
  rw [sExtract_0, sExtract_1]
  refine (redo_spec H9 (by omega) (by simp) (by simp) (by intro d hd; simp at hd; rcases hd with rfl | rfl <;> simp)).mono ?_
  rintro u w10 ⟨F10, _, v10, n, l, rfl, r10, h10⟩
  have hs10 := F10.size
  rcases h10 with ⟨h, _⟩ | ⟨D', d, hD, rfl, rfl, H10⟩
  · simp at h
  obtain ⟨rfl, rfl⟩ := snoc_inj hD
  rw [sExtract_0, sExtract_1]
  refine (sizes_spec H10).mono ?_
  rintro u w11 ⟨e11, hu⟩
  have hu : u = .tuple #[.int .i64 1, .int .i64 1] := hu
  subst hu
  rw [sExtract_0, sExtract_1, sBin_eql, sIf_pos rfl, sBin_eql, sIf_pos rfl, sBin_eql, sIf_pos rfl]
  have R8 : Row w11 base S.T.api_Edit 3 v8 encE [ed 3 0] := ((F10.own (F9.own r8 (by decide) hb) (by decide) hb).ext e11)
  have R9 : Row w11 base S.T.api_Edit 3 v9 encE [ed 1 0] := ((F10.own r9 (by decide) hb).ext e11)
  have R10 : Row w11 base S.T.api_Edit 3 v10 encE [ed 2 0] := r10.ext e11
  have len1 : ∀ {v : Value} {x : Ed} {K : K1}, Row w11 base S.T.api_Edit 3 v encE [x] → sBuiltin Tryd.prog .len [S.T.L_api_Edit] 3 [v] w11 K = K (.int .i64 1) w11 := fun h => sLen_sl S.tel_L_api_Edit (h.sl encE_ok)
  rw [len1 R8, sBin_eql, sIf_pos rfl, fromE R8, sBin_eql, sIf_pos rfl, len1 R9, sBin_eql, sIf_pos rfl, fromE R9, sBin_eql, sIf_pos rfl, len1 R10, sBin_eql, sIf_pos rfl, fromE R10, sBin_eql, sIf_pos rfl, sBin_eql, sIf_pos rfl, sBin_eql]
  refine ⟨?_, rfl⟩
  have E3 : Ext w w3 := (e1.trans e2).trans e3
  have F : Frm S.T.history_Step base w.heap.size w3 w11 := (((((F4.trans (.of_ext (e5.trans e6))).trans F7).trans F8).trans F9).trans F10).trans (.of_ext e11)
  exact F.ext E3 (by omega) (Nat.le_refl _)
theorem then_again {w w1 : World} (e : Ext w w1) : sCall Tryd.prog S.bodkinlaw12_again.n [] w1 (Yes w) :=
  (again_spec w1).mono fun _ _ ⟨e2, h⟩ => ⟨e.trans e2, h⟩

end Go.Proofs.YtpjmmhbdondknaaDoor.H

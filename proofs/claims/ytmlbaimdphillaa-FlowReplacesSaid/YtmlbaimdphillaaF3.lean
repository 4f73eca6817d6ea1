/- The laws of flows answer true: new ones, lines replaced, rows. No conditions but that of memory. -/
import Derived.Test.YtmlbaimdphillaaF2
namespace Go.Proofs.Ytmlbaimdphillaa
open Go Go.Lift Go.RowKit

theorem line_row {w : World} {l : Value} {ls : List Ln} (hl : Sl w l 4 encL ls) (hn : ls.length ≤ 1000000) : sCall Try.prog S.bodkinlaw22_refs.n [l] w fun u w' => Ext w w' ∧ Row w' w.heap.size S.T.bodkinref22_Line 4 u encL ls := by
  refine S.bodkinlaw22_refs.call ?_
  unfold S.bodkinlaw22_refs
  have hmx : maxLen = 9223372036854775807 := rfl
  rw [sLen_sl S.tel_L_flow_Line hl]
  refine LoopS.intro (fun us w1 => Ext w w1 ∧ ∃ (i : Nat) (v : Value), us = [v, .int .i64 i] ∧ i ≤ ls.length ∧ Row w1 w.heap.size S.T.bodkinref22_Line 4 v encL (ls.take i))
    (fun us _ => match us with | [_, .int _ a] => (ls.length - a).toNat | _ => 0) ⟨Ext.refl w, 0, _, rfl, Nat.zero_le _, Row.nil _ _ _ _ _⟩ ?_
  rintro us vs w1 ⟨e1, i, v, rfl, hi, hv⟩
  unfold S.bodkinlaw22_refs_L1
  rw [Go.Lift.hd, Go.Lift.tl, Go.Lift.hd, sBin_lss, sIf_dec]
  refine ⟨fun hlt => ?_, fun hge => ?_⟩
  · obtain ⟨x, hx⟩ : ∃ x, ls[i]? = some x := ⟨_, List.getElem?_eq_getElem (by omega)⟩
    obtain ⟨b, o, hel, hc⟩ := (hl.ext e1).el hx
    rw [sIdxA_sl S.tel_L_flow_Line S.tsz_flow_Line (by omega) (hl.ext e1) hx rfl, hel, sLoad_agg S.tagg_flow_Line hc rfl]
    refine sVar S.tze_flow_Line S.tsz_flow_Line (by decide) rfl rfl (encL_ok.one x) fun b2 w2 hb2 hs2 e2 hk2 => ?_
    rw [sFldA_ptr S.tfl_flow_Line_Shown, sLoad_cell S.tcell_int (hk2.cells.at 0 rfl), sFldA_ptr S.tfl_flow_Line_Buffer, sLoad_cell S.tcell_int (hk2.cells.at 1 rfl), sFldA_ptr S.tfl_flow_Line_Rows, sLoad_cell S.tcell_int (hk2.cells.at 2 rfl), sFldA_ptr S.tfl_flow_Line_Wide, sLoad_cell S.tcell_int (hk2.cells.at 3 rfl),
      sBuild_of (cs := encL x) (lp := [(0, [.int .i64 x.sh]), (1, [.int .i64 x.bf]), (2, [.int .i64 x.rw]), (3, [.int .i64 x.wd])]) S.tze_bodkinref22_Line S.tpl_bodkinref22_Line rfl rfl]
    refine sBuildSlice_own (n := 1) (enc := encL) (xs := [x]) (lp := [(0, encL x)]) S.tel_L_bodkinref22_Line S.tsz_bodkinref22_Line rfl S.tze_bodkinref22_Line (by decide) (by decide) encL_ok rfl rfl fun t w4 ht ho4 e4 hs4 => ?_
    refine sAppend_row S.tel_L_bodkinref22_Line S.tsz_bodkinref22_Line (by decide) S.tze_bodkinref22_Line rfl encL_ok ((hv.ext e2).ext e4) (by have := (e1.trans e2).size; omega) (ho4.sl encL_ok) (by simp; omega) (by rw [S.tby_bodkinref22_Line]; simp; omega) fun v' w5 hv5 hg5 _ => ?_
    rw [sBin_add _ _ ⟨by omega, by omega⟩]
    refine ⟨⟨((e1.trans e2).trans e4).wr hg5 fun g hg => (hv.lt g hg).1, i + 1, v', by simp, by omega, ?_⟩, by simp only []; omega⟩
    rw [take_succ_of hx]; exact hv5
  · obtain rfl : i = ls.length := by omega
    rw [List.take_length] at hv
    exact ⟨e1, hv⟩
theorem line_refs {w : World} {l : Value} {ls : List Ln} (hl : Sl w l 4 encL ls) (hn : ls.length ≤ 1000000) : sCall Try.prog S.bodkinlaw22_refs.n [l] w fun u w' => Ext w w' ∧ Sl w' u 4 encL ls :=
  (line_row hl hn).mono fun _ _ h => ⟨h.1, h.2.sl encL_ok⟩
theorem rlines_eq {cx cy : Bool} (x y : Ln) : ∃ r : Bool, (r = true ↔ x = y) ∧ (∀ w K, sBin Try.prog .eql S.T.bodkinref22_Line cx cy (.agg (encL x).toArray) (.agg (encL y).toArray) w K = K (.bool r) w) ∧ ∀ w K, sBin Try.prog .neq S.T.bodkinref22_Line cx cy (.agg (encL x).toArray) (.agg (encL y).toArray) w K = K (.bool (!r)) w := by
  obtain ⟨r, h1, h2, h3⟩ := sBin_deep (cx := cx) (cy := cy) S.tdq_bodkinref22_Line S.taq_bodkinref22_Line S.tgq_bodkinref22_Line (show fitB Try.prog S.T.dl_bodkinref22_Line (encL x) = true by kernel_rfl) (show fitB Try.prog S.T.dl_bodkinref22_Line (encL y) = true by kernel_rfl)
  exact ⟨r, h1.trans ⟨encL_inj, fun h => h ▸ rfl⟩, h2, h3⟩
theorem spot_eq {cx cy : Bool} (a b c d e : Int) : ∃ r : Bool, r = true ∧ ∀ w K, sBin Try.prog .eql S.T.flow_Spot cx cy (.agg (encSp a b c d e).toArray) (.agg (encSp a b c d e).toArray) w K = K (.bool r) w := by
  obtain ⟨r, h1, h2, _⟩ := sBin_deep (cx := cx) (cy := cy) S.tdq_flow_Spot S.taq_flow_Spot S.tgq_flow_Spot (show fitB Try.prog S.T.dl_flow_Spot (encSp a b c d e) = true by kernel_rfl) (show fitB Try.prog S.T.dl_flow_Spot (encSp a b c d e) = true by kernel_rfl)
  exact ⟨r, h1.2 rfl, h2⟩

theorem is22_spec {w : World} {f l : Value} {ls : List Ln} (hf : Fq w f ls) (hl : Sl w l 4 encL ls) (hx : ∀ x ∈ ls, LnOk x) (hn : ls.length ≤ 30000) : sCall Try.prog S.bodkinlaw22_is.n [f, l] w (Yes w) := by
  refine S.bodkinlaw22_is.call ?_
  unfold S.bodkinlaw22_is
  obtain ⟨bf, rfl⟩ := hf.ptr
  rw [sBin_ptr_eq S.tpt_P_flow_Flow, Option.isNone_some, sIf_false]
  refine (flines_spec hf (by omega)).mono ?_
  rintro q w1 ⟨e1, hq⟩
  refine (line_refs hq (by omega)).mono ?_
  rintro q w2 ⟨e2, hq⟩
  have E2 := e1.trans e2
  rw [sLen_sl S.tel_L_bodkinref22_Line hq]
  refine LoopS.intro (fun us w3 => Ext w2 w3 ∧ ∃ i : Nat, us = [.int .i64 i] ∧ i ≤ ls.length)
    (fun us _ => match us with | [.int _ a] => (ls.length - a).toNat | _ => 0) ⟨Ext.refl w2, 0, rfl, by omega⟩ ?_
  rintro us vs w3 ⟨e3, i, rfl, hi⟩
  unfold S.bodkinlaw22_is_L1
  have E3 := E2.trans e3
  rw [Go.Lift.hd, sBin_lss, sIf_dec]
  refine ⟨fun hlt => ?_, fun hge => ?_⟩
  · obtain ⟨x, hx⟩ : ∃ x, ls[i]? = some x := ⟨_, List.getElem?_eq_getElem (by omega)⟩
    obtain ⟨b1, o1, hel1, hc1⟩ := (hq.ext e3).el hx
    rw [sIdxA_sl S.tel_L_bodkinref22_Line S.tsz_bodkinref22_Line (by omega) (hq.ext e3) hx rfl, hel1, sLoad_agg S.tagg_bodkinref22_Line hc1 rfl]
    refine sVar S.tze_bodkinref22_Line S.tsz_bodkinref22_Line (by decide) rfl rfl (encL_ok.one x) fun b7 w4 hb7 hs4 e4 hk7 => ?_
    have E4 := E3.trans e4
    refine DrawS.ext ?_
    have E : Ext w4 w4.drew := (Ext.refl w4).drew
    obtain ⟨b2, o2, hel2, hc2⟩ := (hl.ext E4).el hx
    obtain ⟨r, hr1, _, hr3⟩ := rlines_eq (cx := false) (cy := false) x x
    rw [stillS_eq (fun w1' h1 K => sLen_sl S.tel_L_bodkinref22_Line ((hl.ext E4).ext h1)) E, stillS_eq (fun w1 h1 K => sBin_geq _ _) E, sIf_neg (by omega), stillS_agg (cs := encL x) S.tagg_bodkinref22_Line hk7.cells rfl E,
      stillS_eq (fun w1' h1 K => sIdxA_sl S.tel_L_bodkinref22_Line S.tsz_bodkinref22_Line (by omega) ((hl.ext E4).ext h1) hx rfl) E, hel2, stillS_agg (cs := encL x) S.tagg_bodkinref22_Line hc2 rfl E, stillS_eq (fun w1 h1 K => hr3 w1 K) E, hr1.2 rfl, Bool.not_true, sIf_false, sBin_add _ _ ⟨by omega, by omega⟩]
    exact ⟨⟨(e3.trans e4).trans E, i + 1, by simp, by omega⟩, by simp only []; omega⟩
  · refine (fwidest_spec (hf.ext E3)).mono ?_
    rintro u w4 ⟨e4, rfl⟩
    have E4 := E3.trans e4
    rw [sExtract_0, sExtract_1]
    refine (rsum22_spec (hl.ext E4) hx (by omega)).mono ?_
    rintro u w5 ⟨e5, rfl⟩
    refine sVar (vs := encL (lnS (allS (ls.map itL)))) S.tze_bodkinref22_Line S.tsz_bodkinref22_Line (by decide) rfl rfl (encL_ok.one _) fun b10 w6 hb10 hs6 e6 hk10 => ?_
    have E6 := (E4.trans e5).trans e6
    refine DrawS.ext ?_
    have E : Ext w6 w6.drew := (Ext.refl w6).drew
    rw [stillS_eq (fun w1' h1 K => sLen_sl S.tel_L_bodkinref22_Line ((((hq.ext e3).ext e4).ext (e5.trans e6)).ext h1)) E, stillS_eq (fun w1' h1 K => sLen_sl S.tel_L_bodkinref22_Line ((hl.ext E6).ext h1)) E, stillS_eq (fun w1 h1 K => sBin_eql _ _) E, sIf_pos rfl,
      stillS_agg (cs := encL (lnS (allS (ls.map itL)))) S.tagg_bodkinref22_Line hk10.cells rfl E]
    refine (fsum_spec (hf.ext (E6.trans E))).mono ?_
    rintro u w7 ⟨e7, rfl⟩
    have F7 := E.trans e7
    refine ⟨F7, ?_⟩
    refine sBuildSlice_own (n := 1) (enc := encL) (xs := [lnS (allS (ls.map itL))]) (lp := [(0, encL (lnS (allS (ls.map itL))))]) S.tel_L_flow_Line S.tsz_flow_Line rfl S.tze_flow_Line (by decide) (by decide) encL_ok rfl rfl fun t w8 ht ho8 e8 hs8 => ?_
    have F8 := F7.trans e8
    refine ⟨F8, ?_⟩
    refine (line_refs (ho8.sl encL_ok) (by simp)).mono ?_
    rintro q9 w9 ⟨e9, hq9⟩
    have F9 := F8.trans e9
    refine SubS.ext F9 ?_
    have R := Ext.refl w9
    obtain ⟨b1, o1, hel1, hc1⟩ := hq9.el (i := 0) rfl
    obtain ⟨r, hr1, hr2, _⟩ := rlines_eq (cx := false) (cy := false) (lnS (allS (ls.map itL))) (lnS (allS (ls.map itL)))
    rw [stillS_eq (fun w1' h1 K => sIdxA_sl (i := 0) (z := 0) S.tel_L_bodkinref22_Line S.tsz_bodkinref22_Line (by omega) (hq9.ext h1) rfl rfl) R, hel1, stillS_agg (cs := encL (lnS (allS (ls.map itL)))) S.tagg_bodkinref22_Line hc1 rfl R, stillS_eq (fun w1 h1 K => hr2 w1 K) R, hr1.2 rfl, sIf_true,
      stillS_eq (fun w1' h1 K => sLen_sl S.tel_L_bodkinref22_Line ((hl.ext (E6.trans F9)).ext h1)) R]
    refine (fcount_spec (hf.ext (E6.trans F9))).mono ?_
    rintro u w10 ⟨e10, rfl⟩
    refine ⟨e10, ?_⟩
    rw [stillS_eq (fun w1 h1 K => sBin_eql _ _) e10, sIf_pos rfl]
    refine (rwidest22_spec (hl.ext ((E6.trans F9).trans e10)) hx (by omega)).mono ?_
    rintro u w11 ⟨e11, rfl⟩
    have G11 := e10.trans e11
    refine ⟨G11, ?_⟩
    rw [stillS_eq (fun w1 h1 K => sBin_eql _ _) G11, sIf_pos rfl, stillS_eq (fun w1 h1 K => sFldA_ptr S.tfl_bodkinref22_Line_Wide) G11, stillS_cell (v := .int .i64 (allS (ls.map itL)).mx) S.tcell_int ((hk10.ext F9).cells.at 3 rfl) G11, stillS_eq (fun w1 h1 K => sBin_eql _ _) G11, sIf_pos rfl,
      stillS_eq (fun w1' h1 K => sLen_sl S.tel_L_bodkinref22_Line ((hl.ext (E6.trans F9)).ext h1)) G11]
    refine (fheight_spec (hf.ext ((E6.trans F9).trans G11)) (by omega)).mono ?_
    rintro u w12 ⟨rfl, H, rfl, q1, q2, q3⟩
    refine ⟨G11, ?_⟩
    refine (high_spec (H := H) (n := ls.length) q1 q2 q3 (by omega)).mono ?_
    rintro u w12 ⟨rfl, rfl⟩
    exact ⟨G11, (E6.trans F9).trans G11, rfl⟩

abbrev ls6 : List Ln := [⟨0, 0, 3, 4⟩, ⟨0, 0, 1, 5⟩, ⟨0, 0, 2, 5⟩]
theorem fnd6 : Fnd (ls6.map itL) 2 4 1 2 := by
  refine ⟨by decide, fun m hm => ?_, fun _ => by decide⟩
  rcases (by omega : m = 0 ∨ m = 1) with rfl | rfl <;> decide
theorem lin6 {w : World} {K : K1} (r d : Int) : sBuild Try.prog S.T.flow_Line [(2, .int .i64 r), (3, .int .i64 d)] w K = K (.agg (encL ⟨0, 0, r, d⟩).toArray) w :=
  sBuild_of (cs := encL ⟨0, 0, r, d⟩) (lp := [(2, [.int .i64 r]), (3, [.int .i64 d])]) S.tze_flow_Line S.tpl_flow_Line rfl rfl
theorem six22_spec (w : World) : sCall Try.prog S.bodkinlaw22_six.n [] w (Yes w) := by
  refine S.bodkinlaw22_six.call ?_
  unfold S.bodkinlaw22_six
  rw [lin6, lin6, lin6]
  refine sBuildSlice_own (n := 3) (enc := encL) (xs := ls6) (lp := [(0, encL ⟨0, 0, 3, 4⟩), (1, encL ⟨0, 0, 1, 5⟩), (2, encL ⟨0, 0, 2, 5⟩)]) S.tel_L_flow_Line S.tsz_flow_Line rfl S.tze_flow_Line (by decide) (by decide) encL_ok rfl rfl fun l w1 _ ho1 e1 _ => ?_
  have hok : ∀ x ∈ ls6, LnOk x := by decide
  refine (fnew_spec (ho1.sl encL_ok) (by decide)).mono ?_
  rintro u w2 ⟨e2, hu⟩
  rcases hu with ⟨h, _⟩ | ⟨_, v, rfl, hv⟩
  · exact absurd hok h
  have E2 := e1.trans e2
  rw [sExtract_0, sExtract_1]
  refine (fbyrow_spec (row := 4) hv hok (by decide) (by decide) (by decide)).mono ?_
  rintro u w3 ⟨e3, n, hfn, rfl⟩
  obtain rfl := hfn.uniq fnd6
  rw [sExtract_0, sExtract_1]
  refine sVar (vs := encSp 2 0 4 0 0) S.tze_flow_Spot S.tsz_flow_Spot (by decide) rfl rfl (encSp_one _ _ _ _ _) fun b3 w4 hb3 hs4 e4 hk3 => ?_
  have F4 := e3.trans e4
  refine (fwidest_spec (hv.ext F4)).mono ?_
  rintro u w5 ⟨e5, rfl⟩
  have E5 := (E2.trans F4).trans e5
  obtain ⟨r, hr1, hr2⟩ := spot_eq (cx := false) (cy := false) 2 0 4 0 0
  rw [sExtract_0, sExtract_1, sBin_eql, sIf_pos rfl, sBin_eql, sIf_pos rfl, sLoad_agg (cs := encSp 2 0 4 0 0) S.tagg_flow_Spot (hk3.ext e5).cells rfl, sBuild_of (cs := encSp 2 0 4 0 0) (lp := [(0, [.int .i64 2]), (2, [.int .i64 4])]) S.tze_flow_Spot S.tpl_flow_Spot rfl rfl, hr2, hr1, sIf_true,
    sBin_eql, sIf_pos (by decide), sBin_eql, sIf_pos (by decide)]
  refine (fcount_spec (hv.ext (F4.trans e5))).mono ?_
  rintro u w6 ⟨e6, rfl⟩
  rw [sBin_eql, sIf_pos (by decide)]
  refine (fheight_spec (hv.ext ((F4.trans e5).trans e6)) (by decide)).mono ?_
  rintro u w7 ⟨rfl, H, rfl, q1, q2, q3⟩
  have hH1 : (H : Int) = 1 := by
    have : H ≠ 0 := fun h => by have := q1.1 h; cases this
    have : ¬ 2 ≤ H := fun h => by
      have := q2 h
      have h4 : 4 ^ 1 ≤ 4 ^ (H - 1) := Nat.pow_le_pow_right (by decide) (by omega)
      simp at this; omega
    omega
  rw [hH1, sBin_eql]
  exact ⟨E5.trans e6, rfl⟩
theorem then6 {w w1 : World} (e : Ext w w1) : sCall Try.prog S.bodkinlaw22_six.n [] w1 (Yes w) := (six22_spec w1).mono fun _ _ h => Yes.of e h

theorem flowNew_spec {w : World} {l : Value} {ls : List Ln} (hl : Sl w l 4 encL ls) : S.bodkinlaw22_FlowNew (Yes w) l w := by
  unfold S.bodkinlaw22_FlowNew
  rw [sLen_sl S.tel_L_flow_Line hl, sBin_gtr, sIf_dec]
  refine ⟨fun _ => then6 (Ext.refl w), fun h300 => ?_⟩
  refine (fnew_spec hl (by omega)).mono ?_
  rintro u w1 ⟨e1, hu⟩
  have hgo : ∀ (v : Value) (e : Int), ((¬ (∀ x ∈ ls, LnOk x) ∧ v = .pointer none ∧ e = 1) ∨ ((∀ x ∈ ls, LnOk x) ∧ e = 0 ∧ Fq w1 v ls)) → u = .tuple #[v, .int .i64 e] → _ := fun v e hor hu => (⟨v, e, hor, hu⟩ : ∃ (v : Value) (e : Int), ((¬ (∀ x ∈ ls, LnOk x) ∧ v = .pointer none ∧ e = 1) ∨ ((∀ x ∈ ls, LnOk x) ∧ e = 0 ∧ Fq w1 v ls)) ∧ u = .tuple #[v, .int .i64 e])
  obtain ⟨v, e, hor, rfl⟩ : ∃ (v : Value) (e : Int), ((¬ (∀ x ∈ ls, LnOk x) ∧ v = .pointer none ∧ e = 1) ∨ ((∀ x ∈ ls, LnOk x) ∧ e = 0 ∧ Fq w1 v ls)) ∧ u = .tuple #[v, .int .i64 e] := by
    rcases hu with ⟨h, hu⟩ | ⟨h, v, hu, hv⟩
    · exact hgo _ _ (.inl ⟨h, rfl, rfl⟩) hu
    · exact hgo _ _ (.inr ⟨h, rfl, hv⟩) hu
  clear hgo hu
  rw [sExtract_0, sExtract_1]
  refine (line_refs (hl.ext e1) (by omega)).mono ?_
  rintro q w2 ⟨e2, hq⟩
  refine (rright22_spec hq (by omega)).mono ?_
  rintro u w3 ⟨e3, r, rfl, hr⟩
  have E3 := (e1.trans e2).trans e3
  rw [sUn_not, sIf_bool]
  refine ⟨fun hF => ?_, fun hT => ?_⟩
  · have hno : ¬ ∀ x ∈ ls, LnOk x := fun h => by rw [hr.2 h] at hF; cases hF
    rcases hor with ⟨_, rfl, rfl⟩ | ⟨h, _⟩
    · rw [sBin_eql, sIf_pos rfl, sBin_ptr_eq S.tpt_P_flow_Flow, Option.isNone_none, sIf_true]
      exact then6 E3
    · exact absurd h hno
  · have hok : ∀ x ∈ ls, LnOk x := hr.1 (by simpa using hT)
    rcases hor with ⟨h, _⟩ | ⟨_, rfl, hv⟩
    · exact absurd hok h
    · rw [sBin_eql, sIf_pos rfl]
      refine (line_refs (hl.ext E3) (by omega)).mono ?_
      rintro q w4 ⟨e4, hq⟩
      refine (is22_spec (hv.ext ((e2.trans e3).trans e4)) hq hok (by omega)).mono ?_
      rintro u w5 ⟨e5, rfl⟩
      rw [sIf_true]
      exact then6 ((E3.trans e4).trans e5)
end Go.Proofs.Ytmlbaimdphillaa

/- What 'WidthTables' and 'WidthKeeps' answer: true. Condition: the package's two tables hold what its text says. -/
import Derived.Test.YtchblkoipojcbaaDoorW5
namespace Go.Proofs.YtchblkoipojcbaaDoor
open Go Go.Lift Go.RowKit

theorem refs_spec {w : World} {v : Value} {xs : List Rg} (h : Sl w v 2 encR xs) (hn : xs.length ≤ 1000) : sCall Tryd.prog S.bodkinlaw02_refs.n [v] w fun u w' => Ext w w' ∧ Own w' w.heap.size S.T.bodkinref02_Range 2 u encR xs := by
  refine S.bodkinlaw02_refs.call ?_
  unfold S.bodkinlaw02_refs
  rw [sLen_sl S.tel_L_width_Range h]
  refine LoopS.intro (fun us w1 => Ext w w1 ∧ ∃ (i : Nat) (out : Value), us = [out, .int .i64 i] ∧ i ≤ xs.length ∧ Own w1 w.heap.size S.T.bodkinref02_Range 2 out encR (xs.take i))
    (fun us _ => match us with | [_, .int _ a] => (xs.length - a).toNat | _ => 0) ⟨Ext.refl w, 0, _, rfl, Nat.zero_le _, Own.nil _ _ _ _ _⟩ ?_
  rintro us vs w1 ⟨he, i, out, rfl, hi, ho⟩
  unfold S.bodkinlaw02_refs_L1
  rw [hd, tl, hd, sBin_lss, sIf_dec]
  refine ⟨fun hlt => ?_, fun hge => ⟨he, by rwa [List.take_of_length_le (by omega)] at ho⟩⟩
  obtain ⟨x, hx⟩ : ∃ x, xs[i]? = some x := ⟨_, List.getElem?_eq_getElem (by omega)⟩
  obtain ⟨b, o, hel, hc⟩ := (h.ext he).el hx
  rw [sIdxA_sl S.tel_L_width_Range S.tsz_width_Range (by omega) (h.ext he) hx rfl, hel, sLoad_agg S.tagg_width_Range hc rfl]
  refine sVar S.tze_width_Range S.tsz_width_Range (by decide) rfl rfl (encR_ok.one x) fun b2 w2 hb2 hs2 he2 hk => ?_
  have hc2 := hk.cells
  rw [sFldA_ptr S.tfl_width_Range_From, sLoad_cell S.tcell_int32 (hc2.at 0 rfl), sFldA_ptr S.tfl_width_Range_To, sLoad_cell S.tcell_int32 (hc2.at 1 rfl),
    sBuild_of (lp := [(0, [.int .i32 x.1]), (1, [.int .i32 x.2])]) (cs := encR x) S.tze_bodkinref02_Range S.tpl_bodkinref02_Range rfl rfl]
  refine sBuildSlice_new (lp := [(0, encR x)]) (cs := encR x) S.tel_L_bodkinref02_Range S.tsz_bodkinref02_Range (by decide) S.tze_bodkinref02_Range (by decide) rfl rfl fun b3 w3 hb3 hs3 he3 hk3 => ?_
  have hsl : Sl w3 (.slice (some ⟨b3, 0, none⟩) 1 1) 2 encR [x] := Blk.sl (xs := [x]) (by simpa using hk3) encR_ok (by simp [maxLen])
  have e3 := (he.trans he2).trans he3
  have hlt2 : (xs.take i).length = i := by rw [List.length_take]; omega
  refine sAppend_own S.tel_L_bodkinref02_Range S.tsz_bodkinref02_Range (by decide) S.tze_bodkinref02_Range rfl encR_ok ((ho.ext he2).ext he3) e3.size hsl (by have : maxLen = 9223372036854775807 := rfl; simp; omega) (by rw [S.tby_bodkinref02_Range, hlt2]; simp; omega) fun v' w4 ho4 hg4 => ?_
  rw [sBin_add _ _ ⟨by omega, by omega⟩]
  refine ⟨⟨e3.wr hg4 fun g hg => (ho.lt g hg).1, i + 1, v', by simp, by omega, by rw [take_succ_of hx]; exact ho4⟩, by simp only []; omega⟩

/-- Both tables say the same of one rune. -/
theorem tables_loop4 {w w0 : World} (hG : Glob w0) (e0 : Ext w0 w) {p q v : Value} {zs ws xs : List Rg} (hf : Fine zs ws) (hp : TabR w p zs ws) (hq : TabR w q zs ws) (hv : Sl w v 2 encR xs) (hn : xs.length ≤ 1000) :
    LoopS [(.int .i64 0)] 1 26 w fun us _ w Nx4 => S.bodkinlaw02_WidthTables_L4 (Yes w0) Nx4 v (.int .i64 xs.length) p q (hd us) w := by
  refine LoopS.intro (fun us w1 => Ext w w1 ∧ ∃ i : Nat, us = [.int .i64 i] ∧ i ≤ xs.length)
    (fun us _ => match us with | [.int _ a] => (xs.length - a).toNat | _ => 0) ⟨Ext.refl w, 0, rfl, Nat.zero_le _⟩ ?_
  rintro us vs w1 ⟨he, i, rfl, hi⟩
  unfold S.bodkinlaw02_WidthTables_L4
  rw [hd, sBin_lss, sIf_dec]
  refine ⟨fun hlt => ?_, fun hge => then_three hG (e0.trans he)⟩
  obtain ⟨x, hx⟩ : ∃ x, xs[i]? = some x := ⟨_, List.getElem?_eq_getElem (by omega)⟩
  obtain ⟨b, o, hel, hc⟩ := (hv.ext he).el hx
  rw [sIdxA_sl S.tel_L_width_Range S.tsz_width_Range (by omega) (hv.ext he) hx rfl, hel, sLoad_agg S.tagg_width_Range hc rfl]
  refine sVar S.tze_width_Range S.tsz_width_Range (by decide) rfl rfl (encR_ok.one x) fun b2 w2 _ _ he2 hk => ?_
  have hc2 := hk.cells
  have e2 := he.trans he2
  refine DrawS.ext ?_
  have E : Ext w2 w2.drew := (Ext.refl w2).drew
  rw [stillS_eq (fun w1 h1 K => sFldA_ptr S.tfl_width_Range_From) E, stillS_cell S.tcell_int32 (hc2.at 0 rfl) E, stillS_eq (fun w1 h1 K => sFldA_ptr S.tfl_width_Range_From) E, stillS_cell S.tcell_int32 (hc2.at 0 rfl) E]
  refine (of_spec ((hp.ext e2).ext E) hf x.1).mono ?_
  rintro u w' ⟨rfl, rfl⟩
  refine ⟨E, (refof_spec ((hq.ext e2).ext E) hf.nz hf.nw x.1).mono ?_⟩
  rintro u w3 ⟨e3, rfl⟩
  have E3 := E.trans e3
  refine ⟨E3, ?_⟩
  simp only [sBin_neq, stillS_ret]
  rw [sIf_not]
  refine ⟨fun h => absurd trivial h, fun _ => ?_⟩
  rw [stillS_eq (fun w1 h1 K => sFldA_ptr S.tfl_width_Range_To) E3, stillS_cell S.tcell_int32 (hc2.at 1 rfl) E3, stillS_eq (fun w1 h1 K => sFldA_ptr S.tfl_width_Range_To) E3, stillS_cell S.tcell_int32 (hc2.at 1 rfl) E3]
  refine (of_spec ((hp.ext e2).ext E3) hf x.2).mono ?_
  rintro u w' ⟨rfl, rfl⟩
  refine ⟨E3, (refof_spec ((hq.ext e2).ext E3) hf.nz hf.nw x.2).mono ?_⟩
  rintro u w4 ⟨e4, rfl⟩
  have E4 := E3.trans e4
  refine ⟨E4, ?_⟩
  simp only [sBin_neq, stillS_ret]
  rw [sIf_not]
  refine ⟨fun h => absurd trivial h, fun _ => ?_⟩
  rw [sBin_add _ _ ⟨by omega, by omega⟩]
  exact ⟨⟨e2.trans E4, i + 1, by simp, by omega⟩, by simp only []; omega⟩
theorem tables_loop3 {w w0 : World} (hG : Glob w0) (e0 : Ext w0 w) {p q z v : Value} {zs ws : List Rg} (hf : Fine zs ws) (hp : TabR w p zs ws) (hq : TabR w q zs ws) (hz : Sl w z 2 encR zs) (hv : Sl w v 2 encR ws) (hn : zs.length ≤ 1000) (hnw : ws.length ≤ 1000) :
    LoopS [(.int .i64 0)] 1 26 w fun us _ w Nx3 => S.bodkinlaw02_WidthTables_L3 (Yes w0) Nx3 v p q (.int .i64 zs.length) z (hd us) w := by
  refine LoopS.intro (fun us w1 => Ext w w1 ∧ ∃ i : Nat, us = [.int .i64 i] ∧ i ≤ zs.length)
    (fun us _ => match us with | [.int _ a] => (zs.length - a).toNat | _ => 0) ⟨Ext.refl w, 0, rfl, Nat.zero_le _⟩ ?_
  rintro us vs w1 ⟨he, i, rfl, hi⟩
  unfold S.bodkinlaw02_WidthTables_L3
  rw [hd, sBin_lss, sIf_dec]
  refine ⟨fun hlt => ?_, fun hge => ?_⟩
  · obtain ⟨x, hx⟩ : ∃ x, zs[i]? = some x := ⟨_, List.getElem?_eq_getElem (by omega)⟩
    obtain ⟨b, o, hel, hc⟩ := (hz.ext he).el hx
    rw [sIdxA_sl S.tel_L_width_Range S.tsz_width_Range (by omega) (hz.ext he) hx rfl, hel, sLoad_agg S.tagg_width_Range hc rfl]
    refine sVar S.tze_width_Range S.tsz_width_Range (by decide) rfl rfl (encR_ok.one x) fun b2 w2 _ _ he2 hk => ?_
    have hc2 := hk.cells
    have e2 := he.trans he2
    refine DrawS.ext ?_
    have E : Ext w2 w2.drew := (Ext.refl w2).drew
    rw [stillS_eq (fun w1 h1 K => sFldA_ptr S.tfl_width_Range_From) E, stillS_cell S.tcell_int32 (hc2.at 0 rfl) E, stillS_eq (fun w1 h1 K => sFldA_ptr S.tfl_width_Range_From) E, stillS_cell S.tcell_int32 (hc2.at 0 rfl) E]
    refine (of_spec ((hp.ext e2).ext E) hf x.1).mono ?_
    rintro u w' ⟨rfl, rfl⟩
    refine ⟨E, (refof_spec ((hq.ext e2).ext E) hf.nz hf.nw x.1).mono ?_⟩
    rintro u w3 ⟨e3, rfl⟩
    have E3 := E.trans e3
    refine ⟨E3, ?_⟩
    simp only [sBin_neq, stillS_ret]
    rw [sIf_not]
    refine ⟨fun h => absurd trivial h, fun _ => ?_⟩
    rw [stillS_eq (fun w1 h1 K => sFldA_ptr S.tfl_width_Range_To) E3, stillS_cell S.tcell_int32 (hc2.at 1 rfl) E3, stillS_eq (fun w1 h1 K => sFldA_ptr S.tfl_width_Range_To) E3, stillS_cell S.tcell_int32 (hc2.at 1 rfl) E3]
    refine (of_spec ((hp.ext e2).ext E3) hf x.2).mono ?_
    rintro u w' ⟨rfl, rfl⟩
    refine ⟨E3, (refof_spec ((hq.ext e2).ext E3) hf.nz hf.nw x.2).mono ?_⟩
    rintro u w4 ⟨e4, rfl⟩
    have E4 := E3.trans e4
    refine ⟨E4, ?_⟩
    simp only [sBin_neq, stillS_ret]
    rw [sIf_not]
    refine ⟨fun h => absurd trivial h, fun _ => ?_⟩
    rw [sBin_add _ _ ⟨by omega, by omega⟩]
    exact ⟨⟨e2.trans E4, i + 1, by simp, by omega⟩, by simp only []; omega⟩
  · rw [sLen_sl S.tel_L_width_Range (hv.ext he)]
    exact tables_loop4 hG (e0.trans he) hf (hp.ext he) (hq.ext he) (hv.ext he) hnw

theorem widthTables_spec {w : World} (hG : Glob w) {z v : Value} {zs ws : List Rg} (hz : Sl w z 2 encR zs) (hv : Sl w v 2 encR ws) (r : Int) : S.bodkinlaw02_WidthTables (Yes w) z v (.int .i32 r) w := by
  unfold S.bodkinlaw02_WidthTables
  rw [sLen_sl S.tel_L_width_Range hz, sBin_gtr, sIf_dec, sLen_sl S.tel_L_width_Range hv, sBin_gtr, sIf_dec]
  refine ⟨fun _ => then_three hG (Ext.refl w), fun h1 => ⟨fun _ => then_three hG (Ext.refl w), fun h2 => ?_⟩⟩
  refine (new_spec hz hv).mono ?_
  rintro u w1 ⟨e1, hbig, hbad, hgood⟩
  have hnew : ∃ p n, u = .tuple #[p, .int .i64 n] ∧ (TooBig zs ws → p = .pointer none ∧ n = 2) ∧ (¬ TooBig zs ws → ¬ (Rt zs ∧ Rt ws) → p = .pointer none ∧ n = 4) ∧
      (¬ TooBig zs ws → Rt zs → Rt ws → ∃ b, p = .pointer (some b) ∧ n = 0 ∧ TabR w1 p zs ws) := by
    by_cases hB : TooBig zs ws
    · exact ⟨_, _, hbig hB, fun _ => ⟨rfl, rfl⟩, fun h => absurd hB h, fun h => absurd hB h⟩
    · by_cases hR : Rt zs ∧ Rt ws
      · obtain ⟨b, x, y, hu, _, hk, hx, hy⟩ := hgood hB hR.1 hR.2
        exact ⟨_, _, hu, fun h => absurd h hB, fun _ h => absurd hR h, fun _ _ _ => ⟨_, rfl, rfl, b, 0, x, y, rfl, hk.cells, hx.sl encR_ok, hy.sl encR_ok⟩⟩
      · exact ⟨_, _, hbad hB hR, fun h => absurd h hB, fun _ _ => ⟨rfl, rfl⟩, fun _ h1 h2 => absurd ⟨h1, h2⟩ hR⟩
  obtain ⟨p, n, rfl, hbig, hbad, hgood⟩ := hnew
  rw [sExtract_0, sExtract_1]
  refine (refs_spec (hz.ext e1) (by omega)).mono ?_
  rintro x w2 ⟨e2, hx⟩
  refine (refs_spec ((hv.ext e1).ext e2) (by omega)).mono ?_
  rintro y w3 ⟨e3, hy⟩
  rw [sBuild_of (lp := [(0, [x]), (1, [y])]) (cs := [x, y]) S.tze_bodkinref02_Table S.tpl_bodkinref02_Table (by simp [hx.shape.1, hy.shape.1]) rfl]
  refine sBox_new rfl fun b4 w4 hb4 hs4 e4 hk4 => ?_
  have E := ((e1.trans e2).trans e3).trans e4
  have hq : TabR w4 (.pointer (some ⟨b4, 0, none⟩)) zs ws := ⟨b4, 0, x, y, rfl, hk4.cells, ((hx.ext e3).ext e4).sl encR_ok, (hy.ext e4).sl encR_ok⟩
  refine JoinS.intro (fun us w' => w' = w4 ∧ ∃ b : Bool, us = [.bool b] ∧ (b = true ↔ TooBig zs ws)) ?_ ?_
  · rw [sLen_sl S.tel_L_width_Range (hz.ext E), sBin_gtr, sIf_dec, sLen_sl S.tel_L_width_Range (hv.ext E), sBin_gtr]
    refine ⟨fun h1 => ⟨rfl, true, rfl, by simp only [true_iff]; exact .inl (by omega)⟩, fun h1 => ⟨rfl, _, rfl, ?_⟩⟩
    rw [decide_eq_true_eq]
    unfold TooBig
    omega
  rintro us vs w4 ⟨rfl, b, rfl, hb⟩
  unfold S.bodkinlaw02_WidthTables_J1
  rw [hd, sIf_bool]
  refine ⟨fun h => ?_, fun h => ?_⟩
  · obtain ⟨rfl, rfl⟩ := hbig (hb.1 h)
    rw [sBin_eql, sIf_pos rfl, sBin_ptr_eq S.tpt_P_width_Table, Option.isNone_none, sIf_true]
    exact then_three hG E
  have hnb : ¬ TooBig zs ws := fun h' => by rw [hb.2 h'] at h; cases h
  refine JoinS.intro (fun us w' => Ext w4 w' ∧ ∃ b : Bool, us = [.bool b] ∧ (b = true ↔ ¬ (Rt zs ∧ Rt ws))) ?_ ?_
  · obtain ⟨b, o, x', y', hpq, hc, hx', hy'⟩ := hq
    rw [hpq, sNil_ptr, sFldA_ptr S.tfl_bodkinref02_Table_Zero, sLoad_cell S.tcell_L_bodkinref02_Range (hc.at 0 rfl)]
    refine (refright_spec hx').mono ?_
    rintro u w5 ⟨e5, b5, rfl, hb5⟩
    rw [sUn_not, sIf_bool]
    refine ⟨fun h5 => ⟨e5, true, rfl, ?_⟩, fun h5 => ?_⟩
    · simp only [true_iff]; intro hR; rw [hb5.2 hR.1] at h5; cases h5
    have hr1 : Rt zs := hb5.1 (by simpa using h5)
    rw [sNil_ptr, sFldA_ptr S.tfl_bodkinref02_Table_Wide, sLoad_cell S.tcell_L_bodkinref02_Range ((hc.ext e5).at 1 rfl)]
    refine (refright_spec (hy'.ext e5)).mono ?_
    rintro u w6 ⟨e6, b6, rfl, hb6⟩
    rw [sUn_not]
    refine ⟨e5.trans e6, _, rfl, ?_⟩
    cases b6 with
    | true => simp only [Bool.not_true, Bool.false_eq_true, false_iff]; exact fun h => h ⟨hr1, hb6.1 rfl⟩
    | false => simp only [Bool.not_false, true_iff]; exact fun hr => by have := hb6.2 hr.2; cases this
  rintro us vs w5 ⟨e5, b, rfl, hb⟩
  have E5 := E.trans e5
  unfold S.bodkinlaw02_WidthTables_J2
  rw [hd, sIf_bool]
  refine ⟨fun h => ?_, fun h => ?_⟩
  · obtain ⟨rfl, rfl⟩ := hbad hnb (hb.1 h)
    rw [sBin_eql, sIf_pos rfl, sBin_ptr_eq S.tpt_P_width_Table, Option.isNone_none, sIf_true]
    exact then_three hG E5
  · have hR : Rt zs ∧ Rt ws := Classical.byContradiction fun h' => by rw [hb.2 h'] at h; cases h
    obtain ⟨a, rfl, rfl, hp⟩ := hgood hnb hR.1 hR.2
    have hp5 := (((hp.ext e2).ext e3).ext e4).ext e5
    have hf : Fine zs ws := ⟨hR.1.ris, hR.2.ris, by omega, by omega⟩
    rw [sBin_neq, sIf_not]
    refine ⟨fun h => absurd rfl h, fun _ => ?_⟩
    rw [sBin_ptr_eq S.tpt_P_width_Table, Option.isNone_some, sIf_false]
    refine (of_spec hp5 hf r).mono ?_
    rintro u w' ⟨rfl, rfl⟩
    refine (refof_spec (hq.ext e5) hf.nz hf.nw r).mono ?_
    rintro u w6 ⟨e6, rfl⟩
    rw [sBin_neq, sIf_not]
    refine ⟨fun h => absurd rfl h, fun _ => ?_⟩
    rw [sLen_sl S.tel_L_width_Range ((hz.ext E5).ext e6)]
    exact tables_loop3 hG (E5.trans e6) hf (hp5.ext e6) ((hq.ext e5).ext e6) ((hz.ext E5).ext e6) ((hv.ext E5).ext e6) (by omega) (by omega)
end Go.Proofs.YtchblkoipojcbaaDoor

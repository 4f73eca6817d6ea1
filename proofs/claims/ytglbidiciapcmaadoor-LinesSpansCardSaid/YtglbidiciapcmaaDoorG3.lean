/- The laws of rows. Conditions: the table of sizes in memory. -/
import Derived.Test.YtglbidiciapcmaaDoorG2
namespace Go.Proofs.YtglbidiciapcmaaDoor
open Go Go.Lift Go.RowKit Go.Txt

theorem encP2_eq {a b c d : Int} : encP2 a b = encP2 c d ↔ a = c ∧ b = d := by
  unfold encP2
  constructor
  · intro h
    simp only [List.cons.injEq, Value.int.injEq, true_and, and_true] at h
    exact h
  · rintro ⟨rfl, rfl⟩; rfl
theorem bool_dec {r : Bool} {p : Prop} [Decidable p] (h : r = true ↔ p) : r = decide p := by
  by_cases hp : p
  · rw [h.2 hp]; simp [hp]
  · have : r = false := by
      cases r
      · rfl
      · exact absurd (h.1 rfl) hp
    rw [this]; simp [hp]
section
variable {w : World} {K : K1} {cx cy : Bool}
theorem sBin_pt (a b c d : Int) : sBin Tryd.prog .eql S.T.api_Point cx cy (.agg (encP2 a b).toArray) (.agg (encP2 c d).toArray) w K = K (.bool (decide (a = c ∧ b = d))) w := by
  obtain ⟨r, hr, he, _⟩ := sBin_deep (P := Tryd.prog) (cx := cx) (cy := cy) (cs := encP2 a b) (ds := encP2 c d) S.tdq_api_Point S.taq_api_Point S.tgq_api_Point (by kernel_rfl) (by kernel_rfl)
  rw [he, bool_dec (hr.trans encP2_eq)]
theorem sBin_ptne (a b c d : Int) : sBin Tryd.prog .neq S.T.api_Point cx cy (.agg (encP2 a b).toArray) (.agg (encP2 c d).toArray) w K = K (.bool (!decide (a = c ∧ b = d))) w := by
  obtain ⟨r, hr, _, he⟩ := sBin_deep (P := Tryd.prog) (cx := cx) (cy := cy) (cs := encP2 a b) (ds := encP2 c d) S.tdq_api_Point S.taq_api_Point S.tgq_api_Point (by kernel_rfl) (by kernel_rfl)
  rw [he, bool_dec (hr.trans encP2_eq)]
theorem sBin_sp (a b c d : Int) : sBin Tryd.prog .eql S.T.api_Span cx cy (.agg (encP2 a b).toArray) (.agg (encP2 c d).toArray) w K = K (.bool (decide (a = c ∧ b = d))) w := by
  obtain ⟨r, hr, he, _⟩ := sBin_deep (P := Tryd.prog) (cx := cx) (cy := cy) (cs := encP2 a b) (ds := encP2 c d) S.tdq_api_Span S.taq_api_Span S.tgq_api_Span (by kernel_rfl) (by kernel_rfl)
  rw [he, bool_dec (hr.trans encP2_eq)]
theorem sBin_spne (a b c d : Int) : sBin Tryd.prog .neq S.T.api_Span cx cy (.agg (encP2 a b).toArray) (.agg (encP2 c d).toArray) w K = K (.bool (!decide (a = c ∧ b = d))) w := by
  obtain ⟨r, hr, _, he⟩ := sBin_deep (P := Tryd.prog) (cx := cx) (cy := cy) (cs := encP2 a b) (ds := encP2 c d) S.tdq_api_Span S.taq_api_Span S.tgq_api_Span (by kernel_rfl) (by kernel_rfl)
  rw [he, bool_dec (hr.trans encP2_eq)]
end
/-- A new rope of a text that is not too long is a right one. -/
theorem newOk' {s : List UInt8} (h : (runes s).length ≤ 20000) : RpOk (pcs (runes s)) := ⟨pcs_ok (runes_ok s), by rw [pcs_join]; exact h⟩
theorem rnew_fit {w : World} {s : List UInt8} (hM : Mo w) (hs : s.length ≤ 20000) : sCall Tryd.prog S.rope_New.n [tv s] w fun u w' => Ext w w' ∧ ∃ b ps, u = .tuple #[.pointer (some ⟨b, 0, none⟩), .int .i64 0] ∧ Rp w' (.pointer (some ⟨b, 0, none⟩)) ps ∧ RpOk ps ∧ Bg ps ∧ ps.flatten = runes s := by
  have hr := runes_len s
  refine (rnew_spec hM (by omega)).mono ?_
  rintro u w' ⟨e, hu⟩
  rcases hu with ⟨h, _⟩ | ⟨h, b, rfl, hb⟩
  · omega
  · exact ⟨e, b, _, rfl, hb, newOk' h, pcs_bg _, pcs_join _⟩
theorem two_runes : runes [97, 98, 10, 99] = [97, 98, 10, 99] := by
  have : txt [97, 98, 10, 99] = [97, 98, 10, 99] := by decide +kernel
  rw [← this]
  exact runes_of (by decide)
theorem lawtwo_spec {w : World} (hM : Mo w) : sCall Tryd.prog S.bodkinlaw08_two.n [] w fun u w' => Ext w w' ∧ u = .bool true := by
  refine S.bodkinlaw08_two.call ?_
  unfold S.bodkinlaw08_two
  refine (rnew_fit (s := [97, 98, 10, 99]) hM (by decide)).mono ?_
  rintro u w1 ⟨e1, b, ps, rfl, hr, hp, _, hfl⟩
  rw [two_runes] at hfl
  have hb1 : beh ps.flatten 1 = 3 := by rw [hfl]; exact beh_next (l := [97, 98, 10, 99]) (i := 2) rfl
  have he1 : endL ps.flatten 1 = 4 := by rw [hfl]; unfold endL; rw [if_neg (by decide)]; rfl
  have hb0 : beh ps.flatten 0 = 0 := beh_zero _
  have he0 : endL ps.flatten 0 = 2 := by rw [hfl]; exact end_at (l := [97, 98, 10, 99]) (i := 2) rfl
  have hn : nls ps.flatten = 1 := by rw [hfl]; rfl
  rw [sExtract_0, sExtract_1, sBuild_of (cs := encP2 1 1) (lp := [(0, [.int .i64 1]), (1, [.int .i64 1])]) S.tze_api_Point S.tpl_api_Point rfl rfl]
  refine (lplaceat_spec (r := 1) (c := 1) hr hp).mono ?_
  rintro u w2 ⟨e2, hu⟩
  rcases hu with ⟨_, rfl⟩ | ⟨h, _⟩
  case inr => exact absurd ⟨⟨by decide, by rw [hn]; decide⟩, by decide, by rw [show (1 : Int).toNat = 1 from rfl, he1, hb1]; decide⟩ h
  rw [sExtract_0, sExtract_1, show (1 : Int).toNat = 1 from rfl, hb1, sBin_eql, sIf_dec]
  refine ⟨fun _ => ?_, fun h => absurd rfl h⟩
  rw [sBin_eql, sIf_dec]
  refine ⟨fun _ => ?_, fun h => absurd rfl h⟩
  rw [sBin_eql, sIf_dec]
  refine ⟨fun _ => ?_, fun h => absurd rfl h⟩
  rw [sBuild_of (cs := encP2 0 9) (lp := [(1, [.int .i64 9])]) S.tze_api_Point S.tpl_api_Point rfl rfl]
  refine (lclip_spec (r := 0) (c := 9) (hr.ext e2) hp).mono ?_
  rintro u w3 ⟨e3, rfl⟩
  have hcr : clR ps.flatten 0 9 = 0 := by unfold clR; rw [if_neg (by decide), if_neg (by rw [hn]; decide)]
  have hcc : clC ps.flatten 0 9 = 2 := by
    unfold clC
    rw [if_neg (by decide), if_neg (by rw [hn]; decide), if_neg (by decide), show (0 : Int).toNat = 0 from rfl, hb0, he0]
    rfl
  rw [hcr, hcc, sBuild_of (cs := encP2 0 2) (lp := [(1, [.int .i64 2])]) S.tze_api_Point S.tpl_api_Point rfl rfl, sBin_pt, sIf_dec]
  refine ⟨fun _ => ?_, fun h => absurd ⟨rfl, rfl⟩ h⟩
  refine (lrows_spec (hr.ext (e2.trans e3)) hp).mono ?_
  rintro u w4 ⟨e4, rfl⟩
  rw [hn, sBin_eql]
  exact ⟨((e1.trans e2).trans e3).trans e4, rfl⟩
abbrev Yes' (w : World) : K1 := fun u w' => Ext w w' ∧ u = .bool true
theorem endTwo {w w' : World} (hM : Mo w) (e : Ext w w') : sCall Tryd.prog S.bodkinlaw08_two.n [] w' (Yes' w) := (lawtwo_spec (hM.ext e)).mono fun _ _ h => ⟨e.trans h.1, h.2⟩
theorem linesSpans_spec {w : World} (hM : Mo w) (s : List UInt8) (row : Int) : S.bodkinlaw08_LinesSpans (Yes' w) (tv s) (.int .i64 row) w := by
  unfold S.bodkinlaw08_LinesSpans
  rw [sLen_str tstr, sBin_gtr, sIf_dec]
  refine ⟨fun _ => endTwo hM (Ext.refl w), fun hs => ?_⟩
  have hrl := runes_len s
  refine (rnew_fit hM (by omega)).mono ?_
  rintro u w1 ⟨e1, b, ps, rfl, hr, hp, _, hfl⟩
  rw [sExtract_0, sExtract_1]
  refine (ddecode_spec s (by omega)).mono ?_
  rintro q w2 ⟨e2, hq⟩
  rw [← hfl] at hq hrl
  refine (dspans_spec (hq.sl encRn_ok) (by omega)).mono ?_
  rintro t w3 ⟨e3, ht⟩
  have e13 := e2.trans e3
  refine (lspan_spec (row := row) (hr.ext e13) hp).mono ?_
  rintro u w4 ⟨e4, hu⟩
  obtain ⟨x, y, z, rfl, hx⟩ : ∃ x y z : Int, u = .tuple #[.agg (encP2 x y).toArray, .int .i64 z] ∧ (((0 ≤ row ∧ row ≤ nls ps.flatten) ∧ x = beh ps.flatten row.toNat ∧ y = endL ps.flatten row.toNat ∧ z = 0) ∨ (¬ (0 ≤ row ∧ row ≤ nls ps.flatten) ∧ x = 0 ∧ y = 0 ∧ z = 1)) := by
    rcases hu with ⟨h, rfl⟩ | ⟨h, rfl⟩
    · exact ⟨_, _, _, rfl, .inl ⟨h, rfl, rfl, rfl⟩⟩
    · exact ⟨_, _, _, rfl, .inr ⟨h, rfl, rfl, rfl⟩⟩
  clear hu
  rw [sExtract_0, sExtract_1]
  refine sVar (vs := encP2 x y) S.tze_api_Span S.tsz_api_Span (by decide) rfl rfl (encP2_one _ _) fun b9 w5 hb9 hs5 e5 hk9 => ?_
  have e15 := (e13.trans e4).trans e5
  refine (ltext_spec (row := row) (hr.ext e15) hp).mono ?_
  rintro u w6 ⟨e6, hu⟩
  obtain ⟨tx, z', rfl, hx'⟩ : ∃ (tx : List UInt8) (z' : Int), u = .tuple #[tv tx, .int .i64 z'] ∧ (((0 ≤ row ∧ row ≤ nls ps.flatten) ∧ tx = txt ((ps.flatten.drop (beh ps.flatten row.toNat)).take (endL ps.flatten row.toNat - beh ps.flatten row.toNat)) ∧ z' = 0) ∨ (¬ (0 ≤ row ∧ row ≤ nls ps.flatten) ∧ tx = [] ∧ z' = 1)) := by
    rcases hu with ⟨h, rfl⟩ | ⟨h, rfl⟩
    · exact ⟨_, _, rfl, .inl ⟨h, rfl, rfl⟩⟩
    · exact ⟨_, _, rfl, .inr ⟨h, rfl, rfl⟩⟩
  clear hu
  have e16 := e15.trans e6
  have e26 := ((e3.trans e4).trans e5).trans e6
  have e36 := (e4.trans e5).trans e6
  rw [sExtract_0, sExtract_1, sBin_neq, sIf_not]
  refine ⟨fun h => absurd rfl h, fun _ => ?_⟩
  refine (lrows_spec (hr.ext e16) hp).mono ?_
  rintro u w7 ⟨e7, rfl⟩
  have hq7 := ((hq.ext e26).ext e7).sl encRn_ok
  have ht7 := ((ht.ext e36).ext e7).sl encQ_ok
  have hk7 := (hk9.ext e6).ext e7
  have E7 := e1.trans (e16.trans e7)
  have hnl := nls_le ps.flatten
  rw [sLen_sl S.tel_L_api_Span ht7, spans_len, sBin_neq, sIf_not]
  refine ⟨fun h => absurd (by omega) h, fun _ => ?_⟩
  refine JoinS.intro (fun us w' => w' = w7 ∧ ∃ q : Bool, us = [.bool q] ∧ (q = true ↔ ¬ (0 ≤ row ∧ row ≤ nls ps.flatten))) ?_ ?_
  · rw [sBin_lss, sIf_dec]
    refine ⟨fun h => ⟨rfl, true, rfl, by simp only [true_iff]; omega⟩, fun h => ?_⟩
    rw [sLen_sl S.tel_L_api_Span ht7, spans_len, sBin_geq]
    exact ⟨rfl, _, rfl, by rw [decide_eq_true_eq]; omega⟩
  · rintro us vs w7 ⟨rfl, qb, rfl, hqb⟩
    unfold S.bodkinlaw08_LinesSpans_J1
    rw [Go.Lift.hd, sIf_bool]
    refine ⟨fun hT => ?_, fun hF => ?_⟩
    · have hout := hqb.1 hT
      rcases hx with ⟨h, _⟩ | ⟨_, rfl, rfl, rfl⟩
      · exact absurd h hout
      rcases hx' with ⟨h, _⟩ | ⟨_, rfl, rfl⟩
      · exact absurd h hout
      rw [sBin_eql, sIf_dec]
      refine ⟨fun _ => ?_, fun h => absurd rfl h⟩
      rw [sBin_eql, sIf_dec]
      refine ⟨fun _ => ?_, fun h => absurd rfl h⟩
      rw [sLoad_agg (cs := encP2 0 0) S.tagg_api_Span hk7.cells rfl, sBuild_of (cs := encP2 0 0) (lp := []) S.tze_api_Span S.tpl_api_Span rfl rfl, sBin_sp, sIf_dec]
      refine ⟨fun _ => ?_, fun h => absurd ⟨rfl, rfl⟩ h⟩
      rw [sBin_strEq, sIf_dec]
      exact ⟨fun _ => endTwo hM E7, fun h => absurd rfl h⟩
    · have hin : 0 ≤ row ∧ row ≤ nls ps.flatten := by
        rcases Decidable.em (0 ≤ row ∧ row ≤ nls ps.flatten) with h1 | h1
        · exact h1
        · rw [hqb.2 h1] at hF; cases hF
      rcases hx with ⟨_, rfl, rfl, rfl⟩ | ⟨h, _⟩
      case inr => exact absurd hin h
      rcases hx' with ⟨_, rfl, rfl⟩ | ⟨h, _⟩
      case inr => exact absurd hin h
      have hk : row.toNat ≤ nls ps.flatten := by omega
      have hsa := spans_at hk
      have hbe := beh_end hk
      obtain ⟨bb, of, hel, hc⟩ := ht7.el hsa
      have hcap := sl_cap hq7
      refine DrawS.ext ?_
      have E : Ext w7 w7.drew := (Ext.refl w7).drew
      rw [stillS_eq (fun w1 h1 K => sBin_eql _ _) E, sIf_dec]
      refine ⟨fun _ => ?_, fun h => absurd rfl h⟩
      rw [stillS_eq (fun w1 h1 K => sBin_eql _ _) E, sIf_dec]
      refine ⟨fun _ => ?_, fun h => absurd rfl h⟩
      rw [stillS_agg (cs := encP2 (beh ps.flatten row.toNat) (endL ps.flatten row.toNat)) S.tagg_api_Span hk7.cells rfl E,
        stillS_eq (fun w1 h1 K => sIdxA_sl (z := row) S.tel_L_api_Span S.tsz_api_Span (by omega) (ht7.ext h1) hsa (by omega)) E, hel, stillS_agg (cs := encP2 (beh ps.flatten row.toNat) (endL ps.flatten row.toNat)) S.tagg_api_Span hc rfl E,
        stillS_eq (fun w1 h1 K => sBin_sp _ _ _ _) E, sIf_dec]
      refine ⟨fun _ => ?_, fun h => absurd ⟨rfl, rfl⟩ h⟩
      rw [stillS_eq (fun w1 h1 K => sFldA_ptr S.tfl_api_Span_From) E, stillS_cell (v := .int .i64 (beh ps.flatten row.toNat)) S.tcell_int (hk7.cells.at 0 rfl) E, stillS_eq (fun w1 h1 K => sFldA_ptr S.tfl_api_Span_To) E, stillS_cell (v := .int .i64 (endL ps.flatten row.toNat)) S.tcell_int (hk7.cells.at 1 rfl) E,
        stillS_eq (fun w1 h1 K => sSlice_lh (lo := beh ps.flatten row.toNat) (hi := endL ps.flatten row.toNat) S.tel_L_int32 S.tsz_int32 (by omega) (hq7.ext h1) rfl rfl (by omega) (by omega)) E]
      have p1 : Sl w7.drew (slV q 1 (beh ps.flatten row.toNat) (endL ps.flatten row.toNat) (capV q)) 1 encRn ((ps.flatten.drop (beh ps.flatten row.toNat)).take (endL ps.flatten row.toNat - beh ps.flatten row.toNat)) := by
        have := (hq7.ext E).part (lo := beh ps.flatten row.toNat) (hi := endL ps.flatten row.toNat) (mx := capV q) (by omega) (by omega) (by omega) (Nat.le_refl _)
        rwa [List.drop_take] at this
      refine (dencode_spec p1 (by rw [List.length_take, List.length_drop]; omega)).mono ?_
      rintro u w8 ⟨e8, rfl⟩
      have e78 := E.trans e8
      refine ⟨e78, ?_⟩
      rw [stillS_eq (fun w1 h1 K => sBin_strEq) e78, sIf_dec]
      refine ⟨fun _ => ?_, fun h => absurd rfl h⟩
      exact (lawtwo_spec ((hM.ext E7).ext e78)).mono fun u w' h => ⟨e78.trans h.1, (E7.trans e78).trans h.1, h.2⟩
theorem linesPoints_spec {w : World} (hM : Mo w) (s : List UInt8) (a r c : Int) : S.bodkinlaw08_LinesPoints (Yes' w) (tv s) (.int .i64 a) (.agg (encP2 r c).toArray) w := by
  unfold S.bodkinlaw08_LinesPoints
  refine sBox_new (cs := encP2 r c) rfl fun b5 w0 hb5 hs0 e0 hk5 => ?_
  rw [sLen_str tstr, sBin_gtr, sIf_dec]
  refine ⟨fun _ => endTwo hM e0, fun hs => ?_⟩
  have hrl := runes_len s
  refine (rnew_fit (hM.ext e0) (by omega)).mono ?_
  rintro u w1 ⟨e1, b, ps, rfl, hr, hp, _, hfl⟩
  rw [sExtract_0, sExtract_1]
  refine (ddecode_spec s (by omega)).mono ?_
  rintro q w2 ⟨e2, hq⟩
  rw [← hfl] at hq hrl
  have hqs := hq.sl encRn_ok
  rw [sBin_neq, sIf_not]
  refine ⟨fun h => absurd rfl h, fun _ => ?_⟩
  refine (lpointat_spec (a := a) (hr.ext e2) hp).mono ?_
  rintro u w3 ⟨e3, hu⟩
  obtain ⟨x, y, z, rfl, hx⟩ : ∃ x y z : Int, u = .tuple #[.agg (encP2 x y).toArray, .int .i64 z] ∧ (((0 ≤ a ∧ a ≤ ps.flatten.length) ∧ x = ptR ps.flatten a.toNat ∧ y = ptC ps.flatten a.toNat ∧ z = 0) ∨ (¬ (0 ≤ a ∧ a ≤ ps.flatten.length) ∧ x = 0 ∧ y = 0 ∧ z = 1)) := by
    rcases hu with ⟨h, rfl⟩ | ⟨h, rfl⟩
    · exact ⟨_, _, _, rfl, .inl ⟨h, rfl, rfl, rfl⟩⟩
    · exact ⟨_, _, _, rfl, .inr ⟨h, rfl, rfl, rfl⟩⟩
  clear hu
  rw [sExtract_0, sExtract_1]
  refine sVar (vs := encP2 x y) S.tze_api_Point S.tsz_api_Point (by decide) rfl rfl (encP2_one _ _) fun b10 w4 hb10 hs4 e4 hk10 => ?_
  have e24 := e3.trans e4
  have hq4 := hqs.ext e24
  have E4 := (e0.trans e1).trans (e2.trans e24)
  refine JoinS.intro (fun us w' => Ext w4 w') ?_ ?_
  · refine JoinS.intro (fun us w' => w' = w4 ∧ ∃ qb : Bool, us = [.bool qb] ∧ (qb = true ↔ ¬ (0 ≤ a ∧ a ≤ ps.flatten.length))) ?_ ?_
    · rw [sBin_lss, sIf_dec]
      refine ⟨fun h => ⟨rfl, true, rfl, by simp only [true_iff]; omega⟩, fun h => ?_⟩
      rw [sLen_sl S.tel_L_int32 hq4, sBin_gtr]
      exact ⟨rfl, _, rfl, by rw [decide_eq_true_eq]; omega⟩
    · rintro us vs w4 ⟨rfl, qb, rfl, hqb⟩
      unfold S.bodkinlaw08_LinesPoints_J2
      rw [Go.Lift.hd, sIf_bool]
      refine ⟨fun hT => ?_, fun hF => ?_⟩
      · rcases hx with ⟨h, _⟩ | ⟨_, rfl, rfl, rfl⟩
        · exact absurd h (hqb.1 hT)
        rw [sBin_neq, sIf_not]
        refine ⟨fun h => absurd rfl h, fun _ => ?_⟩
        rw [sLoad_agg (cs := encP2 0 0) S.tagg_api_Point hk10.cells rfl, sBuild_of (cs := encP2 0 0) (lp := []) S.tze_api_Point S.tpl_api_Point rfl rfl, sBin_ptne, sIf_not]
        exact ⟨fun h => absurd ⟨rfl, rfl⟩ h, fun _ => Ext.refl _⟩
      · have hin : 0 ≤ a ∧ a ≤ ps.flatten.length := by
          rcases Decidable.em (0 ≤ a ∧ a ≤ ps.flatten.length) with h1 | h1
          · exact h1
          · rw [hqb.2 h1] at hF; cases hF
        rcases hx with ⟨_, rfl, rfl, rfl⟩ | ⟨h, _⟩
        case inr => exact absurd hin h
        obtain ⟨A, rfl⟩ : ∃ A : Nat, a = A := ⟨a.toNat, by omega⟩
        rw [Int.toNat_natCast] at hk10
        refine DrawS.ext ?_
        have E : Ext w4 w4.drew := (Ext.refl w4).drew
        rw [stillS_eq (fun w1 h1 K => sBin_neq _ _) E, sIf_not]
        refine ⟨fun h => absurd rfl h, fun _ => ?_⟩
        rw [stillS_agg (cs := encP2 (ptR ps.flatten A) (ptC ps.flatten A)) S.tagg_api_Point hk10.cells rfl E]
        refine (dpointat_spec (A := A) (hq4.ext E) (by omega) (by omega)).mono ?_
        rintro u w5 ⟨e5, rfl⟩
        have e45 := E.trans e5
        refine ⟨e45, ?_⟩
        rw [stillS_eq (fun w1 h1 K => sBin_ptne _ _ _ _) e45, sIf_not]
        exact ⟨fun h => absurd ⟨rfl, rfl⟩ h, fun _ => e45⟩
  · rintro us vs w5 e5
    unfold S.bodkinlaw08_LinesPoints_J1
    have E5 := E4.trans e5
    have e25 := (e2.trans e24).trans e5
    have k5 := (hk5.ext e1).ext e25
    have hq5 := hq4.ext e5
    rw [sLoad_agg (cs := encP2 r c) S.tagg_api_Point k5.cells rfl]
    refine (lplaceat_spec (r := r) (c := c) (hr.ext e25) hp).mono ?_
    rintro u w6 ⟨e6, hu⟩
    obtain ⟨x, y, rfl, hx⟩ : ∃ x y : Int, u = .tuple #[.int .i64 x, .int .i64 y] ∧ ((IsP ps.flatten r c ∧ x = beh ps.flatten r.toNat + c ∧ y = 0) ∨ (¬ IsP ps.flatten r c ∧ x = 0 ∧ y = 1)) := by
      rcases hu with ⟨h, rfl⟩ | ⟨h, rfl⟩
      · exact ⟨_, _, rfl, .inl ⟨h, rfl, rfl⟩⟩
      · exact ⟨_, _, rfl, .inr ⟨h, rfl, rfl⟩⟩
    clear hu
    rw [sExtract_0, sExtract_1, sLoad_agg (cs := encP2 r c) S.tagg_api_Point (k5.ext e6).cells rfl]
    refine (dis_spec (r := r) (c := c) (hq5.ext e6) (by omega)).mono ?_
    rintro u w7 ⟨e7, qb, rfl, hqb⟩
    have e57 := e6.trans e7
    have E7 := E5.trans e57
    rw [sUn_not, sIf_bool]
    refine ⟨fun hF => ?_, fun hT => ?_⟩
    · have hno : ¬ IsP ps.flatten r c := fun h => by rw [hqb.2 h] at hF; cases hF
      rcases hx with ⟨h, _⟩ | ⟨_, rfl, rfl⟩
      · exact absurd h hno
      rw [sBin_eql, sIf_dec]
      refine ⟨fun _ => ?_, fun h => absurd rfl h⟩
      rw [sBin_eql, sIf_dec]
      exact ⟨fun _ => endTwo hM E7, fun h => absurd rfl h⟩
    · have his : IsP ps.flatten r c := hqb.1 (by simpa using hT)
      rcases hx with ⟨_, rfl, rfl⟩ | ⟨h, _⟩
      case inr => exact absurd his h
      obtain ⟨⟨h0, h1⟩, h2, h3⟩ := his
      have hk : r.toNat ≤ nls ps.flatten := by omega
      have hsa := spans_at hk
      have hbe := beh_end hk
      have k7 := k5.ext e57
      refine DrawS.ext ?_
      have E : Ext w7 w7.drew := (Ext.refl w7).drew
      rw [stillS_eq (fun w1 h1 K => sBin_eql _ _) E, sIf_dec]
      refine ⟨fun _ => ?_, fun h => absurd rfl h⟩
      rw [stillS_eq (fun w1 h1 K => sFldA_ptr S.tfl_api_Point_Row) E, stillS_cell (v := .int .i64 r) S.tcell_int (k7.cells.at 0 rfl) E, stillS_eq (fun w1 h1 K => sFldA_ptr S.tfl_api_Point_Col) E, stillS_cell (v := .int .i64 c) S.tcell_int (k7.cells.at 1 rfl) E]
      refine (dspans_spec ((hq5.ext e57).ext E) (by omega)).mono ?_
      rintro t w8 ⟨e8, ht⟩
      have hts := ht.sl encQ_ok
      obtain ⟨bb, of, hel, hc⟩ := hts.el hsa
      refine SubS.ext (E.trans e8) ?_
      have E' := Ext.refl w8
      rw [stillS_eq (fun w1 h1 K => sIdxA_sl (z := r) S.tel_L_api_Span S.tsz_api_Span (by omega) (hts.ext h1) hsa (by omega)) E', hel, stillS_eq (fun w1 h1 K => sFldA_ptr S.tfl_api_Span_From) E', stillS_cell (v := .int .i64 (beh ps.flatten r.toNat)) S.tcell_int (hc.at 0 rfl) E',
        stillS_eq (fun w1 h1 K => sBin_add _ _ ⟨by omega, by omega⟩) E', stillS_eq (fun w1 h1 K => sBin_eql _ _) E', sIf_dec]
      refine ⟨fun _ => ?_, fun h => absurd rfl h⟩
      have E8 := E7.trans (E.trans e8)
      exact (lawtwo_spec (hM.ext E8)).mono fun u w' h => ⟨h.1, E8.trans h.1, h.2⟩
theorem linesThere_spec {w : World} (hM : Mo w) (s : List UInt8) : S.bodkinlaw08_LinesThere (Yes' w) (tv s) w := by
  unfold S.bodkinlaw08_LinesThere
  rw [sLen_str tstr, sBin_gtr, sIf_dec]
  refine ⟨fun _ => endTwo hM (Ext.refl w), fun hs => ?_⟩
  have hrl := runes_len s
  refine (rnew_fit hM (by omega)).mono ?_
  rintro u w1 ⟨e1, b, ps, rfl, hr, hp, _, hfl⟩
  rw [← hfl] at hrl
  rw [sExtract_0, sExtract_1, sBin_neq, sIf_not]
  refine ⟨fun h => absurd rfl h, fun _ => ?_⟩
  rw [sBuild_of (cs := encP2 0 (-1)) (lp := [(1, [.int .i64 (-1)])]) S.tze_api_Point S.tpl_api_Point rfl rfl]
  refine sVar (vs := encP2 0 (-1)) S.tze_api_Point S.tsz_api_Point (by decide) rfl rfl (encP2_one _ _) fun b5 w2 hb5 hs2 e2 hk5 => ?_
  have s1 := e1.size
  refine LoopS.intro (fun us w3 => Ext w1 w3 ∧ ∃ (i : Nat) (x y : Int), us = [.int .i64 i] ∧ i ≤ ps.flatten.length + 1 ∧ Blk w3 b5 (encP2 x y) ∧ ((i = 0 ∧ x = 0 ∧ y = -1) ∨ ∃ j, i = j + 1 ∧ x = ptR ps.flatten j ∧ y = ptC ps.flatten j))
    (fun us _ => match us with | [.int _ a] => (ps.flatten.length + 1 - a).toNat | _ => 0) ⟨e2, 0, 0, -1, rfl, Nat.zero_le _, hk5, .inl ⟨rfl, rfl, rfl⟩⟩ ?_
  rintro us vs w3 ⟨e3, i, x, y, rfl, hi, k5, hxy⟩
  unfold S.bodkinlaw08_LinesThere_L1
  rw [Go.Lift.hd]
  have hnl := nls_le ps.flatten
  refine (rrunes_spec (hr.ext e3) hp).mono ?_
  rintro u w4 ⟨e4, rfl⟩
  have e14 := e3.trans e4
  rw [sBin_leq, sIf_dec]
  refine ⟨fun hle => ?_, fun hgt => ?_⟩
  · refine JoinS.dup ?_
    refine (lpointat_spec (a := i) (hr.ext e14) hp).mono ?_
    rintro u w5 ⟨e5, hu⟩
    rcases hu with ⟨_, rfl⟩ | ⟨h, _⟩
    case inr => exact absurd ⟨by omega, hle⟩ h
    have hil : i ≤ ps.flatten.length := by omega
    have hpt := pt_is hil
    have hae := at_end hil
    rw [Int.toNat_natCast, sExtract_0, sExtract_1]
    refine sVar (vs := encP2 (ptR ps.flatten i) (ptC ps.flatten i)) S.tze_api_Point S.tsz_api_Point (by decide) rfl rfl (encP2_one _ _) fun b7 w6 hb7 hs6 e6 hk7 => ?_
    have e16 := (e14.trans e5).trans e6
    rw [sLoad_agg (cs := encP2 (ptR ps.flatten i) (ptC ps.flatten i)) S.tagg_api_Point hk7.cells rfl]
    refine (lplaceat_spec (r := ptR ps.flatten i) (c := ptC ps.flatten i) (hr.ext e16) hp).mono ?_
    rintro u w7 ⟨e7, hu⟩
    rcases hu with ⟨_, rfl⟩ | ⟨h, _⟩
    case inr => exact absurd hpt h
    have hback : (beh ps.flatten (ptR ps.flatten i).toNat : Int) + ptC ps.flatten i = i := by
      unfold ptR ptC
      rw [Int.toNat_natCast]
      omega
    have e17 := e16.trans e7
    have e37 := ((e4.trans e5).trans e6).trans e7
    have k57 := k5.ext e37
    have k77 := hk7.ext e7
    rw [hback, sExtract_0, sExtract_1, sBin_neq, sIf_not]
    refine ⟨fun h => absurd rfl h, fun _ => ?_⟩
    rw [sBin_neq, sIf_not]
    refine ⟨fun h => absurd rfl h, fun _ => ?_⟩
    rw [sBin_neq, sIf_not]
    refine ⟨fun h => absurd rfl h, fun _ => ?_⟩
    have hrise : x ≤ ptR ps.flatten i ∧ (x = ptR ps.flatten i → y < ptC ps.flatten i) := by
      rcases hxy with ⟨rfl, rfl, rfl⟩ | ⟨j, rfl, rfl, rfl⟩
      · obtain ⟨z1, z2⟩ := pt_zero ps.flatten
        rw [z1, z2]
        decide
      · obtain ⟨r, hrj⟩ : ∃ r, ps.flatten[j]? = some r := ⟨_, List.getElem?_eq_getElem (by omega)⟩
        by_cases h10 : r = 10
        · subst h10
          obtain ⟨q1, q2⟩ := pt_break hrj
          rw [q1, q2]
          omega
        · obtain ⟨q1, q2⟩ := pt_on hrj h10
          rw [q1, q2]
          omega
    rw [sFldA_ptr S.tfl_api_Point_Row, sLoad_cell (v := .int .i64 (ptR ps.flatten i)) S.tcell_int (k77.cells.at 0 rfl), sFldA_ptr S.tfl_api_Point_Row, sLoad_cell (v := .int .i64 x) S.tcell_int (k57.cells.at 0 rfl), sBin_lss, sIf_dec]
    refine ⟨fun h => by omega, fun _ => ?_⟩
    rw [sFldA_ptr S.tfl_api_Point_Row, sLoad_cell (v := .int .i64 (ptR ps.flatten i)) S.tcell_int (k77.cells.at 0 rfl), sFldA_ptr S.tfl_api_Point_Row, sLoad_cell (v := .int .i64 x) S.tcell_int (k57.cells.at 0 rfl), sBin_eql, sIf_dec]
    have hfin : sStore Tryd.prog S.T.api_Point (.pointer (some ⟨b5, 0, none⟩)) (.agg (encP2 (ptR ps.flatten i) (ptC ps.flatten i)).toArray) w7 fun w => ∀ (vs : List Value), S.bodkinlaw08_LinesThere_J2 (fun us w' => (Ext w1 w' ∧ ∃ (i : Nat) (x y : Int), us = [.int .i64 i] ∧ i ≤ ps.flatten.length + 1 ∧ Blk w' b5 (encP2 x y) ∧ ((i = 0 ∧ x = 0 ∧ y = -1) ∨ ∃ j, i = j + 1 ∧ x = ptR ps.flatten j ∧ y = ptC ps.flatten j)) ∧
        (match us with | [.int _ a] => (ps.flatten.length + 1 - a).toNat | _ => 0) < (match [Value.int .i64 i] with | [.int _ a] => (ps.flatten.length + 1 - a).toNat | _ => 0)) (.int .i64 i) w := by
      refine sStore_blk S.tsz_api_Point (by decide) k57 (vs := encP2 (ptR ps.flatten i) (ptC ps.flatten i)) rfl rfl (by simp) (encP2_one _ _) fun w8 hs8 hg8 hk8 vs => ?_
      unfold S.bodkinlaw08_LinesThere_J2
      rw [sBin_add _ _ ⟨by omega, by omega⟩]
      exact ⟨⟨e17.wr hg8 (by rintro _ ⟨⟩; omega), i + 1, _, _, by simp, by omega, hk8, .inr ⟨i, rfl, rfl, rfl⟩⟩, by simp only []; omega⟩
    refine ⟨fun heq => ?_, fun hne => ?_⟩
    · rw [sFldA_ptr S.tfl_api_Point_Col, sLoad_cell (v := .int .i64 (ptC ps.flatten i)) S.tcell_int (k77.cells.at 1 rfl), sFldA_ptr S.tfl_api_Point_Col, sLoad_cell (v := .int .i64 y) S.tcell_int (k57.cells.at 1 rfl), sBin_leq, sIf_dec]
      refine ⟨fun h => by have := hrise.2 heq.symm; omega, fun _ => ?_⟩
      rw [sLoad_agg (cs := encP2 (ptR ps.flatten i) (ptC ps.flatten i)) S.tagg_api_Point k77.cells rfl]
      exact hfin
    · rw [sLoad_agg (cs := encP2 (ptR ps.flatten i) (ptC ps.flatten i)) S.tagg_api_Point k77.cells rfl]
      exact hfin
  · have hx : x = nls ps.flatten := by
      rcases hxy with ⟨rfl, _⟩ | ⟨j, rfl, rfl, rfl⟩
      · omega
      · obtain rfl : j = ps.flatten.length := by omega
        exact ptR_all _
    subst hx
    refine DrawS.ext ?_
    have E : Ext w4 w4.drew := (Ext.refl w4).drew
    rw [stillS_eq (fun w1 h1 K => sFldA_ptr S.tfl_api_Point_Row) E, stillS_cell (v := .int .i64 (nls ps.flatten)) S.tcell_int ((k5.ext e4).cells.at 0 rfl) E]
    refine (lrows_spec (hr.ext (e14.trans E)) hp).mono ?_
    rintro u w5 ⟨e5, rfl⟩
    have e45 := E.trans e5
    refine ⟨e45, ?_⟩
    have hle := hp.le
    rw [stillS_eq (fun w1 h1 K => sBin_sub _ _ ⟨by omega, by omega⟩) e45, stillS_eq (fun w1 h1 K => sBin_eql _ _) e45, sIf_dec]
    refine ⟨fun _ => ?_, fun h => absurd (by omega) h⟩
    have E5 := (e1.trans e14).trans e45
    exact (lawtwo_spec (hM.ext E5)).mono fun u w' h => ⟨e45.trans h.1, E5.trans h.1, h.2⟩
theorem linesClips_spec {w : World} (hM : Mo w) (s : List UInt8) (r c : Int) : S.bodkinlaw08_LinesClips (Yes' w) (tv s) (.agg (encP2 r c).toArray) w := by
  unfold S.bodkinlaw08_LinesClips
  refine sBox_new (cs := encP2 r c) rfl fun b3 w0 hb3 hs0 e0 hk3 => ?_
  rw [sLen_str tstr, sBin_gtr, sIf_dec]
  refine ⟨fun _ => endTwo hM e0, fun hs => ?_⟩
  have hrl := runes_len s
  refine (rnew_fit (hM.ext e0) (by omega)).mono ?_
  rintro u w1 ⟨e1, b, ps, rfl, hr, hp, _, hfl⟩
  rw [sExtract_0, sExtract_1]
  refine (ddecode_spec s (by omega)).mono ?_
  rintro q w2 ⟨e2, hq⟩
  rw [← hfl] at hq hrl
  have hqs := hq.sl encRn_ok
  have hk := (hk3.ext e1).ext e2
  rw [sLoad_agg (cs := encP2 r c) S.tagg_api_Point hk.cells rfl]
  refine (lclip_spec (r := r) (c := c) (hr.ext e2) hp).mono ?_
  rintro u w3 ⟨e3, rfl⟩
  refine sVar (vs := encP2 (clR ps.flatten r c) (clC ps.flatten r c)) S.tze_api_Point S.tsz_api_Point (by decide) rfl rfl (encP2_one _ _) fun b8 w4 hb8 hs4 e4 hk8 => ?_
  rw [sLoad_agg (cs := encP2 (clR ps.flatten r c) (clC ps.flatten r c)) S.tagg_api_Point hk8.cells rfl]
  have hcl := cl_is ps.flatten r c
  have e24 := e3.trans e4
  refine (lplaceat_spec (r := clR ps.flatten r c) (c := clC ps.flatten r c) (hr.ext (e2.trans e24)) hp).mono ?_
  rintro u w5 ⟨e5, hu⟩
  rcases hu with ⟨_, rfl⟩ | ⟨h, _⟩
  case inr => exact absurd hcl h
  have e25 := e24.trans e5
  have E5 := (e0.trans e1).trans (e2.trans e25)
  have k3 := hk.ext e25
  have k8 := hk8.ext e5
  rw [sExtract_0, sExtract_1]
  refine DrawS.ext ?_
  have E : Ext w5 w5.drew := (Ext.refl w5).drew
  rw [stillS_eq (fun w1 h1 K => sBin_eql _ _) E, sIf_dec]
  refine ⟨fun _ => ?_, fun h => absurd rfl h⟩
  rw [stillS_eq (fun w1 h1 K => sBin_eql _ _) E, sIf_dec]
  refine ⟨fun _ => ?_, fun h => absurd rfl h⟩
  rw [stillS_agg (cs := encP2 (clR ps.flatten r c) (clC ps.flatten r c)) S.tagg_api_Point k8.cells rfl E, stillS_agg (cs := encP2 r c) S.tagg_api_Point k3.cells rfl E]
  refine (dclip_spec (r := r) (c := c) ((hqs.ext e25).ext E) (by omega)).mono ?_
  rintro u w6 ⟨e6, rfl⟩
  have f6 := E.trans e6
  refine ⟨f6, ?_⟩
  rw [stillS_eq (fun w1 h1 K => sBin_pt _ _ _ _) f6, sIf_dec]
  refine ⟨fun _ => ?_, fun h => absurd ⟨rfl, rfl⟩ h⟩
  rw [stillS_agg (cs := encP2 (clR ps.flatten r c) (clC ps.flatten r c)) S.tagg_api_Point k8.cells rfl f6, stillS_agg (cs := encP2 (clR ps.flatten r c) (clC ps.flatten r c)) S.tagg_api_Point k8.cells rfl f6]
  refine (lclip_spec (r := clR ps.flatten r c) (c := clC ps.flatten r c) (hr.ext ((e2.trans e25).trans f6)) hp).mono ?_
  rintro u w7 ⟨e7, rfl⟩
  obtain ⟨q1, q2⟩ := cl_same hcl
  have f7 := f6.trans e7
  refine ⟨f7, ?_⟩
  rw [q1, q2, stillS_eq (fun w1 h1 K => sBin_pt _ _ _ _) f7, sIf_dec]
  refine ⟨fun _ => ?_, fun h => absurd ⟨rfl, rfl⟩ h⟩
  rw [stillS_agg (cs := encP2 (clR ps.flatten r c) (clC ps.flatten r c)) S.tagg_api_Point k8.cells rfl f7, stillS_agg (cs := encP2 r c) S.tagg_api_Point k3.cells rfl f7, stillS_eq (fun w1 h1 K => sBin_pt _ _ _ _) f7, stillS_agg (cs := encP2 r c) S.tagg_api_Point k3.cells rfl f7]
  refine (dis_spec (r := r) (c := c) ((hqs.ext e25).ext f7) (by omega)).mono ?_
  rintro u w8 ⟨e8, qb, rfl, hqb⟩
  have f8 := f7.trans e8
  refine ⟨f8, ?_⟩
  have hb : decide (clR ps.flatten r c = r ∧ clC ps.flatten r c = c) = qb := by
    rw [bool_dec (hqb.trans (cl_iff ps.flatten r c).symm)]
  rw [hb, stillS_eq (fun w1 h1 K => sBin_boolEq (by kernel_rfl) _ _) f8, show (qb == qb) = true by simp, sIf_true]
  have E8 := E5.trans f8
  exact (lawtwo_spec (hM.ext E8)).mono fun u w' h => ⟨f8.trans h.1, E8.trans h.1, h.2⟩
theorem Rp.nil' (w : World) : Rp w (.pointer none) [] := .inl ⟨rfl, rfl⟩
theorem RpOk.nil' : RpOk [] := ⟨fun p hp => by simp at hp, by simp⟩
theorem isP_nil (r c : Int) : IsP [] r c ↔ r = 0 ∧ c = 0 := by
  have h0 : beh ([] : List Int) 0 = 0 := beh_zero _
  have h1 : endL ([] : List Int) 0 = 0 := rfl
  unfold IsP
  constructor
  · rintro ⟨⟨h2, h3⟩, h4, h5⟩
    have h3 : r ≤ 0 := h3
    obtain rfl : r = 0 := by omega
    rw [show (0 : Int).toNat = 0 from rfl, h0, h1] at h5
    exact ⟨rfl, by omega⟩
  · rintro ⟨rfl, rfl⟩
    rw [show (0 : Int).toNat = 0 from rfl, h0, h1]
    exact ⟨⟨by decide, by decide⟩, by decide, by decide⟩
theorem linesNil_spec {w : World} (hM : Mo w) (r c : Int) : S.bodkinlaw08_LinesNil (Yes' w) (.agg (encP2 r c).toArray) w := by
  unfold S.bodkinlaw08_LinesNil
  refine sBox_new (cs := encP2 r c) rfl fun b1 w1 hb1 hs1 e1 hk1 => ?_
  have hp := RpOk.nil'
  have hz : beh ([] : List (List Int)).flatten (0 : Int).toNat = 0 := beh_zero _
  have hz1 : endL ([] : List (List Int)).flatten (0 : Int).toNat = 0 := rfl
  refine (lspan_spec (row := 0) (Rp.nil' w1) hp).mono ?_
  rintro u w2 ⟨e2, hu⟩
  rcases hu with ⟨_, rfl⟩ | ⟨h, _⟩
  case inr => exact absurd ⟨by decide, by decide⟩ h
  rw [hz, hz1, sExtract_0, sExtract_1]
  refine sVar (vs := encP2 0 0) S.tze_api_Span S.tsz_api_Span (by decide) rfl rfl (encP2_one _ _) fun b4 w3 hb4 hs3 e3 hk4 => ?_
  have e13 := e2.trans e3
  have k3 := hk1.ext e13
  rw [sLoad_agg (cs := encP2 r c) S.tagg_api_Point k3.cells rfl]
  refine (lplaceat_spec (r := r) (c := c) (Rp.nil' w3) hp).mono ?_
  rintro u w4 ⟨e4, hu⟩
  obtain ⟨y, rfl, hy⟩ : ∃ y : Int, u = .tuple #[.int .i64 0, .int .i64 y] ∧ (y = 0 ↔ r = 0 ∧ c = 0) := by
    rcases hu with ⟨h, rfl⟩ | ⟨h, rfl⟩
    · have h' : IsP [] r c := h
      obtain ⟨rfl, rfl⟩ := (isP_nil r c).1 h'
      rw [hz]
      exact ⟨0, rfl, by simp⟩
    · refine ⟨1, rfl, ?_⟩
      have h' : ¬ IsP [] r c := h
      rw [isP_nil] at h'
      simp only [show ¬ (1 : Int) = 0 by decide, false_iff]
      exact h'
  rw [sExtract_0, sExtract_1]
  refine (lrows_spec (Rp.nil' w4) hp).mono ?_
  rintro u w5 ⟨e5, rfl⟩
  have e15 := (e13.trans e4).trans e5
  rw [show ((nls ([] : List (List Int)).flatten : Int) + 1) = 1 from rfl, sBin_eql, sIf_dec]
  refine ⟨fun _ => ?_, fun h => absurd rfl h⟩
  rw [sBin_eql, sIf_dec]
  refine ⟨fun _ => ?_, fun h => absurd rfl h⟩
  rw [sLoad_agg (cs := encP2 0 0) S.tagg_api_Span ((hk4.ext e4).ext e5).cells rfl, sBuild_of (cs := encP2 0 0) (lp := []) S.tze_api_Span S.tpl_api_Span rfl rfl, sBin_sp, sIf_dec]
  refine ⟨fun _ => ?_, fun h => absurd ⟨rfl, rfl⟩ h⟩
  rw [sBin_eql, sIf_dec]
  refine ⟨fun _ => ?_, fun h => absurd rfl h⟩
  have k5 := hk1.ext e15
  rw [sBin_eql, sLoad_agg (cs := encP2 r c) S.tagg_api_Point k5.cells rfl, sBuild_of (cs := encP2 0 0) (lp := []) S.tze_api_Point S.tpl_api_Point rfl rfl, sBin_pt, sBin_boolEq (by kernel_rfl)]
  have hb : (decide (y = 0) == decide (r = 0 ∧ c = 0)) = true := by
    by_cases h : y = 0
    · have := hy.1 h; simp [h, this]
    · have h2 : ¬ (r = 0 ∧ c = 0) := fun h2 => h (hy.2 h2)
      simp [h, h2]
  rw [hb, sIf_true, sLoad_agg (cs := encP2 r c) S.tagg_api_Point k5.cells rfl]
  refine (lclip_spec (r := r) (c := c) (Rp.nil' w5) hp).mono ?_
  rintro u w6 ⟨e6, rfl⟩
  have hcl : IsP [] (clR ([] : List (List Int)).flatten r c) (clC ([] : List (List Int)).flatten r c) := cl_is [] r c
  obtain ⟨q1, q2⟩ := (isP_nil _ _).1 hcl
  rw [q1, q2, sBuild_of (cs := encP2 0 0) (lp := []) S.tze_api_Point S.tpl_api_Point rfl rfl, sBin_pt, sIf_dec]
  exact ⟨fun _ => endTwo hM ((e1.trans e15).trans e6), fun h => absurd ⟨rfl, rfl⟩ h⟩
end Go.Proofs.YtglbidiciapcmaaDoor

/- What 'StopsPlaces' answers: true. Condition: the package's two tables hold what its text says. -/
import Derived.Test.YtebedhnnokmlgaaDoorT5
namespace Go.Proofs.YtebedhnnokmlgaaDoor
open Go Go.Lift Go.RowKit

theorem Glob.drew {w : World} (h : Glob w) : Glob w.drew := h.ext (Ext.refl w).drew
theorem lst_le {f : Int → Int} {tab a : Int} {ls : List Int} : ∀ i, lst f tab ls a (i + 1) ≤ i
  | 0 => by unfold lst; split <;> simp [lst]
  | i + 1 => by
    unfold lst
    split
    · exact Nat.le_refl _
    · exact Nat.le_succ_of_le (lst_le i)

theorem places_tail {w w0 : World} (hG : Glob w0) (e0 : Ext w0 w) {ls : List Int} {q : Int × Int} {bq : Nat} {v : Value} {c m e : Int} {base : Nat} (hr : Right q.1) (ha : I64 q.2) (hn : ls.length ≤ 500) (hq : Blk w bq (encQ q.1 q.2)) (hv : Row w base S.T.int 1 v (encI .i64) (poss fP q.1 ls (ls.length + 1)))
    (h : 0 ≤ q.2 ∧ q.2 ≤ pos fP q.1 ls ls.length ∧ c = lst fP q.1 ls q.2 (ls.length + 1) ∧ m = q.2 - pos fP q.1 ls (lst fP q.1 ls q.2 (ls.length + 1)) ∧ e = 0) :
    LoopS [(.int .i64 0), (.int .i64 0)] 2 12 w fun us _ w Nx4 => S.bodkinlaw17_StopsPlaces_L4 (Yes w0) Nx4 (.pointer (some ⟨bq, 0, none⟩)) (.int .i64 (ls.length + 1 : Nat)) (.int .i64 c) (.int .i64 m) (.int .i64 e) v (hd us) (hd (tl us)) w := by
  obtain ⟨h0, h1, hc, hm, he⟩ := h
  have hk : Okt fP q.1 := ⟨ofT_le _ _, hr⟩
  have hvs := hv.sl (encI_ok _)
  refine LoopS.intro (fun us w1 => w1 = w ∧ ∃ i : Nat, us = [.int .i64 (lst fP q.1 ls q.2 i), .int .i64 i] ∧ i ≤ ls.length + 1)
    (fun us _ => match us with | [_, .int _ a] => ((ls.length + 1 : Nat) - a).toNat | _ => 0) ⟨rfl, 0, rfl, Nat.zero_le _⟩ ?_
  rintro us vs w1 ⟨hw, i, rfl, hi⟩
  subst hw
  unfold S.bodkinlaw17_StopsPlaces_L4
  rw [hd, tl, hd, sBin_lss, sIf_dec]
  refine ⟨fun hlt => ?_, fun hge => ?_⟩
  · have a1 := poss_at (f := fP) (tab := q.1) (ls := ls) (i := i) (n := ls.length + 1) (by omega)
    obtain ⟨b1, o1, hel1, hc1⟩ := hvs.el a1
    rw [sIdxA_sl S.tel_L_int S.tsz_int (by omega) hvs a1 rfl, hel1, sLoad_cell S.tcell_int (hc1.fst rfl), sFldA_ptr S.tfl_stops_Ask_At, sLoad_cell S.tcell_int (hq.cells.at 1 rfl), sBin_leq, sIf_dec, sBin_add _ _ ⟨by omega, by omega⟩, sBin_add _ _ ⟨by omega, by omega⟩]
    refine ⟨fun hle => ⟨⟨rfl, i + 1, by simp [lst, hle], by omega⟩, by simp only []; omega⟩, fun hgt => ⟨⟨rfl, i + 1, by simp [lst, hgt], by omega⟩, by simp only []; omega⟩⟩
  · have hin : i = ls.length + 1 := by omega
    subst hin
    subst hc hm he
    have hle := lst_le (f := fP) (tab := q.1) (a := q.2) (ls := ls) ls.length
    have a1 := poss_at (f := fP) (tab := q.1) (ls := ls) (i := lst fP q.1 ls q.2 (ls.length + 1)) (n := ls.length + 1) (by omega)
    obtain ⟨b1, o1, hel1, hc1⟩ := hvs.el a1
    have hb := pos_bd (ls := ls) hk (lst fP q.1 ls q.2 (ls.length + 1))
    have hbe := pos_bd (ls := ls) hk ls.length
    refine DrawS.ext ?_
    have E : Ext w1 w1.drew := (Ext.refl w1).drew
    rw [stillS_eq (fun w1 h1 K => sBin_eql _ _) E, sIf_pos rfl, stillS_eq (fun w1 h1 K => sBin_eql _ _) E, sIf_pos rfl, stillS_eq (fun w1 h1 K => sFldA_ptr S.tfl_stops_Ask_At) E, stillS_cell S.tcell_int (hq.cells.at 1 rfl) E,
      stillS_eq (fun w1 h1 K => sIdxA_sl S.tel_L_int S.tsz_int (by omega) (hvs.ext h1) a1 rfl) E, hel1, stillS_cell S.tcell_int (hc1.fst rfl) E, stillS_eq (fun w1 h1 K => sBin_sub _ _ ⟨by omega, by omega⟩) E, stillS_eq (fun w1 h1 K => sBin_eql _ _) E, sIf_pos rfl]
    refine (tab_spec (hG.ext (e0.trans E))).mono ?_
    rintro u w2 ⟨e2, rfl⟩
    exact ⟨E.trans e2, (e0.trans E).trans e2, rfl⟩

theorem stopsPlaces_spec {w : World} (hG : Glob w) {l : Value} {ls : List Int} (hl : Sl w l 1 (encI .i32) ls) {q : Int × Int} (ha : I64 q.2) : S.bodkinlaw17_StopsPlaces (Yes w) l (.agg (encQ q.1 q.2).toArray) w := by
  unfold S.bodkinlaw17_StopsPlaces
  refine sBox_new (cs := encQ q.1 q.2) rfl fun bq w1 hbq hs1 he1 hk1 => ?_
  rw [sLen_sl S.tel_L_int32 (hl.ext he1), sBin_gtr, sIf_dec]
  refine ⟨fun _ => then_tab hG he1, fun hn => ?_⟩
  refine DrawS.ext ?_
  have E1 : Ext w1 w1.drew := (Ext.refl w1).drew
  rw [stillS_agg S.tagg_stops_Ask hk1.cells rfl E1]
  refine (plain_spec (hG.ext (he1.trans E1))).mono ?_
  rintro p w2 ⟨e2, hp⟩
  have E2 := E1.trans e2
  refine ⟨E2, (cell_spec (ofP hp) (ofT_le _ _) (hl.ext (he1.trans E2)) (by omega)).mono ?_⟩
  rintro u w3 ⟨e3, c, e, rfl, h3⟩
  have E3 := E2.trans e3
  refine ⟨E3, ?_⟩
  have F3 := he1.trans E3
  rw [sExtract_0, sExtract_1]
  refine DrawS.ext ?_
  have E4 : Ext w3 w3.drew := (Ext.refl w3).drew
  rw [stillS_agg S.tagg_stops_Ask (hk1.ext E3).cells rfl E4]
  refine (plain_spec (hG.ext (F3.trans E4))).mono ?_
  rintro p2 w5 ⟨e5, hp2⟩
  have E5 := E4.trans e5
  refine ⟨E5, (place_spec (ofP hp2) (ofT_le _ _) (hl.ext (F3.trans E5)) (by omega) ha).mono ?_⟩
  rintro u w6 ⟨e6, pl, m, e', rfl, h6⟩
  have E6 := E5.trans e6
  refine ⟨E6, ?_⟩
  have F6 := F3.trans E6
  have k6 := (hk1.ext E3).ext E6
  rw [sExtract_0, sExtract_1, sExtract_2, sFldA_ptr S.tfl_stops_Ask_Tab, sLoad_cell S.tcell_int (k6.cells.at 0 rfl)]
  refine (refright_spec q.1).mono ?_
  rintro u w' ⟨rfl, t, rfl, ht⟩
  rw [sUn_not, sIf_bool]
  refine ⟨fun h => ?_, fun h => ?_⟩
  · have hr : ¬ Right q.1 := fun hr => by rw [ht.2 hr] at h; cases h
    have h31 : c = 0 ∧ e = 1 := by
      rcases h3 with h | h
      · exact h.2
      · exact absurd h.1 hr
    have h61 : pl = 0 ∧ m = 0 ∧ e' = 1 := by
      rcases h6 with h | h
      · exact h.2
      · exact absurd h.1 hr
    rw [sBin_eql, sIf_pos h31.2, sBin_eql, sIf_pos h61.2.2, sBin_eql, sIf_pos h31.1, sBin_eql, sIf_pos h61.1, sBin_eql, sIf_pos h61.2.1]
    exact then_tab hG F6
  have hr : Right q.1 := ht.1 (by simpa using h)
  have hk : Okt fP q.1 := ⟨ofT_le _ _, hr⟩
  have hbe := pos_bd (ls := ls) hk ls.length
  refine DrawS.ext ?_
  have E7 : Ext w' w'.drew := (Ext.refl w').drew
  rw [stillS_eq (fun w1 h1 K => sFldA_ptr S.tfl_stops_Ask_Tab) E7, stillS_cell S.tcell_int (k6.cells.at 0 rfl) E7]
  refine (refplain_spec _).mono ?_
  rintro rp w8 ⟨e8, hrp⟩
  have E8 := E7.trans e8
  refine ⟨E8, (refcells_spec hrp (by decide) (by decide) hr (hl.ext (F6.trans E8)) (by omega)).mono ?_⟩
  rintro v w9 ⟨e9, hv⟩
  have E9 := E8.trans e9
  refine ⟨E9, ?_⟩
  have F9 := F6.trans E9
  have k9 := k6.ext E9
  have hvs := hv.sl (encI_ok _)
  refine JoinS.intro (fun us w' => us = [] ∧ w' = w9) ?_ ?_
  · refine JoinS.intro (fun us w' => w' = w9 ∧ ∃ t : Bool, us = [.bool t] ∧ (t = true ↔ (q.2 < 0 ∨ ls.length < q.2))) ?_ ?_
    · rw [sFldA_ptr S.tfl_stops_Ask_At, sLoad_cell S.tcell_int (k9.cells.at 1 rfl), sBin_lss, sIf_dec]
      refine ⟨fun h => ⟨rfl, true, rfl, by simp [h]⟩, fun h => ?_⟩
      rw [sFldA_ptr S.tfl_stops_Ask_At, sLoad_cell S.tcell_int (k9.cells.at 1 rfl), sLen_sl S.tel_L_int32 (hl.ext F9), sBin_gtr]
      refine ⟨rfl, _, rfl, ?_⟩
      rw [decide_eq_true_eq]; omega
    rintro us vs w9 ⟨rfl, t2, rfl, ht2⟩
    unfold S.bodkinlaw17_StopsPlaces_J2
    rw [hd, sIf_bool]
    refine ⟨fun h => ?_, fun h => ?_⟩
    · have hbad := ht2.1 h
      have h31 : c = 0 ∧ e = 1 := by
        rcases h3 with h | h
        · exact h.2
        · omega
      rw [sBin_neq, sIf_not]
      refine ⟨fun h => absurd h31.2 h, fun _ => ?_⟩
      rw [sBin_neq, sIf_not]
      exact ⟨fun h => absurd h31.1 h, fun _ => ⟨rfl, rfl⟩⟩
    · have hok : ¬ (q.2 < 0 ∨ (ls.length : Int) < q.2) := fun h' => by rw [ht2.2 h'] at h; cases h
      have h31 : c = pos fP q.1 ls q.2.toNat ∧ e = 0 := by
        rcases h3 with h | h
        · exact absurd ⟨hr, by omega, by omega⟩ h.1
        · exact h.2.2.2
      have a1 := poss_at (f := fP) (tab := q.1) (ls := ls) (i := q.2.toNat) (n := ls.length + 1) (by omega)
      obtain ⟨b1, o1, hel1, hc1⟩ := hvs.el a1
      rw [sBin_neq, sIf_not]
      refine ⟨fun h => absurd h31.2 h, fun _ => ?_⟩
      rw [sFldA_ptr S.tfl_stops_Ask_At, sLoad_cell S.tcell_int (k9.cells.at 1 rfl), sIdxA_sl S.tel_L_int S.tsz_int (by omega) hvs a1 (by omega), hel1, sLoad_cell S.tcell_int (hc1.fst rfl), sBin_neq, sIf_not]
      exact ⟨fun h => absurd h31.1 h, fun _ => ⟨rfl, rfl⟩⟩
  rintro us vs w9 ⟨rfl, rfl⟩
  unfold S.bodkinlaw17_StopsPlaces_J1
  have a1 := poss_at (f := fP) (tab := q.1) (ls := ls) (i := ls.length) (n := ls.length + 1) (by omega)
  obtain ⟨b1, o1, hel1, hc1⟩ := hvs.el a1
  refine JoinS.intro (fun us w' => Ext w9 w' ∧ ∃ t : Bool, us = [.bool t] ∧ (t = true ↔ (q.2 < 0 ∨ pos fP q.1 ls ls.length < q.2))) ?_ ?_
  · refine DrawS.ext ?_
    have E : Ext w9 w9.drew := (Ext.refl w9).drew
    rw [stillS_eq (fun w1 h1 K => sFldA_ptr S.tfl_stops_Ask_At) E, stillS_cell S.tcell_int (k9.cells.at 1 rfl) E, stillS_eq (fun w1 h1 K => sBin_lss _ _) E, sIf_dec]
    refine ⟨fun h => ⟨E, true, rfl, by simp [h]⟩, fun h => ?_⟩
    rw [stillS_eq (fun w1 h1 K => sFldA_ptr S.tfl_stops_Ask_At) E, stillS_cell S.tcell_int (k9.cells.at 1 rfl) E, stillS_eq (fun w1 h1 K => sLen_sl S.tel_L_int32 ((hl.ext F9).ext h1)) E, stillS_eq (fun w1 h1 K => sIdxA_sl S.tel_L_int S.tsz_int (by omega) (hvs.ext h1) a1 rfl) E, hel1, stillS_cell S.tcell_int (hc1.fst rfl) E, stillS_eq (fun w1 h1 K => sBin_gtr _ _) E]
    refine ⟨E, _, rfl, ?_⟩
    rw [decide_eq_true_eq]; omega
  rintro us vs w10 ⟨e10, t3, rfl, ht3⟩
  unfold S.bodkinlaw17_StopsPlaces_J3
  rw [hd, sIf_bool]
  refine ⟨fun h => ?_, fun h => ?_⟩
  · have hbad := ht3.1 h
    have h61 : pl = 0 ∧ m = 0 ∧ e' = 1 := by
      rcases h6 with h | h
      · exact h.2
      · have := h.2.1; have := h.2.2.1; omega
    rw [sBin_eql, sIf_pos h61.2.2, sBin_eql, sIf_pos h61.1, sBin_eql, sIf_pos h61.2.1]
    exact then_tab hG (F9.trans e10)
  · have hok : ¬ (q.2 < 0 ∨ pos fP q.1 ls ls.length < q.2) := fun h' => by rw [ht3.2 h'] at h; cases h
    have h61 : 0 ≤ q.2 ∧ q.2 ≤ pos fP q.1 ls ls.length ∧ pl = lst fP q.1 ls q.2 (ls.length + 1) ∧ m = q.2 - pos fP q.1 ls (lst fP q.1 ls q.2 (ls.length + 1)) ∧ e' = 0 := by
      rcases h6 with h | h
      · exact absurd ⟨hr, by omega, by omega⟩ h.1
      · exact h.2
    rw [sLen_sl S.tel_L_int (hvs.ext e10), poss_len]
    exact places_tail hG (F9.trans e10) hr ha (by omega) (k9.ext e10) (hv.ext e10) h61
end Go.Proofs.YtebedhnnokmlgaaDoor

/- The laws of finding. Conditions: the table of sizes in memory. -/
import Derived.Test.YthpngnngoamlpaaDoorM3
namespace Go.Proofs.YthpngnngoamlpaaDoor
open Go Go.Lift Go.RowKit Go.Txt

/-! ## What holds of all that is found -/
def lastT (o : List Sp) : Int := (o.getLast?.map (·.2)).getD 0
theorem lastT_add (o : List Sp) (x : Sp) : lastT (o ++ [x]) = x.2 := by simp [lastT]
theorem hits_chain (p : Nat → Prop) (n : Nat) : ∀ k, (∀ (i : Nat) (x : Sp), (refA p n k).2[i]? = some x → ∃ a : Nat, x = ((a : Int), (a : Int) + n) ∧ p a ∧ a < k ∧ lastT ((refA p n k).2.take i) ≤ a) ∧ ((refA p n k).1 : Int) = lastT (refA p n k).2
  | 0 => ⟨fun i x h => by simp [refA] at h, rfl⟩
  | k + 1 => by
    obtain ⟨h1, h2⟩ := hits_chain p n k
    generalize hR : refA p n k = R at h1 h2
    obtain ⟨e, o⟩ := R
    simp only at h1 h2
    by_cases hc : e ≤ k ∧ o.length < 500 ∧ p k
    · rw [refA_yes hR hc.1 hc.2.1 hc.2.2]
      refine ⟨fun i x h => ?_, by rw [lastT_add]; simp⟩
      simp only at h ⊢
      rcases Nat.lt_trichotomy i o.length with hi | hi | hi
      · rw [List.getElem?_append_left hi] at h
        obtain ⟨a, q1, q2, q3, q4⟩ := h1 i x h
        exact ⟨a, q1, q2, by omega, by rw [List.take_append_of_le_length (by omega)]; exact q4⟩
      · subst hi
        rw [List.getElem?_append_right (Nat.le_refl _)] at h
        simp at h
        exact ⟨k, h.symm, hc.2.2, by omega, by rw [List.take_append_of_le_length (Nat.le_refl _), List.take_length, ← h2]; exact_mod_cast hc.1⟩
      · rw [List.getElem?_eq_none (by simp; omega)] at h
        cases h
    · rw [refA_no hR hc]
      exact ⟨fun i x h => by obtain ⟨a, q1, q2, q3, q4⟩ := h1 i x h; exact ⟨a, q1, q2, by omega, q4⟩, h2⟩
theorem hits_cover {p : Nat → Prop} {n : Nat} (hn : 0 < n) : ∀ k, ((refA p n k).1 = 0 ∨ ∃ x ∈ (refA p n k).2, x.1 < k ∧ x.2 = (refA p n k).1) ∧ ((refA p n k).2.length < 500 → ∀ j, j < k → p j → ∃ x ∈ (refA p n k).2, x.1 ≤ (j : Int) ∧ (j : Int) < x.2)
  | 0 => ⟨.inl rfl, fun _ j hj => by omega⟩
  | k + 1 => by
    obtain ⟨h1, h2⟩ := hits_cover (p := p) hn k
    generalize hR : refA p n k = R at h1 h2
    obtain ⟨e, o⟩ := R
    simp only at h1 h2
    by_cases hc : e ≤ k ∧ o.length < 500 ∧ p k
    · rw [refA_yes hR hc.1 hc.2.1 hc.2.2]
      refine ⟨.inr ⟨_, List.mem_append_right _ (List.mem_singleton.2 rfl), by simp only []; omega, by simp⟩, fun h j hj hp => ?_⟩
      simp only at h ⊢
      rcases Nat.lt_or_ge j k with h3 | h3
      · obtain ⟨x, hx, q⟩ := h2 hc.2.1 j h3 hp
        exact ⟨x, List.mem_append_left _ hx, q⟩
      · obtain rfl : j = k := by omega
        exact ⟨_, List.mem_append_right _ (List.mem_singleton.2 rfl), by simp only []; omega, by simp only []; omega⟩
    · rw [refA_no hR hc]
      refine ⟨?_, fun h j hj hp => ?_⟩
      · rcases h1 with h1 | ⟨x, hx, q1, q2⟩
        · exact .inl h1
        · exact .inr ⟨x, hx, by omega, q2⟩
      · simp only at h ⊢
        rcases Nat.lt_or_ge j k with h3 | h3
        · exact h2 h j h3 hp
        · obtain rfl : j = k := by omega
          have he : ¬ e ≤ j := fun q => hc ⟨q, h, hp⟩
          rcases h1 with h1 | ⟨x, hx, q1, q2⟩
          · omega
          · exact ⟨x, hx, by omega, by omega⟩
/-! ## One that is known -/
abbrev Yf (w : World) : K1 := fun u w' => Ext w w' ∧ u = .bool true
theorem rnew_in {w : World} {s : List UInt8} (hM : Mo w) (hs : s.length ≤ 20000) : sCall Tryd.prog S.rope_New.n [tv s] w fun u w' => Ext w w' ∧ ∃ v ps, u = .tuple #[v, .int .i64 0] ∧ Rp w' v ps ∧ RpOk ps ∧ ps.flatten = runes s := by
  have hr := runes_len s
  refine (rnew_spec hM (by omega)).mono ?_
  rintro u w' ⟨e, hu⟩
  rcases hu with ⟨h, _⟩ | ⟨h, b, rfl, hb⟩
  · omega
  · exact ⟨e, _, _, rfl, hb, ⟨pcs_ok (runes_ok s), by rw [pcs_join]; exact h⟩, pcs_join _⟩
theorem ab_runes : runes [98, 97, 65, 97, 97] = [98, 97, 65, 97, 97] := by
  have : txt [98, 97, 65, 97, 97] = [98, 97, 65, 97, 97] := by decide +kernel
  rw [← this]
  exact runes_of (by decide)
theorem aA_runes : runes [97, 65] = [97, 65] := by
  have : txt [97, 65] = [97, 65] := by decide +kernel
  rw [← this]
  exact runes_of (by decide)
theorem ab_hits : hits [98, 97, 65, 97, 97] [97, 65] true false = [(1, 3), (3, 5)] := by
  unfold hits
  rw [aA_runes]
  have two : ∀ a : Nat, a + 2 ≤ 5 → (∀ r, ([98, 97, 65, 97, 97] : List Int)[a]? = some r → sameR true r 97 = true) → (∀ r, ([98, 97, 65, 97, 97] : List Int)[a + 1]? = some r → sameR true r 65 = true) → fnd [98, 97, 65, 97, 97] [97, 65] true false a := by
    intro a ha h0 h1
    refine ⟨ha, (eqAll_iff (pat := [97, 65]) ha).2 fun i r s hr hs => ?_, fun h => by cases h⟩
    match i with
    | 0 => simp only [List.getElem?_cons_zero, Option.some.injEq] at hs; subst hs; exact h0 r hr
    | 1 => simp only [List.getElem?_cons_succ, List.getElem?_cons_zero, Option.some.injEq] at hs; subst hs; exact h1 r hr
    | i + 2 => simp at hs
  have h0 : refA (fnd [98, 97, 65, 97, 97] [97, 65] true false) 2 0 = (0, []) := rfl
  have n0 : ¬ fnd [98, 97, 65, 97, 97] [97, 65] true false 0 := fun k => by
    have := (eqAll_iff (pat := [97, 65]) k.1).1 k.2.1 0 98 97 rfl rfl
    exact absurd this (by decide)
  have h1 := refA_no h0 fun k => n0 k.2.2
  have h2 := refA_yes h1 (by omega) (by decide) (two 1 (by decide) (fun r hr => by cases hr; decide) (fun r hr => by cases hr; decide))
  have h3 := refA_skip h2 1 (by omega)
  have h4 := refA_yes h3 (by omega) (by decide) (two 3 (by decide) (fun r hr => by cases hr; decide) (fun r hr => by cases hr; decide))
  have h5 := refA_skip h4 1 (by omega)
  show (refA (fnd [98, 97, 65, 97, 97] [97, 65] true false) 2 5).2 = _
  rw [show (5 : Nat) = 0 + 1 + 1 + 1 + 1 + 1 from rfl, h5]
  rfl
theorem alike_spec {w : World} (hM : Mo w) : sCall Tryd.prog S.bodkinlaw39_alike.n [] w (Yf w) := by
  refine S.bodkinlaw39_alike.call ?_
  unfold S.bodkinlaw39_alike
  refine (rnew_in (s := [98, 97, 65, 97, 97]) hM (by decide)).mono ?_
  rintro u w1 ⟨e1, v, ps, rfl, hr, hp, hfl⟩
  rw [ab_runes] at hfl
  rw [sExtract_0, sExtract_1, sBuild_of (cs := encY [97, 65] true false) (lp := [(0, [tv [97, 65]]), (1, [.bool true])]) S.tze_find_Query S.tpl_find_Query rfl rfl]
  refine (fall_spec (t := [97, 65]) (fold := true) (word := false) hr hp (by decide)).mono ?_
  rintro u w2 ⟨e2, hu⟩
  rw [hfl, ab_hits, aA_runes] at hu
  rcases hu with ⟨h, _⟩ | ⟨h, _⟩ | ⟨_, _, x, rfl, hx⟩
  · cases h
  · exact absurd h (by decide)
  rw [sExtract_0, sExtract_1]
  have hxs := hx.sl encV_ok
  refine (next_spec hxs (by decide) 2).mono ?_
  rintro u w3 ⟨e3, rfl⟩
  have hnx : nextS 2 [(1, 3), (3, 5)] = (3, 5) := by decide
  rw [sExtract_0, sExtract_1, hnx]
  refine sVar (vs := encV (3, 5)) S.tze_api_Span S.tsz_api_Span (by decide) rfl rfl (encV_one _) fun b5 w4 hb5 hs4 e4 hk5 => ?_
  have E4 := ((e1.trans e2).trans e3).trans e4
  rw [sBin_eql, sIf_dec]
  refine ⟨fun _ => ?_, fun h => absurd rfl h⟩
  rw [sBin_eql, sIf_dec]
  refine ⟨fun _ => ?_, fun h => absurd rfl h⟩
  rw [sBuild_of (cs := encV (1, 3)) (lp := [(0, [.int .i64 1]), (1, [.int .i64 3])]) S.tze_api_Span S.tpl_api_Span rfl rfl, sBuild_of (cs := encV (3, 5)) (lp := [(0, [.int .i64 3]), (1, [.int .i64 5])]) S.tze_api_Span S.tpl_api_Span rfl rfl]
  refine sBuildSlice_own (n := 2) (enc := encV) (xs := [(1, 3), (3, 5)]) (lp := [(0, encV (1, 3)), (1, encV (3, 5))]) S.tel_L_api_Span S.tsz_api_Span rfl S.tze_api_Span (by decide) (by decide) encV_ok rfl rfl fun tt w5 ht' ho5 e5 hs5 => ?_
  refine (spansEq_spec (hxs.ext ((e3.trans e4).trans e5)) (ho5.sl encV_ok)).mono ?_
  rintro u w6 ⟨e6, rfl⟩
  rw [sIf_pos rfl, decide_eq_true (by decide), sIf_true, sFldA_ptr S.tfl_api_Span_From, sLoad_cell (v := .int .i64 3) S.tcell_int ((hk5.cells.ext (e5.trans e6)).at 0 rfl), sBin_eql]
  exact ⟨(E4.trans e5).trans e6, rfl⟩
theorem endF {w w' : World} (hM : Mo w) (e : Ext w w') : sCall Tryd.prog S.bodkinlaw39_alike.n [] w' (Yf w) := (alike_spec (hM.ext e)).mono fun _ _ h => ⟨e.trans h.1, h.2⟩
theorem runes_zero {t : List UInt8} (h : t ≠ []) : 0 < (runes t).length := by rw [runes_cons h]; simp
theorem findAll_spec {w : World} (hM : Mo w) (s t : List UInt8) (fold word : Bool) : S.bodkinlaw39_FindAll (Yf w) (tv s) (.agg (encY t fold word).toArray) w := by
  unfold S.bodkinlaw39_FindAll
  refine sBox_new (cs := encY t fold word) rfl fun b3 w1 hb3 hs1 e1 hk3 => ?_
  have c3 := hk3.cells
  rw [sLen_str tstr, sBin_gtr, sIf_dec]
  refine ⟨fun _ => endF hM e1, fun hs => ?_⟩
  rw [sFldA_ptr S.tfl_find_Query_Text, sLoad_cell (v := tv t) S.tcell_string (c3.at 0 rfl), sLen_str tstr, sBin_gtr, sIf_dec]
  refine ⟨fun _ => endF hM e1, fun ht => ?_⟩
  have hrs := runes_len s
  have hrt := runes_len t
  refine (rnew_in (hM.ext e1) (by omega)).mono ?_
  rintro u w2 ⟨e2, v, ps, rfl, hr, hp, hfl⟩
  have E2 := e1.trans e2
  rw [sExtract_0, sExtract_1, sLoad_agg (cs := encY t fold word) S.tagg_find_Query (c3.ext e2) rfl]
  refine (fall_spec (t := t) (fold := fold) (word := word) hr hp (by omega)).mono ?_
  rintro u w3 ⟨e3, hu⟩
  rw [hfl] at hu
  have E3 := E2.trans e3
  obtain ⟨x, z, ys, rfl, hx, hz⟩ : ∃ (x : Value) (z : Int) (ys : List Sp), u = .tuple #[x, .int .i64 z] ∧ Sl w3 x 2 encV ys ∧ (((runes t).length = 0 ∧ z = 4 ∧ ys = []) ∨ (200 < (runes t).length ∧ z = 2 ∧ ys = []) ∨ (0 < (runes t).length ∧ (runes t).length ≤ 200 ∧ z = 0 ∧ ys = hits (runes s) t fold word)) := by
    rcases hu with ⟨h, rfl⟩ | ⟨h, rfl⟩ | ⟨h, h2, x, rfl, hx⟩
    · exact ⟨_, _, _, rfl, Sl.nil _ _ _, .inl ⟨by rw [h]; rfl, rfl, rfl⟩⟩
    · exact ⟨_, _, _, rfl, Sl.nil _ _ _, .inr (.inl ⟨h, rfl, rfl⟩)⟩
    · exact ⟨_, _, _, rfl, hx.sl encV_ok, .inr (.inr ⟨h, h2, rfl, rfl⟩)⟩
  clear hu
  rw [sExtract_0, sExtract_1, sLoad_agg (cs := encY t fold word) S.tagg_find_Query (c3.ext (e2.trans e3)) rfl]
  refine (lawref_spec t fold word (by omega)).mono ?_
  rintro u w4 ⟨e4, wv, rfl, hsh, hw⟩
  refine sVar (vs := [wv, .bool fold, .bool word]) S.tze_bodkinref39_Query S.tsz_bodkinref39_Query (by decide) rfl rfl (by intro u hu; simp at hu; rcases hu with rfl | rfl | rfl; exact hsh.2; rfl; rfl) fun b9 w5 hb9 hs5 e5 hk9 => ?_
  have e35 := e4.trans e5
  have E5 := E3.trans e35
  have c9 := hk9.cells
  have hw5 := hw.ext e5
  have hx5 := hx.ext e35
  rw [sFldA_ptr S.tfl_bodkinref39_Query_Want, sLoad_cell S.tcell_L_int32 (c9.at 0 rfl), sLen_sl S.tel_L_int32 hw5, sBin_eql, sIf_dec]
  refine ⟨fun h0 => ?_, fun h0 => ?_⟩
  · rcases hz with ⟨_, rfl, rfl⟩ | ⟨h, _⟩ | ⟨h, _⟩
    · rw [sBin_eql, sIf_pos rfl, sLen_sl S.tel_L_api_Span hx5, sBin_eql, sIf_pos (show (([] : List Sp).length : Int) = 0 from rfl)]
      exact endF hM E5
    · omega
    · omega
  rw [sFldA_ptr S.tfl_bodkinref39_Query_Want, sLoad_cell S.tcell_L_int32 (c9.at 0 rfl), sLen_sl S.tel_L_int32 hw5, sBin_gtr, sIf_dec]
  refine ⟨fun h2 => ?_, fun h2 => ?_⟩
  · rcases hz with ⟨h, _⟩ | ⟨_, rfl, rfl⟩ | ⟨_, h, _⟩
    · omega
    · rw [sBin_eql, sIf_pos rfl, sLen_sl S.tel_L_api_Span hx5, sBin_eql, sIf_pos (show (([] : List Sp).length : Int) = 0 from rfl)]
      exact endF hM E5
    · omega
  rcases hz with ⟨h, _⟩ | ⟨h, _⟩ | ⟨_, _, rfl, rfl⟩
  · omega
  · omega
  refine DrawS.ext ?_
  have E : Ext w5 w5.drew := (Ext.refl w5).drew
  rw [stillS_eq (fun w' h1 K => sBin_eql _ _) E, sIf_pos rfl, stillS_eq (fun w' h1 K => sBin_eql _ _) E, sIf_pos rfl, stillS_agg (cs := [wv, .bool fold, .bool word]) S.tagg_bodkinref39_Query c9 rfl E]
  refine (ddecode_spec s (by omega)).mono ?_
  rintro lv w6 ⟨e6, hlv⟩
  have C6 := E.trans e6
  refine ⟨C6, ?_⟩
  refine (dall_spec (fold := fold) (word := word) (hw5.ext C6) (hlv.sl encRn_ok) (by omega) (by omega)).mono ?_
  rintro dv w7 ⟨e7, hdv⟩
  have C7 := C6.trans e7
  refine ⟨C7, ?_⟩
  refine (spansEq_spec (hx5.ext C7) (hdv.sl encV_ok)).mono ?_
  rintro u w8 ⟨e8, rfl⟩
  have C8 := C7.trans e8
  refine ⟨C8, ?_⟩
  rw [sIf_pos rfl]
  refine (alike_spec (hM.ext (E5.trans C8))).mono ?_
  rintro u w9 ⟨e9, rfl⟩
  exact ⟨C8.trans e9, (E5.trans C8).trans e9, rfl⟩
theorem findIs_spec {w : World} (hM : Mo w) (s t : List UInt8) (fold word : Bool) : S.bodkinlaw39_FindIs (Yf w) (tv s) (.agg (encY t fold word).toArray) w := by
  unfold S.bodkinlaw39_FindIs
  refine sBox_new (cs := encY t fold word) rfl fun b3 w1 hb3 hs1 e1 hk3 => ?_
  have c3 := hk3.cells
  rw [sLen_str tstr, sBin_gtr, sIf_dec]
  refine ⟨fun _ => endF hM e1, fun hs => ?_⟩
  rw [sFldA_ptr S.tfl_find_Query_Text, sLoad_cell (v := tv t) S.tcell_string (c3.at 0 rfl), sLen_str tstr, sBin_gtr, sIf_dec]
  refine ⟨fun _ => endF hM e1, fun ht => ?_⟩
  have hrs := runes_len s
  have hrt := runes_len t
  refine (rnew_in (hM.ext e1) (by omega)).mono ?_
  rintro u w2 ⟨e2, v, ps, rfl, hr, hp, hfl⟩
  have E2 := e1.trans e2
  rw [sExtract_0, sExtract_1, sLoad_agg (cs := encY t fold word) S.tagg_find_Query (c3.ext e2) rfl]
  refine (fall_spec (t := t) (fold := fold) (word := word) hr hp (by omega)).mono ?_
  rintro u w3 ⟨e3, hu⟩
  rw [hfl] at hu
  have E3 := E2.trans e3
  obtain ⟨x, z, ys, rfl, hx, hz⟩ : ∃ (x : Value) (z : Int) (ys : List Sp), u = .tuple #[x, .int .i64 z] ∧ Sl w3 x 2 encV ys ∧ (((runes t).length = 0 ∧ z = 4 ∧ ys = []) ∨ (200 < (runes t).length ∧ z = 2 ∧ ys = []) ∨ (0 < (runes t).length ∧ (runes t).length ≤ 200 ∧ z = 0 ∧ ys = hits (runes s) t fold word)) := by
    rcases hu with ⟨h, rfl⟩ | ⟨h, rfl⟩ | ⟨h, h2, x, rfl, hx⟩
    · exact ⟨_, _, _, rfl, Sl.nil _ _ _, .inl ⟨by rw [h]; rfl, rfl, rfl⟩⟩
    · exact ⟨_, _, _, rfl, Sl.nil _ _ _, .inr (.inl ⟨h, rfl, rfl⟩)⟩
    · exact ⟨_, _, _, rfl, hx.sl encV_ok, .inr (.inr ⟨h, h2, rfl, rfl⟩)⟩
  clear hu
  rw [sExtract_0, sExtract_1, sLoad_agg (cs := encY t fold word) S.tagg_find_Query (c3.ext (e2.trans e3)) rfl]
  refine (lawref_spec t fold word (by omega)).mono ?_
  rintro u w4 ⟨e4, wv, rfl, hsh, hw⟩
  refine sVar (vs := [wv, .bool fold, .bool word]) S.tze_bodkinref39_Query S.tsz_bodkinref39_Query (by decide) rfl rfl (by intro u hu; simp at hu; rcases hu with rfl | rfl | rfl; exact hsh.2; rfl; rfl) fun b9 w5 hb9 hs5 e5 hk9 => ?_
  have e35 := e4.trans e5
  have E5 := E3.trans e35
  have c9 := hk9.cells
  have hw5 := hw.ext e5
  have hx5 := hx.ext e35
  refine JoinS.intro (fun us w' => w' = w5 ∧ us = [.bool (!decide (z = 0))]) ?_ ?_
  · rw [sBin_neq, sIf_not]
    refine ⟨fun h => absurd rfl h, fun _ => ?_⟩
    rw [sBin_neq]
    exact ⟨rfl, rfl⟩
  rintro us vs w' ⟨rfl, rfl⟩
  unfold S.bodkinlaw39_FindIs_J1
  rw [Go.Lift.hd, sIf_not]
  refine ⟨fun hz0 => ?_, fun hz0 => ?_⟩
  · rw [sBin_eql, sIf_pos rfl, sFldA_ptr S.tfl_bodkinref39_Query_Want, sLoad_cell S.tcell_L_int32 (c9.at 0 rfl), sLen_sl S.tel_L_int32 hw5, sBin_eql, sIf_dec]
    refine ⟨fun _ => endF hM E5, fun h0 => ?_⟩
    rw [sFldA_ptr S.tfl_bodkinref39_Query_Want, sLoad_cell S.tcell_L_int32 (c9.at 0 rfl), sLen_sl S.tel_L_int32 hw5, sBin_gtr, sIf_dec]
    refine ⟨fun _ => endF hM E5, fun h2 => ?_⟩
    rcases hz with ⟨h, _⟩ | ⟨h, _⟩ | ⟨_, _, h, _⟩
    · omega
    · omega
    · exact absurd h hz0
  rcases hz with ⟨_, h, _⟩ | ⟨_, h, _⟩ | ⟨hn0, hn2, _, rfl⟩
  · omega
  · omega
  have hch := (hits_chain (fnd (runes s) (runes t) fold word) (runes t).length (runes s).length).1
  have hln := refA_len (fnd (runes s) (runes t) fold word) (runes t).length (runes s).length
  change ∀ (i : Nat) (x : Sp), (hits (runes s) t fold word)[i]? = some x → ∃ a : Nat, x = ((a : Int), (a : Int) + (runes t).length) ∧ fnd (runes s) (runes t) fold word a ∧ a < (runes s).length ∧ lastT ((hits (runes s) t fold word).take i) ≤ a at hch
  change (hits (runes s) t fold word).length ≤ 500 at hln
  generalize hits (runes s) t fold word = ys at *
  refine (ddecode_spec s (by omega)).mono ?_
  rintro lv w6 ⟨e6, hlv⟩
  have hl6 := hlv.sl encRn_ok
  rw [sLen_sl S.tel_L_api_Span (hx5.ext e6)]
  refine LoopS.intro (fun us w' => Ext w6 w' ∧ ∃ i : Nat, us = [.int .i64 (lastT (ys.take i)), .int .i64 i] ∧ i ≤ ys.length)
    (fun us _ => match us with | [_, .int _ a] => (ys.length - a).toNat | _ => 0) ⟨Ext.refl _, 0, rfl, Nat.zero_le _⟩ ?_
  rintro us vs w7 ⟨e7, i, rfl, hi⟩
  unfold S.bodkinlaw39_FindIs_L2
  have e57 := e6.trans e7
  rw [Go.Lift.hd, Go.Lift.tl, Go.Lift.hd, sBin_lss, sIf_dec]
  refine ⟨fun hlt => ?_, fun hge => ?_⟩
  · obtain ⟨y, hy⟩ : ∃ y, ys[i]? = some y := ⟨_, List.getElem?_eq_getElem (by omega)⟩
    obtain ⟨a, rfl, hf, hal, hla⟩ := hch i y hy
    obtain ⟨bb, of, hel, hc⟩ := (hx5.ext e57).el hy
    rw [sIdxA_sl S.tel_L_api_Span S.tsz_api_Span (by omega) (hx5.ext e57) hy rfl, hel, sLoad_agg (cs := encV ((a : Int), (a : Int) + (runes t).length)) S.tagg_api_Span hc rfl]
    refine sVar (vs := encV ((a : Int), (a : Int) + (runes t).length)) S.tze_api_Span S.tsz_api_Span (by decide) rfl rfl (encV_one _) fun b8 w8 hb8 hs8 e8 hk8 => ?_
    have c8 := hk8.cells
    have e58 := e57.trans e8
    rw [sFldA_ptr S.tfl_api_Span_From, sLoad_cell (v := .int .i64 a) S.tcell_int (c8.at 0 rfl), sBin_lss, sIf_dec]
    refine ⟨fun h => by omega, fun _ => ?_⟩
    rw [sFldA_ptr S.tfl_api_Span_To, sLoad_cell (v := .int .i64 ((a : Int) + (runes t).length)) S.tcell_int (c8.at 1 rfl), sFldA_ptr S.tfl_api_Span_From, sLoad_cell (v := .int .i64 a) S.tcell_int (c8.at 0 rfl), sBin_sub _ _ ⟨by omega, by omega⟩,
      sFldA_ptr S.tfl_bodkinref39_Query_Want, sLoad_cell S.tcell_L_int32 ((c9.ext e58).at 0 rfl), sLen_sl S.tel_L_int32 (hw5.ext e58), sBin_neq, sIf_not]
    refine ⟨fun h => absurd (by omega) h, fun _ => ?_⟩
    rw [sLoad_agg (cs := [wv, .bool fold, .bool word]) S.tagg_bodkinref39_Query (c9.ext e58) rfl, sFldA_ptr S.tfl_api_Span_From, sLoad_cell (v := .int .i64 a) S.tcell_int (c8.at 0 rfl)]
    refine (dfound_spec (fold := fold) (word := word) (hw5.ext e58) (hl6.ext (e7.trans e8)) (by omega) (by omega) a (by omega)).mono ?_
    rintro u w9 ⟨e9, q, rfl, hq⟩
    rw [hq.2 hf, sUn_not, sIf_bool]
    refine ⟨fun h => (by cases h), fun _ => ?_⟩
    rw [sFldA_ptr S.tfl_api_Span_To, sLoad_cell (v := .int .i64 ((a : Int) + (runes t).length)) S.tcell_int ((c8.ext e9).at 1 rfl), sBin_add _ _ ⟨by omega, by omega⟩]
    refine ⟨⟨(e7.trans e8).trans e9, i + 1, by rw [take_succ_of hy, lastT_add]; simp, by omega⟩, by simp only []; omega⟩
  · rw [sLen_sl S.tel_L_api_Span (hx5.ext e57), sBin_leq, sIf_dec]
    exact ⟨fun _ => endF hM (E5.trans e57), fun h => absurd (by omega) h⟩
theorem findNone_spec {w : World} (hM : Mo w) (s t : List UInt8) (fold word : Bool) : S.bodkinlaw39_FindNone (Yf w) (tv s) (.agg (encY t fold word).toArray) w := by
  unfold S.bodkinlaw39_FindNone
  refine sBox_new (cs := encY t fold word) rfl fun b3 w1 hb3 hs1 e1 hk3 => ?_
  have c3 := hk3.cells
  rw [sLen_str tstr, sBin_gtr, sIf_dec]
  refine ⟨fun _ => endF hM e1, fun hs => ?_⟩
  rw [sFldA_ptr S.tfl_find_Query_Text, sLoad_cell (v := tv t) S.tcell_string (c3.at 0 rfl), sLen_str tstr, sBin_gtr, sIf_dec]
  refine ⟨fun _ => endF hM e1, fun ht => ?_⟩
  rw [sFldA_ptr S.tfl_find_Query_Text, sLoad_cell (v := tv t) S.tcell_string (c3.at 0 rfl), sLen_str tstr, sBin_eql, sIf_dec]
  refine ⟨fun _ => endF hM e1, fun htn => ?_⟩
  have hrs := runes_len s
  have hrt := runes_len t
  have hn0 : 0 < (runes t).length := runes_zero fun h => htn (by rw [h]; rfl)
  refine (rnew_in (hM.ext e1) (by omega)).mono ?_
  rintro u w2 ⟨e2, v, ps, rfl, hr, hp, hfl⟩
  have E2 := e1.trans e2
  rw [sExtract_0, sExtract_1, sLoad_agg (cs := encY t fold word) S.tagg_find_Query (c3.ext e2) rfl]
  refine (fall_spec (t := t) (fold := fold) (word := word) hr hp (by omega)).mono ?_
  rintro u w3 ⟨e3, hu⟩
  rw [hfl] at hu
  have E3 := E2.trans e3
  rcases hu with ⟨h, _⟩ | ⟨h, _⟩ | ⟨_, _, x, rfl, hxr⟩
  · rw [h] at hn0; exact absurd hn0 (by decide)
  · omega
  have hx := hxr.sl encV_ok
  rw [sExtract_0, sExtract_1, sLoad_agg (cs := encY t fold word) S.tagg_find_Query (c3.ext (e2.trans e3)) rfl]
  refine (lawref_spec t fold word (by omega)).mono ?_
  rintro u w4 ⟨e4, wv, rfl, hsh, hw⟩
  refine sVar (vs := [wv, .bool fold, .bool word]) S.tze_bodkinref39_Query S.tsz_bodkinref39_Query (by decide) rfl rfl (by intro u hu; simp at hu; rcases hu with rfl | rfl | rfl; exact hsh.2; rfl; rfl) fun b9 w5 hb9 hs5 e5 hk9 => ?_
  have e35 := e4.trans e5
  have E5 := E3.trans e35
  have c9 := hk9.cells
  have hw5 := hw.ext e5
  have hx5 := hx.ext e35
  rw [sBin_neq, sIf_not]
  refine ⟨fun h => absurd rfl h, fun _ => ?_⟩
  rw [sBin_neq, sIf_not]
  refine ⟨fun h => absurd rfl h, fun _ => ?_⟩
  have hcv := (hits_cover (p := fnd (runes s) (runes t) fold word) hn0 (runes s).length).2
  have hln := refA_len (fnd (runes s) (runes t) fold word) (runes t).length (runes s).length
  change (hits (runes s) t fold word).length < 500 → ∀ j, j < (runes s).length → fnd (runes s) (runes t) fold word j → ∃ x ∈ hits (runes s) t fold word, x.1 ≤ (j : Int) ∧ (j : Int) < x.2 at hcv
  change (hits (runes s) t fold word).length ≤ 500 at hln
  generalize hits (runes s) t fold word = ys at *
  refine (ddecode_spec s (by omega)).mono ?_
  rintro lv w6 ⟨e6, hlv⟩
  have hl6 := hlv.sl encRn_ok
  rw [sLen_sl S.tel_L_int32 hl6]
  refine LoopS.intro (fun us w' => Ext w6 w' ∧ ∃ i : Nat, us = [.int .i64 i] ∧ i ≤ (runes s).length)
    (fun us _ => match us with | [.int _ a] => ((runes s).length - a).toNat | _ => 0) ⟨Ext.refl _, 0, rfl, Nat.zero_le _⟩ ?_
  rintro us vs w7 ⟨e7, i, rfl, hi⟩
  unfold S.bodkinlaw39_FindNone_L1
  have e57 := e6.trans e7
  rw [Go.Lift.hd, sBin_lss, sIf_dec]
  refine ⟨fun hlt => ?_, fun hge => endF hM (E5.trans e57)⟩
  rw [sLoad_agg (cs := [wv, .bool fold, .bool word]) S.tagg_bodkinref39_Query (c9.ext e57) rfl]
  refine (dfound_spec (fold := fold) (word := word) (hw5.ext e57) (hl6.ext e7) (by omega) (by omega) i (by omega)).mono ?_
  rintro u w8 ⟨e8, q, rfl, hq⟩
  have e68 := e7.trans e8
  have e58 := e57.trans e8
  rw [sUn_not, sIf_bool]
  refine ⟨fun h => ?_, fun h => ?_⟩
  · rw [sBin_add _ _ ⟨by omega, by omega⟩]
    exact ⟨⟨e68, i + 1, by simp, by omega⟩, by simp only []; omega⟩
  have hqt : q = true := by cases q <;> simp_all
  have hf := hq.1 hqt
  rw [sLen_sl S.tel_L_api_Span (hx5.ext e58), sBin_eql, sIf_dec]
  refine ⟨fun h5 => ?_, fun h5 => ?_⟩
  · rw [sBin_add _ _ ⟨by omega, by omega⟩]
    exact ⟨⟨e68, i + 1, by simp, by omega⟩, by simp only []; omega⟩
  obtain ⟨y, hy, hy1, hy2⟩ := hcv (by omega) i (by omega) hf
  rw [sLen_sl S.tel_L_api_Span (hx5.ext e58)]
  refine LoopS.intro (fun us w' => Ext w6 w' ∧ ∃ (j : Nat) (q : Bool), us = [.bool q, .int .i64 j] ∧ j ≤ ys.length ∧ (q = true ↔ ∃ x ∈ ys.take j, x.1 ≤ (i : Int) ∧ (i : Int) < x.2))
    (fun us _ => match us with | [_, .int _ a] => (ys.length - a).toNat | _ => 0) ⟨e68, 0, false, rfl, Nat.zero_le _, by simp⟩ ?_
  rintro us vs w9 ⟨e9, j, q2, rfl, hj, hq2⟩
  unfold S.bodkinlaw39_FindNone_L2
  have e59 := e6.trans e9
  rw [Go.Lift.hd, Go.Lift.tl, Go.Lift.hd, sBin_lss, sIf_dec]
  refine ⟨fun hlt2 => ?_, fun hge2 => ?_⟩
  · obtain ⟨x2, hx2⟩ : ∃ y, ys[j]? = some y := ⟨_, List.getElem?_eq_getElem (by omega)⟩
    obtain ⟨bb, of, hel, hc⟩ := (hx5.ext e59).el hx2
    rw [sIdxA_sl S.tel_L_api_Span S.tsz_api_Span (by omega) (hx5.ext e59) hx2 rfl, hel, sLoad_agg (cs := encV x2) S.tagg_api_Span hc rfl]
    refine sVar (vs := encV x2) S.tze_api_Span S.tsz_api_Span (by decide) rfl rfl (encV_one _) fun b8 w10 hb8 hs8 e10 hk8 => ?_
    have c8 := hk8.cells
    have e610 := e9.trans e10
    have hstep : ∀ q3 : Bool, (q3 = true ↔ (q2 = true ∨ (x2.1 ≤ (i : Int) ∧ (i : Int) < x2.2))) → (q3 = true ↔ ∃ x ∈ ys.take (j + 1), x.1 ≤ (i : Int) ∧ (i : Int) < x.2) := by
      intro q3 h3
      rw [h3, hq2, take_succ_of hx2]
      constructor
      · rintro (⟨x, k1, k2⟩ | k)
        · exact ⟨x, List.mem_append_left _ k1, k2⟩
        · exact ⟨x2, List.mem_append_right _ (List.mem_singleton.2 rfl), k⟩
      · rintro ⟨x, k1, k2⟩
        rcases List.mem_append.1 k1 with k1 | k1
        · exact .inl ⟨x, k1, k2⟩
        · rw [List.mem_singleton] at k1
          subst k1
          exact .inr k2
    rw [sIf_bool]
    refine ⟨fun hq3 => ?_, fun hq3 => ?_⟩
    · rw [sBin_add _ _ ⟨by omega, by omega⟩]
      exact ⟨⟨e610, j + 1, true, by simp, by omega, hstep true (by simp [hq3])⟩, by simp only []; omega⟩
    · rw [sFldA_ptr S.tfl_api_Span_From, sLoad_cell (v := .int .i64 x2.1) S.tcell_int (c8.at 0 rfl), sBin_leq, sIf_dec]
      refine ⟨fun h1 => ?_, fun h1 => ?_⟩
      · rw [sFldA_ptr S.tfl_api_Span_To, sLoad_cell (v := .int .i64 x2.2) S.tcell_int (c8.at 1 rfl), sBin_lss, sBin_add _ _ ⟨by omega, by omega⟩]
        exact ⟨⟨e610, j + 1, decide ((i : Int) < x2.2), by simp, by omega, hstep _ (by simp [hq3, h1])⟩, by simp only []; omega⟩
      · rw [sBin_add _ _ ⟨by omega, by omega⟩]
        exact ⟨⟨e610, j + 1, false, by simp, by omega, hstep false (by simp [hq3]; omega)⟩, by simp only []; omega⟩
  · have hqt2 : q2 = true := hq2.2 ⟨y, by rw [List.take_of_length_le (by omega)]; exact hy, hy1, hy2⟩
    rw [hqt2, sUn_not, sIf_bool]
    refine ⟨fun h => (by cases h), fun _ => ?_⟩
    rw [sBin_add _ _ ⟨by omega, by omega⟩]
    exact ⟨⟨e9, i + 1, by simp, by omega⟩, by simp only []; omega⟩
theorem findNil_spec {w : World} (hM : Mo w) (t : List UInt8) (fold word : Bool) (a : Int) : S.bodkinlaw39_FindNil (Yf w) (.agg (encY t fold word).toArray) (.int .i64 a) w := by
  unfold S.bodkinlaw39_FindNil
  refine sBox_new (cs := encY t fold word) rfl fun b2 w1 hb2 hs1 e1 hk2 => ?_
  have c2 := hk2.cells
  rw [sFldA_ptr S.tfl_find_Query_Text, sLoad_cell (v := tv t) S.tcell_string (c2.at 0 rfl), sLen_str tstr, sBin_gtr, sIf_dec]
  refine ⟨fun _ => endF hM e1, fun ht => ?_⟩
  have hrt := runes_len t
  rw [sLoad_agg (cs := encY t fold word) S.tagg_find_Query c2 rfl]
  refine (fall_spec (ps := []) (t := t) (fold := fold) (word := word) (.inl ⟨rfl, rfl⟩) ⟨by simp, by simp⟩ (by omega)).mono ?_
  rintro u w3 ⟨e3, hu⟩
  obtain ⟨x, z, rfl, hx, hz⟩ : ∃ (x : Value) (z : Int), u = .tuple #[x, .int .i64 z] ∧ Sl w3 x 2 encV [] ∧ (z = 0 ↔ 0 < (runes t).length ∧ (runes t).length ≤ 200) := by
    rcases hu with ⟨h, rfl⟩ | ⟨h, rfl⟩ | ⟨h, h2, x, rfl, hx⟩
    · exact ⟨_, _, rfl, Sl.nil _ _ _, by rw [h]; simp⟩
    · exact ⟨_, _, rfl, Sl.nil _ _ _, ⟨fun k => (by cases k), fun k => by omega⟩⟩
    · exact ⟨_, _, rfl, hx.sl encV_ok, ⟨fun _ => ⟨h, h2⟩, fun _ => rfl⟩⟩
  clear hu
  have E3 := e1.trans e3
  rw [sExtract_0, sExtract_1]
  refine (next_spec (xs := []) (Sl.nil _ _ _) (by decide) a).mono ?_
  rintro u w4 ⟨e4, rfl⟩
  rw [sExtract_0, sExtract_1]
  refine sVar (vs := encV (nextS a [])) S.tze_api_Span S.tsz_api_Span (by decide) rfl rfl (encV_one _) fun b5 w5 hb5 hs5 e5 hk5 => ?_
  refine (last_spec (xs := []) (Sl.nil _ _ _) (by decide) a).mono ?_
  rintro u w6 ⟨e6, rfl⟩
  rw [sExtract_0, sExtract_1]
  refine sVar (vs := encV (lastS a [])) S.tze_api_Span S.tsz_api_Span (by decide) rfl rfl (encV_one _) fun b7 w7 hb7 hs7 e7 hk7 => ?_
  have e37 := ((e4.trans e5).trans e6).trans e7
  have E7 := E3.trans e37
  rw [sFldA_ptr S.tfl_find_Query_Text, sLoad_cell (v := tv t) S.tcell_string ((c2.ext (e3.trans e37)).at 0 rfl)]
  refine (ddecode_spec t (by omega)).mono ?_
  rintro lv w8 ⟨e8, hlv⟩
  have E8 := E7.trans e8
  rw [sLen_sl S.tel_L_int32 (hlv.sl encRn_ok), sLen_sl S.tel_L_api_Span (hx.ext (e37.trans e8)), sBin_eql, sIf_pos (show (([] : List Sp).length : Int) = 0 from rfl), sBin_eql, sBin_gtr, sIf_dec]
  refine ⟨fun h0 => ?_, fun h0 => ?_⟩
  · have : (decide (z = 0)) = decide (((runes t).length : Int) ≤ 200) := by
      by_cases h : (runes t).length ≤ 200
      · rw [decide_eq_true (hz.2 ⟨by omega, h⟩), decide_eq_true (by omega)]
      · rw [decide_eq_false (fun k => h (hz.1 k).2), decide_eq_false (by omega)]
    rw [sBin_leq, sBin_boolEq (by kernel_rfl), this, beq_self_eq_true, sIf_true, sUn_not, sIf_bool]
    refine ⟨fun _ => ?_, fun h => by cases h⟩
    rw [sUn_not, sIf_bool]
    exact ⟨fun _ => endF hM E8, fun h => by cases h⟩
  · have : (decide (z = 0)) = false := decide_eq_false fun k => by have := (hz.1 k).1; omega
    rw [sBin_boolEq (by kernel_rfl), this, beq_self_eq_true, sIf_true, sUn_not, sIf_bool]
    refine ⟨fun _ => ?_, fun h => by cases h⟩
    rw [sUn_not, sIf_bool]
    exact ⟨fun _ => endF hM E8, fun h => by cases h⟩
end Go.Proofs.YthpngnngoamlpaaDoor

/- The laws of batches. Conditions: the table of sizes in memory. -/
import Derived.Test.YtpjmmhbdondknaaDoorJ3
namespace Go.Proofs.YtpjmmhbdondknaaDoor
open Go Go.Lift Go.RowKit Go.Txt

theorem rnew_get {w : World} {s : List UInt8} (hM : Mo w) (hs : s.length ≤ 20000) : sCall Tryd.prog S.rope_New.n [tv s] w fun u w' => Ext w w' ∧ ∃ b ps, u = .tuple #[.pointer (some ⟨b, 0, none⟩), .int .i64 0] ∧ Rp w' (.pointer (some ⟨b, 0, none⟩)) ps ∧ RpOk ps ∧ Bg ps ∧ ps.flatten = runes s := by
  have hr := runes_len s
  refine (rnew_spec hM (by omega)).mono ?_
  rintro u w' ⟨e, hu⟩
  rcases hu with ⟨h, _⟩ | ⟨h, b, rfl, hb⟩
  · omega
  · exact ⟨e, b, _, rfl, hb, ⟨pcs_ok (runes_ok s), by rw [pcs_join]; exact h⟩, pcs_bg _, pcs_join _⟩
abbrev Yz (w : World) : K1 := fun u w' => Ext w w' ∧ u = .bool true
def tot (l : List Ed) : Nat := (l.map fun x => x.2.2.length).sum
theorem tot_cons (x : Ed) (l : List Ed) : tot (x :: l) = x.2.2.length + tot l := by unfold tot; rw [List.map_cons, List.sum_cons]
theorem tot_snoc (l : List Ed) (x : Ed) : tot (l ++ [x]) = tot l + x.2.2.length := by
  induction l with
  | nil => rw [List.nil_append, tot_cons]; simp [tot]
  | cons y l ih => rw [List.cons_append, tot_cons, tot_cons, ih]; omega
theorem tot_bd : ∀ {l : List Ed}, (∀ x ∈ l, x.2.2.length ≤ 1000) → tot l ≤ 1000 * l.length
  | [], _ => by simp [tot]
  | x :: l, h => by
    have h1 := h x (List.mem_cons_self ..)
    have h2 := tot_bd (l := l) fun y hy => h y (List.mem_cons_of_mem _ hy)
    rw [tot_cons, List.length_cons]
    omega
theorem tnr_tot : ∀ (l : List Ed), tnr l ≤ tot l
  | [] => Nat.le_refl _
  | x :: l => by
    have h1 : nr x ≤ x.2.2.length := runes_len _
    have h2 := tnr_tot l
    rw [tnr_cons, tot_cons]
    omega
structure Sht (s : List UInt8) (es : List Ed) : Prop where
  s : s.length ≤ 1000
  n : es.length ≤ 100
  x : ∀ x ∈ es, x.2.2.length ≤ 1000
  t : tot es ≤ 3000
theorem Sht.fits {s : List UInt8} {es : List Ed} (h : Sht s es) : Fits es := fun x hx => by have := h.x x hx; omega
theorem Sht.tnr {s : List UInt8} {es : List Ed} (h : Sht s es) : tnr es ≤ 3000 := Nat.le_trans (tnr_tot es) h.t
theorem lawlong_spec {w : World} {s : List UInt8} {v : Value} {es : List Ed} (hl : Sl w v 3 encE es) : sCall Tryd.prog S.bodkinlaw09_long.n [tv s, v] w fun u w' => Ext w w' ∧ ∃ q : Bool, u = .bool q ∧ (q = false → Sht s es) := by
  refine S.bodkinlaw09_long.call ?_
  unfold S.bodkinlaw09_long
  rw [sLen_str tstr, sBin_gtr, sIf_dec]
  refine ⟨fun _ => ⟨Ext.refl w, true, rfl, fun h => by cases h⟩, fun hs => ?_⟩
  rw [sLen_sl S.tel_L_api_Edit hl, sBin_gtr, sIf_dec]
  refine ⟨fun _ => ⟨Ext.refl w, true, rfl, fun h => by cases h⟩, fun hn => ?_⟩
  rw [sLen_sl S.tel_L_api_Edit hl]
  refine LoopS.intro (fun us w1 => Ext w w1 ∧ ∃ i : Nat, us = [.int .i64 (tot (es.take i)), .int .i64 i] ∧ i ≤ es.length ∧ ∀ x ∈ es.take i, x.2.2.length ≤ 1000)
    (fun us _ => match us with | [_, .int _ a] => (es.length - a).toNat | _ => 0) ⟨Ext.refl w, 0, rfl, Nat.zero_le _, fun x hx => by simp at hx⟩ ?_
  rintro us vs w1 ⟨e1, i, rfl, hi, hall⟩
  unfold S.bodkinlaw09_long_L1
  have htb := tot_bd hall
  have hti : (es.take i).length = i := by rw [List.length_take]; omega
  rw [hti] at htb
  rw [Go.Lift.hd, Go.Lift.tl, Go.Lift.hd, sBin_lss, sIf_dec]
  refine ⟨fun hlt => ?_, fun hge => ?_⟩
  · obtain ⟨x, hx⟩ : ∃ x, es[i]? = some x := ⟨_, List.getElem?_eq_getElem (by omega)⟩
    obtain ⟨bb, of, hel, hcl⟩ := (hl.ext e1).el hx
    rw [sIdxA_sl S.tel_L_api_Edit S.tsz_api_Edit (by omega) (hl.ext e1) hx rfl, hel, sLoad_agg (cs := encE x) S.tagg_api_Edit hcl rfl]
    refine sVar (vs := encE x) S.tze_api_Edit S.tsz_api_Edit (by decide) rfl rfl (encE_one x) fun b7 w2 hb7 hs2 e2 hk7 => ?_
    have E2 := e1.trans e2
    rw [sFldA_ptr S.tfl_api_Edit_Text, sLoad_cell (v := tv x.2.2) S.tcell_string (hk7.cells.at 2 rfl), sLen_str tstr, sBin_gtr, sIf_dec]
    refine ⟨fun _ => ⟨E2, true, rfl, fun h => by cases h⟩, fun hx1 => ?_⟩
    rw [sFldA_ptr S.tfl_api_Edit_Text, sLoad_cell (v := tv x.2.2) S.tcell_string (hk7.cells.at 2 rfl), sLen_str tstr, sBin_add _ _ ⟨by omega, by omega⟩, sBin_add _ _ ⟨by omega, by omega⟩]
    refine ⟨⟨E2, i + 1, by rw [take_succ_of hx, tot_snoc]; simp, by omega, fun y hy => ?_⟩, by simp only []; omega⟩
    rw [take_succ_of hx, List.mem_append] at hy
    rcases hy with hy | hy
    · exact hall y hy
    · simp only [List.mem_singleton] at hy
      subst hy
      omega
  · obtain rfl : i = es.length := by omega
    rw [List.take_length] at hall htb ⊢
    rw [sBin_gtr]
    refine ⟨e1, _, rfl, fun h => ?_⟩
    rw [decide_eq_false_iff_not] at h
    exact ⟨by omega, by omega, hall, by omega⟩
theorem runes_lit {l : List UInt8} {r : List Int} (h : txt r = l) (hr : ∀ c ∈ r, okR c) : runes l = r := by rw [← h]; exact runes_of hr
theorem ax_runes : runes [97, 98, 99, 100] = [97, 98, 99, 100] := runes_lit (by decide +kernel) (by decide)
theorem xy_runes' : runes [120, 121] = [120, 121] := runes_lit (by decide +kernel) (by decide)
theorem z_runes : runes [122] = [122] := runes_lit (by decide +kernel) (by decide)
abbrev axE : List Ed := [(1, 2, [120, 121]), (3, 3, [122])]
theorem ax_wrg : wrg 4 axE = 0 := wrg_zero.2 ⟨⟨by decide, ⟨by decide, by decide, ⟨by decide, by decide, trivial⟩⟩⟩, by
  simp only [siz_cons, siz_nil, dlt, nr, xy_runes', z_runes]; decide⟩
theorem ax_app : app [97, 98, 99, 100] axE = [97, 120, 121, 99, 122, 100] := by
  simp only [app, List.foldr, xy_runes', z_runes]; rfl
theorem ax_inve : inve [97, 98, 99, 100] 0 axE = [(1, 3, [98]), (4, 5, [])] := by
  simp only [inve, invE, dlt, nr, xy_runes', z_runes]; decide +kernel
theorem ax_siz : siz axE = 2 := by simp only [siz_cons, siz_nil, dlt, nr, xy_runes', z_runes]; decide
theorem lawax_spec {w : World} (hM : Mo w) : sCall Tryd.prog S.bodkinlaw09_axyczd.n [] w (Yz w) := by
  refine S.bodkinlaw09_axyczd.call ?_
  unfold S.bodkinlaw09_axyczd
  refine (rnew_get (s := [97, 98, 99, 100]) hM (by decide)).mono ?_
  rintro u w1 ⟨e1, b, ps, rfl, hr, hp, _, hfl⟩
  rw [ax_runes] at hfl
  have hlen : ps.flatten.length = 4 := by rw [hfl]; rfl
  rw [sExtract_0, sExtract_1, sBuild_of (cs := encE (1, 2, [120, 121])) (lp := [(0, [.int .i64 1]), (1, [.int .i64 2]), (2, [tv [120, 121]])]) S.tze_api_Edit S.tpl_api_Edit rfl rfl,
    sBuild_of (cs := encE (3, 3, [122])) (lp := [(0, [.int .i64 3]), (1, [.int .i64 3]), (2, [tv [122]])]) S.tze_api_Edit S.tpl_api_Edit rfl rfl]
  refine sBuildSlice_own (n := 2) (enc := encE) (xs := axE) (lp := [(0, encE (1, 2, [120, 121])), (1, encE (3, 3, [122]))]) S.tel_L_api_Edit S.tsz_api_Edit rfl S.tze_api_Edit (by decide) (by decide) encE_ok rfl rfl fun t w2 ht ho2 e2 hs2 => ?_
  have E2 := e1.trans e2
  have hl := ho2.sl encE_ok
  have hm : Fits axE := fun x hx => by
    rcases List.mem_cons.1 hx with rfl | hx
    · decide
    · rcases List.mem_cons.1 hx with rfl | hx
      · decide
      · cases hx
  refine (bapply_spec (hM.ext E2) (hr.ext e2) hp hl hm).mono ?_
  rintro u w3 ⟨e3, hu⟩
  rw [hlen] at hu
  rcases hu with ⟨h, _⟩ | ⟨_, bv, ps', rfl, hr', hp', hfl'⟩
  · exact absurd ax_wrg h
  rw [hfl, ax_app] at hfl'
  rw [sExtract_0, sExtract_1]
  have E3 := E2.trans e3
  refine (binvert_spec ((hr.ext e2).ext e3) hp (hl.ext e3) hm).mono ?_
  rintro u w4 ⟨e4, hu⟩
  rw [hlen] at hu
  rcases hu with ⟨h, _⟩ | ⟨_, m, rfl, hm4⟩
  · exact absurd ax_wrg h
  rw [hfl, ax_inve] at hm4
  have hms := hm4.sl encE_ok
  rw [sExtract_0, sExtract_1, sBin_eql, sIf_dec]
  refine ⟨fun _ => ?_, fun h => absurd rfl h⟩
  rw [sBin_eql, sIf_dec]
  refine ⟨fun _ => ?_, fun h => absurd rfl h⟩
  rw [sBin_eql, sIf_dec]
  refine ⟨fun _ => ?_, fun h => absurd rfl h⟩
  refine (rtext_spec (hr'.ext e4) hp').mono ?_
  rintro u w5 ⟨e5, rfl⟩
  have ht : txt ps'.flatten = [97, 120, 121, 99, 122, 100] := by rw [hfl']; decide +kernel
  rw [ht, sBin_strEq, sIf_dec]
  refine ⟨fun _ => ?_, fun h => absurd rfl h⟩
  have hm5 := hms.ext e5
  obtain ⟨bb, of, hel, hcl⟩ := hm5.el (i := 1) (x := (4, 5, [])) rfl
  rw [sLen_sl S.tel_L_api_Edit hm5, sBin_eql, sIf_dec]
  refine ⟨fun _ => ?_, fun h => absurd rfl h⟩
  rw [sIdxA_sl (i := 1) (z := 1) S.tel_L_api_Edit S.tsz_api_Edit (by omega) hm5 (x := (4, 5, [])) rfl rfl, hel, sLoad_agg (cs := encE (4, 5, [])) S.tagg_api_Edit hcl rfl,
    sBuild_of (cs := encE (4, 5, [])) (lp := [(0, [.int .i64 4]), (1, [.int .i64 5])]) S.tze_api_Edit S.tpl_api_Edit rfl rfl, sBin_ed, sIf_dec]
  refine ⟨fun _ => ?_, fun h => absurd rfl h⟩
  obtain ⟨⟨_, hv⟩, _⟩ := wrg_zero.1 ax_wrg
  refine (bsize_spec (n := 4) (((hl.ext e3).ext e4).ext e5) (by decide) (by decide) (fun x hx => hv.mem x hx) hm).mono ?_
  rintro u w6 ⟨e6, rfl⟩
  rw [ax_siz, sBin_eql]
  exact ⟨((E3.trans e4).trans e5).trans e6, rfl⟩
theorem endAx {w w' : World} (hM : Mo w) (e : Ext w w') : sCall Tryd.prog S.bodkinlaw09_axyczd.n [] w' (Yz w) := (lawax_spec (hM.ext e)).mono fun _ _ h => ⟨e.trans h.1, h.2⟩
theorem batchChecks_spec {w : World} (hM : Mo w) (n : Int) {v : Value} {es : List Ed} (hl : Sl w v 3 encE es) : S.bodkinlaw09_BatchChecks (Yz w) (.int .i64 n) v w := by
  unfold S.bodkinlaw09_BatchChecks
  rw [sLen_sl S.tel_L_api_Edit hl, sBin_gtr, sIf_dec]
  refine ⟨fun _ => endAx hM (Ext.refl w), fun _ => ?_⟩
  refine (bcheck_spec n hl).mono ?_
  rintro u w1 ⟨e1, rfl⟩
  refine (dcheck9_spec n (hl.ext e1)).mono ?_
  rintro u w2 ⟨e2, rfl⟩
  rw [sBin_eql, sIf_dec]
  exact ⟨fun _ => endAx hM (e1.trans e2), fun h => absurd rfl h⟩
theorem ne_bool {y : Option Addr} {g : Int} (h : y = none ↔ ¬ g = 0) : (y.isNone == !decide (g = 0)) = true := by
  cases y with
  | none => simp [h.1 rfl]
  | some z =>
    have : g = 0 := by
      rcases Decidable.em (g = 0) with h1 | h1
      · exact h1
      · exact absurd (h.2 h1) (by simp)
    simp [this]
theorem batchApplies_spec {w : World} (hM : Mo w) (s : List UInt8) {v : Value} {es : List Ed} (hl : Sl w v 3 encE es) : S.bodkinlaw09_BatchApplies (Yz w) (tv s) v w := by
  unfold S.bodkinlaw09_BatchApplies
  refine (lawlong_spec hl).mono ?_
  rintro u w0 ⟨e0, q, rfl, hq⟩
  rw [sIf_bool]
  refine ⟨fun _ => endAx hM e0, fun hq0 => ?_⟩
  have hsh := hq hq0
  have hs1 := hsh.s
  have hrl := runes_len s
  have hsT := hsh.tnr
  refine (rnew_get (hM.ext e0) (by omega)).mono ?_
  rintro u w1 ⟨e1, b, ps, rfl, hr, hp, _, hfl⟩
  rw [← hfl] at hrl
  rw [sExtract_0, sExtract_1, sBin_neq, sIf_not]
  refine ⟨fun h => absurd rfl h, fun _ => ?_⟩
  rw [sBin_ptr_eq S.tpt_P_rope_Rope, Option.isNone_some, sIf_false]
  refine (ddecode_spec s (by omega)).mono ?_
  rintro was w2 ⟨e2, hwas⟩
  rw [← hfl] at hwas
  have hws := hwas.sl encRn_ok
  have E2 := (e0.trans e1).trans e2
  refine (bapply_spec (hM.ext E2) (hr.ext e2) hp (hl.ext E2) hsh.fits).mono ?_
  rintro u w3 ⟨e3, hu⟩
  obtain ⟨t, g, rfl, hg, hu2⟩ : ∃ (t : Option Addr) (g : Int), u = .tuple #[.pointer t, .int .i64 g] ∧ g = wrg ps.flatten.length es ∧ ((t = none ∧ g ≠ 0) ∨ (g = 0 ∧ ∃ (bv : Nat) (ps' : List (List Int)), t = some ⟨bv, 0, none⟩ ∧ Rp w3 (.pointer (some ⟨bv, 0, none⟩)) ps' ∧ RpOk ps' ∧ ps'.flatten = app ps.flatten es)) := by
    rcases hu with ⟨h, rfl⟩ | ⟨h, bv, ps', rfl, h3⟩
    · exact ⟨none, _, rfl, rfl, .inl ⟨rfl, h⟩⟩
    · exact ⟨_, 0, rfl, h.symm, .inr ⟨rfl, bv, ps', rfl, h3⟩⟩
  clear hu
  rw [sExtract_0, sExtract_1]
  refine (binvert_spec ((hr.ext e2).ext e3) hp ((hl.ext E2).ext e3) hsh.fits).mono ?_
  rintro u w4 ⟨e4, hu⟩
  obtain ⟨m, rfl, hm2⟩ : ∃ m : Value, u = .tuple #[m, .int .i64 g] ∧ ((g ≠ 0 ∧ m = .slice none 0 0) ∨ (g = 0 ∧ Row w4 w3.heap.size S.T.api_Edit 3 m encE (inve ps.flatten 0 es))) := by
    rcases hu with ⟨h, rfl⟩ | ⟨h, m, rfl, h3⟩
    · exact ⟨_, by rw [hg], .inl ⟨by rw [hg]; exact h, rfl⟩⟩
    · exact ⟨m, by rw [hg, h], .inr ⟨by rw [hg, h], h3⟩⟩
  clear hu
  rw [sExtract_0, sExtract_1]
  have e24 := e3.trans e4
  have E4 := E2.trans e24
  refine (dapply9_spec (hws.ext e24) (by omega) (hl.ext E4) hsh.fits (by omega)).mono ?_
  rintro u w5 ⟨e5, hu⟩
  obtain ⟨nv, rfl, hn2⟩ : ∃ nv : Value, u = .tuple #[nv, .int .i64 g] ∧ (g = 0 → Sl w5 nv 1 encRn (app ps.flatten es)) := by
    rcases hu with ⟨h, rfl⟩ | ⟨h, nv, rfl, h3⟩
    · exact ⟨_, by rw [hg], fun h2 => absurd (by rw [← hg]; exact h2) h⟩
    · exact ⟨nv, by rw [hg, h], fun _ => h3⟩
  clear hu
  have e25 := e24.trans e5
  have E5 := E2.trans e25
  rw [sExtract_0, sExtract_1, sBin_neq, sIf_not]
  refine ⟨fun h => absurd rfl h, fun _ => ?_⟩
  rw [sBin_neq, sIf_not]
  refine ⟨fun h => absurd rfl h, fun _ => ?_⟩
  have hcond : t = none ↔ ¬ g = 0 := by
    rcases hu2 with ⟨rfl, h⟩ | ⟨rfl, bv, ps', rfl, _⟩
    · simp [h]
    · simp
  rw [sBin_ptr_eq S.tpt_P_rope_Rope, sBin_neq, sBin_boolNe (by kernel_rfl), ne_bool hcond, Bool.not_true, sIf_false]
  refine (rtext_spec (hr.ext (e2.trans e25)) hp).mono ?_
  rintro u w6 ⟨e6, rfl⟩
  have e26 := e25.trans e6
  refine (dencode_spec (hws.ext e26) (by omega)).mono ?_
  rintro u w7 ⟨e7, rfl⟩
  have e27 := e26.trans e7
  have e57 := e6.trans e7
  have E7 := E2.trans e27
  rw [sBin_strNe, sIf_not]
  refine ⟨fun h => absurd rfl h, fun _ => ?_⟩
  rw [sBin_neq, sIf_not]
  refine ⟨fun hg0 => ?_, fun hg0 => ?_⟩
  · rcases hm2 with ⟨_, rfl⟩ | ⟨h, _⟩
    case inr => exact absurd h hg0
    rw [sLen_sl S.tel_L_api_Edit (Sl.nil w7 3 encE), sBin_eql, sIf_dec]
    exact ⟨fun _ => endAx hM E7, fun h => absurd rfl h⟩
  · rcases hm2 with ⟨h, _⟩ | ⟨_, hm3⟩
    · exact absurd hg0 h
    rcases hu2 with ⟨_, h⟩ | ⟨_, bv, ps', rfl, hr', hp', hfl'⟩
    · exact absurd hg0 h
    obtain ⟨⟨h64, hv⟩, hfull⟩ := wrg_zero.1 (hg.symm.trans hg0)
    have hal := app_len hv
    have hn3 := hn2 hg0
    refine (rtext_spec ((hr'.ext (e4.trans e5)).ext e57) hp').mono ?_
    rintro u w8 ⟨e8, rfl⟩
    refine (dencode_spec ((hn3.ext e57).ext e8) (by omega)).mono ?_
    rintro u w9 ⟨e9, rfl⟩
    rw [hfl', sBin_strEq, sIf_dec]
    refine ⟨fun _ => ?_, fun h => absurd rfl h⟩
    have e29 := (e27.trans e8).trans e9
    have e79 := e8.trans e9
    refine (dinvert9_spec (hws.ext e29) (by omega) (hl.ext (E2.trans e29)) hsh.fits hv h64).mono ?_
    rintro iv w10 ⟨e10, hiv⟩
    have e2x := e29.trans e10
    have e7x := e79.trans e10
    refine (editsEq_spec ((hm3.sl encE_ok).ext ((e5.trans e57).trans e7x)) (hiv.sl encE_ok)).mono ?_
    rintro u w11 ⟨e11, rb, rfl, hrb⟩
    rw [hrb.2 rfl, sIf_true]
    have e2y := e2x.trans e11
    have e7y := e7x.trans e11
    refine (bsize_spec (n := ps.flatten.length) (hl.ext (E2.trans e2y)) (by omega) (by omega) (fun x hx => hv.mem x hx) hsh.fits).mono ?_
    rintro u w12 ⟨e12, rfl⟩
    rw [sLen_sl S.tel_L_int32 ((hn3.ext e57).ext (e7y.trans e12)), sLen_sl S.tel_L_int32 (hws.ext (e2y.trans e12)), sBin_sub _ _ ⟨by omega, by omega⟩, sBin_eql, sIf_dec]
    exact ⟨fun _ => endAx hM (E2.trans (e2y.trans e12)), fun h => absurd (by omega) h⟩
theorem batchUndoes_spec {w : World} (hM : Mo w) (s : List UInt8) {v : Value} {es : List Ed} (hl : Sl w v 3 encE es) : S.bodkinlaw09_BatchUndoes (Yz w) (tv s) v w := by
  unfold S.bodkinlaw09_BatchUndoes
  refine (lawlong_spec hl).mono ?_
  rintro u w0 ⟨e0, q, rfl, hq⟩
  rw [sIf_bool]
  refine ⟨fun _ => endAx hM e0, fun hq0 => ?_⟩
  have hsh := hq hq0
  have hs1 := hsh.s
  have hrl := runes_len s
  have hsT := hsh.tnr
  refine (rnew_get (hM.ext e0) (by omega)).mono ?_
  rintro u w1 ⟨e1, b, ps, rfl, hr, hp, _, hfl⟩
  rw [← hfl] at hrl
  rw [sExtract_0, sExtract_1]
  have E1 := e0.trans e1
  refine (bapply_spec (hM.ext E1) hr hp (hl.ext E1) hsh.fits).mono ?_
  rintro u w2 ⟨e2, hu⟩
  obtain ⟨t, g, rfl, hg, hu2⟩ : ∃ (t : Option Addr) (g : Int), u = .tuple #[.pointer t, .int .i64 g] ∧ g = wrg ps.flatten.length es ∧ ((t = none ∧ g ≠ 0) ∨ (g = 0 ∧ ∃ (bv : Nat) (ps' : List (List Int)), t = some ⟨bv, 0, none⟩ ∧ Rp w2 (.pointer (some ⟨bv, 0, none⟩)) ps' ∧ RpOk ps' ∧ ps'.flatten = app ps.flatten es)) := by
    rcases hu with ⟨h, rfl⟩ | ⟨h, bv, ps', rfl, h3⟩
    · exact ⟨none, _, rfl, rfl, .inl ⟨rfl, h⟩⟩
    · exact ⟨_, 0, rfl, h.symm, .inr ⟨rfl, bv, ps', rfl, h3⟩⟩
  clear hu
  have E2 := E1.trans e2
  rw [sExtract_0, sExtract_1]
  refine JoinS.intro (fun us w' => w' = w2 ∧ ∃ qb : Bool, us = [.bool qb] ∧ (qb = true ↔ ¬ g = 0)) ?_ ?_
  · rw [sBin_neq, sIf_not]
    refine ⟨fun h => absurd rfl h, fun _ => ?_⟩
    rw [sBin_ptr_eq S.tpt_P_rope_Rope, Option.isNone_some, sIf_false, sBin_neq]
    exact ⟨rfl, _, rfl, by simp⟩
  rintro us vs w2 ⟨rfl, qb, rfl, hqb⟩
  unfold S.bodkinlaw09_BatchUndoes_J1
  rw [Go.Lift.hd, sIf_bool]
  refine ⟨fun hT => ?_, fun hF => ?_⟩
  · rw [sBin_eql, sIf_dec]
    refine ⟨fun _ => ?_, fun h => absurd rfl h⟩
    rw [sBin_ptr_ne S.tpt_P_rope_Rope, Option.isSome_some, sIf_true]
    exact endAx hM E2
  have hg0 : g = 0 := by
    rcases Decidable.em (g = 0) with h1 | h1
    · exact h1
    · rw [hqb.2 h1] at hF; cases hF
  rcases hu2 with ⟨_, h⟩ | ⟨_, bv, ps', rfl, hr', hp', hfl'⟩
  · exact absurd hg0 h
  have hwz := hg.symm.trans hg0
  obtain ⟨⟨h64, hv⟩, hfull⟩ := wrg_zero.1 hwz
  have hal := app_len hv
  obtain ⟨u1, u2, u3, u4⟩ := undo_batch hp.runes hv
  rw [← hfl'] at u1 u2 u3
  refine (binvert_spec (hr.ext e2) hp (hl.ext E2) hsh.fits).mono ?_
  rintro u w3 ⟨e3, hu⟩
  rcases hu with ⟨h, _⟩ | ⟨_, m, rfl, hm3⟩
  · exact absurd hwz h
  have E3 := E2.trans e3
  have hms := hm3.sl encE_ok
  have hle := hp.le
  have hmf : Fits (inve ps.flatten 0 es) := by
    have key : ∀ (l : List Ed) (s : Int), ∀ x ∈ inve ps.flatten s l, x.2.2.length ≤ 2000000 := by
      intro l
      induction l with
      | nil => intro s x hx; cases hx
      | cons y l ih =>
        intro s x hx
        rw [inve] at hx
        rcases List.mem_cons.1 hx with rfl | hx
        · unfold invE
          dsimp only
          have h1 := txt_len ((ps.flatten.drop y.1.toNat).take (y.2.1.toNat - y.1.toNat))
          rw [List.length_take, List.length_drop] at h1
          omega
        · exact ih _ x hx
    exact key es 0
  have hwz' : wrg ps'.flatten.length (inve ps.flatten 0 es) = 0 := wrg_zero.2 ⟨⟨by rw [inv_len]; exact h64, u1⟩, by rw [u4, hfl']; omega⟩
  rw [sExtract_0, sExtract_1]
  refine (bapply_spec (hM.ext E3) (hr'.ext e3) hp' hms hmf).mono ?_
  rintro u w4 ⟨e4, hu⟩
  rcases hu with ⟨h, _⟩ | ⟨_, bu, pu, rfl, hru, hpu, hflu⟩
  · exact absurd hwz' h
  rw [u2] at hflu
  rw [sExtract_0, sExtract_1]
  refine (binvert_spec ((hr'.ext e3).ext e4) hp' (hms.ext e4) hmf).mono ?_
  rintro u w5 ⟨e5, hu⟩
  rcases hu with ⟨h, _⟩ | ⟨_, n, rfl, hn5⟩
  · exact absurd hwz' h
  rw [u3] at hn5
  have hns := hn5.sl encE_ok
  have e25 := (e3.trans e4).trans e5
  have E5 := E2.trans e25
  rw [sExtract_0, sExtract_1, sBin_neq, sIf_not]
  refine ⟨fun h => absurd rfl h, fun _ => ?_⟩
  rw [sBin_neq, sIf_not]
  refine ⟨fun h => absurd rfl h, fun _ => ?_⟩
  rw [sBin_neq, sIf_not]
  refine ⟨fun h => absurd rfl h, fun _ => ?_⟩
  rw [sBin_ptr_eq S.tpt_P_rope_Rope, Option.isNone_some, sIf_false]
  refine (rtext_spec (hru.ext e5) hpu).mono ?_
  rintro u w6 ⟨e6, rfl⟩
  refine (rtext_spec ((hr.ext e2).ext (e25.trans e6)) hp).mono ?_
  rintro u w7 ⟨e7, rfl⟩
  rw [hflu, sBin_strNe, sIf_not]
  refine ⟨fun h => absurd rfl h, fun _ => ?_⟩
  have e57 := e6.trans e7
  have E7 := E5.trans e57
  have hn7 := hns.ext e57
  rw [sLen_sl S.tel_L_api_Edit hn7, sLen_sl S.tel_L_api_Edit (hl.ext E7), sBin_neq, sIf_not, List.length_map]
  refine ⟨fun h => absurd rfl h, fun _ => ?_⟩
  rw [sLen_sl S.tel_L_api_Edit (hl.ext E7)]
  refine LoopS.intro (fun us w8 => Ext w7 w8 ∧ ∃ i : Nat, us = [.int .i64 i] ∧ i ≤ es.length)
    (fun us _ => match us with | [.int _ a] => (es.length - a).toNat | _ => 0) ⟨Ext.refl w7, 0, rfl, Nat.zero_le _⟩ ?_
  rintro us vs w8 ⟨e8, i, rfl, hi⟩
  unfold S.bodkinlaw09_BatchUndoes_L2
  have E8 := E7.trans e8
  rw [Go.Lift.hd, sBin_lss, sIf_dec]
  refine ⟨fun hlt => ?_, fun _ => endAx hM E8⟩
  obtain ⟨x, hx⟩ : ∃ x, es[i]? = some x := ⟨_, List.getElem?_eq_getElem (by omega)⟩
  have hxc : (es.map clean)[i]? = some (clean x) := by rw [List.getElem?_map, hx]; rfl
  have hxf := hsh.fits x (List.mem_of_getElem? hx)
  have hxr := runes_len x.2.2
  obtain ⟨bb, of, hel, hcl⟩ := (hl.ext E8).el hx
  rw [sIdxA_sl S.tel_L_api_Edit S.tsz_api_Edit (by omega) (hl.ext E8) hx rfl, hel, sLoad_agg (cs := encE x) S.tagg_api_Edit hcl rfl]
  refine sVar (vs := encE x) S.tze_api_Edit S.tsz_api_Edit (by decide) rfl rfl (encE_one x) fun b16 w9 hb16 hs9 e9 hk16 => ?_
  have E9 := E8.trans e9
  have hn9 := (hn7.ext e8).ext e9
  obtain ⟨bc, oc, helc, hcc⟩ := hn9.el hxc
  refine DrawS.ext ?_
  have E : Ext w9 w9.drew := (Ext.refl w9).drew
  rw [stillS_eq (fun w1 h1 K => sIdxA_sl S.tel_L_api_Edit S.tsz_api_Edit (by omega) (hn9.ext h1) hxc rfl) E, helc, stillS_eq (fun w1 h1 K => sFldA_ptr S.tfl_api_Edit_From) E, stillS_cell (v := .int .i64 x.1) S.tcell_int (hcc.at 0 rfl) E, stillS_eq (fun w1 h1 K => sFldA_ptr S.tfl_api_Edit_From) E, stillS_cell (v := .int .i64 x.1) S.tcell_int (hk16.cells.at 0 rfl) E, stillS_eq (fun w1 h1 K => sBin_neq _ _) E, sIf_not]
  refine ⟨fun h => absurd rfl h, fun _ => ?_⟩
  rw [stillS_eq (fun w1 h1 K => sIdxA_sl S.tel_L_api_Edit S.tsz_api_Edit (by omega) (hn9.ext h1) hxc rfl) E, helc, stillS_eq (fun w1 h1 K => sFldA_ptr S.tfl_api_Edit_To) E, stillS_cell (v := .int .i64 x.2.1) S.tcell_int (hcc.at 1 rfl) E, stillS_eq (fun w1 h1 K => sFldA_ptr S.tfl_api_Edit_To) E, stillS_cell (v := .int .i64 x.2.1) S.tcell_int (hk16.cells.at 1 rfl) E, stillS_eq (fun w1 h1 K => sBin_neq _ _) E, sIf_not]
  refine ⟨fun h => absurd rfl h, fun _ => ?_⟩
  rw [stillS_eq (fun w1 h1 K => sIdxA_sl S.tel_L_api_Edit S.tsz_api_Edit (by omega) (hn9.ext h1) hxc rfl) E, helc, stillS_eq (fun w1 h1 K => sFldA_ptr S.tfl_api_Edit_Text) E, stillS_cell (v := tv (txt (runes x.2.2))) S.tcell_string (hcc.at 2 rfl) E, stillS_eq (fun w1 h1 K => sFldA_ptr S.tfl_api_Edit_Text) E, stillS_cell (v := tv x.2.2) S.tcell_string (hk16.cells.at 2 rfl) E]
  refine (ddecode_spec x.2.2 (by omega)).mono ?_
  rintro qv w10 ⟨e10, hqv⟩
  have f10 := E.trans e10
  refine ⟨f10, ?_⟩
  refine (dencode_spec (hqv.sl encRn_ok) (by omega)).mono ?_
  rintro u w11 ⟨e11, rfl⟩
  have f11 := f10.trans e11
  refine ⟨f11, ?_⟩
  rw [stillS_eq (fun w1 h1 K => sBin_strNe) f11, sIf_not]
  refine ⟨fun h => absurd rfl h, fun _ => ?_⟩
  rw [sBin_add _ _ ⟨by omega, by omega⟩]
  exact ⟨⟨(e8.trans e9).trans f11, i + 1, by simp, by omega⟩, by simp only []; omega⟩
theorem batchOnes_spec {w : World} (hM : Mo w) (s : List UInt8) {v : Value} {es : List Ed} (hl : Sl w v 3 encE es) : S.bodkinlaw09_BatchOnes (Yz w) (tv s) v w := by
  unfold S.bodkinlaw09_BatchOnes
  refine (lawlong_spec hl).mono ?_
  rintro u w0 ⟨e0, q, rfl, hq⟩
  rw [sIf_bool]
  refine ⟨fun _ => endAx hM e0, fun hq0 => ?_⟩
  have hsh := hq hq0
  have hs1 := hsh.s
  have hrl := runes_len s
  have hsT := hsh.tnr
  refine (rnew_get (hM.ext e0) (by omega)).mono ?_
  rintro u w1 ⟨e1, b, ps, rfl, hr, hp, _, hfl⟩
  rw [← hfl] at hrl
  rw [sExtract_0, sExtract_1]
  have E1 := e0.trans e1
  refine (bapply_spec (hM.ext E1) hr hp (hl.ext E1) hsh.fits).mono ?_
  rintro u w2 ⟨e2, hu⟩
  obtain ⟨t, g, rfl, hg, hu2⟩ : ∃ (t : Option Addr) (g : Int), u = .tuple #[.pointer t, .int .i64 g] ∧ g = wrg ps.flatten.length es ∧ ((t = none ∧ g ≠ 0) ∨ (g = 0 ∧ ∃ (bv : Nat) (ps' : List (List Int)), t = some ⟨bv, 0, none⟩ ∧ Rp w2 (.pointer (some ⟨bv, 0, none⟩)) ps' ∧ RpOk ps' ∧ ps'.flatten = app ps.flatten es)) := by
    rcases hu with ⟨h, rfl⟩ | ⟨h, bv, ps', rfl, h3⟩
    · exact ⟨none, _, rfl, rfl, .inl ⟨rfl, h⟩⟩
    · exact ⟨_, 0, rfl, h.symm, .inr ⟨rfl, bv, ps', rfl, h3⟩⟩
  clear hu
  have E2 := E1.trans e2
  rw [sExtract_0, sExtract_1]
  refine JoinS.intro (fun us w' => w' = w2 ∧ ∃ qb : Bool, us = [.bool qb] ∧ (qb = true ↔ ¬ g = 0)) ?_ ?_
  · rw [sBin_neq, sIf_not]
    refine ⟨fun h => absurd rfl h, fun _ => ?_⟩
    rw [sBin_ptr_eq S.tpt_P_rope_Rope, Option.isNone_some, sIf_false, sBin_neq]
    exact ⟨rfl, _, rfl, by simp⟩
  rintro us vs w2 ⟨rfl, qb, rfl, hqb⟩
  unfold S.bodkinlaw09_BatchOnes_J1
  rw [Go.Lift.hd, sIf_bool]
  refine ⟨fun hT => ?_, fun hF => ?_⟩
  · rw [sBin_eql, sIf_dec]
    refine ⟨fun _ => ?_, fun h => absurd rfl h⟩
    rw [sBin_ptr_ne S.tpt_P_rope_Rope, Option.isSome_some, sIf_true]
    exact endAx hM E2
  have hg0 : g = 0 := by
    rcases Decidable.em (g = 0) with h1 | h1
    · exact h1
    · rw [hqb.2 h1] at hF; cases hF
  rcases hu2 with ⟨_, h⟩ | ⟨_, bv, ps', rfl, hr', hp', hfl'⟩
  · exact absurd hg0 h
  have hwz := hg.symm.trans hg0
  obtain ⟨⟨h64, hv⟩, hfull⟩ := wrg_zero.1 hwz
  rw [sLen_sl S.tel_L_api_Edit (hl.ext E2), sBin_sub _ _ ⟨by omega, by omega⟩]
  refine LoopS.intro (fun us w3 => Ext w2 w3 ∧ ∃ (k b : Nat) (pu : List (List Int)), us = [.pointer (some ⟨b, 0, none⟩), .int .i64 ((k : Int) - 1)] ∧ k ≤ es.length ∧ Rp w3 (.pointer (some ⟨b, 0, none⟩)) pu ∧ RpOk pu ∧ pu.flatten = app ps.flatten (es.drop k))
    (fun us _ => match us with | [_, .int _ a] => (a + 1).toNat | _ => 0) ⟨Ext.refl w2, es.length, b, ps, rfl, Nat.le_refl _, hr.ext e2, hp, by rw [List.drop_length]; rfl⟩ ?_
  rintro us vs w3 ⟨e3, k, bu, pu, rfl, hk, hru, hpu, hflu⟩
  unfold S.bodkinlaw09_BatchOnes_L2
  have E3 := E2.trans e3
  rw [Go.Lift.hd, Go.Lift.tl, Go.Lift.hd, sBin_geq, sIf_dec]
  refine ⟨fun hge => ?_, fun hlt => ?_⟩
  · obtain ⟨i, rfl⟩ : ∃ i, k = i + 1 := ⟨k - 1, by omega⟩
    have hi : ((i + 1 : Nat) : Int) - 1 = i := by omega
    obtain ⟨x, hx⟩ : ∃ x, es[i]? = some x := ⟨_, List.getElem?_eq_getElem (by omega)⟩
    have hxm := List.mem_of_getElem? hx
    obtain ⟨bb, of, hel, hcl⟩ := (hl.ext E3).el hx
    obtain ⟨hx1, hvd⟩ := hv.drop hx
    have hto : (x.2.1.toNat : Int) = x.2.1 := by omega
    have hvd' : Val ps.flatten.length (x.2.1.toNat : Nat) (es.drop (i + 1)) := by rw [hto]; exact hvd
    have hat := app_at hvd' (by omega)
    have hal := app_len (hvd.mono (show (0 : Int) ≤ x.2.1 by omega))
    have hsd := siz_le (hvd.mono (show (0 : Int) ≤ x.2.1 by omega))
    have htd := tnr_drop es (i + 1)
    have hxt := tnr_mem hxm
    have hd : dlt x = nr x - (x.2.1 - x.1) := rfl
    have hwx : wrg pu.flatten.length [x] = 0 := wrg_zero.2 ⟨⟨by simp, ⟨⟨hx1.1, hx1.2.1, by rw [hflu]; omega⟩, hx1.1, trivial⟩⟩, by rw [siz_cons, siz_nil, hflu]; omega⟩
    have hfx : Fits [x] := fun y hy => by
      simp only [List.mem_singleton] at hy
      subst hy
      exact hsh.fits y hxm
    rw [hi, sIdxA_sl S.tel_L_api_Edit S.tsz_api_Edit (by omega) (hl.ext E3) hx rfl, hel, sLoad_agg (cs := encE x) S.tagg_api_Edit hcl rfl]
    refine sBuildSlice_own (n := 1) (enc := encE) (xs := [x]) (lp := [(0, encE x)]) S.tel_L_api_Edit S.tsz_api_Edit rfl S.tze_api_Edit (by decide) (by decide) encE_ok rfl rfl fun t w4 ht ho4 e4 hs4 => ?_
    have E4 := E3.trans e4
    refine (bapply_spec (hM.ext E4) (hru.ext e4) hpu (ho4.sl encE_ok) hfx).mono ?_
    rintro u w5 ⟨e5, hu⟩
    rcases hu with ⟨h, _⟩ | ⟨_, bx, px, rfl, hrx, hpx, hflx⟩
    · exact absurd hwx h
    rw [sExtract_0, sExtract_1, sBin_neq, sIf_not]
    refine ⟨fun h => absurd rfl h, fun _ => ?_⟩
    rw [sBin_ptr_eq S.tpt_P_rope_Rope, Option.isNone_some, sIf_false, sBin_sub _ _ ⟨by omega, by omega⟩]
    refine ⟨⟨(e3.trans e4).trans e5, i, bx, px, rfl, by omega, hrx, hpx, ?_⟩, by simp only []; omega⟩
    rw [hflx, hflu, drop_cons_of hx]
    rfl
  · obtain rfl : k = 0 := by omega
    rw [List.drop_zero] at hflu
    refine (rtext_spec hru hpu).mono ?_
    rintro u w4 ⟨e4, rfl⟩
    refine (rtext_spec ((hr'.ext e3).ext e4) hp').mono ?_
    rintro u w5 ⟨e5, rfl⟩
    rw [hflu, hfl', sBin_strEq, sIf_dec]
    exact ⟨fun _ => endAx hM ((E3.trans e4).trans e5), fun h => absurd rfl h⟩
theorem batchNil_spec {w : World} (hM : Mo w) {v : Value} {es : List Ed} (hl : Sl w v 3 encE es) : S.bodkinlaw09_BatchNil (Yz w) v w := by
  unfold S.bodkinlaw09_BatchNil
  refine (lawlong_spec (s := []) hl).mono ?_
  rintro u w0 ⟨e0, q, rfl, hq⟩
  rw [sIf_bool]
  refine ⟨fun _ => endAx hM e0, fun hq0 => ?_⟩
  have hsh := hq hq0
  have hsT := hsh.tnr
  have hp : RpOk [] := ⟨fun p hp => by simp at hp, by simp⟩
  refine (bapply_spec (ps := []) (hM.ext e0) (.inl ⟨rfl, rfl⟩) hp (hl.ext e0) hsh.fits).mono ?_
  rintro u w1 ⟨e1, hu⟩
  obtain ⟨t, g, rfl, hg, hu2⟩ : ∃ (t : Option Addr) (g : Int), u = .tuple #[.pointer t, .int .i64 g] ∧ g = wrg 0 es ∧ ((t = none ∧ g ≠ 0) ∨ (g = 0 ∧ ∃ (bv : Nat) (ps' : List (List Int)), t = some ⟨bv, 0, none⟩ ∧ Rp w1 (.pointer (some ⟨bv, 0, none⟩)) ps' ∧ RpOk ps' ∧ ps'.flatten = app [] es)) := by
    rcases hu with ⟨h, rfl⟩ | ⟨h, bv, ps', rfl, h3⟩
    · exact ⟨none, _, rfl, rfl, .inl ⟨rfl, h⟩⟩
    · exact ⟨_, 0, rfl, h.symm, .inr ⟨rfl, bv, ps', rfl, h3⟩⟩
  clear hu
  have E1 := e0.trans e1
  rw [sExtract_0, sExtract_1]
  refine (dapply9_spec (r := []) (Sl.nil w1 1 encRn) (by simp) (hl.ext E1) hsh.fits (by omega)).mono ?_
  rintro u w2 ⟨e2, hu⟩
  obtain ⟨nv, rfl, hn2⟩ : ∃ nv : Value, u = .tuple #[nv, .int .i64 g] ∧ (g = 0 → Sl w2 nv 1 encRn (app [] es)) := by
    rcases hu with ⟨h, rfl⟩ | ⟨h, nv, rfl, h3⟩
    · exact ⟨_, by rw [hg]; rfl, fun h2 => absurd (by rw [← hg]; exact h2 : wrg 0 es = 0) h⟩
    · exact ⟨nv, by rw [hg]; rw [show wrg 0 es = 0 from h], fun _ => h3⟩
  clear hu
  have E2 := E1.trans e2
  rw [sExtract_0, sExtract_1, sBin_eql, sIf_dec]
  refine ⟨fun _ => ?_, fun h => absurd rfl h⟩
  have hcond : t = none ↔ ¬ g = 0 := by
    rcases hu2 with ⟨rfl, h⟩ | ⟨rfl, bv, ps', rfl, _⟩
    · simp [h]
    · simp
  rw [sBin_ptr_eq S.tpt_P_rope_Rope, sBin_neq, sBin_boolEq (by kernel_rfl), ne_bool hcond, sIf_true, sBin_neq, sIf_not]
  refine ⟨fun _ => endAx hM E2, fun hg0 => ?_⟩
  rcases hu2 with ⟨_, h⟩ | ⟨_, bv, ps', rfl, hr', hp', hfl'⟩
  · exact absurd hg0 h
  have hwz : wrg 0 es = 0 := hg.symm.trans hg0
  obtain ⟨⟨h64, hv⟩, hfull⟩ := wrg_zero.1 hwz
  have hal := app_len (r := []) hv
  rw [List.length_nil] at hal
  refine (rtext_spec (hr'.ext e2) hp').mono ?_
  rintro u w3 ⟨e3, rfl⟩
  refine (dencode_spec ((hn2 hg0).ext e3) (by omega)).mono ?_
  rintro u w4 ⟨e4, rfl⟩
  rw [hfl', sBin_strEq, sIf_dec]
  exact ⟨fun _ => endAx hM ((E2.trans e3).trans e4), fun h => absurd rfl h⟩
end Go.Proofs.YtpjmmhbdondknaaDoor

/- The law's helpers for ropes: right ropes of a text, the case that each law asks. Conditions: the table of sizes in memory; right pieces. The rope laws: new ropes, slices, places and bytes, breaks. Conditions: the table of sizes in memory. The rope laws: long texts, nil ropes, steps. Conditions: the table of sizes in memory. -/
import Derived.Test.YtjolodlmnffkeaaDoorE5
import Derived.Test.YtjolodlmnffkeaaDoorPn
namespace Go.Proofs.YtjolodlmnffkeaaDoor
open Go Go.Lift Go.RowKit Go.Txt

theorem Bg.big {ps : List (List Int)} (h : Bg ps) (h8 : 8 ≤ ps.flatten.length) : ∀ p ∈ ps, 8 ≤ p.length := by
  rcases h with h | h
  · intro p hp
    match ps, h with
    | [], _ => cases hp
    | [q], _ =>
      simp only [List.mem_singleton] at hp
      subst hp
      simpa using h8
  · exact h
theorem lawis_spec {w : World} {v a : Value} {ps : List (List Int)} {b : Nat} (hv : v = .pointer (some ⟨b, 0, none⟩)) (h : Rp w v ps) (hp : RpOk ps) (hb : Bg ps) (hl : Sl w a 1 encRn ps.flatten) : sCall Tryd.prog S.bodkinlaw07_is.n [v, a] w fun u w' => Ext w w' ∧ u = .bool true := by
  refine S.bodkinlaw07_is.call ?_
  unfold S.bodkinlaw07_is
  have hle := hp.le
  have hpn := hp.n
  have htf := txt_len ps.flatten
  refine (dencode_spec hl (by omega)).mono ?_
  rintro x w1 ⟨e1, rfl⟩
  rw [sLen_sl S.tel_L_int32 (hl.ext e1)]
  refine (dahead_spec (a := ps.flatten.length) (hl.ext e1) (by omega)).mono ?_
  rintro y w2 ⟨e2, hy⟩
  have E2 := e1.trans e2
  rcases hy with ⟨hn, _⟩ | ⟨_, rfl⟩
  · exact absurd ⟨by omega, by omega⟩ hn
  rw [sExtract_0, sExtract_1]
  rw [Int.toNat_natCast, List.take_length]
  subst hv
  rw [sBin_ptr_eq S.tpt_P_rope_Rope, Option.isNone_some, sIf_false]
  refine (rtext_spec (h.ext E2) hp).mono ?_
  rintro x w3 ⟨e3, rfl⟩
  have E3 := E2.trans e3
  rw [sBin_strNe, sIf_not]
  refine ⟨fun h => absurd rfl h, fun _ => ?_⟩
  refine (rbytes_spec (h.ext E3) hp).mono ?_
  rintro x w4 ⟨e4, rfl⟩
  have E4 := E3.trans e4
  rw [sLen_str tstr, sBin_neq, sIf_not]
  refine ⟨fun h => absurd rfl h, fun _ => ?_⟩
  refine (rrunes_spec (h.ext E4) hp).mono ?_
  rintro x w5 ⟨e5, rfl⟩
  have E5 := E4.trans e5
  rw [sLen_sl S.tel_L_int32 (hl.ext E5), sBin_neq, sIf_not]
  refine ⟨fun h => absurd rfl h, fun _ => ?_⟩
  refine (rbreaks_spec (h.ext E5) hp).mono ?_
  rintro x w6 ⟨e6, rfl⟩
  have E6 := E5.trans e6
  rw [sBin_neq, sIf_not]
  refine ⟨fun h => absurd rfl h, fun _ => ?_⟩
  refine (rpieces_spec (h.ext E6) hp).mono ?_
  rintro q w7 ⟨e7, hq⟩
  have E7 := E6.trans e7
  rw [sLen_sl S.tel_L_string hq, List.length_map]
  refine LoopS.intro (fun us w8 => Ext w7 w8 ∧ ∃ i : Nat, us = [tv (txt (ps.take i).flatten), .int .i64 i] ∧ i ≤ ps.length)
    (fun us _ => match us with | [_, .int _ a] => (ps.length - a).toNat | _ => 0) ⟨Ext.refl w7, 0, rfl, Nat.zero_le _⟩ ?_
  rintro us vs w8 ⟨e8, i, rfl, hi⟩
  unfold S.bodkinlaw07_is_L1
  have E8 := E7.trans e8
  rw [Go.Lift.hd, Go.Lift.tl, Go.Lift.hd, sBin_lss, sIf_dec]
  refine ⟨fun hlt => ?_, fun hge => ?_⟩
  · obtain ⟨p, hpi⟩ : ∃ p, ps[i]? = some p := ⟨_, List.getElem?_eq_getElem (by omega)⟩
    have hpm := List.mem_of_getElem? hpi
    have hpo := hp.ok p hpm
    have hx : (ps.map txt)[i]? = some (txt p) := by rw [List.getElem?_map, hpi]; rfl
    have hq8 := hq.ext e8
    obtain ⟨bb, of, hel, hc⟩ := hq8.el hx
    have h1 := hpo.pos
    have h16 := hpo.le
    have htp := txt_len p
    rw [sIdxA_sl S.tel_L_string S.tsz_string (by omega) hq8 hx rfl, hel, sLoad_cell (v := tv (txt p)) S.tcell_string (hc.fst rfl)]
    refine (ddecode_spec (txt p) (by omega)).mono ?_
    rintro y w9 ⟨e9, hy⟩
    have E9 := E8.trans e9
    rw [runes_of hpo.ok] at hy
    have hpre : (txt (ps.take i).flatten).length ≤ 80000 := (pre_le hp hi).2.1
    have hnext : ps.take (i + 1) = ps.take i ++ [p] := take_succ_of hpi
    rw [sLen_sl S.tel_L_int32 (hy.sl encRn_ok)]
    refine JoinS.dup ?_
    have hJ : ∀ {w' : World}, Ext w7 w' → S.bodkinlaw07_is_J2 (fun us w' => (Ext w7 w' ∧ ∃ j : Nat, us = [tv (txt (ps.take j).flatten), .int .i64 j] ∧ j ≤ ps.length) ∧
        (match us with | [_, .int _ a] => (ps.length - a).toNat | _ => 0) < (match [tv (txt (ps.take i).flatten), Value.int .i64 i] with | [_, .int _ a] => (ps.length - a).toNat | _ => 0)) (tv (txt (ps.take i).flatten)) (.int .i64 i) (tv (txt p)) w' := by
      intro w' e'
      unfold S.bodkinlaw07_is_J2
      rw [sBin_strAdd (by omega), sBin_add _ _ ⟨by omega, by omega⟩]
      refine ⟨⟨e', i + 1, ?_, by omega⟩, by simp only []; omega⟩
      rw [hnext, List.flatten_append, txt_append]
      simp
    rw [sBin_lss, sIf_dec]
    refine ⟨fun h => by omega, fun _ => ?_⟩
    rw [sBin_gtr, sIf_dec]
    refine ⟨fun h => by omega, fun _ => ?_⟩
    rw [sBin_lss, sIf_dec]
    refine ⟨fun h8 => ?_, fun h8 vs => hJ (e8.trans e9)⟩
    rw [sLen_sl S.tel_L_int32 (hl.ext E9), sBin_geq, sIf_dec]
    refine ⟨fun h => ?_, fun _ vs => hJ (e8.trans e9)⟩
    have := hb.big (by omega) p hpm
    omega
  · obtain rfl : i = ps.length := by omega
    rw [List.take_length, sBin_strEq, sIf_dec]
    refine ⟨fun _ => ?_, fun h => absurd rfl h⟩
    refine (rheight_spec (h.ext E8) hp).mono ?_
    rintro y w9 ⟨rfl, H, rfl, h0, h2, h11⟩
    rw [sLen_sl S.tel_L_string (hq.ext e8), List.length_map]
    refine (high_spec h0 h2 h11 (by omega)).mono ?_
    rintro y w10 ⟨rfl, rfl⟩
    exact ⟨E8, rfl⟩
/-- A new rope of a text that is not too long is a right one. -/
theorem newOk {s : List UInt8} (h : (runes s).length ≤ 20000) : RpOk (pcs (runes s)) := ⟨pcs_ok (runes_ok s), by rw [pcs_join]; exact h⟩
theorem rnew_ok {w : World} {s : List UInt8} (hM : Mo w) (hs : s.length ≤ 20000) : sCall Tryd.prog S.rope_New.n [tv s] w fun u w' => Ext w w' ∧ ∃ b, u = .tuple #[.pointer (some ⟨b, 0, none⟩), .int .i64 0] ∧ Rp w' (.pointer (some ⟨b, 0, none⟩)) (pcs (runes s)) ∧ RpOk (pcs (runes s)) := by
  have hr := runes_len s
  refine (rnew_spec hM (by omega)).mono ?_
  rintro u w' ⟨e, hu⟩
  rcases hu with ⟨h, _⟩ | ⟨h, b, rfl, hb⟩
  · omega
  · exact ⟨e, b, rfl, hb, newOk h⟩
theorem wide_runes : runes [97, 228, 184, 128, 98] = [97, 19968, 98] := by
  have : txt [97, 19968, 98] = [97, 228, 184, 128, 98] := by decide +kernel
  rw [← this]
  exact runes_of (by decide)
theorem xy_runes : runes [120, 121] = [120, 121] := by
  have : txt [120, 121] = [120, 121] := by decide +kernel
  rw [← this]
  exact runes_of (by decide)
theorem RunAt.det {l : List Int} {a m e m' e' : Int} (h : RunAt l a m e) (h' : RunAt l a m' e') : m = m' ∧ e = e' := by
  have hmono : ∀ {i j : Nat}, i ≤ l.length → j ≤ l.length → (txt (l.take i)).length = (txt (l.take j)).length → i = j := by
    have key : ∀ {i j : Nat}, i < j → j ≤ l.length → (txt (l.take i)).length < (txt (l.take j)).length := by
      intro i j hij hj
      have h1 := txt_mono l (show i + 1 ≤ j by omega)
      obtain ⟨r, hr⟩ : ∃ r, l[i]? = some r := ⟨_, List.getElem?_eq_getElem (by omega)⟩
      rw [take_succ_of hr, txt_append, List.length_append] at h1
      have := (enc_len r).1
      unfold sz at this
      rw [txt_cons, txt_nil, List.append_nil] at h1
      omega
    intro i j hi hj he
    rcases Nat.lt_trichotomy i j with h | h | h
    · have := key h hj; omega
    · exact h
    · have := key h hi; omega
  rcases h with ⟨k, hk, rfl, rfl, rfl⟩ | ⟨h0, h1, h2, rfl, rfl⟩ | ⟨h0, rfl, rfl⟩
  · rcases h' with ⟨k', hk', he, rfl, rfl⟩ | ⟨_, _, h2, _, _⟩ | ⟨h0, _, _⟩
    · have := hmono hk hk' (by omega)
      subst this
      exact ⟨rfl, rfl⟩
    · exact absurd rfl (h2 k hk)
    · have := txt_mono l (show k ≤ l.length from hk)
      rw [List.take_length] at this
      exact absurd ⟨by omega, by omega⟩ h0
  · rcases h' with ⟨k', hk', he, rfl, rfl⟩ | ⟨_, _, _, rfl, rfl⟩ | ⟨h3, _, _⟩
    · exact absurd he (h2 k' hk')
    · exact ⟨rfl, rfl⟩
    · exact absurd ⟨h0, h1⟩ h3
  · rcases h' with ⟨k', hk', he, rfl, rfl⟩ | ⟨h1, h2, _, _, _⟩ | ⟨_, rfl, rfl⟩
    · have := txt_mono l (show k' ≤ l.length from hk')
      rw [List.take_length] at this
      exact absurd ⟨by omega, by omega⟩ h0
    · exact absurd ⟨h1, h2⟩ h0
    · exact ⟨rfl, rfl⟩
theorem lawwide_spec {w : World} (hM : Mo w) : sCall Tryd.prog S.bodkinlaw07_wide.n [] w fun u w' => Ext w w' ∧ u = .bool true := by
  refine S.bodkinlaw07_wide.call ?_
  unfold S.bodkinlaw07_wide
  refine (rnew_ok (s := [97, 228, 184, 128, 98]) hM (by decide)).mono ?_
  rintro u w1 ⟨e1, b, rfl, hr, hp⟩
  have hfl : (pcs (runes [97, 228, 184, 128, 98])).flatten = [97, 19968, 98] := by rw [pcs_join, wide_runes]
  rw [sExtract_0, sExtract_1]
  refine (rruneat_spec (at_ := 4) hr hp).mono ?_
  rintro u w2 ⟨e2, m, e, hma, rfl⟩
  rw [hfl] at hma
  obtain ⟨rfl, rfl⟩ := hma.det (.inl ⟨2, by decide, by decide +kernel, rfl, rfl⟩ : RunAt [97, 19968, 98] 4 2 0)
  rw [sExtract_0, sExtract_1]
  refine (rruneat_spec (at_ := 2) (hr.ext e2) hp).mono ?_
  rintro u w3 ⟨e3, m, e, hma, rfl⟩
  rw [hfl] at hma
  obtain ⟨rfl, rfl⟩ := hma.det (.inr (.inl ⟨by decide, by decide +kernel, fun k hk => by
    have hk : k ≤ 3 := hk
    rcases (by omega : k = 0 ∨ k = 1 ∨ k = 2 ∨ k = 3) with rfl | rfl | rfl | rfl <;> decide +kernel, rfl, rfl⟩) : RunAt [97, 19968, 98] 2 0 70)
  have E3 := e2.trans e3
  rw [sExtract_0, sExtract_1]
  refine (rreplace_spec' (a := 1) (b := 2) (s := [120, 121]) ((hM.ext e1).ext E3) (hr.ext E3) hp (by decide)).mono ?_
  rintro u w4 ⟨e4, hu⟩
  have E4 := E3.trans e4
  rw [xy_runes, hfl] at hu
  rcases hu with ⟨hn, _⟩ | ⟨_, h, _⟩ | ⟨_, _, bv, ps', rfl, hr', hok, hfl', _⟩
  · exact absurd (by decide) hn
  · exact absurd h (by decide)
  rw [hfl] at hfl'
  rw [sExtract_0, sExtract_1, sBin_eql, sIf_dec]
  refine ⟨fun _ => ?_, fun h => absurd rfl h⟩
  rw [sBin_eql, sIf_dec]
  refine ⟨fun _ => ?_, fun h => absurd rfl h⟩
  rw [sBin_eql, sIf_dec]
  refine ⟨fun _ => ?_, fun h => absurd rfl h⟩
  rw [sBin_eql, sIf_dec]
  refine ⟨fun _ => ?_, fun h => absurd rfl h⟩
  rw [sBin_eql, sIf_dec]
  refine ⟨fun _ => ?_, fun h => absurd rfl h⟩
  refine (rtext_spec hr' hok).mono ?_
  rintro u w5 ⟨e5, rfl⟩
  have ht : txt ps'.flatten = [97, 120, 121, 98] := by rw [hfl']; decide +kernel
  rw [ht, sBin_strEq, sIf_dec]
  refine ⟨fun _ => ?_, fun h => absurd rfl h⟩
  have E5 := E4.trans e5
  refine (rrunes_spec (hr.ext E5) hp).mono ?_
  rintro u w6 ⟨e6, rfl⟩
  rw [hfl, sBin_eql, sIf_dec]
  refine ⟨fun _ => ?_, fun h => absurd rfl h⟩
  refine (rbytes_spec (hr.ext (E5.trans e6)) hp).mono ?_
  rintro u w7 ⟨e7, rfl⟩
  have ht : (txt (pcs (runes [97, 228, 184, 128, 98])).flatten).length = 5 := by rw [hfl]; decide +kernel
  rw [ht, sBin_eql]
  exact ⟨((e1.trans E5).trans e6).trans e7, rfl⟩
end Go.Proofs.YtjolodlmnffkeaaDoor
namespace Go.Proofs.YtjolodlmnffkeaaDoor
open Go Go.Lift Go.RowKit Go.Txt

theorem txt_lt (l : List Int) {i j : Nat} (hij : i < j) (hj : j ≤ l.length) : (txt (l.take i)).length < (txt (l.take j)).length := by
  have h1 := txt_mono l (show i + 1 ≤ j by omega)
  obtain ⟨r, hr⟩ : ∃ r, l[i]? = some r := ⟨_, List.getElem?_eq_getElem (by omega)⟩
  rw [take_succ_of hr, txt_append, List.length_append] at h1
  have := (enc_len r).1
  unfold sz at this
  rw [txt_cons, txt_nil, List.append_nil] at h1
  omega
theorem druneat_spec {w : World} {v : Value} {l : List Int} {a : Int} (hl : Sl w v 1 encRn l) (hn : l.length ≤ 1000000) : sCall Tryd.prog S.bodkinref07_RuneAt.n [v, .int .i64 a] w fun u w' => Ext w w' ∧ ∃ m e : Int, RunAt l a m e ∧ u = .tuple #[.int .i64 m, .int .i64 e] := by
  refine S.bodkinref07_RuneAt.call ?_
  unfold S.bodkinref07_RuneAt
  refine JoinS.intro (fun us w' => w' = w ∧ ∃ n : Nat, us = [.int .i64 n] ∧ ((n : Int) = a → n = (txt l).length) ∧ ((n : Int) ≠ a → ¬ (0 ≤ a ∧ a ≤ (txt l).length))) ?_ ?_
  · rw [sLen_sl S.tel_L_int32 hl]
    refine LoopS.intro (fun us w1 => w1 = w ∧ ∃ i : Nat, us = [.int .i64 (txt (l.take i)).length, .int .i64 i] ∧ i ≤ l.length ∧ ((a < 0 ∧ i = 0) ∨ (0 ≤ a ∧ ((txt (l.take i)).length : Int) ≤ a)))
      (fun us _ => match us with | [_, .int _ a] => (l.length - a).toNat | _ => 0) ⟨rfl, 0, rfl, Nat.zero_le _, by
        rcases Int.lt_or_le a 0 with h | h
        · exact .inl ⟨h, rfl⟩
        · exact .inr ⟨h, h⟩⟩ ?_
    rintro us vs w1 ⟨rfl, i, rfl, hi, hinv⟩
    unfold S.bodkinref07_RuneAt_L2
    have htl := txt_len (l.take i)
    rw [List.length_take] at htl
    rw [Go.Lift.hd, Go.Lift.tl, Go.Lift.hd, sBin_lss, sIf_dec]
    refine ⟨fun hlt => ?_, fun hge => ?_⟩
    · obtain ⟨r, hr⟩ : ∃ r, l[i]? = some r := ⟨_, List.getElem?_eq_getElem (by omega)⟩
      obtain ⟨b, of, hel, hc⟩ := hl.el hr
      have h4 := enc_len r
      have et : (txt (l.take (i + 1))).length = (txt (l.take i)).length + sz r := by rw [take_succ_of hr, txt_append, List.length_append, txt_cons, txt_nil, List.append_nil]; rfl
      rw [sIdxA_sl S.tel_L_int32 S.tsz_int32 (by omega) hl hr rfl, hel, sLoad_cell (v := .int .i32 r) S.tcell_int32 (hc.fst rfl), sBin_eql, sIf_dec]
      refine ⟨fun heq => ⟨Ext.refl _, _, 0, .inl ⟨i, by omega, heq.symm, rfl, rfl⟩, rfl⟩, fun hne => ?_⟩
      rw [sBin_gtr, sIf_dec]
      refine ⟨fun hgt => ⟨rfl, _, rfl, fun h => absurd h hne, fun _ h => by omega⟩, fun hngt => ?_⟩
      refine (dSize_spec r).mono ?_
      rintro u w2 ⟨rfl, rfl⟩
      rw [sBin_add _ _ ⟨by omega, by omega⟩, sBin_gtr, sIf_dec]
      refine ⟨fun hgt2 => ?_, fun hngt2 => ?_⟩
      · rw [sBin_geq, sIf_dec]
        have hall := txt_mono l (show i + 1 ≤ l.length by omega)
        rw [List.take_length] at hall
        refine ⟨fun h0 => ⟨Ext.refl _, 0, 70, .inr (.inl ⟨h0, by omega, fun k hk => ?_, rfl, rfl⟩), rfl⟩, fun h0 => by omega⟩
        rcases Nat.lt_or_ge i k with h | h
        · have := txt_mono l (show i + 1 ≤ k by omega)
          omega
        · have := txt_mono l (show k ≤ i by omega)
          omega
      · rw [sBin_add _ _ ⟨by omega, by omega⟩]
        exact ⟨⟨rfl, i + 1, by rw [et]; simp, by omega, by omega⟩, by simp only []; omega⟩
    · obtain rfl : i = l.length := by omega
      rw [List.take_length] at hinv ⊢
      refine ⟨rfl, _, rfl, fun _ => rfl, fun hne h => ?_⟩
      omega
  · rintro us vs w1 ⟨rfl, n, rfl, h1, h2⟩
    unfold S.bodkinref07_RuneAt_J1
    rw [Go.Lift.hd, sBin_eql, sIf_dec]
    refine ⟨fun heq => ?_, fun hne => ⟨Ext.refl _, 0, 1, .inr (.inr ⟨h2 hne, rfl, rfl⟩), rfl⟩⟩
    rw [sLen_sl S.tel_L_int32 hl]
    have := h1 heq
    exact ⟨Ext.refl _, _, 0, .inl ⟨l.length, Nat.le_refl _, by rw [List.take_length]; omega, rfl, rfl⟩, rfl⟩

theorem ropeNew_spec {w : World} (hM : Mo w) (s : List UInt8) : S.bodkinlaw07_RopeNew (fun u w' => Ext w w' ∧ u = .bool true) (tv s) w := by
  unfold S.bodkinlaw07_RopeNew
  rw [sLen_str tstr, sBin_gtr, sIf_dec]
  refine ⟨fun _ => (lawwide_spec hM).mono fun u w' h => h, fun hs => ?_⟩
  refine (rnew_ok hM (by omega)).mono ?_
  rintro u w1 ⟨e1, b, rfl, hr, hp⟩
  rw [sExtract_0, sExtract_1, sBin_eql, sIf_dec]
  refine ⟨fun _ => ?_, fun h => absurd rfl h⟩
  refine (ddecode_spec s (by omega)).mono ?_
  rintro q w2 ⟨e2, hq⟩
  refine (lawis_spec rfl (hr.ext e2) hp (pcs_bg _) (by rw [pcs_join]; exact hq.sl encRn_ok)).mono ?_
  rintro u w3 ⟨e3, rfl⟩
  rw [sIf_true]
  exact (lawwide_spec (hM.ext ((e1.trans e2).trans e3))).mono fun u w' h => ⟨((e1.trans e2).trans e3).trans h.1, h.2⟩
theorem ropeBytes_spec {w : World} (hM : Mo w) (s : List UInt8) (a : Int) : S.bodkinlaw07_RopeBytes (fun u w' => Ext w w' ∧ u = .bool true) (tv s) (.int .i64 a) w := by
  unfold S.bodkinlaw07_RopeBytes
  rw [sLen_str tstr, sBin_gtr, sIf_dec]
  refine ⟨fun _ => (lawwide_spec hM).mono fun u w' h => h, fun hs => ?_⟩
  have hrl := runes_len s
  refine (rnew_ok hM (by omega)).mono ?_
  rintro u w1 ⟨e1, b, rfl, hr, hp⟩
  rw [sExtract_0, sExtract_1]
  refine (ddecode_spec s (by omega)).mono ?_
  rintro q w2 ⟨e2, hq⟩
  have E2 := e1.trans e2
  have hqs := hq.sl encRn_ok
  rw [sBin_neq, sIf_not]
  refine ⟨fun h => absurd rfl h, fun _ => ?_⟩
  rw [sBin_ptr_eq S.tpt_P_rope_Rope, Option.isNone_some, sIf_false]
  refine (rruneat_spec (at_ := a) (hr.ext e2) hp).mono ?_
  rintro u w3 ⟨e3, m, e, hm, rfl⟩
  rw [pcs_join] at hm
  rw [sExtract_0, sExtract_1]
  refine (druneat_spec (a := a) (hqs.ext e3) (by omega)).mono ?_
  rintro u w4 ⟨e4, m', e', hm', rfl⟩
  obtain ⟨rfl, rfl⟩ := hm.det hm'
  rw [sExtract_0, sExtract_1]
  have E4 := e3.trans e4
  refine (rbyteat_spec (at_ := a) ((hr.ext e2).ext E4) hp).mono ?_
  rintro u w5 ⟨e5, hu⟩
  rw [pcs_join] at hu
  have E5 := E4.trans e5
  obtain ⟨i, j, rfl, hij⟩ : ∃ i j : Int, u = .tuple #[.int .i64 i, .int .i64 j] ∧ ((¬ (0 ≤ a ∧ a ≤ (runes s).length) ∧ i = 0 ∧ j = 1) ∨ ((0 ≤ a ∧ a ≤ (runes s).length) ∧ i = (txt ((runes s).take a.toNat)).length ∧ j = 0)) := by
    rcases hu with ⟨h, rfl⟩ | ⟨h, rfl⟩
    · exact ⟨0, 1, rfl, .inl ⟨h, rfl, rfl⟩⟩
    · exact ⟨_, 0, rfl, .inr ⟨h, rfl, rfl⟩⟩
  rw [sExtract_0, sExtract_1]
  refine (dbyteat_spec (a := a) (hqs.ext E5) (by omega)).mono ?_
  rintro u w6 ⟨e6, hu⟩
  obtain ⟨rfl⟩ : u = .tuple #[.int .i64 i, .int .i64 j] := by
    rcases hu with ⟨h, rfl⟩ | ⟨h, rfl⟩
    · rcases hij with ⟨_, rfl, rfl⟩ | ⟨g, _⟩
      · rfl
      · exact absurd g h
    · rcases hij with ⟨g, _⟩ | ⟨_, rfl, rfl⟩
      · exact absurd h g
      · rfl
  rw [sExtract_0, sExtract_1, sBin_eql, sIf_dec]
  refine ⟨fun _ => ?_, fun h => absurd rfl h⟩
  rw [sBin_eql, sIf_dec]
  refine ⟨fun _ => ?_, fun h => absurd rfl h⟩
  rw [sBin_eql, sIf_dec]
  refine ⟨fun _ => ?_, fun h => absurd rfl h⟩
  rw [sBin_eql, sIf_dec]
  refine ⟨fun _ => ?_, fun h => absurd rfl h⟩
  have E6 := (E2.trans E5).trans e6
  exact (lawwide_spec (hM.ext E6)).mono fun u w' h => ⟨E6.trans h.1, h.2⟩
theorem ropeBreaks_spec {w : World} (hM : Mo w) (s : List UInt8) (a : Int) : S.bodkinlaw07_RopeBreaks (fun u w' => Ext w w' ∧ u = .bool true) (tv s) (.int .i64 a) w := by
  unfold S.bodkinlaw07_RopeBreaks
  rw [sLen_str tstr, sBin_gtr, sIf_dec]
  refine ⟨fun _ => (lawwide_spec hM).mono fun u w' h => h, fun hs => ?_⟩
  have hrl := runes_len s
  refine (rnew_ok hM (by omega)).mono ?_
  rintro u w1 ⟨e1, b, rfl, hr, hp⟩
  rw [sExtract_0, sExtract_1]
  refine (ddecode_spec s (by omega)).mono ?_
  rintro q w2 ⟨e2, hq⟩
  have E2 := e1.trans e2
  have hqs := hq.sl encRn_ok
  rw [sBin_neq, sIf_not]
  refine ⟨fun h => absurd rfl h, fun _ => ?_⟩
  rw [sBin_ptr_eq S.tpt_P_rope_Rope, Option.isNone_some, sIf_false]
  refine (rbehind_spec (k := a) (hr.ext e2) hp).mono ?_
  rintro u w3 ⟨e3, m, e, hm, rfl⟩
  rw [pcs_join] at hm
  rw [sExtract_0, sExtract_1]
  refine (dbehind_spec (k := a) (hqs.ext e3) (by omega)).mono ?_
  rintro u w4 ⟨e4, m', e', hm', rfl⟩
  obtain ⟨rfl, rfl⟩ := hm.det hm'
  rw [sExtract_0, sExtract_1]
  have E4 := e3.trans e4
  refine (rahead_spec (at_ := a) ((hr.ext e2).ext E4) hp).mono ?_
  rintro u w5 ⟨e5, hu⟩
  rw [pcs_join] at hu
  have E5 := E4.trans e5
  obtain ⟨i, j, rfl, hij⟩ : ∃ i j : Int, u = .tuple #[.int .i64 i, .int .i64 j] ∧ ((¬ (0 ≤ a ∧ a ≤ (runes s).length) ∧ i = 0 ∧ j = 1) ∨ ((0 ≤ a ∧ a ≤ (runes s).length) ∧ i = nls ((runes s).take a.toNat) ∧ j = 0)) := by
    rcases hu with ⟨h, rfl⟩ | ⟨h, rfl⟩
    · exact ⟨0, 1, rfl, .inl ⟨h, rfl, rfl⟩⟩
    · exact ⟨_, 0, rfl, .inr ⟨h, rfl, rfl⟩⟩
  rw [sExtract_0, sExtract_1]
  refine (dahead_spec (a := a) (hqs.ext E5) (by omega)).mono ?_
  rintro u w6 ⟨e6, hu⟩
  obtain ⟨rfl⟩ : u = .tuple #[.int .i64 i, .int .i64 j] := by
    rcases hu with ⟨h, rfl⟩ | ⟨h, rfl⟩
    · rcases hij with ⟨_, rfl, rfl⟩ | ⟨g, _⟩
      · rfl
      · exact absurd g h
    · rcases hij with ⟨g, _⟩ | ⟨_, rfl, rfl⟩
      · exact absurd h g
      · rfl
  rw [sExtract_0, sExtract_1, sBin_eql, sIf_dec]
  refine ⟨fun _ => ?_, fun h => absurd rfl h⟩
  rw [sBin_eql, sIf_dec]
  refine ⟨fun _ => ?_, fun h => absurd rfl h⟩
  rw [sBin_eql, sIf_dec]
  refine ⟨fun _ => ?_, fun h => absurd rfl h⟩
  rw [sBin_eql, sIf_dec]
  refine ⟨fun _ => ?_, fun h => absurd rfl h⟩
  have E6 := (E2.trans E5).trans e6
  exact (lawwide_spec (hM.ext E6)).mono fun u w' h => ⟨E6.trans h.1, h.2⟩
theorem ropeThere_spec {w : World} (hM : Mo w) (s : List UInt8) : S.bodkinlaw07_RopeThere (fun u w' => Ext w w' ∧ u = .bool true) (tv s) w := by
  unfold S.bodkinlaw07_RopeThere
  rw [sLen_str tstr, sBin_gtr, sIf_dec]
  refine ⟨fun _ => (lawwide_spec hM).mono fun u w' h => h, fun hs => ?_⟩
  have hrl := runes_len s
  refine (rnew_ok hM (by omega)).mono ?_
  rintro u w1 ⟨e1, b, rfl, hr, hp⟩
  rw [sExtract_0, sExtract_1, sBin_neq, sIf_not]
  refine ⟨fun h => absurd rfl h, fun _ => ?_⟩
  rw [sBin_ptr_eq S.tpt_P_rope_Rope, Option.isNone_some, sIf_false]
  have hpl := pcs_join (runes s)
  refine LoopS.intro (fun us w2 => Ext w1 w2 ∧ ∃ (i : Nat) (z : Int), us = [.int .i64 z, .int .i64 i] ∧ i ≤ (runes s).length + 1 ∧ ((i = 0 ∧ z = -1) ∨ ∃ j, i = j + 1 ∧ z = (txt ((runes s).take j)).length))
    (fun us _ => match us with | [_, .int _ a] => ((runes s).length + 1 - a).toNat | _ => 0) ⟨Ext.refl _, 0, -1, rfl, Nat.zero_le _, .inl ⟨rfl, rfl⟩⟩ ?_
  rintro us vs w2 ⟨e2, i, z, rfl, hi, hz⟩
  unfold S.bodkinlaw07_RopeThere_L1
  rw [Go.Lift.hd, Go.Lift.tl, Go.Lift.hd]
  refine (rrunes_spec (hr.ext e2) hp).mono ?_
  rintro u w3 ⟨e3, rfl⟩
  have E3 := e2.trans e3
  rw [hpl, sBin_leq, sIf_dec]
  refine ⟨fun hle => ?_, fun hgt => ?_⟩
  · refine (rbyteat_spec (at_ := i) (hr.ext E3) hp).mono ?_
    rintro u w4 ⟨e4, hu⟩
    rw [hpl] at hu
    rcases hu with ⟨h, _⟩ | ⟨h, rfl⟩
    · exact absurd ⟨by omega, hle⟩ h
    rw [Int.toNat_natCast, sExtract_0, sExtract_1]
    refine (rruneat_spec (at_ := (txt ((runes s).take i)).length) (hr.ext (E3.trans e4)) hp).mono ?_
    rintro u w5 ⟨e5, m, e, hm, rfl⟩
    rw [hpl] at hm
    obtain ⟨rfl, rfl⟩ := hm.det (.inl ⟨i, by omega, rfl, rfl, rfl⟩)
    rw [sExtract_0, sExtract_1, sBin_neq, sIf_not]
    refine ⟨fun h => absurd rfl h, fun _ => ?_⟩
    rw [sBin_neq, sIf_not]
    refine ⟨fun h => absurd rfl h, fun _ => ?_⟩
    rw [sBin_neq, sIf_not]
    refine ⟨fun h => absurd rfl h, fun _ => ?_⟩
    rw [sBin_leq, sIf_dec]
    refine ⟨fun h => ?_, fun _ => ?_⟩
    · exfalso
      rcases hz with ⟨rfl, rfl⟩ | ⟨j, rfl, rfl⟩
      · omega
      · have := txt_lt (runes s) (show j < j + 1 by omega) (by omega)
        omega
    · rw [sBin_add _ _ ⟨by omega, by omega⟩]
      exact ⟨⟨(E3.trans e4).trans e5, i + 1, _, by simp, by omega, .inr ⟨i, rfl, rfl⟩⟩, by simp only []; omega⟩
  · refine (rbytes_spec (hr.ext E3) hp).mono ?_
    rintro u w4 ⟨e4, rfl⟩
    rw [hpl, sBin_eql, sIf_dec]
    refine ⟨fun _ => ?_, fun h => ?_⟩
    · have E4 := (e1.trans E3).trans e4
      exact (lawwide_spec (hM.ext E4)).mono fun u w' h => ⟨E4.trans h.1, h.2⟩
    · exfalso
      rcases hz with ⟨rfl, rfl⟩ | ⟨j, rfl, rfl⟩
      · omega
      · obtain rfl : j = (runes s).length := by omega
        rw [List.take_length] at h
        exact h rfl
theorem ropeSlices_spec {w : World} (hM : Mo w) (s : List UInt8) (a b : Int) : S.bodkinlaw07_RopeSlices (fun u w' => Ext w w' ∧ u = .bool true) (tv s) (.int .i64 a) (.int .i64 b) w := by
  unfold S.bodkinlaw07_RopeSlices
  rw [sLen_str tstr, sBin_gtr, sIf_dec]
  refine ⟨fun _ => (lawwide_spec hM).mono fun u w' h => h, fun hs => ?_⟩
  have hrl := runes_len s
  refine (rnew_ok hM (by omega)).mono ?_
  rintro u w1 ⟨e1, bp, rfl, hr, hp⟩
  rw [sExtract_0, sExtract_1]
  refine (ddecode_spec s (by omega)).mono ?_
  rintro q w2 ⟨e2, hq⟩
  have E2 := e1.trans e2
  have hqs := hq.sl encRn_ok
  rw [sBin_neq, sIf_not]
  refine ⟨fun h => absurd rfl h, fun _ => ?_⟩
  rw [sBin_ptr_eq S.tpt_P_rope_Rope, Option.isNone_some, sIf_false]
  have hpl := pcs_join (runes s)
  refine (rslice_spec (a := a) (b := b) (hr.ext e2) hp).mono ?_
  rintro t w3 ⟨e3, ht⟩
  rw [hpl] at ht
  obtain ⟨tx, te, rfl, ht2⟩ : ∃ (tx : List UInt8) (te : Int), t = .tuple #[tv tx, .int .i64 te] ∧ ((¬ InT (runes s) a b ∧ tx = [] ∧ te = 1) ∨ (InT (runes s) a b ∧ tx = txt (((runes s).drop a.toNat).take (b.toNat - a.toNat)) ∧ te = 0)) := by
    rcases ht with ⟨h, rfl⟩ | ⟨h, rfl⟩
    · exact ⟨_, _, rfl, .inl ⟨h, rfl, rfl⟩⟩
    · exact ⟨_, _, rfl, .inr ⟨h, rfl, rfl⟩⟩
  rw [sExtract_0, sExtract_1]
  refine (rat_spec (at_ := a) ((hr.ext e2).ext e3) hp).mono ?_
  rintro u w4 ⟨e4, hu⟩
  rw [hpl] at hu
  have E4 := e3.trans e4
  have hqs4 := hqs.ext E4
  obtain ⟨c, g, rfl, hu2⟩ : ∃ (c g : Int), u = .tuple #[.int .i32 c, .int .i64 g] ∧ ((¬ (0 ≤ a ∧ a < (runes s).length) ∧ c = 0 ∧ g = 1) ∨ ((0 ≤ a ∧ a < (runes s).length) ∧ (runes s)[a.toNat]? = some c ∧ g = 0)) := by
    rcases hu with ⟨h, rfl⟩ | ⟨h, r, h2, rfl⟩
    · exact ⟨_, _, rfl, .inl ⟨h, rfl, rfl⟩⟩
    · exact ⟨_, _, rfl, .inr ⟨h, h2, rfl⟩⟩
  rw [sExtract_0, sExtract_1]
  refine JoinS.intro (fun us w' => w' = w4) ?_ ?_
  · refine JoinS.intro (fun us w' => w' = w4 ∧ ∃ q : Bool, us = [.bool q] ∧ (q = true ↔ ¬ (0 ≤ a ∧ a < (runes s).length))) ?_ ?_
    · rw [sBin_lss, sIf_dec]
      refine ⟨fun h => ⟨rfl, true, rfl, by simp only [true_iff]; omega⟩, fun h => ?_⟩
      rw [sLen_sl S.tel_L_int32 hqs4, sBin_geq]
      exact ⟨rfl, _, rfl, by rw [decide_eq_true_eq]; omega⟩
    · rintro us vs w5 ⟨rfl, q, rfl, hq⟩
      unfold S.bodkinlaw07_RopeSlices_J2
      rw [Go.Lift.hd, sIf_bool]
      refine ⟨fun h => ?_, fun h => ?_⟩
      · rcases hu2 with ⟨_, rfl, rfl⟩ | ⟨h2, _⟩
        · rw [sBin_neq, sIf_not]
          refine ⟨fun h => absurd rfl h, fun _ => ?_⟩
          rw [sBin_neq, sIf_not]
          exact ⟨fun h => absurd rfl h, fun _ => rfl⟩
        · exact absurd h2 (hq.1 h)
      · rcases hu2 with ⟨h2, _⟩ | ⟨h2, h3, rfl⟩
        · rw [hq.2 h2] at h; cases h
        · obtain ⟨bb, of, hel, hc⟩ := hqs4.el h3
          rw [sBin_neq, sIf_not]
          refine ⟨fun h => absurd rfl h, fun _ => ?_⟩
          rw [sIdxA_sl (z := a) S.tel_L_int32 S.tsz_int32 (by omega) hqs4 h3 (by omega), hel, sLoad_cell (v := .int .i32 c) S.tcell_int32 (hc.fst rfl), sBin_neq, sIf_not]
          exact ⟨fun h => absurd rfl h, fun _ => rfl⟩
  · rintro us vs w5 rfl
    unfold S.bodkinlaw07_RopeSlices_J1
    have E5 := E2.trans E4
    have hend := lawwide_spec (hM.ext E5)
    rw [sLen_sl S.tel_L_int32 hqs4]
    refine (dinside_spec _ _ _).mono ?_
    rintro u w6 ⟨rfl, qb, rfl, hqb⟩
    rw [sUn_not, sIf_bool]
    refine ⟨fun h => ?_, fun h => ?_⟩
    · rcases ht2 with ⟨_, rfl, rfl⟩ | ⟨h2, _⟩
      · rw [sBin_eql, sIf_dec]
        refine ⟨fun _ => ?_, fun h => absurd rfl h⟩
        rw [sBin_strEq, sIf_dec]
        exact ⟨fun _ => hend.mono fun u w' h => ⟨E5.trans h.1, h.2⟩, fun h => absurd rfl h⟩
      · rw [hqb.2 h2] at h; cases h
    · have hin : InT (runes s) a b := hqb.1 (by simpa using h)
      rcases ht2 with ⟨h2, _⟩ | ⟨_, rfl, rfl⟩
      · exact absurd hin h2
      obtain ⟨A, rfl⟩ : ∃ A : Nat, a = A := ⟨a.toNat, by have := hin.1; omega⟩
      obtain ⟨B, rfl⟩ : ∃ B : Nat, b = B := ⟨b.toNat, by have := hin.1; have := hin.2.1; omega⟩
      have h1 := hin.2.1
      have h2 := hin.2.2
      have hcap := sl_cap hqs4
      rw [sBin_eql, sIf_dec]
      refine ⟨fun _ => ?_, fun h => absurd rfl h⟩
      rw [sSlice_lh (lo := A) (hi := B) S.tel_L_int32 S.tsz_int32 (by omega) hqs4 rfl rfl (by omega) (by omega)]
      have p1 : Sl w6 (slV q 1 A B (capV q)) 1 encRn (((runes s).drop A).take (B - A)) := by
        have := hqs4.part (lo := A) (hi := B) (mx := capV q) (by omega) (by omega) (by omega) (Nat.le_refl _)
        rwa [List.drop_take] at this
      have hln : (((runes s).drop A).take (B - A)).length ≤ (runes s).length := by rw [List.length_take, List.length_drop]; omega
      refine (dencode_spec p1 (by omega)).mono ?_
      rintro u w7 ⟨e7, rfl⟩
      rw [Int.toNat_natCast, Int.toNat_natCast, sBin_strEq, sIf_dec]
      refine ⟨fun _ => ?_, fun h => absurd rfl h⟩
      exact (lawwide_spec ((hM.ext E5).ext e7)).mono fun u w' h => ⟨(E5.trans e7).trans h.1, h.2⟩
end Go.Proofs.YtjolodlmnffkeaaDoor
namespace Go.Proofs.YtjolodlmnffkeaaDoor
open Go Go.Lift Go.RowKit Go.Txt

theorem runes_as (m : Nat) : runes (List.replicate m 97) = List.replicate m 97 := by
  have h : txt (List.replicate m 97) = List.replicate m 97 := by
    induction m with
    | zero => rfl
    | succ m ih => rw [List.replicate_succ, txt_cons, ih, List.replicate_succ, show enc 97 = [97] by decide +kernel]; rfl
  rw [← h]
  exact runes_of fun r hr => by
    have := List.eq_of_mem_replicate hr
    subst this
    decide
theorem ropeLong_spec {w : World} (hM : Mo w) (n : Int) (s : List UInt8) : S.bodkinlaw07_RopeLong (fun u w' => Ext w w' ∧ u = .bool true) (.int .i64 n) (tv s) w := by
  unfold S.bodkinlaw07_RopeLong
  rw [sBin_lss, sIf_dec]
  refine ⟨fun _ => (lawwide_spec hM).mono fun u w' h => h, fun hn0 => ?_⟩
  rw [sBin_gtr, sIf_dec]
  refine ⟨fun _ => (lawwide_spec hM).mono fun u w' h => h, fun hn6 => ?_⟩
  rw [sLen_str tstr, sBin_gtr, sIf_dec]
  refine ⟨fun _ => (lawwide_spec hM).mono fun u w' h => h, fun hs => ?_⟩
  have hrl := runes_len s
  refine LoopS.intro (fun us w1 => w1 = w ∧ ∃ k : Nat, us = [tv (List.replicate k 97)] ∧ 1 ≤ k ∧ k ≤ 50000)
    (fun us _ => match us with | [.string b] => 50000 - b.size | _ => 0) ⟨rfl, 1, rfl, Nat.le_refl _, by decide⟩ ?_
  rintro us vs w1 ⟨rfl, k, rfl, hk1, hk2⟩
  unfold S.bodkinlaw07_RopeLong_L1
  rw [Go.Lift.hd, sLen_str tstr, List.length_replicate, sBin_lss, sIf_dec]
  refine ⟨fun hlt => ?_, fun hge => ?_⟩
  · rw [sBin_strAdd (by rw [List.length_replicate]; omega), List.replicate_append_replicate]
    refine ⟨⟨rfl, k + k, rfl, by omega, by omega⟩, ?_⟩
    simp only [size_tv, List.length_replicate]
    omega
  · obtain ⟨m, rfl⟩ : ∃ m : Nat, n = m := ⟨n.toNat, by omega⟩
    rw [sBin_add _ _ ⟨by omega, by omega⟩, sSlice_strh (hi := 19997 + m) tstr (by omega) (by rw [List.length_replicate]; omega), List.take_replicate, Nat.min_eq_left (by omega)]
    refine (rnew_spec hM (by rw [List.length_replicate]; omega)).mono ?_
    rintro u w2 ⟨e2, hu⟩
    have hend := fun (w' : World) (e : Ext w1 w') => lawwide_spec (hM.ext e)
    rw [runes_as, List.length_replicate] at hu
    rcases hu with ⟨hlg, rfl⟩ | ⟨hle, b, rfl, hr⟩
    · rw [sExtract_0, sExtract_1, sBin_gtr, sIf_dec]
      refine ⟨fun _ => ?_, fun h => by omega⟩
      rw [sBin_eql, sIf_dec]
      refine ⟨fun _ => ?_, fun h => absurd rfl h⟩
      rw [sBin_ptr_eq S.tpt_P_rope_Rope, Option.isNone_none, sIf_true]
      exact (hend w2 e2).mono fun u w' h => ⟨e2.trans h.1, h.2⟩
    · have hok : RpOk (pcs (List.replicate (19997 + m) 97)) := by
        have := newOk (s := List.replicate (19997 + m) 97) (by rw [runes_as, List.length_replicate]; omega)
        rwa [runes_as] at this
      have hpl := pcs_join (List.replicate (19997 + m) 97)
      rw [sExtract_0, sExtract_1, sBin_gtr, sIf_dec]
      refine ⟨fun h => by omega, fun _ => ?_⟩
      rw [sBin_neq, sIf_not]
      refine ⟨fun h => absurd rfl h, fun _ => ?_⟩
      rw [sBin_ptr_eq S.tpt_P_rope_Rope, Option.isNone_some, sIf_false]
      refine (ddecode_spec s (by omega)).mono ?_
      rintro q w3 ⟨e3, hq⟩
      rw [sLen_sl S.tel_L_int32 (hq.sl encRn_ok)]
      have E3 := e2.trans e3
      refine (rreplace_spec' (a := 5) (b := 5) (s := s) (hM.ext E3) (hr.ext e3) hok (by omega)).mono ?_
      rintro u w4 ⟨e4, hu⟩
      rw [hpl] at hu
      have E4 := E3.trans e4
      rw [List.length_replicate] at hu
      rcases hu with ⟨hn, _⟩ | ⟨_, h20, rfl⟩ | ⟨_, h20, bv, ps', rfl, hr', hok', hfl', _⟩
      · exact absurd ⟨by decide, by decide, by rw [List.length_replicate]; omega⟩ hn
      · rw [sExtract_0, sExtract_1, sBin_add _ _ ⟨by omega, by omega⟩, sBin_add _ _ ⟨by omega, by omega⟩, sBin_gtr, sIf_dec]
        refine ⟨fun _ => ?_, fun h => by omega⟩
        rw [sBin_eql, sIf_dec]
        refine ⟨fun _ => ?_, fun h => absurd rfl h⟩
        rw [sBin_ptr_eq S.tpt_P_rope_Rope, Option.isNone_none, sIf_true]
        exact (hend w4 E4).mono fun u w' h => ⟨E4.trans h.1, h.2⟩
      · rw [hpl] at hfl'
        have hln := congrArg List.length hfl'
        rw [List.length_append, List.length_append, List.length_take, List.length_drop, List.length_replicate] at hln
        rw [sExtract_0, sExtract_1, sBin_add _ _ ⟨by omega, by omega⟩, sBin_add _ _ ⟨by omega, by omega⟩, sBin_gtr, sIf_dec]
        refine ⟨fun h => by omega, fun _ => ?_⟩
        rw [sBin_eql, sIf_dec]
        refine ⟨fun _ => ?_, fun h => absurd rfl h⟩
        rw [sBin_ptr_ne S.tpt_P_rope_Rope, Option.isSome_some, sIf_true]
        refine (rrunes_spec hr' hok').mono ?_
        rintro u w5 ⟨e5, rfl⟩
        rw [sBin_add _ _ ⟨by omega, by omega⟩, sBin_add _ _ ⟨by omega, by omega⟩, sBin_eql, sIf_dec]
        refine ⟨fun _ => ?_, fun h => ?_⟩
        · exact (hend w5 (E4.trans e5)).mono fun u w' h => ⟨(E4.trans e5).trans h.1, h.2⟩
        · exfalso
          have e5 : (5 : Int).toNat = 5 := rfl
          rw [e5] at hln
          omega
theorem Rp.nil (w : World) : Rp w (.pointer none) [] := .inl ⟨rfl, rfl⟩
theorem RpOk.nil : RpOk [] := ⟨fun p hp => by simp at hp, by simp⟩
theorem ab_runes : runes [97, 98] = [97, 98] := by
  have : txt [97, 98] = [97, 98] := by decide +kernel
  rw [← this]
  exact runes_of (by decide)
theorem ropeNil_spec {w : World} (hM : Mo w) (a : Int) : S.bodkinlaw07_RopeNil (fun u w' => Ext w w' ∧ u = .bool true) (.int .i64 a) w := by
  unfold S.bodkinlaw07_RopeNil
  have hn := RpOk.nil
  refine (rruneat_spec (at_ := a) (Rp.nil w) hn).mono ?_
  rintro u w1 ⟨e1, m, e, hm, rfl⟩
  obtain ⟨rfl, hm2⟩ : m = 0 ∧ (e = 0 ↔ a = 0) := by
    rcases hm with ⟨k, hk, rfl, rfl, rfl⟩ | ⟨h0, h1, h2, rfl, rfl⟩ | ⟨h, rfl, rfl⟩
    · obtain rfl : k = 0 := by simpa using hk
      exact ⟨rfl, by simp [txt]⟩
    · simp [txt] at h1
      exact absurd (show a = (txt (([] : List Int).take 0)).length by simp [txt]; omega) (h2 0 (by simp))
    · refine ⟨rfl, ?_⟩
      simp [txt] at h
      omega
  rw [sExtract_0, sExtract_1]
  refine (rbyteat_spec (at_ := a) (Rp.nil w1) hn).mono ?_
  rintro u w2 ⟨e2, hu⟩
  obtain ⟨e', rfl, hm'⟩ : ∃ e' : Int, u = .tuple #[.int .i64 0, .int .i64 e'] ∧ (e' = 0 ↔ a = 0) := by
    rcases hu with ⟨h, rfl⟩ | ⟨h, rfl⟩
    · refine ⟨1, rfl, ?_⟩
      simp at h
      omega
    · refine ⟨0, by simp [txt], ?_⟩
      simp at h
      omega
  rw [sExtract_0, sExtract_1]
  refine (rat_spec (at_ := a) (Rp.nil w2) hn).mono ?_
  rintro u w3 ⟨e3, hu⟩
  rcases hu with ⟨_, rfl⟩ | ⟨h, r, h2, rfl⟩
  case inr => simp at h; omega
  rw [sExtract_0, sExtract_1]
  have E3 := (e1.trans e2).trans e3
  refine (rreplace_spec' (a := 0) (b := 0) (s := [97, 98]) (hM.ext E3) (Rp.nil w3) hn (by decide)).mono ?_
  rintro u w4 ⟨e4, hu⟩
  rw [ab_runes] at hu
  rcases hu with ⟨hn2, _⟩ | ⟨_, h20, _⟩ | ⟨_, h20, bv, ps', rfl, hr', hok', hfl', _⟩
  · exact absurd (by decide) hn2
  · exact absurd h20 (by decide)
  have E4 := E3.trans e4
  rw [sExtract_0, sExtract_1]
  refine (rbehind_spec (k := 0) (Rp.nil w4) hn).mono ?_
  rintro u w5 ⟨e5, m, e, hb, rfl⟩
  obtain ⟨rfl, rfl⟩ := hb.det (.inl ⟨⟨by decide, by decide⟩, rfl, 0, rfl, by decide, by decide, fun j hj => by omega⟩ : Bhd [] 0 0 0)
  have E5 := E4.trans e5
  have hbe : ∀ x y : Int, (x = 0 ↔ y = 0) → (decide (x = 0) == decide (y = 0)) = true := fun x y h => by
    by_cases h1 : x = 0
    · simp [h1, h.1 h1]
    · have : ¬ y = 0 := fun h2 => h1 (h.2 h2)
      simp [h1, this]
  rw [sExtract_0, sExtract_1, sBin_eql, sIf_dec]
  refine ⟨fun _ => ?_, fun h => absurd rfl h⟩
  rw [sBin_eql, sIf_dec]
  refine ⟨fun _ => ?_, fun h => absurd rfl h⟩
  rw [sBin_eql, sIf_dec]
  refine ⟨fun _ => ?_, fun h => absurd rfl h⟩
  rw [sBin_eql, sBin_eql, sBin_boolEq (by kernel_rfl), hbe _ _ hm2, sIf_true]
  rw [sBin_eql, sBin_eql, sBin_boolEq (by kernel_rfl), hbe _ _ hm', sIf_true]
  rw [sBin_eql, sIf_dec]
  refine ⟨fun _ => ?_, fun h => absurd rfl h⟩
  rw [sBin_eql, sIf_dec]
  refine ⟨fun _ => ?_, fun h => absurd rfl h⟩
  rw [sBin_eql, sIf_dec]
  refine ⟨fun _ => ?_, fun h => absurd rfl h⟩
  rw [sBin_ptr_ne S.tpt_P_rope_Rope, Option.isSome_some, sIf_true]
  refine (rtext_spec (hr'.ext e5) hok').mono ?_
  rintro u w6 ⟨e6, rfl⟩
  have ht : txt ps'.flatten = [97, 98] := by rw [hfl']; decide +kernel
  rw [ht, sBin_strEq, sIf_dec]
  refine ⟨fun _ => ?_, fun h => absurd rfl h⟩
  refine (rtext_spec (Rp.nil w6) hn).mono ?_
  rintro u w7 ⟨e7, rfl⟩
  rw [show txt ([] : List (List Int)).flatten = [] from rfl, sBin_strEq, sIf_dec]
  refine ⟨fun _ => ?_, fun h => absurd rfl h⟩
  refine (rrunes_spec (Rp.nil w7) hn).mono ?_
  rintro u w8 ⟨e8, rfl⟩
  refine (rbytes_spec (Rp.nil w8) hn).mono ?_
  rintro u w9 ⟨e9, rfl⟩
  refine (rbreaks_spec (Rp.nil w9) hn).mono ?_
  rintro u w10 ⟨e10, rfl⟩
  refine (rheight_spec (Rp.nil w10) hn).mono ?_
  rintro u w11 ⟨rfl, H, rfl, hH, _, _⟩
  obtain rfl : H = 0 := hH.2 rfl
  refine sBuildSlice_own (n := 4) (enc := encZ) (xs := [0, 0, 0, 0]) (lp := [(0, [.int .i64 0]), (1, [.int .i64 0]), (2, [.int .i64 0]), (3, [.int .i64 0])]) S.tel_L_int S.tsz_int rfl S.tze_int (by decide) (by decide) encZ_ok rfl rfl fun v1 w12 hv1 ho1 f1 hs1 => ?_
  refine sBuildSlice_own (n := 4) (enc := encZ) (xs := [0, 0, 0, 0]) (lp := [(0, [.int .i64 0]), (1, [.int .i64 0]), (2, [.int .i64 0]), (3, [.int .i64 0])]) S.tel_L_int S.tsz_int rfl S.tze_int (by decide) (by decide) encZ_ok rfl rfl fun v2 w13 hv2 ho2 f2 hs2 => ?_
  refine (intsEq_spec ((ho1.sl encZ_ok).ext f2) (ho2.sl encZ_ok)).mono ?_
  rintro u w14 ⟨f3, r, rfl, hr⟩
  rw [hr.2 rfl, sIf_true]
  have E14 := ((((((((E5.trans e6).trans e7).trans e8).trans e9).trans e10).trans f1).trans f2).trans f3)
  exact (lawwide_spec (hM.ext E14)).mono fun u w' h => ⟨E14.trans h.1, h.2⟩
abbrev Rst := Int × Int × List UInt8
abbrev encRs (x : Rst) : List Value := [.int .i64 x.1, .int .i64 x.2.1, tv x.2.2]
theorem ropeReplaces_spec {w : World} (hM : Mo w) (s : List UInt8) {l : Value} {xs : List Rst} (hl : Sl w l 3 encRs xs) : S.bodkinlaw07_RopeReplaces (fun u w' => Ext w w' ∧ u = .bool true) (tv s) l w := by
  unfold S.bodkinlaw07_RopeReplaces
  rw [sLen_str tstr, sBin_gtr, sIf_dec]
  refine ⟨fun _ => (lawwide_spec hM).mono fun u w' h => h, fun hs => ?_⟩
  rw [sLen_sl S.tel_L_bodkinlaw07_Step hl, sBin_gtr, sIf_dec]
  refine ⟨fun _ => (lawwide_spec hM).mono fun u w' h => h, fun hs2 => ?_⟩
  have hrl := runes_len s
  refine (rnew_ok hM (by omega)).mono ?_
  rintro u w1 ⟨e1, b, rfl, hr, hp⟩
  rw [sExtract_0, sExtract_1, sBin_neq, sIf_not]
  refine ⟨fun h => absurd rfl h, fun _ => ?_⟩
  rw [sBin_ptr_eq S.tpt_P_rope_Rope, Option.isNone_some, sIf_false]
  refine (ddecode_spec s (by omega)).mono ?_
  rintro q w2 ⟨e2, hq⟩
  have E2 := e1.trans e2
  rw [sLen_sl S.tel_L_bodkinlaw07_Step (hl.ext E2)]
  refine LoopS.intro (fun us w3 => Ext w w3 ∧ ∃ (i b : Nat) (now : Value) (ps : List (List Int)), us = [.pointer (some ⟨b, 0, none⟩), now, .int .i64 i] ∧ i ≤ xs.length ∧ Rp w3 (.pointer (some ⟨b, 0, none⟩)) ps ∧ RpOk ps ∧ Bg ps ∧ Sl w3 now 1 encRn ps.flatten)
    (fun us _ => match us with | [_, _, .int _ a] => (xs.length - a).toNat | _ => 0) ⟨E2, 0, b, q, _, rfl, Nat.zero_le _, hr.ext e2, hp, pcs_bg _, by rw [pcs_join]; exact hq.sl encRn_ok⟩ ?_
  rintro us vs w3 ⟨E3, i, b, now, ps, rfl, hi, hr, hp, hbg, hnow⟩
  unfold S.bodkinlaw07_RopeReplaces_L1
  rw [Go.Lift.hd, Go.Lift.tl, Go.Lift.hd, Go.Lift.tl, Go.Lift.hd, sBin_lss, sIf_dec]
  refine ⟨fun hlt => ?_, fun hge => (lawwide_spec (hM.ext E3)).mono fun u w' h => ⟨E3.trans h.1, h.2⟩⟩
  obtain ⟨⟨A, B, S'⟩, hx⟩ : ∃ x, xs[i]? = some x := ⟨_, List.getElem?_eq_getElem (by omega)⟩
  obtain ⟨bb, of, hel, hc⟩ := (hl.ext E3).el hx
  rw [sIdxA_sl S.tel_L_bodkinlaw07_Step S.tsz_bodkinlaw07_Step (by omega) (hl.ext E3) hx rfl, hel, sLoad_agg (cs := encRs (A, B, S')) S.tagg_bodkinlaw07_Step hc rfl]
  refine sVar (vs := encRs (A, B, S')) S.tze_bodkinlaw07_Step S.tsz_bodkinlaw07_Step (by decide) rfl rfl (fun u hu => by simp [encRs] at hu; rcases hu with rfl | rfl | rfl <;> rfl) fun b9 w4 hb9 hs4 e4 hk9 => ?_
  have E4 := E3.trans e4
  rw [sFldA_ptr S.tfl_bodkinlaw07_Step_S, sLoad_cell (v := tv S') S.tcell_string (hk9.cells.at 2 rfl), sLen_str tstr, sBin_gtr, sIf_dec]
  refine ⟨fun _ => (lawwide_spec (hM.ext E4)).mono fun u w' h => ⟨E4.trans h.1, h.2⟩, fun hS => ?_⟩
  rw [sFldA_ptr S.tfl_bodkinlaw07_Step_From, sLoad_cell (v := .int .i64 A) S.tcell_int (hk9.cells.at 0 rfl), sFldA_ptr S.tfl_bodkinlaw07_Step_To, sLoad_cell (v := .int .i64 B) S.tcell_int (hk9.cells.at 1 rfl), sFldA_ptr S.tfl_bodkinlaw07_Step_S, sLoad_cell (v := tv S') S.tcell_string (hk9.cells.at 2 rfl)]
  refine (rreplace_spec' (a := A) (b := B) (s := S') (hM.ext E4) (hr.ext e4) hp (by omega)).mono ?_
  rintro u w5 ⟨e5, hu⟩
  have E5 := E4.trans e5
  have k9 := hk9.ext e5
  obtain ⟨t, g, rfl, hu2⟩ : ∃ (t : Option Addr) (g : Int), u = .tuple #[.pointer t, .int .i64 g] ∧ ((t = none ∧ g = 1 ∧ ¬ InT ps.flatten A B) ∨ (t = none ∧ g = 5 ∧ InT ps.flatten A B ∧ 20000 < ps.flatten.length - (B - A) + (runes S').length) ∨
      (g = 0 ∧ InT ps.flatten A B ∧ ps.flatten.length - (B - A) + (runes S').length ≤ 20000 ∧ ∃ (bv : Nat) (ps' : List (List Int)), t = some ⟨bv, 0, none⟩ ∧ Rp w5 (.pointer (some ⟨bv, 0, none⟩)) ps' ∧ RepOk ps A.toNat B.toNat (runes S') ps')) := by
    rcases hu with ⟨h, rfl⟩ | ⟨h, h2, rfl⟩ | ⟨h, h2, bv, ps', rfl, h3⟩
    · exact ⟨none, 1, rfl, .inl ⟨rfl, rfl, h⟩⟩
    · exact ⟨none, 5, rfl, .inr (.inl ⟨rfl, rfl, h, h2⟩)⟩
    · exact ⟨_, 0, rfl, .inr (.inr ⟨rfl, h, h2, bv, ps', rfl, h3⟩)⟩
  clear hu
  rw [sExtract_0, sExtract_1, sFldA_ptr S.tfl_bodkinlaw07_Step_From, sLoad_cell (v := .int .i64 A) S.tcell_int (k9.cells.at 0 rfl), sFldA_ptr S.tfl_bodkinlaw07_Step_To, sLoad_cell (v := .int .i64 B) S.tcell_int (k9.cells.at 1 rfl), sBuild_of (cs := encP2 A B) (lp := [(0, [.int .i64 A]), (1, [.int .i64 B])]) S.tze_A2_int S.tpl_A2_int rfl rfl,
    sFldA_ptr S.tfl_bodkinlaw07_Step_S, sLoad_cell (v := tv S') S.tcell_string (k9.cells.at 2 rfl)]
  have hle := hp.le
  refine (dreplace_spec (a := A) (b := B) (s := S') ((hnow.ext e4).ext e5) (by omega) (by omega)).mono ?_
  rintro u w6 ⟨e6, hu⟩
  have E6 := E5.trans e6
  have hbr : ∀ y : Option Addr, ∀ g' : Int, (y = none ↔ ¬ g' = 0) → (!(y.isNone == !decide (g' = 0))) = false := fun y g' h => by
    cases y with
    | none => simp [h.1 rfl]
    | some z =>
      have : g' = 0 := by
        rcases Decidable.em (g' = 0) with h1 | h1
        · exact h1
        · exact absurd (h.2 h1) (by simp)
      simp [this]
  obtain ⟨nv, rfl, hnv⟩ : ∃ nv : Value, u = .tuple #[nv, .int .i64 g] ∧ (g = 0 → Sl w6 nv 1 encRn (ps.flatten.take A.toNat ++ runes S' ++ ps.flatten.drop B.toNat)) := by
    rcases hu with ⟨h, rfl⟩ | ⟨h, h2, rfl⟩ | ⟨h, h2, nv, rfl, h3⟩
    · rcases hu2 with ⟨_, rfl, _⟩ | ⟨_, _, g1, _⟩ | ⟨_, g1, _⟩
      · exact ⟨_, rfl, fun h => absurd h (by decide)⟩
      · exact absurd g1 h
      · exact absurd g1 h
    · rcases hu2 with ⟨_, _, g1⟩ | ⟨_, rfl, _⟩ | ⟨_, _, g1, _⟩
      · exact absurd h g1
      · exact ⟨_, rfl, fun h => absurd h (by decide)⟩
      · omega
    · rcases hu2 with ⟨_, _, g1⟩ | ⟨_, _, _, g1⟩ | ⟨rfl, _, _, _⟩
      · exact absurd h g1
      · omega
      · exact ⟨_, rfl, fun _ => h3⟩
  clear hu
  rw [sExtract_0, sExtract_1, sBin_neq, sIf_not]
  refine ⟨fun h => absurd rfl h, fun _ => ?_⟩
  have hcond : (t = none ↔ ¬ g = 0) := by
    rcases hu2 with ⟨rfl, rfl, _⟩ | ⟨rfl, rfl, _⟩ | ⟨rfl, _, _, bv, ps', rfl, _⟩ <;> simp
  rw [sBin_ptr_eq S.tpt_P_rope_Rope, sBin_neq, sBin_boolNe (by kernel_rfl), hbr t g hcond, sIf_false]
  refine (lawis_spec rfl (((hr.ext e4).ext e5).ext e6) hp hbg (((hnow.ext e4).ext e5).ext e6)).mono ?_
  rintro u w7 ⟨e7, rfl⟩
  have E7 := E6.trans e7
  have e37 := ((e4.trans e5).trans e6).trans e7
  rw [sUn_not, Bool.not_true, sIf_false, sBin_neq, sIf_not]
  refine ⟨fun hg => ?_, fun hg => ?_⟩
  · rw [sBin_add _ _ ⟨by omega, by omega⟩]
    exact ⟨⟨E7, i + 1, b, now, ps, by simp, by omega, hr.ext e37, hp, hbg, hnow.ext e37⟩, by simp only []; omega⟩
  · rcases hu2 with ⟨_, rfl, _⟩ | ⟨_, rfl, _⟩ | ⟨_, _, _, bv, ps', rfl, hr', hok', hfl', hbg'⟩
    · exact absurd hg (by decide)
    · exact absurd hg (by decide)
    have hn2 := hnv hg
    rw [← hfl'] at hn2
    refine (lawis_spec rfl ((hr'.ext e6).ext e7) hok' (hbg' hbg) (hn2.ext e7)).mono ?_
    rintro u w8 ⟨e8, rfl⟩
    rw [sUn_not, Bool.not_true, sIf_false, sBin_add _ _ ⟨by omega, by omega⟩]
    exact ⟨⟨E7.trans e8, i + 1, bv, nv, ps', by simp, by omega, ((hr'.ext e6).ext e7).ext e8, hok', hbg' hbg, (hn2.ext e7).ext e8⟩, by simp only []; omega⟩
end Go.Proofs.YtjolodlmnffkeaaDoor

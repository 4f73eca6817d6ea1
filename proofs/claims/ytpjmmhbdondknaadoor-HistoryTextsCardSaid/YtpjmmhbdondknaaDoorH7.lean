/- The law of a history of texts. Conditions: the table of sizes in memory; each edit's text is one that a process can hold. -/
import Derived.Test.YtpjmmhbdondknaaDoorH6
namespace Go.Lift
open Go Go.RowKit
section
variable {α : Type} {w w' : World} {base e e' k : Nat} {v : Value} {enc : α → List Value} {xs : List α} {row : Option Nat}
theorem Row.wrT (h : Row w base e k v enc xs) (hg : w.grownBy w' row) (hr : ∀ g, row = some g → Ty w e' g) (hne : e ≠ e') : Row w' base e k v enc xs := by
  rcases h with h | ⟨g, o, cap, cur, rfl, h1, h2, rest⟩
  · exact .inl h
  · refine .inr ⟨g, o, cap, cur, rfl, h1, ?_, rest⟩
    rw [hg.block g (Array.getElem?_eq_some_iff.1 h2).1 (fun q => by obtain ⟨c, hc⟩ := hr g q.symm; rw [h2] at hc; cases hc; exact hne rfl)]
    exact h2
theorem OwnS.wrT (h : OwnS w v) (ho : Row w base e k v enc xs) (hg : w.grownBy w' row) (hr : ∀ g, row = some g → Ty w e' g) (hne : e ≠ e') : OwnS w' v := fun g hv => (h g hv).wr hg (fun q => by
  obtain ⟨_, c, hc⟩ := ho.ty hv
  obtain ⟨c', hc'⟩ := hr g q.symm
  rw [hc] at hc'
  cases hc'
  exact hne rfl)
theorem own_full (h : Own w base e k v enc xs) {g : Nat} (hv : v = .slice (some ⟨g, 0, none⟩) xs.length xs.length) (hS : ∀ u ∈ xs.flatMap enc, isS u = true) : OwnS w v := by
  obtain ⟨hl, hr⟩ := h
  rcases hr with ⟨rfl, h0⟩ | ⟨g', cap, cur, rfl, hb, hg, hnc, hcm, hcs, ht⟩
  · cases hv
  · cases hv
    intro g2 hg2
    cases hg2
    refine ⟨cur, e, hg, fun u hu => hS u ?_⟩
    rw [← ht, List.take_of_length_le (by rw [Array.length_toList, hcs]; exact Nat.le_refl _)]
    exact hu
end
end Go.Lift
namespace Go.Proofs.YtpjmmhbdondknaaDoor.H
open Go Go.Lift Go.RowKit Go.Txt

theorem Steps.wrT {w w' : World} {base : Nat} {ds : List (SV × SV)} {D : List (List Ed × List Ed)} {row : Option Nat} (h : Steps w base ds D) (hg : w.grownBy w' row) (hr : ∀ g, row = some g → Ty w S.T.string g) : Steps w' base ds D :=
  ⟨h.1, fun i s d hs hd => ⟨(h.2 i s d hs hd).1.wrT hg hr (by decide), (h.2 i s d hs hd).2.wrT hg hr (by decide)⟩⟩
theorem Hist.wrT {w w' : World} {base b : Nat} {D U : List (List Ed × List Ed)} {row : Option Nat} (h : Hist w base b D U) (hg : w.grownBy w' row) (hr : ∀ g, row = some g → base ≤ g ∧ Ty w S.T.string g) : Hist w' base b D U := by
  obtain ⟨x0, x1, ds, us, h⟩ := h
  have hr2 := fun g q => (hr g q).2
  exact ⟨x0, x1, ds, us, h.hb, h.blk.wr hg (fun q => by have := (hr b q.symm).1; have := h.hb; omega), h.r0.wrT hg hr2 (by decide), h.r1.wrT hg hr2 (by decide), h.ne, h.s0.wrT hg hr2, h.s1.wrT hg hr2, h.a0.wrT h.r0 hg hr2 (by decide), h.a1.wrT h.r1 hg hr2 (by decide)⟩
/-! ## Texts and the steps between them -/
def Good (a b : List Int) (d : List Ed × List Ed) : Prop := wrg a.length d.2 = 0 ∧ app a d.2 = b ∧ wrg b.length d.1 = 0 ∧ app b d.1 = a
def Chain (ts : List (List Int)) (D : List (List Ed × List Ed)) : Prop :=
  ts.length = D.length + 1 ∧ ∀ (i : Nat) (d : List Ed × List Ed) (a b : List Int), D[i]? = some d → ts[i]? = some a → ts[i + 1]? = some b → Good a b d
theorem wrg_len {n : Nat} {es : List Ed} (h : wrg n es = 0) : es.length ≤ 64 := (wrg_zero.1 h).1.1
theorem fits_B {es : List Ed} (h : Fits es) : FitB es := fun x hx => Nat.le_trans (h x hx) (by decide)
theorem Chain.sm {ts : List (List Int)} {D : List (List Ed × List Ed)} (h : Chain ts D) : Sm D := fun d hd => by
  obtain ⟨i, hi⟩ := List.getElem?_of_mem hd
  have hlt := (List.getElem?_eq_some_iff.1 hi).1
  have hl := h.1
  obtain ⟨a, ha⟩ : ∃ a, ts[i]? = some a := ⟨_, List.getElem?_eq_getElem (by omega)⟩
  obtain ⟨b, hb⟩ : ∃ b, ts[i + 1]? = some b := ⟨_, List.getElem?_eq_getElem (by omega)⟩
  obtain ⟨g1, _, g3, _⟩ := h.2 i d a b hi ha hb
  have := wrg_len g1
  have := wrg_len g3
  omega
theorem Chain.push {ts : List (List Int)} {D : List (List Ed × List Ed)} {d : List Ed × List Ed} {a b : List Int} (h : Chain ts D) (ha : ts[D.length]? = some a) (hg : Good a b d) : Chain (ts ++ [b]) (D ++ [d]) := by
  have hl := h.1
  refine ⟨by simp [hl], fun i d' a' b' hd' ha' hb' => ?_⟩
  have hlt := (List.getElem?_eq_some_iff.1 hd').1
  rw [List.length_append, List.length_singleton] at hlt
  rw [List.getElem?_append_left (by omega)] at ha'
  rcases Nat.lt_or_ge i D.length with hi | hi
  · rw [List.getElem?_append_left hi] at hd'
    rw [List.getElem?_append_left (by omega)] at hb'
    exact h.2 i d' a' b' hd' ha' hb'
  · obtain rfl : i = D.length := by omega
    rw [ha] at ha'
    rw [List.getElem?_append_right (Nat.le_refl _)] at hd'
    rw [List.getElem?_append_right (by omega), show D.length + 1 - ts.length = 0 by omega] at hb'
    simp at hd' hb'
    cases ha'
    subst hd' hb'
    exact hg
theorem good_of {a : List Int} {es : List Ed} (hr : ∀ c ∈ a, okR c) (ha : a.length ≤ 20000) (h : wrg a.length es = 0) : Good a (app a es) (inve a 0 es, es) := by
  obtain ⟨⟨h64, hv⟩, hs⟩ := wrg_zero.1 h
  obtain ⟨u1, u2, u3, u4⟩ := undo_batch hr hv
  have hal := app_len hv
  exact ⟨h, rfl, wrg_zero.2 ⟨⟨by rw [inv_len]; exact h64, u1⟩, by rw [u4]; omega⟩, u2⟩
abbrev encL (y : SV) : List Value := [sv y]
theorem sBin_sNe {w : World} {K : K1} {cx cy : Bool} (a : List UInt8) : sBin Tryd.prog .neq S.T.string cx cy (tv a) (tv a) w K = K (.bool false) w := by rw [sBin_strNe]; simp
theorem take_rev {α : Type} {D : List α} {i : Nat} {d : α} (h : D[i]? = some d) : (D.drop (i + 1)).reverse ++ [d] = (D.drop i).reverse := by
  have hlt := (List.getElem?_eq_some_iff.1 h).1
  have : D.drop i = d :: D.drop (i + 1) := by
    rw [List.drop_eq_getElem_cons hlt, (List.getElem?_eq_some_iff.1 h).2]
  rw [this, List.reverse_cons]
theorem historyTexts_spec {w : World} (hM : Mo w) (s : List UInt8) {v : Value} {ls : List SV} (hl : Sl w v 1 encL ls) (hall : ∀ y ∈ ls, ∃ es : List Ed, Sl w (sv y) 3 encE es ∧ FitB es) : S.bodkinlaw12_HistoryTexts (Yes w) (tv s) v w := by
  unfold S.bodkinlaw12_HistoryTexts
  have hmx : maxLen = 9223372036854775807 := rfl
  rw [sLen_str tstr, sBin_gtr, sIf_dec]
  refine ⟨fun _ => then_again (Ext.refl w), fun hs => ?_⟩
  rw [sLen_sl S.tel_L_L_api_Edit hl, sBin_gtr, sIf_dec]
  refine ⟨fun _ => then_again (Ext.refl w), fun hn => ?_⟩
  refine (rnew_get hM (by omega)).mono ?_
  rintro u w1 ⟨e1, rb, ps, rfl, hr, hp, _, hfl⟩
  rw [sExtract_0, sExtract_1]
  refine (new_spec w1).mono ?_
  rintro p w2 ⟨rfl, e2, hs2, hk2⟩
  have hb : w1.heap.size < w2.heap.size := by omega
  have H2 : Hist w2 w2.heap.size w1.heap.size [] [] := hist_nil hb hk2
  rw [sBin_neq, sIf_not]
  refine ⟨fun h => absurd rfl h, fun _ => ?_⟩
  rw [sBin_ptr_eq S.tpt_P_rope_Rope, Option.isNone_some, sIf_false, sBin_ptr_eq S.tpt_P_history_History, Option.isNone_some, sIf_false]
  have E2 := e1.trans e2
  have hwb : w.heap.size ≤ w1.heap.size := e1.size
  have hr2 := hr.ext e2
  generalize hbase : w2.heap.size = base at *
  generalize w1.heap.size = b at *
  refine (rtext_spec hr2 hp).mono ?_
  rintro u w3 ⟨e3, rfl⟩
  refine sBuildSlice_own (n := 1) (enc := encTx) (xs := [txt ps.flatten]) (lp := [(0, encTx (txt ps.flatten))]) S.tel_L_string S.tsz_string rfl S.tze_string (by decide) (by decide) encTx_ok rfl rfl fun o0 w4 ho ho4 e4 hs4 => ?_
  have hS4 : OwnS w4 o0 := own_full ho4 ho (fun u hu => by simp at hu; subst hu; rfl)
  have e24 := e3.trans e4
  have E4 := E2.trans e24
  have z3 := e3.size
  have z4 := e4.size
  rw [sLen_sl S.tel_L_L_api_Edit (hl.ext E4)]
  refine LoopS.intro (fun us w' => Ext w w' ∧ base ≤ w'.heap.size ∧ ∃ (i : Nat) (rv o : Value) (pq : List (List Int)) (ts : List (List Int)) (D : List (List Ed × List Ed)), us = [rv, o, .int .i64 i] ∧ i ≤ ls.length ∧ D.length ≤ i ∧ Chain ts D ∧ ts[D.length]? = some pq.flatten ∧ Hist w' base b D [] ∧
      Row w' base S.T.string 1 o encTx (ts.map txt) ∧ OwnS w' o ∧ Rp w' rv pq ∧ RpOk pq)
    (fun us _ => match us with | [_, _, .int _ a] => (ls.length - a).toNat | _ => 0)
    ⟨E4, by omega, 0, _, o0, ps, [ps.flatten], [], rfl, Nat.zero_le _, Nat.le_refl _, ⟨rfl, fun i d a b h => by simp at h⟩, rfl, H2.ext e24, (ho4.row).mono (by omega), hS4, hr2.ext e24, hp⟩ ?_
  clear hr2 H2 hk2 hr hS4 ho4 ho
  rintro us vs w5 ⟨E5, hb5, i, rv, o, pq, ts, D, rfl, hi, hDi, hch, htD, hH, hrow, hoS, hrp, hok⟩
  unfold S.bodkinlaw12_HistoryTexts_L1
  have htl := hch.1
  have hle := hok.le
  rw [Go.Lift.hd, Go.Lift.tl, Go.Lift.hd, Go.Lift.tl, Go.Lift.hd, sBin_lss, sIf_dec]
  refine ⟨fun hlt => ?_, fun hge => ?_⟩
  · obtain ⟨y, hy⟩ : ∃ y, ls[i]? = some y := ⟨_, List.getElem?_eq_getElem (by omega)⟩
    obtain ⟨es, hes, hfb⟩ := hall y (List.mem_of_getElem? hy)
    obtain ⟨bb, of, hel, hc⟩ := (hl.ext E5).el hy
    rw [sIdxA_sl S.tel_L_L_api_Edit S.tsz_L_api_Edit (by omega) (hl.ext E5) hy rfl, hel, sLoad_cell (v := sv y) S.tcell_L_api_Edit (hc.fst rfl)]
    refine (bapply_big (hM.ext E5) hrp hok (hes.ext E5) hfb).mono ?_
    rintro u w6 ⟨e6, hu⟩
    have E6 := E5.trans e6
    by_cases h0 : wrg pq.flatten.length es = 0
    · rcases hu with ⟨h, _⟩ | ⟨_, bv, pq', rfl, hrp', hok', hfl'⟩
      · exact absurd h0 h
      rw [sExtract_0, sExtract_1]
      refine (binvert_big (hrp.ext e6) hok (hes.ext E6) hfb).mono ?_
      rintro u w7 ⟨e7, hu⟩
      rcases hu with ⟨h, _⟩ | ⟨_, m, rfl, hm7⟩
      · exact absurd h0 h
      have E7 := E6.trans e7
      have e57 := e6.trans e7
      rw [sExtract_0, sExtract_1]
      refine JoinS.intro (fun us w' => w' = w7 ∧ us = [.bool false]) ?_ ?_
      · rw [sBin_neq, sIf_not]
        refine ⟨fun h => absurd rfl h, fun _ => ?_⟩
        rw [sBin_neq]
        exact ⟨rfl, rfl⟩
      rintro us vs w7 ⟨rfl, rfl⟩
      unfold S.bodkinlaw12_HistoryTexts_J2
      obtain ⟨sm, rfl⟩ := (hm7.sl encE_ok).sv
      have z5 := e57.size
      have z6 := e6.size
      have hm' : Row w7 base S.T.api_Edit 3 (sv sm) encE (inve pq.flatten 0 es) := hm7.mono (by omega)
      rw [Go.Lift.hd, sIf_false, sBuild_of (cs := [sv sm, sv y]) (lp := [(0, [sv sm]), (1, [sv y])]) S.tze_history_Step S.tpl_history_Step rfl rfl]
      have hgood := good_of hok.runes hle h0
      have h64 := wrg_len h0
      refine (push_spec (hH.ext e57) (by omega) (by omega) (bv := sm) (fv := y) (bs := inve pq.flatten 0 es) (fs := es) (fun w' F => (F.own hm' (by decide) hb).sl encE_ok) (fun w' F => hes.ext (F.ext E7 (by omega) (by omega))) (by rw [inv_len]; omega) (by omega)).mono ?_
      rintro u w8 ⟨rfl, F8, K8, H8⟩
      have hcut : cut (D ++ [(inve pq.flatten 0 es, es)]) = D ++ [(inve pq.flatten 0 es, es)] := by unfold cut; rw [show (D ++ [(inve pq.flatten 0 es, es)]).length - 100 = 0 by simp; omega]; rfl
      rw [hcut] at H8
      have E8 : Ext w w8 := F8.ext E7 (by omega) (by omega)
      have z8 := F8.size
      have hrp8 := (hrp'.ext e7).keep K8
      have hrow8 := F8.own (hrow.ext e57) (by decide) hb
      have hoS8 : OwnS w8 o := fun g hg => (hoS.ext e57 g hg).congr (F8.blk g ((hrow.ext e57).lt g hg).2 (by have := ((hrow.ext e57).lt g hg).1; omega) fun _ hT => by
        obtain ⟨_, c, hc⟩ := (hrow.ext e57).ty hg
        obtain ⟨c', hc'⟩ := hT
        rw [hc] at hc'
        cases hc')
      refine (rtext_spec hrp8 hok').mono ?_
      rintro u w9 ⟨e9, rfl⟩
      refine sBuildSlice_own (n := 1) (enc := encTx) (xs := [txt pq'.flatten]) (lp := [(0, encTx (txt pq'.flatten))]) S.tel_L_string S.tsz_string rfl S.tze_string (by decide) (by decide) encTx_ok rfl rfl fun t10 w10 ht10 ho10 e10 hs10 => ?_
      have e810 := e9.trans e10
      have E10 := E8.trans e810
      have z10 := e810.size
      have hrow10 := hrow8.ext e810
      have hS10 := hoS8.ext e810
      refine sAppend_rowS S.tel_L_string S.tsz_string (by decide) S.tze_string rfl encTx_ok hrow10 (by omega) (ho10.sl encTx_ok) (by simp) (by simp; omega) (by rw [S.tby_string]; simp; omega) hS10 (fun u hu => by simp at hu; subst hu; rfl) (fun y u hu => by simp at hu; subst hu; rfl) fun o' w11 hrow11 hg11 _ hS11 => ?_
      have E11 : Ext w w11 := E10.wr hg11 fun g hg => by have := (hrow10.lt g hg).1; omega
      have H11 := (H8.ext e810).wrT hg11 fun g hg => hrow10.ty hg
      have hrp11 := (hrp8.ext e810).keep (.of_grown hg11 fun g hg _ => hS10 g hg)
      rw [sBin_add _ _ ⟨by omega, by omega⟩]
      have z11 := hg11.size
      have hch' : Chain (ts ++ [pq'.flatten]) (D ++ [(inve pq.flatten 0 es, es)]) := by rw [hfl']; exact hch.push htD hgood
      refine ⟨⟨E11, by omega, i + 1, _, o', pq', ts ++ [pq'.flatten], D ++ [(inve pq.flatten 0 es, es)], by simp, by omega, by simp; omega, hch', ?_, H11, ?_, hS11, hrp11, hok'⟩, by simp only []; omega⟩
      · rw [List.getElem?_append_right (by simp; omega), show (D ++ [(inve pq.flatten 0 es, es)]).length - ts.length = 0 by simp; omega]
        rfl
      · rw [List.map_append]
        exact hrow11
    · rcases hu with ⟨_, rfl⟩ | ⟨h, _⟩
      case neg.inr => exact absurd h h0
      rw [sExtract_0, sExtract_1]
      refine (binvert_big (hrp.ext e6) hok (hes.ext E6) hfb).mono ?_
      rintro u w7 ⟨e7, hu⟩
      obtain rfl : u = .tuple #[.slice none 0 0, .int .i64 (wrg pq.flatten.length es)] := by
        rcases hu with ⟨_, h⟩ | ⟨h, _⟩
        · exact h
        · exact absurd h h0
      have E7 := E6.trans e7
      have e57 := e6.trans e7
      rw [sExtract_0, sExtract_1]
      refine JoinS.intro (fun us w' => w' = w7 ∧ us = [.bool true]) ?_ ?_
      · rw [sBin_neq, sIf_not]
        exact ⟨fun _ => ⟨rfl, rfl⟩, fun h => absurd h h0⟩
      rintro us vs w7 ⟨rfl, rfl⟩
      unfold S.bodkinlaw12_HistoryTexts_J2
      rw [Go.Lift.hd, sIf_true, sBin_neq, sIf_not]
      refine ⟨fun h => absurd rfl h, fun _ => ?_⟩
      have htx := txt_len pq.flatten
      refine (rtext_spec (hrp.ext e57) hok).mono ?_
      rintro u w8 ⟨e8, rfl⟩
      refine (ddecode_spec (txt pq.flatten) (by omega)).mono ?_
      rintro q w9 ⟨e9, hq⟩
      rw [runes_of hok.runes] at hq
      have e59 := (e57.trans e8).trans e9
      have E9 := E5.trans e59
      rw [sLen_sl S.tel_L_int32 (hq.sl encRn_ok)]
      refine (dcheck9_spec _ (hes.ext E9)).mono ?_
      rintro u w10 ⟨e10, rfl⟩
      have e510 := e59.trans e10
      have z10 := e510.size
      have next : (Ext w w10 ∧ base ≤ w10.heap.size ∧ ∃ (i' : Nat) (rv' o' : Value) (pq' : List (List Int)) (ts' : List (List Int)) (D' : List (List Ed × List Ed)), [rv, o, Value.int .i64 ((i : Int) + 1)] = [rv', o', .int .i64 i'] ∧ i' ≤ ls.length ∧ D'.length ≤ i' ∧ Chain ts' D' ∧ ts'[D'.length]? = some pq'.flatten ∧ Hist w10 base b D' [] ∧
          Row w10 base S.T.string 1 o' encTx (ts'.map txt) ∧ OwnS w10 o' ∧ Rp w10 rv' pq' ∧ RpOk pq') :=
        ⟨E5.trans e510, by omega, i + 1, rv, o, pq, ts, D, by simp, by omega, by omega, hch, htD, hH.ext e510, hrow.ext e510, hoS.ext e510, hrp.ext e510, hok⟩
      rw [sBin_eql, sIf_dec]
      refine ⟨fun hc0 => ?_, fun _ => ?_⟩
      · rw [sBin_neq, sIf_not]
        refine ⟨fun h5 => absurd ?_ h5, fun _ => ?_⟩
        · unfold wrg at h0 ⊢
          rw [if_pos hc0] at h0 ⊢
          split at h0
          · rename_i h; rw [if_pos h]
          · exact absurd rfl h0
        · rw [sBin_add _ _ ⟨by omega, by omega⟩]
          exact ⟨next, by simp only []; omega⟩
      · rw [sBin_add _ _ ⟨by omega, by omega⟩]
        exact ⟨next, by simp only []; omega⟩
  have hlen : (ts.map txt).length = D.length + 1 := by rw [List.length_map, htl]
  rw [sLen_sl S.tel_L_string (hrow.sl encTx_ok), hlen, sBin_sub _ _ ⟨by omega, by omega⟩]
  have hsm := hch.sm
  refine LoopS.intro (fun us w' => Ext w w' ∧ base ≤ w'.heap.size ∧ ∃ (j : Nat) (rv : Value) (pq : List (List Int)), us = [rv, .int .i64 ((j : Int) - 1)] ∧ j ≤ D.length ∧ ts[j]? = some pq.flatten ∧ Hist w' base b (D.take j) (D.drop j).reverse ∧
      Row w' base S.T.string 1 o encTx (ts.map txt) ∧ Rp w' rv pq ∧ RpOk pq)
    (fun us _ => match us with | [_, .int _ a] => (a + 1).toNat | _ => 0)
    ⟨E5, hb5, D.length, rv, pq, by congr 2; push_cast; congr 1; omega, Nat.le_refl _, htD, by rw [List.take_length, List.drop_length]; exact hH, hrow, hrp, hok⟩ ?_
  clear hH hrow hrp hok hoS htD hle hfl
  rintro us vs w6 ⟨E6, hb6, j, rv, pq, rfl, hj, htj, hH, hrow, hrp, hok⟩
  unfold S.bodkinlaw12_HistoryTexts_L3
  have hle := hok.le
  rw [Go.Lift.hd, Go.Lift.tl, Go.Lift.hd, sBin_geq, sIf_dec]
  refine ⟨fun hge0 => ?_, fun hlt0 => ?_⟩
  · obtain ⟨j, rfl⟩ : ∃ j', j = j' + 1 := ⟨j - 1, by omega⟩
    obtain ⟨d, hd⟩ : ∃ d, D[j]? = some d := ⟨_, List.getElem?_eq_getElem (by omega)⟩
    obtain ⟨a, ha⟩ : ∃ a, ts[j]? = some a := ⟨_, List.getElem?_eq_getElem (by omega)⟩
    obtain ⟨g1, g2, g3, g4⟩ := hch.2 j d a _ hd ha htj
    refine (undo_spec hH (by omega) (by rw [List.length_take]; omega) (by rw [List.length_reverse, List.length_drop]; omega) (fun x hx => hsm x (List.mem_of_mem_take hx))).mono ?_
    rintro u w7 ⟨F7, K7, ev, n, l, rfl, hev, h7⟩
    rw [take_succ_of hd] at h7
    rcases h7 with ⟨h, _⟩ | ⟨D', d', hD', rfl, rfl, H7⟩
    · simp at h
    obtain ⟨rfl, rfl⟩ := snoc_inj hD'
    rw [take_rev hd] at H7
    have E7 : Ext w w7 := F7.ext E6 (by omega) (by omega)
    have z7 := F7.size
    have hrow7 := F7.own hrow (by decide) hb
    rw [sExtract_0, sExtract_1]
    refine (bapply_big (hM.ext E7) (hrp.keep K7) hok (hev.sl encE_ok) (fits_B (wrg_fits g3))).mono ?_
    rintro u w8 ⟨e8, hu⟩
    rcases hu with ⟨h, _⟩ | ⟨_, bv, pq', rfl, hrp', hok', hfl'⟩
    · exact absurd g3 h
    rw [g4] at hfl'
    have E8 := E7.trans e8
    have z8 := e8.size
    rw [sExtract_0, sExtract_1]
    refine DrawS.ext ?_
    have E : Ext w8 w8.drew := (Ext.refl w8).drew
    have hrow8 := (hrow7.ext e8).sl encTx_ok
    have htx : (ts.map txt)[j]? = some (txt pq'.flatten) := by rw [List.getElem?_map, ha, hfl']; rfl
    obtain ⟨bb, of, hel, hc⟩ := hrow8.el htx
    rw [stillS_eq (fun w' h1 K => sBin_neq _ _) E, sIf_not]
    refine ⟨fun h => absurd rfl h, fun _ => ?_⟩
    rw [stillS_eq (fun w' h1 K => sBin_neq _ _) E, sIf_not]
    refine ⟨fun h => absurd rfl h, fun _ => ?_⟩
    rw [stillS_eq (fun w' h1 K => sBin_ptr_eq S.tpt_P_rope_Rope) E, Option.isNone_some, sIf_false, stillS_eq (fun w' h1 K => sIdxA_sl S.tel_L_string S.tsz_string (by omega) (hrow8.ext h1) htx (by omega)) E, hel, stillS_cell (v := tv (txt pq'.flatten)) S.tcell_string (hc.fst rfl) E]
    refine (rtext_spec (hrp'.ext E) hok').mono ?_
    rintro u w9 ⟨e9, rfl⟩
    have C9 := E.trans e9
    have z9 := C9.size
    refine ⟨C9, ?_⟩
    rw [stillS_eq (fun w' h1 K => sBin_sNe _) C9, sIf_false, sBin_sub _ _ ⟨by omega, by omega⟩]
    exact ⟨⟨E8.trans C9, by omega, j, _, pq', by congr 2; push_cast; congr 1; omega, by omega, by rw [ha, hfl'], H7.ext (e8.trans C9), hrow7.ext (e8.trans C9), hrp'.ext C9, hok'⟩, by simp only []; omega⟩
  obtain rfl : j = 0 := by omega
  rw [List.take_zero, List.drop_zero] at hH
  refine LoopS.intro (fun us w' => Ext w w' ∧ base ≤ w'.heap.size ∧ ∃ (j : Nat) (rv : Value) (pq : List (List Int)), us = [rv, .int .i64 ((j : Int) + 1)] ∧ j ≤ D.length ∧ ts[j]? = some pq.flatten ∧ Hist w' base b (D.take j) (D.drop j).reverse ∧
      Row w' base S.T.string 1 o encTx (ts.map txt) ∧ Rp w' rv pq ∧ RpOk pq)
    (fun us _ => match us with | [_, .int _ a] => ((D.length : Int) + 2 - a).toNat | _ => 0)
    ⟨E6, hb6, 0, rv, pq, rfl, Nat.zero_le _, htj, by rw [List.take_zero, List.drop_zero]; exact hH, hrow, hrp, hok⟩ ?_
  clear hH hrow hrp hok htj hle
  rintro us vs w7 ⟨E7, hb7, j, rv, pq, rfl, hj2, htj, hH, hrow, hrp, hok⟩
  unfold S.bodkinlaw12_HistoryTexts_L4
  have hle := hok.le
  rw [Go.Lift.hd, Go.Lift.tl, Go.Lift.hd, sLen_sl S.tel_L_string (hrow.sl encTx_ok), hlen, sBin_lss, sIf_dec]
  refine ⟨fun hlt => ?_, fun hge2 => ?_⟩
  · obtain ⟨d, hd⟩ : ∃ d, D[j]? = some d := ⟨_, List.getElem?_eq_getElem (by omega)⟩
    obtain ⟨a, ha⟩ : ∃ a, ts[j + 1]? = some a := ⟨_, List.getElem?_eq_getElem (by omega)⟩
    obtain ⟨g1, g2, g3, g4⟩ := hch.2 j d _ a hd htj ha
    refine (redo_spec hH (by omega) (by rw [List.length_take]; omega) (by rw [List.length_reverse, List.length_drop]; omega) (fun x hx => hsm x (List.mem_of_mem_drop (List.mem_reverse.1 hx)))).mono ?_
    rintro u w8 ⟨F8, K8, ev, n, l, rfl, hev, h8⟩
    rw [← take_rev hd] at h8
    rcases h8 with ⟨h, _⟩ | ⟨U', d', hU', rfl, rfl, H8⟩
    · simp at h
    obtain ⟨rfl, rfl⟩ := snoc_inj hU'
    rw [← take_succ_of hd] at H8
    have E8 : Ext w w8 := F8.ext E7 (by omega) (by omega)
    have z8 := F8.size
    have hrow8 := F8.own hrow (by decide) hb
    rw [sExtract_0, sExtract_1]
    refine (bapply_big (hM.ext E8) (hrp.keep K8) hok (hev.sl encE_ok) (fits_B (wrg_fits g1))).mono ?_
    rintro u w9 ⟨e9, hu⟩
    rcases hu with ⟨h, _⟩ | ⟨_, bv, pq', rfl, hrp', hok', hfl'⟩
    · exact absurd g1 h
    rw [g2] at hfl'
    have E9 := E8.trans e9
    have z9 := e9.size
    rw [sExtract_0, sExtract_1]
    refine DrawS.ext ?_
    have E : Ext w9 w9.drew := (Ext.refl w9).drew
    have hrow9 := (hrow8.ext e9).sl encTx_ok
    have htx : (ts.map txt)[j + 1]? = some (txt pq'.flatten) := by rw [List.getElem?_map, ha, hfl']; rfl
    obtain ⟨bb, of, hel, hc⟩ := hrow9.el htx
    rw [stillS_eq (fun w' h1 K => sBin_neq _ _) E, sIf_not]
    refine ⟨fun h => absurd rfl h, fun _ => ?_⟩
    rw [stillS_eq (fun w' h1 K => sBin_neq _ _) E, sIf_not]
    refine ⟨fun h => absurd rfl h, fun _ => ?_⟩
    rw [stillS_eq (fun w' h1 K => sBin_ptr_eq S.tpt_P_rope_Rope) E, Option.isNone_some, sIf_false, stillS_eq (fun w' h1 K => sIdxA_sl S.tel_L_string S.tsz_string (by omega) (hrow9.ext h1) htx (by omega)) E, hel, stillS_cell (v := tv (txt pq'.flatten)) S.tcell_string (hc.fst rfl) E]
    refine (rtext_spec (hrp'.ext E) hok').mono ?_
    rintro u w10 ⟨e10, rfl⟩
    have C10 := E.trans e10
    have z10 := C10.size
    refine ⟨C10, ?_⟩
    rw [stillS_eq (fun w' h1 K => sBin_sNe _) C10, sIf_false, sBin_add _ _ ⟨by omega, by omega⟩]
    exact ⟨⟨E9.trans C10, by omega, j + 1, _, pq', by simp, by omega, by rw [ha, hfl'], H8.ext (e9.trans C10), hrow8.ext (e9.trans C10), hrp'.ext C10, hok'⟩, by simp only []; omega⟩
  · obtain rfl : j = D.length := by omega
    rw [List.drop_length, List.reverse_nil] at hH
    refine (redo_spec hH (by omega) (by rw [List.length_take]; omega) (by simp) (fun x hx => by simp at hx)).mono ?_
    rintro u w8 ⟨F8, K8, ev, n, l, rfl, hev, h8⟩
    have E8 : Ext w w8 := F8.ext E7 (by omega) (by omega)
    rcases h8 with ⟨_, rfl, _⟩ | ⟨U', d', hU', _⟩
    · rw [sExtract_0, sExtract_1, sBin_eql, sIf_pos rfl]
      exact then_again E8
    · simp at hU'
end Go.Proofs.YtpjmmhbdondknaaDoor.H

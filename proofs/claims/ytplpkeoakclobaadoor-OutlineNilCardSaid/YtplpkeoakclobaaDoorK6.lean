/- Partners of brackets, walked; the laws of them; nil ropes. Conditions: the tables of widths and of sizes in memory. -/
import Derived.Test.YtplpkeoakclobaaDoorK5
namespace Go.Proofs.YtplpkeoakclobaaDoor
open Go Go.Lift Go.RowKit Go.Txt

theorem opartner_spec {w : World} {v : Value} {ps : List (List Int)} {a : Int} (h : Rp w v ps) (hp : RpOk ps) : sCall Tryd.prog S.outline_Partner.n [v, .int .i64 a] w fun u w' => Ext w w' ∧ ∃ n e : Int, Pr ps.flatten a n e ∧ u = .tuple #[.int .i64 n, .int .i64 e] := by
  refine S.outline_Partner.call ?_
  unfold S.outline_Partner
  have hle := hp.le
  refine (rat_spec (at_ := a) h hp).mono ?_
  rintro u w1 ⟨e1, hu⟩
  rcases hu with ⟨hn, rfl⟩ | ⟨hin, c, hc, rfl⟩
  · rw [sExtract_0, sExtract_1, sBin_neq, sIf_not]
    exact ⟨fun _ => ⟨e1, 0, 1, .inl ⟨hn, rfl, rfl⟩, rfl⟩, fun h => absurd h (by decide)⟩
  obtain ⟨A, rfl⟩ : ∃ A : Nat, a = A := ⟨a.toNat, by omega⟩
  rw [Int.toNat_natCast] at hc
  rw [sExtract_0, sExtract_1, sBin_neq, sIf_not]
  refine ⟨fun h => absurd rfl h, fun _ => ?_⟩
  refine (opair_spec c).mono ?_
  rintro u w2 ⟨e2, rfl⟩
  have E2 := e1.trans e2
  rw [sExtract_0, sExtract_1, sBin_eql, sIf_dec]
  refine ⟨fun h0 => ⟨E2, 0, 4, .inr ⟨A, c, rfl, hc, .inl ⟨?_, rfl, rfl⟩⟩, rfl⟩, fun h0 => ?_⟩
  · by_cases ho : oth c = 0
    · exact ho
    · rw [if_neg ho] at h0
      have := (oth_facts ho).2.2.2
      omega
  have ho : oth c ≠ 0 := fun h1 => h0 (by rw [if_pos h1])
  rw [if_neg ho]
  obtain ⟨f1, f2, f3, f4⟩ := oth_facts ho
  refine (rtext_spec (h.ext E2) hp).mono ?_
  rintro u w3 ⟨e3, rfl⟩
  have E3 := E2.trans e3
  have htl := txt_len ps.flatten
  refine (udecode_spec (txt ps.flatten) (by omega)).mono ?_
  rintro q w4 ⟨e4, hq⟩
  rw [runes_of hp.runes] at hq
  have E4 := E3.trans e4
  have hqs := hq.sl encRn_ok
  generalize hl : ps.flatten = l at *
  have hA : Qs l c (oth c) (A + 1) = Qs l c (oth c) A + 1 := by rw [Qs_succ hc]; unfold sg; rw [if_pos rfl]
  have hsg : ∀ (x d : Int) (M : List Value → World → Prop) (w' : World), (∀ d', d' = d + sg c (oth c) x → M [.int .i64 d'] w') → -1000000 ≤ d → d ≤ 1000000 →
      (sBin Tryd.prog .eql S.T.int32 false false (.int .i32 x) (.int .i32 c) w' fun x50 w =>
        sIf x50 (
          sBin Tryd.prog .add S.T.int false true (.int .i64 d) (.int .i64 1) w fun x52 w =>
          M [x52] w) (
          sBin Tryd.prog .eql S.T.int32 false false (.int .i32 x) (.int .i32 (oth c)) w fun x55 w =>
          sIf x55 (
            sBin Tryd.prog .sub S.T.int false true (.int .i64 d) (.int .i64 1) w fun x57 w =>
            M [x57] w) (
            M [.int .i64 d] w))) := by
    intro x d M w' hM h1 h2
    rw [sBin_eql, sIf_dec]
    refine ⟨fun h3 => ?_, fun h3 => ?_⟩
    · rw [sBin_add _ _ ⟨by omega, by omega⟩]
      exact hM _ (by unfold sg; rw [if_pos h3])
    · rw [sBin_eql, sIf_dec]
      refine ⟨fun h4 => ?_, fun h4 => ?_⟩
      · rw [sBin_sub _ _ ⟨by omega, by omega⟩]
        exact hM _ (by unfold sg; rw [if_neg h3, if_pos h4]; omega)
      · exact hM _ (by unfold sg; rw [if_neg h3, if_neg h4]; omega)
  rcases f4 with hst | hst
  · rw [hst]
    refine LoopS.intro (fun us w5 => w5 = w4 ∧ ∃ (i : Nat) (d : Int), us = [.int .i64 d, .int .i64 i] ∧ A ≤ i ∧ i ≤ l.length ∧ d = Qs l c (oth c) i - Qs l c (oth c) A ∧ ∀ k, A ≤ k → k < i → Qs l c (oth c) (k + 1) ≠ Qs l c (oth c) A)
      (fun us _ => match us with | [_, .int _ a] => (l.length - a).toNat | _ => 0) ⟨rfl, A, 0, rfl, Nat.le_refl _, by omega, by omega, fun k h1 h2 => by omega⟩ ?_
    rintro us vs w5 ⟨rfl, i, d, rfl, hAi, hi, rfl, hno⟩
    unfold S.outline_Partner_L1
    rw [Go.Lift.hd, Go.Lift.tl, Go.Lift.hd, sBin_geq, sIf_dec]
    refine ⟨fun _ => ?_, fun h => by omega⟩
    rw [sLen_sl S.tel_L_int32 hqs, sBin_lss, sIf_dec]
    refine ⟨fun hlt => ?_, fun hge => ⟨E4, 0, 6, .inr ⟨A, c, rfl, hc, .inr (.inl ⟨ho, hst, .inr ⟨fun j hj => ?_, rfl, rfl⟩⟩)⟩, rfl⟩⟩
    · obtain ⟨x, hx⟩ : ∃ x, l[i]? = some x := ⟨_, List.getElem?_eq_getElem (by omega)⟩
      obtain ⟨bb, of, hel, hcl⟩ := hqs.el hx
      have hb1 := Qs_bd l c (oth c) i
      have hb2 := Qs_bd l c (oth c) A
      refine JoinS.intro (fun us w' => w' = w5 ∧ us = [.int .i64 (Qs l c (oth c) (i + 1) - Qs l c (oth c) A)]) ?_ ?_
      · rw [sIdxA_sl S.tel_L_int32 S.tsz_int32 (by omega) hqs hx rfl, hel, sLoad_cell (v := .int .i32 x) S.tcell_int32 (hcl.fst rfl)]
        refine hsg x (Qs l c (oth c) i - Qs l c (oth c) A) (fun us w' => w' = w5 ∧ us = [.int .i64 (Qs l c (oth c) (i + 1) - Qs l c (oth c) A)]) w5 (fun d' hd' => ⟨rfl, ?_⟩) (by omega) (by omega)
        rw [hd', Qs_succ hx]
        congr 2
        omega
      · rintro us vs w6 ⟨rfl, rfl⟩
        unfold S.outline_Partner_J2
        rw [Go.Lift.hd, sBin_eql, sIf_dec]
        refine ⟨fun hz => ⟨E4, i, 0, .inr ⟨A, c, rfl, hc, .inr (.inl ⟨ho, hst, .inl ⟨i, ⟨hAi, by omega, by omega, hno⟩, rfl, rfl⟩⟩)⟩, rfl⟩, fun hz => ?_⟩
        rw [sBin_add _ _ ⟨by omega, by omega⟩]
        refine ⟨⟨rfl, i + 1, _, by simp, by omega, by omega, rfl, fun k h1 h2 => ?_⟩, by simp only []; omega⟩
        by_cases hki : k = i
        · subst hki; omega
        · exact hno k h1 (by omega)
    · have := hj.lt
      exact hno j hj.ge (by omega) hj.eq
  · rw [hst]
    refine LoopS.intro (fun us w5 => w5 = w4 ∧ ∃ (k : Nat) (d : Int), us = [.int .i64 d, .int .i64 ((k : Int) - 1)] ∧ k ≤ A + 1 ∧ d = Qs l c (oth c) (A + 1) - Qs l c (oth c) k ∧ ∀ j, k ≤ j → j ≤ A → Qs l c (oth c) j ≠ Qs l c (oth c) (A + 1))
      (fun us _ => match us with | [_, .int _ a] => (a + 1).toNat | _ => 0) ⟨rfl, A + 1, 0, by simp, Nat.le_refl _, by omega, fun k h1 h2 => by omega⟩ ?_
    rintro us vs w5 ⟨rfl, k, d, rfl, hkA, rfl, hno⟩
    unfold S.outline_Partner_L1
    have hlen := (List.getElem?_eq_some_iff.1 hc).1
    rw [Go.Lift.hd, Go.Lift.tl, Go.Lift.hd, sBin_geq, sIf_dec]
    refine ⟨fun hk0 => ?_, fun hk0 => ⟨E4, 0, 6, .inr ⟨A, c, rfl, hc, .inr (.inr ⟨ho, hst, .inr ⟨fun j hj => ?_, rfl, rfl⟩⟩)⟩, rfl⟩⟩
    · obtain ⟨i, rfl⟩ : ∃ i, k = i + 1 := ⟨k - 1, by omega⟩
      have hi1 : ((i + 1 : Nat) : Int) - 1 = i := by omega
      rw [hi1, sLen_sl S.tel_L_int32 hqs, sBin_lss, sIf_dec]
      refine ⟨fun hlt => ?_, fun hge => by omega⟩
      obtain ⟨x, hx⟩ : ∃ x, l[i]? = some x := ⟨_, List.getElem?_eq_getElem (by omega)⟩
      obtain ⟨bb, of, hel, hcl⟩ := hqs.el hx
      have hb1 := Qs_bd l c (oth c) (i + 1)
      have hb2 := Qs_bd l c (oth c) (A + 1)
      have hs := Qs_succ (c := c) (o := oth c) hx
      refine JoinS.intro (fun us w' => w' = w5 ∧ us = [.int .i64 (Qs l c (oth c) (A + 1) - Qs l c (oth c) i)]) ?_ ?_
      · rw [sIdxA_sl S.tel_L_int32 S.tsz_int32 (by omega) hqs hx rfl, hel, sLoad_cell (v := .int .i32 x) S.tcell_int32 (hcl.fst rfl)]
        refine hsg x (Qs l c (oth c) (A + 1) - Qs l c (oth c) (i + 1)) (fun us w' => w' = w5 ∧ us = [.int .i64 (Qs l c (oth c) (A + 1) - Qs l c (oth c) i)]) w5 (fun d' hd' => ⟨rfl, ?_⟩) (by omega) (by omega)
        rw [hd']
        congr 2
        omega
      · rintro us vs w6 ⟨rfl, rfl⟩
        unfold S.outline_Partner_J2
        rw [Go.Lift.hd, sBin_eql, sIf_dec]
        refine ⟨fun hz => ⟨E4, i, 0, .inr ⟨A, c, rfl, hc, .inr (.inr ⟨ho, hst, .inl ⟨i, ⟨by omega, by omega, fun j h1 h2 => hno j (by omega) h2⟩, rfl, rfl⟩⟩)⟩, rfl⟩, fun hz => ?_⟩
        rw [sBin_add _ _ ⟨by omega, by omega⟩]
        refine ⟨⟨rfl, i, _, by rw [show (i : Int) + -1 = (i : Int) - 1 by omega], by omega, rfl, fun j h1 h2 => ?_⟩, by simp only []; omega⟩
        by_cases hji : j = i
        · subst hji; omega
        · exact hno j (by omega) h2
    · have := hj.le
      exact hno j (by omega) this hj.eq
theorem dother_spec {w : World} (c : Int) : sCall Tryd.prog S.bodkinref43_Other.n [.int .i32 c] w fun u w' => w' = w ∧ u = .int .i32 (oth c) := by
  refine S.bodkinref43_Other.call ?_
  unfold S.bodkinref43_Other oth
  rw [sBin_eql, sIf_dec]
  refine ⟨fun h => ⟨rfl, by rw [if_pos h]⟩, fun h => ?_⟩
  rw [if_neg h, sBin_eql, sIf_dec]
  refine ⟨fun h => ⟨rfl, by rw [if_pos h]⟩, fun h => ?_⟩
  rw [if_neg h, sBin_eql, sIf_dec]
  refine ⟨fun h => ⟨rfl, by rw [if_pos h]⟩, fun h => ?_⟩
  rw [if_neg h, sBin_eql, sIf_dec]
  refine ⟨fun h => ⟨rfl, by rw [if_pos h]⟩, fun h => ?_⟩
  rw [if_neg h, sBin_eql, sIf_dec]
  refine ⟨fun h => ⟨rfl, by rw [if_pos h]⟩, fun h => ?_⟩
  rw [if_neg h, sBin_eql, sIf_dec]
  refine ⟨fun h => ⟨rfl, by rw [if_pos h]⟩, fun h => ?_⟩
  rw [if_neg h]
  exact ⟨rfl, rfl⟩
theorem dstep43_spec {w : World} (c : Int) : sCall Tryd.prog S.bodkinref43_step.n [.int .i32 c] w fun u w' => w' = w ∧ u = .int .i64 (stp c) := by
  refine S.bodkinref43_step.call ?_
  unfold S.bodkinref43_step stp
  rw [sBin_eql, sIf_dec]
  refine ⟨fun h => ⟨rfl, by rw [if_pos h]⟩, fun h => ?_⟩
  rw [if_neg h, sBin_eql, sIf_dec]
  refine ⟨fun h => ⟨rfl, by rw [if_pos h]⟩, fun h => ?_⟩
  rw [if_neg h, sBin_eql, sIf_dec]
  refine ⟨fun h => ⟨rfl, by rw [if_pos h]⟩, fun h => ?_⟩
  rw [if_neg h]
  exact ⟨rfl, rfl⟩
theorem dpartner_spec {w : World} {v : Value} {l : List Int} {a : Int} (hl : Sl w v 1 encRn l) (hn : l.length ≤ 1000000) : sCall Tryd.prog S.bodkinref43_Partner.n [v, .int .i64 a] w fun u w' => Ext w w' ∧ ∃ n e : Int, Pr l a n e ∧ u = .tuple #[.int .i64 n, .int .i64 e] := by
  refine S.bodkinref43_Partner.call ?_
  unfold S.bodkinref43_Partner
  rw [sBin_lss, sIf_dec]
  refine ⟨fun h => ⟨Ext.refl w, 0, 1, .inl ⟨fun h2 => by omega, rfl, rfl⟩, rfl⟩, fun h0 => ?_⟩
  rw [sLen_sl S.tel_L_int32 hl, sBin_geq, sIf_dec]
  refine ⟨fun h => ⟨Ext.refl w, 0, 1, .inl ⟨fun h2 => by omega, rfl, rfl⟩, rfl⟩, fun h1 => ?_⟩
  obtain ⟨A, rfl⟩ : ∃ A : Nat, a = A := ⟨a.toNat, by omega⟩
  obtain ⟨c, hc⟩ : ∃ c, l[A]? = some c := ⟨_, List.getElem?_eq_getElem (by omega)⟩
  have hlen := (List.getElem?_eq_some_iff.1 hc).1
  obtain ⟨b0, o0, hel0, hcl0⟩ := hl.el hc
  rw [sIdxA_sl S.tel_L_int32 S.tsz_int32 (by omega) hl hc rfl, hel0, sLoad_cell (v := .int .i32 c) S.tcell_int32 (hcl0.fst rfl)]
  refine (dother_spec c).mono ?_
  rintro u w1 ⟨rfl, rfl⟩
  rw [sBin_eql, sIf_dec]
  refine ⟨fun h => ⟨Ext.refl _, 0, 4, .inr ⟨A, c, rfl, hc, .inl ⟨h, rfl, rfl⟩⟩, rfl⟩, fun ho => ?_⟩
  obtain ⟨f1, f2, f3, f4⟩ := oth_facts ho
  have body : ∀ (i : Nat) (op sh x : Int) (w5 : World) (Nx : List Value → World → Prop), Ext w1 w5 → l[i]? = some x → -1 ≤ op → op ≤ 1000001 → -1 ≤ sh → sh ≤ 1000001 →
      (∀ op' sh' : Int, ∀ w' : World, Ext w1 w' → 0 ≤ op' - op → op' - op ≤ 1 → 0 ≤ sh' - sh → sh' - sh ≤ 1 → op' - sh' = op - sh + sg c (oth c) x → (op' = sh' → ∃ n e : Int, Pr l A n e ∧ (.tuple #[.int .i64 i, .int .i64 0] : Value) = .tuple #[.int .i64 n, .int .i64 e]) ∧ (op' ≠ sh' → Nx [.int .i64 op', .int .i64 sh', .int .i64 ((i : Int) + stp c)] w')) →
      JoinS 1 11 (fun M2 =>
        DrawS w5 fun C w =>
        stillS C w (fun w k => sIdxA Tryd.prog S.T.L_int32 v (.int .i64 i) w k) fun x43 =>
        stillS C w (fun w k => sLoad Tryd.prog S.T.int32 x43 w k) fun x44 =>
        stillS C w (fun w k => sIdxA Tryd.prog S.T.L_int32 v (.int .i64 A) w k) fun x47 =>
        stillS C w (fun w k => sLoad Tryd.prog S.T.int32 x47 w k) fun x48 =>
        stillS C w (fun w k => sBin Tryd.prog .eql S.T.int32 false false x44 x48 w k) fun x49 =>
        sIf x49 (
          sBin Tryd.prog .add S.T.int false true (.int .i64 op) (.int .i64 1) w fun x51 w =>
          M2 [x51] w) (
          M2 [.int .i64 op] w)) fun us _ w =>
        S.bodkinref43_Partner_J2 (fun u w' => Ext w1 w' ∧ ∃ n e : Int, Pr l A n e ∧ u = .tuple #[.int .i64 n, .int .i64 e]) Nx (.int .i64 A) (.int .i64 i) v (.int .i64 sh) (.int .i32 (oth c)) (Go.Lift.hd us) w := by
    intro i op sh x w5 Nx e5 hx a1 a2 a3 a4 fin
    have hl5 := hl.ext e5
    obtain ⟨b1, o1, hel1, hcl1⟩ := hl5.el hx
    obtain ⟨b2, o2, hel2, hcl2⟩ := hl5.el hc
    refine JoinS.intro (fun us w' => Ext w5 w' ∧ us = [.int .i64 (op + if x = c then 1 else 0)]) ?_ ?_
    · refine DrawS.ext ?_
      have E : Ext w5 w5.drew := (Ext.refl w5).drew
      rw [stillS_eq (fun w' h1 K => sIdxA_sl S.tel_L_int32 S.tsz_int32 (by omega) (hl5.ext h1) hx rfl) E, hel1, stillS_cell (v := .int .i32 x) S.tcell_int32 (hcl1.fst rfl) E, stillS_eq (fun w' h1 K => sIdxA_sl S.tel_L_int32 S.tsz_int32 (by omega) (hl5.ext h1) hc rfl) E, hel2, stillS_cell (v := .int .i32 c) S.tcell_int32 (hcl2.fst rfl) E, stillS_eq (fun w' h1 K => sBin_eql _ _) E, sIf_dec]
      refine ⟨fun h => ?_, fun h => ⟨E, by rw [if_neg h, Int.add_zero]⟩⟩
      rw [sBin_add _ _ ⟨by omega, by omega⟩]
      exact ⟨E, by rw [if_pos h]⟩
    · rintro us vs w6 ⟨e6, rfl⟩
      unfold S.bodkinref43_Partner_J2
      have hl6 := hl5.ext e6
      have E6 := e5.trans e6
      refine JoinS.intro (fun us w' => w' = w6 ∧ us = [.int .i64 (sh + if x = oth c then 1 else 0)]) ?_ ?_
      · rw [sIdxA_sl S.tel_L_int32 S.tsz_int32 (by omega) hl6 hx rfl, hel1, sLoad_cell (v := .int .i32 x) S.tcell_int32 ((hcl1.ext e6).fst rfl), sBin_eql, sIf_dec]
        refine ⟨fun h => ?_, fun h => ⟨rfl, by rw [if_neg h, Int.add_zero]⟩⟩
        rw [sBin_add _ _ ⟨by omega, by omega⟩]
        exact ⟨rfl, by rw [if_pos h]⟩
      · rintro us vs w7 ⟨rfl, rfl⟩
        unfold S.bodkinref43_Partner_J3
        have hop : 0 ≤ (op + if x = c then 1 else 0) - op ∧ (op + if x = c then 1 else 0) - op ≤ 1 := by split <;> omega
        have hsh : 0 ≤ (sh + if x = oth c then 1 else 0) - sh ∧ (sh + if x = oth c then 1 else 0) - sh ≤ 1 := by split <;> omega
        have hdif : (op + if x = c then 1 else 0) - (sh + if x = oth c then 1 else 0) = op - sh + sg c (oth c) x := by
          unfold sg
          by_cases h1 : x = c
          · have : x ≠ oth c := fun h2 => f1 (h2.symm.trans h1)
            rw [if_pos h1, if_neg this, if_pos h1]; omega
          · rw [if_neg h1, if_neg h1]
            by_cases h2 : x = oth c
            · rw [if_pos h2, if_pos h2]; omega
            · rw [if_neg h2, if_neg h2]; omega
        obtain ⟨g1, g2⟩ := fin _ _ w7 E6 hop.1 hop.2 hsh.1 hsh.2 hdif
        rw [Go.Lift.hd, Go.Lift.hd, sBin_eql, sIf_dec]
        refine ⟨fun h => ⟨E6, g1 h⟩, fun h => ?_⟩
        rw [sIdxA_sl S.tel_L_int32 S.tsz_int32 (by omega) hl6 hc rfl, hel2, sLoad_cell (v := .int .i32 c) S.tcell_int32 ((hcl2.ext e6).fst rfl)]
        refine (dstep43_spec c).mono ?_
        rintro u w8 ⟨rfl, rfl⟩
        have hil := (List.getElem?_eq_some_iff.1 hx).1
        rw [sBin_add _ _ ⟨by omega, by omega⟩]
        exact g2 h
  rcases f4 with hst | hst
  · refine LoopS.intro (fun us w5 => Ext w1 w5 ∧ ∃ (i : Nat) (op sh : Int), us = [.int .i64 op, .int .i64 sh, .int .i64 i] ∧ A ≤ i ∧ i ≤ l.length ∧ 0 ≤ op ∧ op ≤ i ∧ 0 ≤ sh ∧ sh ≤ i ∧ op - sh = Qs l c (oth c) i - Qs l c (oth c) A ∧ ∀ k, A ≤ k → k < i → Qs l c (oth c) (k + 1) ≠ Qs l c (oth c) A)
      (fun us _ => match us with | [_, _, .int _ a] => (l.length - a).toNat | _ => 0) ⟨Ext.refl _, A, 0, 0, rfl, Nat.le_refl _, by omega, by omega, by omega, by omega, by omega, by omega, fun k h1 h2 => by omega⟩ ?_
    rintro us vs w5 ⟨e5, i, op, sh, rfl, hAi, hi, b1, b2, b3, b4, hd, hno⟩
    unfold S.bodkinref43_Partner_L1
    rw [Go.Lift.hd, Go.Lift.tl, Go.Lift.hd, Go.Lift.tl, Go.Lift.hd, sBin_geq, sIf_dec]
    refine ⟨fun _ => ?_, fun h => by omega⟩
    rw [sLen_sl S.tel_L_int32 (hl.ext e5), sBin_lss, sIf_dec]
    refine ⟨fun hlt => ?_, fun hge => ⟨e5, 0, 6, .inr ⟨A, c, rfl, hc, .inr (.inl ⟨ho, hst, .inr ⟨fun j hj => ?_, rfl, rfl⟩⟩)⟩, rfl⟩⟩
    · obtain ⟨x, hx⟩ : ∃ x, l[i]? = some x := ⟨_, List.getElem?_eq_getElem (by omega)⟩
      refine body i op sh x w5 _ e5 hx (by omega) (by omega) (by omega) (by omega) fun op' sh' w' ew c1 c2 c3 c4 c5 => ?_
      have hs := Qs_succ (c := c) (o := oth c) hx
      refine ⟨fun heq => ⟨i, 0, .inr ⟨A, c, rfl, hc, .inr (.inl ⟨ho, hst, .inl ⟨i, ⟨hAi, by omega, by omega, hno⟩, rfl, rfl⟩⟩)⟩, rfl⟩, fun hne => ?_⟩
      refine ⟨⟨ew, i + 1, op', sh', by rw [hst]; simp, by omega, by omega, by omega, by omega, by omega, by omega, by omega, fun k h1 h2 => ?_⟩, by simp only []; omega⟩
      by_cases hki : k = i
      · subst hki; omega
      · exact hno k h1 (by omega)
    · have := hj.lt
      exact hno j hj.ge (by omega) hj.eq
  · refine LoopS.intro (fun us w5 => Ext w1 w5 ∧ ∃ (k : Nat) (op sh : Int), us = [.int .i64 op, .int .i64 sh, .int .i64 ((k : Int) - 1)] ∧ k ≤ A + 1 ∧ 0 ≤ op ∧ op ≤ (A + 1 - k : Nat) ∧ 0 ≤ sh ∧ sh ≤ (A + 1 - k : Nat) ∧ op - sh = Qs l c (oth c) (A + 1) - Qs l c (oth c) k ∧ ∀ j, k ≤ j → j ≤ A → Qs l c (oth c) j ≠ Qs l c (oth c) (A + 1))
      (fun us _ => match us with | [_, _, .int _ a] => (a + 1).toNat | _ => 0) ⟨Ext.refl _, A + 1, 0, 0, by simp, Nat.le_refl _, by omega, by omega, by omega, by omega, by omega, fun k h1 h2 => by omega⟩ ?_
    rintro us vs w5 ⟨e5, k, op, sh, rfl, hkA, b1, b2, b3, b4, hd, hno⟩
    unfold S.bodkinref43_Partner_L1
    rw [Go.Lift.hd, Go.Lift.tl, Go.Lift.hd, Go.Lift.tl, Go.Lift.hd, sBin_geq, sIf_dec]
    refine ⟨fun hk0 => ?_, fun hk0 => ⟨e5, 0, 6, .inr ⟨A, c, rfl, hc, .inr (.inr ⟨ho, hst, .inr ⟨fun j hj => ?_, rfl, rfl⟩⟩)⟩, rfl⟩⟩
    · obtain ⟨i, rfl⟩ : ∃ i, k = i + 1 := ⟨k - 1, by omega⟩
      have hi1 : ((i + 1 : Nat) : Int) - 1 = i := by omega
      rw [hi1, sLen_sl S.tel_L_int32 (hl.ext e5), sBin_lss, sIf_dec]
      refine ⟨fun hlt => ?_, fun hge => by omega⟩
      obtain ⟨x, hx⟩ : ∃ x, l[i]? = some x := ⟨_, List.getElem?_eq_getElem (by omega)⟩
      refine body i op sh x w5 _ e5 hx (by omega) (by omega) (by omega) (by omega) fun op' sh' w' ew c1 c2 c3 c4 c5 => ?_
      have hs := Qs_succ (c := c) (o := oth c) hx
      refine ⟨fun heq => ⟨i, 0, .inr ⟨A, c, rfl, hc, .inr (.inr ⟨ho, hst, .inl ⟨i, ⟨by omega, by omega, fun j h1 h2 => hno j (by omega) h2⟩, rfl, rfl⟩⟩)⟩, rfl⟩, fun hne => ?_⟩
      refine ⟨⟨ew, i, op', sh', by rw [hst]; simp; omega, by omega, by omega, by omega, by omega, by omega, by omega, fun j h1 h2 => ?_⟩, by simp only []; omega⟩
      by_cases hji : j = i
      · subst hji; omega
      · exact hno j (by omega) h2
    · have := hj.le
      exact hno j (by omega) this hj.eq
theorem outlinePartners_spec {w : World} (hM : Mem w) (s : List UInt8) (a : Int) : S.bodkinlaw43_OutlinePartners (Yo w) (tv s) (.int .i64 a) w := by
  unfold S.bodkinlaw43_OutlinePartners
  rw [sLen_str tstr, sBin_gtr, sIf_dec]
  refine ⟨fun _ => endOne hM (Ext.refl w), fun hs => ?_⟩
  have hrl := runes_len s
  refine (rnew_one hM.m (by omega)).mono ?_
  rintro u w1 ⟨e1, b, ps, rfl, hr, hp, hfl⟩
  rw [sExtract_0, sExtract_1]
  refine (opartner_spec (a := a) hr hp).mono ?_
  rintro u w2 ⟨e2, n, e, hpr, rfl⟩
  rw [sExtract_0, sExtract_1]
  refine (ddecode_spec s (by omega)).mono ?_
  rintro d w3 ⟨e3, hd⟩
  refine (dpartner_spec (a := a) (hd.sl encRn_ok) (by omega)).mono ?_
  rintro u w4 ⟨e4, n', e', hpr', rfl⟩
  rw [hfl] at hpr
  obtain ⟨rfl, rfl⟩ := hpr.det hpr'
  rw [sExtract_0, sExtract_1, sBin_eql, sIf_dec]
  refine ⟨fun _ => ?_, fun h => absurd rfl h⟩
  rw [sBin_eql, sIf_dec]
  refine ⟨fun _ => ?_, fun h => absurd rfl h⟩
  rw [sBin_eql, sIf_dec]
  exact ⟨fun _ => endOne hM (((e1.trans e2).trans e3).trans e4), fun h => absurd rfl h⟩
theorem outlineBack_spec {w : World} (hM : Mem w) (s : List UInt8) : S.bodkinlaw43_OutlineBack (Yo w) (tv s) w := by
  unfold S.bodkinlaw43_OutlineBack
  rw [sLen_str tstr, sBin_gtr, sIf_dec]
  refine ⟨fun _ => endOne hM (Ext.refl w), fun hs => ?_⟩
  have hrl := runes_len s
  refine (rnew_one hM.m (by omega)).mono ?_
  rintro u w1 ⟨e1, b, ps, rfl, hr, hp, hfl⟩
  rw [← hfl] at hrl
  rw [sExtract_0, sExtract_1, sBin_neq, sIf_not]
  refine ⟨fun h => absurd rfl h, fun _ => ?_⟩
  refine (ddecode_spec s (by omega)).mono ?_
  rintro d w2 ⟨e2, hd⟩
  rw [← hfl] at hd
  rw [sLen_sl S.tel_L_int32 (hd.sl encRn_ok)]
  refine LoopS.intro (fun us w3 => Ext w1 w3 ∧ ∃ i : Nat, us = [.int .i64 i] ∧ i ≤ ps.flatten.length)
    (fun us _ => match us with | [.int _ a] => (ps.flatten.length - a).toNat | _ => 0) ⟨e2, 0, rfl, Nat.zero_le _⟩ ?_
  rintro us vs w3 ⟨e3, i, rfl, hi⟩
  unfold S.bodkinlaw43_OutlineBack_L1
  rw [Go.Lift.hd, sBin_lss, sIf_dec]
  refine ⟨fun hlt => ?_, fun _ => endOne hM (e1.trans e3)⟩
  refine (opartner_spec (a := i) (hr.ext e3) hp).mono ?_
  rintro u w4 ⟨e4, n, e, hpr, rfl⟩
  have e14 := e3.trans e4
  rw [sExtract_0, sExtract_1, sBin_neq, sIf_not]
  refine ⟨fun hne => ?_, fun he0 => ?_⟩
  · rw [sBin_add _ _ ⟨by omega, by omega⟩]
    exact ⟨⟨e14, i + 1, by simp, by omega⟩, by simp only []; omega⟩
  · subst he0
    have hback : ∃ j : Nat, n = j ∧ j ≠ i ∧ Pr ps.flatten j i 0 := by
      rcases hpr with ⟨_, _, h⟩ | ⟨A, c, hA, hc, h⟩
      · exact absurd h (by decide)
      obtain rfl : A = i := by omega
      rcases h with ⟨_, _, h⟩ | ⟨ho, hst, h⟩ | ⟨ho, hst, h⟩
      · exact absurd h (by decide)
      · rcases h with ⟨j, hj, rfl, _⟩ | ⟨_, _, h⟩
        · obtain ⟨h1, h2, h3⟩ := back_of hc ho hj
          obtain ⟨f1, f2, f3, f4⟩ := oth_facts ho
          have hc0 : c ≠ 0 := by rintro rfl; exact ho (by decide)
          exact ⟨j, rfl, by omega, .inr ⟨j, oth c, rfl, h1, .inr (.inr ⟨by rw [f2]; exact hc0, by rw [f3, hst], .inl ⟨A, by rw [f2]; exact h3, rfl, rfl⟩⟩)⟩⟩
        · exact absurd h (by decide)
      · rcases h with ⟨j, hj, rfl, _⟩ | ⟨_, _, h⟩
        · obtain ⟨h1, h2, h3⟩ := forth_of hc ho hj
          obtain ⟨f1, f2, f3, f4⟩ := oth_facts ho
          have hc0 : c ≠ 0 := by rintro rfl; exact ho (by decide)
          exact ⟨j, rfl, by omega, .inr ⟨j, oth c, rfl, h1, .inr (.inl ⟨by rw [f2]; exact hc0, by rw [f3, hst]; rfl, .inl ⟨A, by rw [f2]; exact h3, rfl, rfl⟩⟩)⟩⟩
        · exact absurd h (by decide)
    obtain ⟨j, rfl, hji, hprj⟩ := hback
    refine (opartner_spec (a := j) (hr.ext e14) hp).mono ?_
    rintro u w5 ⟨e5, n', e', hpr', rfl⟩
    obtain ⟨rfl, rfl⟩ := hpr'.det hprj
    rw [sExtract_0, sExtract_1, sBin_neq, sIf_not]
    refine ⟨fun h => absurd rfl h, fun _ => ?_⟩
    rw [sBin_neq, sIf_not]
    refine ⟨fun h => absurd rfl h, fun _ => ?_⟩
    rw [sBin_eql, sIf_dec]
    refine ⟨fun h => absurd (by omega) hji, fun _ => ?_⟩
    rw [sBin_add _ _ ⟨by omega, by omega⟩]
    exact ⟨⟨e14.trans e5, i + 1, by simp, by omega⟩, by simp only []; omega⟩
theorem nil_inds : inds 4 [] = [-1] := by
  have h1 : indP 4 (rowL [] 0) = -1 := indP_none (by simp [rowL])
  show (List.range 1).map (fun k => indP 4 (rowL [] k)) = [-1]
  rw [show List.range 1 = [0] from rfl]
  simp only [List.map_cons, List.map_nil, h1]
theorem nil_rngs : rngs [] [-1] 1 = [] := by
  have h0 : lastI [-1] 0 = 0 := lastI_eq ⟨by omega, by decide, .inl rfl, fun to h1 h2 => by
    have h2 : to < 1 := h2
    omega⟩
  rw [rngs_succ, h0, if_neg (by decide)]
  rfl
theorem outlineNil_spec {w : World} (hM : Mem w) (a : Int) : S.bodkinlaw43_OutlineNil (Yo w) (.int .i64 a) w := by
  unfold S.bodkinlaw43_OutlineNil
  have hp : RpOk [] := ⟨fun p hp => by simp at hp, by simp⟩
  have hnil : ∀ w : World, Rp w (.pointer none) [] := fun w => .inl ⟨rfl, rfl⟩
  refine (oindents_spec (tab := 4) hM.g (hnil w) hp).mono ?_
  rintro u w1 ⟨e1, hu⟩
  rcases hu with ⟨h, _⟩ | ⟨_, x, rfl, hx⟩
  · exact absurd right4 h
  have hx : Row w1 w.heap.size S.T.int 1 x encZ (inds 4 []) := hx
  rw [nil_inds] at hx
  rw [sExtract_0, sExtract_1]
  refine (oranges_spec (tab := 4) (hM.g.ext e1) (hnil w1) hp).mono ?_
  rintro u w2 ⟨e2, hu⟩
  rcases hu with ⟨h, _⟩ | ⟨_, y, rfl, hy⟩
  · exact absurd right4 h
  have hy : Row w2 w1.heap.size S.T.outline_Range 4 y encG (rngs [] (inds 4 []) 1) := hy
  rw [nil_inds, nil_rngs] at hy
  rw [sExtract_0, sExtract_1]
  refine (opartner_spec (a := a) (hnil w2) hp).mono ?_
  rintro u w3 ⟨e3, n, e, hpr, rfl⟩
  have he : e = 1 := by
    rcases hpr with ⟨_, _, h⟩ | ⟨A, c, _, hc, _⟩
    · exact h
    · simp at hc
  subst he
  rw [sExtract_0, sExtract_1, sBin_eql, sIf_dec]
  refine ⟨fun _ => ?_, fun h => absurd rfl h⟩
  rw [sBin_eql, sIf_dec]
  refine ⟨fun _ => ?_, fun h => absurd rfl h⟩
  rw [sBin_eql, sIf_dec]
  refine ⟨fun _ => ?_, fun h => absurd rfl h⟩
  refine sBuildSlice_own (n := 1) (enc := encZ) (xs := [-1]) (lp := [(0, [.int .i64 (-1)])]) S.tel_L_int S.tsz_int rfl S.tze_int (by decide) (by decide) encZ_ok rfl rfl fun t w4 ht ho4 e4 hs4 => ?_
  have e24 := e3.trans e4
  refine (intsEq_spec ((hx.sl encZ_ok).ext (e2.trans e24)) (ho4.sl encZ_ok)).mono ?_
  rintro u w5 ⟨e5, r, rfl, hr⟩
  rw [hr.2 rfl, sIf_true, sLen_sl S.tel_L_outline_Range ((hy.sl encG_ok).ext (e24.trans e5)), sBin_eql, sIf_dec]
  exact ⟨fun _ => endOne hM ((e1.trans e2).trans (e24.trans e5)), fun h => absurd rfl h⟩
end Go.Proofs.YtplpkeoakclobaaDoor

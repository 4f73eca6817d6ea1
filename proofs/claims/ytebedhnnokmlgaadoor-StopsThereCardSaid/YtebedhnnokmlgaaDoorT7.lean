/- What 'StopsThere' answers: true. Condition: the package's two tables hold what its text says. -/
import Derived.Test.YtebedhnnokmlgaaDoorT6
namespace Go.Proofs.YtebedhnnokmlgaaDoor
open Go Go.Lift Go.RowKit

theorem pos_mono {f : Int → Int} {tab : Int} {ls : List Int} (h : Okt f tab) {i j : Nat} (hij : i ≤ j) : pos f tab ls i ≤ pos f tab ls j := by
  induction j with
  | zero => obtain rfl : i = 0 := by omega
            exact Int.le_refl _
  | succ j ih =>
    by_cases e : i = j + 1
    · subst e; exact Int.le_refl _
    · have := ih (by omega)
      cases hx : ls[j]? with
      | none => simp only [pos, hx]; exact this
      | some r => rw [pos_succ hx]; have := siz_bd (r := r) (at_ := pos f tab ls j) h; omega
theorem lst_spec {f : Int → Int} {tab a : Int} {ls : List Int} (ha : 0 ≤ a) : ∀ n : Nat, lst f tab ls a (n + 1) ≤ n ∧ pos f tab ls (lst f tab ls a (n + 1)) ≤ a ∧ ∀ j, lst f tab ls a (n + 1) < j → j ≤ n → a < pos f tab ls j
  | 0 => by
    have : lst f tab ls a 1 = 0 := by unfold lst; split <;> simp [lst]
    rw [this]
    exact ⟨Nat.le_refl _, by simpa [pos] using ha, fun j h1 h2 => by omega⟩
  | n + 1 => by
    by_cases h : pos f tab ls (n + 1) ≤ a
    · have : lst f tab ls a (n + 1 + 1) = n + 1 := by simp [lst, h]
      rw [this]
      exact ⟨Nat.le_refl _, h, fun j h1 h2 => by omega⟩
    · have : lst f tab ls a (n + 1 + 1) = lst f tab ls a (n + 1) := by rw [lst]; simp [h]
      rw [this]
      obtain ⟨h1, h2, h3⟩ := lst_spec (f := f) (tab := tab) (ls := ls) ha n
      refine ⟨by omega, h2, fun j h4 h5 => ?_⟩
      by_cases e : j = n + 1
      · subst e; omega
      · exact h3 j h4 (by omega)

section
variable {w : World} {l : Value} {ls : List Int} {tab : Int}
/-- The cell of a place that is one. -/
theorem cell_at {p : Value} {a : Int} (hp : TabR w p zeroL wideL) (hr : Right tab) (hl : Sl w l 1 (encI .i32) ls) (hn : ls.length ≤ 60) (h0 : 0 ≤ a) (h1 : a ≤ ls.length) :
    sCall Tryd.prog S.stops_Cell.n [p, l, .agg (encQ tab a).toArray] w fun u w' => Ext w w' ∧ u = .tuple #[.int .i64 (pos fP tab ls a.toNat), .int .i64 0] := by
  refine (cell_spec (ofP hp) (ofT_le _ _) hl (by omega)).mono ?_
  rintro u w' ⟨e, c, n, rfl, h⟩
  rcases h with h | ⟨_, _, _, rfl, rfl⟩
  · exact absurd ⟨hr, h0, h1⟩ h.1
  · exact ⟨e, rfl⟩
theorem place_at {p : Value} {a : Int} (hp : TabR w p zeroL wideL) (hr : Right tab) (hl : Sl w l 1 (encI .i32) ls) (hn : ls.length ≤ 60) (h0 : 0 ≤ a) (h1 : a ≤ pos fP tab ls ls.length) :
    sCall Tryd.prog S.stops_Place.n [p, l, .agg (encQ tab a).toArray] w fun u w' => Ext w w' ∧ ∃ k : Nat, u = .tuple #[.int .i64 k, .int .i64 (a - pos fP tab ls k), .int .i64 0] ∧ k ≤ ls.length ∧ pos fP tab ls k ≤ a ∧ ∀ j, k < j → j ≤ ls.length → a < pos fP tab ls j := by
  have hk : Okt fP tab := ⟨ofT_le _ _, hr⟩
  have hb := pos_bd (ls := ls) hk ls.length
  refine (place_spec (ofP hp) (ofT_le _ _) hl (by omega) ⟨by omega, by omega⟩).mono ?_
  rintro u w' ⟨e, c, m, n, rfl, h⟩
  rcases h with h | ⟨_, _, _, rfl, rfl, rfl⟩
  · exact absurd ⟨hr, h0, h1⟩ h.1
  · exact ⟨e, _, rfl, lst_spec h0 ls.length⟩
end

theorem there_L2 {w w0 : World} (hG : Glob w0) (e0 : Ext w0 w) {l : Value} {ls : List Int} {tab : Int} (hl : Sl w0 l 1 (encI .i32) ls) (hn : ls.length ≤ 60) (hr : Right tab) :
    LoopS [(.int .i64 0)] 1 56 w fun us _ w Nx2 => S.bodkinlaw17_StopsThere_L2 (Yes w0) Nx2 l (.int .i64 tab) (.int .i64 (pos fP tab ls ls.length)) (hd us) w := by
  have hk : Okt fP tab := ⟨ofT_le _ _, hr⟩
  have hb := pos_bd (ls := ls) hk ls.length
  refine LoopS.intro (fun us w1 => Ext w0 w1 ∧ ∃ c : Int, us = [.int .i64 c] ∧ 0 ≤ c ∧ c ≤ pos fP tab ls ls.length + 1)
    (fun us _ => match us with | [.int _ a] => (pos fP tab ls ls.length + 1 - a).toNat | _ => 0) ⟨e0, 0, rfl, Int.le_refl _, by omega⟩ ?_
  rintro us vs w1 ⟨e1, c, rfl, hc0, hc1⟩
  unfold S.bodkinlaw17_StopsThere_L2
  rw [hd, sBin_leq, sIf_dec]
  refine ⟨fun hle => ?_, fun _ => then_tab hG e1⟩
  refine JoinS.intro (fun us w' => us = [] ∧ Ext w0 w') ?_ ?_
  · refine (plain_spec (hG.ext e1)).mono ?_
    rintro p w2 ⟨e2, hp⟩
    rw [bQ]
    have E2 := e1.trans e2
    refine (place_at hp hr (hl.ext E2) hn hc0 hle).mono ?_
    rintro u w3 ⟨e3, k, rfl, hkl, hkc, hnext⟩
    have E3 := E2.trans e3
    rw [sExtract_0, sExtract_1, sExtract_2]
    refine (plain_spec (hG.ext E3)).mono ?_
    rintro p2 w4 ⟨e4, hp2⟩
    rw [bQ]
    have E4 := E3.trans e4
    refine (cell_at hp2 hr (hl.ext E4) hn (by omega) (by omega)).mono ?_
    rintro u w5 ⟨e5, rfl⟩
    have hkb := pos_bd (ls := ls) hk k
    rw [sExtract_0, sExtract_1, Int.toNat_natCast, sBin_neq, sIf_not]
    refine ⟨fun h => absurd rfl h, fun _ => ?_⟩
    rw [sBin_neq, sIf_not]
    refine ⟨fun h => absurd rfl h, fun _ => ?_⟩
    rw [sBin_add _ _ ⟨by omega, by omega⟩, sBin_neq, sIf_not]
    refine ⟨fun h => absurd (by omega) h, fun _ => ?_⟩
    rw [sBin_lss, sIf_neg (by omega), sBin_geq, sIf_dec]
    refine ⟨fun hge => ?_, fun _ => ⟨rfl, E4.trans e5⟩⟩
    have hm1 : c - pos fP tab ls k ≤ 1 := by
      by_cases e : k = ls.length
      · subst e; omega
      · obtain ⟨r, hx⟩ : ∃ x, ls[k]? = some x := ⟨_, List.getElem?_eq_getElem (by omega)⟩
        have h1 := hnext (k + 1) (by omega) (by omega)
        rw [pos_succ hx] at h1
        have h2 := hk.hf r
        have hm1 := Int.emod_nonneg (pos fP tab ls k) (show tab ≠ 0 by omega)
        have h3 : siz fP tab r (pos fP tab ls k) ≤ tab ∨ siz fP tab r (pos fP tab ls k) ≤ 2 := by
          unfold siz
          split
          · split <;> omega
          · omega
        omega
    rw [sBin_gtr, sIf_neg (by omega)]
    exact ⟨rfl, E4.trans e5⟩
  rintro us vs w2 ⟨rfl, e2⟩
  unfold S.bodkinlaw17_StopsThere_J3
  rw [sBin_add _ _ ⟨by omega, by omega⟩]
  exact ⟨⟨e2, c + 1, rfl, by omega, by omega⟩, by simp only []; omega⟩

theorem stopsThere_spec {w : World} (hG : Glob w) {l : Value} {ls : List Int} (hl : Sl w l 1 (encI .i32) ls) (tab : Int) : S.bodkinlaw17_StopsThere (Yes w) l (.int .i64 tab) w := by
  unfold S.bodkinlaw17_StopsThere
  rw [sLen_sl S.tel_L_int32 hl, sBin_gtr, sIf_dec]
  refine ⟨fun _ => then_tab hG (Ext.refl w), fun hn => ?_⟩
  refine (refright_spec tab).mono ?_
  rintro u w' ⟨rfl, t, rfl, ht⟩
  rw [sUn_not, sIf_bool]
  refine ⟨fun _ => then_tab hG (Ext.refl _), fun h => ?_⟩
  have hr : Right tab := ht.1 (by simpa using h)
  have hk : Okt fP tab := ⟨ofT_le _ _, hr⟩
  refine (plain_spec hG).mono ?_
  rintro p w1 ⟨e1, hp⟩
  rw [sLen_sl S.tel_L_int32 (hl.ext e1), bQ]
  refine (cell_at hp hr (hl.ext e1) (by omega) (by omega) (Int.le_refl _)).mono ?_
  rintro u w2 ⟨e2, rfl⟩
  rw [sExtract_0, sExtract_1, Int.toNat_natCast, sBin_neq, sIf_not]
  refine ⟨fun h => absurd rfl h, fun _ => ?_⟩
  refine LoopS.intro (fun us w3 => Ext w' w3 ∧ ∃ i : Nat, us = [.int .i64 i] ∧ i ≤ ls.length + 1)
    (fun us _ => match us with | [.int _ a] => ((ls.length + 1 : Nat) - a).toNat | _ => 0) ⟨e1.trans e2, 0, rfl, Nat.zero_le _⟩ ?_
  rintro us vs w3 ⟨e3, i, rfl, hi⟩
  unfold S.bodkinlaw17_StopsThere_L1
  rw [sLen_sl S.tel_L_int32 (hl.ext e3), hd, sBin_leq, sIf_dec]
  refine ⟨fun hle => ?_, fun _ => there_L2 hG e3 hl (by omega) hr⟩
  refine (plain_spec (hG.ext e3)).mono ?_
  rintro p3 w4 ⟨e4, hp3⟩
  rw [bQ]
  have E4 := e3.trans e4
  refine (cell_at hp3 hr (hl.ext E4) (by omega) (by omega) (by omega)).mono ?_
  rintro u w5 ⟨e5, rfl⟩
  have E5 := E4.trans e5
  rw [sExtract_0, sExtract_1, Int.toNat_natCast]
  refine (plain_spec (hG.ext E5)).mono ?_
  rintro p4 w6 ⟨e6, hp4⟩
  rw [bQ]
  have E6 := E5.trans e6
  have hbi := pos_bd (ls := ls) hk i
  refine (place_at hp4 hr (hl.ext E6) (by omega) hbi.1 (pos_mono hk (by omega))).mono ?_
  rintro u w7 ⟨e7, k, rfl, hkl, hkc, hnext⟩
  have E7 := E6.trans e7
  have hik : i ≤ k := Nat.le_of_not_lt fun hlt => by have := hnext i hlt (by omega); omega
  have hpk : pos fP tab ls k = pos fP tab ls i := Int.le_antisymm hkc (pos_mono hk hik)
  rw [sExtract_0, sExtract_1, sExtract_2, sBin_neq, sIf_not]
  refine ⟨fun h => absurd rfl h, fun _ => ?_⟩
  rw [sBin_neq, sIf_not]
  refine ⟨fun h => absurd rfl h, fun _ => ?_⟩
  rw [sBin_lss, sIf_neg (by omega), sBin_neq, sIf_not]
  refine ⟨fun h => absurd (by omega) h, fun _ => ?_⟩
  refine (plain_spec (hG.ext E7)).mono ?_
  rintro p5 w8 ⟨e8, hp5⟩
  rw [bQ]
  have E8 := E7.trans e8
  refine (cell_at hp5 hr (hl.ext E8) (by omega) (by omega) (by omega)).mono ?_
  rintro u w9 ⟨e9, rfl⟩
  have E9 := E8.trans e9
  rw [sExtract_0, sExtract_1, Int.toNat_natCast, sBin_neq, sIf_not]
  refine ⟨fun h => absurd rfl h, fun _ => ?_⟩
  rw [sBin_neq, sIf_not]
  refine ⟨fun h => absurd hpk h, fun _ => ?_⟩
  rw [sBin_add _ _ ⟨by omega, by omega⟩]
  exact ⟨⟨E9, i + 1, by simp, by omega⟩, by simp only []; omega⟩
end Go.Proofs.YtebedhnnokmlgaaDoor

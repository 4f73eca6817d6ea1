/- Whether parts are too long to be gone through. Conditions: parts in memory. -/
import Derived.Test.YtebedhnnokmlgaaDoorC8
namespace Go.Proofs.YtebedhnnokmlgaaDoor
open Go Go.Lift Go.RowKit

theorem long_spec {w : World} {l : Value} {ps : List Pt} (hl : Parts w l ps) : sCall Tryd.prog S.bodkinlaw18_long.n [l] w fun u w' => Ext w w' ∧ ∃ r, u = .bool r ∧ (r = false → Sml ps) := by
  refine S.bodkinlaw18_long.call ?_
  unfold S.bodkinlaw18_long
  obtain ⟨pvs, hsl, hlen, hall⟩ := hl
  rw [sLen_sl S.tel_L_cells_Part hsl, sBin_gtr, sIf_dec]
  refine ⟨fun _ => ⟨Ext.refl _, true, rfl, fun h => by cases h⟩, fun hn => ?_⟩
  rw [sLen_sl S.tel_L_cells_Part hsl]
  refine LoopS.intro (fun us w1 => Ext w w1 ∧ ∃ (i : Nat) (n : Int), us = [.int .i64 n, .int .i64 i] ∧ i ≤ ps.length ∧ 0 ≤ n ∧ n ≤ 300 * i ∧ ∀ p ∈ ps.take i, p.2.2.length ≤ 300 ∧ 0 ≤ p.2.1 ∧ p.2.1 ≤ 1099511627776)
    (fun us _ => match us with | [_, .int _ a] => (ps.length - a).toNat | _ => 0) ⟨Ext.refl _, 0, 0, rfl, Nat.zero_le _, Int.le_refl _, by simp, by simp⟩ ?_
  rintro us vs w1 ⟨he, i, n, rfl, hi, hn0, hn1, hb⟩
  unfold S.bodkinlaw18_long_L1
  rw [hd, tl, hd, sBin_lss, sIf_dec]
  refine ⟨fun hlt => ?_, fun hge => ?_⟩
  · obtain ⟨p, hp⟩ : ∃ x, ps[i]? = some x := ⟨_, List.getElem?_eq_getElem (by omega)⟩
    obtain ⟨pv, hpv⟩ : ∃ x, pvs[i]? = some x := ⟨_, List.getElem?_eq_getElem (by omega)⟩
    obtain ⟨hk1, hk2, hrs⟩ := hall i pv p hpv hp
    obtain ⟨b, o, hel, hc⟩ := (hsl.ext he).el hpv
    rw [sIdxA_sl S.tel_L_cells_Part S.tsz_cells_Part (by omega) (hsl.ext he) hpv rfl, hel, sLoad_agg S.tagg_cells_Part hc rfl]
    refine sVar S.tze_cells_Part S.tsz_cells_Part (by decide) rfl rfl (encP_ok.one pv) fun b2 w2 hb2 hs2 he2 hk => ?_
    have E2 := he.trans he2
    have ka := hk.cells.at 1 rfl
    have kr := hk.cells.at 2 rfl
    rw [sFldA_ptr S.tfl_cells_Part_Runes, sLoad_cell S.tcell_L_int32 kr, sLen_sl S.tel_L_int32 (hrs.ext E2), sBin_gtr, sIf_dec]
    refine ⟨fun _ => ⟨E2, true, rfl, fun h => by cases h⟩, fun h1 => ?_⟩
    rw [sFldA_ptr S.tfl_cells_Part_At, sLoad_cell S.tcell_int ka, sBin_lss, sIf_dec]
    refine ⟨fun _ => ⟨E2, true, rfl, fun h => by cases h⟩, fun h2 => ?_⟩
    rw [sFldA_ptr S.tfl_cells_Part_At, sLoad_cell S.tcell_int ka, sBin_gtr, sIf_dec]
    refine ⟨fun _ => ⟨E2, true, rfl, fun h => by cases h⟩, fun h3 => ?_⟩
    rw [sFldA_ptr S.tfl_cells_Part_Runes, sLoad_cell S.tcell_L_int32 kr, sLen_sl S.tel_L_int32 (hrs.ext E2), sBin_add _ _ ⟨by omega, by omega⟩, sBin_add _ _ ⟨by omega, by omega⟩]
    refine ⟨⟨E2, i + 1, n + p.2.2.length, by simp, by omega, by omega, by omega, ?_⟩, by simp only []; omega⟩
    intro x hx
    rw [take_succ_of hp] at hx
    rcases List.mem_append.1 hx with hx | hx
    · exact hb x hx
    · simp at hx; subst hx; omega
  · rw [sBin_gtr]
    refine ⟨he, _, rfl, fun _ => ⟨by omega, ?_⟩⟩
    have : i = ps.length := by omega
    subst this
    rwa [List.take_length] at hb
end Go.Proofs.YtebedhnnokmlgaaDoor

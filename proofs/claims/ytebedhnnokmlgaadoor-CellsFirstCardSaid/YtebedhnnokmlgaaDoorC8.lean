/- The document's parts: copies of them, and whether they are wrong. Conditions: parts in memory. -/
import Derived.Test.YtebedhnnokmlgaaDoorC6
namespace Go.Proofs.YtebedhnnokmlgaaDoor
open Go Go.Lift Go.RowKit

theorem bR {w : World} {K : K1} (k a : Int) (x : SV) : sBuild Tryd.prog 81 [(0, .int .i64 k), (1, .int .i64 a), (2, sv x)] w K = K (.agg (encP (k, a, x)).toArray) w :=
  sBuild_of (lp := [(0, [.int .i64 k]), (1, [.int .i64 a]), (2, [sv x])]) S.tze_bodkinref18_Part S.tpl_bodkinref18_Part rfl rfl

theorem refs_spec {w : World} {l : Value} {ps : List Pt} (hl : Parts w l ps) (hn : ps.length ≤ 60) : sCall Tryd.prog S.bodkinlaw18_refs.n [l] w fun u w' => Ext w w' ∧ Parts w' u ps := by
  refine S.bodkinlaw18_refs.call ?_
  unfold S.bodkinlaw18_refs
  obtain ⟨pvs, hsl, hlen, hall⟩ := hl
  rw [sLen_sl S.tel_L_cells_Part hsl]
  refine LoopS.intro (fun us w1 => Ext w w1 ∧ ∃ (i : Nat) (v : Value), us = [v, .int .i64 i] ∧ i ≤ pvs.length ∧ Row w1 w.heap.size S.T.bodkinref18_Part 3 v encP (pvs.take i))
    (fun us _ => match us with | [_, .int _ a] => (pvs.length - a).toNat | _ => 0) ⟨Ext.refl w, 0, _, rfl, Nat.zero_le _, Row.nil _ _ _ _ _⟩ ?_
  rintro us vs w1 ⟨he, i, v, rfl, hi, hv⟩
  unfold S.bodkinlaw18_refs_L1
  rw [hd, tl, hd, sBin_lss, sIf_dec]
  refine ⟨fun hlt => ?_, fun hge => ⟨he, pvs, ?_, hlen, fun i pv p a b => let ⟨x, y, z⟩ := hall i pv p a b; ⟨x, y, z.ext he⟩⟩⟩
  · obtain ⟨pv, hpv⟩ : ∃ x, pvs[i]? = some x := ⟨_, List.getElem?_eq_getElem (by omega)⟩
    obtain ⟨b, o, hel, hc⟩ := (hsl.ext he).el hpv
    rw [sIdxA_sl S.tel_L_cells_Part S.tsz_cells_Part (by omega) (hsl.ext he) hpv rfl, hel, sLoad_agg S.tagg_cells_Part hc rfl]
    refine sVar S.tze_cells_Part S.tsz_cells_Part (by decide) rfl rfl (encP_ok.one pv) fun b2 w2 hb2 hs2 he2 hk => ?_
    rw [sFldA_ptr S.tfl_cells_Part_Kind, sLoad_cell S.tcell_int (hk.cells.at 0 rfl), sFldA_ptr S.tfl_cells_Part_At, sLoad_cell S.tcell_int (hk.cells.at 1 rfl), sFldA_ptr S.tfl_cells_Part_Runes, sLoad_cell S.tcell_L_int32 (hk.cells.at 2 rfl), bR]
    refine sBuildSlice_own (n := 1) (enc := encP) (xs := [pv]) (lp := [(0, encP pv)]) S.tel_L_bodkinref18_Part S.tsz_bodkinref18_Part rfl S.tze_bodkinref18_Part (by decide) (by decide) encP_ok rfl rfl fun t w3 _ ho3 he3 _ => ?_
    have E3 := (he.trans he2).trans he3
    refine sAppend_row S.tel_L_bodkinref18_Part S.tsz_bodkinref18_Part (by decide) S.tze_bodkinref18_Part rfl encP_ok ((hv.ext he2).ext he3) E3.size (ho3.sl encP_ok) (by have : maxLen = 9223372036854775807 := rfl; simp; omega) (by rw [S.tby_bodkinref18_Part]; simp; omega) fun v' w4 hv4 hg4 _ => ?_
    rw [sBin_add _ _ ⟨by omega, by omega⟩]
    exact ⟨⟨E3.wr hg4 fun g hg => (hv.lt g hg).1, i + 1, v', by simp, by omega, by rw [take_succ_of hpv]; exact hv4⟩, by simp only []; omega⟩
  · obtain rfl : i = pvs.length := by omega
    rw [List.take_length] at hv
    exact hv.sl encP_ok

theorem wrong_spec {w : World} {l : Value} {ps : List Pt} {tab : Int} (hl : Parts w l ps) (hn : ps.length ≤ 60) : sCall Tryd.prog S.bodkinref18_Wrong.n [l, .int .i64 tab] w fun u w' => Ext w w' ∧ ∃ e : Int, u = .int .i64 e ∧ ((¬ Right tab ∧ e = 1) ∨ (Right tab ∧ ¬ OkP ps ∧ e = 4) ∨ (Right tab ∧ OkP ps ∧ e = 0)) := by
  refine S.bodkinref18_Wrong.call ?_
  unfold S.bodkinref18_Wrong
  obtain ⟨pvs, hsl, hlen, hall⟩ := hl
  refine (refright_spec tab).mono ?_
  rintro u w' ⟨rfl, t, rfl, ht⟩
  rw [sUn_not, sIf_bool]
  refine ⟨fun h => ⟨Ext.refl _, 1, rfl, .inl ⟨fun hr => (by rw [ht.2 hr] at h; cases h), rfl⟩⟩, fun h => ?_⟩
  have hr : Right tab := ht.1 (by simpa using h)
  rw [sLen_sl S.tel_L_bodkinref18_Part hsl]
  refine LoopS.intro (fun us w1 => Ext w' w1 ∧ ∃ i : Nat, us = [.int .i64 i] ∧ i ≤ ps.length ∧ OkP (ps.take i))
    (fun us _ => match us with | [.int _ a] => (ps.length - a).toNat | _ => 0) ⟨Ext.refl _, 0, rfl, Nat.zero_le _, fun p hp => by simp at hp⟩ ?_
  rintro us vs w1 ⟨he, i, rfl, hi, hok⟩
  unfold S.bodkinref18_Wrong_L1
  rw [hd, sBin_lss, sIf_dec]
  refine ⟨fun hlt => ?_, fun hge => ⟨he, 0, rfl, .inr (.inr ⟨hr, ?_, rfl⟩)⟩⟩
  · obtain ⟨p, hp⟩ : ∃ x, ps[i]? = some x := ⟨_, List.getElem?_eq_getElem (by omega)⟩
    obtain ⟨pv, hpv⟩ : ∃ x, pvs[i]? = some x := ⟨_, List.getElem?_eq_getElem (by omega)⟩
    obtain ⟨hk1, hk2, hrs⟩ := hall i pv p hpv hp
    obtain ⟨b, o, hel, hc⟩ := (hsl.ext he).el hpv
    rw [sIdxA_sl S.tel_L_bodkinref18_Part S.tsz_bodkinref18_Part (by omega) (hsl.ext he) hpv rfl, hel, sLoad_agg S.tagg_bodkinref18_Part hc rfl]
    refine sVar S.tze_bodkinref18_Part S.tsz_bodkinref18_Part (by decide) rfl rfl (encP_ok.one pv) fun b2 w2 hb2 hs2 he2 hk => ?_
    have kd := hk.cells.at 0 rfl
    have hbad : ¬ (1 ≤ p.1 ∧ p.1 ≤ 3) → ¬ OkP ps := fun h1 h2 => h1 (h2 p (List.mem_of_getElem? hp))
    rw [sFldA_ptr S.tfl_bodkinref18_Part_Kind, sLoad_cell S.tcell_int kd, sBin_lss, sIf_dec, sFldA_ptr S.tfl_bodkinref18_Part_Kind, sLoad_cell S.tcell_int kd, sBin_gtr, sIf_dec, sBin_add _ _ ⟨by omega, by omega⟩]
    refine ⟨fun h1 => ⟨he.trans he2, 4, rfl, .inr (.inl ⟨hr, hbad (by omega), rfl⟩)⟩, fun h1 => ⟨fun h2 => ⟨he.trans he2, 4, rfl, .inr (.inl ⟨hr, hbad (by omega), rfl⟩)⟩, fun h2 => ⟨⟨he.trans he2, i + 1, by simp, by omega, ?_⟩, by simp only []; omega⟩⟩⟩
    intro x hx
    rw [take_succ_of hp] at hx
    rcases List.mem_append.1 hx with hx | hx
    · exact hok x hx
    · simp at hx; subst hx; omega
  · have : i = ps.length := by omega
    subst this
    rwa [List.take_length] at hok
end Go.Proofs.YtebedhnnokmlgaaDoor

/- 'CellsWide' answers true. Condition: the package's two tables hold what its text says. -/
import Derived.Test.YtebedhnnokmlgaaDoorC16
namespace Go.Proofs.YtebedhnnokmlgaaDoor
open Go Go.Lift Go.RowKit

theorem wids_rep (a b : Int) (x : Int) : ∀ k : Nat, wids (List.replicate k (a, b, 1, x)) = k
  | 0 => rfl
  | k + 1 => by
    rw [List.replicate_succ, show ((a, b, 1, x) : Ce) :: List.replicate k (a, b, 1, x) = [(a, b, 1, x)] ++ List.replicate k (a, b, 1, x) from rfl, wids_append, wids_rep a b x k]
    simp [wids]; omega
theorem wids_exp {c : Ce} {n : Int} (h : c.1 = 9 → 1 ≤ n) : wids (exp c n) = n := by
  unfold exp
  rw [show ∀ (x : Ce) (l : List Ce), x :: l = [x] ++ l from fun _ _ => rfl, wids_append, wids_rep]
  have : wids [(c.1, c.2.1, widC c n, c.2.2.2)] = widC c n := by simp [wids]
  rw [this]
  unfold widC
  split
  · have := h ‹_›; omega
  · omega
theorem wids_ofN {f : Int → Int} {tab : Int} {cs : List Ce} (hk : Okt f tab) : ∀ n, n ≤ cs.length → wids (ofN cs (szs f tab (lineOf cs) cs.length) n) = pos f tab (lineOf cs) n
  | 0, _ => by simp [ofN, wids, pos]
  | n + 1, h => by
    obtain ⟨c, hc⟩ : ∃ x, cs[n]? = some x := ⟨_, List.getElem?_eq_getElem (by omega)⟩
    have hr : (lineOf cs)[n]? = some c.1 := by unfold lineOf; rw [List.getElem?_map, hc]; rfl
    rw [ofN_succ hc (szs_at hr (by omega)), wids_append, wids_ofN hk n (by omega), pos_succ hr, wids_exp]
    intro h9
    unfold siz
    have := Int.emod_nonneg (pos f tab (lineOf cs) n) (show tab ≠ 0 by have := hk.ht; omega)
    have := Int.emod_lt_of_pos (pos f tab (lineOf cs) n) (show 0 < tab by have := hk.ht; omega)
    rw [if_pos h9]
    split <;> omega
theorem widC_bd {c : Ce} {n : Int} (h : 0 ≤ n ∧ n ≤ 16) : ∀ d ∈ exp c n, 0 ≤ d.2.2.1 ∧ d.2.2.1 ≤ 1099511627776 := by
  intro d hd
  unfold exp at hd
  rcases List.mem_cons.1 hd with rfl | h2
  · unfold widC; dsimp only; split <;> omega
  · rw [List.mem_replicate] at h2; rw [h2.2]; dsimp only; omega
theorem ofL_bd {f : Int → Int} {tab : Int} {ps : List Pt} (hk : Okt f tab) : ∀ d ∈ ofL f tab ps, 0 ≤ d.2.2.1 ∧ d.2.2.1 ≤ 1099511627776 := by
  intro d hd
  unfold ofL ofN at hd
  obtain ⟨x, hx, hd⟩ := List.mem_flatMap.1 hd
  have hx := List.mem_of_mem_take hx
  exact widC_bd (szs_bd hk x.2 (List.of_mem_zip hx).2) d hd
theorem wids_ofL {f : Int → Int} {tab : Int} {ps : List Pt} (hk : Okt f tab) : wids (ofL f tab ps) = pos f tab (runs ps) (runs ps).length := by
  unfold ofL
  rw [wids_ofN hk _ (Nat.le_refl _), ← line_flat, lineOf_len]

theorem cellsWide_spec {w : World} (hG : Glob w) {l : Value} {ps : List Pt} (hl : Parts w l ps) (tab : Int) : S.bodkinlaw18_CellsWide (Yes w) l (.int .i64 tab) w := by
  unfold S.bodkinlaw18_CellsWide
  refine cells_begin hG hl tab fun v w1 E1 hs ht ho hv => ?_
  have hk : Okt fP tab := ⟨ofT_le _ _, ht⟩
  have hll := ofL_len hk hs
  obtain ⟨pvs, hsl, hlen, hall⟩ := hl
  have hn := hs.n
  rw [sLen_sl S.tel_L_cells_Part (hsl.ext E1)]
  refine LoopS.intro (fun us w2 => Ext w1 w2 ∧ ∃ (i : Nat) (x : Value), us = [x, .int .i64 i] ∧ i ≤ ps.length ∧ Row w2 w1.heap.size S.T.int32 1 x (encI .i32) (runs (ps.take i)))
    (fun us _ => match us with | [_, .int _ a] => (ps.length - a).toNat | _ => 0) ⟨Ext.refl _, 0, _, rfl, Nat.zero_le _, Row.nil _ _ _ _ _⟩ ?_
  rintro us vs w2 ⟨e2, i, x, rfl, hi, hx⟩
  unfold S.bodkinlaw18_CellsWide_L1
  have E2 := E1.trans e2
  have hrl := runs_len hs i
  rw [hd, tl, hd, sBin_lss, sIf_dec]
  refine ⟨fun hlt => ?_, fun hge => ?_⟩
  · obtain ⟨p, hp⟩ : ∃ x, ps[i]? = some x := ⟨_, List.getElem?_eq_getElem (by omega)⟩
    obtain ⟨pv, hpv⟩ : ∃ x, pvs[i]? = some x := ⟨_, List.getElem?_eq_getElem (by omega)⟩
    obtain ⟨hk1, hk2, hrs⟩ := hall i pv p hpv hp
    obtain ⟨hpn, hpa, hpb⟩ := hs.at_ p (List.mem_of_getElem? hp)
    obtain ⟨b, o, hel, hc⟩ := (hsl.ext E2).el hpv
    rw [sIdxA_sl S.tel_L_cells_Part S.tsz_cells_Part (by omega) (hsl.ext E2) hpv rfl, hel, sLoad_agg S.tagg_cells_Part hc rfl]
    refine sVar S.tze_cells_Part S.tsz_cells_Part (by decide) rfl rfl (encP_ok.one pv) fun b2 w3 hb2 hs3 he3 hk3 => ?_
    have e3 := e2.trans he3
    have E3 := E1.trans e3
    rw [sFldA_ptr S.tfl_cells_Part_Kind, sLoad_cell S.tcell_int (hk3.cells.at 0 rfl), sBin_eql, sIf_dec]
    refine ⟨fun h3 => ?_, fun h3 => ?_⟩
    · have hrun : run p = [8230] := by unfold run; rw [if_pos (by omega)]
      refine pushR (hx.ext he3) e3.size (by omega) fun v' w4 hv4 hg4 => ?_
      rw [sBin_add _ _ ⟨by omega, by omega⟩]
      exact ⟨⟨e3.wr hg4 fun g hg => (hx.lt g hg).1, i + 1, v', by simp, by omega, by rw [runs_take hp, hrun]; exact hv4⟩, by simp only []; omega⟩
    · have hrun : run p = p.2.2 := by unfold run; rw [if_neg (by omega)]
      rw [sFldA_ptr S.tfl_cells_Part_Runes, sLoad_cell S.tcell_L_int32 (hk3.cells.at 2 rfl)]
      refine sAppend_row S.tel_L_int32 S.tsz_int32 (by decide) S.tze_int32 rfl (encI_ok _) (hx.ext he3) e3.size (hrs.ext E3) (by have : maxLen = 9223372036854775807 := rfl; omega) (by rw [S.tby_int32]; omega) fun v' w4 hv4 hg4 _ => ?_
      rw [sBin_add _ _ ⟨by omega, by omega⟩]
      exact ⟨⟨e3.wr hg4 fun g hg => (hx.lt g hg).1, i + 1, v', by simp, by omega, by rw [runs_take hp, hrun]; exact hv4⟩, by simp only []; omega⟩
  · obtain rfl : i = ps.length := by omega
    rw [List.take_length] at hx hrl
    refine (refplain_spec w2).mono ?_
    rintro q w3 ⟨e3, hq⟩
    refine (refcells_spec (tab := tab) hq (by decide) (by decide) ht ((hx.sl (encI_ok _)).ext e3) (by omega)).mono ?_
    rintro y w4 ⟨e4, hy⟩
    have F4 := e3.trans e4
    have G4 := e2.trans F4
    have hys := hy.sl (encI_ok _)
    have hxs := (hx.sl (encI_ok _)).ext F4
    refine DrawS.ext ?_
    have E : Ext w4 w4.drew := (Ext.refl w4).drew
    have hat := poss_at (f := fP) (tab := tab) (ls := runs ps) (i := (runs ps).length) (n := (runs ps).length + 1) (by omega)
    obtain ⟨b1, o1, hel1, hc1⟩ := hys.el hat
    rw [stillS_eq (fun w1 h1 K => sLen_sl S.tel_L_int32 (hxs.ext h1)) E, stillS_eq (fun w1 h1 K => sIdxA_sl S.tel_L_int S.tsz_int (by omega) (hys.ext h1) hat rfl) E, hel1, stillS_cell S.tcell_int (hc1.fst rfl) E]
    refine (width_spec ((hv.ext G4).ext E) (ofL_bd hk) (by omega)).mono ?_
    rintro u w5 ⟨e5, rfl⟩
    have E5 := E.trans e5
    refine ⟨E5, ?_⟩
    rw [stillS_eq (fun w1 h1 K => sBin_eql _ _) E5, sIf_pos (wids_ofL hk)]
    have E6 := (E1.trans G4).trans E5
    refine (four_spec (hG.ext E6)).mono ?_
    rintro u w6 ⟨e6, rfl⟩
    exact ⟨E5.trans e6, E6.trans e6, rfl⟩
end Go.Proofs.YtebedhnnokmlgaaDoor

/- What 'Of' of the cells answers. Conditions: parts in memory; a table that answers. -/
import Derived.Test.YtebedhnnokmlgaaDoorC4
namespace Go.Proofs.YtebedhnnokmlgaaDoor
open Go Go.Lift Go.RowKit

theorem szs_bd {f : Int → Int} {tab : Int} {ls : List Int} {n : Nat} (h : Okt f tab) : ∀ s ∈ szs f tab ls n, 0 ≤ s ∧ s ≤ 16 := by
  intro s hs
  unfold szs at hs
  obtain ⟨i, _, rfl⟩ := List.mem_map.1 hs
  exact siz_bd h
/-- A line's cells. -/
def ofL (f : Int → Int) (tab : Int) (ps : List Pt) : List Ce := ofN (flatC_ ps) (szs f tab (lineOf (flatC_ ps)) (flatC_ ps).length) (flatC_ ps).length
theorem lineOf_len {cs : List Ce} : (lineOf cs).length = cs.length := by simp [lineOf]
theorem lineOf_succ {cs : List Ce} {i : Nat} {c : Ce} (h : cs[i]? = some c) : lineOf (cs.take (i + 1)) = lineOf (cs.take i) ++ [c.1] := by
  unfold lineOf; rw [take_succ_of h, List.map_append]; rfl

theorem of_spec' {w : World} {p l : Value} {f : Int → Int} {tab : Int} {ps : List Pt} (ho : OfE p f w) (hf : ∀ r, 0 ≤ f r ∧ f r ≤ 2) (hl : Parts w l ps) (hs : Sml ps) :
    sCall Tryd.prog S.cells_Of.n [p, l, .int .i64 tab] w fun u w' => Ext w w' ∧ ∃ (v : Value) (e : Int), u = .tuple #[v, .int .i64 e] ∧
      ((¬ Right tab ∧ e = 1 ∧ v = .slice none 0 0) ∨ (Right tab ∧ ¬ OkP ps ∧ e = 4 ∧ v = .slice none 0 0) ∨ (Right tab ∧ OkP ps ∧ e = 0 ∧ Row w' w.heap.size S.T.api_Cell 4 v encC (ofL f tab ps))) := by
  refine S.cells_Of.call ?_
  unfold S.cells_Of
  refine (flat_spec hl hs).mono ?_
  rintro u w1 ⟨e1, h1⟩
  have hfl := flat_len hs ps.length
  rw [List.take_length] at hfl
  have hpn := hs.n
  have hu : ∃ (x : Value) (t : Bool) (cs : List Ce), u = .tuple #[x, .bool t] ∧ Row w1 w.heap.size S.T.api_Cell 4 x encC cs ∧ cs.length ≤ 18000 ∧ (t = true → OkP ps ∧ cs = flatC_ ps) ∧ (t = false → ¬ OkP ps) := by
    rcases h1 with ⟨h, v, rfl, hv⟩ | ⟨h, rfl⟩
    · exact ⟨v, true, flatC_ ps, rfl, hv, by omega, fun _ => ⟨h, rfl⟩, fun h => by cases h⟩
    · exact ⟨_, false, [], rfl, Row.nil _ _ _ _ _, by simp, (fun h => by cases h), fun _ => h⟩
  obtain ⟨x, t, cs, rfl, hx, hcn, ht1, ht0⟩ := hu
  have hxs := hx.sl encC_ok
  rw [sExtract_0, sExtract_1, sLen_sl S.tel_L_api_Cell hxs]
  refine LoopS.intro (fun us w2 => Ext w1 w2 ∧ ∃ (i : Nat) (v : Value), us = [v, .int .i64 i] ∧ i ≤ cs.length ∧ Row w2 w1.heap.size S.T.int32 1 v (encI .i32) (lineOf (cs.take i)))
    (fun us _ => match us with | [_, .int _ a] => (cs.length - a).toNat | _ => 0) ⟨Ext.refl _, 0, _, rfl, Nat.zero_le _, Row.nil _ _ _ _ _⟩ ?_
  rintro us vs w2 ⟨e2, i, v, rfl, hi, hv⟩
  unfold S.cells_Of_L1
  rw [hd, tl, hd, sBin_lss, sIf_dec]
  refine ⟨fun hlt => ?_, fun hge => ?_⟩
  · obtain ⟨c, hc⟩ : ∃ x, cs[i]? = some x := ⟨_, List.getElem?_eq_getElem (by omega)⟩
    obtain ⟨b1, o1, hel1, hc1⟩ := (hxs.ext e2).el hc
    rw [sIdxA_sl S.tel_L_api_Cell S.tsz_api_Cell (by omega) (hxs.ext e2) hc rfl, hel1, sLoad_agg S.tagg_api_Cell hc1 rfl]
    refine sVar S.tze_api_Cell S.tsz_api_Cell (by decide) rfl rfl (encC_ok.one c) fun b2 w3 hb2 hs2 he3 hk => ?_
    rw [sFldA_ptr S.tfl_api_Cell_Rune, sLoad_cell S.tcell_int32 (hk.cells.at 0 rfl)]
    refine pushR (hv.ext he3) (e2.trans he3).size (by rw [lineOf_len, List.length_take]; omega) fun v' w4 hv4 hg4 => ?_
    rw [sBin_add _ _ ⟨by omega, by omega⟩]
    refine ⟨⟨(e2.trans he3).wr hg4 fun g hg => (hv.lt g hg).1, i + 1, v', by simp, by omega, by rw [lineOf_succ hc]; exact hv4⟩, by simp only []; omega⟩
  · obtain rfl : i = cs.length := by omega
    rw [List.take_length] at hv
    have E2 := e1.trans e2
    refine (sizes_spec (tab := tab) (ho.ext E2) hf (hv.sl (encI_ok _)) (by rw [lineOf_len]; omega)).mono ?_
    rintro u w3 ⟨e3, h3⟩
    have E3 := E2.trans e3
    rcases h3 with ⟨hr, rfl⟩ | ⟨hr, y, rfl, hy⟩
    · rw [sExtract_0, sExtract_1, sBin_neq, sIf_not]
      exact ⟨fun _ => ⟨E3, _, 1, rfl, .inl ⟨hr, rfl, rfl⟩⟩, fun h => absurd h (by decide)⟩
    · rw [sExtract_0, sExtract_1, sBin_neq, sIf_not]
      refine ⟨fun h => absurd rfl h, fun _ => ?_⟩
      rw [sUn_not, sIf_bool]
      refine ⟨fun h => ⟨E3, _, 4, rfl, .inr (.inl ⟨hr, ht0 (by simpa using h), rfl, rfl⟩)⟩, fun h => ?_⟩
      obtain ⟨hok, rfl⟩ := ht1 (by simpa using h)
      have hx3 := (hxs.ext e2).ext e3
      rw [sLen_sl S.tel_L_api_Cell hx3]
      rw [lineOf_len] at hy
      refine of_L2 hx3 (hy.sl (encI_ok _)) (by omega) szs_len (szs_bd ⟨hf, hr⟩) fun v4 w4 e4 hv4 => ?_
      exact ⟨E3.trans e4, v4, 0, rfl, .inr (.inr ⟨hr, hok, rfl, hv4.mono E3.size⟩)⟩
end Go.Proofs.YtebedhnnokmlgaaDoor

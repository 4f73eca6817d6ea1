/- What 'tab', 'StopsSizes', 'StopsNil' and 'StopsEnd' answer: true. Condition: the package's two tables hold what its text says. -/
import Derived.Test.YtebedhnnokmlgaaDoorT4
namespace Go.Proofs.YtebedhnnokmlgaaDoor
open Go Go.Lift Go.RowKit

/-- The law's answer. -/
abbrev Yes (w : World) : K1 := fun v w' => Ext w w' ∧ v = .bool true
abbrev fP : Int → Int := ofT zeroL wideL
theorem ofP {w : World} {p : Value} (h : TabR w p zeroL wideL) : OfE p fP w := OfE.tab h fine_plain
theorem line3 {w : World} {K : K1} (h : ∀ v w', Row w' w.heap.size S.T.int32 1 v (encI .i32) [97, 9, 98] → Ext w w' → K v w') : sBuildSlice Tryd.prog 22 3 [(0, .int .i32 97), (1, .int .i32 9), (2, .int .i32 98)] w K := by
  refine sBuildSlice_own (enc := encI .i32) (xs := [97, 9, 98]) (lp := [(0, [.int .i32 97]), (1, [.int .i32 9]), (2, [.int .i32 98])]) S.tel_L_int32 S.tsz_int32 rfl S.tze_int32 (by decide) (by decide) (encI_ok _) rfl rfl fun v w1 _ ho he _ => ?_
  exact h v w1 ho.row he
theorem bQ {w : World} {K : K1} (a b : Int) : sBuild Tryd.prog 38 [(0, .int .i64 a), (1, .int .i64 b)] w K = K (.agg (encQ a b).toArray) w :=
  sBuild_of (lp := [(0, [.int .i64 a]), (1, [.int .i64 b])]) S.tze_stops_Ask S.tpl_stops_Ask rfl rfl

theorem tab_spec {w : World} (hG : Glob w) : sCall Tryd.prog S.bodkinlaw17_tab.n [] w (Yes w) := by
  refine S.bodkinlaw17_tab.call ?_
  unfold S.bodkinlaw17_tab
  refine (plain_spec hG).mono ?_
  rintro p w1 ⟨e1, hp⟩
  refine line3 fun l w2 hl e2 => ?_
  refine (sizes_spec (ofP (hp.ext e2)) (ofT_le _ _) (hl.sl (encI_ok _)) (by simp)).mono ?_
  rintro u w3 ⟨e3, h3⟩
  rcases h3 with ⟨h, _⟩ | ⟨_, v, rfl, hv⟩
  · exact absurd ⟨by omega, by omega⟩ h
  have hz : szs fP 4 ([97, 9, 98] : List Int) ([97, 9, 98] : List Int).length = ([1, 3, 1] : List Int) := by decide
  rw [hz] at hv
  rw [sExtract_0, sExtract_1]
  have E3 := (e1.trans e2).trans e3
  refine (plain_spec (hG.ext E3)).mono ?_
  rintro q w4 ⟨e4, hq⟩
  refine line3 fun l2 w5 hl2 e5 => ?_
  rw [bQ]
  refine (place_spec (ofP (hq.ext e5)) (ofT_le _ _) (hl2.sl (encI_ok _)) (by simp) (by decide)).mono ?_
  rintro u w6 ⟨e6, c, m, e, rfl, h6⟩
  rcases h6 with ⟨h, _⟩ | ⟨_, _, _, rfl, rfl, rfl⟩
  · exact absurd (by decide) h
  rw [sExtract_0, sExtract_1, sExtract_2, sBin_eql, sIf_pos rfl, sBin_eql, sIf_pos rfl]
  refine sBuildSlice_own (enc := encI .i64) (xs := [1, 3, 1]) (lp := [(0, [.int .i64 1]), (1, [.int .i64 3]), (2, [.int .i64 1])]) S.tel_L_int S.tsz_int rfl S.tze_int (by decide) (by decide) (encI_ok _) rfl rfl fun v7 w7 _ ho7 e7 _ => ?_
  refine (ints_spec ((((hv.ext e4).ext e5).ext e6).ext e7 |>.sl (encI_ok _)) (ho7.sl (encI_ok _))).mono ?_
  rintro u w8 ⟨e8, r, rfl, hr⟩
  have hl1 : lst (ofT zeroL wideL) 4 ([97, 9, 98] : List Int) 2 (([97, 9, 98] : List Int).length + 1) = 1 := by decide
  have hl2 : (2 : Int) - pos (ofT zeroL wideL) 4 ([97, 9, 98] : List Int) 1 = 1 := by decide
  rw [hr.2 rfl, sIf_true, hl1, hl2, sBin_eql, sIf_pos (p := ((1 : Nat) : Int) = 1) rfl, sBin_eql]
  exact ⟨((((E3.trans e4).trans e5).trans e6).trans e7).trans e8, rfl⟩
theorem then_tab {w w1 : World} (hG : Glob w) (e : Ext w w1) : sCall Tryd.prog S.bodkinlaw17_tab.n [] w1 (Yes w) :=
  (tab_spec (hG.ext e)).mono fun _ _ ⟨e2, h⟩ => ⟨e.trans e2, h⟩

theorem stopsSizes_spec {w : World} (hG : Glob w) {l : Value} {ls : List Int} (hl : Sl w l 1 (encI .i32) ls) (tab : Int) : S.bodkinlaw17_StopsSizes (Yes w) l (.int .i64 tab) w := by
  unfold S.bodkinlaw17_StopsSizes
  rw [sLen_sl S.tel_L_int32 hl, sBin_gtr, sIf_dec]
  refine ⟨fun _ => then_tab hG (Ext.refl w), fun hn => ?_⟩
  refine (plain_spec hG).mono ?_
  rintro p w1 ⟨e1, hp⟩
  refine (sizes_spec (ofP hp) (ofT_le _ _) (hl.ext e1) (by omega)).mono ?_
  rintro u w2 ⟨e2, h2⟩
  have E2 := e1.trans e2
  have hu : ∃ x n, u = .tuple #[x, .int .i64 n] ∧ ((¬ Right tab ∧ x = .slice none 0 0 ∧ n = 1) ∨ (Right tab ∧ n = 0 ∧ Row w2 w1.heap.size S.T.int 1 x (encI .i64) (szs fP tab ls ls.length))) := by
    rcases h2 with ⟨h, rfl⟩ | ⟨h, v, rfl, hv⟩
    · exact ⟨_, _, rfl, .inl ⟨h, rfl, rfl⟩⟩
    · exact ⟨_, _, rfl, .inr ⟨h, rfl, hv⟩⟩
  obtain ⟨x, n, rfl, h5⟩ := hu
  rw [sExtract_0, sExtract_1]
  refine (refright_spec tab).mono ?_
  rintro u w' ⟨rfl, t, rfl, ht⟩
  rw [sUn_not, sIf_bool]
  refine ⟨fun h => ?_, fun h => ?_⟩
  · have hr : ¬ Right tab := fun hr => by rw [ht.2 hr] at h; cases h
    rcases h5 with ⟨_, rfl, rfl⟩ | ⟨h, _⟩
    · have hl0 : ∀ {K : K1}, sBuiltin Tryd.prog .len [24] 3 [.slice none 0 0] w' K = K (.int .i64 0) w' := sLen_sl (xs := []) S.tel_L_int (Sl.nil w' 1 (encI .i64))
      rw [sBin_eql, sIf_pos rfl, hl0, sBin_eql, sIf_pos rfl]
      exact then_tab hG E2
    · exact absurd h hr
  · have hr : Right tab := ht.1 (by simpa using h)
    have h3 : n = 0 ∧ Row w' w1.heap.size S.T.int 1 x (encI .i64) (szs fP tab ls ls.length) := by
      rcases h5 with h4 | h4
      · exact absurd hr h4.1
      · exact h4.2
    obtain ⟨hn0, hv⟩ := h3
    rw [sBin_eql, sIf_pos hn0]
    refine (refplain_spec _).mono ?_
    rintro q w3 ⟨e3, hq⟩
    refine (refsizes_spec hq (by decide) (by decide) hr (hl.ext (E2.trans e3)) (by omega)).mono ?_
    rintro y w4 ⟨e4, hy⟩
    refine (ints_spec ((hv.ext (e3.trans e4)).sl (encI_ok _)) (hy.sl (encI_ok _))).mono ?_
    rintro u w5 ⟨e5, r, rfl, hrr⟩
    rw [hrr.2 rfl, sIf_true]
    exact then_tab hG (((E2.trans e3).trans e4).trans e5)

theorem stopsNil_spec {w : World} (hG : Glob w) {l : Value} {ls : List Int} (hl : Sl w l 1 (encI .i32) ls) : S.bodkinlaw17_StopsNil (Yes w) l w := by
  unfold S.bodkinlaw17_StopsNil
  rw [sLen_sl S.tel_L_int32 hl, sBin_gtr, sIf_dec]
  refine ⟨fun _ => then_tab hG (Ext.refl w), fun hn => ?_⟩
  refine (sizes_spec (tab := 1) OfE.nil (fun _ => by omega) hl (by omega)).mono ?_
  rintro u w2 ⟨e2, h2⟩
  rcases h2 with ⟨h, _⟩ | ⟨_, v, rfl, hv⟩
  · exact absurd ⟨by omega, by omega⟩ h
  have hvs := hv.sl (encI_ok _)
  rw [sExtract_0, sExtract_1, sBin_neq, sIf_not]
  refine ⟨fun h => absurd rfl h, fun _ => ?_⟩
  rw [sLen_sl S.tel_L_int hvs, szs_len, sLen_sl S.tel_L_int32 (hl.ext e2), sBin_neq, sIf_not]
  refine ⟨fun h => absurd rfl h, fun _ => ?_⟩
  rw [sLen_sl S.tel_L_int hvs, szs_len]
  refine LoopS.intro (fun us w3 => Ext w2 w3 ∧ ∃ i : Nat, us = [.int .i64 i] ∧ i ≤ ls.length)
    (fun us _ => match us with | [.int _ a] => (ls.length - a).toNat | _ => 0) ⟨Ext.refl _, 0, rfl, Nat.zero_le _⟩ ?_
  rintro us vs w3 ⟨e3, i, rfl, hi⟩
  unfold S.bodkinlaw17_StopsNil_L1
  rw [hd, sBin_lss, sIf_dec]
  refine ⟨fun hlt => ?_, fun _ => then_tab hG (e2.trans e3)⟩
  obtain ⟨r, hx⟩ : ∃ x, ls[i]? = some x := ⟨_, List.getElem?_eq_getElem (by omega)⟩
  have a1 := szs_at (f := fun _ => 1) (tab := 1) hx (n := ls.length) (by omega)
  obtain ⟨b1, o1, hel1, hc1⟩ := (hvs.ext e3).el a1
  have h1 : siz (fun _ => 1) 1 r (pos (fun _ => 1) 1 ls i) = 1 := by
    unfold siz
    rw [Int.emod_one]
    split
    · split <;> rfl
    · rfl
  rw [h1] at hc1
  rw [sIdxA_sl S.tel_L_int S.tsz_int (by omega) (hvs.ext e3) a1 rfl, hel1, sLoad_cell S.tcell_int (hc1.fst rfl), sBin_neq, sIf_not]
  refine ⟨fun h => absurd rfl h, fun _ => ?_⟩
  rw [sBin_add _ _ ⟨by omega, by omega⟩]
  exact ⟨⟨e3, i + 1, by simp, by omega⟩, by simp only []; omega⟩

theorem stopsEnd_spec {w : World} (hG : Glob w) {l : Value} {ls : List Int} (hl : Sl w l 1 (encI .i32) ls) (tab : Int) : S.bodkinlaw17_StopsEnd (Yes w) l (.int .i64 tab) w := by
  unfold S.bodkinlaw17_StopsEnd
  rw [sLen_sl S.tel_L_int32 hl, sBin_gtr, sIf_dec]
  refine ⟨fun _ => then_tab hG (Ext.refl w), fun hn => ?_⟩
  refine (refright_spec tab).mono ?_
  rintro u w' ⟨rfl, t, rfl, ht⟩
  rw [sUn_not, sIf_bool]
  refine ⟨fun _ => then_tab hG (Ext.refl _), fun h => ?_⟩
  have hr : Right tab := ht.1 (by simpa using h)
  have hk : Okt fP tab := ⟨ofT_le _ _, hr⟩
  refine (plain_spec hG).mono ?_
  rintro p w1 ⟨e1, hp⟩
  refine (sizes_spec (tab := tab) (ofP hp) (ofT_le _ _) (hl.ext e1) (by omega)).mono ?_
  rintro u w2 ⟨e2, h2⟩
  have E2 := e1.trans e2
  rcases h2 with ⟨h, _⟩ | ⟨_, v, rfl, hv⟩
  · exact absurd hr h
  have hvs := hv.sl (encI_ok _)
  rw [sExtract_0, sExtract_1, sBin_neq, sIf_not]
  refine ⟨fun h => absurd rfl h, fun _ => ?_⟩
  rw [sLen_sl S.tel_L_int hvs, szs_len, sLen_sl S.tel_L_int32 (hl.ext E2), sBin_neq, sIf_not]
  refine ⟨fun h => absurd rfl h, fun _ => ?_⟩
  rw [sLen_sl S.tel_L_int32 (hl.ext E2)]
  refine LoopS.intro (fun us w3 => Ext w2 w3 ∧ ∃ i : Nat, us = [.int .i64 (pos fP tab ls i), .int .i64 i] ∧ i ≤ ls.length)
    (fun us _ => match us with | [_, .int _ a] => (ls.length - a).toNat | _ => 0) ⟨Ext.refl _, 0, rfl, Nat.zero_le _⟩ ?_
  rintro us vs w3 ⟨e3, i, rfl, hi⟩
  unfold S.bodkinlaw17_StopsEnd_L1
  rw [hd, tl, hd, sBin_lss, sIf_dec]
  refine ⟨fun hlt => ?_, fun _ => then_tab hG (E2.trans e3)⟩
  obtain ⟨r, hx⟩ : ∃ x, ls[i]? = some x := ⟨_, List.getElem?_eq_getElem (by omega)⟩
  obtain ⟨b, o, hel, hc⟩ := (hl.ext (E2.trans e3)).el hx
  have a1 := szs_at (f := fP) (tab := tab) hx (n := ls.length) (by omega)
  obtain ⟨b1, o1, hel1, hc1⟩ := (hvs.ext e3).el a1
  have hb := pos_bd (ls := ls) hk i
  have hs := siz_bd (r := r) (at_ := pos fP tab ls i) hk
  have idx : ∀ {K : K1}, (sIdxA Tryd.prog 24 v (.int .i64 i) w3 fun p w => sLoad Tryd.prog 3 p w K) = K (.int .i64 (siz fP tab r (pos fP tab ls i))) w3 := by
    intro K
    rw [sIdxA_sl S.tel_L_int S.tsz_int (by omega) (hvs.ext e3) a1 rfl, hel1, sLoad_cell S.tcell_int (hc1.fst rfl)]
  rw [sIdxA_sl S.tel_L_int32 S.tsz_int32 (by omega) (hl.ext (E2.trans e3)) hx rfl, hel, sLoad_cell S.tcell_int32 (hc.fst rfl)]
  refine JoinS.intro (fun us w' => us = [] ∧ w' = w3) ?_ ?_
  · rw [sBin_eql, sIf_dec]
    refine ⟨fun h9 => ?_, fun _ => ⟨rfl, rfl⟩⟩
    subst h9
    have hm1 := Int.emod_nonneg (pos fP tab ls i) (show tab ≠ 0 by omega)
    have hm2 := Int.emod_lt_of_pos (pos fP tab ls i) (show 0 < tab by omega)
    have hz : siz fP tab 9 (pos fP tab ls i) = if 64 ≤ pos fP tab ls i then 1 else tab - pos fP tab ls i % tab := by simp [siz]
    rw [idx, sBin_lss, sIf_neg (by rw [hz]; split <;> omega), idx, sBin_gtr, sIf_neg (by rw [hz]; split <;> omega), sBin_lss, sIf_dec]
    refine ⟨fun h64 => ?_, fun h64 => ?_⟩
    · have hz2 : siz fP tab 9 (pos fP tab ls i) = tab - pos fP tab ls i % tab := by rw [hz, if_neg (by omega)]
      rw [idx, sBin_add _ _ ⟨by omega, by omega⟩, sBin_rem _ _ (by omega) (by omega) (by omega), sBin_neq, sIf_not]
      refine ⟨fun h => absurd ((stop_iff hr.1 (by omega) (by omega)).2 (by omega)) h, fun _ => ?_⟩
      rw [sBin_geq, sIf_neg (by omega)]
      exact ⟨rfl, rfl⟩
    · rw [sBin_geq, sIf_pos (by omega), idx, sBin_neq, sIf_not]
      exact ⟨fun h => absurd (by rw [hz, if_pos (by omega)]) h, fun _ => ⟨rfl, rfl⟩⟩
  rintro us vs w3 ⟨rfl, rfl⟩
  unfold S.bodkinlaw17_StopsEnd_J2
  rw [idx, sBin_add _ _ ⟨by omega, by omega⟩, sBin_add _ _ ⟨by omega, by omega⟩]
  exact ⟨⟨e3, i + 1, by rw [pos_succ hx]; simp, by omega⟩, by simp only []; omega⟩
end Go.Proofs.YtebedhnnokmlgaaDoor

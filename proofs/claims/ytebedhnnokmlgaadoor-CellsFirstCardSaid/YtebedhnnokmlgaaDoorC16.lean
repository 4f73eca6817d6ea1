/- The laws of cells that begin alike: their beginning; 'CellsOf' answers true; 'CellsFirst' answers true. Condition: the package's two tables hold what its text says. -/
import Derived.Test.YtebedhnnokmlgaaDoorC15
import Derived.Test.YtebedhnnokmlgaaDoorC10
import Derived.Test.YtebedhnnokmlgaaDoorC9
namespace Go.Proofs.YtebedhnnokmlgaaDoor
open Go Go.Lift Go.RowKit

theorem cellsOf_spec {w : World} (hG : Glob w) {l : Value} {ps : List Pt} (hl : Parts w l ps) (tab : Int) : S.bodkinlaw18_CellsOf (Yes w) l (.int .i64 tab) w := by
  unfold S.bodkinlaw18_CellsOf
  refine (long_spec hl).mono ?_
  rintro u w1 ⟨e1, r, rfl, hr⟩
  rw [sIf_bool]
  refine ⟨fun _ => then_four hG e1, fun hf => ?_⟩
  have hs := hr hf
  refine (plain_spec (hG.ext e1)).mono ?_
  rintro p w2 ⟨e2, hp⟩
  have E2 := e1.trans e2
  refine (of_spec' (tab := tab) (ofP hp) (ofT_le _ _) (hl.ext E2) hs).mono ?_
  rintro u w3 ⟨e3, v, e, rfl, h3⟩
  have E3 := E2.trans e3
  rw [sExtract_0, sExtract_1]
  refine (refs_spec (hl.ext E3) hs.n).mono ?_
  rintro q w4 ⟨e4, hq⟩
  have E4 := E3.trans e4
  refine (wrong_spec (tab := tab) hq hs.n).mono ?_
  rintro u w5 ⟨e5, e', rfl, h5⟩
  have E5 := E4.trans e5
  rw [sBin_neq, sIf_not]
  refine ⟨fun hne => ?_, fun heq => ?_⟩
  · have hv : e = e' ∧ v = .slice none 0 0 := by
      rcases h3 with ⟨h, rfl, rfl⟩ | ⟨h, h', rfl, rfl⟩ | ⟨h, h', rfl, _⟩ <;> rcases h5 with ⟨g, rfl⟩ | ⟨g, g', rfl⟩ | ⟨g, g', rfl⟩ <;> simp_all
    obtain ⟨rfl, rfl⟩ := hv
    rw [sBin_eql, sIf_pos rfl, sLen_sl S.tel_L_api_Cell (Sl.nil w5 4 encC), sBin_eql, sIf_pos (show ((([] : List Ce).length : Nat) : Int) = 0 from rfl)]
    exact then_four hG E5
  · have hv : e = 0 ∧ Right tab ∧ OkP ps ∧ Row w3 w2.heap.size S.T.api_Cell 4 v encC (ofL fP tab ps) := by
      rcases h5 with ⟨g, rfl⟩ | ⟨g, g', rfl⟩ | ⟨g, g', rfl⟩
      · exact absurd heq (by decide)
      · exact absurd heq (by decide)
      · rcases h3 with ⟨h, _⟩ | ⟨_, h, _⟩ | ⟨_, _, h, hv⟩
        · exact absurd g h
        · exact absurd g' h
        · exact ⟨h, g, g', hv⟩
    obtain ⟨rfl, ht, _, hv⟩ := hv
    rw [sBin_eql, sIf_pos rfl]
    refine (refplain_spec w5).mono ?_
    rintro q w6 ⟨e6, hq⟩
    have E6 := E5.trans e6
    refine (refs_spec (hl.ext E6) hs.n).mono ?_
    rintro l2 w7 ⟨e7, hl2⟩
    refine (refOf_spec (tab := tab) (hq.ext e7) (by decide) (by decide) ht hl2 hs).mono ?_
    rintro u w8 ⟨e8, hu⟩
    have F := (e7.trans e8)
    refine (cellsEq_spec ((((hv.sl encC_ok).ext (e4.trans e5)).ext e6).ext F) (hu.sl encC_ok)).mono ?_
    rintro t w9 ⟨e9, b, rfl, hb⟩
    rw [hb.2 rfl, sIf_true]
    exact then_four hG ((E6.trans F).trans e9)

/-- How the three others begin. -/
theorem cells_begin {W : World} (hG : Glob W) {l : Value} {ps : List Pt} (hl : Parts W l ps) (tab : Int) {Rest : Value → World → Prop}
    (hR : ∀ v w', Ext W w' → Sml ps → Right tab → OkP ps → Sl w' v 4 encC (ofL fP tab ps) → Rest v w') :
    sCall Tryd.prog 23 [l] W fun x13 w =>
    sIf x13 (
      sCall Tryd.prog 24 [] w fun x14 w =>
      Yes W x14 w) (
      sCall Tryd.prog 15 [] w fun x16 w =>
      sCall Tryd.prog 25 [x16, l, .int .i64 tab] w fun x19 w =>
      sExtract x19 0 w fun x20 w =>
      sExtract x19 1 w fun x21 w =>
      sBin Tryd.prog .neq 25 false true x21 (.int .i64 0) w fun x23 w =>
      sIf x23 (
        sCall Tryd.prog 27 [l] w fun x25 w =>
        sCall Tryd.prog 26 [x25, .int .i64 tab] w fun x27 w =>
        sBin Tryd.prog .neq 3 false true x27 (.int .i64 0) w fun x28 w =>
        sIf x28 (
          sCall Tryd.prog 24 [] w fun x30 w =>
          Yes W x30 w) (
          Yes W (.bool false) w)) (Rest x20 w)) := by
  refine (long_spec hl).mono ?_
  rintro u w1 ⟨e1, r, rfl, hr⟩
  rw [sIf_bool]
  refine ⟨fun _ => then_four hG e1, fun hf => ?_⟩
  have hs := hr hf
  refine (plain_spec (hG.ext e1)).mono ?_
  rintro p w2 ⟨e2, hp⟩
  have E2 := e1.trans e2
  refine (of_spec' (tab := tab) (ofP hp) (ofT_le _ _) (hl.ext E2) hs).mono ?_
  rintro u w3 ⟨e3, v, e, rfl, h3⟩
  have E3 := E2.trans e3
  rw [sExtract_0, sExtract_1, sBin_neq, sIf_not]
  refine ⟨fun hne => ?_, fun heq => ?_⟩
  · refine (refs_spec (hl.ext E3) hs.n).mono ?_
    rintro q w4 ⟨e4, hq⟩
    have E4 := E3.trans e4
    refine (wrong_spec (tab := tab) hq hs.n).mono ?_
    rintro u w5 ⟨e5, e', rfl, h5⟩
    rw [sBin_neq, sIf_not]
    refine ⟨fun _ => then_four hG (E4.trans e5), fun heq => ?_⟩
    exfalso
    rcases h3 with ⟨h, rfl, rfl⟩ | ⟨h, h', rfl, rfl⟩ | ⟨h, h', rfl, hv⟩ <;> rcases h5 with ⟨g, rfl⟩ | ⟨g, g', rfl⟩ | ⟨g, g', rfl⟩ <;> simp_all
  · subst heq
    rcases h3 with ⟨_, h, _⟩ | ⟨_, _, h, _⟩ | ⟨h, h', _, hv⟩
    · cases h
    · cases h
    · exact hR _ _ E3 hs h h' (hv.sl encC_ok)

theorem fill_kind {c : Ce} {n : Int} (x : Ce) (h : x ∈ exp c n) : x.2.1 = c.2.1 ∨ x.2.1 = 4 := by
  unfold exp at h
  rcases List.mem_cons.1 h with rfl | h
  · exact .inl rfl
  · rw [List.mem_replicate] at h; rw [h.2]; exact .inr rfl

theorem cels_kind {p : Pt} {c : Ce} (h : c ∈ cels p) : c.2.1 = p.1 := by
  unfold cels celsN at h
  obtain ⟨x, _, rfl⟩ := List.mem_map.1 h
  rfl
theorem flat_kind {ps : List Pt} (ho : OkP ps) {c : Ce} (h : c ∈ flatC_ ps) : 1 ≤ c.2.1 ∧ c.2.1 ≤ 3 := by
  unfold flatC_ at h
  obtain ⟨p, hp, hc⟩ := List.mem_flatMap.1 h
  rw [cels_kind hc]; exact ho p hp
/-- The first cell of all. -/
theorem ofL_first {f : Int → Int} {tab : Int} {ps : List Pt} (ho : OkP ps) {c : Ce} (h : (ofL f tab ps)[0]? = some c) : 1 ≤ c.2.1 ∧ c.2.1 ≤ 3 := by
  unfold ofL ofN at h
  have hln : (szs f tab (lineOf (flatC_ ps)) (flatC_ ps).length).length = (flatC_ ps).length := szs_len
  revert h hln
  generalize szs f tab (lineOf (flatC_ ps)) (flatC_ ps).length = sz
  have hk := fun c => flat_kind (c := c) ho
  revert hk
  generalize flatC_ ps = cs
  intro hk h hln
  match cs, sz, hln with
  | [], [], _ => simp at h
  | c0 :: cs, s :: sz, _ =>
    simp [exp] at h
    subst h
    exact hk c0 (by simp)
theorem ofL_len {f : Int → Int} {tab : Int} {ps : List Pt} (h : Okt f tab) (hs : Sml ps) : (ofL f tab ps).length ≤ 306000 := by
  have hfl := flat_len hs ps.length
  rw [List.take_length] at hfl
  have := ofN_len (cs := flatC_ ps) (szs_bd (ls := lineOf (flatC_ ps)) (n := (flatC_ ps).length) h) (flatC_ ps).length
  have := hs.n
  unfold ofL; omega

theorem cellsFirst_spec {w : World} (hG : Glob w) {l : Value} {ps : List Pt} (hl : Parts w l ps) (tab : Int) : S.bodkinlaw18_CellsFirst (Yes w) l (.int .i64 tab) w := by
  unfold S.bodkinlaw18_CellsFirst
  refine cells_begin hG hl tab fun v w1 E1 hs ht ho hv => ?_
  have hk : Okt fP tab := ⟨ofT_le _ _, ht⟩
  have hll := ofL_len hk hs
  refine (stops_spec hv (by omega)).mono ?_
  rintro x w2 ⟨e2, bs, hx, hbl, hT⟩
  have E2 := E1.trans e2
  have hxs := hx.sl encB_ok
  rw [sLen_sl S.tel_L_api_Cell (hv.ext e2)]
  refine LoopS.intro (fun us w3 => Ext w2 w3 ∧ ∃ i : Nat, us = [.int .i64 i] ∧ i ≤ (ofL fP tab ps).length)
    (fun us _ => match us with | [.int _ a] => ((ofL fP tab ps).length - a).toNat | _ => 0) ⟨Ext.refl _, 0, rfl, Nat.zero_le _⟩ ?_
  rintro us vs w3 ⟨e3, i, rfl, hi⟩
  unfold S.bodkinlaw18_CellsFirst_L1
  have F3 := e2.trans e3
  rw [hd, sBin_lss, sIf_dec]
  refine ⟨fun hlt => ?_, fun _ => ?_⟩
  · obtain ⟨c, hc⟩ : ∃ x, (ofL fP tab ps)[i]? = some x := ⟨_, List.getElem?_eq_getElem (by omega)⟩
    obtain ⟨t, ht'⟩ : ∃ x, bs[i]? = some x := ⟨_, List.getElem?_eq_getElem (by omega)⟩
    obtain ⟨b1, o1, hel1, hc1⟩ := (hv.ext F3).el hc
    rw [sIdxA_sl S.tel_L_api_Cell S.tsz_api_Cell (by omega) (hv.ext F3) hc rfl, hel1, sLoad_agg S.tagg_api_Cell hc1 rfl]
    refine sVar S.tze_api_Cell S.tsz_api_Cell (by decide) rfl rfl (encC_ok.one c) fun b2 w4 hb2 hs2 he4 hk4 => ?_
    have E4 := e3.trans he4
    have hnext : Ext w2 w4 → ((Ext w2 w4 ∧ ∃ j : Nat, [Value.int .i64 ((i : Int) + 1)] = [.int .i64 j] ∧ j ≤ (ofL fP tab ps).length) ∧ ((ofL fP tab ps).length - ((i : Int) + 1)).toNat < ((ofL fP tab ps).length - (i : Int)).toNat) :=
      fun e => ⟨⟨e, i + 1, by simp, by omega⟩, by omega⟩
    rw [sFldA_ptr S.tfl_api_Cell_Kind, sLoad_cell S.tcell_int (hk4.cells.at 1 rfl), sBin_eql, sIf_dec]
    refine ⟨fun h4 => ?_, fun _ => ?_⟩
    · obtain ⟨b5, o5, hel5, hc5⟩ := (hxs.ext E4).el ht'
      rw [sIdxA_sl S.tel_L_bool S.tsz_bool (by omega) (hxs.ext E4) ht' rfl, hel5, sLoad_cell S.tcell_bool (hc5.fst rfl)]
      have hf : t = false := by
        rcases Bool.eq_false_or_eq_true t with h | h
        · have := (hT i c t hc ht').1 h
          unfold stopAt at this
          omega
        · exact h
      rw [hf, sIf_false, sBin_add _ _ ⟨by omega, by omega⟩]
      exact hnext E4
    · rw [sBin_add _ _ ⟨by omega, by omega⟩]
      exact hnext E4
  · rw [sLen_sl S.tel_L_bool (hxs.ext e3), sLen_sl S.tel_L_api_Cell (hv.ext F3), sBin_eql, sIf_pos (by omega), sLen_sl S.tel_L_api_Cell (hv.ext F3), sBin_eql, sIf_dec]
    refine ⟨fun _ => then_four hG (E2.trans e3), fun hne => ?_⟩
    obtain ⟨c, hc⟩ : ∃ x, (ofL fP tab ps)[0]? = some x := ⟨_, List.getElem?_eq_getElem (by omega)⟩
    obtain ⟨t, ht'⟩ : ∃ x, bs[0]? = some x := ⟨_, List.getElem?_eq_getElem (by omega)⟩
    obtain ⟨b5, o5, hel5, hc5⟩ := (hxs.ext e3).el ht'
    rw [sIdxA_sl (i := 0) (z := 0) S.tel_L_bool S.tsz_bool (by omega) (hxs.ext e3) ht' rfl, hel5, sLoad_cell S.tcell_bool (hc5.fst rfl)]
    have htt : t = true := (hT 0 c t hc ht').2 (by
      have := ofL_first ho hc
      unfold stopAt
      by_cases h2 : c.2.1 = 2
      · exact .inr (.inr ⟨h2, .inl rfl⟩)
      · omega)
    rw [htt, sIf_true]
    exact then_four hG (E2.trans e3)
end Go.Proofs.YtebedhnnokmlgaaDoor

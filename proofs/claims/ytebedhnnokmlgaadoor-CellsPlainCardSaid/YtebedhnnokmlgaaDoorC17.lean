/- 'CellsPlain' answers true. Condition: the package's two tables hold what its text says. -/
import Derived.Test.YtebedhnnokmlgaaDoorC16
namespace Go.Proofs.YtebedhnnokmlgaaDoor
open Go Go.Lift Go.RowKit

/-- The plain ones: rune and place. -/
def pl (cs : List Ce) : List (Int × Int) := cs.filterMap fun c => if c.2.1 = 1 then some (c.1, c.2.2.2) else none
theorem pl_append (a b : List Ce) : pl (a ++ b) = pl a ++ pl b := by unfold pl; rw [List.filterMap_append]
theorem pl_exp (c : Ce) (n : Int) : pl (exp c n) = pl [c] := by
  have h : ∀ k : Nat, pl (List.replicate k (32, 4, 1, c.2.2.2)) = [] := by
    intro k
    induction k with
    | zero => rfl
    | succ k ih => rw [List.replicate_succ, show ((32, 4, 1, c.2.2.2) : Ce) :: List.replicate k (32, 4, 1, c.2.2.2) = [(32, 4, 1, c.2.2.2)] ++ List.replicate k (32, 4, 1, c.2.2.2) from rfl, pl_append, ih]; simp [pl]
  unfold exp
  rw [show ∀ (x : Ce) (l : List Ce), x :: l = [x] ++ l from fun _ _ => rfl, pl_append, h]
  by_cases h1 : c.2.1 = 1 <;> simp [pl, h1]
theorem pl_ofN {cs : List Ce} {sz : List Int} (hl : sz.length = cs.length) : ∀ n, n ≤ cs.length → pl (ofN cs sz n) = pl (cs.take n)
  | 0, _ => by simp [ofN]
  | n + 1, h => by
    obtain ⟨c, hc⟩ : ∃ x, cs[n]? = some x := ⟨_, List.getElem?_eq_getElem (by omega)⟩
    obtain ⟨s, hs⟩ : ∃ x, sz[n]? = some x := ⟨_, List.getElem?_eq_getElem (by omega)⟩
    rw [ofN_succ hc hs, pl_append, pl_ofN hl n (by omega), take_succ_of hc, pl_append, pl_exp]
def want (p : Pt) : List (Int × Int) := pl (cels p)
theorem pl_flat (ps : List Pt) : pl (flatC_ ps) = ps.flatMap want := by
  unfold flatC_
  induction ps with
  | nil => rfl
  | cons p ps ih => rw [List.flatMap_cons, pl_append, ih, List.flatMap_cons]; rfl
theorem pl_ofL (f : Int → Int) (tab : Int) (ps : List Pt) : pl (ofL f tab ps) = ps.flatMap want := by
  unfold ofL
  rw [pl_ofN szs_len _ (Nat.le_refl _), List.take_length, pl_flat]
theorem want_no {p : Pt} (h : p.1 ≠ 1) : want p = [] := by
  unfold want pl
  rw [List.filterMap_eq_nil_iff]
  intro c hc
  rw [cels_kind hc, if_neg h]
theorem want_yes {p : Pt} (h : p.1 = 1) : want p = p.2.2.zipIdx.map fun x => (x.1, p.2.1 + x.2) := by
  unfold want pl cels celsN
  have : run p = p.2.2 := by unfold run; rw [if_neg (by omega)]
  rw [this, List.take_length, List.filterMap_map, ← List.filterMap_eq_map]
  congr 1
  funext x
  simp [cel, h]
theorem want_step {p : Pt} (h : p.1 = 1) {k : Nat} {r : Int} (hr : p.2.2[k]? = some r) : (want p).drop k = (r, p.2.1 + k) :: (want p).drop (k + 1) := by
  have hk := (List.getElem?_eq_some_iff.1 hr).1
  have hx : (want p)[k]? = some (r, p.2.1 + k) := by rw [want_yes h]; simp [hr]
  obtain ⟨hlt, he⟩ := List.getElem?_eq_some_iff.1 hx
  rw [List.drop_eq_getElem_cons hlt, he]
theorem want_end {p : Pt} : (want p).drop p.2.2.length = [] := by
  by_cases h : p.1 = 1
  · rw [want_yes h]; simp
  · rw [want_no h]; simp
theorem pl_drop {cs : List Ce} {i : Nat} {c : Ce} (h : cs[i]? = some c) : pl (cs.drop i) = pl [c] ++ pl (cs.drop (i + 1)) := by
  obtain ⟨hlt, he⟩ := List.getElem?_eq_some_iff.1 h
  rw [List.drop_eq_getElem_cons hlt, he, ← pl_append]; rfl

theorem cellsPlain_spec {w : World} (hG : Glob w) {l : Value} {ps : List Pt} (hl : Parts w l ps) (tab : Int) : S.bodkinlaw18_CellsPlain (Yes w) l (.int .i64 tab) w := by
  unfold S.bodkinlaw18_CellsPlain
  refine cells_begin hG hl tab fun v w1 E1 hs ht ho hv => ?_
  have hk : Okt fP tab := ⟨ofT_le _ _, ht⟩
  have hll := ofL_len hk hs
  have hpl := pl_ofL fP tab ps
  revert hv hll hpl
  generalize ofL fP tab ps = cs
  intro hv hll hpl
  obtain ⟨pvs, hsl, hlen, hall⟩ := hl
  have hn := hs.n
  rw [sLen_sl S.tel_L_cells_Part (hsl.ext E1)]
  refine LoopS.intro (fun us w2 => Ext w1 w2 ∧ ∃ i j : Nat, us = [.int .i64 i, .int .i64 j] ∧ i ≤ cs.length ∧ j ≤ ps.length ∧ pl (cs.drop i) = (ps.drop j).flatMap want)
    (fun us _ => match us with | [_, .int _ a] => (ps.length - a).toNat | _ => 0) ⟨Ext.refl _, 0, 0, rfl, Nat.zero_le _, Nat.zero_le _, by simpa using hpl⟩ ?_
  rintro us vs w2 ⟨e2, i, j, rfl, hi, hj, hw⟩
  unfold S.bodkinlaw18_CellsPlain_L1
  have E2 := E1.trans e2
  rw [hd, tl, hd, sBin_lss, sIf_dec]
  refine ⟨fun hlt => ?_, fun hge => ?_⟩
  · obtain ⟨p, hp⟩ : ∃ x, ps[j]? = some x := ⟨_, List.getElem?_eq_getElem (by omega)⟩
    obtain ⟨pv, hpv⟩ : ∃ x, pvs[j]? = some x := ⟨_, List.getElem?_eq_getElem (by omega)⟩
    obtain ⟨hk1, hk2, hrs⟩ := hall j pv p hpv hp
    obtain ⟨hpn, hpa, hpb⟩ := hs.at_ p (List.mem_of_getElem? hp)
    obtain ⟨b, o, hel, hc⟩ := (hsl.ext E2).el hpv
    rw [sIdxA_sl S.tel_L_cells_Part S.tsz_cells_Part (by omega) (hsl.ext E2) hpv rfl, hel, sLoad_agg S.tagg_cells_Part hc rfl]
    refine sVar S.tze_cells_Part S.tsz_cells_Part (by decide) rfl rfl (encP_ok.one pv) fun b2 w3 hb2 hs3 he3 hk3 => ?_
    have e3 := e2.trans he3
    have E3 := E1.trans e3
    have hdr : ps.drop j = p :: ps.drop (j + 1) := by
      obtain ⟨h1, h2⟩ := List.getElem?_eq_some_iff.1 hp
      rw [List.drop_eq_getElem_cons h1, h2]
    rw [hdr, List.flatMap_cons] at hw
    rw [sFldA_ptr S.tfl_cells_Part_Runes, sLoad_cell S.tcell_L_int32 (hk3.cells.at 2 rfl), sLen_sl S.tel_L_int32 (hrs.ext E3)]
    refine LoopS.intro (fun us w4 => Ext w3 w4 ∧ ∃ i k : Nat, us = [.int .i64 i, .int .i64 k] ∧ i ≤ cs.length ∧ k ≤ p.2.2.length ∧ pl (cs.drop i) = (want p).drop k ++ (ps.drop (j + 1)).flatMap want)
      (fun us _ => match us with | [_, .int _ a] => (p.2.2.length - a).toNat | _ => 0) ⟨Ext.refl _, i, 0, rfl, hi, Nat.zero_le _, by simpa using hw⟩ ?_
    rintro us vs w4 ⟨e4, i, k, rfl, hi, hkn, hw⟩
    unfold S.bodkinlaw18_CellsPlain_L2
    have E4 := E3.trans e4
    have kk := (hk3.ext e4).cells
    rw [hd, tl, hd, sBin_lss, sIf_dec]
    refine ⟨fun hlt2 => ?_, fun hge2 => ?_⟩
    · obtain ⟨r, hr⟩ : ∃ x, p.2.2[k]? = some x := ⟨_, List.getElem?_eq_getElem (by omega)⟩
      obtain ⟨b5, o5, hel5, hc5⟩ := (hrs.ext E4).el hr
      rw [sIdxA_sl S.tel_L_int32 S.tsz_int32 (by omega) (hrs.ext E4) hr rfl, hel5, sLoad_cell S.tcell_int32 (hc5.fst rfl), sFldA_ptr S.tfl_cells_Part_Kind, sLoad_cell S.tcell_int (kk.at 0 rfl), sBin_neq, sIf_not]
      refine ⟨fun h1 => ?_, fun h1 => ?_⟩
      · rw [sBin_add _ _ ⟨by omega, by omega⟩]
        have hno := want_no (p := p) (by omega)
        refine ⟨⟨e4, i, k + 1, by simp, hi, by omega, ?_⟩, by simp only []; omega⟩
        rw [hno] at hw ⊢
        simpa using hw
      · have hst := want_step (p := p) (by omega) hr
        rw [hst] at hw
        refine JoinS.intro (fun us w5 => Ext w3 w5 ∧ ∃ i : Nat, us = [.int .i64 i] ∧ i ≤ cs.length ∧ pl (cs.drop i) = (r, p.2.1 + k) :: ((want p).drop (k + 1) ++ (ps.drop (j + 1)).flatMap want) ∧ (i = cs.length ∨ ∃ c, cs[i]? = some c ∧ c.2.1 = 1)) ?_ ?_
        · refine LoopS.intro (fun us w5 => Ext w3 w5 ∧ ∃ i : Nat, us = [.int .i64 i] ∧ i ≤ cs.length ∧ pl (cs.drop i) = (r, p.2.1 + k) :: ((want p).drop (k + 1) ++ (ps.drop (j + 1)).flatMap want))
            (fun us _ => match us with | [.int _ a] => (cs.length - a).toNat | _ => 0) ⟨e4, i, rfl, hi, hw⟩ ?_
          rintro us vs w5 ⟨e5, i, rfl, hi, hw⟩
          unfold S.bodkinlaw18_CellsPlain_L4
          have F5 := e3.trans e5
          rw [sLen_sl S.tel_L_api_Cell (hv.ext F5), hd, sBin_lss, sIf_dec]
          refine ⟨fun hlt => ?_, fun hge => ⟨e5, i, rfl, hi, hw, .inl (by omega)⟩⟩
          obtain ⟨c, hc⟩ : ∃ x, cs[i]? = some x := ⟨_, List.getElem?_eq_getElem (by omega)⟩
          obtain ⟨b1, o1, hel1, hc1⟩ := (hv.ext F5).el hc
          rw [sIdxA_sl S.tel_L_api_Cell S.tsz_api_Cell (by omega) (hv.ext F5) hc rfl, hel1, sFldA_ptr S.tfl_api_Cell_Kind, sLoad_cell S.tcell_int (hc1.at 1 rfl), sBin_neq, sIf_not]
          refine ⟨fun hne => ?_, fun he => ⟨e5, i, rfl, hi, hw, .inr ⟨c, hc, he⟩⟩⟩
          rw [sBin_add _ _ ⟨by omega, by omega⟩]
          refine ⟨⟨e5, i + 1, by simp, by omega, ?_⟩, by simp only []; omega⟩
          rw [pl_drop hc] at hw
          simpa [pl, hne] using hw
        rintro us vs w5 ⟨e5, i, rfl, hi, hw, hor⟩
        unfold S.bodkinlaw18_CellsPlain_J3
        obtain ⟨c, hc, h1c⟩ : ∃ c, cs[i]? = some c ∧ c.2.1 = 1 := by
          rcases hor with rfl | h
          · simp [pl] at hw
          · exact h
        have hlt := (List.getElem?_eq_some_iff.1 hc).1
        rw [pl_drop hc] at hw
        simp only [pl, List.filterMap_cons, h1c, if_pos, List.filterMap_nil, List.cons_append, List.nil_append, List.cons.injEq, Prod.mk.injEq] at hw
        obtain ⟨⟨hcr, hca⟩, hw⟩ := hw
        have F5 := e3.trans e5
        refine DrawS.ext ?_
        have E : Ext w5 w5.drew := (Ext.refl w5).drew
        obtain ⟨b1, o1, hel1, hc1⟩ := (hv.ext F5).el hc
        have kk5 := (hk3.ext e5).cells
        rw [hd, stillS_eq (fun w1 h1 K => sLen_sl S.tel_L_api_Cell ((hv.ext F5).ext h1)) E, stillS_eq (fun w1 h1 K => sBin_eql _ _) E, sIf_neg (by omega),
          stillS_eq (fun w1 h1 K => sIdxA_sl S.tel_L_api_Cell S.tsz_api_Cell (by omega) ((hv.ext F5).ext h1) hc rfl) E, hel1, stillS_eq (fun w1 h1 K => sFldA_ptr S.tfl_api_Cell_Rune) E, stillS_cell S.tcell_int32 (hc1.at 0 rfl) E,
          stillS_eq (fun w1 h1 K => sBin_neq _ _) E, sIf_not]
        refine ⟨fun h => absurd hcr h, fun _ => ?_⟩
        rw [stillS_eq (fun w1 h1 K => sIdxA_sl S.tel_L_api_Cell S.tsz_api_Cell (by omega) ((hv.ext F5).ext h1) hc rfl) E, hel1, stillS_eq (fun w1 h1 K => sFldA_ptr S.tfl_api_Cell_At) E, stillS_cell S.tcell_int (hc1.at 3 rfl) E,
          stillS_eq (fun w1 h1 K => sFldA_ptr S.tfl_cells_Part_At) E, stillS_cell S.tcell_int (kk5.at 1 rfl) E, stillS_eq (fun w1 h1 K => sBin_add _ _ ⟨by omega, by omega⟩) E, stillS_eq (fun w1 h1 K => sBin_neq _ _) E, sIf_not]
        refine ⟨fun h => absurd (by omega) h, fun _ => ?_⟩
        rw [sBin_add _ _ ⟨by omega, by omega⟩, sBin_add _ _ ⟨by omega, by omega⟩]
        exact ⟨⟨e5.trans E, i + 1, k + 1, by simp, by omega, by omega, hw⟩, by simp only []; omega⟩
    · rw [sBin_add _ _ ⟨by omega, by omega⟩]
      obtain rfl : k = p.2.2.length := by omega
      rw [want_end, List.nil_append] at hw
      exact ⟨⟨e3.trans e4, i, j + 1, by simp, hi, by omega, hw⟩, by simp only []; omega⟩
  · obtain rfl : j = ps.length := by omega
    rw [List.drop_length, List.flatMap_nil] at hw
    refine LoopS.intro (fun us w5 => Ext w1 w5 ∧ ∃ i : Nat, us = [.int .i64 i] ∧ i ≤ cs.length ∧ pl (cs.drop i) = [])
      (fun us _ => match us with | [.int _ a] => (cs.length - a).toNat | _ => 0) ⟨e2, i, rfl, hi, hw⟩ ?_
    rintro us vs w5 ⟨e5, i, rfl, hi, hw⟩
    unfold S.bodkinlaw18_CellsPlain_L5
    rw [sLen_sl S.tel_L_api_Cell (hv.ext e5), hd, sBin_lss, sIf_dec]
    refine ⟨fun hlt => ?_, fun hge => then_four hG (E1.trans e5)⟩
    obtain ⟨c, hc⟩ : ∃ x, cs[i]? = some x := ⟨_, List.getElem?_eq_getElem (by omega)⟩
    obtain ⟨b1, o1, hel1, hc1⟩ := (hv.ext e5).el hc
    rw [pl_drop hc] at hw
    have hne : ¬ c.2.1 = 1 := fun h => by simp [pl, h] at hw
    rw [sIdxA_sl S.tel_L_api_Cell S.tsz_api_Cell (by omega) (hv.ext e5) hc rfl, hel1, sFldA_ptr S.tfl_api_Cell_Kind, sLoad_cell S.tcell_int (hc1.at 1 rfl), sBin_eql, sIf_neg hne, sBin_add _ _ ⟨by omega, by omega⟩]
    refine ⟨⟨e5, i + 1, by simp, by omega, ?_⟩, by simp only []; omega⟩
    simpa [pl, hne] using hw
end Go.Proofs.YtebedhnnokmlgaaDoor

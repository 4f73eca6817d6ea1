/- Lists of ints compared. No conditions. -/
import Derived.Test.YtplpkeoakclobaaDoorU5
namespace Go.Proofs.YtplpkeoakclobaaDoor
open Go Go.Lift Go.RowKit

abbrev encZ (x : Int) : List Value := [.int .i64 x]
theorem encZ_ok : Enc encZ 1 := ⟨fun _ => rfl, fun x u hu => by simp at hu; subst hu; rfl⟩
theorem intsEq_spec {w : World} {a b : Value} {xs ys : List Int} (ha : Sl w a 1 encZ xs) (hb : Sl w b 1 encZ ys) : sCall Tryd.prog S.bodkinplain_Ints.n [a, b] w fun u w' => Ext w w' ∧ ∃ r, u = .bool r ∧ (r = true ↔ xs = ys) := by
  refine S.bodkinplain_Ints.call ?_
  unfold S.bodkinplain_Ints
  rw [sLen_sl S.tel_L_int ha]
  have hla := ha.len_le
  refine LoopS.intro (fun us w1 => Ext w w1 ∧ ∃ i : Nat, us = [.int .i64 i] ∧ i ≤ xs.length ∧ i ≤ ys.length ∧ xs.take i = ys.take i)
    (fun us _ => match us with | [.int _ a] => (xs.length - a).toNat | _ => 0) ⟨Ext.refl w, 0, rfl, Nat.zero_le _, Nat.zero_le _, rfl⟩ ?_
  rintro us vs w1 ⟨he, i, rfl, hi, hj, hp⟩
  unfold S.bodkinplain_Ints_L1
  rw [Go.Lift.hd, sBin_lss, sIf_dec]
  refine ⟨fun hlt => ?_, fun hge => ?_⟩
  · refine DrawS.ext ?_
    have E : Ext w1 w1.drew := (Ext.refl w1).drew
    have ha1 := ha.ext he
    have hb1 := hb.ext he
    rw [stillS_eq (fun w1 h1 K => sLen_sl S.tel_L_int (hb1.ext h1)) E, stillS_eq (fun w1 h1 K => sBin_geq _ _) E, sIf_dec]
    refine ⟨fun hge => ⟨he.trans E, false, rfl, ?_⟩, fun hlt2 => ?_⟩
    · simp only [Bool.false_eq_true, false_iff]
      rintro rfl
      omega
    obtain ⟨x, hx⟩ : ∃ x, xs[i]? = some x := ⟨_, List.getElem?_eq_getElem (by omega)⟩
    obtain ⟨y, hy⟩ : ∃ y, ys[i]? = some y := ⟨_, List.getElem?_eq_getElem (by omega)⟩
    obtain ⟨b1, o1, hel1, hc1⟩ := ha1.el hx
    obtain ⟨b2, o2, hel2, hc2⟩ := hb1.el hy
    rw [stillS_eq (fun w1 h1 K => sIdxA_sl S.tel_L_int S.tsz_int (by omega) (ha1.ext h1) hx rfl) E, hel1, stillS_cell S.tcell_int (hc1.fst rfl) E,
      stillS_eq (fun w1 h1 K => sIdxA_sl S.tel_L_int S.tsz_int (by omega) (hb1.ext h1) hy rfl) E, hel2, stillS_cell S.tcell_int (hc2.fst rfl) E, stillS_eq (fun w1 h1 K => sBin_neq _ _) E, sIf_not]
    refine ⟨fun h => ⟨he.trans E, false, rfl, ?_⟩, fun h => ?_⟩
    · simp only [Bool.false_eq_true, false_iff]
      rintro rfl
      rw [hx] at hy; cases hy
      exact h rfl
    · subst h
      rw [sBin_add _ _ ⟨by omega, by omega⟩]
      refine ⟨⟨he.trans E, i + 1, by simp, by omega, by omega, ?_⟩, by simp only []; omega⟩
      rw [List.take_add_one, List.take_add_one, hp, hx, hy]
  · rw [sLen_sl S.tel_L_int (ha.ext he), sLen_sl S.tel_L_int (hb.ext he), sBin_eql]
    refine ⟨he, _, rfl, ?_⟩
    rw [decide_eq_true_eq]
    have hix : i = xs.length := by omega
    subst hix
    rw [List.take_length] at hp
    constructor
    · intro h; rw [hp, List.take_of_length_le (by omega)]
    · rintro rfl; rfl
end Go.Proofs.YtplpkeoakclobaaDoor

/- Finding: letters, letters that are the same, what is found at a place; of the program. Conditions: the pattern is not empty. -/
import Derived.Test.YthpngnngoamlpaaDoorHe
namespace Go.Proofs.YthpngnngoamlpaaDoor
open Go Go.Lift Go.RowKit Go.Txt

def smallR (r : Int) : Int := if 65 ≤ r ∧ r ≤ 90 then r + 32 else r
def sameR (fold : Bool) (a b : Int) : Bool := if fold then decide (smallR a = smallR b) else decide (a = b)
def clsR (r : Int) : Int := if r = 32 ∨ r = 9 ∨ r = 10 then 0 else if (97 ≤ r ∧ r ≤ 122) ∨ (65 ≤ r ∧ r ≤ 90) ∨ (48 ≤ r ∧ r ≤ 57) ∨ r = 95 ∨ 128 ≤ r then 1 else 2
theorem small_spec {w : World} (r : Int) : sCall Tryd.prog S.find_small.n [.int .i32 r] w fun u w' => w' = w ∧ u = .int .i32 (smallR r) := by
  refine S.find_small.call ?_
  unfold S.find_small
  refine JoinS.intro (fun us w' => w' = w ∧ us = [.bool (decide (65 ≤ r ∧ r ≤ 90))]) ?_ ?_
  · rw [sBin_geq, sIf_dec]
    refine ⟨fun h => ?_, fun h => ⟨rfl, by rw [decide_eq_false fun k => h k.1]⟩⟩
    rw [sBin_leq]
    exact ⟨rfl, by simp [h]⟩
  · rintro us vs w1 ⟨rfl, rfl⟩
    unfold S.find_small_J1
    rw [Go.Lift.hd, sIf_dec]
    refine ⟨fun h => ?_, fun h => ⟨rfl, by rw [smallR, if_neg h]⟩⟩
    rw [sBin_sub32 _ _ ⟨by omega, by omega⟩, sBin_add32 _ _ ⟨by omega, by omega⟩]
    exact ⟨rfl, by rw [smallR, if_pos h]; congr 1; omega⟩
theorem dsmall_spec {w : World} (r : Int) : sCall Tryd.prog S.bodkinref39_small.n [.int .i32 r] w fun u w' => w' = w ∧ u = .int .i32 (smallR r) := by
  refine S.bodkinref39_small.call ?_
  unfold S.bodkinref39_small
  refine JoinS.intro (fun us w' => w' = w ∧ us = [.bool (decide (65 ≤ r ∧ r ≤ 90))]) ?_ ?_
  · rw [sBin_geq, sIf_dec]
    refine ⟨fun h => ?_, fun h => ⟨rfl, by rw [decide_eq_false fun k => h k.1]⟩⟩
    rw [sBin_leq]
    exact ⟨rfl, by simp [h]⟩
  · rintro us vs w1 ⟨rfl, rfl⟩
    unfold S.bodkinref39_small_J1
    rw [Go.Lift.hd, sIf_dec]
    refine ⟨fun h => ?_, fun h => ⟨rfl, by rw [smallR, if_neg h]⟩⟩
    rw [sBin_add32 _ _ ⟨by omega, by omega⟩]
    exact ⟨rfl, by rw [smallR, if_pos h]⟩
theorem class_spec {w : World} (r : Int) : sCall Tryd.prog S.moves_Class.n [.int .i32 r] w fun u w' => w' = w ∧ u = .int .i64 (clsR r) := by
  refine S.moves_Class.call ?_
  unfold S.moves_Class
  refine JoinS.intro (fun us w' => w' = w ∧ us = [.bool (decide (r = 32 ∨ r = 9 ∨ r = 10))]) ?_ ?_
  · rw [sBin_eql, sIf_dec]
    refine ⟨fun h => ⟨rfl, by rw [decide_eq_true (.inl h)]⟩, fun h => ?_⟩
    rw [sBin_eql, sIf_dec]
    refine ⟨fun h2 => ⟨rfl, by rw [decide_eq_true (.inr (.inl h2))]⟩, fun h2 => ?_⟩
    rw [sBin_eql]
    exact ⟨rfl, by simp [h, h2]⟩
  rintro us vs w1 ⟨rfl, rfl⟩
  unfold S.moves_Class_J1
  rw [Go.Lift.hd, sIf_dec]
  refine ⟨fun h => ⟨rfl, by rw [clsR, if_pos h]⟩, fun h0 => ?_⟩
  refine JoinS.intro (fun us w' => w' = w1 ∧ us = [.bool (decide (97 ≤ r ∧ r ≤ 122))]) ?_ ?_
  · rw [sBin_geq, sIf_dec]
    refine ⟨fun h => ?_, fun h => ⟨rfl, by rw [decide_eq_false fun k => h k.1]⟩⟩
    rw [sBin_leq]
    exact ⟨rfl, by simp [h]⟩
  rintro us vs w2 ⟨rfl, rfl⟩
  unfold S.moves_Class_J2
  rw [Go.Lift.hd, sIf_dec]
  refine ⟨fun h => ?_, fun h1 => ?_⟩
  · rw [sIf_pos h]; exact ⟨rfl, by rw [clsR, if_neg h0, if_pos (.inl h)]⟩
  refine JoinS.intro (fun us w' => w' = w2 ∧ us = [.bool (decide (65 ≤ r ∧ r ≤ 90))]) ?_ ?_
  · rw [sBin_geq, sIf_dec]
    refine ⟨fun h => ?_, fun h => ⟨rfl, by rw [decide_eq_false fun k => h k.1]⟩⟩
    rw [sBin_leq]
    exact ⟨rfl, by simp [h]⟩
  rintro us vs w3 ⟨rfl, rfl⟩
  unfold S.moves_Class_J3
  rw [Go.Lift.hd, sIf_dec]
  refine ⟨fun h => ?_, fun h2 => ?_⟩
  · rw [sIf_pos h]; exact ⟨rfl, by rw [clsR, if_neg h0, if_pos (.inr (.inl h))]⟩
  refine JoinS.intro (fun us w' => w' = w3 ∧ us = [.bool (decide (48 ≤ r ∧ r ≤ 57))]) ?_ ?_
  · rw [sBin_geq, sIf_dec]
    refine ⟨fun h => ?_, fun h => ⟨rfl, by rw [decide_eq_false fun k => h k.1]⟩⟩
    rw [sBin_leq]
    exact ⟨rfl, by simp [h]⟩
  rintro us vs w4 ⟨rfl, rfl⟩
  unfold S.moves_Class_J4
  rw [Go.Lift.hd, sIf_dec]
  refine ⟨fun h => ?_, fun h3 => ?_⟩
  · rw [sIf_pos h]; exact ⟨rfl, by rw [clsR, if_neg h0, if_pos (.inr (.inr (.inl h)))]⟩
  rw [sBin_eql, sIf_dec]
  refine ⟨fun h => ?_, fun h4 => ?_⟩
  · rw [sIf_pos h]; exact ⟨rfl, by rw [clsR, if_neg h0, if_pos (.inr (.inr (.inr (.inl h))))]⟩
  rw [sBin_geq, sIf_dec]
  refine ⟨fun h => ⟨rfl, by rw [clsR, if_neg h0, if_pos (.inr (.inr (.inr (.inr h))))]⟩, fun h5 => ⟨rfl, ?_⟩⟩
  rw [clsR, if_neg h0, if_neg]
  rintro (h | h | h | h | h)
  · exact h1 h
  · exact h2 h
  · exact h3 h
  · exact h4 h
  · exact h5 h
theorem dclass_spec {w : World} (r : Int) : sCall Tryd.prog S.bodkinref37_Class.n [.int .i32 r] w fun u w' => w' = w ∧ u = .int .i64 (clsR r) := by
  refine S.bodkinref37_Class.call ?_
  unfold S.bodkinref37_Class
  repeat' (first
    | (refine ⟨rfl, ?_⟩; unfold clsR; congr 1; (repeat' split) <;> first | rfl | omega)
    | (rw [sBin_eql, sIf_dec]; refine ⟨fun _ => ?_, fun _ => ?_⟩)
    | (rw [sBin_geq, sIf_dec]; refine ⟨fun _ => ?_, fun _ => ?_⟩)
    | (rw [sBin_leq, sIf_dec]; refine ⟨fun _ => ?_, fun _ => ?_⟩))
/-- The pass by which letters are compared. -/
def fnS (fold : Bool) : Value := if fold then .func (.func S.find_All_2.n) #[] #[] else .func (.func S.find_All_1.n) #[] #[]
theorem same_spec {w : World} (fold : Bool) (a b : Int) : sDyn Tryd.prog (fnS fold) [.int .i32 a, .int .i32 b] w fun u w' => w' = w ∧ u = .bool (sameR fold a b) := by
  unfold fnS sameR
  cases fold
  · rw [if_neg (by decide), if_neg (by decide), sDyn_func]
    refine S.find_All_1.call ?_
    unfold S.find_All_1
    rw [sBin_eql]
    exact ⟨rfl, rfl⟩
  · rw [if_pos rfl, if_pos rfl, sDyn_func]
    refine S.find_All_2.call ?_
    unfold S.find_All_2
    refine (small_spec a).mono ?_
    rintro u w1 ⟨rfl, rfl⟩
    refine (small_spec b).mono ?_
    rintro u w2 ⟨rfl, rfl⟩
    rw [sBin_eql]
    exact ⟨rfl, rfl⟩
def eqAll (fold : Bool) (xs ys : List Int) : Prop := xs.length = ys.length ∧ ∀ (i : Nat) (r s : Int), xs[i]? = some r → ys[i]? = some s → sameR fold r s = true
theorem eqf_spec {w : World} {a b : Value} {xs ys : List Int} (fold : Bool) (ha : Sl w a 1 encRn xs) (hb : Sl w b 1 encRn ys) : sCall Tryd.prog S.slices_EqualFunc.n [a, b, fnS fold] w fun u w' => w' = w ∧ ∃ q : Bool, u = .bool q ∧ (q = true ↔ eqAll fold xs ys) := by
  refine S.slices_EqualFunc.call ?_
  unfold S.slices_EqualFunc
  have hla := ha.len_le
  rw [sLen_sl S.tel_L_int32 ha, sLen_sl S.tel_L_int32 hb, sBin_neq, sIf_not]
  refine ⟨fun h => ⟨rfl, false, rfl, ?_⟩, fun hlen => ?_⟩
  · simp only [Bool.false_eq_true, false_iff]
    exact fun k => h (by have := k.1; omega)
  have hxy : xs.length = ys.length := by omega
  rw [sLen_sl S.tel_L_int32 ha]
  refine LoopS.intro (fun us w1 => w1 = w ∧ ∃ i : Nat, us = [.int .i64 i] ∧ i ≤ xs.length ∧ ∀ (j : Nat) (r s : Int), j < i → xs[j]? = some r → ys[j]? = some s → sameR fold r s = true)
    (fun us _ => match us with | [.int _ a] => (xs.length - a).toNat | _ => 0) ⟨rfl, 0, rfl, Nat.zero_le _, fun j r s hj => by omega⟩ ?_
  rintro us vs w1 ⟨rfl, i, rfl, hi, hb2⟩
  unfold S.slices_EqualFunc_L1
  rw [Go.Lift.hd, sBin_lss, sIf_dec]
  refine ⟨fun hlt => ?_, fun hge => ⟨rfl, true, rfl, ?_⟩⟩
  · obtain ⟨x, hx⟩ : ∃ x, xs[i]? = some x := ⟨_, List.getElem?_eq_getElem (by omega)⟩
    obtain ⟨y, hy⟩ : ∃ y, ys[i]? = some y := ⟨_, List.getElem?_eq_getElem (by omega)⟩
    obtain ⟨b1, o1, hel1, hc1⟩ := ha.el hx
    obtain ⟨b2, o2, hel2, hc2⟩ := hb.el hy
    rw [sIdxA_sl S.tel_L_int32 S.tsz_int32 (by omega) ha hx rfl, hel1, sLoad_cell (v := .int .i32 x) S.tcell_int32 (hc1.fst rfl), sIdxA_sl S.tel_L_int32 S.tsz_int32 (by omega) hb hy rfl, hel2, sLoad_cell (v := .int .i32 y) S.tcell_int32 (hc2.fst rfl)]
    refine sDyn_mono ?_ (same_spec fold x y)
    rintro u w2 ⟨rfl, rfl⟩
    rw [sUn_not, sIf_bool]
    refine ⟨fun h => ⟨rfl, false, rfl, ?_⟩, fun h => ?_⟩
    · simp only [Bool.false_eq_true, false_iff]
      intro k
      have := k.2 i x y hx hy
      rw [this] at h
      cases h
    · rw [sBin_add _ _ ⟨by omega, by omega⟩]
      refine ⟨⟨rfl, i + 1, by simp, by omega, fun j r s hj hr hs => ?_⟩, by simp only []; omega⟩
      rcases Nat.lt_or_ge j i with h1 | h1
      · exact hb2 j r s h1 hr hs
      · obtain rfl : j = i := by omega
        rw [hx] at hr
        rw [hy] at hs
        cases hr
        cases hs
        cases hq : sameR fold x y
        · rw [hq] at h; cases h
        · rfl
  · simp only [true_iff]
    exact ⟨hxy, fun j r s hr hs => hb2 j r s (by have := (List.getElem?_eq_some_iff.1 hr).1; omega) hr hs⟩
def ltr (l : List Int) (a : Int) : Bool := decide (0 ≤ a) && (match l[a.toNat]? with | some r => decide (clsR r = 1) | none => false)
theorem ltr_some {l : List Int} {a r : Int} (h0 : 0 ≤ a) (h : l[a.toNat]? = some r) : ltr l a = decide (clsR r = 1) := by unfold ltr; rw [h, decide_eq_true h0]; rfl
theorem ltr_none {l : List Int} {a : Int} (h : ¬ (0 ≤ a ∧ a < l.length)) : ltr l a = false := by
  unfold ltr
  by_cases h0 : 0 ≤ a
  · rw [List.getElem?_eq_none (by omega)]; simp
  · rw [decide_eq_false h0]; rfl
def fnd (l pat : List Int) (fold word : Bool) (a : Nat) : Prop :=
  a + pat.length ≤ l.length ∧ eqAll fold ((l.take (a + pat.length)).drop a) pat ∧ (word = true → ¬ (ltr pat 0 = true ∧ ltr l ((a : Int) - 1) = true) ∧ ¬ (ltr pat ((pat.length : Int) - 1) = true ∧ ltr l ((a : Int) + pat.length) = true))
/-- What is looked for, in memory. -/
def Srch (w : World) (b : Nat) (l pat : List Int) (fold word : Bool) : Prop := ∃ xv wv, Cells w b 0 [xv, wv, .bool word, fnS fold] ∧ Sl w xv 1 encRn l ∧ Sl w wv 1 encRn pat
theorem Srch.ext {w w' : World} {b : Nat} {l pat : List Int} {fold word : Bool} (h : Srch w b l pat fold word) (e : Ext w w') : Srch w' b l pat fold word := by
  obtain ⟨xv, wv, h1, h2, h3⟩ := h
  exact ⟨xv, wv, h1.ext e, h2.ext e, h3.ext e⟩
section
variable {w : World} {b : Nat} {l pat : List Int} {fold word : Bool}
theorem letter_spec (h : Srch w b l pat fold word) (a : Int) : sCall Tryd.prog S.find_search_letterAt.n [.pointer (some ⟨b, 0, none⟩), .int .i64 a] w fun u w' => w' = w ∧ u = .bool (ltr l a) := by
  obtain ⟨xv, wv, hc, hx, hw⟩ := h
  refine S.find_search_letterAt.call ?_
  unfold S.find_search_letterAt
  rw [sBin_geq, sIf_dec]
  refine ⟨fun h0 => ?_, fun h0 => ⟨rfl, by rw [ltr_none fun k => h0 k.1]⟩⟩
  rw [sNil_ptr, sFldA_ptr S.tfl_find_search_runes, sLoad_cell S.tcell_L_int32 (hc.at 0 rfl), sLen_sl S.tel_L_int32 hx, sBin_lss, sIf_dec]
  refine ⟨fun h1 => ?_, fun h1 => ⟨rfl, by rw [ltr_none fun k => h1 k.2]⟩⟩
  obtain ⟨r, hr⟩ : ∃ r, l[a.toNat]? = some r := ⟨_, List.getElem?_eq_getElem (by omega)⟩
  obtain ⟨b1, o1, hel1, hc1⟩ := hx.el hr
  rw [sNil_ptr, sFldA_ptr S.tfl_find_search_runes, sLoad_cell S.tcell_L_int32 (hc.at 0 rfl), sIdxA_sl S.tel_L_int32 S.tsz_int32 (by omega) hx hr (by omega), hel1, sLoad_cell (v := .int .i32 r) S.tcell_int32 (hc1.fst rfl)]
  refine (class_spec r).mono ?_
  rintro u w1 ⟨rfl, rfl⟩
  rw [sBin_eql]
  exact ⟨rfl, by rw [ltr_some h0 hr]⟩
theorem whole_spec (h : Srch w b l pat fold word) (hp : 0 < pat.length) {a : Nat} (ha : a + pat.length ≤ l.length) : sCall Tryd.prog S.find_search_whole.n [.pointer (some ⟨b, 0, none⟩), .int .i64 a, .int .i64 ((a : Int) + pat.length)] w fun u w' => Ext w w' ∧ u = .bool (!(ltr l ((a : Int) - 1) && ltr pat 0) && !(ltr l ((a : Int) + pat.length) && ltr pat ((pat.length : Int) - 1))) := by
  have hS := h
  obtain ⟨xv, wv, hc, hx, hw⟩ := h
  have hll := hx.len_le
  refine S.find_search_whole.call ?_
  unfold S.find_search_whole
  refine JoinS.intro (fun us w' => w' = w ∧ us = [.bool (ltr l ((a : Int) - 1) && ltr pat 0)]) ?_ ?_
  · rw [sBin_sub _ _ ⟨by omega, by omega⟩]
    refine (letter_spec hS _).mono ?_
    rintro u w1 ⟨rfl, rfl⟩
    rw [sIf_bool]
    refine ⟨fun h1 => ?_, fun h1 => ⟨rfl, by rw [h1]; rfl⟩⟩
    obtain ⟨r, hr⟩ : ∃ r, pat[0]? = some r := ⟨_, List.getElem?_eq_getElem hp⟩
    obtain ⟨b1, o1, hel1, hc1⟩ := hw.el hr
    rw [sNil_ptr, sFldA_ptr S.tfl_find_search_want, sLoad_cell S.tcell_L_int32 (hc.at 1 rfl), sIdxA_sl (z := 0) S.tel_L_int32 S.tsz_int32 (by omega) hw hr rfl, hel1, sLoad_cell (v := .int .i32 r) S.tcell_int32 (hc1.fst rfl)]
    refine (class_spec r).mono ?_
    rintro u w1 ⟨rfl, rfl⟩
    rw [sBin_eql]
    exact ⟨rfl, by rw [h1, ltr_some (Int.le_refl 0) hr]; rfl⟩
  rintro us vs w1 ⟨rfl, rfl⟩
  unfold S.find_search_whole_J1
  rw [Go.Lift.hd]
  refine JoinS.intro (fun us w' => Ext w1 w' ∧ us = [.bool (ltr l ((a : Int) + pat.length) && ltr pat ((pat.length : Int) - 1))]) ?_ ?_
  · refine DrawS.ext ?_
    have E : Ext w1 w1.drew := (Ext.refl w1).drew
    refine (letter_spec (hS.ext E) _).mono ?_
    rintro u w2 ⟨rfl, rfl⟩
    refine ⟨E, ?_⟩
    rw [sIf_bool]
    refine ⟨fun h1 => ?_, fun h1 => ⟨E, by rw [h1]; rfl⟩⟩
    obtain ⟨r, hr⟩ : ∃ r, pat[pat.length - 1]? = some r := ⟨_, List.getElem?_eq_getElem (by omega)⟩
    obtain ⟨b1, o1, hel1, hc1⟩ := hw.el hr
    rw [sNil_ptr, stillS_eq (fun w1 h1 K => sFldA_ptr S.tfl_find_search_want) E, stillS_cell S.tcell_L_int32 (hc.at 1 rfl) E, sNil_ptr, stillS_eq (fun w1 h1 K => sFldA_ptr S.tfl_find_search_want) E, stillS_cell S.tcell_L_int32 (hc.at 1 rfl) E,
      stillS_eq (fun w1 h1 K => sLen_sl S.tel_L_int32 (hw.ext h1)) E, stillS_eq (fun w1 h1 K => sBin_sub _ _ ⟨by omega, by omega⟩) E, stillS_eq (fun w1 h1 K => sIdxA_sl S.tel_L_int32 S.tsz_int32 (by omega) (hw.ext h1) hr (by omega)) E, hel1, stillS_cell (v := .int .i32 r) S.tcell_int32 (hc1.fst rfl) E]
    refine (class_spec r).mono ?_
    rintro u w2 ⟨rfl, rfl⟩
    refine ⟨E, ?_⟩
    rw [stillS_eq (fun w1 h1 K => sBin_eql _ _) E]
    exact ⟨E, by rw [h1, ltr_some (by omega) (by rw [show ((pat.length : Int) - 1).toNat = pat.length - 1 by omega]; exact hr)]; rfl⟩
  rintro us vs w2 ⟨e2, rfl⟩
  unfold S.find_search_whole_J2
  rw [Go.Lift.hd, sUn_not, sIf_bool]
  refine ⟨fun h1 => ?_, fun h1 => ⟨e2, by rw [h1]; rfl⟩⟩
  rw [sUn_not]
  exact ⟨e2, by rw [h1]; rfl⟩
theorem found_spec (h : Srch w b l pat fold word) (hp : 0 < pat.length) {a : Nat} (ha : a ≤ l.length) (hn : pat.length ≤ 1000000) (hl : l.length ≤ 1000000) : sCall Tryd.prog S.find_search_found.n [.pointer (some ⟨b, 0, none⟩), .int .i64 a] w fun u w' => Ext w w' ∧ ∃ q : Bool, u = .bool q ∧ (q = true ↔ fnd l pat fold word a) := by
  have hS := h
  obtain ⟨xv, wv, hc, hx, hw⟩ := h
  refine S.find_search_found.call ?_
  unfold S.find_search_found
  rw [sNil_ptr, sFldA_ptr S.tfl_find_search_want, sLoad_cell S.tcell_L_int32 (hc.at 1 rfl), sLen_sl S.tel_L_int32 hw, sBin_add _ _ ⟨by omega, by omega⟩]
  refine DrawS.ext ?_
  have E : Ext w w.drew := (Ext.refl w).drew
  rw [sNil_ptr, stillS_eq (fun w1 h1 K => sFldA_ptr S.tfl_find_search_runes) E, stillS_cell S.tcell_L_int32 (hc.at 0 rfl) E, stillS_eq (fun w1 h1 K => sLen_sl S.tel_L_int32 (hx.ext h1)) E, stillS_eq (fun w1 h1 K => sBin_leq _ _) E, sIf_dec]
  refine ⟨fun hle => ?_, fun hgt => ⟨E, false, rfl, ?_⟩⟩
  case refine_2 =>
    simp only [Bool.false_eq_true, false_iff]
    exact fun k => hgt (by have := k.1; omega)
  have hle' : a + pat.length ≤ l.length := by omega
  have hcap := sl_cap hx
  have hpart : ∀ w1, Ext w w1 → Sl w1 (slV xv 1 a (a + pat.length) (capV xv)) 1 encRn ((l.take (a + pat.length)).drop a) := fun w1 h1 => by
    have := sl_cap (hx.ext h1)
    exact (hx.ext h1).part (lo := a) (hi := a + pat.length) (mx := capV xv) (by omega) hle' (by omega) (Nat.le_refl _)
  rw [sNil_ptr, stillS_eq (fun w1 h1 K => sFldA_ptr S.tfl_find_search_runes) E, stillS_cell S.tcell_L_int32 (hc.at 0 rfl) E, stillS_eq (fun w1 h1 K => sSlice_lh (lo := a) (hi := a + pat.length) S.tel_L_int32 S.tsz_int32 (by omega) (hx.ext h1) rfl (by omega) (by omega) hle') E,
    sNil_ptr, stillS_eq (fun w1 h1 K => sFldA_ptr S.tfl_find_search_want) E, stillS_cell S.tcell_L_int32 (hc.at 1 rfl) E, sNil_ptr, stillS_eq (fun w1 h1 K => sFldA_ptr S.tfl_find_search_same) E, stillS_cell (v := fnS fold) (by kernel_rfl) (hc.at 3 rfl) E]
  refine (eqf_spec fold (hpart _ E) (hw.ext E)).mono ?_
  rintro u w2 ⟨rfl, q, rfl, hq⟩
  refine ⟨E, ?_⟩
  rw [sIf_bool]
  refine ⟨fun h1 => ?_, fun h1 => ⟨E, false, rfl, ?_⟩⟩
  case refine_2 =>
    simp only [Bool.false_eq_true, false_iff]
    intro k
    rw [hq.2 k.2.1] at h1
    cases h1
  have hea := hq.1 h1
  rw [sNil_ptr, stillS_eq (fun w1 h1 K => sFldA_ptr S.tfl_find_search_word) E, stillS_cell (v := .bool word) S.tcell_bool (hc.at 2 rfl) E, stillS_eq (fun w1 h1 K => sUn_not _) E, sIf_bool]
  refine ⟨fun h2 => ⟨E, true, rfl, ?_⟩, fun h2 => ?_⟩
  · simp only [true_iff]
    exact ⟨hle', hea, fun k => by rw [k] at h2; cases h2⟩
  have hwd : word = true := by cases word <;> simp_all
  refine (whole_spec (hS.ext E) hp hle').mono ?_
  rintro u w3 ⟨e3, rfl⟩
  refine ⟨E.trans e3, E.trans e3, _, rfl, ?_⟩
  unfold fnd
  rw [Bool.and_eq_true, Bool.not_eq_true', Bool.not_eq_true', Bool.and_eq_false_iff, Bool.and_eq_false_iff]
  constructor
  · rintro ⟨k1, k2⟩
    refine ⟨hle', hea, fun _ => ⟨?_, ?_⟩⟩
    · rintro ⟨q1, q2⟩; rcases k1 with k | k <;> simp_all
    · rintro ⟨q1, q2⟩; rcases k2 with k | k <;> simp_all
  · rintro ⟨_, _, k⟩
    obtain ⟨k1, k2⟩ := k hwd
    constructor
    · cases h3 : ltr l ((a : Int) - 1)
      · exact .inl rfl
      · cases h4 : ltr pat 0
        · exact .inr rfl
        · exact absurd ⟨h4, h3⟩ k1
    · cases h3 : ltr l ((a : Int) + pat.length)
      · exact .inl rfl
      · cases h4 : ltr pat ((pat.length : Int) - 1)
        · exact .inr rfl
        · exact absurd ⟨h4, h3⟩ k2
end
end Go.Proofs.YthpngnngoamlpaaDoor

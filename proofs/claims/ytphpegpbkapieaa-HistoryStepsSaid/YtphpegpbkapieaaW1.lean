/- Histories in memory, and what copies and comparisons of edits give. No conditions beyond the state. -/
import Derived.Test.YtphpegpbkapieaaS
import Derived.Test.YtphpegpbkapieaaRs2
namespace Go.Proofs.Ytphpegpbkapieaa
open Go Go.Lift Go.RowKit

/-! ## Edits, slices as values, steps, operations -/
abbrev Ed := Int × Int × ByteArray
def encE (x : Ed) : List Value := [.int .i64 x.1, .int .i64 x.2.1, .string x.2.2]
theorem encE_ok : Enc encE 3 := ⟨fun _ => rfl, fun x u hu => by simp [encE] at hu; rcases hu with rfl | rfl | rfl <;> rfl⟩
def encS (x : SV × SV) : List Value := [sv x.1, sv x.2]
theorem encS_ok : Enc encS 2 := ⟨fun _ => rfl, fun x u hu => by simp [encS] at hu; rcases hu with rfl | rfl <;> rfl⟩
def encO (x : Int × SV × SV) : List Value := [.int .i64 x.1, sv x.2.1, sv x.2.2]
theorem encO_ok : Enc encO 3 := ⟨fun _ => rfl, fun x u hu => by simp [encO] at hu; rcases hu with rfl | rfl | rfl <;> rfl⟩
theorem flatE : flatQ Try.prog S.T.api_Edit = some [3, 3, 9] := by kernel_rfl
theorem fitE (x : Ed) : fitB Try.prog [3, 3, 9] (encE x) = true := by kernel_rfl
theorem encE_inj {x y : Ed} (h : encE x = encE y) : x = y := by
  obtain ⟨a, b, c⟩ := x; obtain ⟨a', b', c'⟩ := y
  simp [encE] at h; simp [h]

/-! ## The state of a history -/
/-- Steps and what they hold: the program's own copies. -/
def Steps (w : World) (base : Nat) (ds : List (SV × SV)) (D : List (List Ed × List Ed)) : Prop :=
  ds.length = D.length ∧ ∀ (i : Nat) (s : SV × SV) (d : List Ed × List Ed), ds[i]? = some s → D[i]? = some d → Row w base S.T.api_Edit 3 (sv s.1) encE d.1 ∧ Row w base S.T.api_Edit 3 (sv s.2) encE d.2
def small (D : List (List Ed × List Ed)) : Prop := ∀ d ∈ D, d.1.length ≤ 70 ∧ d.2.length ≤ 70
structure HistAt (w : World) (base b : Nat) (x0 x1 : Value) (ds us : List (SV × SV)) (D U : List (List Ed × List Ed)) : Prop where
  hb : b < base
  blk : Blk w b [x0, x1]
  r0 : Row w base S.T.history_Step 2 x0 encS ds
  r1 : Row w base S.T.history_Step 2 x1 encS us
  ne : ∀ g, x0.ownBlock = some g → x1.ownBlock ≠ some g
  s0 : Steps w base ds D
  s1 : Steps w base us U
def Hist (w : World) (base b : Nat) (D U : List (List Ed × List Ed)) : Prop := ∃ x0 x1 ds us, HistAt w base b x0 x1 ds us D U

section
variable {w w' : World} {base b : Nat} {ds : List (SV × SV)} {D : List (List Ed × List Ed)}
theorem Steps.frm (h : Steps w base ds D) (hb : b < base) (hf : Frm S.T.history_Step base b w w') : Steps w' base ds D :=
  ⟨h.1, fun i s d hs hd => ⟨hf.own (h.2 i s d hs hd).1 (by decide) hb, hf.own (h.2 i s d hs hd).2 (by decide) hb⟩⟩
theorem Steps.ext (h : Steps w base ds D) (he : Ext w w') : Steps w' base ds D :=
  ⟨h.1, fun i s d hs hd => ⟨(h.2 i s d hs hd).1.ext he, (h.2 i s d hs hd).2.ext he⟩⟩
theorem Steps.push (h : Steps w base ds D) {s : SV × SV} {d : List Ed × List Ed} (h1 : Row w base S.T.api_Edit 3 (sv s.1) encE d.1) (h2 : Row w base S.T.api_Edit 3 (sv s.2) encE d.2) : Steps w base (ds ++ [s]) (D ++ [d]) := by
  refine ⟨by simp [h.1], fun i s' d' hs hd => ?_⟩
  rw [List.getElem?_append] at hs hd
  rw [h.1] at hs
  split at hs
  · rename_i hi
    rw [if_pos hi] at hd
    exact h.2 i s' d' hs hd
  · rename_i hi
    rw [if_neg hi] at hd
    cases hj : i - D.length with
    | zero => rw [hj] at hs hd; cases hs; cases hd; exact ⟨h1, h2⟩
    | succ j => rw [hj] at hs; simp at hs
theorem Steps.drop (h : Steps w base ds D) (n : Nat) : Steps w base (ds.drop n) (D.drop n) := by
  refine ⟨by simp [h.1], fun i s d hs hd => ?_⟩
  rw [List.getElem?_drop] at hs hd
  exact h.2 _ s d hs hd
theorem Steps.take (h : Steps w base ds D) (n : Nat) : Steps w base (ds.take n) (D.take n) := by
  refine ⟨by simp [h.1], fun i s d hs hd => ?_⟩
  rw [List.getElem?_take] at hs hd
  split at hs
  · rename_i hi; rw [if_pos hi] at hd; exact h.2 _ s d hs hd
  · cases hs
theorem HistAt.ext {x0 x1 : Value} {us : List (SV × SV)} {U : List (List Ed × List Ed)} (h : HistAt w base b x0 x1 ds us D U) (he : Ext w w') : HistAt w' base b x0 x1 ds us D U :=
  ⟨h.hb, h.blk.ext he, h.r0.ext he, h.r1.ext he, h.ne, h.s0.ext he, h.s1.ext he⟩
theorem Hist.ext {U : List (List Ed × List Ed)} (h : Hist w base b D U) (he : Ext w w') : Hist w' base b D U := by
  obtain ⟨x0, x1, ds, us, h⟩ := h; exact ⟨x0, x1, ds, us, h.ext he⟩
end

theorem clone_spec {w : World} {v : Value} {xs : List Ed} (h : Sl w v 3 encE xs) (hn : xs.length ≤ 1000) : sCall Try.prog S.slices_Clone.n [v] w fun u w' => Ext w w' ∧ Row w' w.heap.size S.T.api_Edit 3 u encE xs := by
  refine S.slices_Clone.call ?_
  unfold S.slices_Clone
  obtain ⟨a, cap, rfl, g1, g2, g3⟩ := id h
  rw [sBin_sl_eq S.tel_L_api_Edit, sIf_bool]
  refine ⟨fun h1 => ⟨Ext.refl w, ?_⟩, fun h1 => ?_⟩
  · have : xs = [] := by
      cases xs with
      | nil => rfl
      | cons y ys => obtain ⟨b, o, hb, _⟩ := g3 0 y rfl; rw [hb] at h1; cases h1
    subst this
    exact Row.nil _ _ _ _ _
  · refine sBuildSlice_none (k := 3) (enc := encE) S.tel_L_api_Edit S.tze_api_Edit fun v1 w1 ho1 he1 hs1 => ?_
    refine sAppend_own S.tel_L_api_Edit S.tsz_api_Edit (by decide) S.tze_api_Edit rfl encE_ok ho1 he1.size (h.ext he1) (by have : maxLen = 9223372036854775807 := rfl; simp; omega) (by rw [S.tby_api_Edit]; simp; omega) fun v' w2 ho2 hg2 => ?_
    exact ⟨he1.wr hg2 fun g hg => (ho1.lt g hg).1, ho2.row⟩

theorem edits_spec {w : World} {a b : Value} {xs ys : List Ed} (ha : Sl w a 3 encE xs) (hb : Sl w b 3 encE ys) : sCall Try.prog S.bodkinplain_Edits.n [a, b] w fun u w' => Ext w w' ∧ ∃ r, u = .bool r ∧ (r = true ↔ xs = ys) := by
  refine S.bodkinplain_Edits.call ?_
  unfold S.bodkinplain_Edits
  rw [sLen_sl S.tel_L_api_Edit ha]
  have hla := ha.len_le
  refine LoopS.intro (fun us w1 => Ext w w1 ∧ ∃ i : Nat, us = [.int .i64 i] ∧ i ≤ xs.length ∧ i ≤ ys.length ∧ xs.take i = ys.take i)
    (fun us _ => match us with | [.int _ a] => (xs.length - a).toNat | _ => 0) ⟨Ext.refl w, 0, rfl, Nat.zero_le _, Nat.zero_le _, rfl⟩ ?_
  rintro us vs w1 ⟨he, i, rfl, hi, hj, hp⟩
  unfold S.bodkinplain_Edits_L1
  rw [hd, sBin_lss, sIf_dec]
  refine ⟨fun hlt => ?_, fun hge => ?_⟩
  · refine DrawS.ext ?_
    have E : Ext w1 w1.drew := (Ext.refl w1).drew
    have ha1 := ha.ext he
    have hb1 := hb.ext he
    rw [stillS_eq (fun w1 h1 K => sLen_sl S.tel_L_api_Edit (hb1.ext h1)) E, stillS_eq (fun w1 h1 K => sBin_geq _ _) E, sIf_dec]
    refine ⟨fun hge => ⟨he.trans E, false, rfl, ?_⟩, fun hlt2 => ?_⟩
    · simp only [Bool.false_eq_true, false_iff]
      rintro rfl
      omega
    obtain ⟨x, hx⟩ : ∃ x, xs[i]? = some x := ⟨_, List.getElem?_eq_getElem (by omega)⟩
    obtain ⟨y, hy⟩ : ∃ y, ys[i]? = some y := ⟨_, List.getElem?_eq_getElem (by omega)⟩
    obtain ⟨b1, o1, hel1, hc1⟩ := ha1.el hx
    obtain ⟨b2, o2, hel2, hc2⟩ := hb1.el hy
    obtain ⟨r, hr, _, hne⟩ := sBin_flat (cx := false) (cy := false) flatE (fitE x) (fitE y)
    rw [stillS_eq (fun w1 h1 K => sIdxA_sl S.tel_L_api_Edit S.tsz_api_Edit (by omega) (ha1.ext h1) hx rfl) E, hel1, stillS_agg S.tagg_api_Edit hc1 rfl E,
      stillS_eq (fun w1 h1 K => sIdxA_sl S.tel_L_api_Edit S.tsz_api_Edit (by omega) (hb1.ext h1) hy rfl) E, hel2, stillS_agg S.tagg_api_Edit hc2 rfl E, stillS_eq (fun w1 h1 K => hne w1 K) E, sIf_bool]
    refine ⟨fun h => ⟨he.trans E, false, rfl, ?_⟩, fun h => ?_⟩
    · simp only [Bool.false_eq_true, false_iff]
      rintro rfl
      rw [hx] at hy; cases hy
      rw [hr.2 rfl] at h; cases h
    · have hxy : x = y := encE_inj (hr.1 (by simpa using h))
      subst hxy
      rw [sBin_add _ _ ⟨by omega, by omega⟩]
      refine ⟨⟨he.trans E, i + 1, by simp, by omega, by omega, ?_⟩, by simp only []; omega⟩
      rw [List.take_add_one, List.take_add_one, hp, hx, hy]
  · rw [sLen_sl S.tel_L_api_Edit (ha.ext he), sLen_sl S.tel_L_api_Edit (hb.ext he), sBin_eql]
    refine ⟨he, _, rfl, ?_⟩
    rw [decide_eq_true_eq]
    have hix : i = xs.length := by omega
    subst hix
    rw [List.take_length] at hp
    constructor
    · intro h; rw [hp, List.take_of_length_le (by omega)]
    · rintro rfl; rfl
end Go.Proofs.Ytphpegpbkapieaa

/- Histories in memory, and what copies and comparisons of edits give. No conditions beyond the state. -/
import Derived.Test.YtpjmmhbdondknaaDoorHs
namespace Go.Proofs.YtpjmmhbdondknaaDoor.H
open Go Go.Lift Go.RowKit Go.Txt

/-! ## Edits, slices as values, steps, operations -/
def encS (x : SV × SV) : List Value := [sv x.1, sv x.2]
theorem encS_ok : Enc encS 2 := ⟨fun _ => rfl, fun x u hu => by simp [encS] at hu; rcases hu with rfl | rfl <;> rfl⟩
theorem row_isS {α : Type} {w : World} {base e k : Nat} {v : Value} {enc : α → List Value} {xs : List α} (h : Row w base e k v enc xs) : isS v = true := by
  rcases h with ⟨rfl, _⟩ | ⟨g, o, cap, cur, rfl, _⟩ <;> rfl
theorem encS_isS (x : SV × SV) : ∀ u ∈ encS x, isS u = true := fun u hu => by simp [encS] at hu; rcases hu with rfl | rfl <;> rfl
theorem two_isS {a c : Value} (h1 : isS a = true) (h2 : isS c = true) : ∀ u ∈ [a, c], isS u = true := fun u hu => by simp at hu; rcases hu with rfl | rfl <;> assumption
/-! ## The state of a history -/
/-- Steps and what they hold: the program's own copies. -/
def Steps (w : World) (base : Nat) (ds : List (SV × SV)) (D : List (List Ed × List Ed)) : Prop :=
  ds.length = D.length ∧ ∀ (i : Nat) (s : SV × SV) (d : List Ed × List Ed), ds[i]? = some s → D[i]? = some d → Row w base S.T.api_Edit 3 (sv s.1) encE d.1 ∧ Row w base S.T.api_Edit 3 (sv s.2) encE d.2
def small (D : List (List Ed × List Ed)) : Prop := ∀ d ∈ D, d.1.length ≤ 70 ∧ d.2.length ≤ 70
structure HistAt (w : World) (base b : Nat) (x0 x1 : Value) (ds us : List (SV × SV)) (D U : List (List Ed × List Ed)) : Prop where
  hb : b < base
  blk : Blk w b [x0, x1]
  r0 : Row w base S.T.history_Step 2 x0 encS ds
  r1 : Row w base S.T.history_Step 2 x1 encS us
  ne : ∀ g, x0.ownBlock = some g → x1.ownBlock ≠ some g
  s0 : Steps w base ds D
  s1 : Steps w base us U
  a0 : OwnS w x0
  a1 : OwnS w x1
def Hist (w : World) (base b : Nat) (D U : List (List Ed × List Ed)) : Prop := ∃ x0 x1 ds us, HistAt w base b x0 x1 ds us D U

section
variable {w w' : World} {base b : Nat} {ds : List (SV × SV)} {D : List (List Ed × List Ed)}
theorem Steps.frm (h : Steps w base ds D) (hb : b < base) (hf : Frm S.T.history_Step base b w w') : Steps w' base ds D :=
  ⟨h.1, fun i s d hs hd => ⟨hf.own (h.2 i s d hs hd).1 (by decide) hb, hf.own (h.2 i s d hs hd).2 (by decide) hb⟩⟩
theorem Steps.ext (h : Steps w base ds D) (he : Ext w w') : Steps w' base ds D :=
  ⟨h.1, fun i s d hs hd => ⟨(h.2 i s d hs hd).1.ext he, (h.2 i s d hs hd).2.ext he⟩⟩
theorem Steps.push (h : Steps w base ds D) {s : SV × SV} {d : List Ed × List Ed} (h1 : Row w base S.T.api_Edit 3 (sv s.1) encE d.1) (h2 : Row w base S.T.api_Edit 3 (sv s.2) encE d.2) : Steps w base (ds ++ [s]) (D ++ [d]) := by
  refine ⟨by simp [h.1], fun i s' d' hs hd => ?_⟩
  rw [List.getElem?_append] at hs hd
  rw [h.1] at hs
  split at hs
  · rename_i hi
    rw [if_pos hi] at hd
    exact h.2 i s' d' hs hd
  · rename_i hi
    rw [if_neg hi] at hd
    cases hj : i - D.length with
    | zero => rw [hj] at hs hd; cases hs; cases hd; exact ⟨h1, h2⟩
    | succ j => rw [hj] at hs; simp at hs
theorem Steps.drop (h : Steps w base ds D) (n : Nat) : Steps w base (ds.drop n) (D.drop n) := by
  refine ⟨by simp [h.1], fun i s d hs hd => ?_⟩
  rw [List.getElem?_drop] at hs hd
  exact h.2 _ s d hs hd
theorem Steps.take (h : Steps w base ds D) (n : Nat) : Steps w base (ds.take n) (D.take n) := by
  refine ⟨by simp [h.1], fun i s d hs hd => ?_⟩
  rw [List.getElem?_take] at hs hd
  split at hs
  · rename_i hi; rw [if_pos hi] at hd; exact h.2 _ s d hs hd
  · cases hs
theorem HistAt.ext {x0 x1 : Value} {us : List (SV × SV)} {U : List (List Ed × List Ed)} (h : HistAt w base b x0 x1 ds us D U) (he : Ext w w') : HistAt w' base b x0 x1 ds us D U :=
  ⟨h.hb, h.blk.ext he, h.r0.ext he, h.r1.ext he, h.ne, h.s0.ext he, h.s1.ext he, h.a0.ext he, h.a1.ext he⟩
theorem Hist.ext {U : List (List Ed × List Ed)} (h : Hist w base b D U) (he : Ext w w') : Hist w' base b D U := by
  obtain ⟨x0, x1, ds, us, h⟩ := h; exact ⟨x0, x1, ds, us, h.ext he⟩
end

theorem clone_spec {w : World} {v : Value} {xs : List Ed} (h : Sl w v 3 encE xs) (hn : xs.length ≤ 1000) : sCall Tryd.prog S.slices_Clone.n [v] w fun u w' => Ext w w' ∧ Row w' w.heap.size S.T.api_Edit 3 u encE xs := by
  refine S.slices_Clone.call ?_
  unfold S.slices_Clone
  obtain ⟨a, cap, rfl, g1, g2, g3⟩ := id h
  rw [sBin_sl_eq S.tel_L_api_Edit, sIf_bool]
  refine ⟨fun h1 => ⟨Ext.refl w, ?_⟩, fun h1 => ?_⟩
  · have : xs = [] := by
      cases xs with
      | nil => rfl
      | cons y ys => obtain ⟨b, o, hb, _⟩ := g3 0 y rfl; rw [hb] at h1; cases h1
    subst this
    exact Row.nil _ _ _ _ _
  · refine sBuildSlice_none (k := 3) (enc := encE) S.tel_L_api_Edit S.tze_api_Edit fun v1 w1 ho1 he1 hs1 => ?_
    refine sAppend_own S.tel_L_api_Edit S.tsz_api_Edit (by decide) S.tze_api_Edit rfl encE_ok ho1 he1.size (h.ext he1) (by have : maxLen = 9223372036854775807 := rfl; simp; omega) (by rw [S.tby_api_Edit]; simp; omega) fun v' w2 ho2 hg2 => ?_
    exact ⟨he1.wr hg2 fun g hg => (ho1.lt g hg).1, ho2.row⟩

end Go.Proofs.YtpjmmhbdondknaaDoor.H

/- Partners of brackets, of the program and of the document; the laws of them. Conditions: the tables of widths and of sizes in memory. -/
import Derived.Test.YtplpkeoakclobaaDoorK4
namespace Go.Proofs.YtplpkeoakclobaaDoor
open Go Go.Lift Go.RowKit Go.Txt

def oth (c : Int) : Int := if c = 40 then 41 else if c = 41 then 40 else if c = 91 then 93 else if c = 93 then 91 else if c = 123 then 125 else if c = 125 then 123 else 0
def stp (c : Int) : Int := if c = 40 then 1 else if c = 91 then 1 else if c = 123 then 1 else -1
theorem oth_cases (c : Int) : (c ≠ 40 ∧ c ≠ 41 ∧ c ≠ 91 ∧ c ≠ 93 ∧ c ≠ 123 ∧ c ≠ 125 ∧ oth c = 0) ∨ c = 40 ∨ c = 41 ∨ c = 91 ∨ c = 93 ∨ c = 123 ∨ c = 125 := by
  by_cases h1 : c = 40
  · simp [h1]
  by_cases h2 : c = 41
  · simp [h2]
  by_cases h3 : c = 91
  · simp [h3]
  by_cases h4 : c = 93
  · simp [h4]
  by_cases h5 : c = 123
  · simp [h5]
  by_cases h6 : c = 125
  · simp [h6]
  left
  exact ⟨h1, h2, h3, h4, h5, h6, by unfold oth; simp [h1, h2, h3, h4, h5, h6]⟩
theorem oth_facts {c : Int} (h : oth c ≠ 0) : oth c ≠ c ∧ oth (oth c) = c ∧ stp (oth c) = - stp c ∧ (stp c = 1 ∨ stp c = -1) := by
  rcases oth_cases c with ⟨_, _, _, _, _, _, h0⟩ | rfl | rfl | rfl | rfl | rfl | rfl
  · exact absurd h0 h
  all_goals decide
def sg (c o x : Int) : Int := if x = c then 1 else if x = o then -1 else 0
def Qs (l : List Int) (c o : Int) : Nat → Int
  | 0 => 0
  | n + 1 => Qs l c o n + (match l[n]? with | some x => sg c o x | none => 0)
theorem Qs_succ {l : List Int} {c o : Int} {n : Nat} {x : Int} (h : l[n]? = some x) : Qs l c o (n + 1) = Qs l c o n + sg c o x := by rw [Qs, h]
theorem sg_bd (c o x : Int) : -1 ≤ sg c o x ∧ sg c o x ≤ 1 := by unfold sg; split <;> (try split) <;> omega
theorem Qs_step (l : List Int) (c o : Int) (n : Nat) : -1 ≤ Qs l c o (n + 1) - Qs l c o n ∧ Qs l c o (n + 1) - Qs l c o n ≤ 1 := by
  rw [Qs]
  split
  · have := sg_bd c o (by assumption)
    omega
  · omega
theorem Qs_bd (l : List Int) (c o : Int) : ∀ n : Nat, -(n : Int) ≤ Qs l c o n ∧ Qs l c o n ≤ n
  | 0 => by simp [Qs]
  | n + 1 => by
    have := Qs_bd l c o n
    have := Qs_step l c o n
    omega
theorem Qs_neg {l : List Int} {c o : Int} (h : o ≠ c) : ∀ n, Qs l o c n = - Qs l c o n
  | 0 => rfl
  | n + 1 => by
    rw [Qs, Qs, Qs_neg h n]
    have : ∀ x, sg o c x = - sg c o x := fun x => by
      unfold sg
      by_cases h1 : x = o
      · have : x ≠ c := fun h2 => h (h1.symm.trans h2)
        rw [if_pos h1, if_neg this, if_pos h1]; rfl
      · rw [if_neg h1]
        by_cases h2 : x = c
        · rw [if_pos h2, if_pos h2]
        · rw [if_neg h2, if_neg h2, if_neg h1]; rfl
    split
    · rw [this]; omega
    · omega
structure PartF (l : List Int) (c o : Int) (A j : Nat) : Prop where
  ge : A ≤ j
  lt : j < l.length
  eq : Qs l c o (j + 1) = Qs l c o A
  no : ∀ i, A ≤ i → i < j → Qs l c o (i + 1) ≠ Qs l c o A
structure PartB (l : List Int) (c o : Int) (A j : Nat) : Prop where
  le : j ≤ A
  eq : Qs l c o j = Qs l c o (A + 1)
  no : ∀ i, j < i → i ≤ A → Qs l c o i ≠ Qs l c o (A + 1)
theorem PartF.uniq {l : List Int} {c o : Int} {A j j' : Nat} (h : PartF l c o A j) (h' : PartF l c o A j') : j = j' := by
  rcases Nat.lt_trichotomy j j' with h1 | h1 | h1
  · exact absurd h.eq (h'.no j h.ge h1)
  · exact h1
  · exact absurd h'.eq (h.no j' h'.ge h1)
theorem PartB.uniq {l : List Int} {c o : Int} {A j j' : Nat} (h : PartB l c o A j) (h' : PartB l c o A j') : j = j' := by
  rcases Nat.lt_trichotomy j j' with h1 | h1 | h1
  · exact absurd h'.eq (h.no j' h1 h'.le)
  · exact h1
  · exact absurd h.eq (h'.no j h1 h.le)
/-- The answers for the partner of a place, of a rune that stands there. -/
def PrA (l : List Int) (A : Nat) (c n e : Int) : Prop :=
  (oth c = 0 ∧ n = 0 ∧ e = 4) ∨
  (oth c ≠ 0 ∧ stp c = 1 ∧ ((∃ j, PartF l c (oth c) A j ∧ n = (j : Nat) ∧ e = 0) ∨ ((∀ j, ¬ PartF l c (oth c) A j) ∧ n = 0 ∧ e = 6))) ∨
  (oth c ≠ 0 ∧ stp c = -1 ∧ ((∃ j, PartB l c (oth c) A j ∧ n = (j : Nat) ∧ e = 0) ∨ ((∀ j, ¬ PartB l c (oth c) A j) ∧ n = 0 ∧ e = 6)))
def Pr (l : List Int) (at_ n e : Int) : Prop := (¬ (0 ≤ at_ ∧ at_ < l.length) ∧ n = 0 ∧ e = 1) ∨ ∃ (A : Nat) (c : Int), at_ = A ∧ l[A]? = some c ∧ PrA l A c n e
theorem PrA.det {l : List Int} {A : Nat} {c n e n' e' : Int} (h : PrA l A c n e) (h' : PrA l A c n' e') : n = n' ∧ e = e' := by
  rcases h with ⟨h1, rfl, rfl⟩ | ⟨h1, h2, h3⟩ | ⟨h1, h2, h3⟩
  · rcases h' with ⟨_, rfl, rfl⟩ | ⟨h4, _⟩ | ⟨h4, _⟩
    · exact ⟨rfl, rfl⟩
    · exact absurd h1 h4
    · exact absurd h1 h4
  · rcases h' with ⟨h4, _⟩ | ⟨_, _, h5⟩ | ⟨_, h4, _⟩
    · exact absurd h4 h1
    · rcases h3 with ⟨j, hj, rfl, rfl⟩ | ⟨hn, rfl, rfl⟩
      · rcases h5 with ⟨j', hj', rfl, rfl⟩ | ⟨hn, _⟩
        · rw [hj.uniq hj']; exact ⟨rfl, rfl⟩
        · exact absurd hj (hn j)
      · rcases h5 with ⟨j', hj', _⟩ | ⟨_, rfl, rfl⟩
        · exact absurd hj' (hn j')
        · exact ⟨rfl, rfl⟩
    · omega
  · rcases h' with ⟨h4, _⟩ | ⟨_, h4, _⟩ | ⟨_, _, h5⟩
    · exact absurd h4 h1
    · omega
    · rcases h3 with ⟨j, hj, rfl, rfl⟩ | ⟨hn, rfl, rfl⟩
      · rcases h5 with ⟨j', hj', rfl, rfl⟩ | ⟨hn, _⟩
        · rw [hj.uniq hj']; exact ⟨rfl, rfl⟩
        · exact absurd hj (hn j)
      · rcases h5 with ⟨j', hj', _⟩ | ⟨_, rfl, rfl⟩
        · exact absurd hj' (hn j')
        · exact ⟨rfl, rfl⟩
theorem Pr.det {l : List Int} {a n e n' e' : Int} (h : Pr l a n e) (h' : Pr l a n' e') : n = n' ∧ e = e' := by
  rcases h with ⟨h1, rfl, rfl⟩ | ⟨A, c, rfl, hc, h1⟩
  · rcases h' with ⟨_, rfl, rfl⟩ | ⟨A, c, rfl, hc, _⟩
    · exact ⟨rfl, rfl⟩
    · have := (List.getElem?_eq_some_iff.1 hc).1
      exact absurd ⟨by omega, by omega⟩ h1
  · rcases h' with ⟨h2, _⟩ | ⟨A', c', hA, hc', h2⟩
    · have := (List.getElem?_eq_some_iff.1 hc).1
      exact absurd ⟨by omega, by omega⟩ h2
    · obtain rfl : A = A' := by omega
      rw [hc] at hc'
      cases hc'
      exact h1.det h2
/-- A partner's partner is the bracket itself: forth and back. -/
theorem back_of {l : List Int} {c : Int} {A j : Nat} (hc : l[A]? = some c) (ho : oth c ≠ 0) (h : PartF l c (oth c) A j) : l[j]? = some (oth c) ∧ A < j ∧ PartB l (oth c) c j A := by
  obtain ⟨f1, f2, f3, f4⟩ := oth_facts ho
  have hA : Qs l c (oth c) (A + 1) = Qs l c (oth c) A + 1 := by rw [Qs_succ hc]; unfold sg; rw [if_pos rfl]
  have hlt : A < j := by
    rcases Nat.lt_or_ge A j with h1 | h1
    · exact h1
    · obtain rfl : j = A := by have := h.ge; omega
      have := h.eq
      omega
  have hup : ∀ i, A ≤ i → i < j → Qs l c (oth c) A < Qs l c (oth c) (i + 1) := by
    intro i
    induction i with
    | zero =>
      intro h1 h2
      obtain rfl : A = 0 := by omega
      omega
    | succ i ih =>
      intro h1 h2
      by_cases hi : A = i + 1
      · subst hi; omega
      · have h3 := ih (by omega) (by omega)
        have h4 := Qs_step l c (oth c) (i + 1)
        have h5 := h.no (i + 1) h1 h2
        omega
  have h1 := hup (j - 1) (by omega) (by omega)
  rw [Nat.sub_add_cancel (by omega)] at h1
  obtain ⟨x, hx⟩ : ∃ x, l[j]? = some x := ⟨_, List.getElem?_eq_getElem h.lt⟩
  have h2 := h.eq
  rw [Qs_succ hx] at h2
  have hxo : x = oth c := by
    unfold sg at h2
    by_cases e1 : x = c
    · rw [if_pos e1] at h2; omega
    · rw [if_neg e1] at h2
      by_cases e2 : x = oth c
      · exact e2
      · rw [if_neg e2] at h2; omega
  refine ⟨by rw [hx, hxo], hlt, ⟨by omega, ?_, fun i h3 h4 => ?_⟩⟩
  · rw [Qs_neg f1, Qs_neg f1, h.eq]
  · rw [Qs_neg f1, Qs_neg f1, h.eq]
    have := hup (i - 1) (by omega) (by omega)
    rw [Nat.sub_add_cancel (by omega)] at this
    omega
theorem forth_of {l : List Int} {c : Int} {A j : Nat} (hc : l[A]? = some c) (ho : oth c ≠ 0) (h : PartB l c (oth c) A j) : l[j]? = some (oth c) ∧ j < A ∧ PartF l (oth c) c j A := by
  obtain ⟨f1, f2, f3, f4⟩ := oth_facts ho
  have hlen := (List.getElem?_eq_some_iff.1 hc).1
  have hA : Qs l c (oth c) (A + 1) = Qs l c (oth c) A + 1 := by rw [Qs_succ hc]; unfold sg; rw [if_pos rfl]
  have hlt : j < A := by
    rcases Nat.lt_or_ge j A with h1 | h1
    · exact h1
    · obtain rfl : j = A := by have := h.le; omega
      have := h.eq
      omega
  have hup : ∀ d, d < A - j → Qs l c (oth c) (A - d) < Qs l c (oth c) (A + 1) := by
    intro d
    induction d with
    | zero => intro _; rw [Nat.sub_zero]; omega
    | succ d ih =>
      intro h2
      have h3 := ih (by omega)
      have h4 := Qs_step l c (oth c) (A - (d + 1))
      rw [show A - (d + 1) + 1 = A - d by omega] at h4
      have h5 := h.no (A - (d + 1)) (by omega) (by omega)
      omega
  have h1 := hup (A - (j + 1)) (by omega)
  rw [show A - (A - (j + 1)) = j + 1 by omega] at h1
  obtain ⟨x, hx⟩ : ∃ x, l[j]? = some x := ⟨_, List.getElem?_eq_getElem (by omega)⟩
  rw [Qs_succ hx, ← h.eq] at h1
  have hxo : x = oth c := by
    unfold sg at h1
    by_cases e1 : x = c
    · rw [if_pos e1] at h1; omega
    · rw [if_neg e1] at h1
      by_cases e2 : x = oth c
      · exact e2
      · rw [if_neg e2] at h1; omega
  refine ⟨by rw [hx, hxo], hlt, ⟨by omega, hlen, ?_, fun i h3 h4 => ?_⟩⟩
  · rw [Qs_neg f1, Qs_neg f1, h.eq]
  · rw [Qs_neg f1, Qs_neg f1, h.eq]
    have := hup (A - (i + 1)) (by omega)
    rw [show A - (A - (i + 1)) = i + 1 by omega] at this
    omega
theorem opair_spec {w : World} (c : Int) : sCall Tryd.prog S.outline_pair.n [.int .i32 c] w fun u w' => Ext w w' ∧ u = .tuple #[.int .i32 (oth c), .int .i64 (if oth c = 0 then 0 else stp c)] := by
  refine S.outline_pair.call ?_
  unfold S.outline_pair
  have hd : ∀ pos, pos < 3 → ((pos = 0 ∧ dl (([40, 91, 123] : List UInt8).drop pos) = (40, 1) ∧ ([41, 93, 125] : List UInt8)[pos]? = some 41) ∨ (pos = 1 ∧ dl (([40, 91, 123] : List UInt8).drop pos) = (91, 1) ∧ ([41, 93, 125] : List UInt8)[pos]? = some 93) ∨ (pos = 2 ∧ dl (([40, 91, 123] : List UInt8).drop pos) = (123, 1) ∧ ([41, 93, 125] : List UInt8)[pos]? = some 125)) := by
    intro pos h
    rcases (by omega : pos = 0 ∨ pos = 1 ∨ pos = 2) with rfl | rfl | rfl
    · exact .inl ⟨rfl, by decide +kernel, rfl⟩
    · exact .inr (.inl ⟨rfl, by decide +kernel, rfl⟩)
    · exact .inr (.inr ⟨rfl, by decide +kernel, rfl⟩)
  refine sRange_str (l := [40, 91, 123]) tstr fun b w1 hb hs1 e1 hi1 => ?_
  refine LoopS.ix (fun i us w2 => Ext w w2 ∧ ∃ pos : Nat, i = 3 - pos ∧ us = [] ∧ pos ≤ 3 ∧ Iter w2 b [40, 91, 123] pos ∧ (0 < pos → c ≠ 40 ∧ c ≠ 41) ∧ (1 < pos → c ≠ 91 ∧ c ≠ 93) ∧ (2 < pos → c ≠ 123 ∧ c ≠ 125))
    ⟨3, e1, 0, rfl, rfl, by omega, hi1, by omega, by omega, by omega⟩ ?_
  rintro i us vs w2 ⟨E2, pos, rfl, rfl, hp, hit, n1, n2, n3⟩
  unfold S.outline_pair_L1
  by_cases hlt : pos < 3
  · refine sNext_str hit hlt fun w3 hs3 hg3 hit3 => ?_
    have E3 : Ext w w3 := E2.wr hg3 (by rintro _ ⟨⟩; omega)
    have key : ∀ (o s : Nat), dl (([40, 91, 123] : List UInt8).drop pos) = (o, 1) → (∃ sb : UInt8, ([41, 93, 125] : List UInt8)[pos]? = some sb ∧ sb.toNat = s) → IntKind.i32.wrap (s : Int) = s → oth o = s → oth s = o → (s : Int) ≠ 0 → (o : Int) ≠ 0 → stp o = 1 → stp s = -1 → (c ≠ o → c ≠ s → ((0 < pos + 1 → c ≠ 40 ∧ c ≠ 41) ∧ (1 < pos + 1 → c ≠ 91 ∧ c ≠ 93) ∧ (2 < pos + 1 → c ≠ 123 ∧ c ≠ 125))) →
        sExtract (.tuple ⟨[.bool true, .int .i64 pos, .int .i32 (dl (([40, 91, 123] : List UInt8).drop pos)).1]⟩) 0 w3 fun x9 w_1 =>
        sIf x9 (
          sExtract (.tuple ⟨[.bool true, .int .i64 pos, .int .i32 (dl (([40, 91, 123] : List UInt8).drop pos)).1]⟩) 1 w_1 fun x10 w_1 =>
          sExtract (.tuple ⟨[.bool true, .int .i64 pos, .int .i32 (dl (([40, 91, 123] : List UInt8).drop pos)).1]⟩) 2 w_1 fun x11 w_1 =>
          sIdx Tryd.prog S.T.string (.string ⟨#[41, 93, 125]⟩) x10 w_1 fun x13 w_1 =>
          sConv Tryd.prog S.T.uint8 S.T.int32 x13 w_1 fun x14 w_1 =>
          sBin Tryd.prog .eql S.T.int32 false false (.int .i32 c) x11 w_1 fun x18 w_1 =>
          sIf x18 (
            Ext w w_1 ∧ (.tuple #[x14, .int .i64 1] : Value) = .tuple #[.int .i32 (oth c), .int .i64 (if oth c = 0 then 0 else stp c)]) (
            sBin Tryd.prog .eql S.T.int32 false false (.int .i32 c) x14 w_1 fun x22 w_1 =>
            sIf x22 (
              Ext w w_1 ∧ (.tuple #[x11, .int .i64 (-1)] : Value) = .tuple #[.int .i32 (oth c), .int .i64 (if oth c = 0 then 0 else stp c)]) (
              ∃ i', i' < 3 - pos ∧ Ext w w_1 ∧ ∃ pos', i' = 3 - pos' ∧ ([] : List Value) = [] ∧ pos' ≤ 3 ∧ Iter w_1 b [40, 91, 123] pos' ∧ (0 < pos' → c ≠ 40 ∧ c ≠ 41) ∧ (1 < pos' → c ≠ 91 ∧ c ≠ 93) ∧ (2 < pos' → c ≠ 123 ∧ c ≠ 125))))
          (Ext w w_1 ∧ (.tuple #[.int .i32 0, .int .i64 0] : Value) = .tuple #[.int .i32 (oth c), .int .i64 (if oth c = 0 then 0 else stp c)]) := by
      intro o s ho ⟨sb, hsb, hsn⟩ hw ho1 hs1 hsz hoz hst1 hst2 hno
      rw [sExtract_0, sIf_true, sExtract_1, sExtract_2, ho, sIdx_str (l := [41, 93, 125]) tstr hsb rfl, hsn, sConv_int (by kernel_rfl) (by kernel_rfl) hw, sBin_eql, sIf_dec]
      refine ⟨fun h => ⟨E3, ?_⟩, fun h => ?_⟩
      · rw [h, ho1, if_neg hsz, hst1]
      · rw [sBin_eql, sIf_dec]
        refine ⟨fun h2 => ⟨E3, ?_⟩, fun h2 => ?_⟩
        · rw [h2, hs1, if_neg hoz, hst2]
        · rw [ho] at hit3
          obtain ⟨a1, a2, a3⟩ := hno h h2
          exact ⟨3 - (pos + 1), by omega, E3, pos + 1, rfl, rfl, by omega, hit3, a1, a2, a3⟩
    rcases hd pos hlt with ⟨rfl, h1, h2⟩ | ⟨rfl, h1, h2⟩ | ⟨rfl, h1, h2⟩
    · exact key 40 41 h1 ⟨_, h2, rfl⟩ (by decide) (by decide) (by decide) (by decide) (by decide) (by decide) (by decide) (fun a b => ⟨fun _ => ⟨a, b⟩, fun h => by omega, fun h => by omega⟩)
    · exact key 91 93 h1 ⟨_, h2, rfl⟩ (by decide) (by decide) (by decide) (by decide) (by decide) (by decide) (by decide) (fun a b => ⟨fun _ => n1 (by omega), fun h => ⟨a, b⟩, fun h => by omega⟩)
    · exact key 123 125 h1 ⟨_, h2, rfl⟩ (by decide) (by decide) (by decide) (by decide) (by decide) (by decide) (by decide) (fun a b => ⟨fun _ => n1 (by omega), fun h => n2 (by omega), fun h => ⟨a, b⟩⟩)
  · have h3 : pos = 3 := by omega
    rw [sNext_end hit (by simpa using hlt), sExtract_0, sIf_false]
    have hz : oth c = 0 := by
      have a1 := n1 (by omega)
      have a2 := n2 (by omega)
      have a3 := n3 (by omega)
      unfold oth
      simp [a1, a2, a3]
    rw [hz, if_pos rfl]
    exact ⟨E2, rfl⟩
end Go.Proofs.YtplpkeoakclobaaDoor

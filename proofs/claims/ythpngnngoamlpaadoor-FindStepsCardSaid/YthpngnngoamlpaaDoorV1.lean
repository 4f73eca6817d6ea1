/- Cursors of trees: what their functions give. Conditions: a tree of right items. -/
import Derived.Test.YthpngnngoamlpaaDoorU5
namespace Go.Proofs.YthpngnngoamlpaaDoor
open Go Go.Lift Go.RowKit

theorem grown_wr {w w1 w2 : World} {row : Option Nat} {bc : Nat} (h : w.grownBy w1 (some bc)) (g : w1.grownBy w2 row) (hr : ∀ b, row = some b → b = bc ∨ w.heap.size ≤ b) : w.grownBy w2 (some bc) :=
  ⟨g.os.trans h.os, g.tape.trans h.tape, g.output.trans h.output, Nat.le_trans h.size g.size, fun k hk hne => (g.block k (Nat.lt_of_lt_of_le hk h.size) fun e => by
    rcases hr k e.symm with h1 | h1
    · exact hne (by rw [h1])
    · omega).trans (h.block k hk hne)⟩
theorem grown_ext {w w1 w2 : World} {bc : Nat} (h : w.grownBy w1 (some bc)) (e : Ext w1 w2) : w.grownBy w2 (some bc) := grown_wr h (grown_of_ext e none) fun b hb => by cases hb
theorem row_ne' {w : World} {base e k b : Nat} {v : Value} {α : Type} {enc : α → List Value} {xs : List α} (h : Row w base e k v enc xs) (hb : b < base) : v.ownBlock = none ∨ v.ownBlock ≠ some b := by
  cases hv : v.ownBlock with
  | none => exact .inl rfl
  | some g => exact .inr (by intro e; cases e; have := h.lt b hv; omega)
/-- A cursor's cells: its tree, its place. -/
def encCu (t : Value) (i : Int) (s : Su) (vis : Int) : List Value := t :: encPl i s vis
section
variable {w : World} {t : Value} {xs : List It} {bc i : Nat} {s : Su} {vis : Int}

theorem szA3 {xs : List It} {n : Nat} (h : n ≤ xs.length) : szA xs 3 n = n := by
  unfold szA szD
  rw [if_pos rfl, allS_n, List.length_take]; omega
theorem fnd3n {xs : List It} {n m : Nat} (h : n ≤ xs.length) (hf : Fnd xs 3 n 1 m) : m = n := by
  refine hf.uniq ⟨h, fun k hk => ?_, fun hlt => ?_⟩
  · rw [szA3 (by omega)]; intro hR; rcases hR with h | ⟨h, _⟩ <;> omega
  · rw [szA3 (by omega)]; exact .inl (by omega)
theorem ask3 {xs : List It} {n : Nat} (h : n ≤ xs.length) : Ask xs 3 n 1 := by
  refine ⟨by omega, by omega, by omega, ?_, .inr rfl⟩
  unfold szD; rw [if_pos rfl, allS_n]; omega
/-- What is taken from a place on, up to an end. -/
structure Tkn (xs : List It) (dim v : Int) (i j : Nat) : Prop where
  ij : i ≤ j
  le : j ≤ xs.length
  ok : ∀ m, i ≤ m → m < j → szA xs dim (m + 1) ≤ v
  no : j < xs.length → v < szA xs dim (j + 1)
theorem Tkn.uniq {xs : List It} {dim v : Int} {i j k : Nat} (h : Tkn xs dim v i j) (g : Tkn xs dim v i k) : j = k := by
  have a : ∀ {j k : Nat}, Tkn xs dim v i j → Tkn xs dim v i k → ¬ j < k := fun h g hlt => by
    have h1 := h.no (by have := g.le; omega)
    have h2 := g.ok _ h.ij hlt
    omega
  have := a h g
  have := a g h
  omega
end
end Go.Proofs.YthpngnngoamlpaaDoor

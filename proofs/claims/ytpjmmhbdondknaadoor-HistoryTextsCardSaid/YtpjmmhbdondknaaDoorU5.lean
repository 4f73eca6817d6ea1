/- The document's items, and its answers for trees: what its functions give. Conditions: right items, not too many. The document's answers for trees: a size, a place, items replaced, compared; how high a tree may be. Conditions: right items, not too many. -/
import Derived.Test.YtpjmmhbdondknaaDoorTf
namespace Go.Proofs.YtpjmmhbdondknaaDoor
open Go Go.Lift Go.RowKit

/-- Sums, step by step, of right items. -/
theorem allS_grow {xs : List It} {i : Nat} {x : It} (hx : ∀ x ∈ xs, ItOk x) (hn : xs.length ≤ 1000000) (hi : xs[i]? = some x) :
    allS (xs.take (i + 1)) = ⟨(i : Int) + 1, (allS (xs.take i)).d0 + x.d0, (allS (xs.take i)).d1 + x.d1, (allS (xs.take i)).d2 + x.d2, if (allS (xs.take i)).mx < x.mx then x.mx else (allS (xs.take i)).mx, if (allS (xs.take i)).mx < x.mx then i else (allS (xs.take i)).at_⟩ ∧ SuB (allS (xs.take i)) i := by
  have hlt := (List.getElem?_eq_some_iff.1 hi).1
  have hl : (xs.take i).length = i := by rw [List.length_take]; omega
  have hb := allS_bd (xs := xs.take i) (by omega) fun y hy => hx y (List.mem_of_mem_take hy)
  rw [hl] at hb
  refine ⟨?_, hb⟩
  obtain ⟨h0, h1, h2, h3⟩ := hx x (List.mem_of_getElem? hi)
  have b0 := hb.d0; have b1 := hb.d1; have b2 := hb.d2; have bn := hb.n; have bm := hb.mx; have ba := hb.at_
  rw [take_succ_of hi, allS_snoc]
  have hz : i = 0 → (allS (xs.take i)).mx = 0 ∧ (allS (xs.take i)).at_ = 0 := by rintro rfl; exact ⟨rfl, rfl⟩
  apply Su.ext
  · simp only [addS, ofI]; omega
  · simp only [addS, ofI]; exact wr_in ⟨by omega, by omega⟩
  · simp only [addS, ofI]; exact wr_in ⟨by omega, by omega⟩
  · simp only [addS, ofI]; exact wr_in ⟨by omega, by omega⟩
  · by_cases hh : Hi (allS (xs.take i)) (ofI x)
    · have e1 : (addS (allS (xs.take i)) (ofI x)).mx = x.mx := by unfold addS; dsimp only; rw [if_pos hh]; rfl
      rw [e1]
      dsimp only
      split
      · rfl
      · rename_i hlt2
        rcases hh.2 with hn0 | hn0
        · have := hz (by omega); omega
        · exact absurd hn0 hlt2
    · have e1 : (addS (allS (xs.take i)) (ofI x)).mx = (allS (xs.take i)).mx := by unfold addS; dsimp only; rw [if_neg hh]
      rw [e1]
      dsimp only
      rw [if_neg (show ¬ (allS (xs.take i)).mx < x.mx from fun h => hh ⟨by simp [ofI], .inr h⟩)]
  · by_cases hh : Hi (allS (xs.take i)) (ofI x)
    · have e1 : (addS (allS (xs.take i)) (ofI x)).at_ = (allS (xs.take i)).n + 0 := by unfold addS; dsimp only; rw [if_pos hh]; rfl
      rw [e1]
      dsimp only
      split
      · omega
      · rename_i hlt2
        rcases hh.2 with hn0 | hn0
        · have := hz (by omega); omega
        · exact absurd hn0 hlt2
    · have e1 : (addS (allS (xs.take i)) (ofI x)).at_ = (allS (xs.take i)).at_ := by unfold addS; dsimp only; rw [if_neg hh]
      rw [e1]
      dsimp only
      rw [if_neg (show ¬ (allS (xs.take i)).mx < x.mx from fun h => hh ⟨by simp [ofI], .inr h⟩)]

def withN (s : Su) (n : Int) : Su := ⟨n, s.d0, s.d1, s.d2, s.mx, s.at_⟩
end Go.Proofs.YtpjmmhbdondknaaDoor
namespace Go.Proofs.YtpjmmhbdondknaaDoor
open Go Go.Lift Go.RowKit

abbrev encA2 (a b : Int) : List Value := [.int .i64 a, .int .i64 b]
theorem encA2_one (a b : Int) : ∀ u ∈ encA2 a b, u.oneCell' = true := fun u hu => by simp [encA2] at hu; rcases hu with rfl | rfl <;> rfl
theorem Fnd.uniq {xs : List It} {dim v bias : Int} {m n : Nat} (h : Fnd xs dim v bias m) (g : Fnd xs dim v bias n) : m = n := by
  have a : ∀ {m n : Nat}, Fnd xs dim v bias m → Fnd xs dim v bias n → ¬ m < n := fun h g hlt => g.no _ hlt (h.yes (by have := g.le; omega))
  have := a h g
  have := a g h
  omega
/-- A place of the document. -/
def encPr (i : Int) (s : Su) : List Value := .int .i64 i :: encS s
theorem encPr_one (i : Int) (s : Su) : ∀ u ∈ encPr i s, u.oneCell' = true := fun u hu => by
  simp [encPr, encS] at hu; rcases hu with rfl | rfl | rfl | rfl | rfl | rfl | rfl <;> rfl
end Go.Proofs.YtpjmmhbdondknaaDoor

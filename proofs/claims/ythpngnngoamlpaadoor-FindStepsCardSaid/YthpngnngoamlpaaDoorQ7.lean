/- Ropes: parts of their texts. Conditions: right pieces. Ropes: a text in the place of some. Conditions: the table of sizes in memory; right pieces. Ropes: a text in the place of some: the walk. Conditions: the table of sizes in memory; right pieces. -/
import Derived.Test.YthpngnngoamlpaaDoorQ4
namespace Go.Proofs.YthpngnngoamlpaaDoor
open Go Go.Lift Go.RowKit Go.Txt

theorem txt_part {l : List Int} {a b : Nat} (h : a ≤ b) : ((txt l).drop (txt (l.take a)).length).take ((txt (l.take b)).length - (txt (l.take a)).length) = txt ((l.drop a).take (b - a)) := by
  have e1 : l.take b = l.take a ++ (l.drop a).take (b - a) := by
    conv => lhs; rw [← List.take_append_drop a (l.take b)]
    rw [List.take_take, Nat.min_eq_left h, List.drop_take]
  have e2 : txt l = txt (l.take a) ++ txt (l.drop a) := by rw [← txt_append, List.take_append_drop]
  have e3 : (txt (l.take b)).length - (txt (l.take a)).length = (txt ((l.drop a).take (b - a))).length := by
    rw [e1, txt_append, List.length_append]; omega
  rw [e3]
  conv => lhs; arg 2; rw [e2, List.drop_left]
  exact txt_take (l.drop a) (b - a)
abbrev InT (l : List Int) (a b : Int) : Prop := 0 ≤ a ∧ a ≤ b ∧ b ≤ l.length
theorem Plc.low {ps : List (List Int)} {at_ : Int} {n k : Nat} (h : Plc ps at_ n k) : (txt (ps.take n).flatten).length ≤ (txt (ps.flatten.take at_.toNat)).length := by
  obtain ⟨_, _, t2, _⟩ := h.take
  rw [t2, txt_append, List.length_append]; omega
end Go.Proofs.YthpngnngoamlpaaDoor
namespace Go.Proofs.YthpngnngoamlpaaDoor
open Go Go.Lift Go.RowKit Go.Txt

/-- One piece at most, or none is small. -/
def Bg (ps : List (List Int)) : Prop := ps.length ≤ 1 ∨ ∀ p ∈ ps, 8 ≤ p.length
theorem pcs_bg (l : List Int) : Bg (pcs l) := by
  rcases Nat.lt_or_ge l.length 8 with h | h
  · left; rw [pcs_len]; omega
  · exact .inr (pcs_big h)
theorem RpOk.sumE {ps : List (List Int)} (h : RpOk ps) {i : Nat} (hi : i ≤ ps.length) : allS ((ps.map itP).take (i + 1)) = sP (ps.take (i + 1)) := by
  rcases Nat.lt_or_ge i ps.length with h1 | h1
  · exact h.sums h1
  · obtain rfl : i = ps.length := by omega
    rw [List.take_of_length_le (by rw [List.length_map]; omega), List.take_of_length_le (by omega), h.sum]
/-- How many runes are in so many pieces. -/
abbrev tk (ps : List (List Int)) (n : Nat) : Nat := (ps.take n).flatten.length
theorem tk_succ {ps : List (List Int)} {n : Nat} (h : n ≤ ps.length) : tk ps (n + 1) = tk ps n + (pN ps n).length := by
  rcases Nat.lt_or_ge n ps.length with h1 | h1
  · have hg : ps[n]? = some ps[n] := List.getElem?_eq_getElem h1
    unfold tk
    rw [take_succ_of hg, pN_some hg, List.flatten_append, List.length_append]
    simp
  · obtain rfl : n = ps.length := by omega
    unfold tk
    rw [pN_none, List.take_of_length_le (by omega), List.take_of_length_le (Nat.le_refl _)]
    rfl
theorem tk_all (ps : List (List Int)) : tk ps ps.length = ps.flatten.length := by unfold tk; rw [List.take_length]
theorem tk_mono (ps : List (List Int)) {a b : Nat} (h : a ≤ b) : tk ps a ≤ tk ps b := by
  unfold tk
  have : ps.take b = ps.take a ++ (ps.take b).drop a := by
    conv => lhs; rw [← List.take_append_drop a (ps.take b)]
    rw [List.take_take, Nat.min_eq_left h]
  rw [this, List.flatten_append, List.length_append]; omega
theorem tk_le {ps : List (List Int)} {n : Nat} (h : n ≤ ps.length) : tk ps n ≤ ps.flatten.length := by rw [← tk_all]; exact tk_mono ps h
theorem flat_tk (ps : List (List Int)) (n : Nat) : ps.flatten.take (tk ps n) = (ps.take n).flatten ∧ ps.flatten.drop (tk ps n) = (ps.drop n).flatten := by
  have e : ps.flatten = (ps.take n).flatten ++ (ps.drop n).flatten := by rw [← List.flatten_append, List.take_append_drop]
  unfold tk
  constructor
  · conv => lhs; rw [e]
    rw [List.take_left]
  · conv => lhs; rw [e]
    rw [List.drop_left]
/-- The new text of the pieces that are taken out. -/
theorem new_text {ps : List (List Int)} {f l a b : Nat} (more : List Int) (h1 : tk ps f ≤ a) (h3 : b ≤ tk ps l) :
    (ps.take f).flatten ++ (((ps.flatten.drop (tk ps f)).take (a - tk ps f) ++ more ++ (ps.flatten.drop b).take (tk ps l - b)) ++ (ps.drop l).flatten) = ps.flatten.take a ++ more ++ ps.flatten.drop b := by
  have e1 : (ps.take f).flatten ++ (ps.flatten.drop (tk ps f)).take (a - tk ps f) = ps.flatten.take a := by
    rw [← (flat_tk ps f).1]
    conv => rhs; rw [← List.take_append_drop (tk ps f) (ps.flatten.take a)]
    rw [List.take_take, Nat.min_eq_left h1, List.drop_take]
  have e2 : (ps.flatten.drop b).take (tk ps l - b) ++ (ps.drop l).flatten = ps.flatten.drop b := by
    rw [← (flat_tk ps l).2]
    conv => rhs; rw [← List.take_append_drop (tk ps l - b) (ps.flatten.drop b)]
    rw [List.drop_drop]
    congr 2
    omega
  calc (ps.take f).flatten ++ (((ps.flatten.drop (tk ps f)).take (a - tk ps f) ++ more ++ (ps.flatten.drop b).take (tk ps l - b)) ++ (ps.drop l).flatten)
      = ((ps.take f).flatten ++ (ps.flatten.drop (tk ps f)).take (a - tk ps f)) ++ more ++ ((ps.flatten.drop b).take (tk ps l - b) ++ (ps.drop l).flatten) := by simp only [List.append_assoc]
    _ = ps.flatten.take a ++ more ++ ps.flatten.drop b := by rw [e1, e2]
/-- What comes of a text in the place of some. -/
def RepOk (ps : List (List Int)) (a b : Nat) (more : List Int) (ps' : List (List Int)) : Prop := RpOk ps' ∧ ps'.flatten = ps.flatten.take a ++ more ++ ps.flatten.drop b ∧ (Bg ps → Bg ps')
theorem rep_ok {ps : List (List Int)} {f l a b : Nat} {more : List Int} (hp : RpOk ps) (hm : ∀ r ∈ more, okR r) (hf : f ≤ l) (hl : l ≤ ps.length) (h1 : tk ps f ≤ a) (h2 : a ≤ b) (h3 : b ≤ tk ps l) (hlt : f < l ∨ ps = [])
    (hsz : 8 ≤ tk ps l - tk ps f - (b - a) + more.length ∨ (f = 0 ∧ l = ps.length)) (hle : ps.flatten.length - (b - a) + more.length ≤ 20000) :
    RepOk ps a b more (ps.take f ++ pcs ((ps.flatten.drop (tk ps f)).take (a - tk ps f) ++ more ++ (ps.flatten.drop b).take (tk ps l - b)) ++ ps.drop l) := by
  have hfl := tk_le hl
  have hflat : (ps.take f ++ pcs ((ps.flatten.drop (tk ps f)).take (a - tk ps f) ++ more ++ (ps.flatten.drop b).take (tk ps l - b)) ++ ps.drop l).flatten = ps.flatten.take a ++ more ++ ps.flatten.drop b := by
    rw [List.flatten_append, List.flatten_append, pcs_join, List.append_assoc]
    exact new_text more h1 h3
  refine ⟨⟨fun p hp' => ?_, ?_⟩, hflat, fun hb => ?_⟩
  · rcases List.mem_append.1 hp' with h | h
    · rcases List.mem_append.1 h with h | h
      · exact hp.ok p (List.mem_of_mem_take h)
      · refine pcs_ok (fun r hr => ?_) p h
        rcases List.mem_append.1 hr with h | h
        · rcases List.mem_append.1 h with h | h
          · exact hp.runes r (List.mem_of_mem_drop (List.mem_of_mem_take h))
          · exact hm r h
        · exact hp.runes r (List.mem_of_mem_drop (List.mem_of_mem_take h))
    · exact hp.ok p (List.mem_of_mem_drop h)
  · rw [hflat, List.length_append, List.length_append, List.length_take, List.length_drop]; omega
  · by_cases hw : f = 0 ∧ l = ps.length
    · obtain ⟨rfl, rfl⟩ := hw
      rw [List.take_zero, List.nil_append, List.drop_length, List.append_nil]
      exact pcs_bg _
    · have h8 := hsz.resolve_right hw
      have hall : ∀ p ∈ ps, 8 ≤ p.length := by
        rcases hb with h | h
        · exfalso
          rcases hlt with h' | rfl
          · omega
          · simp at hl
            exact hw ⟨by omega, by rw [hl]; rfl⟩
        · exact h
      right
      intro p hp'
      rcases List.mem_append.1 hp' with h | h
      · rcases List.mem_append.1 h with h | h
        · exact hall p (List.mem_of_mem_take h)
        · refine pcs_big ?_ p h
          rw [List.length_append, List.length_append, List.length_take, List.length_take, List.length_drop, List.length_drop]
          omega
      · exact hall p (List.mem_of_mem_drop h)
end Go.Proofs.YthpngnngoamlpaaDoor
namespace Go.Proofs.YthpngnngoamlpaaDoor
open Go Go.Lift Go.RowKit Go.Txt

/-- Which pieces are taken out. -/
structure Win (ps : List (List Int)) (a b f l : Nat) : Prop where
  fl : f ≤ l
  le : l ≤ ps.length
  lo : tk ps f ≤ a
  hi : b ≤ tk ps l
  lt : f < l ∨ ps = []
end Go.Proofs.YthpngnngoamlpaaDoor

/- Loops with an invariant that has an index, which falls. No conditions. -/
import Derived.Test.YtmlbaimdphillaaRs4
namespace Go.Lift
open Go
theorem least_ex {p : Nat → Prop} : ∀ n, p n → ∃ m, p m ∧ ∀ k, k < m → ¬ p k := by
  intro n
  induction n using Nat.strongRecOn with
  | ind n ih =>
    intro h
    by_cases h2 : ∃ k, k < n ∧ p k
    · obtain ⟨k, hk, hp⟩ := h2; exact ih k hk hp
    · exact ⟨n, h, fun k hk hp => h2 ⟨k, hk, hp⟩⟩
open Classical in
noncomputable def least (p : Nat → Prop) : Nat := if h : ∃ n, p n then Classical.choose (least_ex _ h.choose_spec) else 0
theorem least_is {p : Nat → Prop} (h : ∃ n, p n) : p (least p) := by
  unfold least; rw [dif_pos h]; exact (Classical.choose_spec (least_ex _ h.choose_spec)).1
theorem least_le {p : Nat → Prop} {n : Nat} (h : p n) : least p ≤ n := by
  have hx : ∃ n, p n := ⟨n, h⟩
  unfold least; rw [dif_pos hx]
  refine Nat.le_of_not_lt fun hlt => (Classical.choose_spec (least_ex _ hx.choose_spec)).2 n hlt h
theorem LoopS.ix {init : List Value} {n k : Nat} {w : World} {B : List Value → List Value → World → (List Value → World → Prop) → Prop} (J : Nat → List Value → World → Prop) (h0 : ∃ i, J i init w)
    (h : ∀ i us vs w, J i us w → B us vs w (fun us' w' => ∃ j, j < i ∧ J j us' w')) : LoopS init n k w B := by
  refine LoopS.intro (fun us w => ∃ i, J i us w) (fun us w => least fun i => J i us w) h0 ?_
  intro us vs w hj
  have e : (fun us' w' => (∃ i, J i us' w') ∧ (least fun i => J i us' w') < least fun i => J i us w) = fun us' w' => ∃ j, j < (least fun i => J i us w) ∧ J j us' w' := by
    funext us' w'
    apply propext
    constructor
    · rintro ⟨h1, h2⟩; exact ⟨_, h2, least_is h1⟩
    · rintro ⟨j, h1, h2⟩; exact ⟨⟨j, h2⟩, Nat.lt_of_le_of_lt (least_le h2) h1⟩
  rw [e]
  exact h _ us vs w (least_is hj)
end Go.Lift
namespace Go.Lift
open Go Go.RowKit
theorem run_bool_eq {P : Program} {T : TypeId} {w : World} (hT : P.underlying T = some .bool) (a b : Bool) : (Op.equalIn 10000 T (.bool a) (.bool b)).run P w = .ok (a == b) w := run_equalIn_bool w 9999 T a b hT
theorem sBin_boolEq {P : Program} {T : TypeId} {w : World} {K : K1} {cx cy : Bool} (hT : P.underlying T = some .bool) (a b : Bool) : sBin P .eql T cx cy (.bool a) (.bool b) w K = K (.bool (a == b)) w := by
  have hr : (do eqGuard .eql T (bif cx then .const (.bool a) else .tmp 0) (bif cy then .const (.bool b) else .tmp 0) (.bool a) (.bool b); binOp .eql T (.bool a) (.bool b) : Sem Value).run P w = .ok (.bool (a == b)) w := by
    have hg : eqGuard .eql T (bif cx then .const (.bool a) else .tmp 0) (bif cy then .const (.bool b) else .tmp 0) (.bool a) (.bool b) = pure () := rfl
    have hb : binOp .eql T (.bool a) (.bool b) = (do pure (.bool (← Op.equal T (.bool a) (.bool b)))) := rfl
    rw [hg, hb, Sem.run_bind, Sem.run_pure, Result.andThen_ok, Sem.run_bind]
    unfold Op.equal Op.maxDepth
    rw [run_bool_eq hT]
    rfl
  unfold sBin after
  rw [hr]
theorem sBin_boolNe {P : Program} {T : TypeId} {w : World} {K : K1} {cx cy : Bool} (hT : P.underlying T = some .bool) (a b : Bool) : sBin P .neq T cx cy (.bool a) (.bool b) w K = K (.bool (!(a == b))) w := by
  have hr : (do eqGuard .neq T (bif cx then .const (.bool a) else .tmp 0) (bif cy then .const (.bool b) else .tmp 0) (.bool a) (.bool b); binOp .neq T (.bool a) (.bool b) : Sem Value).run P w = .ok (.bool (!(a == b))) w := by
    have hg : eqGuard .neq T (bif cx then .const (.bool a) else .tmp 0) (bif cy then .const (.bool b) else .tmp 0) (.bool a) (.bool b) = pure () := rfl
    have hb : binOp .neq T (.bool a) (.bool b) = (do pure (.bool (!(← Op.equal T (.bool a) (.bool b))))) := rfl
    rw [hg, hb, Sem.run_bind, Sem.run_pure, Result.andThen_ok, Sem.run_bind]
    unfold Op.equal Op.maxDepth
    rw [run_bool_eq hT]
    rfl
  unfold sBin after
  rw [hr]
end Go.Lift

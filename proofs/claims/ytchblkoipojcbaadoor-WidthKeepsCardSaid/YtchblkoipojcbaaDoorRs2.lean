/- More laws for the operations of code without slots: slices compared with nil, empty literals, a store into a slice of the call's own. Conditions: the types' facts, which are closed. -/
import Derived.Test.YtchblkoipojcbaaDoorRsn
namespace Go.Lift
open Go Go.RowKit
section
variable {P : Program} {T : TypeId} {w : World} {K : K1} {cx cy : Bool}

theorem sBin_sl_eq {a : Option Addr} {l c e : Nat} (hT : elQ P T = some e) : sBin P .eql T cx cy (.slice a l c) (.slice none 0 0) w K = K (.bool a.isNone) w := by
  have h : (Op.equalIn 10000 T (.slice a l c) (.slice none 0 0)).run P w = .ok a.isNone w := by
    unfold Op.equalIn
    rw [Sem.run_bind, run_underlying (elQ_spec hT)]
    cases a <;> rfl
  have hr : (do eqGuard .eql T (bif cx then .const (.slice a l c) else .tmp 0) (bif cy then .const (.slice none 0 0) else .tmp 0) (.slice a l c) (.slice none 0 0); binOp .eql T (.slice a l c) (.slice none 0 0) : Sem Value).run P w = .ok (.bool a.isNone) w := by
    have hg : eqGuard .eql T (bif cx then .const (.slice a l c) else .tmp 0) (bif cy then .const (.slice none 0 0) else .tmp 0) (.slice a l c) (.slice none 0 0) = pure () := by rfl
    have hb : binOp .eql T (.slice a l c) (.slice none 0 0) = (do pure (.bool (← Op.equal T (.slice a l c) (.slice none 0 0)))) := rfl
    rw [hg, hb, Sem.run_bind, Sem.run_pure, Result.andThen_ok, Sem.run_bind]
    unfold Op.equal Op.maxDepth
    rw [h]; rfl
  unfold sBin after
  rw [hr]

/-- '[]T{}'. -/
theorem sBuildSlice_none {α : Type} {e k : Nat} {ze : List Value} {enc : α → List Value} (hel : elQ P T = some e) (hz : zeroQ P e = some ze)
    (h : ∀ v w', Own w' w.heap.size e k v enc [] → Ext w w' → w'.heap.size = w.heap.size + 1 → K v w') : sBuildSlice P T 0 [] w K := by
  obtain ⟨i, z, hi, hzz, hzc, hsz, hbq⟩ := zero_info hz
  have hr : (Instr.buildSlice T 0 #[]).run P w = .ok (.slice (some ⟨w.heap.size, 0, none⟩) 0 0) (w.alloc (.cells #[] e)) := by
    simp [Instr.buildSlice, run_underlying (elQ_spec hel), sizeOf, typeInfo, hi, Instr.fill, newRow]
    congr 2
    exact Array.ext' (by simp)
  unfold sBuildSlice after
  simp only [List.toArray] at hr ⊢
  rw [hr]
  refine h _ _ ⟨by simp, .inr ⟨w.heap.size, 0, #[], rfl, Nat.le_refl _, heap_alloc_new w _, by simp, by simp, by simp, by simp⟩⟩ (Ext.new w _) (by simp)

theorem Enc.set {α : Type} {enc : α → List Value} {k : Nat} (h : Enc enc k) : ∀ (xs : List α) (i : Nat) (x : α), i < xs.length → (xs.set i x).flatMap enc = splice (xs.flatMap enc) (i * k) (enc x)
  | [], _, _, hi => by simp at hi
  | y :: ys, 0, x, _ => by
    simp only [List.set_cons_zero, List.flatMap_cons, splice, Nat.zero_mul, List.take_zero, Nat.zero_add, h.len, List.nil_append]
    rw [← h.len y, List.drop_left]
  | y :: ys, i + 1, x, hi => by
    have ih := h.set ys i x (by simp at hi; omega)
    simp only [List.set_cons_succ, List.flatMap_cons, ih, splice, h.len]
    have e1 : (i + 1) * k = (enc y).length + i * k := by rw [h.len, Nat.add_mul]; omega
    rw [e1, Nat.add_assoc, List.take_length_add_append, List.drop_length_add_append]
    simp [List.append_assoc]

theorem splice_take {cs vs : List Value} {o m : Nat} (h : o + vs.length ≤ m) (hm : m ≤ cs.length) : (splice cs o vs).take m = splice (cs.take m) o vs := by
  unfold splice
  rw [List.take_append, List.take_append, List.take_take, List.drop_take]
  simp only [List.length_append, List.length_take]
  have h1 : min o cs.length = o := by omega
  have h2 : min m o = o := by omega
  rw [h1, h2, List.take_take]
  have h3 : List.take (m - o) vs = vs := List.take_of_length_le (by omega)
  have h4 : List.take m (List.take o cs) = List.take o cs := by rw [List.take_take]; congr 1
  simp [h3, Nat.min_eq_left (show o ≤ m by omega)]

/-- A store into an element of a slice of the call's own. -/
theorem sStore_own {α : Type} {base e k i : Nat} {v u : Value} {enc : α → List Value} {xs : List α} {x : α} {K : World → Prop} (hT : szQ P T = k) (h0 : 0 < k) (he : Enc enc k) (hown : Own w base e k v enc xs) (hi : i < xs.length) (hv : u.cells = (enc x).toArray)
    (h : ∀ w', w'.heap.size = w.heap.size → w.grownBy w' v.ownBlock → Own w' base e k v enc (xs.set i x) → K w') : sStore P T (.pointer (some (elA v k i))) u w K := by
  obtain ⟨hl, hr⟩ := hown
  rcases hr with ⟨rfl, hn⟩ | ⟨g, cap, cur, rfl, hb, hg, hnc, hcm, hcs, ht⟩
  · omega
  · have hlx := he.len x
    have hik : i * k + k ≤ xs.length * k := by rw [← Nat.succ_mul]; exact Nat.mul_le_mul_right k hi
    have hnk : xs.length * k ≤ cap * k := Nat.mul_le_mul_right k hnc
    have hcl : cur.toList.length = cap * k := by simp [hcs]
    have key : (splice cur.toList (i * k) (enc x)).take (xs.length * k) = (xs.set i x).flatMap enc := by
      rw [splice_take (m := xs.length * k) (by rw [hlx]; omega) (by rw [hcl]; exact hnk), ht, he.set xs i x hi]
    have hst := run_storeCells_at P g (i * k) e (enc x) 0 cur w hg (by rw [hlx]; omega) (he.one x)
    have hw := h (w.setRow g (splice cur.toList (i * k) (enc x)).toArray) (by simp) ⟨rfl, rfl, rfl, by simp, fun b _ hk => setRow_other w g b _ (fun e => hk (by rw [e]; rfl))⟩
      ⟨by rw [List.length_set, he.length, List.length_set], .inr ⟨g, cap, (splice cur.toList (i * k) (enc x)).toArray, by rw [List.length_set], hb, setRow_heap w g _ _ e _ hg, by rw [List.length_set]; exact hnc, hcm, by
        rw [List.size_toArray, splice_len (by rw [hlx, hcl]; omega), hcl], by
        rw [List.length_set]
        exact key⟩⟩
    unfold splice at hw
    simp only [Nat.add_zero] at hst
    have hr : (Instr.storeAt T (.pointer (some ⟨g, i * k, none⟩)) u).run P w = .ok () (w.setRow g (cur.toList.take (i * k) ++ enc x ++ cur.toList.drop (i * k + (enc x).length)).toArray) := by
      simp [Instr.storeAt, Instr.sureAddr, storeVar, sizeOf_run hT h0, hv, hlx]
      simpa [hlx] using hst
    unfold sStore after
    simp only [elA, add_addr, Nat.zero_add]
    rw [hr]
    exact hw
end
end Go.Lift

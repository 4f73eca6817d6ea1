/- Stores into slices at any offset of their block, and their ends cleared. Conditions: the types' facts. -/
import Derived.Test.YtplpkeoakclobaaDoorRs3
import Derived.Test.YtplpkeoakclobaaDoorRs4
namespace Go.Lift
open Go Go.RowKit
theorem splice_drop {cs vs : List Value} {o p : Nat} (h : o + p + vs.length ≤ cs.length) : (splice cs (o + p) vs).drop o = splice (cs.drop o) p vs := by
  unfold splice
  rw [List.drop_append_of_le_length (by rw [List.length_append, List.length_take]; omega), List.drop_append_of_le_length (by rw [List.length_take]; omega), List.drop_take, Nat.add_sub_cancel_left, List.drop_drop]
  congr 2
  omega
theorem splice_low {cs vs : List Value} {p q : Nat} (h : q ≤ p) (hp : p ≤ cs.length) : (splice cs p vs).take q = cs.take q := by
  unfold splice
  rw [List.append_assoc, List.take_append_of_le_length (by rw [List.length_take]; omega), List.take_take, Nat.min_eq_left h]
section
variable {P : Program} {T : TypeId} {w : World}
/-- A store into an element of a slice of the call's own, at any offset. -/
theorem sStore_row {α : Type} {base e k i : Nat} {v u : Value} {enc : α → List Value} {xs : List α} {x : α} {K : World → Prop} (hT : szQ P T = k) (h0 : 0 < k) (he : Enc enc k) (hrow : Row w base e k v enc xs) (hi : i < xs.length) (hv : u.cells = (enc x).toArray)
    (h : ∀ w', w'.heap.size = w.heap.size → w.grownBy w' v.ownBlock → Row w' base e k v enc (xs.set i x) → K w') : sStore P T (.pointer (some (elA v k i))) u w K := by
  rcases hrow with ⟨rfl, rfl⟩ | ⟨g, o, cap, cur, rfl, hb, hg, hnc, hcm, hcs, ht⟩
  · simp at hi
  · have hlx := he.len x
    have hik : i * k + k ≤ xs.length * k := by rw [← Nat.succ_mul]; exact Nat.mul_le_mul_right k hi
    have hnk : xs.length * k ≤ cap * k := Nat.mul_le_mul_right k hnc
    have hcl : cur.toList.length = cur.size := by simp
    have hfit : o + i * k + (enc x).length ≤ cur.toList.length := by rw [hlx, hcl]; omega
    have key : ((splice cur.toList (o + i * k) (enc x)).drop o).take (xs.length * k) = (xs.set i x).flatMap enc := by
      rw [splice_drop hfit, splice_take (m := xs.length * k) (by rw [hlx]; omega) (by rw [List.length_drop, hcl]; omega), ht, he.set xs i x hi]
    have hst := run_storeCells_at P g (o + i * k) e (enc x) 0 cur w hg (by rw [hlx]; omega) (he.one x)
    have hw := h (w.setRow g (splice cur.toList (o + i * k) (enc x)).toArray) (by simp) ⟨rfl, rfl, rfl, by simp, fun b _ hk => setRow_other w g b _ (fun e => hk (by rw [e]; rfl))⟩
      (.inr ⟨g, o, cap, (splice cur.toList (o + i * k) (enc x)).toArray, by rw [List.length_set], hb, setRow_heap w g _ _ e _ hg, by rw [List.length_set]; exact hnc, hcm, by
        rw [List.size_toArray, splice_len hfit, hcl]; exact hcs, by
        rw [List.length_set]
        exact key⟩)
    unfold splice at hw
    simp only [Nat.add_zero] at hst
    have hr : (Instr.storeAt T (.pointer (some ⟨g, o + i * k, none⟩)) u).run P w = .ok () (w.setRow g (cur.toList.take (o + i * k) ++ enc x ++ cur.toList.drop (o + i * k + (enc x).length)).toArray) := by
      simp [Instr.storeAt, Instr.sureAddr, storeVar, sizeOf_run hT h0, hv, hlx]
      simpa [hlx] using hst
    unfold sStore after
    simp only [elA, add_addr]
    rw [hr]
    exact hw
/-- The end of a slice of the call's own is cleared. -/
theorem sClear_row {α : Type} {base e k i ty : Nat} {v : Value} {enc : α → List Value} {xs : List α} {ze : List Value} {K : K1} (hel : elQ P T = some e) (hz : zeroQ P e = some ze) (hzl : ze.length = k) (h0 : 0 < k) (hz1 : ∀ u ∈ ze, u.oneCell' = true) (he : Enc enc k) (hrow : Row w base e k v enc xs) (hi : i ≤ xs.length)
    (h : ∀ w', w.grownBy w' v.ownBlock → Row w' base e k (slV v k 0 i (capV v)) enc (xs.take i) → K (.tuple #[]) w') : sBuiltin P .clear [T] ty [slV v k i xs.length (capV v)] w K := by
  obtain ⟨ii, zz, hii, hzz, hzc, hsz, hbq⟩ := zero_info hz
  have hpart := hrow.part he (lo := 0) (hi := i) (Nat.zero_le _) hi
  rw [List.drop_zero] at hpart
  rcases id hrow with ⟨rfl, rfl⟩ | ⟨g, o, cap, cur, rfl, hb, hg, hnc, hcm, hcs, ht⟩
  · have hr : (Builtin.clear_ #[T] ty #[slV (.slice none 0 0) k i ([] : List α).length (capV (.slice none 0 0))]).run P w = .ok (.tuple #[]) w := by
      have : slV (.slice none 0 0) k i ([] : List α).length (capV (.slice none 0 0)) = .slice none (0 - i) (0 - i) := by
        unfold slV capV
        simp only [List.length_nil]
        split <;> rfl
      rw [this]
      simp [Builtin.clear_, run_underlying (elQ_spec hel)]
    unfold sBuiltin after
    simp only [List.toArray] at hr ⊢
    rw [hr]
    exact h w (grown_refl w _) hpart
  · by_cases hin : i = xs.length
    · have hr : (Builtin.clear_ #[T] ty #[slV (.slice (some ⟨g, o, none⟩) xs.length cap) k i xs.length (capV (.slice (some ⟨g, o, none⟩) xs.length cap))]).run P w = .ok (.tuple #[]) w := by
        have : ∃ a c, slV (.slice (some ⟨g, o, none⟩) xs.length cap) k i xs.length (capV (.slice (some ⟨g, o, none⟩) xs.length cap)) = .slice (some a) 0 c := by
          unfold slV capV
          dsimp only
          rw [hin, Nat.sub_self]
          split
          · exact ⟨_, _, rfl⟩
          · exact ⟨_, _, rfl⟩
        obtain ⟨a, c, hac⟩ := this
        rw [hac]
        simp [Builtin.clear_, run_underlying (elQ_spec hel)]
      unfold sBuiltin after
      simp only [List.toArray] at hr ⊢
      rw [hr]
      exact h w (grown_refl w _) hpart
    · have hlt : i < xs.length := by omega
      have hsl : slV (.slice (some ⟨g, o, none⟩) xs.length cap) k i xs.length (capV (.slice (some ⟨g, o, none⟩) xs.length cap)) = .slice (some ⟨g, o + i * k, none⟩) (xs.length - i) (cap - i) := by
        unfold slV capV
        dsimp only
        rw [if_neg (by omega)]
        simp [add_addr]
      have hnk : xs.length * k ≤ cap * k := Nat.mul_le_mul_right k hnc
      have hik : i * k + (xs.length - i) * k = xs.length * k := by rw [← Nat.add_mul]; congr 1; omega
      have hzsz : zz.cells.size = k := by rw [← hzl, ← hzc]; simp
      have hzlen : (Builtin.zeroCells zz.cells (xs.length - i)).toList.length = (xs.length - i) * k := by simp [Builtin.zeroCells, hzsz]
      have hone : ∀ u ∈ (Builtin.zeroCells zz.cells (xs.length - i)).toList, u.oneCell' = true := fun u hu => by
        simp only [Builtin.zeroCells, Array.toList_map, List.mem_map] at hu
        obtain ⟨j, _, rfl⟩ := hu
        have hlt2 : j % zz.cells.size < zz.cells.size := Nat.mod_lt _ (by rw [hzsz]; exact h0)
        rw [getElem!_pos zz.cells _ hlt2]
        refine hz1 _ ?_
        rw [← hzc]
        simp
      have hcl : cur.toList.length = cur.size := by simp
      have hst := run_storeCells_at P g (o + i * k) e (Builtin.zeroCells zz.cells (xs.length - i)).toList 0 cur w hg (by rw [hzlen]; omega) hone
      simp only [Nat.add_zero] at hst
      have hzv : (zeroValue e).run P w = .ok zz w := by simp [zeroValue, typeInfo, hii, hzz]
      obtain ⟨m, hm⟩ : ∃ m, xs.length - i = m + 1 := ⟨xs.length - i - 1, by omega⟩
      have hr : (Builtin.clear_ #[T] ty #[.slice (some ⟨g, o + i * k, none⟩) (xs.length - i) (cap - i)]).run P w = .ok (.tuple #[]) (w.setRow g (splice cur.toList (o + i * k) (Builtin.zeroCells zz.cells (xs.length - i)).toList).toArray) := by
        unfold splice
        rw [hm] at hst ⊢
        simp [Builtin.clear_, run_underlying (elQ_spec hel), hzv]
        rw [hst]
        simp [Result.andThen]
      rw [hsl]
      unfold sBuiltin after
      simp only [List.toArray] at hr ⊢
      rw [hr]
      have hfit : o + i * k + (Builtin.zeroCells zz.cells (xs.length - i)).toList.length ≤ cur.toList.length := by rw [hzlen, hcl]; omega
      refine h _ ⟨rfl, rfl, rfl, by simp, fun b _ hk => setRow_other w g b _ (fun e => hk (by rw [e]; rfl))⟩ ?_
      have hti : (xs.take i).length = i := by rw [List.length_take]; omega
      have hsl0 : slV (.slice (some ⟨g, o, none⟩) xs.length cap) k 0 i (capV (.slice (some ⟨g, o, none⟩) xs.length cap)) = .slice (some ⟨g, o, none⟩) i cap := by
        unfold slV capV
        dsimp only
        split
        · simp
        · simp [add_addr]
      rw [hsl0]
      refine .inr ⟨g, o, cap, (splice cur.toList (o + i * k) (Builtin.zeroCells zz.cells (xs.length - i)).toList).toArray, by rw [hti], hb, setRow_heap w g _ _ e _ hg, by omega, hcm, by rw [List.size_toArray, splice_len hfit, hcl]; exact hcs, ?_⟩
      rw [hti]
      dsimp only
      rw [splice_drop hfit, splice_low (Nat.le_refl _) (by rw [List.length_drop, hcl]; omega)]
      have h5 := congrArg (List.take (i * k)) ht
      rw [List.take_take, Nat.min_eq_left (by omega)] at h5
      rw [h5]
      have h6 : xs = xs.take i ++ xs.drop i := (List.take_append_drop i xs).symm
      conv => lhs; rw [h6]
      rw [List.flatMap_append]
      have h7 : ((xs.take i).flatMap enc).length = i * k := by rw [he.length, hti]
      rw [← h7, List.take_left]
end
end Go.Lift

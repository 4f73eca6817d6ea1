/- More laws for the operations of code without slots: slices compared with nil, empty literals, a store into a slice of the call's own. Conditions: the types' facts, which are closed. -/
import Derived.Test.YtpjmmhbdondknaaDoorRsn
namespace Go.Lift
open Go Go.RowKit
section
variable {P : Program} {T : TypeId} {w : World} {K : K1} {cx cy : Bool}

theorem sBin_sl_eq {a : Option Addr} {l c e : Nat} (hT : elQ P T = some e) : sBin P .eql T cx cy (.slice a l c) (.slice none 0 0) w K = K (.bool a.isNone) w := by
  have h : (Op.equalIn 10000 T (.slice a l c) (.slice none 0 0)).run P w = .ok a.isNone w := by
    unfold Op.equalIn
    rw [Sem.run_bind, run_underlying (elQ_spec hT)]
    cases a <;> rfl
  have hr : (do eqGuard .eql T (bif cx then .const (.slice a l c) else .tmp 0) (bif cy then .const (.slice none 0 0) else .tmp 0) (.slice a l c) (.slice none 0 0); binOp .eql T (.slice a l c) (.slice none 0 0) : Sem Value).run P w = .ok (.bool a.isNone) w := by
    have hg : eqGuard .eql T (bif cx then .const (.slice a l c) else .tmp 0) (bif cy then .const (.slice none 0 0) else .tmp 0) (.slice a l c) (.slice none 0 0) = pure () := by rfl
    have hb : binOp .eql T (.slice a l c) (.slice none 0 0) = (do pure (.bool (← Op.equal T (.slice a l c) (.slice none 0 0)))) := rfl
    rw [hg, hb, Sem.run_bind, Sem.run_pure, Result.andThen_ok, Sem.run_bind]
    unfold Op.equal Op.maxDepth
    rw [h]; rfl
  unfold sBin after
  rw [hr]

/-- '[]T{}'. -/
theorem sBuildSlice_none {α : Type} {e k : Nat} {ze : List Value} {enc : α → List Value} (hel : elQ P T = some e) (hz : zeroQ P e = some ze)
    (h : ∀ v w', Own w' w.heap.size e k v enc [] → Ext w w' → w'.heap.size = w.heap.size + 1 → K v w') : sBuildSlice P T 0 [] w K := by
  obtain ⟨i, z, hi, hzz, hzc, hsz, hbq⟩ := zero_info hz
  have hr : (Instr.buildSlice T 0 #[]).run P w = .ok (.slice (some ⟨w.heap.size, 0, none⟩) 0 0) (w.alloc (.cells #[] e)) := by
    simp [Instr.buildSlice, run_underlying (elQ_spec hel), sizeOf, typeInfo, hi, Instr.fill, newRow]
    congr 2
    exact Array.ext' (by simp)
  unfold sBuildSlice after
  simp only [List.toArray] at hr ⊢
  rw [hr]
  refine h _ _ ⟨by simp, .inr ⟨w.heap.size, 0, #[], rfl, Nat.le_refl _, heap_alloc_new w _, by simp, by simp, by simp, by simp⟩⟩ (Ext.new w _) (by simp)

theorem Enc.set {α : Type} {enc : α → List Value} {k : Nat} (h : Enc enc k) : ∀ (xs : List α) (i : Nat) (x : α), i < xs.length → (xs.set i x).flatMap enc = splice (xs.flatMap enc) (i * k) (enc x)
  | [], _, _, hi => by simp at hi
  | y :: ys, 0, x, _ => by
    simp only [List.set_cons_zero, List.flatMap_cons, splice, Nat.zero_mul, List.take_zero, Nat.zero_add, h.len, List.nil_append]
    rw [← h.len y, List.drop_left]
  | y :: ys, i + 1, x, hi => by
    have ih := h.set ys i x (by simp at hi; omega)
    simp only [List.set_cons_succ, List.flatMap_cons, ih, splice, h.len]
    have e1 : (i + 1) * k = (enc y).length + i * k := by rw [h.len, Nat.add_mul]; omega
    rw [e1, Nat.add_assoc, List.take_length_add_append, List.drop_length_add_append]
    simp [List.append_assoc]

theorem splice_take {cs vs : List Value} {o m : Nat} (h : o + vs.length ≤ m) (hm : m ≤ cs.length) : (splice cs o vs).take m = splice (cs.take m) o vs := by
  unfold splice
  rw [List.take_append, List.take_append, List.take_take, List.drop_take]
  simp only [List.length_append, List.length_take]
  have h1 : min o cs.length = o := by omega
  have h2 : min m o = o := by omega
  rw [h1, h2, List.take_take]
  have h3 : List.take (m - o) vs = vs := List.take_of_length_le (by omega)
  have h4 : List.take m (List.take o cs) = List.take o cs := by rw [List.take_take]; congr 1
  simp [h3, Nat.min_eq_left (show o ≤ m by omega)]

/-- A store into an element of a slice of the call's own. -/
theorem sStore_own {α : Type} {base e k i : Nat} {v u : Value} {enc : α → List Value} {xs : List α} {x : α} {K : World → Prop} (hT : szQ P T = k) (h0 : 0 < k) (he : Enc enc k) (hown : Own w base e k v enc xs) (hi : i < xs.length) (hv : u.cells = (enc x).toArray)
    (h : ∀ w', w'.heap.size = w.heap.size → w.grownBy w' v.ownBlock → Own w' base e k v enc (xs.set i x) → K w') : sStore P T (.pointer (some (elA v k i))) u w K := by
  obtain ⟨hl, hr⟩ := hown
  rcases hr with ⟨rfl, hn⟩ | ⟨g, cap, cur, rfl, hb, hg, hnc, hcm, hcs, ht⟩
  · omega
  · have hlx := he.len x
    have hik : i * k + k ≤ xs.length * k := by rw [← Nat.succ_mul]; exact Nat.mul_le_mul_right k hi
    have hnk : xs.length * k ≤ cap * k := Nat.mul_le_mul_right k hnc
    have hcl : cur.toList.length = cap * k := by simp [hcs]
    have key : (splice cur.toList (i * k) (enc x)).take (xs.length * k) = (xs.set i x).flatMap enc := by
      rw [splice_take (m := xs.length * k) (by rw [hlx]; omega) (by rw [hcl]; exact hnk), ht, he.set xs i x hi]
    have hst := run_storeCells_at P g (i * k) e (enc x) 0 cur w hg (by rw [hlx]; omega) (he.one x)
    have hw := h (w.setRow g (splice cur.toList (i * k) (enc x)).toArray) (by simp) ⟨rfl, rfl, rfl, by simp, fun b _ hk => setRow_other w g b _ (fun e => hk (by rw [e]; rfl))⟩
      ⟨by rw [List.length_set, he.length, List.length_set], .inr ⟨g, cap, (splice cur.toList (i * k) (enc x)).toArray, by rw [List.length_set], hb, setRow_heap w g _ _ e _ hg, by rw [List.length_set]; exact hnc, hcm, by
        rw [List.size_toArray, splice_len (by rw [hlx, hcl]; omega), hcl], by
        rw [List.length_set]
        exact key⟩⟩
    unfold splice at hw
    simp only [Nat.add_zero] at hst
    have hr : (Instr.storeAt T (.pointer (some ⟨g, i * k, none⟩)) u).run P w = .ok () (w.setRow g (cur.toList.take (i * k) ++ enc x ++ cur.toList.drop (i * k + (enc x).length)).toArray) := by
      simp [Instr.storeAt, Instr.sureAddr, storeVar, sizeOf_run hT h0, hv, hlx]
      simpa [hlx] using hst
    unfold sStore after
    simp only [elA, add_addr, Nat.zero_add]
    rw [hr]
    exact hw
end

/-! ## Slices of the call's own, from any offset of their block -/
/-- Nothing else writes into the slice's block; what it holds. -/
def Row {α : Type} (w : World) (base e k : Nat) (v : Value) (enc : α → List Value) (xs : List α) : Prop :=
  (v = .slice none 0 0 ∧ xs = []) ∨
  ∃ g o cap cur, v = .slice (some ⟨g, o, none⟩) xs.length cap ∧ base ≤ g ∧ w.heap[g]? = some (.cells cur e (0, 0)) ∧ xs.length ≤ cap ∧ cap ≤ maxLen ∧ o + cap * k ≤ cur.size ∧ (cur.toList.drop o).take (xs.length * k) = xs.flatMap enc
section
variable {α : Type} {w w' : World} {base e k : Nat} {v : Value} {enc : α → List Value} {xs : List α}
theorem Row.nil (w : World) (base e k : Nat) (enc : α → List Value) : Row w base e k (.slice none 0 0) enc [] := .inl ⟨rfl, rfl⟩
theorem Own.row (h : Own w base e k v enc xs) : Row w base e k v enc xs := by
  obtain ⟨hl, hr⟩ := h
  rcases hr with ⟨rfl, h0⟩ | ⟨g, cap, cur, rfl, hb, hg, hnc, hcm, hcs, ht⟩
  · exact .inl ⟨rfl, List.eq_nil_of_length_eq_zero h0⟩
  · exact .inr ⟨g, 0, cap, cur, rfl, hb, hg, hnc, hcm, by omega, by simpa using ht⟩
theorem Row.lt (h : Row w base e k v enc xs) : ∀ g, v.ownBlock = some g → base ≤ g ∧ g < w.heap.size := by
  intro g hg
  rcases h with ⟨rfl, _⟩ | ⟨g', o, cap, cur, rfl, hb, hgg, _⟩
  · cases hg
  · cases hg; exact ⟨hb, (Array.getElem?_eq_some_iff.1 hgg).1⟩
theorem Row.wr {row : Option Nat} (h : Row w base e k v enc xs) (hg : w.grownBy w' row) (hne : v.ownBlock = none ∨ v.ownBlock ≠ row) : Row w' base e k v enc xs := by
  rcases h with h | ⟨g, o, cap, cur, rfl, hb, hgg, rest⟩
  · exact .inl h
  · refine .inr ⟨g, o, cap, cur, rfl, hb, ?_, rest⟩
    rw [hg.block g (Array.getElem?_eq_some_iff.1 hgg).1 (by simpa [Value.ownBlock] using hne)]
    exact hgg
theorem Row.ext (h : Row w base e k v enc xs) (hx : Ext w w') : Row w' base e k v enc xs := by
  cases hv : v.ownBlock with
  | none => exact h.wr (grown_of_ext hx none) (.inl hv)
  | some g => exact h.wr (grown_of_ext hx none) (.inr (by rw [hv]; simp))
theorem Row.mono {base' : Nat} (h : Row w base e k v enc xs) (hb : base' ≤ base) : Row w base' e k v enc xs := by
  rcases h with h | ⟨g, o, cap, cur, h1, h2, h3⟩
  · exact .inl h
  · exact .inr ⟨g, o, cap, cur, h1, Nat.le_trans hb h2, h3⟩
theorem Row.shape (h : Row w base e k v enc xs) : v.cells = [v].toArray ∧ v.oneCell' = true := by
  rcases h with ⟨rfl, _⟩ | ⟨g, o, cap, cur, rfl, _⟩ <;> exact ⟨rfl, rfl⟩
theorem Row.at (h : Row w base e k v enc xs) {g o l c : Nat} (hv : v = .slice (some ⟨g, o, none⟩) l c) {j : Nat} {u : Value} (hu : (xs.flatMap enc)[j]? = some u) : w.cell? ⟨g, o + j, none⟩ = some u := by
  subst hv
  rcases h with ⟨h, _⟩ | ⟨g', o', cap, cur, hv, hb, hg, hnc, hcm, hcs, ht⟩
  · cases h
  · cases hv
    rw [← ht, List.getElem?_take] at hu
    split at hu
    · rw [List.getElem?_drop] at hu
      simp only [World.cell?, hg]
      simpa using hu
    · cases hu
theorem Row.sl (h : Row w base e k v enc xs) (he : Enc enc k) : Sl w v k enc xs := by
  have hat := @Row.at
  rcases id h with ⟨rfl, rfl⟩ | ⟨g, o, cap, cur, rfl, hb, hg, hnc, hcm, hcs, ht⟩
  · exact Sl.nil w k enc
  · refine ⟨_, cap, rfl, hnc, hcm, fun i x hx => ⟨g, o, rfl, fun j u hu => ?_⟩⟩
    have := h.at rfl (he.get xs i x hx j u hu)
    rwa [Nat.add_assoc]
/-- A part of it. -/
theorem Row.part (h : Row w base e k v enc xs) (he : Enc enc k) {lo hi : Nat} (h1 : lo ≤ hi) (h2 : hi ≤ xs.length) : Row w base e k (slV v k lo hi (capV v)) enc ((xs.take hi).drop lo) := by
  have hlen : ((xs.take hi).drop lo).length = hi - lo := by simp; omega
  rcases h with ⟨rfl, rfl⟩ | ⟨g, o, cap, cur, rfl, hb, hg, hnc, hcm, hcs, ht⟩
  · obtain rfl : hi = 0 := by simpa using h2
    obtain rfl : lo = 0 := by omega
    exact .inl ⟨rfl, rfl⟩
  · have hcont : (cur.toList.drop (o + lo * k)).take ((hi - lo) * k) = ((xs.take hi).drop lo).flatMap enc := by
      apply List.ext_getElem?
      intro j
      have hfl := he.length ((xs.take hi).drop lo)
      rw [List.getElem?_take]
      split
      · rename_i hj
        rw [List.getElem?_drop]
        have hk0 : 0 < k := by rcases Nat.eq_zero_or_pos k with rfl | h; (· simp at hj); exact h
        have hq : j / k < hi - lo := (Nat.div_lt_iff_lt_mul hk0).2 hj
        obtain ⟨y, hy⟩ : ∃ y, ((xs.take hi).drop lo)[j / k]? = some y := ⟨_, List.getElem?_eq_getElem (by rw [hlen]; exact hq)⟩
        have hy' : xs[lo + j / k]? = some y := by
          rw [List.getElem?_drop, List.getElem?_take] at hy
          split at hy
          · exact hy
          · cases hy
        have hmod : j % k < (enc y).length := by rw [he.len]; exact Nat.mod_lt _ hk0
        obtain ⟨u, hu⟩ : ∃ u, (enc y)[j % k]? = some u := ⟨_, List.getElem?_eq_getElem hmod⟩
        have hjk : j / k * k + j % k = j := by rw [Nat.mul_comm]; exact Nat.div_add_mod j k
        have e1 := he.get _ _ y hy _ u hu
        have e2 := he.get _ _ y hy' _ u hu
        rw [hjk] at e1
        rw [e1]
        rw [Nat.add_mul, Nat.add_assoc, hjk, ← ht, List.getElem?_take] at e2
        split at e2
        · rw [List.getElem?_drop, ← Nat.add_assoc] at e2; exact e2
        · cases e2
      · rename_i hj
        exact (List.getElem?_eq_none (by rw [hfl, hlen]; omega)).symm
    have hcl : (cap - lo) * k = cap * k - lo * k := Nat.sub_mul cap lo k
    have hlk : lo * k ≤ cap * k := Nat.mul_le_mul_right k (by omega)
    simp only [slV, capV]
    by_cases hcc : cap = lo
    · subst hcc
      have hz : hi - cap = 0 := by omega
      refine .inr ⟨g, o, cap - cap, cur, by rw [hlen]; simp, hb, hg, by omega, by omega, by simp; omega, ?_⟩
      have hnil : (xs.take hi).drop cap = [] := List.eq_nil_of_length_eq_zero (by rw [hlen]; exact hz)
      rw [hnil]; simp
    · refine .inr ⟨g, o + lo * k, cap - lo, cur, by rw [hlen]; simp [hcc, add_addr], hb, hg, by omega, by omega, by omega, by rw [hlen]; exact hcont⟩
end

/-- 'append(v, x...)', v of the call's own, from any offset. -/
theorem sAppend_row {P : Program} {T : TypeId} {w : World} {K : K1} {α : Type} {base e k : Nat} {v x : Value} {enc : α → List Value} {xs ys : List α} {ze : List Value} {ty : Nat} (hel : elQ P T = some e) (hk : szQ P e = k) (h0 : 0 < k) (hz : zeroQ P e = some ze) (hzl : ze.length = k) (he : Enc enc k)
    (hown : Row w base e k v enc xs) (hbase : base ≤ w.heap.size) (hx : Sl w x k enc ys) (h63 : xs.length + ys.length ≤ maxLen) (hby : (xs.length + ys.length) * byQ P e ≤ 140737488355328)
    (h : ∀ v' w', Row w' base e k v' enc (xs ++ ys) → w.grownBy w' v.ownBlock → (v'.ownBlock = v.ownBlock ∨ ∀ g, v'.ownBlock = some g → w.heap.size ≤ g) → K v' w') : sBuiltin P .append [T, T] ty [v, x] w K := by
  rcases id hown with ⟨rfl, rfl⟩ | ⟨g, o, cap, cur, rfl, hb, hg, hnc, hcm, hcs, ht⟩
  · refine sAppend_own (base := w.heap.size) hel hk h0 hz hzl he (Own.nil w _ _ _ enc) (Nat.le_refl _) hx h63 hby fun v' w' ho hgr => ?_
    exact h v' w' (ho.row.mono hbase) hgr (.inr fun g hg => (ho.lt g hg).1)
  obtain ⟨i, z, hi, hzz, hzc, hsz, hbq⟩ := zero_info hz
  have hik : i.size = k := by rw [hsz, hk]
  obtain ⟨a, c, rfl, g1, g2, g3⟩ := hx
  have hlen : (xs ++ ys).length = xs.length + ys.length := by simp
  have happ : (xs ++ ys).flatMap enc = xs.flatMap enc ++ ys.flatMap enc := by simp
  have hxl := he.length xs
  have hyl := he.length ys
  have hxk : xs.length * k ≤ cap * k := Nat.mul_le_mul_right k hnc
  cases a with
  | none =>
    have hys : ys = [] := by
      cases ys with
      | nil => rfl
      | cons y ys => obtain ⟨b, o, hb, _⟩ := g3 0 y rfl; cases hb
    subst hys
    have hr : (Builtin.append_ #[T, T] ty #[.slice (some ⟨g, o, none⟩) xs.length cap, .slice none 0 c]).run P w = .ok (.slice (some ⟨g, o, none⟩) xs.length cap) w := by
      simp [Builtin.append_, run_underlying (elQ_spec hel), sizeOf, typeInfo, hi, Builtin.lenOf, Builtin.firstCells, hnc, storeCells]
    have := h _ w (by simpa using hown) ⟨rfl, rfl, rfl, Nat.le_refl _, fun _ _ _ => rfl⟩ (.inl rfl)
    unfold sBuiltin after
    simp only [List.length_nil] at hr ⊢
    rw [hr]
    exact this
  | some ad =>
    have hnews : ∀ j u, (ys.flatMap enc)[j]? = some u → w.cell? (ad.add j) = some u := by
      intro j u hu
      have hj : j < ys.length * k := by
        have := (List.getElem?_eq_some_iff.1 hu).1
        rwa [he.length] at this
      have hq : j / k < ys.length := (Nat.div_lt_iff_lt_mul h0).2 hj
      obtain ⟨y, hy⟩ : ∃ y, ys[j / k]? = some y := ⟨ys[j / k], List.getElem?_eq_getElem hq⟩
      obtain ⟨b, o, hb, hc⟩ := g3 _ y hy
      cases hb
      have hmod : j % k < (enc y).length := by rw [he.len]; exact Nat.mod_lt _ h0
      obtain ⟨u', hu'⟩ : ∃ u', (enc y)[j % k]? = some u' := ⟨(enc y)[j % k], List.getElem?_eq_getElem hmod⟩
      have hget := he.get ys _ y hy _ u' hu'
      rw [show j / k * k + j % k = j from by rw [Nat.mul_comm]; exact Nat.div_add_mod j k] at hget
      rw [hu] at hget
      cases hget
      have := hc _ _ hu'
      rw [add_addr]
      rw [Nat.add_assoc, show j / k * k + j % k = j from by rw [Nat.mul_comm]; exact Nat.div_add_mod j k] at this
      exact this
    have hone : ∀ u ∈ ys.flatMap enc, u.oneCell' = true := fun u hu => by obtain ⟨y, _, hy⟩ := List.mem_flatMap.1 hu; exact he.one y u hy
    by_cases hroom : xs.length + ys.length ≤ cap
    · have hrk : xs.length * k + ys.length * k ≤ cap * k := by rw [← Nat.add_mul]; exact Nat.mul_le_mul_right k hroom
      have hf := run_firstCells_some (P := P) w i.size ys.length ad ys.length c (ys.flatMap enc) (by rw [hik]; exact hyl) hnews
      have hst := run_storeCells_at P g (o + xs.length * k) e (ys.flatMap enc) 0 cur w hg (by omega) hone
      simp only [Nat.add_zero] at hst
      have hr : (Builtin.append_ #[T, T] ty #[.slice (some ⟨g, o, none⟩) xs.length cap, .slice (some ad) ys.length c]).run P w =
          .ok (.slice (some ⟨g, o, none⟩) (xs.length + ys.length) cap) (w.setRow g (cur.toList.take (o + xs.length * k) ++ ys.flatMap enc ++ cur.toList.drop (o + xs.length * k + (ys.flatMap enc).length)).toArray) := by
        simp only [hik] at hf
        simp only [List.append_assoc] at hst
        simp [Builtin.append_, run_underlying (elQ_spec hel), sizeOf, typeInfo, hi, hik, Builtin.lenOf, hroom, hf, add_addr, hst]
      have hcl : cur.toList.length = cur.size := by simp
      have hcont : ((cur.toList.take (o + xs.length * k) ++ ys.flatMap enc ++ cur.toList.drop (o + xs.length * k + (ys.flatMap enc).length)).drop o).take ((xs.length + ys.length) * k) = xs.flatMap enc ++ ys.flatMap enc := by
        rw [← ht]
        have e1 : (cur.toList.take (o + xs.length * k) ++ ys.flatMap enc ++ cur.toList.drop (o + xs.length * k + (ys.flatMap enc).length)).drop o = (cur.toList.drop o).take (xs.length * k) ++ (ys.flatMap enc ++ cur.toList.drop (o + xs.length * k + (ys.flatMap enc).length)) := by
          rw [List.append_assoc, List.drop_append_of_le_length (by rw [List.length_take, hcl]; omega), List.drop_take]
          congr 2
          omega
        have e2 : ((cur.toList.drop o).take (xs.length * k)).length = xs.length * k := by rw [List.length_take, List.length_drop, hcl]; omega
        rw [e1]
        generalize (cur.toList.drop o).take (xs.length * k) = A at e2 ⊢
        generalize cur.toList.drop (o + xs.length * k + (ys.flatMap enc).length) = B
        rw [List.take_append, e2, List.take_of_length_le (l := A) (by rw [e2, Nat.add_mul]; omega), List.take_append, hyl, Nat.add_mul, Nat.add_sub_cancel_left, Nat.sub_self, List.take_zero, List.append_nil, List.take_of_length_le (by rw [hyl]; omega)]
      have := h (.slice (some ⟨g, o, none⟩) (xs.length + ys.length) cap) (w.setRow g (cur.toList.take (o + xs.length * k) ++ ys.flatMap enc ++ cur.toList.drop (o + xs.length * k + (ys.flatMap enc).length)).toArray)
        (.inr ⟨g, o, cap, _, by rw [hlen], hb, setRow_heap w g cur _ e _ hg, by omega, hcm, by simp only [List.size_toArray, List.length_append, List.length_take, List.length_drop, hcl]; omega, by rw [happ, hlen]; exact hcont⟩)
        ⟨rfl, rfl, rfl, by simp, fun b _ hk => setRow_other w g b _ (fun e => hk (by simp [Value.ownBlock, e]))⟩ (.inl rfl)
      unfold sBuiltin after
      dsimp only
      rw [hr]
      exact this
    · have holds : ∀ j u, (xs.flatMap enc)[j]? = some u → w.cell? ((⟨g, o, none⟩ : Addr).add j) = some u := fun j u hu => by rw [add_addr]; exact hown.at rfl hu
      have hmx : maxLen = 9223372036854775807 := rfl
      have hr := run_append_grow (P := P) w T ty e i z (elQ_spec hel) hi hzz ⟨g, o, none⟩ xs.length cap (xs.flatMap enc) (by rw [hik]; exact hxl) holds ad ys.length c (ys.flatMap enc) (by rw [hik]; exact hyl) hnews (by omega) (by omega) (growslice_fits (by omega) (by rw [hbq]; exact hby))
      have hge := grownCap_ge w (xs.length + ys.length) cap e
      have hcm' : grownCap w (xs.length + ys.length) cap e ≤ maxLen := grownCap_le_maxLen w _ cap e h63
      have hzs : z.cells.size = k := by rw [← Array.length_toList, hzc, hzl]
      have := h (.slice (some ⟨w.heap.size, 0, none⟩) (xs.length + ys.length) (grownCap w (xs.length + ys.length) cap e))
        (w.drew.alloc (.cells ((xs.flatMap enc).toArray ++ (ys.flatMap enc).toArray ++ Builtin.zeroCells z.cells (grownCap w (xs.length + ys.length) cap e - (xs.length + ys.length))) e))
        (.inr ⟨w.heap.size, 0, _, _, by rw [hlen], hbase, heap_alloc_new w.drew _, by omega, hcm', by
          simp only [Array.size_append, List.size_toArray, size_zeroCells, hzs, hxl, hyl, Nat.zero_add, ← Nat.add_mul]
          exact Nat.le_of_eq (by congr 1; omega), by
          rw [happ, hlen, List.drop_zero]
          simp only [Array.toList_append, List.append_assoc]
          rw [← List.append_assoc, ← happ, show (xs.length + ys.length) * k = ((xs ++ ys).flatMap enc).length from by rw [he.length, hlen]]
          exact List.take_left⟩)
        ⟨rfl, rfl, rfl, by simp, fun b hk _ => (Ext.new w.drew _).block b hk⟩ (.inr fun g hg => by cases hg; exact Nat.le_refl _)
      unfold sBuiltin after
      dsimp only
      rw [hr]
      exact this

section
variable {C : World → Prop} {w : World} {k : Value → Prop}
/-- An operation that gives one value in every world of a class. -/
theorem stillC_eq {E : World → K1 → Prop} {v : Value} (h : ∀ w1, C w1 → ∀ K : K1, E w1 K = K v w1) (hC : C w) : stillS C w E k = k v := by
  unfold stillS
  apply propext
  constructor
  · rintro ⟨u, h1, _, h3⟩; rw [h w hC] at h1; obtain ⟨rfl, _⟩ := h1; exact h3
  · intro h3; exact ⟨v, by rw [h w hC]; exact ⟨rfl, rfl⟩, fun w1 h1 => by rw [h w1 h1]; exact ⟨rfl, rfl⟩, h3⟩
end
/-- Places in an array that stands in memory. -/
theorem sIdxA_arr {P : Program} {T : TypeId} {w : World} {K : K1} {n e k b o i : Nat} {kd : IntKind} {z : Int} (har : arQ P T = some (n, e)) (hk : szQ P e = k) (h0 : 0 < k) (hi : i < n) (hz : z = i) : sIdxA P T (.pointer (some ⟨b, o, none⟩)) (.int kd z) w K = K (.pointer (some ⟨b, o + i * k, none⟩)) w := by
  unfold arQ at har
  cases hu : P.underlying T with
  | none => rw [hu] at har; cases har
  | some d =>
    rw [hu] at har
    cases d <;> first | (cases har; done) | skip
    rename_i n' e'
    cases har
    subst hz
    simp [sIdxA, after, Instr.indexAt, asIntOf, run_underlying hu, hi, Instr.sureAddr, sizeOf_run hk h0, add_addr]

theorem slV_own {v : Value} {k lo hi mx : Nat} : (slV v k lo hi mx).ownBlock = v.ownBlock := by
  cases v <;> try rfl
  rename_i a l c
  cases a with
  | none => simp [slV, Value.ownBlock]
  | some a =>
    have hadd : (a.add (lo * k)).block = a.block := by unfold Addr.add; split <;> rfl
    by_cases h : mx = lo
    · simp [slV, h, Value.ownBlock]
    · simp [slV, h, Value.ownBlock, hadd]

/-! ## Structs of bools, ints and strings, compared -/
def scalQ (P : Program) (t : TypeId) : Bool := match P.underlying t with | some .bool => true | some (.int _) => true | some .string => true | _ => false
def flatL (P : Program) : Nat → List Field → Option (List Nat)
  | _, [] => some []
  | i, f :: fs => if Nat.beq f.offset i && (f.name != "_") && scalQ P f.type && Nat.beq (szQ P f.type) 1 then (flatL P (i + 1) fs).map (f.type :: ·) else none
def flatQ (P : Program) (T : TypeId) : Option (List Nat) := match P.underlying T with | some (.struct fs) => if P.stoodInHeld T || P.eqGuardType P.depth T then none else flatL P 0 fs.toList | _ => none
def fitB (P : Program) : List Nat → List Value → Bool
  | [], [] => true
  | t :: ts, v :: vs => (match P.underlying t, v with | some .bool, .bool _ => true | some (.int k), .int k' _ => decide (k = k') | some .string, .string _ => true | _, _ => false) && fitB P ts vs
  | _, _ => false
section
variable {P : Program} {T : TypeId} {w : World}
theorem bytes_inj {x y : ByteArray} : x.toList = y.toList ↔ x = y := by
  constructor
  · intro h
    rw [ByteArray.toList_eq, ByteArray.toList_eq] at h
    exact ByteArray.ext (Array.ext' h)
  · rintro rfl; rfl
theorem run_flat (d : Nat) {xs ys : Array Value} : ∀ (fs : List Field) (i : Nat) (ts : List Nat), flatL P i fs = some ts → fitB P ts (xs.toList.drop i) = true → fitB P ts (ys.toList.drop i) = true →
    ∃ r : Bool, (r = true ↔ xs.toList.drop i = ys.toList.drop i) ∧ (Op.eqFields (d + 1) xs ys fs).run P w = .ok r w
  | [], i, ts, h, h1, h2 => by
    cases h
    cases hx : xs.toList.drop i with
    | cons => rw [hx] at h1; cases h1
    | nil =>
      cases hy : ys.toList.drop i with
      | cons => rw [hy] at h2; cases h2
      | nil => exact ⟨true, by simp, rfl⟩
  | f :: fs, i, ts, h, h1, h2 => by
    unfold flatL at h
    split at h
    case isFalse => cases h
    rename_i hc
    simp only [Bool.and_eq_true] at hc
    obtain ⟨⟨⟨ho, hn⟩, hs⟩, hz⟩ := hc
    have ho := Nat.eq_of_beq_eq_true ho
    have hz := Nat.eq_of_beq_eq_true hz
    simp only [Option.map_eq_some_iff] at h
    obtain ⟨ts', hts, rfl⟩ := h
    have hdrop : ∀ (zs : Array Value), fitB P (f.type :: ts') (zs.toList.drop i) = true → ∃ v, zs[i]? = some v ∧ zs.toList.drop i = v :: zs.toList.drop (i + 1) ∧ fitB P [f.type] [v] = true ∧ fitB P ts' (zs.toList.drop (i + 1)) = true := by
      intro zs hf
      cases hd : zs.toList.drop i with
      | nil => rw [hd] at hf; cases hf
      | cons v r =>
        rw [hd] at hf
        unfold fitB at hf
        rw [Bool.and_eq_true] at hf
        have h0 : zs[i]? = some v := by
          have : (zs.toList.drop i)[0]? = some v := by rw [hd]; rfl
          rw [List.getElem?_drop] at this
          simpa using this
        have hr : zs.toList.drop (i + 1) = r := by
          rw [← List.drop_drop, hd]; rfl
        rw [hr]
        exact ⟨v, h0, rfl, by unfold fitB; rw [hf.1]; rfl, hf.2⟩
    obtain ⟨a, ha, hxa, hfa, hrx⟩ := hdrop xs h1
    obtain ⟨b, hb, hyb, hfb, hry⟩ := hdrop ys h2
    have hcell : cellQ P f.type = true := by
      unfold scalQ at hs
      unfold cellQ
      cases hu : P.underlying f.type with
      | none => rw [hu] at hs; cases hs
      | some q => rw [hu] at hs; cases q <;> first | (cases hs; done) | rfl
    have hpa : (part f.type xs f.offset).run P w = .ok a w := by simp [part, ho, run_isAgg_cell hcell, sizeOf_run hz (by omega), ha]
    have hpb : (part f.type ys f.offset).run P w = .ok b w := by simp [part, ho, run_isAgg_cell hcell, sizeOf_run hz (by omega), hb]
    have hq : ∃ q : Bool, (q = true ↔ a = b) ∧ (Op.equalIn (d + 1) f.type a b).run P w = .ok q w := by
      unfold fitB at hfa hfb
      cases hu : P.underlying f.type with
      | none => simp [hu] at hfa
      | some kd =>
        cases kd <;> cases a <;> simp only [hu, Bool.false_and, Bool.false_eq_true] at hfa <;> cases b <;> simp only [hu, Bool.false_and, Bool.false_eq_true] at hfb
        case bool.bool.bool x y => exact ⟨x == y, by simp, run_equalIn_bool w d _ x y hu⟩
        case int.int.int k k1 x k2 y =>
          simp [fitB] at hfa hfb
          subst hfa hfb
          exact ⟨x == y, by simp, run_equalIn_int w d _ _ _ x y hu⟩
        case string.string.string x y => exact ⟨x.toList == y.toList, by rw [beq_iff_eq, bytes_inj]; simp, run_equalIn_string w d _ x y hu⟩
    obtain ⟨q, hq1, hq2⟩ := hq
    obtain ⟨r, hr1, hr2⟩ := run_flat d fs (i + 1) ts' hts hrx hry
    have hn' : f.name ≠ "_" := by simpa using hn
    rw [hxa, hyb]
    cases q with
    | false =>
      refine ⟨false, ?_, by simp [Op.eqFields, hn', hpa, hpb, hq2]⟩
      have : a ≠ b := fun e => by have := hq1.2 e; cases this
      simp [this]
    | true =>
      refine ⟨r, ?_, by simp [Op.eqFields, hn', hpa, hpb, hq2, hr2]⟩
      rw [hr1]
      simp [hq1.1 rfl]
theorem run_flat_eq {ts : List Nat} {cs ds : List Value} (hT : flatQ P T = some ts) (h1 : fitB P ts cs = true) (h2 : fitB P ts ds = true) :
    ∃ r : Bool, (r = true ↔ cs = ds) ∧ ∀ w, (Op.equalIn 10000 T (.agg cs.toArray) (.agg ds.toArray)).run P w = .ok r w ∧ ∀ op x y, (eqGuard op T x y (.agg cs.toArray) (.agg ds.toArray)).run P w = .ok () w := by
  unfold flatQ at hT
  cases hu : P.underlying T with
  | none => rw [hu] at hT; cases hT
  | some kd =>
    rw [hu] at hT
    cases kd <;> first | (cases hT; done) | skip
    rename_i fs
    dsimp only at hT
    split at hT
    · cases hT
    rename_i hc
    rw [Bool.not_eq_true, Bool.or_eq_false_iff] at hc
    have hfs : P.fieldsOf T = fs := by simp [Program.fieldsOf, hu]
    have key : ∀ w : World, ∃ r : Bool, (r = true ↔ cs = ds) ∧ (Op.eqFields 9999 cs.toArray ds.toArray fs.toList).run P w = .ok r w := fun w => by
      have := run_flat (P := P) (w := w) 9998 (xs := cs.toArray) (ys := ds.toArray) fs.toList 0 ts hT (by simpa using h1) (by simpa using h2)
      simpa using this
    refine ⟨@decide (cs = ds) (Classical.propDecidable _), ?_, fun w => ⟨?_, fun op x y => run_eqGuard_agg w op T x y _ _ hc.2⟩⟩
    · simp
    · rw [run_equalIn_struct w 9999 T _ _ (by rw [hfs]; exact hu) hc.1, hfs]
      obtain ⟨r, hr1, hr2⟩ := key w
      rw [hr2]
      congr 1
      rw [Bool.eq_iff_iff, hr1]
      simp
theorem sBin_flat {ts : List Nat} {cs ds : List Value} {cx cy : Bool} (hT : flatQ P T = some ts) (h1 : fitB P ts cs = true) (h2 : fitB P ts ds = true) :
    ∃ r : Bool, (r = true ↔ cs = ds) ∧ (∀ w K, sBin P .eql T cx cy (.agg cs.toArray) (.agg ds.toArray) w K = K (.bool r) w) ∧ ∀ w K, sBin P .neq T cx cy (.agg cs.toArray) (.agg ds.toArray) w K = K (.bool (!r)) w := by
  obtain ⟨r, hr, hall⟩ := run_flat_eq hT h1 h2
  refine ⟨r, hr, fun w K => ?_, fun w K => ?_⟩ <;>
  · obtain ⟨h1, h2⟩ := hall w
    unfold sBin after
    rw [Sem.run_bind, h2]
    simp [run_eql_struct, run_neq_struct, h1]
end

theorem grown_trans {w w1 w2 : World} {row : Option Nat} (h : w.grownBy w1 row) (g : w1.grownBy w2 row) : w.grownBy w2 row :=
  ⟨g.os.trans h.os, g.tape.trans h.tape, g.output.trans h.output, Nat.le_trans h.size g.size, fun k hk hne => (g.block k (Nat.lt_of_lt_of_le hk h.size) hne).trans (h.block k hk hne)⟩
theorem grown_refl (w : World) (row : Option Nat) : w.grownBy w row := grown_of_ext (Ext.refl w) row
theorem grown_drew (w : World) (row : Option Nat) : w.grownBy w.drew row := grown_of_ext (Ext.refl w).drew row

/-- A slice literal, as a slice of the call's own. -/
theorem sBuildSlice_own {P : Program} {T : TypeId} {w : World} {K : K1} {α : Type} {e k n : Nat} {enc : α → List Value} {xs : List α} {ps : List (Nat × Value)} {ze : List Value} {lp : List (Nat × List Value)} (hel : elQ P T = some e) (hk : szQ P e = k) (hx : xs.length = n) (hz : zeroQ P e = some ze) (h0 : 0 < n * k) (hlim : n * k ≤ 16777216) (he : Enc enc k)
    (hp : ps.map (fun p => (p.1, p.2.cells)) = lp.map (fun p => (p.1, p.2.toArray))) (hb : buildF (fun i => some (i * k, k)) ((List.range (n * k)).map fun j => ze.toArray[j % ze.length]!) lp = some (xs.flatMap enc))
    (h : ∀ v w', v = .slice (some ⟨w.heap.size, 0, none⟩) n n → Own w' w.heap.size e k v enc xs → Ext w w' → w'.heap.size = w.heap.size + 1 → K v w') : sBuildSlice P T n ps w K := by
  obtain ⟨i, z, hi, hzz, hzc, hsz, hbq⟩ := zero_info hz
  have hik : i.size = k := by rw [hsz, hk]
  have hf := fill_build (place := fun i => some (i * k, k)) ps lp ((Array.range (n * k)).map fun j => z.cells[j % z.cells.size]!) (xs.flatMap enc) hp (by
    rw [← hb]; congr 1; rw [← hzc]; simp)
  have hr : (Instr.buildSlice T n ps.toArray).run P w = .ok (.slice (some ⟨w.heap.size, 0, none⟩) n n) (w.alloc (.cells (xs.flatMap enc).toArray e)) := by
    have hne : n * k ≠ 0 := by omega
    have hng : ¬ (16777216 < n * k) := by omega
    simp [Instr.buildSlice, run_underlying (elQ_spec hel), sizeOf, typeInfo, hi, hik, zeroValue, hzz, newRow, hne, hng, hf]
  unfold sBuildSlice after
  rw [hr]
  refine h _ _ rfl ⟨he.length xs, .inr ⟨_, n, _, by rw [hx], Nat.le_refl _, heap_alloc_new w _, by omega, ?_, by rw [List.size_toArray, he.length, hx], by rw [List.take_of_length_le (by rw [he.length]; exact Nat.le_refl _)]⟩⟩ (Ext.new w _) (by simp)
  have hk0 : 0 < k := by rcases Nat.eq_zero_or_pos k with rfl | hk0; (· simp at h0); exact hk0
  have : n ≤ n * k := Nat.le_mul_of_pos_right n hk0
  simp only [maxLen]; omega

/-! ## Slices as values -/
abbrev SV := Option Addr × Nat × Nat
def sv (x : SV) : Value := .slice x.1 x.2.1 x.2.2
theorem Sl.sv {α : Type} {w : World} {v : Value} {k : Nat} {enc : α → List Value} {xs : List α} (h : Sl w v k enc xs) : ∃ x : SV, v = sv x := by
  obtain ⟨a, cap, rfl, _⟩ := h; exact ⟨(a, _, cap), rfl⟩

/-! ## Worlds that differ at one block, and at the rows of one type -/
def Ty (w : World) (e k : Nat) : Prop := ∃ c, w.heap[k]? = some (.cells c e (0, 0))
structure Frm (e base b : Nat) (w w' : World) : Prop where
  os : w'.os = w.os
  tape : w'.tape = w.tape
  output : w'.output = w.output
  size : w.heap.size ≤ w'.heap.size
  blk : ∀ k, k < w.heap.size → k ≠ b → (base ≤ k → ¬ Ty w e k) → w'.heap[k]? = w.heap[k]?
section
variable {e base b : Nat} {w w0 w1 w2 : World}
theorem Frm.of_ext (h : Ext w w1) : Frm e base b w w1 := ⟨h.os, h.tape, h.output, h.size, fun k hk _ _ => h.block k hk⟩
theorem Frm.of_grown {row : Option Nat} (h : w.grownBy w1 row) (hr : ∀ g, row = some g → g = b ∨ (base ≤ g ∧ Ty w e g)) : Frm e base b w w1 :=
  ⟨h.os, h.tape, h.output, h.size, fun k hk hb ht => h.block k hk fun e => by rcases hr k e.symm with h1 | ⟨h1, h2⟩; (· exact hb h1); exact ht h1 h2⟩
theorem Frm.trans (h : Frm e base b w w1) (g : Frm e base b w1 w2) : Frm e base b w w2 := by
  refine ⟨g.os.trans h.os, g.tape.trans h.tape, g.output.trans h.output, Nat.le_trans h.size g.size, fun k hk hb ht => ?_⟩
  have e1 := h.blk k hk hb ht
  refine (g.blk k (Nat.lt_of_lt_of_le hk h.size) hb fun hbk hT => ?_).trans e1
  obtain ⟨c, hc⟩ := hT
  exact ht hbk ⟨c, e1 ▸ hc⟩
theorem Frm.ext (h : Frm e base b w1 w2) (he : Ext w0 w1) (h1 : w0.heap.size ≤ base) (h2 : w0.heap.size ≤ b) : Ext w0 w2 := by
  have := he.size
  exact ⟨h.os.trans he.os, h.tape.trans he.tape, h.output.trans he.output, Nat.le_trans he.size h.size, fun k hk => (h.blk k (by omega) (by omega) (by omega)).trans (he.block k hk)⟩
theorem Frm.own {α : Type} {base' e' k : Nat} {v : Value} {enc : α → List Value} {xs : List α} (h : Frm e base b w w1) (ho : Row w base' e' k v enc xs) (he : e' ≠ e) (hb : b < base') : Row w1 base' e' k v enc xs := by
  rcases ho with ho | ⟨g, o, cap, cur, rfl, h1, h2, rest⟩
  · exact .inl ho
  · refine .inr ⟨g, o, cap, cur, rfl, h1, ?_, rest⟩
    rw [h.blk g (Array.getElem?_eq_some_iff.1 h2).1 (by omega) fun _ hT => by obtain ⟨c, hc⟩ := hT; rw [h2] at hc; cases hc; exact he rfl]
    exact h2
theorem Frm.cells (h : Frm e base b w w1) {c : Nat} {cs : List Value} (hk : Blk w c cs) (hc : c ≠ b) (hb : c < base) : Blk w1 c cs := by
  obtain ⟨T, hT⟩ := hk
  exact ⟨T, (h.blk c (Array.getElem?_eq_some_iff.1 hT).1 hc (by omega)).trans hT⟩
end
/-- The block of a row is of its type. -/
theorem Row.ty {α : Type} {w : World} {base e k g : Nat} {v : Value} {enc : α → List Value} {xs : List α} (h : Row w base e k v enc xs) (hg : v.ownBlock = some g) : base ≤ g ∧ Ty w e g := by
  rcases h with ⟨rfl, _⟩ | ⟨g', o, cap, cur, rfl, h1, h2, rest⟩
  · cases hg
  · cases hg; exact ⟨h1, cur, h2⟩


/-! ## Blocks whose type is known -/
section
variable {P : Program} {T : TypeId} {w : World} {K : K1}
theorem sAlloc_newT {zs : List Value} (hz : zeroQ P T = some zs) (h : ∀ b w', b = w.heap.size → w'.heap.size = b + 1 → Ext w w' → w'.heap[b]? = some (.cells zs.toArray T (0, 0)) → K (.pointer (some ⟨b, 0, none⟩)) w') : sAlloc P T w K := by
  obtain ⟨i, z, hi, hzz, hzc, hsz, hbq⟩ := zero_info hz
  have := h w.heap.size (w.alloc (.cells z.cells T)) rfl (by simp) (Ext.new w _) (by rw [heap_alloc_new, ← hzc])
  have hr : (Instr.alloc T true (.tuple #[])).run P w = .ok (.pointer (some ⟨w.heap.size, 0, none⟩)) (w.alloc (.cells z.cells T)) := by
    simp [Instr.alloc, zeroValue, typeInfo, hi, hzz, newVar, newRow]
  unfold sAlloc after
  rw [hr]
  exact this
theorem sStore_T {b o n E : Nat} {cs vs : List Value} {v : Value} {K : World → Prop} (hT : szQ P T = n) (h0 : 0 < n) (hh : w.heap[b]? = some (.cells cs.toArray E (0, 0))) (hv : v.cells = vs.toArray) (hn : vs.length = n) (hle : o + n ≤ cs.length) (h1 : ∀ u ∈ vs, u.oneCell' = true)
    (h : ∀ w', w'.heap.size = w.heap.size → Wr b w w' → w'.heap[b]? = some (.cells (splice cs o vs).toArray E (0, 0)) → K w') : sStore P T (.pointer (some ⟨b, o, none⟩)) v w K := by
  subst hn
  have hst := run_storeCells_at P b o E vs 0 cs.toArray w hh (by simp; omega) h1
  have := h (w.setRow b (splice cs o vs).toArray) (by simp) ⟨rfl, rfl, rfl, by simp, fun k _ hk => setRow_other w b k _ (fun e => hk (by rw [e]))⟩ (setRow_heap w b _ _ E _ hh)
  unfold splice at this
  simp only [Nat.add_zero] at hst
  have hr : (Instr.storeAt T (.pointer (some ⟨b, o, none⟩)) v).run P w = .ok () (w.setRow b (cs.take o ++ vs ++ cs.drop (o + vs.length)).toArray) := by
    simp [Instr.storeAt, Instr.sureAddr, storeVar, sizeOf_run hT h0, hv]
    simpa using hst
  unfold sStore after
  rw [hr]
  exact this
theorem sVarT {zs vs : List Value} {v : Value} {K : Value → World → Prop} (hz : zeroQ P T = some zs) (hT : szQ P T = zs.length) (h0 : 0 < zs.length) (hv : v.cells = vs.toArray) (hn : vs.length = zs.length) (h1 : ∀ u ∈ vs, u.oneCell' = true)
    (h : ∀ b w', b = w.heap.size → w'.heap.size = b + 1 → Ext w w' → w'.heap[b]? = some (.cells vs.toArray T (0, 0)) → K (.pointer (some ⟨b, 0, none⟩)) w') : sAlloc P T w fun p w => sStore P T p v w fun w => K p w := by
  refine sAlloc_newT hz fun b w1 hb hs he hk => ?_
  refine sStore_T hT h0 hk hv hn (by omega) h1 fun w2 hs2 hw hk2 => ?_
  refine h b w2 hb (by omega) (he.wr hw (by rintro _ ⟨rfl⟩; omega)) ?_
  have : splice zs 0 vs = vs := by unfold splice; simp [hn]
  rwa [this] at hk2
end

/-! ## Function values -/
theorem sFunc_mk {P : Program} {fn : Fn} {a b : List Value} {w : World} {K : K1} : sFunc P fn a b w K = K (.func fn a.toArray b.toArray) w := by
  simp [sFunc, after, Instr.makeFunc]
theorem sDyn_func {P : Program} {n : Nat} {a b : Array Value} {args : List Value} {w : World} {K : K1} : sDyn P (.func (.func n) a b) args w K = sCall P n (a.toList ++ args ++ b.toList) w K := rfl
/-- Lists of ints as cells. -/
theorem sl_ints {w : World} {v : Value} {k : Nat} {α : Type} {enc : α → List Value} {xs ys : List α} (h : Sl w v k enc xs) (e : xs = ys) : Sl w v k enc ys := e ▸ h
theorem sDyn_mono {P : Program} {f : Value} {args : List Value} {w : World} {K K' : K1} (hk : ∀ v w', K v w' → K' v w') (h : sDyn P f args w K) : sDyn P f args w K' := by
  unfold sDyn at *
  split at h
  · exact h.mono hk
  · exact h.elim
end Go.Lift

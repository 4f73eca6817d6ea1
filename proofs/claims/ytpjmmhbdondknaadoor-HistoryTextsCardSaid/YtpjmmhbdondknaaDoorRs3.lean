/- More laws for the operations of code without slots: interfaces that hold pointers, parts of struct values, slices that are made and copied into, structs with arrays in them compared. Conditions: the types' facts, which are closed. -/
import Derived.Test.YtpjmmhbdondknaaDoorRs2
import Derived.ChangeKeysEq
import Derived.Laws.OwnMore
namespace Go.Lift
open Go Go.RowKit
section
variable {P : Program} {T A : TypeId} {w : World} {K : K1} {cx cy : Bool}

/-! ## Interfaces -/
def concQ (P : Program) (T : TypeId) : Bool := match P.underlying T with | some (.interface _) => false | some _ => (zeroQ P T).isSome | none => false
def ifcQ (P : Program) (T : TypeId) : Bool := match P.underlying T with | some (.interface ms) => ms.isEmpty | _ => false
theorem conc_zero (h : concQ P A = true) : ∃ z, ∀ w, (zeroValue A).run P w = .ok z w := by
  have hz : (zeroQ P A).isSome = true := by
    unfold concQ at h
    cases hu : P.underlying A with
    | none => rw [hu] at h; cases h
    | some d => rw [hu] at h; cases d <;> first | (cases h; done) | exact h
  obtain ⟨ze, hz⟩ := Option.isSome_iff_exists.1 hz
  obtain ⟨i, z, hi, hzz, _⟩ := zero_info hz
  exact ⟨z, fun w => by simp [zeroValue, typeInfo, hi, hzz]⟩
theorem sIface_mk {v : Value} (h : concQ P T = true) : sIface P T v w K = K (.iface T v) w := by
  have hr : (Instr.makeInterface T v).run P w = .ok (.iface T v) w := by
    unfold concQ at h
    cases hu : P.underlying T with
    | none => rw [hu] at h; cases h
    | some d => rw [hu] at h; cases d <;> first | (cases h; done) | simp [Instr.makeInterface, run_underlying hu]
  unfold sIface after
  rw [hr]
theorem sAssert_yes {v : Value} (h : concQ P A = true) : sAssert P (.iface A v) T A true w K = K (.tuple #[v, .bool true]) w := by
  have hr : (Instr.typeAssert (.iface A v) T A true).run P w = .ok (.tuple #[v, .bool true]) w := by
    unfold concQ at h
    cases hu : P.underlying A with
    | none => rw [hu] at h; cases h
    | some d => rw [hu] at h; cases d <;> first | (cases h; done) | simp [Instr.typeAssert, run_underlying hu]
  unfold sAssert after
  rw [hr]
theorem sAssert_is {v : Value} (h : concQ P A = true) : sAssert P (.iface A v) T A false w K = K v w := by
  have hr : (Instr.typeAssert (.iface A v) T A false).run P w = .ok v w := by
    unfold concQ at h
    cases hu : P.underlying A with
    | none => rw [hu] at h; cases h
    | some d => rw [hu] at h; cases d <;> first | (cases h; done) | simp [Instr.typeAssert, run_underlying hu]
  unfold sAssert after
  rw [hr]
theorem sAssert_no {v : Value} {B : TypeId} (h : concQ P A = true) (hne : B ≠ A) : ∃ z, ∀ w K, sAssert P (.iface B v) T A true w K = K (.tuple #[z, .bool false]) w := by
  obtain ⟨z, hz⟩ := conc_zero h
  refine ⟨z, fun w K => ?_⟩
  have hr : (Instr.typeAssert (.iface B v) T A true).run P w = .ok (.tuple #[z, .bool false]) w := by
    have hz := hz w
    unfold concQ at h
    cases hu : P.underlying A with
    | none => rw [hu] at h; cases h
    | some d => rw [hu] at h; cases d <;> first | (cases h; done) | simp [Instr.typeAssert, run_underlying hu, hne, hz]
  unfold sAssert after
  rw [hr]
theorem sAssert_nil (h : concQ P A = true) : ∃ z, ∀ w K, sAssert P .nilIface T A true w K = K (.tuple #[z, .bool false]) w := by
  obtain ⟨z, hz⟩ := conc_zero h
  refine ⟨z, fun w K => ?_⟩
  have hr : (Instr.typeAssert .nilIface T A true).run P w = .ok (.tuple #[z, .bool false]) w := by
    have hz := hz w
    unfold concQ at h
    cases hu : P.underlying A with
    | none => rw [hu] at h; cases h
    | some d => rw [hu] at h; cases d <;> first | (cases h; done) | simp [Instr.typeAssert, run_underlying hu, hz]
  unfold sAssert after
  rw [hr]
def isNilI : Value → Bool
  | .nilIface => true
  | _ => false
theorem run_eq_nilI {v : Value} (h : ifcQ P T = true) (hv : v = .nilIface ∨ ∃ A x, v = .iface A x) : (Op.equalIn 10000 T v .nilIface).run P w = .ok (isNilI v) w := by
  unfold ifcQ at h
  cases hu : P.underlying T with
  | none => rw [hu] at h; cases h
  | some d =>
    rw [hu] at h
    cases d <;> first | (cases h; done) | skip
    unfold Op.equalIn
    rcases hv with rfl | ⟨A, x, rfl⟩ <;> simp [run_underlying hu, isNilI]
theorem sBin_nilI_eq {v : Value} (h : ifcQ P T = true) (hv : v = .nilIface ∨ ∃ A x, v = .iface A x) : sBin P .eql T cx true v .nilIface w K = K (.bool (isNilI v)) w := by
  have hq := run_eq_nilI (w := w) h hv
  have hr : (do eqGuard .eql T (bif cx then .const v else .tmp 0) (.const .nilIface) v .nilIface; binOp .eql T v .nilIface : Sem Value).run P w = .ok (.bool (isNilI v)) w := by
    have hg : (eqGuard .eql T (bif cx then .const v else .tmp 0) (.const .nilIface) v .nilIface).run P w = .ok () w := by
      unfold eqGuard
      rcases hv with rfl | ⟨A, x, rfl⟩ <;> simp
    have hb : binOp .eql T v .nilIface = (do pure (.bool (← Op.equal T v .nilIface))) := by
      rcases hv with rfl | ⟨A, x, rfl⟩ <;> rfl
    rw [Sem.run_bind, hg, Result.andThen_ok, hb, Sem.run_bind]
    unfold Op.equal Op.maxDepth
    rw [hq]; rfl
  unfold sBin after
  simp only [cond_true]
  rw [hr]
theorem sBin_nilI_ne {v : Value} (h : ifcQ P T = true) (hv : v = .nilIface ∨ ∃ A x, v = .iface A x) : sBin P .neq T cx true v .nilIface w K = K (.bool (!isNilI v)) w := by
  have hq := run_eq_nilI (w := w) h hv
  have hr : (do eqGuard .neq T (bif cx then .const v else .tmp 0) (.const .nilIface) v .nilIface; binOp .neq T v .nilIface : Sem Value).run P w = .ok (.bool (!isNilI v)) w := by
    have hg : (eqGuard .neq T (bif cx then .const v else .tmp 0) (.const .nilIface) v .nilIface).run P w = .ok () w := by
      unfold eqGuard
      rcases hv with rfl | ⟨A, x, rfl⟩ <;> simp
    have hb : binOp .neq T v .nilIface = (do pure (.bool (!(← Op.equal T v .nilIface)))) := by
      rcases hv with rfl | ⟨A, x, rfl⟩ <;> rfl
    rw [Sem.run_bind, hg, Result.andThen_ok, hb, Sem.run_bind]
    unfold Op.equal Op.maxDepth
    rw [hq]; rfl
  unfold sBin after
  simp only [cond_true]
  rw [hr]

/-! ## Parts of a struct value -/
/-- A field: its type and offset. -/
def fdT (P : Program) (T f : Nat) : Option (Nat × Nat) := match P.underlying T with | some (.struct fs) => (fs[f]?).map fun x => (x.type, x.offset) | _ => none
theorem sFld_cell {cs : List Value} {f ft off : Nat} {v : Value} (hq : fdT P T f = some (ft, off)) (hc : cellQ P ft = true) (hv : cs[off]? = some v) : sFld P T (.agg cs.toArray) f w K = K v w := by
  have hr : (Instr.field T (.agg cs.toArray) f).run P w = .ok v w := by
    unfold fdT at hq
    cases hu : P.underlying T with
    | none => rw [hu] at hq; cases hq
    | some d =>
      rw [hu] at hq
      cases d <;> first | (cases hq; done) | skip
      rename_i fs
      simp only [Option.map_eq_some_iff] at hq
      obtain ⟨x, hx, he⟩ := hq
      cases he
      simp [Instr.field, run_underlying hu, hx, asAgg, part, run_isAgg_cell hc, hv]
  unfold sFld after
  rw [hr]
theorem sFld_agg {cs : List Value} {f ft off n : Nat} (hq : fdT P T f = some (ft, off)) (hc : aggN P ft = some n) : sFld P T (.agg cs.toArray) f w K = K (.agg ((cs.drop off).take n).toArray) w := by
  have hr : (Instr.field T (.agg cs.toArray) f).run P w = .ok (.agg ((cs.drop off).take n).toArray) w := by
    unfold fdT at hq
    cases hu : P.underlying T with
    | none => rw [hu] at hq; cases hq
    | some d =>
      rw [hu] at hq
      cases d <;> first | (cases hq; done) | skip
      rename_i fs
      simp only [Option.map_eq_some_iff] at hq
      obtain ⟨x, hx, he⟩ := hq
      cases he
      obtain ⟨h1, h2⟩ := run_isAgg_agg (w := w) hc
      simp [Instr.field, run_underlying hu, hx, asAgg, part, h1, h2]
  unfold sFld after
  rw [hr]

/-! ## Ints -/
theorem sMin_int {k : IntKind} {ts : List TypeId} {ty : TypeId} (a b : Int) : sBuiltin P .min ts ty [.int k a, .int k b] w K = K (.int k (if b < a then b else a)) w := by
  simp [sBuiltin, after, Builtin.min_, Builtin.min2]

/-! ## Slices that are made -/
theorem sMake_own {α : Type} {e k c : Nat} {z : Int} {ze : List Value} {enc : α → List Value} {kl kc : IntKind} (hel : elQ P T = some e) (hk : szQ P e = k) (hz : zeroQ P e = some ze) (hc : z = c) (hn : byQ P e * c ≤ 281474976710656) (h63 : c ≤ maxLen)
    (h : ∀ v w', Own w' w.heap.size e k v enc [] → Ext w w' → K v w') : sMake P T (.int kl 0) (.int kc z) w K := by
  obtain ⟨i, zz, hi, hzz, hzc, hsz, hbq⟩ := zero_info hz
  subst hc
  obtain ⟨w', hr, ho, hg⟩ := run_make_own (P := P) w w.heap.size T e i zz k (elQ_spec hel) hi hzz (by rw [hsz, hk]) kl kc c (by rw [hbq]; exact hn) h63 (Nat.le_refl _)
  unfold sMake after
  rw [hr]
  exact h _ w' ho ((Ext.refl w).wr hg (fun b hb => by cases hb))

theorem madeCells_rep {α : Type} {enc : α → List Value} {k : Nat} (he : Enc enc k) (h0 : 0 < k) (x0 : α) (zs : Array Value) (hz : zs.toList = enc x0) (n : Nat) : (madeCells zs (n * k)).toList = (List.replicate n x0).flatMap enc := by
  have hzl : zs.size = k := by rw [← Array.length_toList, hz, he.len]
  apply List.ext_getElem?
  intro j
  have hl : (madeCells zs (n * k)).toList.length = n * k := by simp [size_madeCells]
  by_cases hj : j < n * k
  · have hq : j / k < n := (Nat.div_lt_iff_lt_mul h0).2 hj
    have hm : j % k < k := Nat.mod_lt _ h0
    obtain ⟨u, hu⟩ : ∃ u, (enc x0)[j % k]? = some u := ⟨_, List.getElem?_eq_getElem (by rw [he.len]; exact hm)⟩
    have hjk : j / k * k + j % k = j := by rw [Nat.mul_comm]; exact Nat.div_add_mod j k
    have := he.get (List.replicate n x0) (j / k) x0 (by simp [hq]) _ u hu
    rw [hjk] at this
    rw [this]
    have hzu : zs[j % k]? = some u := by rw [← hu, ← hz]; simp
    have hlt : j % k < zs.size := by rw [hzl]; exact hm
    unfold madeCells
    simp only [Array.getElem?_toList, Array.getElem?_map, Array.getElem?_range, hj, hzl]
    simp [getElem!_pos zs (j % k) hlt]
    have := Array.getElem?_eq_getElem hlt
    rw [hzu] at this
    exact (Option.some.inj this).symm
  · rw [List.getElem?_eq_none (by rw [hl]; omega), List.getElem?_eq_none (by rw [he.length, List.length_replicate]; omega)]

/-- 'make([]T, n)'. -/
theorem sMake_full {α : Type} {e k n : Nat} {z z2 : Int} {ze : List Value} {enc : α → List Value} {kl kc : IntKind} (x0 : α) (hel : elQ P T = some e) (hk : szQ P e = k) (h0 : 0 < k) (hz : zeroQ P e = some ze) (he : Enc enc k) (hx : ze = enc x0) (hc : z = n) (hc2 : z2 = n) (hn : byQ P e * n ≤ 281474976710656) (h63 : n ≤ maxLen)
    (h : ∀ v w', Row w' w.heap.size e k v enc (List.replicate n x0) → Ext w w' → K v w') : sMake P T (.int kl z) (.int kc z2) w K := by
  obtain ⟨i, zz, hi, hzz, hzc, hsz, hbq⟩ := zero_info hz
  subst hc hc2
  obtain ⟨w', hr, ho, hg⟩ := run_make_full (P := P) w w.heap.size T e i zz k (elQ_spec hel) hi hzz (by rw [hsz, hk]) kl kc n (by rw [hbq]; exact hn) h63 (Nat.le_refl _)
  unfold sMake after
  rw [hr]
  have hm := madeCells_rep he h0 x0 zz.cells (by rw [hzc, hx]) n
  refine h _ w' (Own.row (xs := List.replicate n x0) ?_) ((Ext.refl w).wr hg (fun b hb => by cases hb))
  unfold Own
  rw [List.length_replicate, ← hm]
  exact ho

/-- 'copy(v, x)', v of the call's own, x at least as long. -/
theorem sCopy_row {α : Type} {base e k ty : Nat} {v x : Value} {enc : α → List Value} {xs ys : List α} {T2 : TypeId} (hel : elQ P T = some e) (hk : szQ P e = k) (h0 : 0 < k) (he : Enc enc k) (hv : Row w base e k v enc xs) (hx : Sl w x k enc ys) (hle : xs.length ≤ ys.length)
    (h : ∀ w', w'.heap.size = w.heap.size → w.grownBy w' v.ownBlock → Row w' base e k v enc (ys.take xs.length) → K (.int .i64 xs.length) w') : sBuiltin P .copy [T, T2] ty [v, x] w K := by
  obtain ⟨a, c, rfl, g1, g2, g3⟩ := hx
  have hmin : Nat.min ys.length xs.length = xs.length := Nat.min_eq_right hle
  have hlt : (ys.take xs.length).length = xs.length := by simp; omega
  rcases hv with ⟨rfl, rfl⟩ | ⟨g, o, cap, cur, rfl, hb, hg, hnc, hcm, hcs, ht⟩
  · have hl : ∀ (x : Addr), (loadCells x 0).run P w = .ok #[] w := fun x => by simpa using run_loadCells_list (P := P) w x [] (by simp)
    have hr : (Builtin.copy_ #[T, T2] ty #[.slice none 0 0, .slice a ys.length c]).run P w = .ok (.int .i64 0) w := by
      cases a <;> simp [Builtin.copy_, run_underlying (elQ_spec hel), Builtin.lenOf, Builtin.firstCells, sizeOf_run hk h0, hl, goInt]
    have := h w rfl (grown_refl w _) (.inl ⟨rfl, by simp⟩)
    unfold sBuiltin after
    dsimp only
    rw [hr]
    exact this
  · cases a with
    | none =>
      have hys : ys = [] := by
        cases ys with
        | nil => rfl
        | cons y ys => obtain ⟨b, o, hb, _⟩ := g3 0 y rfl; cases hb
      subst hys
      have hxs : xs = [] := List.eq_nil_of_length_eq_zero (by simpa using hle)
      subst hxs
      have hr : (Builtin.copy_ #[T, T2] ty #[.slice (some ⟨g, o, none⟩) 0 cap, .slice none 0 c]).run P w = .ok (.int .i64 0) w := by
        simp [Builtin.copy_, run_underlying (elQ_spec hel), Builtin.lenOf, Builtin.firstCells, sizeOf_run hk h0, storeCells, goInt]
      have := h w rfl (grown_refl w _) (.inr ⟨g, o, cap, cur, rfl, hb, hg, hnc, hcm, hcs, by simp⟩)
      unfold sBuiltin after
      simp only [List.length_nil] at hr this ⊢
      rw [hr]
      exact this
    | some ad =>
      have hnews : ∀ j u, ((ys.take xs.length).flatMap enc)[j]? = some u → w.cell? (ad.add j) = some u := by
        intro j u hu
        have hj : j < xs.length * k := by
          have := (List.getElem?_eq_some_iff.1 hu).1
          rwa [he.length, hlt] at this
        have hq : j / k < xs.length := (Nat.div_lt_iff_lt_mul h0).2 hj
        obtain ⟨y, hy⟩ : ∃ y, ys[j / k]? = some y := ⟨ys[j / k]'(by omega), List.getElem?_eq_getElem (by omega)⟩
        have hy' : (ys.take xs.length)[j / k]? = some y := by rw [List.getElem?_take, if_pos hq, hy]
        obtain ⟨b, o, hb, hc⟩ := g3 _ y hy
        cases hb
        have hmod : j % k < (enc y).length := by rw [he.len]; exact Nat.mod_lt _ h0
        obtain ⟨u', hu'⟩ : ∃ u', (enc y)[j % k]? = some u' := ⟨(enc y)[j % k], List.getElem?_eq_getElem hmod⟩
        have hjk : j / k * k + j % k = j := by rw [Nat.mul_comm]; exact Nat.div_add_mod j k
        have hget := he.get _ _ y hy' _ u' hu'
        rw [hjk, hu] at hget
        cases hget
        have := hc _ _ hu'
        rw [add_addr]
        rw [Nat.add_assoc, hjk] at this
        exact this
      have hcl : ((ys.take xs.length).flatMap enc).length = xs.length * k := by rw [he.length, hlt]
      have hxk : xs.length * k ≤ cap * k := Nat.mul_le_mul_right k hnc
      have hone : ∀ u ∈ (ys.take xs.length).flatMap enc, u.oneCell' = true := fun u hu => by obtain ⟨y, _, hy⟩ := List.mem_flatMap.1 hu; exact he.one y u hy
      have hl := run_loadCells_list (P := P) w ad _ hnews
      have hst := run_storeCells_at P g o e ((ys.take xs.length).flatMap enc) 0 cur w hg (by omega) hone
      simp only [Nat.add_zero] at hst
      rw [hcl] at hl
      have hr : (Builtin.copy_ #[T, T2] ty #[.slice (some ⟨g, o, none⟩) xs.length cap, .slice (some ad) ys.length c]).run P w =
          .ok (.int .i64 xs.length) (w.setRow g (cur.toList.take o ++ (ys.take xs.length).flatMap enc ++ cur.toList.drop (o + ((ys.take xs.length).flatMap enc).length)).toArray) := by
        simp only [Builtin.copy_, Sem.run_bind, run_underlying (elQ_spec hel), Result.andThen_ok, Builtin.lenOf, Builtin.firstCells, sizeOf_run hk h0, Sem.run_pure, List.getElem?_toArray, List.getElem?_cons_zero, List.getElem?_cons_succ, hmin, hl]
        simp [hst, goInt]
      have hcur : cur.toList.length = cur.size := by simp
      have := h (w.setRow g (cur.toList.take o ++ (ys.take xs.length).flatMap enc ++ cur.toList.drop (o + ((ys.take xs.length).flatMap enc).length)).toArray) (by simp) ⟨rfl, rfl, rfl, by simp, fun b _ hk' => setRow_other w g b _ (fun e => hk' (by simp [Value.ownBlock, e]))⟩
        (.inr ⟨g, o, cap, _, by rw [hlt], hb, setRow_heap w g cur _ e _ hg, by rw [hlt]; exact hnc, hcm, by
          simp only [List.size_toArray, List.length_append, List.length_take, List.length_drop, hcur, hcl]; omega, by
          rw [hlt]
          simp only [List.append_assoc]
          rw [List.drop_append_of_le_length (by rw [List.length_take, hcur]; omega), List.drop_take, Nat.sub_self, List.take_zero, List.nil_append, ← hcl]
          exact List.take_left⟩)
      unfold sBuiltin after
      dsimp only
      rw [hr]
      exact this
end
end Go.Lift

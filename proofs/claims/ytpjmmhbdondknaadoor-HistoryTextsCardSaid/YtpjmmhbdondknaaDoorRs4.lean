/- Values of types that are made of bools, ints, strings, structs and arrays, compared: equal cells. Conditions: the types' facts, which are closed. -/
import Derived.Test.YtpjmmhbdondknaaDoorRs3
namespace Go.Lift
open Go Go.RowKit

def deepF (P : Program) (q : Nat → Option (List Nat)) : Nat → List Field → Option (List Nat)
  | _, [] => some []
  | i, f :: fs => match q f.type with
    | some ts => if Nat.beq f.offset i && (f.name != "_") && Nat.beq (szQ P f.type) ts.length && !ts.isEmpty then (deepF P q (i + ts.length) fs).map (ts ++ ·) else none
    | none => none
/-- The leaves of a type, in their order. -/
def deepQ (P : Program) : Nat → Nat → Option (List Nat)
  | 0, _ => none
  | d + 1, T => match P.underlying T with
    | some (.struct fs) => if P.stoodInHeld T then none else deepF P (deepQ P d) 0 fs.toList
    | some (.array n e) => match deepQ P d e with
      | some ts => if Nat.beq (szQ P e) ts.length && !ts.isEmpty then some (List.replicate n ts).flatten else none
      | none => none
    | _ => if scalQ P T && Nat.beq (szQ P T) 1 then some [T] else none
section
variable {P : Program}
/-- A value of a type, as cells. -/
def IsV (P : Program) (T : Nat) (v : Value) (cs : List Value) : Prop := (aggQ P T = true ∧ v = .agg cs.toArray) ∨ (cellQ P T = true ∧ cs = [v])
theorem fitB_append {ts us : List Nat} : ∀ {cs : List Value}, fitB P (ts ++ us) cs = true → fitB P ts (cs.take ts.length) = true ∧ fitB P us (cs.drop ts.length) = true := by
  induction ts with
  | nil => intro cs h; exact ⟨by simp [fitB], by simpa using h⟩
  | cons t ts ih =>
    intro cs h
    cases cs with
    | nil => simp [fitB] at h
    | cons c cs =>
      simp only [List.cons_append, fitB, Bool.and_eq_true] at h
      obtain ⟨h1, h2⟩ := ih h.2
      refine ⟨?_, by simpa using h2⟩
      simp only [List.length_cons, List.take_succ_cons, fitB, Bool.and_eq_true]
      exact ⟨h.1, h1⟩
theorem fitB_len {ts : List Nat} : ∀ {cs : List Value}, fitB P ts cs = true → cs.length = ts.length := by
  induction ts with
  | nil => intro cs h; cases cs with | nil => rfl | cons => simp [fitB] at h
  | cons t ts ih =>
    intro cs h
    cases cs with
    | nil => simp [fitB] at h
    | cons c cs =>
      simp only [fitB, Bool.and_eq_true] at h
      simp [ih h.2]
theorem isAgg_or {T : Nat} {d : Nat} {ts : List Nat} (h : deepQ P d T = some ts) : aggQ P T = true ∨ (cellQ P T = true ∧ ts = [T]) := by
  cases d with
  | zero => cases h
  | succ d =>
    unfold deepQ at h
    unfold aggQ cellQ
    cases hu : P.underlying T with
    | none =>
      rw [hu] at h
      simp [scalQ, hu] at h
    | some k =>
      rw [hu] at h
      cases k <;> first | (exact .inl rfl) | (refine .inr ⟨rfl, ?_⟩; dsimp only at h; split at h <;> first | (cases h; done) | (cases h; rfl))
theorem aggQ_aggN {T n : Nat} (h : aggQ P T = true) (hs : szQ P T = n) (h0 : 0 < n) : aggN P T = some n := by
  unfold aggQ at h
  unfold aggN
  unfold szQ at hs
  cases hi : P.info? T with
  | none => rw [hi] at hs; dsimp only at hs; omega
  | some i =>
    rw [hi] at hs; dsimp only at hs
    cases hu : P.underlying T with
    | none => rw [hu] at h; cases h
    | some k => rw [hu] at h; cases k <;> first | (cases h; done) | (simp [hs])
/-- A part of a value. -/
theorem run_part {T d : Nat} {ts : List Nat} (h : deepQ P d T = some ts) (hs : szQ P T = ts.length) (h0 : 0 < ts.length) {xs : Array Value} {off : Nat} (hl : off + ts.length ≤ xs.size) :
    ∃ v, (∀ w, (part T xs off).run P w = .ok v w) ∧ IsV P T v ((xs.toList.drop off).take ts.length) := by
  rcases isAgg_or h with ha | ⟨hc, rfl⟩
  · refine ⟨.agg ((xs.toList.drop off).take ts.length).toArray, fun w => ?_, .inl ⟨ha, rfl⟩⟩
    obtain ⟨h1, h2⟩ := run_isAgg_agg (w := w) (aggQ_aggN ha hs h0)
    simp only [part, Sem.run_bind, h1, h2, Result.andThen_ok, if_true, Sem.run_pure]
    congr 2
    apply Array.ext'
    simp [List.extract_eq_take_drop]
  · simp only [List.length_singleton] at hl hs ⊢
    obtain ⟨v, hv⟩ : ∃ v, xs[off]? = some v := ⟨_, Array.getElem?_eq_getElem (by omega)⟩
    refine ⟨v, fun w => by simp [part, run_isAgg_cell hc, hv], .inr ⟨hc, ?_⟩⟩
    have : xs.toList[off]? = some v := by simpa using hv
    obtain ⟨hlt, he⟩ := List.getElem?_eq_some_iff.1 this
    rw [List.drop_eq_getElem_cons hlt, he]; rfl

abbrev EqOk (P : Program) (m T : Nat) (ts : List Nat) : Prop := ∀ cs ds x y, fitB P ts cs = true → fitB P ts ds = true → IsV P T x cs → IsV P T y ds → ∃ r : Bool, (r = true ↔ cs = ds) ∧ ∀ w, (Op.equalIn m T x y).run P w = .ok r w

theorem eq_scal {m T : Nat} (hs : scalQ P T = true) : EqOk P (m + 1) T [T] := by
  intro cs ds x y h1 h2 hx hy
  have hc : cellQ P T = true := by
    unfold scalQ at hs
    unfold cellQ
    cases hu : P.underlying T with
    | none => rw [hu] at hs; cases hs
    | some q => rw [hu] at hs; cases q <;> first | (cases hs; done) | rfl
  have hna : aggQ P T ≠ true := by
    intro h
    unfold aggQ at h
    unfold cellQ at hc
    cases hu : P.underlying T with
    | none => rw [hu] at h; cases h
    | some q => rw [hu] at h hc; cases q <;> first | (cases h; done) | (cases hc; done)
  rcases hx with ⟨h, _⟩ | ⟨_, rfl⟩
  · exact absurd h hna
  rcases hy with ⟨h, _⟩ | ⟨_, rfl⟩
  · exact absurd h hna
  unfold fitB at h1 h2
  cases hu : P.underlying T with
  | none => simp [hu] at h1
  | some kd =>
    cases kd <;> cases x <;> simp only [hu, Bool.false_and, Bool.false_eq_true] at h1 <;> cases y <;> simp only [hu, Bool.false_and, Bool.false_eq_true] at h2
    case bool.bool.bool a b => exact ⟨a == b, by simp, fun w => run_equalIn_bool w m _ a b hu⟩
    case int.int.int k k1 a k2 b =>
      simp [fitB] at h1 h2
      subst h1 h2
      exact ⟨a == b, by simp, fun w => run_equalIn_int w m _ _ _ a b hu⟩
    case string.string.string a b => exact ⟨a.toList == b.toList, by rw [beq_iff_eq, bytes_inj]; simp, fun w => run_equalIn_string w m _ a b hu⟩

theorem eq_fields {m d : Nat} (ih : ∀ T ts, deepQ P d T = some ts → EqOk P m T ts) : ∀ (fs : List Field) (i : Nat) (ts : List Nat) (xs ys : Array Value), deepF P (deepQ P d) i fs = some ts → fitB P ts (xs.toList.drop i) = true → fitB P ts (ys.toList.drop i) = true →
    ∃ r : Bool, (r = true ↔ xs.toList.drop i = ys.toList.drop i) ∧ ∀ w, (Op.eqFields m xs ys fs).run P w = .ok r w
  | [], i, ts, xs, ys, h, h1, h2 => by
    cases h
    have e1 := fitB_len h1
    have e2 := fitB_len h2
    exact ⟨true, by rw [List.eq_nil_of_length_eq_zero e1, List.eq_nil_of_length_eq_zero e2]; simp, fun w => rfl⟩
  | f :: fs, i, ts, xs, ys, h, h1, h2 => by
    unfold deepF at h
    cases hq : deepQ P d f.type with
    | none => rw [hq] at h; cases h
    | some us =>
      rw [hq] at h
      dsimp only at h
      split at h
      case isFalse => cases h
      rename_i hc
      simp only [Bool.and_eq_true] at hc
      obtain ⟨⟨⟨ho, hn⟩, hs⟩, hz⟩ := hc
      have ho := Nat.eq_of_beq_eq_true ho
      have hs := Nat.eq_of_beq_eq_true hs
      have h0 : 0 < us.length := by cases us with | nil => simp at hz | cons => simp
      simp only [Option.map_eq_some_iff] at h
      obtain ⟨ts', hts, rfl⟩ := h
      obtain ⟨a1, b1⟩ := fitB_append h1
      obtain ⟨a2, b2⟩ := fitB_append h2
      have l1 := fitB_len h1
      have l2 := fitB_len h2
      simp only [List.length_drop, List.length_append, Array.length_toList] at l1 l2
      rw [List.drop_drop] at b1 b2
      obtain ⟨x, hx, vx⟩ := run_part hq hs h0 (xs := xs) (off := i) (by omega)
      obtain ⟨y, hy, vy⟩ := run_part hq hs h0 (xs := ys) (off := i) (by omega)
      obtain ⟨q, hq1, hq2⟩ := ih _ _ hq _ _ x y a1 a2 vx vy
      obtain ⟨r, hr1, hr2⟩ := eq_fields ih fs (i + us.length) ts' xs ys hts b1 b2
      have hn' : f.name ≠ "_" := by simpa using hn
      have e1 : ∀ l : List Value, l.drop i = (l.drop i).take us.length ++ l.drop (i + us.length) := fun l => by rw [← List.drop_drop, List.take_append_drop]
      have hlen : ((xs.toList.drop i).take us.length).length = ((ys.toList.drop i).take us.length).length := by simp; omega
      cases q with
      | false =>
        refine ⟨false, ?_, fun w => by simp [Op.eqFields, hn', ho, hx, hy, hq2]⟩
        simp only [Bool.false_eq_true, false_iff]
        intro e
        have := hq1.2 (by rw [e])
        cases this
      | true =>
        refine ⟨r, ?_, fun w => by simp [Op.eqFields, hn', ho, hx, hy, hq2, hr2]⟩
        rw [hr1]
        constructor
        · intro e
          rw [e1 xs.toList, e1 ys.toList, hq1.1 rfl, e]
        · intro e
          have := congrArg (List.drop us.length) e
          simpa [List.drop_drop] using this

theorem eq_items {m d e : Nat} {us : List Nat} (ih : EqOk P m e us) (hq : deepQ P d e = some us) (hs : szQ P e = us.length) (h0 : 0 < us.length) (xs ys : Array Value) : ∀ (n i : Nat), fitB P (List.replicate n us).flatten (xs.toList.drop (i * us.length)) = true → fitB P (List.replicate n us).flatten (ys.toList.drop (i * us.length)) = true →
    ∃ r : Bool, (r = true ↔ xs.toList.drop (i * us.length) = ys.toList.drop (i * us.length)) ∧ ∀ w, (Op.eqItems m e us.length xs ys (List.range' i n)).run P w = .ok r w
  | 0, i, h1, h2 => by
    have e1 := fitB_len h1
    have e2 := fitB_len h2
    exact ⟨true, by rw [List.eq_nil_of_length_eq_zero e1, List.eq_nil_of_length_eq_zero e2]; simp, fun w => rfl⟩
  | n + 1, i, h1, h2 => by
    rw [List.replicate_succ, List.flatten_cons] at h1 h2
    obtain ⟨a1, b1⟩ := fitB_append h1
    obtain ⟨a2, b2⟩ := fitB_append h2
    have l1 := fitB_len h1
    have l2 := fitB_len h2
    simp only [List.length_drop, List.length_append, Array.length_toList] at l1 l2
    have hmul : i * us.length + us.length = (i + 1) * us.length := by rw [Nat.add_mul, Nat.one_mul]
    rw [List.drop_drop, hmul] at b1 b2
    obtain ⟨x, hx, vx⟩ := run_part hq hs h0 (xs := xs) (off := i * us.length) (by omega)
    obtain ⟨y, hy, vy⟩ := run_part hq hs h0 (xs := ys) (off := i * us.length) (by omega)
    obtain ⟨q, hq1, hq2⟩ := ih _ _ x y a1 a2 vx vy
    obtain ⟨r, hr1, hr2⟩ := eq_items ih hq hs h0 xs ys n (i + 1) b1 b2
    have e1 : ∀ l : List Value, l.drop (i * us.length) = (l.drop (i * us.length)).take us.length ++ l.drop ((i + 1) * us.length) := fun l => by rw [← hmul, ← List.drop_drop, List.take_append_drop]
    rw [List.range'_succ]
    cases q with
    | false =>
      refine ⟨false, ?_, fun w => by simp [Op.eqItems, hx, hy, hq2]⟩
      simp only [Bool.false_eq_true, false_iff]
      intro e
      have := hq1.2 (by rw [e])
      cases this
    | true =>
      refine ⟨r, ?_, fun w => by simp [Op.eqItems, hx, hy, hq2, hr2]⟩
      rw [hr1]
      constructor
      · intro e
        rw [e1 xs.toList, e1 ys.toList, hq1.1 rfl, e]
      · intro e
        have := congrArg (List.drop us.length) e
        simpa [List.drop_drop, hmul] using this

theorem eq_deep : ∀ (d T m : Nat) (ts : List Nat), d ≤ m → deepQ P d T = some ts → EqOk P m T ts
  | 0, _, _, _, _, h => by cases h
  | d + 1, T, 0, _, hm, _ => by omega
  | d + 1, T, m + 1, ts, hm, h => by
    have ih : ∀ T ts, deepQ P d T = some ts → EqOk P m T ts := fun T ts h => eq_deep d T m ts (by omega) h
    unfold deepQ at h
    cases hu : P.underlying T with
    | none => rw [hu] at h; simp [scalQ, hu] at h
    | some k =>
      rw [hu] at h
      have hsc : (if (scalQ P T && Nat.beq (szQ P T) 1) = true then some [T] else none) = some ts → EqOk P (m + 1) T ts := by
        intro h
        split at h
        · rename_i hc
          rw [Bool.and_eq_true] at hc
          cases h
          exact eq_scal hc.1
        · cases h
      cases k <;> first | exact hsc h | skip
      case struct fs =>
        dsimp only at h
        split at h
        · cases h
        rename_i hst
        rw [Bool.not_eq_true] at hst
        intro cs ds x y h1 h2 hx hy
        have hnc : ¬ cellQ P T = true := by unfold cellQ; rw [hu]; exact Bool.false_ne_true
        rcases hx with ⟨_, rfl⟩ | ⟨hc, _⟩
        case inr => exact absurd hc hnc
        rcases hy with ⟨_, rfl⟩ | ⟨hc, _⟩
        case inr => exact absurd hc hnc
        have hfs : P.fieldsOf T = fs := by simp [Program.fieldsOf, hu]
        obtain ⟨r, hr1, hr2⟩ := eq_fields ih fs.toList 0 ts cs.toArray ds.toArray h (by simpa using h1) (by simpa using h2)
        refine ⟨r, by simpa using hr1, fun w => ?_⟩
        rw [run_equalIn_struct w m T _ _ (by rw [hfs]; exact hu) hst, hfs]
        exact hr2 w
      case array n e =>
        dsimp only at h
        cases hq : deepQ P d e with
        | none => rw [hq] at h; cases h
        | some us =>
          rw [hq] at h
          dsimp only at h
          split at h
          case isFalse => cases h
          rename_i hc
          rw [Bool.and_eq_true] at hc
          have hs := Nat.eq_of_beq_eq_true hc.1
          have h0 : 0 < us.length := by cases us with | nil => simp at hc | cons => simp
          cases h
          intro cs ds x y h1 h2 hx hy
          have hnc : ¬ cellQ P T = true := by unfold cellQ; rw [hu]; exact Bool.false_ne_true
          rcases hx with ⟨_, rfl⟩ | ⟨hc, _⟩
          case inr => exact absurd hc hnc
          rcases hy with ⟨_, rfl⟩ | ⟨hc, _⟩
          case inr => exact absurd hc hnc
          obtain ⟨r, hr1, hr2⟩ := eq_items (ih _ _ hq) hq hs h0 cs.toArray ds.toArray n 0 (by simpa using h1) (by simpa using h2)
          refine ⟨r, by simpa using hr1, fun w => ?_⟩
          have hi : ∃ i, P.info? e = some i ∧ P.cellsOf e = us.length := by
            unfold szQ at hs
            cases hi : P.info? e with
            | none => rw [hi] at hs; dsimp only at hs; omega
            | some i => rw [hi] at hs; exact ⟨i, rfl, by simp [Program.cellsOf, hi]; exact hs⟩
          obtain ⟨i, hi, hce⟩ := hi
          rw [run_equalIn_array w m cs.toArray ds.toArray hu hi, hce, List.range_eq_range']
          exact hr2 w

/-- Structs and arrays, compared. -/
theorem sBin_deep {T : Nat} {ts : List Nat} {cs ds : List Value} {cx cy : Bool} (hT : deepQ P 20 T = some ts) (ha : aggQ P T = true) (hg : P.eqGuardType P.depth T = false) (h1 : fitB P ts cs = true) (h2 : fitB P ts ds = true) :
    ∃ r : Bool, (r = true ↔ cs = ds) ∧ (∀ w K, sBin P .eql T cx cy (.agg cs.toArray) (.agg ds.toArray) w K = K (.bool r) w) ∧ ∀ w K, sBin P .neq T cx cy (.agg cs.toArray) (.agg ds.toArray) w K = K (.bool (!r)) w := by
  obtain ⟨r, hr, hall⟩ := eq_deep 20 T 10000 ts (by decide) hT cs ds _ _ h1 h2 (.inl ⟨ha, rfl⟩) (.inl ⟨ha, rfl⟩)
  refine ⟨r, hr, fun w K => ?_, fun w K => ?_⟩ <;>
  · have h1 := hall w
    unfold sBin after
    rw [Sem.run_bind, run_eqGuard_agg w _ T _ _ _ _ hg]
    simp [run_eql_struct, run_neq_struct, h1]
end
end Go.Lift

/- What values that are read look like: ints, bools, strings, slices, and structs of these. Conditions: the types' facts, which are closed. -/
import Derived.Test.YtpjmmhbdondknaaDoorRow
import Derived.Test.YtpjmmhbdondknaaDoorRs2
namespace Go.Lift
open Go Go.RowKit Go.ChangeShapes Go.WideShapes Go.ChangeAt
/-- Whatever is read at the type is of this form. -/
abbrev Reads {H : Type} (enc : TypeId × Value → H) (P : Program) (w : World) (sp : Nat → Bool) (hd : Bool) (e : Nat) (R : List Value → Prop) : Prop := ∀ fuel cs x, DataW.trod enc P w 0 sp hd fuel e cs = some x → R cs
/-- A field: its offset, its cells, its type. -/
def fdQ (P : Program) (T f : Nat) : Option (Nat × Nat × Nat) := match P.underlying T with | some (.struct fs) => (fs[f]?).map fun x => (x.offset, P.cellsOf x.type, x.type) | _ => none
section
variable {H : Type} {enc : TypeId × Value → H} {P : Program} {w : World} {sp : Nat → Bool} {hd : Bool} {e : Nat}
theorem rd_int {kd : IntKind} (hu : P.underlying e = some (.int kd)) : Reads enc P w sp hd e fun cs => ∃ n : Int, cs = [.int kd n] ∧ (Lit.int kd n).wf = true := fun _ _ _ h => by
  obtain ⟨n, h1, _, h2⟩ := DataW.trod_int hu h; exact ⟨n, h1, h2⟩
theorem rd_bool (hu : P.underlying e = some .bool) : Reads enc P w sp hd e fun cs => ∃ n : Bool, cs = [.bool n] := fun _ _ _ h => by
  obtain ⟨n, h1, _⟩ := DataW.trod_bool hu h; exact ⟨n, h1⟩
theorem rd_str (hu : P.underlying e = some .string) : Reads enc P w sp hd e fun cs => ∃ n : ByteArray, cs = [.string n] ∧ n.size ≤ maxLen := fun _ _ _ h => by
  obtain ⟨n, h1, _, h2⟩ := DataW.trod_string hu h; exact ⟨n, h1, h2⟩
theorem rd_slice {α : Type} {T k : Nat} {encA : α → List Value} {Q : α → Prop} (hel : elQ P T = some e) (hk : szQ P e = k) (h0 : 0 < k) (he : Reads enc P w sp hd e fun cs => ∃ y, cs = encA y ∧ Q y) :
    Reads enc P w sp hd T fun cs => ∃ v : SV, cs = [sv v] ∧ ∃ xs : List α, Sl w (sv v) k encA xs ∧ ∀ x ∈ xs, Q x := fun fuel cs x h => by
  have hs : ∃ a l c, cs = [.slice a l c] := by
    rcases DataW.trod_slice (elQ_spec hel) h with ⟨rfl, _⟩ | ⟨a, len, cap, _, _, _, _, rfl, _⟩
    · exact ⟨_, _, _, rfl⟩
    · exact ⟨_, _, _, rfl⟩
  obtain ⟨a, l, c, rfl⟩ := hs
  obtain ⟨xs, h1, h2⟩ := open_slc (d := x.1) (ps := x.2) hel hk h0 (fun fuel cs x h _ => he fuel cs x h) ⟨fuel, h⟩
  exact ⟨(a, l, c), rfl, xs, h1, h2⟩
theorem rd_fld {i off sz ty fuel : Nat} {cs : List Value} {x : DataW H × List MemPlace} (hq : fdQ P e i = some (off, sz, ty)) (h : DataW.trod enc P w 0 sp hd fuel e cs = some x) : cs.length = P.cellsOf e ∧ ∃ n y, DataW.trod enc P w 0 sp hd n ty ((cs.drop off).take sz) = some y := by
  unfold fdQ at hq
  cases hu : P.underlying e with
  | none => rw [hu] at hq; cases hq
  | some k =>
    rw [hu] at hq
    cases k <;> first | (cases hq; done) | skip
    rename_i fs
    simp only [Option.map_eq_some_iff] at hq
    obtain ⟨f, hf, he⟩ := hq
    cases he
    obtain ⟨xs, n, _, _, hl, hlen, hall⟩ := DataW.trod_struct hu h
    refine ⟨hl, n, ?_⟩
    have hi : i < xs.length := by rw [hlen]; exact (Array.getElem?_eq_some_iff.1 hf).1
    exact ⟨xs[i], by rw [hall i f hf]; exact List.getElem?_eq_getElem hi⟩
/-- A struct that is handed in. -/
theorem open_struct {R : List Value → Prop} {r : Reach} {b0 : Nat} {v : Value} {d : DataW H} {ps : List MemPlace} (hs : aggQ P e = true) (hval : Value.okWide P w r b0 e v) (hr : Reads enc P w sp hd e R) (h : DataW.Trod enc P w 0 sp hd e v d ps) : ∃ cs : List Value, v = .agg cs.toArray ∧ R cs := by
  have hv : ∃ cs, v = .agg cs := by
    unfold aggQ at hs
    unfold Value.okWide at hval
    cases hu : P.underlying e with
    | none => rw [hu] at hs; cases hs
    | some k =>
      rw [hu] at hs hval
      cases k <;> first | (cases hs; done) | (obtain ⟨cs, h, _⟩ := hval; exact ⟨cs, h⟩)
  obtain ⟨cs, rfl⟩ := hv
  obtain ⟨fuel, hf⟩ := h
  exact ⟨cs.toList, by simp, hr fuel cs.toList _ hf⟩
theorem open_str {r : Reach} {b0 : Nat} {v : Value} {d : DataW H} {ps : List MemPlace} (hu : P.underlying e = some .string) (hval : Value.okWide P w r b0 e v) (h : DataW.Trod enc P w 0 sp hd e v d ps) : ∃ s : ByteArray, v = .string s ∧ s.size ≤ maxLen := by
  obtain ⟨s, rfl⟩ := okWide_string hu hval
  obtain ⟨fuel, hf⟩ := h
  obtain ⟨n, h1, _, h2⟩ := DataW.trod_string hu hf
  cases h1
  exact ⟨s, rfl, h2⟩
end
/-- An int that is read is one. -/
theorem wf64 {n : Int} (h : (Lit.int .i64 n).wf = true) : I64 n := by
  unfold Lit.wf at h
  rw [Bool.and_eq_true, decide_eq_true_eq, decide_eq_true_eq] at h
  have e1 : IntKind.i64.min = -9223372036854775808 := by decide
  have e2 : IntKind.i64.max = 9223372036854775807 := by decide
  rw [e1, e2] at h
  exact h
end Go.Lift

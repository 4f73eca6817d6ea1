/- Edits: as values, compared. No conditions. -/
import Derived.Test.YthpngnngoamlpaaDoorE5
namespace Go.Proofs.YthpngnngoamlpaaDoor
open Go Go.Lift Go.RowKit Go.Txt

abbrev Ed := Int × Int × List UInt8
def encE (x : Ed) : List Value := [.int .i64 x.1, .int .i64 x.2.1, tv x.2.2]
theorem encE_one (x : Ed) : ∀ u ∈ encE x, u.oneCell' = true := fun u hu => by simp [encE] at hu; rcases hu with rfl | rfl | rfl <;> rfl
theorem encE_ok : Enc encE 3 := ⟨fun _ => rfl, fun x u hu => encE_one x u hu⟩
theorem encE_inj {x y : Ed} : encE x = encE y ↔ x = y := by
  obtain ⟨a, b, c⟩ := x
  obtain ⟨a', b', c'⟩ := y
  constructor
  · intro h
    unfold encE at h
    simp only [List.cons.injEq, Value.int.injEq, true_and, and_true] at h
    obtain ⟨rfl, rfl, h⟩ := h
    rw [tv_inj h]
  · rintro h; rw [h]
theorem bool_dec' {r : Bool} {p : Prop} [Decidable p] (h : r = true ↔ p) : r = decide p := by
  by_cases hp : p
  · rw [h.2 hp]; simp [hp]
  · have : r = false := by
      cases r
      · rfl
      · exact absurd (h.1 rfl) hp
    rw [this]; simp [hp]
theorem sLen_any {α : Type} {P : Program} {T : TypeId} {w w0 : World} {K : K1} {v : Value} {k : Nat} {enc : α → List Value} {xs : List α} {e ty : Nat} (hel : elQ P T = some e) (h : Sl w0 v k enc xs) : sBuiltin P .len [T] ty [v] w K = K (.int .i64 xs.length) w := by
  obtain ⟨a, cap, rfl, h1, h2, h3⟩ := h
  have := sLen_sl (w := w) (K := K) (ty := ty) (v := .slice a xs.length cap) (xs := List.replicate xs.length ()) (k := 0) (enc := fun _ => []) hel ⟨a, cap, by simp, by simpa using h1, h2, fun i x hx => by
    obtain ⟨y, hy⟩ : ∃ y, xs[i]? = some y := by
      have := (List.getElem?_eq_some_iff.1 hx).1
      rw [List.length_replicate] at this
      exact ⟨_, List.getElem?_eq_getElem this⟩
    obtain ⟨b, o, hb, _⟩ := h3 i y hy
    exact ⟨b, o, hb, fun j u hu => by simp at hu⟩⟩
  rwa [List.length_replicate] at this
theorem sBin_ed {w : World} {K : K1} {cx cy : Bool} (x y : Ed) : sBin Tryd.prog .eql S.T.api_Edit cx cy (.agg (encE x).toArray) (.agg (encE y).toArray) w K = K (.bool (decide (x = y))) w := by
  obtain ⟨r, hr, he, _⟩ := sBin_deep (P := Tryd.prog) (cx := cx) (cy := cy) (cs := encE x) (ds := encE y) S.tdq_api_Edit S.taq_api_Edit S.tgq_api_Edit (by kernel_rfl) (by kernel_rfl)
  rw [he, bool_dec' (hr.trans encE_inj)]
theorem sBin_edne {w : World} {K : K1} {cx cy : Bool} (x y : Ed) : sBin Tryd.prog .neq S.T.api_Edit cx cy (.agg (encE x).toArray) (.agg (encE y).toArray) w K = K (.bool (!decide (x = y))) w := by
  obtain ⟨r, hr, _, he⟩ := sBin_deep (P := Tryd.prog) (cx := cx) (cy := cy) (cs := encE x) (ds := encE y) S.tdq_api_Edit S.taq_api_Edit S.tgq_api_Edit (by kernel_rfl) (by kernel_rfl)
  rw [he, bool_dec' (hr.trans encE_inj)]
end Go.Proofs.YthpngnngoamlpaaDoor

/- Edits: as values, compared. No conditions. -/
import Derived.Test.YtpjmmhbdondknaaDoorE5
namespace Go.Proofs.YtpjmmhbdondknaaDoor
open Go Go.Lift Go.RowKit Go.Txt

abbrev Ed := Int × Int × List UInt8
def encE (x : Ed) : List Value := [.int .i64 x.1, .int .i64 x.2.1, tv x.2.2]
theorem encE_one (x : Ed) : ∀ u ∈ encE x, u.oneCell' = true := fun u hu => by simp [encE] at hu; rcases hu with rfl | rfl | rfl <;> rfl
theorem encE_ok : Enc encE 3 := ⟨fun _ => rfl, fun x u hu => encE_one x u hu⟩
theorem encE_inj {x y : Ed} : encE x = encE y ↔ x = y := by
  obtain ⟨a, b, c⟩ := x
  obtain ⟨a', b', c'⟩ := y
  constructor
  · intro h
    unfold encE at h
    simp only [List.cons.injEq, Value.int.injEq, true_and, and_true] at h
    obtain ⟨rfl, rfl, h⟩ := h
    rw [tv_inj h]
  · rintro h; rw [h]
theorem bool_dec' {r : Bool} {p : Prop} [Decidable p] (h : r = true ↔ p) : r = decide p := by
  by_cases hp : p
  · rw [h.2 hp]; simp [hp]
  · have : r = false := by
      cases r
      · rfl
      · exact absurd (h.1 rfl) hp
    rw [this]; simp [hp]
theorem sLen_any {α : Type} {P : Program} {T : TypeId} {w w0 : World} {K : K1} {v : Value} {k : Nat} {enc : α → List Value} {xs : List α} {e ty : Nat} (hel : elQ P T = some e) (h : Sl w0 v k enc xs) : sBuiltin P .len [T] ty [v] w K = K (.int .i64 xs.length) w := by
  obtain ⟨a, cap, rfl, h1, h2, h3⟩ := h
  have := sLen_sl (w := w) (K := K) (ty := ty) (v := .slice a xs.length cap) (xs := List.replicate xs.length ()) (k := 0) (enc := fun _ => []) hel ⟨a, cap, by simp, by simpa using h1, h2, fun i x hx => by
    obtain ⟨y, hy⟩ : ∃ y, xs[i]? = some y := by
      have := (List.getElem?_eq_some_iff.1 hx).1
      rw [List.length_replicate] at this
      exact ⟨_, List.getElem?_eq_getElem this⟩
    obtain ⟨b, o, hb, _⟩ := h3 i y hy
    exact ⟨b, o, hb, fun j u hu => by simp at hu⟩⟩
  rwa [List.length_replicate] at this
theorem sBin_ed {w : World} {K : K1} {cx cy : Bool} (x y : Ed) : sBin Tryd.prog .eql S.T.api_Edit cx cy (.agg (encE x).toArray) (.agg (encE y).toArray) w K = K (.bool (decide (x = y))) w := by
  obtain ⟨r, hr, he, _⟩ := sBin_deep (P := Tryd.prog) (cx := cx) (cy := cy) (cs := encE x) (ds := encE y) S.tdq_api_Edit S.taq_api_Edit S.tgq_api_Edit (by kernel_rfl) (by kernel_rfl)
  rw [he, bool_dec' (hr.trans encE_inj)]
theorem sBin_edne {w : World} {K : K1} {cx cy : Bool} (x y : Ed) : sBin Tryd.prog .neq S.T.api_Edit cx cy (.agg (encE x).toArray) (.agg (encE y).toArray) w K = K (.bool (!decide (x = y))) w := by
  obtain ⟨r, hr, _, he⟩ := sBin_deep (P := Tryd.prog) (cx := cx) (cy := cy) (cs := encE x) (ds := encE y) S.tdq_api_Edit S.taq_api_Edit S.tgq_api_Edit (by kernel_rfl) (by kernel_rfl)
  rw [he, bool_dec' (hr.trans encE_inj)]
theorem editsEq_spec {w : World} {a b : Value} {xs ys : List Ed} (ha : Sl w a 3 encE xs) (hb : Sl w b 3 encE ys) : sCall Tryd.prog S.bodkinplain_Edits.n [a, b] w fun u w' => Ext w w' ∧ ∃ r, u = .bool r ∧ (r = true ↔ xs = ys) := by
  refine S.bodkinplain_Edits.call ?_
  unfold S.bodkinplain_Edits
  rw [sLen_sl S.tel_L_api_Edit ha]
  have hla := ha.len_le
  refine LoopS.intro (fun us w1 => Ext w w1 ∧ ∃ i : Nat, us = [.int .i64 i] ∧ i ≤ xs.length ∧ i ≤ ys.length ∧ xs.take i = ys.take i)
    (fun us _ => match us with | [.int _ a] => (xs.length - a).toNat | _ => 0) ⟨Ext.refl w, 0, rfl, Nat.zero_le _, Nat.zero_le _, rfl⟩ ?_
  rintro us vs w1 ⟨he, i, rfl, hi, hj, hp⟩
  unfold S.bodkinplain_Edits_L1
  rw [Go.Lift.hd, sBin_lss, sIf_dec]
  refine ⟨fun hlt => ?_, fun hge => ?_⟩
  · refine DrawS.ext ?_
    have E : Ext w1 w1.drew := (Ext.refl w1).drew
    have ha1 := ha.ext he
    have hb1 := hb.ext he
    rw [stillS_eq (fun w1 h1 K => sLen_sl S.tel_L_api_Edit (hb1.ext h1)) E, stillS_eq (fun w1 h1 K => sBin_geq _ _) E, sIf_dec]
    refine ⟨fun hge => ⟨he.trans E, false, rfl, ?_⟩, fun hlt2 => ?_⟩
    · simp only [Bool.false_eq_true, false_iff]
      rintro rfl
      omega
    obtain ⟨x, hx⟩ : ∃ x, xs[i]? = some x := ⟨_, List.getElem?_eq_getElem (by omega)⟩
    obtain ⟨y, hy⟩ : ∃ y, ys[i]? = some y := ⟨_, List.getElem?_eq_getElem (by omega)⟩
    obtain ⟨b1, o1, hel1, hc1⟩ := ha1.el hx
    obtain ⟨b2, o2, hel2, hc2⟩ := hb1.el hy
    rw [stillS_eq (fun w1 h1 K => sIdxA_sl S.tel_L_api_Edit S.tsz_api_Edit (by omega) (ha1.ext h1) hx rfl) E, hel1, stillS_agg S.tagg_api_Edit hc1 rfl E,
      stillS_eq (fun w1 h1 K => sIdxA_sl S.tel_L_api_Edit S.tsz_api_Edit (by omega) (hb1.ext h1) hy rfl) E, hel2, stillS_agg S.tagg_api_Edit hc2 rfl E, stillS_eq (fun w1 h1 K => sBin_edne x y) E, sIf_not]
    refine ⟨fun h => ⟨he.trans E, false, rfl, ?_⟩, fun h => ?_⟩
    · simp only [Bool.false_eq_true, false_iff]
      rintro rfl
      rw [hx] at hy; cases hy
      exact h rfl
    · subst h
      rw [sBin_add _ _ ⟨by omega, by omega⟩]
      refine ⟨⟨he.trans E, i + 1, by simp, by omega, by omega, ?_⟩, by simp only []; omega⟩
      rw [List.take_add_one, List.take_add_one, hp, hx, hy]
  · rw [sLen_sl S.tel_L_api_Edit (ha.ext he), sLen_sl S.tel_L_api_Edit (hb.ext he), sBin_eql]
    refine ⟨he, _, rfl, ?_⟩
    rw [decide_eq_true_eq]
    have hix : i = xs.length := by omega
    subst hix
    rw [List.take_length] at hp
    constructor
    · intro h; rw [hp, List.take_of_length_le (by omega)]
    · rintro rfl; rfl
end Go.Proofs.YtpjmmhbdondknaaDoor

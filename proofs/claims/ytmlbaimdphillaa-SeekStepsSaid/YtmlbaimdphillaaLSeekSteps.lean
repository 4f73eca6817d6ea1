/- 'SeekSteps': for every input the law returns true; each argument reads as it did. Conditions: those of the given row. -/
import Derived.Test.YtmlbaimdphillaaBs
import Derived.Test.YtmlbaimdphillaaRow
namespace Go.Proofs.Ytmlbaimdphillaa.lawSeekSteps
open Go Go.Lift Go.RowKit Go.ChangeShapes Go.WideShapes Go.ChangeAt
set_option maxRecDepth 100000 in
theorem contract (H : Type) (enc : TypeId × Value → H) (W : World) (base : Nat) (args : Array Value) (ds gs : List (DataW H)) (before : List MemPlace)
    (hval : ∀ (j : Nat) t v, Try.f9.params[j]? = some t → args[j]? = some v → Value.okWide Try.prog W .any base t v)
    (hW : DataW.Whole enc Try.prog Try.f9.params.toList Rows.seekStepsSpec.vars false W args.toList ds gs before) :
    Calls Try.prog 9 args W fun e W' => ∃ v, e = .returned v ∧ Rows.seekStepsSpec.post enc Try.prog Try.f9 false true false false W args v W' := by
  have hW' := hW
  obtain ⟨p, q, hA0, hV, rfl, hfz, hnd⟩ := hW
  have hA : DataW.TrodAll enc Try.prog W 0 (fun _ => true) true Try.f9.params.toList args.toList ds p := hA0
  rw [Try.params9] at hA hval
  obtain ⟨v0, vs0, d0, ds0, p0, q0, hargs, rfl, rfl, h0, r0⟩ := trodAll_cons hA
  obtain ⟨v1, vs1, d1, ds1, p1, q1, rfl, rfl, rfl, h1, r1⟩ := trodAll_cons r0
  obtain ⟨rfl, rfl, rfl⟩ := trodAll_nil r1
  obtain rfl : args = #[v0, v1] := by cases args; simp_all
  obtain ⟨xs0, hl0, _⟩ := open_sl (k := 7) (encA := encT) S.tel_L_item_Item S.tsz_item_Item (by decide) (hval 0 22 v0 rfl rfl) (fun fuel cs x h _ => Base.rd_It fuel cs x h) h0
  obtain ⟨ps, hps, _⟩ := open_sl (k := 4) (encA := encSk) S.tel_L_bodkinlaw06_Step S.tsz_bodkinlaw06_Step (by decide) (hval 1 78 v1 rfl rfl) (fun fuel cs x h _ => Base.rd_Sk fuel cs x h) h1
  refine calls_code (sc := S.bodkinlaw06_SeekSteps.sc) (args := [_, _]) S.mixed Try.func9 rfl rfl S.bodkinlaw06_SeekSteps.ok S.bodkinlaw06_SeekSteps.eq (seekSteps_spec hl0 hps) ?_
  rintro v W' ⟨he, rfl⟩
  exact ⟨_, rfl, post_true Base.laidOut rfl Try.underlying4 (by kernel_rfl) rfl rfl hW' he⟩
set_option maxRecDepth 100000 in
theorem lifted (os : Os) (started : os.Started) (H : Type) (enc : TypeId × Value → H) :
    ReturnsInHanded {} Try.checked os 9 .any (Rows.seekStepsSpec.pre6 enc Try.prog Try.f9 Rows.seekStepsRow.domain false) (Rows.seekStepsSpec.post enc Try.prog Try.f9 false true false false) := by
  refine returnsInHanded_of_change (C := Try.checked) (s := Rows.seekStepsSpec) Base.own started (by kernel_rfl) Try.func9
    (ChangeSpec.witness6 (enc := enc) (C := Try.checked) (s := Rows.seekStepsSpec) false ⟨#[], #[Value.slice none 0 0, Value.slice none 0 0], []⟩ 8 (by kernel_rfl) (by kernel_rfl) (by kernel_rfl) (by kernel_rfl)) ?_
  intro W base args ds gs before hval hW _ _
  exact contract H enc W base args ds gs before hval hW
theorem said : Rows.SeekStepsSaid :=
  OpenClaim.holds_of_wide 9 Try.f9 rfl rfl rfl rfl rfl rfl rfl ⟨rfl, rfl, rfl, rfl, rfl⟩ rfl rfl rfl rfl rfl (by kernel_rfl) Try.func9 (by kernel_rfl)
    (of_decide_eq_true (by kernel_rfl)) (by unfold Func.isWrapper; first | (rw [if_pos (by decide +kernel)]; kernel_rfl) | (rw [if_neg (by decide +kernel)]; exact ⟨rfl, rfl⟩))
    (fun os started H enc _ => lifted os started H enc)
#print axioms said
end Go.Proofs.Ytmlbaimdphillaa.lawSeekSteps

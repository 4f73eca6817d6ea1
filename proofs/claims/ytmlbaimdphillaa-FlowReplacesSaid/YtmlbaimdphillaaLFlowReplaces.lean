/- 'FlowReplaces': for every input the law returns true; each argument reads as it did. Conditions: those of the given row. -/
import Derived.Test.YtmlbaimdphillaaBf
import Derived.Test.YtmlbaimdphillaaRow
namespace Go.Proofs.Ytmlbaimdphillaa.lawFlowReplaces
open Go Go.Lift Go.RowKit Go.ChangeShapes Go.WideShapes Go.ChangeAt
set_option maxRecDepth 100000 in
theorem contract (H : Type) (enc : TypeId × Value → H) (W : World) (base : Nat) (args : Array Value) (ds gs : List (DataW H)) (before : List MemPlace)
    (hval : ∀ (j : Nat) t v, Try.f15.params[j]? = some t → args[j]? = some v → Value.okWide Try.prog W .any base t v)
    (hW : DataW.Whole enc Try.prog Try.f15.params.toList Rows.flowReplacesSpec.vars false W args.toList ds gs before) :
    Calls Try.prog 15 args W fun e W' => ∃ v, e = .returned v ∧ Rows.flowReplacesSpec.post enc Try.prog Try.f15 false true false false W args v W' := by
  have hW' := hW
  obtain ⟨p, q, hA0, hV, rfl, hfz, hnd⟩ := hW
  have hA : DataW.TrodAll enc Try.prog W 0 (fun _ => true) true Try.f15.params.toList args.toList ds p := hA0
  rw [Try.params15] at hA hval
  obtain ⟨v0, vs0, d0, ds0, p0, q0, hargs, rfl, rfl, h0, r0⟩ := trodAll_cons hA
  obtain ⟨v1, vs1, d1, ds1, p1, q1, rfl, rfl, rfl, h1, r1⟩ := trodAll_cons r0
  obtain ⟨rfl, rfl, rfl⟩ := trodAll_nil r1
  obtain rfl : args = #[v0, v1] := by cases args; simp_all
  obtain ⟨xs0, hl0, _⟩ := open_sl (k := 4) (encA := encL) S.tel_L_flow_Line S.tsz_flow_Line (by decide) (hval 0 55 v0 rfl rfl) (fun fuel cs x h _ => Base.rd_Ln fuel cs x h) h0
  obtain ⟨pvs, hps, hpo⟩ := open_sl (k := 3) (encA := encSt) S.tel_L_bodkinlaw22_Step S.tsz_bodkinlaw22_Step (by decide) (hval 1 99 v1 rfl rfl) (fun fuel cs x h _ => Base.rd_Fs fuel cs x h) h1
  refine calls_code (sc := S.bodkinlaw22_FlowReplaces.sc) (args := [_, _]) S.mixed Try.func15 rfl rfl S.bodkinlaw22_FlowReplaces.ok S.bodkinlaw22_FlowReplaces.eq (flowReplaces_spec hl0 ⟨hps, hpo⟩) ?_
  rintro v W' ⟨he, rfl⟩
  exact ⟨_, rfl, post_true Base.laidOut rfl Try.underlying4 (by kernel_rfl) rfl rfl hW' he⟩
set_option maxRecDepth 100000 in
theorem lifted (os : Os) (started : os.Started) (H : Type) (enc : TypeId × Value → H) :
    ReturnsInHanded {} Try.checked os 15 .any (Rows.flowReplacesSpec.pre6 enc Try.prog Try.f15 Rows.flowReplacesRow.domain false) (Rows.flowReplacesSpec.post enc Try.prog Try.f15 false true false false) := by
  refine returnsInHanded_of_change (C := Try.checked) (s := Rows.flowReplacesSpec) Base.own started (by kernel_rfl) Try.func15
    (ChangeSpec.witness6 (enc := enc) (C := Try.checked) (s := Rows.flowReplacesSpec) false ⟨#[], #[Value.slice none 0 0, Value.slice none 0 0], []⟩ 8 (by kernel_rfl) (by kernel_rfl) (by kernel_rfl) (by kernel_rfl)) ?_
  intro W base args ds gs before hval hW _ _
  exact contract H enc W base args ds gs before hval hW
theorem said : Rows.FlowReplacesSaid :=
  OpenClaim.holds_of_wide 15 Try.f15 rfl rfl rfl rfl rfl rfl rfl ⟨rfl, rfl, rfl, rfl, rfl⟩ rfl rfl rfl rfl rfl (by kernel_rfl) Try.func15 (by kernel_rfl)
    (of_decide_eq_true (by kernel_rfl)) (by unfold Func.isWrapper; first | (rw [if_pos (by decide +kernel)]; kernel_rfl) | (rw [if_neg (by decide +kernel)]; exact ⟨rfl, rfl⟩))
    (fun os started H enc _ => lifted os started H enc)
#print axioms said
end Go.Proofs.Ytmlbaimdphillaa.lawFlowReplaces

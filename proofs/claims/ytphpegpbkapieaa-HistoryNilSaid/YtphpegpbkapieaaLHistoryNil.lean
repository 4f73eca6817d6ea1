/- 'HistoryNil': for every input the law returns true; each argument reads as it did. Conditions: those of the given row. -/
import Derived.Test.YtphpegpbkapieaaBa
import Derived.Test.YtphpegpbkapieaaW5
import Derived.Test.YtphpegpbkapieaaRow
namespace Go.Proofs.Ytphpegpbkapieaa.lawHistoryNil
open Go Go.Lift Go.RowKit Go.ChangeShapes Go.WideShapes Go.ChangeAt
theorem contract (H : Type) (enc : TypeId × Value → H) (W : World) (base : Nat) (args : Array Value) (ds gs : List (DataW H)) (before : List MemPlace)
    (hval : ∀ (j : Nat) t v, Try.f5.params[j]? = some t → args[j]? = some v → Value.okWide Try.prog W .any base t v)
    (hW : DataW.Whole enc Try.prog Try.f5.params.toList Rows.historyNilSpec.vars false W args.toList ds gs before) :
    Calls Try.prog 5 args W fun e W' => ∃ v, e = .returned v ∧ Rows.historyNilSpec.post enc Try.prog Try.f5 false true false false W args v W' := by
  have hW' := hW
  obtain ⟨p, q, hA0, hV, rfl, hfz, hnd⟩ := hW
  have hA : DataW.TrodAll enc Try.prog W 0 (fun _ => true) true Try.f5.params.toList args.toList ds p := hA0
  rw [Try.params5] at hA hval
  obtain ⟨v0, vs0, d0, ds0, p0, q0, hargs, rfl, rfl, h0, r0⟩ := trodAll_cons hA
  obtain ⟨rfl, rfl, rfl⟩ := trodAll_nil r0
  obtain rfl : args = #[v0] := by cases args; simp_all
  obtain ⟨cs0, rfl, o, rfl, ⟨bs, hbs⟩, _⟩ := open_struct (by kernel_rfl) (hval 0 32 v0 rfl rfl) Base.rd_Op h0
  refine calls_code (sc := S.bodkinlaw12_HistoryNil.sc) (args := [_]) S.mixed Try.func5 rfl rfl S.bodkinlaw12_HistoryNil.ok S.bodkinlaw12_HistoryNil.eq (historyNil_spec o hbs) ?_
  rintro v W' ⟨he, rfl⟩
  exact ⟨_, rfl, post_true Base.laidOut rfl Try.underlying4 (by kernel_rfl) rfl rfl hW' he⟩
set_option maxRecDepth 100000 in
theorem lifted (os : Os) (started : os.Started) (H : Type) (enc : TypeId × Value → H) :
    ReturnsInHanded {} Try.checked os 5 .any (Rows.historyNilSpec.pre6 enc Try.prog Try.f5 Rows.historyNilRow.domain false) (Rows.historyNilSpec.post enc Try.prog Try.f5 false true false false) := by
  refine returnsInHanded_of_change (C := Try.checked) (s := Rows.historyNilSpec) Base.own started (by kernel_rfl) Try.func5
    (ChangeSpec.witness6 (enc := enc) (C := Try.checked) (s := Rows.historyNilSpec) false ⟨#[], #[Value.agg #[.int .i64 0, .slice none 0 0, .slice none 0 0]], []⟩ 8 (by kernel_rfl) (by kernel_rfl) (by kernel_rfl) (by kernel_rfl)) ?_
  intro W base args ds gs before hval hW _ _
  exact contract H enc W base args ds gs before hval hW
theorem said : Rows.HistoryNilSaid :=
  OpenClaim.holds_of_wide 5 Try.f5 rfl rfl rfl rfl rfl rfl rfl ⟨rfl, rfl, rfl, rfl, rfl⟩ rfl rfl rfl rfl rfl (by kernel_rfl) Try.func5 (by kernel_rfl)
    (of_decide_eq_true (by kernel_rfl)) (by unfold Func.isWrapper; first | (rw [if_pos (by decide +kernel)]; kernel_rfl) | (rw [if_neg (by decide +kernel)]; exact ⟨rfl, rfl⟩))
    (fun os started H enc _ => lifted os started H enc)
#print axioms said
end Go.Proofs.Ytphpegpbkapieaa.lawHistoryNil

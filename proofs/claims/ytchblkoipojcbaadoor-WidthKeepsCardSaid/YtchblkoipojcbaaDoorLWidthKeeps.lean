/- 'WidthKeeps': for every input the law returns true; each argument reads as it did. Conditions: those of the given row. -/
import Derived.Test.YtchblkoipojcbaaDoorW4
import Derived.Test.YtchblkoipojcbaaDoorW7
import Derived.Test.YtchblkoipojcbaaDoorRow
import Derived.Test.YtchblkoipojcbaaDoorCards
import Derived.Test.YtchblkoipojcbaaDoorTie
namespace Go.Proofs.YtchblkoipojcbaaDoor.lawWidthKeeps
open Go Go.Lift Go.RowKit Go.ChangeShapes Go.WideShapes Go.ChangeAt
theorem contract (H : Type) (enc : TypeId × Value → H) (W : World) (base : Nat) (args : Array Value) (ds gs : List (DataW H)) (before : List MemPlace)
    (hval : ∀ (j : Nat) t v, Tryd.f7.params[j]? = some t → args[j]? = some v → Value.okWide Tryd.prog W .any base t v)
    (hW : DataW.Whole enc Tryd.prog Tryd.f7.params.toList Rows.widthKeepsSpec.vars false W args.toList ds gs before) (hL : laidMetH Tryd.prog Rows.widthKeepsRow.laid W) :
    Calls Tryd.prog 7 args W fun e W' => ∃ v, e = .returned v ∧ Rows.widthKeepsSpec.post enc Tryd.prog Tryd.f7 false true false false W args v W' := by
  have hW' := hW
  obtain ⟨p, q, hA0, hV, rfl, hfz, hnd⟩ := hW
  have hA : DataW.TrodAll enc Tryd.prog W 0 (fun _ => true) true Tryd.f7.params.toList args.toList ds p := hA0
  rw [Tryd.params7] at hA hval
  obtain ⟨v0, vs0, d0, ds0, p0, q0, hargs, rfl, rfl, h0, r0⟩ := trodAll_cons hA
  obtain ⟨v1, vs1, d1, ds1, p1, q1, rfl, rfl, rfl, h1, r1⟩ := trodAll_cons r0
  obtain ⟨v2, vs2, d2, ds2, p2, q2, rfl, rfl, rfl, h2, r2⟩ := trodAll_cons r1
  obtain ⟨rfl, rfl, rfl⟩ := trodAll_nil r2
  obtain rfl : args = #[v0, v1, v2] := by cases args; simp_all
  obtain ⟨zs, hzs, zsw⟩ := open_sl (k := 2) (encA := encR) S.tel_L_width_Range S.tsz_width_Range (by decide) (hval 0 33 v0 rfl rfl) Base.el_range h0
  obtain ⟨ws, hws, wsw⟩ := open_sl (k := 2) (encA := encR) S.tel_L_width_Range S.tsz_width_Range (by decide) (hval 1 33 v1 rfl rfl) Base.el_range h1
  obtain ⟨x2, rfl, rfl, rfl, _⟩ := open_int Tryd.underlying21 (hval 2 21 v2 rfl rfl) h2
  refine calls_code (sc := S.bodkinlaw02_WidthKeeps.sc) (args := [_, _, _]) S.mixed Tryd.func7 rfl rfl S.bodkinlaw02_WidthKeeps.ok S.bodkinlaw02_WidthKeeps.eq (widthKeeps_spec (Base.glob hL) hzs hws x2) ?_
  rintro v W' ⟨he, rfl⟩
  exact ⟨_, rfl, post_true Base.laidOut rfl Tryd.underlying4 (by kernel_rfl) rfl rfl hW' he⟩
theorem laid_met (os : Os) : laidMet Tryd.prog Rows.widthKeepsRow.laid ((Base.laidWorld os).forCall (fun _ _ => 0) ⟨#[], #[Value.slice none 0 0, Value.slice none 0 0, Value.int .i32 0], []⟩).memory :=
  laidMet_of_run' 8 (by kernel_rfl) (by kernel_rfl)
theorem reads (os : Os) {H : Type} (enc : TypeId × Value → H) : ∃ places, DataW.whole enc Tryd.prog ((Base.laidWorld os).forCall (fun _ _ => 0) ⟨#[], #[Value.slice none 0 0, Value.slice none 0 0, Value.int .i32 0], []⟩).memory Tryd.f7.params.toList Rows.widthKeepsSpec.vars false #[Value.slice none 0 0, Value.slice none 0 0, Value.int .i32 0].toList 8 = some ([.nil, .nil, .lit (.int .i32 0)], [], places) :=
  ⟨[], by kernel_rfl⟩
set_option maxRecDepth 100000 in
theorem lifted (os : Os) (started : os.Started) (H : Type) (enc : TypeId × Value → H) (F : Stop.Interp) :
    ReturnsInHanded {} Tryd.checked os 7 .any ((OpenSpec.ofChange Rows.widthKeepsSpec).preRow enc Tryd.prog Tryd.f7 Rows.widthKeepsRow.domain false Rows.widthKeepsRow.laid) (((OpenSpec.ofChange Rows.widthKeepsSpec).at F).post enc Tryd.prog Tryd.f7 false true false false) := by
  obtain ⟨places, hx⟩ := reads os enc
  refine returnsInHanded_of_row (C := Tryd.checked) (s := OpenSpec.ofChange Rows.widthKeepsSpec) Base.own started (by kernel_rfl) Tryd.func7
    (witness_row_at (enc := enc) (C := Tryd.checked) false (Base.laidWorld os) #[Value.slice none 0 0, Value.slice none 0 0, Value.int .i32 0] rfl (by kernel_rfl) (by kernel_rfl) (by kernel_rfl)
      (OpenSpec.preRow_of_cond 8 hx (by kernel_rfl) (fun k hk => by cases hk) (by kernel_rfl) (laid_met os))) ?_
  intro W base args ds gs before hval hW _ _ _ hL _ _
  exact contract H enc W base args ds gs before hval hW hL
theorem said : Rows.WidthKeepsSaid :=
  OpenClaim.holds_of_cond 7 Tryd.f7 rfl rfl rfl rfl rfl rfl rfl ⟨rfl, rfl, rfl, rfl, rfl⟩ rfl rfl rfl rfl rfl (by kernel_rfl) Tryd.func7 (by kernel_rfl)
    (of_decide_eq_true (by kernel_rfl)) (by unfold Func.isWrapper; first | (rw [if_pos (by decide +kernel)]; kernel_rfl) | (rw [if_neg (by decide +kernel)]; exact ⟨rfl, rfl⟩))
    (fun os started H enc _ F => by rw [OpenClaim.pre_eq_preRow]; exact lifted os started H enc F)
theorem plain (f : FuncId) (fn : Func) (hf : Tryd.pinned.checked.prog.funcNamed "bodkin/bodkinlaw02.WidthKeeps" = some f) (hfn : Tryd.pinned.checked.prog.funcs[f]? = some fn) :
    false = Tryd.pinned.checked.prog.looks [] ∧ ∀ (j : Nat) t, fn.params[j]? = some t → Tryd.pinned.checked.prog.wantsStandIn t = false := by
  obtain rfl : f = 7 := Option.some.inj ((show Tryd.prog.funcNamed "bodkin/bodkinlaw02.WidthKeeps" = some 7 by kernel_rfl).symm.trans hf) |>.symm
  obtain rfl : fn = Tryd.f7 := (Option.some.inj (Tryd.func7.symm.trans hfn)).symm
  refine ⟨by kernel_rfl, fun j t ht => ?_⟩
  have hall : Tryd.f7.params.toList.all (fun t => !Tryd.prog.wantsStandIn t) = true := by kernel_rfl
  have hm : t ∈ Tryd.f7.params.toList := by simpa using Array.mem_of_getElem? ht
  show Tryd.prog.wantsStandIn t = false
  simpa using List.all_eq_true.1 hall t hm
theorem card : Rows.WidthKeepsCardSaid :=
  Claim7.holds_tied_plain_at .later [] _ _ _ _ said (fun _ h => by cases h) (by kernel_rfl) (fun _ h => by cases h) widthKeeps_row_tie rfl ⟨rfl, rfl⟩ (by kernel_rfl) rfl plain (by kernel_rfl)
#print axioms card
end Go.Proofs.YtchblkoipojcbaaDoor.lawWidthKeeps

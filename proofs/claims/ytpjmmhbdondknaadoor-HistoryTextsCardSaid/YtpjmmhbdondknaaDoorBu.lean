/- What the rows of rope seats share: the table of sizes in memory, how steps are read, a world for a witness. Conditions: those of the rows. -/
import Derived.Test.YtpjmmhbdondknaaDoorQ1
import Derived.Test.YtpjmmhbdondknaaDoorRd
namespace Go.Lift
open Go Go.RowKit Go.ChangeShapes Go.WideShapes Go.ChangeAt
theorem laid_ints {P : Program} {W : World} {name : String} {zs : List Int} {kk : IntKind} {rest : List (String × DataW Unit)} {g t e n : Nat} {ps : List MemPlace} (hg : P.globalNamed name = some g) (hty : (P.globals[g]?).map (·.type) = some t) (ht : P.underlying t = some (.array n e))
    (hct : P.cellsOf t = n) (hu : P.underlying e = some (.int kk)) (ce : P.cellsOf e = 1)
    (h : DataW.LaidVars P W ((name, .agg (zs.map fun z => .lit (.int kk z))) :: rest) ps) :
    Cells W g 0 (zs.map fun z => Value.int kk z) ∧ ∃ qs, DataW.LaidVars P W rest qs := by
  obtain ⟨g', t', cs, fuel, p, q, hg', ht', hvar, hd, hr, _⟩ := h
  obtain rfl := Option.some.inj (hg.symm.trans hg')
  obtain rfl := Option.some.inj (hty.symm.trans ht')
  refine ⟨?_, q, hr⟩
  obtain ⟨xs, m, _, hx, hl, hxl, hf⟩ := DataW.trod_array ht hd
  have hxs : xs.map (·.1) = zs.map fun z => (DataW.lit (.int kk z) : DataW Unit) := by
    have := congrArg Prod.fst hx
    simpa using this.symm
  have hzl : zs.length = n := by
    have := congrArg List.length hxs
    simp at this
    omega
  have hcs : cs.toList = zs.map fun z => Value.int kk z := by
    refine List.ext_getElem? fun i => ?_
    rcases Nat.lt_or_ge i n with hi | hi
    · have hfi := hf i hi
      rw [ce] at hfi
      have hxi : xs[i]? = some xs[i] := List.getElem?_eq_getElem (by omega)
      rw [hxi] at hfi
      obtain ⟨y, hy, hd', _⟩ := DataW.trod_int hu hfi
      obtain ⟨z, hz⟩ : ∃ z, zs[i]? = some z := ⟨_, List.getElem?_eq_getElem (by omega)⟩
      have h2 : (xs.map (·.1))[i]? = some (xs[i]).1 := by simp [hxi]
      rw [hxs, List.getElem?_map, hz] at h2
      simp only [Option.map_some, Option.some.injEq] at h2
      rw [hd'] at h2
      simp only [DataW.lit.injEq, Lit.int.injEq, true_and] at h2
      rw [List.getElem?_map, hz, h2]
      have hyl := congrArg (fun (l : List Value) => l[0]?) hy
      simp only [List.getElem?_take, List.getElem?_drop, List.getElem?_cons_zero] at hyl
      simpa using hyl
    · rw [List.getElem?_eq_none (by rw [hl, hct]; exact hi), List.getElem?_eq_none (by rw [List.length_map]; omega)]
  intro i v hi
  have := World.var?_cell hg hvar i
  rw [Nat.zero_add, this, ← Array.getElem?_toList, hcs]
  exact hi
end Go.Lift
namespace Go.Proofs.YtpjmmhbdondknaaDoor
namespace Base
open Go Go.Lift Go.RowKit Go.ChangeShapes Go.WideShapes Go.ChangeAt
theorem own : ownKnob Tryd.prog.godebug = none := by kernel_rfl
theorem laidOut : laidOutB Tryd.prog = true := by kernel_rfl
theorem gMost : Tryd.prog.globalNamed "bodkin/utf.most" = some 0 := by kernel_rfl
theorem gMostT : (Tryd.prog.globals[0]?).map (·.type) = some S.T.A4_int32 := by kernel_rfl
theorem most_of {W : World} {rest : List (String × DataW Unit)} {ps : List MemPlace} (h : DataW.LaidVars Tryd.prog W (("bodkin/utf.most", Rows.laid_bodkin_utf_most) :: rest) ps) : Mo W ∧ ∃ qs, DataW.LaidVars Tryd.prog W rest qs :=
  laid_ints (zs := [127, 2047, 65535, 1114111]) (kk := .i32) (t := S.T.A4_int32) (e := S.T.int32) (n := 4) gMost gMostT (by kernel_rfl) (by kernel_rfl) (by kernel_rfl) (by kernel_rfl) h
/-- WHAT A ROW's LIST GIVES. -/
theorem globM {W : World} (h : laidMetH Tryd.prog [("bodkin/utf.most", Rows.laid_bodkin_utf_most)] W) : Mo W := by
  obtain ⟨ps, hl, _⟩ := (h : laidMet Tryd.prog _ W)
  exact (most_of hl).1
/-- A WORLD FOR A WITNESS. -/
def holdsC (cs : List Value) : Obj → Obj
  | .cells _ t frozen => .cells cs.toArray t frozen
  | o => o
noncomputable def laidWorldM (os : Os) : World :=
  { World.holding Tryd.prog os ⟨#[], #[], []⟩ with heap := (World.holding Tryd.prog os ⟨#[], #[], []⟩).heap.modify 0 (holdsC [.int .i32 127, .int .i32 2047, .int .i32 65535, .int .i32 1114111]) }
end Base
end Go.Proofs.YtpjmmhbdondknaaDoor

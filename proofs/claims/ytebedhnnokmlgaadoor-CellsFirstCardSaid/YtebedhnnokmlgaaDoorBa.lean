/- What the seat's rows share: the two listed tables in memory, and a world for a witness. Conditions: those of the rows. -/
import Derived.Test.YtebedhnnokmlgaaDoorWd2
import Derived.Test.YtebedhnnokmlgaaDoorRd
namespace Go.Proofs.YtebedhnnokmlgaaDoor
namespace Base
open Go Go.Lift Go.RowKit Go.ChangeShapes Go.WideShapes Go.ChangeAt

theorem own : ownKnob Tryd.prog.godebug = none := by kernel_rfl
theorem gZero : Tryd.prog.globalNamed "bodkin/width.plainZero" = some 0 := by kernel_rfl
theorem gWide : Tryd.prog.globalNamed "bodkin/width.plainWide" = some 1 := by kernel_rfl
theorem gZeroT : (Tryd.prog.globals[0]?).map (·.type) = some 72 := by kernel_rfl
theorem gWideT : (Tryd.prog.globals[1]?).map (·.type) = some 73 := by kernel_rfl
theorem cells72 : Tryd.prog.cellsOf 72 = 3 * 2 := by kernel_rfl
theorem cells73 : Tryd.prog.cellsOf 73 = 8 * 2 := by kernel_rfl
theorem cells71 : Tryd.prog.cellsOf 71 = 2 := by kernel_rfl
theorem cells21 : Tryd.prog.cellsOf 21 = 1 := by kernel_rfl
theorem laidOut : laidOutB Tryd.prog = true := by kernel_rfl

/-- WHAT A ROW's LIST GIVES. -/
theorem glob {W : World} (h : laidMetH Tryd.prog [("bodkin/width.plainZero", Rows.laid_bodkin_width_plainZero), ("bodkin/width.plainWide", Rows.laid_bodkin_width_plainWide)] W) : Glob W := by
  obtain ⟨ps, hl, _⟩ := (h : laidMet Tryd.prog _ W)
  obtain ⟨h1, q, hr⟩ := laid_two (zs := zeroL) (kk := .i32) gZero gZeroT Tryd.underlying72 cells72 Tryd.underlying71 rfl rfl Tryd.underlying21 Tryd.underlying21 cells21 cells21 cells71 hl
  obtain ⟨h2, _⟩ := laid_two (zs := wideL) (kk := .i32) gWide gWideT Tryd.underlying73 cells73 Tryd.underlying71 rfl rfl Tryd.underlying21 Tryd.underlying21 cells21 cells21 cells71 hr
  exact ⟨h1, h2⟩

/-- A WORLD FOR A WITNESS. -/
def holdsC (cs : List Value) : Obj → Obj
  | .cells _ t frozen => .cells cs.toArray t frozen
  | o => o
noncomputable def laidWorld (os : Os) : World :=
  { World.holding Tryd.prog os ⟨#[], #[], []⟩ with heap := ((World.holding Tryd.prog os ⟨#[], #[], []⟩).heap.modify 0 (holdsC (zeroL.flatMap encR))).modify 1 (holdsC (wideL.flatMap encR)) }
/-- Ranges as elements. -/
theorem el_range {H : Type} {enc : TypeId × Value → H} {w : World} {sp : Nat → Bool} {hd : Bool} : ∀ fuel cs x, DataW.trod enc Tryd.prog w 0 sp hd fuel 71 cs = some x → cs.length = 2 → ∃ y : Rg, cs = encR y ∧ ((Lit.int .i32 y.1).wf = true ∧ (Lit.int .i32 y.2).wf = true) := by
  intro fuel cs x h _
  obtain ⟨a, b, rfl, _, wa, wb⟩ := read_two Tryd.underlying71 rfl rfl Tryd.underlying21 Tryd.underlying21 cells21 cells21 cells71 h
  exact ⟨(a, b), rfl, wa, wb⟩
end Base
end Go.Proofs.YtebedhnnokmlgaaDoor


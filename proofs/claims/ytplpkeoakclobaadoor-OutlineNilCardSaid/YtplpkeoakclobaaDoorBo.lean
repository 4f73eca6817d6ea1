/- The base of the outline laws' rows: the tables of sizes and of widths in memory. Conditions: those of the rows. -/
import Derived.Test.YtplpkeoakclobaaDoorBu
import Derived.Test.YtplpkeoakclobaaDoorK6
namespace Go.Proofs.YtplpkeoakclobaaDoor
namespace Base
open Go Go.Lift Go.RowKit Go.ChangeShapes Go.WideShapes Go.ChangeAt Go.Txt
theorem gZero : Tryd.prog.globalNamed "bodkin/width.plainZero" = some 0 := by kernel_rfl
theorem gWide : Tryd.prog.globalNamed "bodkin/width.plainWide" = some 1 := by kernel_rfl
theorem gZeroT : (Tryd.prog.globals[0]?).map (·.type) = some S.T.A3_width_Range := by kernel_rfl
theorem gWideT : (Tryd.prog.globals[1]?).map (·.type) = some S.T.A8_width_Range := by kernel_rfl
theorem zero_of {W : World} {rest : List (String × DataW Unit)} {ps : List MemPlace} (h : DataW.LaidVars Tryd.prog W (("bodkin/width.plainZero", Rows.laid_bodkin_width_plainZero) :: rest) ps) : Cells W 0 0 (St.zeroL.flatMap St.encR) ∧ ∃ qs, DataW.LaidVars Tryd.prog W rest qs :=
  laid_two (zs := St.zeroL) (kk := .i32) gZero gZeroT Tryd.underlying154 (by kernel_rfl) Tryd.underlying153 rfl rfl Tryd.underlying21 Tryd.underlying21 (by kernel_rfl) (by kernel_rfl) (by kernel_rfl) h
theorem wide_of {W : World} {rest : List (String × DataW Unit)} {ps : List MemPlace} (h : DataW.LaidVars Tryd.prog W (("bodkin/width.plainWide", Rows.laid_bodkin_width_plainWide) :: rest) ps) : Cells W 1 0 (St.wideL.flatMap St.encR) ∧ ∃ qs, DataW.LaidVars Tryd.prog W rest qs :=
  laid_two (zs := St.wideL) (kk := .i32) gWide gWideT Tryd.underlying155 (by kernel_rfl) Tryd.underlying153 rfl rfl Tryd.underlying21 Tryd.underlying21 (by kernel_rfl) (by kernel_rfl) (by kernel_rfl) h
/-- WHAT A ROW's LIST GIVES. -/
theorem globO {W : World} (h : laidMetH Tryd.prog [("bodkin/utf.most", Rows.laid_bodkin_utf_most), ("bodkin/width.plainZero", Rows.laid_bodkin_width_plainZero), ("bodkin/width.plainWide", Rows.laid_bodkin_width_plainWide)] W) : Mem W := by
  obtain ⟨ps, hl, _⟩ := (h : laidMet Tryd.prog _ W)
  obtain ⟨h1, _, hr⟩ := most_of hl
  obtain ⟨h2, _, hr2⟩ := zero_of hr
  exact ⟨h1, h2, (wide_of hr2).1⟩
/-- A WORLD FOR A WITNESS. -/
noncomputable def laidWorld (os : Os) : World :=
  { World.holding Tryd.prog os ⟨#[], #[], []⟩ with heap := (((World.holding Tryd.prog os ⟨#[], #[], []⟩).heap.modify 0 (holdsC (St.zeroL.flatMap St.encR))).modify 1 (holdsC (St.wideL.flatMap St.encR))).modify 2 (holdsC [.int .i32 127, .int .i32 2047, .int .i32 65535, .int .i32 1114111]) }
end Base
end Go.Proofs.YtplpkeoakclobaaDoor

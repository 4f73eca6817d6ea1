/-
  NARROWER THAN 'FOR EVERY INPUT', by the rows' own cells (each row's printed sentence says how): StopsSizes: laid · StopsEnd: laid · StopsNil: laid · StopsPlaces: laid · StopsThere: laid · CellsOf: laid · CellsPlain: laid · CellsWide: laid · CellsFirst: laid · CellsStops: laid.
  DERIVED. THE GIVEN ROWS OF THIS SEAT. 10 by the template 'for every input the law returns true; each argument reads behind the call as it read before'; 0 by the template 'total and deterministic' (their statements: YtebedhnnokmlgaaDoorTotals.lean).
  GIVEN WITH THE SEED: the statements are not yours to turn. If you find one false, say at which input.
  Laid BY PROGRAM, IN A SANDBOX (cutbox-rows.mjs): the forced cells as the released guide's own fill.sh prints them over the translation d05fa8a6a316669c… (all of the seat's roots in one cut). By AI agents, Wed Nov 11 2026. No macro, syntax, notation, axiom, sorry.
-/
import Derived.Test.YtebedhnnokmlgaaDoorChecked
import GoSem.Claim
import GoSem.ClaimJoined
import GoSem.ClaimMapViews
import Derived.JoinedTies
import Derived.KernelRfl
namespace Go.Proofs.YtebedhnnokmlgaaDoor
/- THE CELL 'sum', in the pinned program and in every row, IS THE sha256 OF THE DUMP (.gsa) THAT YtebedhnnokmlgaaDoorProg.lean LOADS. Nothing in Lean hashes anything: it is a label: what it is worth is what the hold of that sum in a sandbox is worth. -/
noncomputable def Tryd.pinned : Pinned := { name := "ytebedhnnokmlgaadoor", sum := "d05fa8a6a316669ce9f17499aa71ef1f6bbea9d6c8aabc491949f435a8a9da24", checked := Tryd.checked }
namespace Rows
def none {H : Type} : Left H := { results := [], args := [] }

/- WHAT THE LISTED PACKAGE-LEVEL VARIABLES READ AS WHEN THE CALL BEGINS. Each datum BY PROGRAM (the guide's laid-datum.mjs) off the statement by which the dump's own 'gosem.cut.vars' lays the variable. In a bare row this is a premise. The card (YtebedhnnokmlgaaDoorCards.lean) ties it to the program's text. -/
def laid_bodkin_width_plainZero {H : Type} : DataW H := .agg [.agg [.lit (.int .i32 768), .lit (.int .i32 879)], .agg [.lit (.int .i32 8203), .lit (.int .i32 8207)], .agg [.lit (.int .i32 65024), .lit (.int .i32 65039)]]
def laid_bodkin_width_plainWide {H : Type} : DataW H := .agg [.agg [.lit (.int .i32 4352), .lit (.int .i32 4447)], .agg [.lit (.int .i32 11904), .lit (.int .i32 12350)], .agg [.lit (.int .i32 12353), .lit (.int .i32 19903)], .agg [.lit (.int .i32 19968), .lit (.int .i32 40959)], .agg [.lit (.int .i32 44032), .lit (.int .i32 55203)], .agg [.lit (.int .i32 63744), .lit (.int .i32 64255)], .agg [.lit (.int .i32 65280), .lit (.int .i32 65376)], .agg [.lit (.int .i32 127744), .lit (.int .i32 128591)]]

/-- 'bodkinlaw17.StopsSizes': WHATEVER THE INPUT: true; the input reads as it did. -/
def stopsSizesSpec : ChangeSpec := { name := "stopsSizes", fn := fun _ => fun
  | [d1, d2] => { results := [.lit (.bool true)], args := [d1, d2] }
  | _ => none }
def stopsSizesRow : OpenClaim := { program := "ytebedhnnokmlgaadoor", sum := "d05fa8a6a316669ce9f17499aa71ef1f6bbea9d6c8aabc491949f435a8a9da24", func := "bodkin/bodkinlaw17.StopsSizes", spec := "stopsSizes", unfollowed := true, recurses := true, named := ["bodkin/width.plainZero", "bodkin/width.plainWide"], apart := false, laid := [("bodkin/width.plainZero", laid_bodkin_width_plainZero), ("bodkin/width.plainWide", laid_bodkin_width_plainWide)] }
def StopsSizesSaid : Prop := stopsSizesRow.holds Tryd.pinned (OpenSpec.ofChange stopsSizesSpec)

/-- ITS FALSE NEIGHBOUR: 'it returns false'. Refute it at one input. -/
def stopsSizesWrong : ChangeSpec := { name := "stopsSizes", fn := fun _ => fun
  | [d1, d2] => { results := [.lit (.bool false)], args := [d1, d2] }
  | _ => none }
def StopsSizesWrongFalsely : Prop := stopsSizesRow.holds Tryd.pinned (OpenSpec.ofChange stopsSizesWrong)

/-- 'bodkinlaw17.StopsEnd': WHATEVER THE INPUT: true; the input reads as it did. -/
def stopsEndSpec : ChangeSpec := { name := "stopsEnd", fn := fun _ => fun
  | [d1, d2] => { results := [.lit (.bool true)], args := [d1, d2] }
  | _ => none }
def stopsEndRow : OpenClaim := { program := "ytebedhnnokmlgaadoor", sum := "d05fa8a6a316669ce9f17499aa71ef1f6bbea9d6c8aabc491949f435a8a9da24", func := "bodkin/bodkinlaw17.StopsEnd", spec := "stopsEnd", unfollowed := true, recurses := true, named := ["bodkin/width.plainZero", "bodkin/width.plainWide"], apart := false, laid := [("bodkin/width.plainZero", laid_bodkin_width_plainZero), ("bodkin/width.plainWide", laid_bodkin_width_plainWide)] }
def StopsEndSaid : Prop := stopsEndRow.holds Tryd.pinned (OpenSpec.ofChange stopsEndSpec)

/-- ITS FALSE NEIGHBOUR: 'it returns false'. Refute it at one input. -/
def stopsEndWrong : ChangeSpec := { name := "stopsEnd", fn := fun _ => fun
  | [d1, d2] => { results := [.lit (.bool false)], args := [d1, d2] }
  | _ => none }
def StopsEndWrongFalsely : Prop := stopsEndRow.holds Tryd.pinned (OpenSpec.ofChange stopsEndWrong)

/-- 'bodkinlaw17.StopsNil': WHATEVER THE INPUT: true; the input reads as it did. -/
def stopsNilSpec : ChangeSpec := { name := "stopsNil", fn := fun _ => fun
  | [d] => { results := [.lit (.bool true)], args := [d] }
  | _ => none }
def stopsNilRow : OpenClaim := { program := "ytebedhnnokmlgaadoor", sum := "d05fa8a6a316669ce9f17499aa71ef1f6bbea9d6c8aabc491949f435a8a9da24", func := "bodkin/bodkinlaw17.StopsNil", spec := "stopsNil", unfollowed := true, recurses := true, named := ["bodkin/width.plainZero", "bodkin/width.plainWide"], apart := false, laid := [("bodkin/width.plainZero", laid_bodkin_width_plainZero), ("bodkin/width.plainWide", laid_bodkin_width_plainWide)] }
def StopsNilSaid : Prop := stopsNilRow.holds Tryd.pinned (OpenSpec.ofChange stopsNilSpec)

/-- ITS FALSE NEIGHBOUR: 'it returns false'. Refute it at one input. -/
def stopsNilWrong : ChangeSpec := { name := "stopsNil", fn := fun _ => fun
  | [d] => { results := [.lit (.bool false)], args := [d] }
  | _ => none }
def StopsNilWrongFalsely : Prop := stopsNilRow.holds Tryd.pinned (OpenSpec.ofChange stopsNilWrong)

/-- 'bodkinlaw17.StopsPlaces': WHATEVER THE INPUT: true; the input reads as it did. -/
def stopsPlacesSpec : ChangeSpec := { name := "stopsPlaces", fn := fun _ => fun
  | [d1, d2] => { results := [.lit (.bool true)], args := [d1, d2] }
  | _ => none }
def stopsPlacesRow : OpenClaim := { program := "ytebedhnnokmlgaadoor", sum := "d05fa8a6a316669ce9f17499aa71ef1f6bbea9d6c8aabc491949f435a8a9da24", func := "bodkin/bodkinlaw17.StopsPlaces", spec := "stopsPlaces", unfollowed := true, recurses := true, named := ["bodkin/width.plainZero", "bodkin/width.plainWide"], apart := false, laid := [("bodkin/width.plainZero", laid_bodkin_width_plainZero), ("bodkin/width.plainWide", laid_bodkin_width_plainWide)] }
def StopsPlacesSaid : Prop := stopsPlacesRow.holds Tryd.pinned (OpenSpec.ofChange stopsPlacesSpec)

/-- ITS FALSE NEIGHBOUR: 'it returns false'. Refute it at one input. -/
def stopsPlacesWrong : ChangeSpec := { name := "stopsPlaces", fn := fun _ => fun
  | [d1, d2] => { results := [.lit (.bool false)], args := [d1, d2] }
  | _ => none }
def StopsPlacesWrongFalsely : Prop := stopsPlacesRow.holds Tryd.pinned (OpenSpec.ofChange stopsPlacesWrong)

/-- 'bodkinlaw17.StopsThere': WHATEVER THE INPUT: true; the input reads as it did. -/
def stopsThereSpec : ChangeSpec := { name := "stopsThere", fn := fun _ => fun
  | [d1, d2] => { results := [.lit (.bool true)], args := [d1, d2] }
  | _ => none }
def stopsThereRow : OpenClaim := { program := "ytebedhnnokmlgaadoor", sum := "d05fa8a6a316669ce9f17499aa71ef1f6bbea9d6c8aabc491949f435a8a9da24", func := "bodkin/bodkinlaw17.StopsThere", spec := "stopsThere", unfollowed := true, recurses := true, named := ["bodkin/width.plainZero", "bodkin/width.plainWide"], apart := false, laid := [("bodkin/width.plainZero", laid_bodkin_width_plainZero), ("bodkin/width.plainWide", laid_bodkin_width_plainWide)] }
def StopsThereSaid : Prop := stopsThereRow.holds Tryd.pinned (OpenSpec.ofChange stopsThereSpec)

/-- ITS FALSE NEIGHBOUR: 'it returns false'. Refute it at one input. -/
def stopsThereWrong : ChangeSpec := { name := "stopsThere", fn := fun _ => fun
  | [d1, d2] => { results := [.lit (.bool false)], args := [d1, d2] }
  | _ => none }
def StopsThereWrongFalsely : Prop := stopsThereRow.holds Tryd.pinned (OpenSpec.ofChange stopsThereWrong)

/-- 'bodkinlaw18.CellsOf': WHATEVER THE INPUT: true; the input reads as it did. -/
def cellsOfSpec : ChangeSpec := { name := "cellsOf", fn := fun _ => fun
  | [d1, d2] => { results := [.lit (.bool true)], args := [d1, d2] }
  | _ => none }
def cellsOfRow : OpenClaim := { program := "ytebedhnnokmlgaadoor", sum := "d05fa8a6a316669ce9f17499aa71ef1f6bbea9d6c8aabc491949f435a8a9da24", func := "bodkin/bodkinlaw18.CellsOf", spec := "cellsOf", unfollowed := true, recurses := true, named := ["bodkin/width.plainZero", "bodkin/width.plainWide"], apart := false, laid := [("bodkin/width.plainZero", laid_bodkin_width_plainZero), ("bodkin/width.plainWide", laid_bodkin_width_plainWide)] }
def CellsOfSaid : Prop := cellsOfRow.holds Tryd.pinned (OpenSpec.ofChange cellsOfSpec)

/-- ITS FALSE NEIGHBOUR: 'it returns false'. Refute it at one input. -/
def cellsOfWrong : ChangeSpec := { name := "cellsOf", fn := fun _ => fun
  | [d1, d2] => { results := [.lit (.bool false)], args := [d1, d2] }
  | _ => none }
def CellsOfWrongFalsely : Prop := cellsOfRow.holds Tryd.pinned (OpenSpec.ofChange cellsOfWrong)

/-- 'bodkinlaw18.CellsPlain': WHATEVER THE INPUT: true; the input reads as it did. -/
def cellsPlainSpec : ChangeSpec := { name := "cellsPlain", fn := fun _ => fun
  | [d1, d2] => { results := [.lit (.bool true)], args := [d1, d2] }
  | _ => none }
def cellsPlainRow : OpenClaim := { program := "ytebedhnnokmlgaadoor", sum := "d05fa8a6a316669ce9f17499aa71ef1f6bbea9d6c8aabc491949f435a8a9da24", func := "bodkin/bodkinlaw18.CellsPlain", spec := "cellsPlain", unfollowed := true, recurses := true, named := ["bodkin/width.plainZero", "bodkin/width.plainWide"], apart := false, laid := [("bodkin/width.plainZero", laid_bodkin_width_plainZero), ("bodkin/width.plainWide", laid_bodkin_width_plainWide)] }
def CellsPlainSaid : Prop := cellsPlainRow.holds Tryd.pinned (OpenSpec.ofChange cellsPlainSpec)

/-- ITS FALSE NEIGHBOUR: 'it returns false'. Refute it at one input. -/
def cellsPlainWrong : ChangeSpec := { name := "cellsPlain", fn := fun _ => fun
  | [d1, d2] => { results := [.lit (.bool false)], args := [d1, d2] }
  | _ => none }
def CellsPlainWrongFalsely : Prop := cellsPlainRow.holds Tryd.pinned (OpenSpec.ofChange cellsPlainWrong)

/-- 'bodkinlaw18.CellsWide': WHATEVER THE INPUT: true; the input reads as it did. -/
def cellsWideSpec : ChangeSpec := { name := "cellsWide", fn := fun _ => fun
  | [d1, d2] => { results := [.lit (.bool true)], args := [d1, d2] }
  | _ => none }
def cellsWideRow : OpenClaim := { program := "ytebedhnnokmlgaadoor", sum := "d05fa8a6a316669ce9f17499aa71ef1f6bbea9d6c8aabc491949f435a8a9da24", func := "bodkin/bodkinlaw18.CellsWide", spec := "cellsWide", unfollowed := true, recurses := true, named := ["bodkin/width.plainZero", "bodkin/width.plainWide"], apart := false, laid := [("bodkin/width.plainZero", laid_bodkin_width_plainZero), ("bodkin/width.plainWide", laid_bodkin_width_plainWide)] }
def CellsWideSaid : Prop := cellsWideRow.holds Tryd.pinned (OpenSpec.ofChange cellsWideSpec)

/-- ITS FALSE NEIGHBOUR: 'it returns false'. Refute it at one input. -/
def cellsWideWrong : ChangeSpec := { name := "cellsWide", fn := fun _ => fun
  | [d1, d2] => { results := [.lit (.bool false)], args := [d1, d2] }
  | _ => none }
def CellsWideWrongFalsely : Prop := cellsWideRow.holds Tryd.pinned (OpenSpec.ofChange cellsWideWrong)

/-- 'bodkinlaw18.CellsFirst': WHATEVER THE INPUT: true; the input reads as it did. -/
def cellsFirstSpec : ChangeSpec := { name := "cellsFirst", fn := fun _ => fun
  | [d1, d2] => { results := [.lit (.bool true)], args := [d1, d2] }
  | _ => none }
def cellsFirstRow : OpenClaim := { program := "ytebedhnnokmlgaadoor", sum := "d05fa8a6a316669ce9f17499aa71ef1f6bbea9d6c8aabc491949f435a8a9da24", func := "bodkin/bodkinlaw18.CellsFirst", spec := "cellsFirst", unfollowed := true, recurses := true, named := ["bodkin/width.plainZero", "bodkin/width.plainWide"], apart := false, laid := [("bodkin/width.plainZero", laid_bodkin_width_plainZero), ("bodkin/width.plainWide", laid_bodkin_width_plainWide)] }
def CellsFirstSaid : Prop := cellsFirstRow.holds Tryd.pinned (OpenSpec.ofChange cellsFirstSpec)

/-- ITS FALSE NEIGHBOUR: 'it returns false'. Refute it at one input. -/
def cellsFirstWrong : ChangeSpec := { name := "cellsFirst", fn := fun _ => fun
  | [d1, d2] => { results := [.lit (.bool false)], args := [d1, d2] }
  | _ => none }
def CellsFirstWrongFalsely : Prop := cellsFirstRow.holds Tryd.pinned (OpenSpec.ofChange cellsFirstWrong)

/-- 'bodkinlaw18.CellsStops': WHATEVER THE INPUT: true; the input reads as it did. -/
def cellsStopsSpec : ChangeSpec := { name := "cellsStops", fn := fun _ => fun
  | [d] => { results := [.lit (.bool true)], args := [d] }
  | _ => none }
def cellsStopsRow : OpenClaim := { program := "ytebedhnnokmlgaadoor", sum := "d05fa8a6a316669ce9f17499aa71ef1f6bbea9d6c8aabc491949f435a8a9da24", func := "bodkin/bodkinlaw18.CellsStops", spec := "cellsStops", unfollowed := true, recurses := true, named := ["bodkin/width.plainZero", "bodkin/width.plainWide"], apart := false, laid := [("bodkin/width.plainZero", laid_bodkin_width_plainZero), ("bodkin/width.plainWide", laid_bodkin_width_plainWide)] }
def CellsStopsSaid : Prop := cellsStopsRow.holds Tryd.pinned (OpenSpec.ofChange cellsStopsSpec)

/-- ITS FALSE NEIGHBOUR: 'it returns false'. Refute it at one input. -/
def cellsStopsWrong : ChangeSpec := { name := "cellsStops", fn := fun _ => fun
  | [d] => { results := [.lit (.bool false)], args := [d] }
  | _ => none }
def CellsStopsWrongFalsely : Prop := cellsStopsRow.holds Tryd.pinned (OpenSpec.ofChange cellsStopsWrong)

/- THE SECOND FORM. 'bulk': how many values and letters a reading holds, each counted each time it is reached (what is shared counts as often as it is met; a slice's spare places count too). A statement '..UptoSaid' is the law's where the arguments, and the package variables that the reading takes, are together of bulk at most 1048576: NARROWER than '..Said'. Prove '..Said' where nothing that the law and all that it calls make is longer than what came in: it says more and counts as full. Else prove '..UptoSaid'. A law counts once. -/
mutual
def uptoBulk {H : Type} : DataW H → Nat
  | .lit (.string bytes) => bytes.length + 1
  | .lit _ => 1
  | .nil => 1
  | .ptr d => uptoBulk d + 1
  | .slice elems spare => uptoBulkAll elems + uptoBulkAll spare + 1
  | .agg parts => uptoBulkAll parts + 1
  | .iface _ d => uptoBulk d + 1
  | .map entries => uptoBulkEntries entries + 1
  | .held _ => 1
def uptoBulkAll {H : Type} : List (DataW H) → Nat
  | [] => 0
  | d :: r => uptoBulk d + uptoBulkAll r
def uptoBulkEntries {H : Type} : List (Lit × DataW H) → Nat
  | [] => 0
  | x :: r => uptoBulkEntry x + uptoBulkEntries r
def uptoBulkEntry {H : Type} : Lit × DataW H → Nat
  | (.string bytes, d) => bytes.length + uptoBulk d + 1
  | (_, d) => uptoBulk d + 1
 end
def uptoSmall : (H : Type) → List (DataW H) → Bool := fun _ ds => decide (uptoBulkAll ds ≤ 1048576)
def OpenSpec.upto (s : _root_.Go.ChangeSpec) : _root_.Go.OpenSpec := { _root_.Go.OpenSpec.ofChange s with cond := some uptoSmall }

/-- 'bodkinlaw17.StopsSizes', WHERE WHAT IT READS IS OF BULK AT MOST 1048576: true; the input reads as it did. -/
def stopsSizesUptoRow : OpenClaim := { program := "ytebedhnnokmlgaadoor", sum := "d05fa8a6a316669ce9f17499aa71ef1f6bbea9d6c8aabc491949f435a8a9da24", func := "bodkin/bodkinlaw17.StopsSizes", spec := "stopsSizes", unfollowed := true, recurses := true, named := ["bodkin/width.plainZero", "bodkin/width.plainWide"], apart := false, laid := [("bodkin/width.plainZero", laid_bodkin_width_plainZero), ("bodkin/width.plainWide", laid_bodkin_width_plainWide)], narrowed := true }
def StopsSizesUptoSaid : Prop := stopsSizesUptoRow.holds Tryd.pinned (OpenSpec.upto stopsSizesSpec)

/-- 'bodkinlaw17.StopsEnd', WHERE WHAT IT READS IS OF BULK AT MOST 1048576: true; the input reads as it did. -/
def stopsEndUptoRow : OpenClaim := { program := "ytebedhnnokmlgaadoor", sum := "d05fa8a6a316669ce9f17499aa71ef1f6bbea9d6c8aabc491949f435a8a9da24", func := "bodkin/bodkinlaw17.StopsEnd", spec := "stopsEnd", unfollowed := true, recurses := true, named := ["bodkin/width.plainZero", "bodkin/width.plainWide"], apart := false, laid := [("bodkin/width.plainZero", laid_bodkin_width_plainZero), ("bodkin/width.plainWide", laid_bodkin_width_plainWide)], narrowed := true }
def StopsEndUptoSaid : Prop := stopsEndUptoRow.holds Tryd.pinned (OpenSpec.upto stopsEndSpec)

/-- 'bodkinlaw17.StopsNil', WHERE WHAT IT READS IS OF BULK AT MOST 1048576: true; the input reads as it did. -/
def stopsNilUptoRow : OpenClaim := { program := "ytebedhnnokmlgaadoor", sum := "d05fa8a6a316669ce9f17499aa71ef1f6bbea9d6c8aabc491949f435a8a9da24", func := "bodkin/bodkinlaw17.StopsNil", spec := "stopsNil", unfollowed := true, recurses := true, named := ["bodkin/width.plainZero", "bodkin/width.plainWide"], apart := false, laid := [("bodkin/width.plainZero", laid_bodkin_width_plainZero), ("bodkin/width.plainWide", laid_bodkin_width_plainWide)], narrowed := true }
def StopsNilUptoSaid : Prop := stopsNilUptoRow.holds Tryd.pinned (OpenSpec.upto stopsNilSpec)

/-- 'bodkinlaw17.StopsPlaces', WHERE WHAT IT READS IS OF BULK AT MOST 1048576: true; the input reads as it did. -/
def stopsPlacesUptoRow : OpenClaim := { program := "ytebedhnnokmlgaadoor", sum := "d05fa8a6a316669ce9f17499aa71ef1f6bbea9d6c8aabc491949f435a8a9da24", func := "bodkin/bodkinlaw17.StopsPlaces", spec := "stopsPlaces", unfollowed := true, recurses := true, named := ["bodkin/width.plainZero", "bodkin/width.plainWide"], apart := false, laid := [("bodkin/width.plainZero", laid_bodkin_width_plainZero), ("bodkin/width.plainWide", laid_bodkin_width_plainWide)], narrowed := true }
def StopsPlacesUptoSaid : Prop := stopsPlacesUptoRow.holds Tryd.pinned (OpenSpec.upto stopsPlacesSpec)

/-- 'bodkinlaw17.StopsThere', WHERE WHAT IT READS IS OF BULK AT MOST 1048576: true; the input reads as it did. -/
def stopsThereUptoRow : OpenClaim := { program := "ytebedhnnokmlgaadoor", sum := "d05fa8a6a316669ce9f17499aa71ef1f6bbea9d6c8aabc491949f435a8a9da24", func := "bodkin/bodkinlaw17.StopsThere", spec := "stopsThere", unfollowed := true, recurses := true, named := ["bodkin/width.plainZero", "bodkin/width.plainWide"], apart := false, laid := [("bodkin/width.plainZero", laid_bodkin_width_plainZero), ("bodkin/width.plainWide", laid_bodkin_width_plainWide)], narrowed := true }
def StopsThereUptoSaid : Prop := stopsThereUptoRow.holds Tryd.pinned (OpenSpec.upto stopsThereSpec)

/-- 'bodkinlaw18.CellsOf', WHERE WHAT IT READS IS OF BULK AT MOST 1048576: true; the input reads as it did. -/
def cellsOfUptoRow : OpenClaim := { program := "ytebedhnnokmlgaadoor", sum := "d05fa8a6a316669ce9f17499aa71ef1f6bbea9d6c8aabc491949f435a8a9da24", func := "bodkin/bodkinlaw18.CellsOf", spec := "cellsOf", unfollowed := true, recurses := true, named := ["bodkin/width.plainZero", "bodkin/width.plainWide"], apart := false, laid := [("bodkin/width.plainZero", laid_bodkin_width_plainZero), ("bodkin/width.plainWide", laid_bodkin_width_plainWide)], narrowed := true }
def CellsOfUptoSaid : Prop := cellsOfUptoRow.holds Tryd.pinned (OpenSpec.upto cellsOfSpec)

/-- 'bodkinlaw18.CellsPlain', WHERE WHAT IT READS IS OF BULK AT MOST 1048576: true; the input reads as it did. -/
def cellsPlainUptoRow : OpenClaim := { program := "ytebedhnnokmlgaadoor", sum := "d05fa8a6a316669ce9f17499aa71ef1f6bbea9d6c8aabc491949f435a8a9da24", func := "bodkin/bodkinlaw18.CellsPlain", spec := "cellsPlain", unfollowed := true, recurses := true, named := ["bodkin/width.plainZero", "bodkin/width.plainWide"], apart := false, laid := [("bodkin/width.plainZero", laid_bodkin_width_plainZero), ("bodkin/width.plainWide", laid_bodkin_width_plainWide)], narrowed := true }
def CellsPlainUptoSaid : Prop := cellsPlainUptoRow.holds Tryd.pinned (OpenSpec.upto cellsPlainSpec)

/-- 'bodkinlaw18.CellsWide', WHERE WHAT IT READS IS OF BULK AT MOST 1048576: true; the input reads as it did. -/
def cellsWideUptoRow : OpenClaim := { program := "ytebedhnnokmlgaadoor", sum := "d05fa8a6a316669ce9f17499aa71ef1f6bbea9d6c8aabc491949f435a8a9da24", func := "bodkin/bodkinlaw18.CellsWide", spec := "cellsWide", unfollowed := true, recurses := true, named := ["bodkin/width.plainZero", "bodkin/width.plainWide"], apart := false, laid := [("bodkin/width.plainZero", laid_bodkin_width_plainZero), ("bodkin/width.plainWide", laid_bodkin_width_plainWide)], narrowed := true }
def CellsWideUptoSaid : Prop := cellsWideUptoRow.holds Tryd.pinned (OpenSpec.upto cellsWideSpec)

/-- 'bodkinlaw18.CellsFirst', WHERE WHAT IT READS IS OF BULK AT MOST 1048576: true; the input reads as it did. -/
def cellsFirstUptoRow : OpenClaim := { program := "ytebedhnnokmlgaadoor", sum := "d05fa8a6a316669ce9f17499aa71ef1f6bbea9d6c8aabc491949f435a8a9da24", func := "bodkin/bodkinlaw18.CellsFirst", spec := "cellsFirst", unfollowed := true, recurses := true, named := ["bodkin/width.plainZero", "bodkin/width.plainWide"], apart := false, laid := [("bodkin/width.plainZero", laid_bodkin_width_plainZero), ("bodkin/width.plainWide", laid_bodkin_width_plainWide)], narrowed := true }
def CellsFirstUptoSaid : Prop := cellsFirstUptoRow.holds Tryd.pinned (OpenSpec.upto cellsFirstSpec)

/-- 'bodkinlaw18.CellsStops', WHERE WHAT IT READS IS OF BULK AT MOST 1048576: true; the input reads as it did. -/
def cellsStopsUptoRow : OpenClaim := { program := "ytebedhnnokmlgaadoor", sum := "d05fa8a6a316669ce9f17499aa71ef1f6bbea9d6c8aabc491949f435a8a9da24", func := "bodkin/bodkinlaw18.CellsStops", spec := "cellsStops", unfollowed := true, recurses := true, named := ["bodkin/width.plainZero", "bodkin/width.plainWide"], apart := false, laid := [("bodkin/width.plainZero", laid_bodkin_width_plainZero), ("bodkin/width.plainWide", laid_bodkin_width_plainWide)], narrowed := true }
def CellsStopsUptoSaid : Prop := cellsStopsUptoRow.holds Tryd.pinned (OpenSpec.upto cellsStopsSpec)

end Rows
end Go.Proofs.YtebedhnnokmlgaaDoor

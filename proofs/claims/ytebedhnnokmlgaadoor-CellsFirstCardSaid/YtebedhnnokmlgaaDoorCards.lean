/-
  DERIVED. GIVEN WITH THE SEED: THE CARDS: each row of YtebedhnnokmlgaaDoorRows.lean that lists a variable, with what it lists TIED to the program's text (the seventh form; the later family's looks); each row that meets fmt, with fmt's text TOLD by the authors' own Lean function (tested against real Go, not proved from fmt's source: count such statements apart). THE CARD IS WHAT COUNTS. Prove the row's statement (the work); the ties are given (YtebedhnnokmlgaaDoorTie.lean); close each card by the builder's one call (the guide's Derived/Test/ToyasCard.lean, 'card_holds'). Laid BY PROGRAM, IN A SANDBOX (cutbox-door.mjs). By AI agents, Wed Nov 11 2026. No macro, syntax, notation, axiom, sorry.
-/
import Derived.Test.YtebedhnnokmlgaaDoorRows
import GoSem.ClaimSeven
namespace Go.Proofs.YtebedhnnokmlgaaDoor
namespace Rows

/-- THE TIED CARD OF 'bodkinlaw17.StopsSizes'. -/
def stopsSizesCard : Claim7 := { stood := { row := stopsSizesRow, standIns := [], harness := (true, "b6cc40a0497506c1bafffaf5f9d735f3c0586e76e06183ae48348f4537467acd"), looks := false }, kinds := [], alts := [], laidByText := true, laidKinds := [.data, .data], laidTests := true, laidLooks := .later }
def StopsSizesCardSaid : Prop := Claim7.holds Tryd.pinned (.plain (OpenSpec.ofChange stopsSizesSpec)) stopsSizesCard

/-- THE TIED CARD OF 'bodkinlaw17.StopsEnd'. -/
def stopsEndCard : Claim7 := { stood := { row := stopsEndRow, standIns := [], harness := (true, "b6cc40a0497506c1bafffaf5f9d735f3c0586e76e06183ae48348f4537467acd"), looks := false }, kinds := [], alts := [], laidByText := true, laidKinds := [.data, .data], laidTests := true, laidLooks := .later }
def StopsEndCardSaid : Prop := Claim7.holds Tryd.pinned (.plain (OpenSpec.ofChange stopsEndSpec)) stopsEndCard

/-- THE TIED CARD OF 'bodkinlaw17.StopsNil'. -/
def stopsNilCard : Claim7 := { stood := { row := stopsNilRow, standIns := [], harness := (true, "b6cc40a0497506c1bafffaf5f9d735f3c0586e76e06183ae48348f4537467acd"), looks := false }, kinds := [], alts := [], laidByText := true, laidKinds := [.data, .data], laidTests := true, laidLooks := .later }
def StopsNilCardSaid : Prop := Claim7.holds Tryd.pinned (.plain (OpenSpec.ofChange stopsNilSpec)) stopsNilCard

/-- THE TIED CARD OF 'bodkinlaw17.StopsPlaces'. -/
def stopsPlacesCard : Claim7 := { stood := { row := stopsPlacesRow, standIns := [], harness := (true, "b6cc40a0497506c1bafffaf5f9d735f3c0586e76e06183ae48348f4537467acd"), looks := false }, kinds := [], alts := [], laidByText := true, laidKinds := [.data, .data], laidTests := true, laidLooks := .later }
def StopsPlacesCardSaid : Prop := Claim7.holds Tryd.pinned (.plain (OpenSpec.ofChange stopsPlacesSpec)) stopsPlacesCard

/-- THE TIED CARD OF 'bodkinlaw17.StopsThere'. -/
def stopsThereCard : Claim7 := { stood := { row := stopsThereRow, standIns := [], harness := (true, "b6cc40a0497506c1bafffaf5f9d735f3c0586e76e06183ae48348f4537467acd"), looks := false }, kinds := [], alts := [], laidByText := true, laidKinds := [.data, .data], laidTests := true, laidLooks := .later }
def StopsThereCardSaid : Prop := Claim7.holds Tryd.pinned (.plain (OpenSpec.ofChange stopsThereSpec)) stopsThereCard

/-- THE TIED CARD OF 'bodkinlaw18.CellsOf'. -/
def cellsOfCard : Claim7 := { stood := { row := cellsOfRow, standIns := [], harness := (true, "b6cc40a0497506c1bafffaf5f9d735f3c0586e76e06183ae48348f4537467acd"), looks := false }, kinds := [], alts := [], laidByText := true, laidKinds := [.data, .data], laidTests := true, laidLooks := .later }
def CellsOfCardSaid : Prop := Claim7.holds Tryd.pinned (.plain (OpenSpec.ofChange cellsOfSpec)) cellsOfCard

/-- THE TIED CARD OF 'bodkinlaw18.CellsPlain'. -/
def cellsPlainCard : Claim7 := { stood := { row := cellsPlainRow, standIns := [], harness := (true, "b6cc40a0497506c1bafffaf5f9d735f3c0586e76e06183ae48348f4537467acd"), looks := false }, kinds := [], alts := [], laidByText := true, laidKinds := [.data, .data], laidTests := true, laidLooks := .later }
def CellsPlainCardSaid : Prop := Claim7.holds Tryd.pinned (.plain (OpenSpec.ofChange cellsPlainSpec)) cellsPlainCard

/-- THE TIED CARD OF 'bodkinlaw18.CellsWide'. -/
def cellsWideCard : Claim7 := { stood := { row := cellsWideRow, standIns := [], harness := (true, "b6cc40a0497506c1bafffaf5f9d735f3c0586e76e06183ae48348f4537467acd"), looks := false }, kinds := [], alts := [], laidByText := true, laidKinds := [.data, .data], laidTests := true, laidLooks := .later }
def CellsWideCardSaid : Prop := Claim7.holds Tryd.pinned (.plain (OpenSpec.ofChange cellsWideSpec)) cellsWideCard

/-- THE TIED CARD OF 'bodkinlaw18.CellsFirst'. -/
def cellsFirstCard : Claim7 := { stood := { row := cellsFirstRow, standIns := [], harness := (true, "b6cc40a0497506c1bafffaf5f9d735f3c0586e76e06183ae48348f4537467acd"), looks := false }, kinds := [], alts := [], laidByText := true, laidKinds := [.data, .data], laidTests := true, laidLooks := .later }
def CellsFirstCardSaid : Prop := Claim7.holds Tryd.pinned (.plain (OpenSpec.ofChange cellsFirstSpec)) cellsFirstCard

/-- THE TIED CARD OF 'bodkinlaw18.CellsStops'. -/
def cellsStopsCard : Claim7 := { stood := { row := cellsStopsRow, standIns := [], harness := (true, "b6cc40a0497506c1bafffaf5f9d735f3c0586e76e06183ae48348f4537467acd"), looks := false }, kinds := [], alts := [], laidByText := true, laidKinds := [.data, .data], laidTests := true, laidLooks := .later }
def CellsStopsCardSaid : Prop := Claim7.holds Tryd.pinned (.plain (OpenSpec.ofChange cellsStopsSpec)) cellsStopsCard

/-- THE SECOND FORM's CARD OF 'bodkinlaw17.StopsSizes'. -/
def stopsSizesUptoCard : Claim7 := { stood := { row := stopsSizesUptoRow, standIns := [], harness := (true, "b6cc40a0497506c1bafffaf5f9d735f3c0586e76e06183ae48348f4537467acd"), looks := false }, kinds := [], alts := [], laidByText := true, laidKinds := [.data, .data], laidTests := true, laidLooks := .later }
def StopsSizesUptoCardSaid : Prop := Claim7.holds Tryd.pinned (.plain (OpenSpec.upto stopsSizesSpec)) stopsSizesUptoCard

/-- THE SECOND FORM's CARD OF 'bodkinlaw17.StopsEnd'. -/
def stopsEndUptoCard : Claim7 := { stood := { row := stopsEndUptoRow, standIns := [], harness := (true, "b6cc40a0497506c1bafffaf5f9d735f3c0586e76e06183ae48348f4537467acd"), looks := false }, kinds := [], alts := [], laidByText := true, laidKinds := [.data, .data], laidTests := true, laidLooks := .later }
def StopsEndUptoCardSaid : Prop := Claim7.holds Tryd.pinned (.plain (OpenSpec.upto stopsEndSpec)) stopsEndUptoCard

/-- THE SECOND FORM's CARD OF 'bodkinlaw17.StopsNil'. -/
def stopsNilUptoCard : Claim7 := { stood := { row := stopsNilUptoRow, standIns := [], harness := (true, "b6cc40a0497506c1bafffaf5f9d735f3c0586e76e06183ae48348f4537467acd"), looks := false }, kinds := [], alts := [], laidByText := true, laidKinds := [.data, .data], laidTests := true, laidLooks := .later }
def StopsNilUptoCardSaid : Prop := Claim7.holds Tryd.pinned (.plain (OpenSpec.upto stopsNilSpec)) stopsNilUptoCard

/-- THE SECOND FORM's CARD OF 'bodkinlaw17.StopsPlaces'. -/
def stopsPlacesUptoCard : Claim7 := { stood := { row := stopsPlacesUptoRow, standIns := [], harness := (true, "b6cc40a0497506c1bafffaf5f9d735f3c0586e76e06183ae48348f4537467acd"), looks := false }, kinds := [], alts := [], laidByText := true, laidKinds := [.data, .data], laidTests := true, laidLooks := .later }
def StopsPlacesUptoCardSaid : Prop := Claim7.holds Tryd.pinned (.plain (OpenSpec.upto stopsPlacesSpec)) stopsPlacesUptoCard

/-- THE SECOND FORM's CARD OF 'bodkinlaw17.StopsThere'. -/
def stopsThereUptoCard : Claim7 := { stood := { row := stopsThereUptoRow, standIns := [], harness := (true, "b6cc40a0497506c1bafffaf5f9d735f3c0586e76e06183ae48348f4537467acd"), looks := false }, kinds := [], alts := [], laidByText := true, laidKinds := [.data, .data], laidTests := true, laidLooks := .later }
def StopsThereUptoCardSaid : Prop := Claim7.holds Tryd.pinned (.plain (OpenSpec.upto stopsThereSpec)) stopsThereUptoCard

/-- THE SECOND FORM's CARD OF 'bodkinlaw18.CellsOf'. -/
def cellsOfUptoCard : Claim7 := { stood := { row := cellsOfUptoRow, standIns := [], harness := (true, "b6cc40a0497506c1bafffaf5f9d735f3c0586e76e06183ae48348f4537467acd"), looks := false }, kinds := [], alts := [], laidByText := true, laidKinds := [.data, .data], laidTests := true, laidLooks := .later }
def CellsOfUptoCardSaid : Prop := Claim7.holds Tryd.pinned (.plain (OpenSpec.upto cellsOfSpec)) cellsOfUptoCard

/-- THE SECOND FORM's CARD OF 'bodkinlaw18.CellsPlain'. -/
def cellsPlainUptoCard : Claim7 := { stood := { row := cellsPlainUptoRow, standIns := [], harness := (true, "b6cc40a0497506c1bafffaf5f9d735f3c0586e76e06183ae48348f4537467acd"), looks := false }, kinds := [], alts := [], laidByText := true, laidKinds := [.data, .data], laidTests := true, laidLooks := .later }
def CellsPlainUptoCardSaid : Prop := Claim7.holds Tryd.pinned (.plain (OpenSpec.upto cellsPlainSpec)) cellsPlainUptoCard

/-- THE SECOND FORM's CARD OF 'bodkinlaw18.CellsWide'. -/
def cellsWideUptoCard : Claim7 := { stood := { row := cellsWideUptoRow, standIns := [], harness := (true, "b6cc40a0497506c1bafffaf5f9d735f3c0586e76e06183ae48348f4537467acd"), looks := false }, kinds := [], alts := [], laidByText := true, laidKinds := [.data, .data], laidTests := true, laidLooks := .later }
def CellsWideUptoCardSaid : Prop := Claim7.holds Tryd.pinned (.plain (OpenSpec.upto cellsWideSpec)) cellsWideUptoCard

/-- THE SECOND FORM's CARD OF 'bodkinlaw18.CellsFirst'. -/
def cellsFirstUptoCard : Claim7 := { stood := { row := cellsFirstUptoRow, standIns := [], harness := (true, "b6cc40a0497506c1bafffaf5f9d735f3c0586e76e06183ae48348f4537467acd"), looks := false }, kinds := [], alts := [], laidByText := true, laidKinds := [.data, .data], laidTests := true, laidLooks := .later }
def CellsFirstUptoCardSaid : Prop := Claim7.holds Tryd.pinned (.plain (OpenSpec.upto cellsFirstSpec)) cellsFirstUptoCard

/-- THE SECOND FORM's CARD OF 'bodkinlaw18.CellsStops'. -/
def cellsStopsUptoCard : Claim7 := { stood := { row := cellsStopsUptoRow, standIns := [], harness := (true, "b6cc40a0497506c1bafffaf5f9d735f3c0586e76e06183ae48348f4537467acd"), looks := false }, kinds := [], alts := [], laidByText := true, laidKinds := [.data, .data], laidTests := true, laidLooks := .later }
def CellsStopsUptoCardSaid : Prop := Claim7.holds Tryd.pinned (.plain (OpenSpec.upto cellsStopsSpec)) cellsStopsUptoCard
end Rows
end Go.Proofs.YtebedhnnokmlgaaDoor

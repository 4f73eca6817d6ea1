/-
  DERIVED. GIVEN WITH THE SEED: THE CARDS: each row of YtjolodlmnffkeaaDoorRows.lean that lists a variable, with what it lists TIED to the program's text (the seventh form; the later family's looks); each row that meets fmt, with fmt's text TOLD by the authors' own Lean function (tested against real Go, not proved from fmt's source: count such statements apart). THE CARD IS WHAT COUNTS. Prove the row's statement (the work); the ties are given (YtjolodlmnffkeaaDoorTie.lean); close each card by the builder's one call (the guide's Derived/Test/ToyasCard.lean, 'card_holds'). Laid BY PROGRAM, IN A SANDBOX (cutbox-door.mjs). By AI agents, Wed Nov 11 2026. No macro, syntax, notation, axiom, sorry.
-/
import Derived.Test.YtjolodlmnffkeaaDoorRows
import GoSem.ClaimSeven
namespace Go.Proofs.YtjolodlmnffkeaaDoor
namespace Rows

/-- THE TIED CARD OF 'bodkinlaw07.RopeBytes'. -/
def ropeBytesCard : Claim7 := { stood := { row := ropeBytesRow, standIns := [], harness := (true, "fe1c6ec9618d103d3bc711d7b668ba516943758e4f09a0e00446bbded4832ddf"), looks := true }, kinds := [], alts := [], laidByText := true, laidKinds := [.data], laidTests := true, laidLooks := .later }
def RopeBytesCardSaid : Prop := Claim7.holds Tryd.pinned (.plain (OpenSpec.ofChange ropeBytesSpec)) ropeBytesCard

/-- THE TIED CARD OF 'bodkinlaw07.RopeThere'. -/
def ropeThereCard : Claim7 := { stood := { row := ropeThereRow, standIns := [], harness := (true, "fe1c6ec9618d103d3bc711d7b668ba516943758e4f09a0e00446bbded4832ddf"), looks := true }, kinds := [], alts := [], laidByText := true, laidKinds := [.data], laidTests := true, laidLooks := .later }
def RopeThereCardSaid : Prop := Claim7.holds Tryd.pinned (.plain (OpenSpec.ofChange ropeThereSpec)) ropeThereCard

/-- THE TIED CARD OF 'bodkinlaw07.RopeLong'. -/
def ropeLongCard : Claim7 := { stood := { row := ropeLongRow, standIns := [], harness := (true, "fe1c6ec9618d103d3bc711d7b668ba516943758e4f09a0e00446bbded4832ddf"), looks := true }, kinds := [], alts := [], laidByText := true, laidKinds := [.data], laidTests := true, laidLooks := .later }
def RopeLongCardSaid : Prop := Claim7.holds Tryd.pinned (.plain (OpenSpec.ofChange ropeLongSpec)) ropeLongCard

/-- THE TIED CARD OF 'bodkinlaw07.RopeNew'. -/
def ropeNewCard : Claim7 := { stood := { row := ropeNewRow, standIns := [], harness := (true, "fe1c6ec9618d103d3bc711d7b668ba516943758e4f09a0e00446bbded4832ddf"), looks := true }, kinds := [], alts := [], laidByText := true, laidKinds := [.data], laidTests := true, laidLooks := .later }
def RopeNewCardSaid : Prop := Claim7.holds Tryd.pinned (.plain (OpenSpec.ofChange ropeNewSpec)) ropeNewCard

/-- THE TIED CARD OF 'bodkinlaw07.RopeReplaces'. -/
def ropeReplacesCard : Claim7 := { stood := { row := ropeReplacesRow, standIns := [], harness := (true, "fe1c6ec9618d103d3bc711d7b668ba516943758e4f09a0e00446bbded4832ddf"), looks := true }, kinds := [], alts := [], laidByText := true, laidKinds := [.data], laidTests := true, laidLooks := .later }
def RopeReplacesCardSaid : Prop := Claim7.holds Tryd.pinned (.plain (OpenSpec.ofChange ropeReplacesSpec)) ropeReplacesCard

/-- THE TIED CARD OF 'bodkinlaw07.RopeSlices'. -/
def ropeSlicesCard : Claim7 := { stood := { row := ropeSlicesRow, standIns := [], harness := (true, "fe1c6ec9618d103d3bc711d7b668ba516943758e4f09a0e00446bbded4832ddf"), looks := true }, kinds := [], alts := [], laidByText := true, laidKinds := [.data], laidTests := true, laidLooks := .later }
def RopeSlicesCardSaid : Prop := Claim7.holds Tryd.pinned (.plain (OpenSpec.ofChange ropeSlicesSpec)) ropeSlicesCard

/-- THE TIED CARD OF 'bodkinlaw07.RopeNil'. -/
def ropeNilCard : Claim7 := { stood := { row := ropeNilRow, standIns := [], harness := (true, "fe1c6ec9618d103d3bc711d7b668ba516943758e4f09a0e00446bbded4832ddf"), looks := true }, kinds := [], alts := [], laidByText := true, laidKinds := [.data], laidTests := true, laidLooks := .later }
def RopeNilCardSaid : Prop := Claim7.holds Tryd.pinned (.plain (OpenSpec.ofChange ropeNilSpec)) ropeNilCard

/-- THE TIED CARD OF 'bodkinlaw07.RopeBreaks'. -/
def ropeBreaksCard : Claim7 := { stood := { row := ropeBreaksRow, standIns := [], harness := (true, "fe1c6ec9618d103d3bc711d7b668ba516943758e4f09a0e00446bbded4832ddf"), looks := true }, kinds := [], alts := [], laidByText := true, laidKinds := [.data], laidTests := true, laidLooks := .later }
def RopeBreaksCardSaid : Prop := Claim7.holds Tryd.pinned (.plain (OpenSpec.ofChange ropeBreaksSpec)) ropeBreaksCard

/-- THE SECOND FORM's CARD OF 'bodkinlaw07.RopeBytes'. -/
def ropeBytesUptoCard : Claim7 := { stood := { row := ropeBytesUptoRow, standIns := [], harness := (true, "fe1c6ec9618d103d3bc711d7b668ba516943758e4f09a0e00446bbded4832ddf"), looks := true }, kinds := [], alts := [], laidByText := true, laidKinds := [.data], laidTests := true, laidLooks := .later }
def RopeBytesUptoCardSaid : Prop := Claim7.holds Tryd.pinned (.plain (OpenSpec.upto ropeBytesSpec)) ropeBytesUptoCard

/-- THE SECOND FORM's CARD OF 'bodkinlaw07.RopeThere'. -/
def ropeThereUptoCard : Claim7 := { stood := { row := ropeThereUptoRow, standIns := [], harness := (true, "fe1c6ec9618d103d3bc711d7b668ba516943758e4f09a0e00446bbded4832ddf"), looks := true }, kinds := [], alts := [], laidByText := true, laidKinds := [.data], laidTests := true, laidLooks := .later }
def RopeThereUptoCardSaid : Prop := Claim7.holds Tryd.pinned (.plain (OpenSpec.upto ropeThereSpec)) ropeThereUptoCard

/-- THE SECOND FORM's CARD OF 'bodkinlaw07.RopeLong'. -/
def ropeLongUptoCard : Claim7 := { stood := { row := ropeLongUptoRow, standIns := [], harness := (true, "fe1c6ec9618d103d3bc711d7b668ba516943758e4f09a0e00446bbded4832ddf"), looks := true }, kinds := [], alts := [], laidByText := true, laidKinds := [.data], laidTests := true, laidLooks := .later }
def RopeLongUptoCardSaid : Prop := Claim7.holds Tryd.pinned (.plain (OpenSpec.upto ropeLongSpec)) ropeLongUptoCard

/-- THE SECOND FORM's CARD OF 'bodkinlaw07.RopeNew'. -/
def ropeNewUptoCard : Claim7 := { stood := { row := ropeNewUptoRow, standIns := [], harness := (true, "fe1c6ec9618d103d3bc711d7b668ba516943758e4f09a0e00446bbded4832ddf"), looks := true }, kinds := [], alts := [], laidByText := true, laidKinds := [.data], laidTests := true, laidLooks := .later }
def RopeNewUptoCardSaid : Prop := Claim7.holds Tryd.pinned (.plain (OpenSpec.upto ropeNewSpec)) ropeNewUptoCard

/-- THE SECOND FORM's CARD OF 'bodkinlaw07.RopeReplaces'. -/
def ropeReplacesUptoCard : Claim7 := { stood := { row := ropeReplacesUptoRow, standIns := [], harness := (true, "fe1c6ec9618d103d3bc711d7b668ba516943758e4f09a0e00446bbded4832ddf"), looks := true }, kinds := [], alts := [], laidByText := true, laidKinds := [.data], laidTests := true, laidLooks := .later }
def RopeReplacesUptoCardSaid : Prop := Claim7.holds Tryd.pinned (.plain (OpenSpec.upto ropeReplacesSpec)) ropeReplacesUptoCard

/-- THE SECOND FORM's CARD OF 'bodkinlaw07.RopeSlices'. -/
def ropeSlicesUptoCard : Claim7 := { stood := { row := ropeSlicesUptoRow, standIns := [], harness := (true, "fe1c6ec9618d103d3bc711d7b668ba516943758e4f09a0e00446bbded4832ddf"), looks := true }, kinds := [], alts := [], laidByText := true, laidKinds := [.data], laidTests := true, laidLooks := .later }
def RopeSlicesUptoCardSaid : Prop := Claim7.holds Tryd.pinned (.plain (OpenSpec.upto ropeSlicesSpec)) ropeSlicesUptoCard

/-- THE SECOND FORM's CARD OF 'bodkinlaw07.RopeNil'. -/
def ropeNilUptoCard : Claim7 := { stood := { row := ropeNilUptoRow, standIns := [], harness := (true, "fe1c6ec9618d103d3bc711d7b668ba516943758e4f09a0e00446bbded4832ddf"), looks := true }, kinds := [], alts := [], laidByText := true, laidKinds := [.data], laidTests := true, laidLooks := .later }
def RopeNilUptoCardSaid : Prop := Claim7.holds Tryd.pinned (.plain (OpenSpec.upto ropeNilSpec)) ropeNilUptoCard

/-- THE SECOND FORM's CARD OF 'bodkinlaw07.RopeBreaks'. -/
def ropeBreaksUptoCard : Claim7 := { stood := { row := ropeBreaksUptoRow, standIns := [], harness := (true, "fe1c6ec9618d103d3bc711d7b668ba516943758e4f09a0e00446bbded4832ddf"), looks := true }, kinds := [], alts := [], laidByText := true, laidKinds := [.data], laidTests := true, laidLooks := .later }
def RopeBreaksUptoCardSaid : Prop := Claim7.holds Tryd.pinned (.plain (OpenSpec.upto ropeBreaksSpec)) ropeBreaksUptoCard
end Rows
end Go.Proofs.YtjolodlmnffkeaaDoor

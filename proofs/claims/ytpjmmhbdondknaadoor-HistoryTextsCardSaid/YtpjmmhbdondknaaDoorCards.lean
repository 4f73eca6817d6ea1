/-
  DERIVED. GIVEN WITH THE SEED: THE CARDS: each row of YtpjmmhbdondknaaDoorRows.lean that lists a variable, with what it lists TIED to the program's text (the seventh form; the later family's looks); each row that meets fmt, with fmt's text TOLD by the authors' own Lean function (tested against real Go, not proved from fmt's source: count such statements apart). THE CARD IS WHAT COUNTS. Prove the row's statement (the work); the ties are given (YtpjmmhbdondknaaDoorTie.lean); close each card by the builder's one call (the guide's Derived/Test/ToyasCard.lean, 'card_holds'). Laid BY PROGRAM, IN A SANDBOX (cutbox-door.mjs). By AI agents, Wed Nov 11 2026. No macro, syntax, notation, axiom, sorry.
-/
import Derived.Test.YtpjmmhbdondknaaDoorRows
import GoSem.ClaimSeven
namespace Go.Proofs.YtpjmmhbdondknaaDoor
namespace Rows

/-- THE TIED CARD OF 'bodkinlaw09.BatchChecks'. -/
def batchChecksCard : Claim7 := { stood := { row := batchChecksRow, standIns := [], harness := (true, "26324bc7b2a93dcb6e7edc5cc9d3691e020353c8e034e53fd82e4f836b611006"), looks := true }, kinds := [], alts := [], laidByText := true, laidKinds := [.data], laidTests := true, laidLooks := .later }
def BatchChecksCardSaid : Prop := Claim7.holds Tryd.pinned (.plain (OpenSpec.ofChange batchChecksSpec)) batchChecksCard

/-- THE TIED CARD OF 'bodkinlaw09.BatchApplies'. -/
def batchAppliesCard : Claim7 := { stood := { row := batchAppliesRow, standIns := [], harness := (true, "26324bc7b2a93dcb6e7edc5cc9d3691e020353c8e034e53fd82e4f836b611006"), looks := true }, kinds := [], alts := [], laidByText := true, laidKinds := [.data], laidTests := true, laidLooks := .later }
def BatchAppliesCardSaid : Prop := Claim7.holds Tryd.pinned (.plain (OpenSpec.ofChange batchAppliesSpec)) batchAppliesCard

/-- THE TIED CARD OF 'bodkinlaw09.BatchUndoes'. -/
def batchUndoesCard : Claim7 := { stood := { row := batchUndoesRow, standIns := [], harness := (true, "26324bc7b2a93dcb6e7edc5cc9d3691e020353c8e034e53fd82e4f836b611006"), looks := true }, kinds := [], alts := [], laidByText := true, laidKinds := [.data], laidTests := true, laidLooks := .later }
def BatchUndoesCardSaid : Prop := Claim7.holds Tryd.pinned (.plain (OpenSpec.ofChange batchUndoesSpec)) batchUndoesCard

/-- THE TIED CARD OF 'bodkinlaw09.BatchOnes'. -/
def batchOnesCard : Claim7 := { stood := { row := batchOnesRow, standIns := [], harness := (true, "26324bc7b2a93dcb6e7edc5cc9d3691e020353c8e034e53fd82e4f836b611006"), looks := true }, kinds := [], alts := [], laidByText := true, laidKinds := [.data], laidTests := true, laidLooks := .later }
def BatchOnesCardSaid : Prop := Claim7.holds Tryd.pinned (.plain (OpenSpec.ofChange batchOnesSpec)) batchOnesCard

/-- THE TIED CARD OF 'bodkinlaw09.BatchNil'. -/
def batchNilCard : Claim7 := { stood := { row := batchNilRow, standIns := [], harness := (true, "26324bc7b2a93dcb6e7edc5cc9d3691e020353c8e034e53fd82e4f836b611006"), looks := true }, kinds := [], alts := [], laidByText := true, laidKinds := [.data], laidTests := true, laidLooks := .later }
def BatchNilCardSaid : Prop := Claim7.holds Tryd.pinned (.plain (OpenSpec.ofChange batchNilSpec)) batchNilCard

/-- THE TIED CARD OF 'bodkinlaw12.HistoryTexts'. -/
def historyTextsCard : Claim7 := { stood := { row := historyTextsRow, standIns := [], harness := (true, "26324bc7b2a93dcb6e7edc5cc9d3691e020353c8e034e53fd82e4f836b611006"), looks := true }, kinds := [], alts := [], laidByText := true, laidKinds := [.data], laidTests := true, laidLooks := .later }
def HistoryTextsCardSaid : Prop := Claim7.holds Tryd.pinned (.plain (OpenSpec.ofChange historyTextsSpec)) historyTextsCard

/-- THE SECOND FORM's CARD OF 'bodkinlaw09.BatchChecks'. -/
def batchChecksUptoCard : Claim7 := { stood := { row := batchChecksUptoRow, standIns := [], harness := (true, "26324bc7b2a93dcb6e7edc5cc9d3691e020353c8e034e53fd82e4f836b611006"), looks := true }, kinds := [], alts := [], laidByText := true, laidKinds := [.data], laidTests := true, laidLooks := .later }
def BatchChecksUptoCardSaid : Prop := Claim7.holds Tryd.pinned (.plain (OpenSpec.upto batchChecksSpec)) batchChecksUptoCard

/-- THE SECOND FORM's CARD OF 'bodkinlaw09.BatchApplies'. -/
def batchAppliesUptoCard : Claim7 := { stood := { row := batchAppliesUptoRow, standIns := [], harness := (true, "26324bc7b2a93dcb6e7edc5cc9d3691e020353c8e034e53fd82e4f836b611006"), looks := true }, kinds := [], alts := [], laidByText := true, laidKinds := [.data], laidTests := true, laidLooks := .later }
def BatchAppliesUptoCardSaid : Prop := Claim7.holds Tryd.pinned (.plain (OpenSpec.upto batchAppliesSpec)) batchAppliesUptoCard

/-- THE SECOND FORM's CARD OF 'bodkinlaw09.BatchUndoes'. -/
def batchUndoesUptoCard : Claim7 := { stood := { row := batchUndoesUptoRow, standIns := [], harness := (true, "26324bc7b2a93dcb6e7edc5cc9d3691e020353c8e034e53fd82e4f836b611006"), looks := true }, kinds := [], alts := [], laidByText := true, laidKinds := [.data], laidTests := true, laidLooks := .later }
def BatchUndoesUptoCardSaid : Prop := Claim7.holds Tryd.pinned (.plain (OpenSpec.upto batchUndoesSpec)) batchUndoesUptoCard

/-- THE SECOND FORM's CARD OF 'bodkinlaw09.BatchOnes'. -/
def batchOnesUptoCard : Claim7 := { stood := { row := batchOnesUptoRow, standIns := [], harness := (true, "26324bc7b2a93dcb6e7edc5cc9d3691e020353c8e034e53fd82e4f836b611006"), looks := true }, kinds := [], alts := [], laidByText := true, laidKinds := [.data], laidTests := true, laidLooks := .later }
def BatchOnesUptoCardSaid : Prop := Claim7.holds Tryd.pinned (.plain (OpenSpec.upto batchOnesSpec)) batchOnesUptoCard

/-- THE SECOND FORM's CARD OF 'bodkinlaw09.BatchNil'. -/
def batchNilUptoCard : Claim7 := { stood := { row := batchNilUptoRow, standIns := [], harness := (true, "26324bc7b2a93dcb6e7edc5cc9d3691e020353c8e034e53fd82e4f836b611006"), looks := true }, kinds := [], alts := [], laidByText := true, laidKinds := [.data], laidTests := true, laidLooks := .later }
def BatchNilUptoCardSaid : Prop := Claim7.holds Tryd.pinned (.plain (OpenSpec.upto batchNilSpec)) batchNilUptoCard

/-- THE SECOND FORM's CARD OF 'bodkinlaw12.HistoryTexts'. -/
def historyTextsUptoCard : Claim7 := { stood := { row := historyTextsUptoRow, standIns := [], harness := (true, "26324bc7b2a93dcb6e7edc5cc9d3691e020353c8e034e53fd82e4f836b611006"), looks := true }, kinds := [], alts := [], laidByText := true, laidKinds := [.data], laidTests := true, laidLooks := .later }
def HistoryTextsUptoCardSaid : Prop := Claim7.holds Tryd.pinned (.plain (OpenSpec.upto historyTextsSpec)) historyTextsUptoCard
end Rows
end Go.Proofs.YtpjmmhbdondknaaDoor

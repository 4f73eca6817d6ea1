/-
  DERIVED. GIVEN WITH THE SEED: THE CARDS: each row of YthpngnngoamlpaaDoorRows.lean that lists a variable, with what it lists TIED to the program's text (the seventh form; the later family's looks); each row that meets fmt, with fmt's text TOLD by the authors' own Lean function (tested against real Go, not proved from fmt's source: count such statements apart). THE CARD IS WHAT COUNTS. Prove the row's statement (the work); the ties are given (YthpngnngoamlpaaDoorTie.lean); close each card by the builder's one call (the guide's Derived/Test/ToyasCard.lean, 'card_holds'). Laid BY PROGRAM, IN A SANDBOX (cutbox-door.mjs). By AI agents, Wed Nov 11 2026. No macro, syntax, notation, axiom, sorry.
-/
import Derived.Test.YthpngnngoamlpaaDoorRows
import GoSem.ClaimSeven
namespace Go.Proofs.YthpngnngoamlpaaDoor
namespace Rows

/-- THE TIED CARD OF 'bodkinlaw39.FindAll'. -/
def findAllCard : Claim7 := { stood := { row := findAllRow, standIns := [], harness := (true, "d8f003bb30c7eff630ab199fe459f850063dc93547eb1fb2a15a9c69c9c71f63"), looks := true }, kinds := [], alts := [], laidByText := true, laidKinds := [.data], laidTests := true, laidLooks := .later }
def FindAllCardSaid : Prop := Claim7.holds Tryd.pinned (.plain (OpenSpec.ofChange findAllSpec)) findAllCard

/-- THE TIED CARD OF 'bodkinlaw39.FindIs'. -/
def findIsCard : Claim7 := { stood := { row := findIsRow, standIns := [], harness := (true, "d8f003bb30c7eff630ab199fe459f850063dc93547eb1fb2a15a9c69c9c71f63"), looks := true }, kinds := [], alts := [], laidByText := true, laidKinds := [.data], laidTests := true, laidLooks := .later }
def FindIsCardSaid : Prop := Claim7.holds Tryd.pinned (.plain (OpenSpec.ofChange findIsSpec)) findIsCard

/-- THE TIED CARD OF 'bodkinlaw39.FindNone'. -/
def findNoneCard : Claim7 := { stood := { row := findNoneRow, standIns := [], harness := (true, "d8f003bb30c7eff630ab199fe459f850063dc93547eb1fb2a15a9c69c9c71f63"), looks := true }, kinds := [], alts := [], laidByText := true, laidKinds := [.data], laidTests := true, laidLooks := .later }
def FindNoneCardSaid : Prop := Claim7.holds Tryd.pinned (.plain (OpenSpec.ofChange findNoneSpec)) findNoneCard

/-- THE TIED CARD OF 'bodkinlaw39.FindNil'. -/
def findNilCard : Claim7 := { stood := { row := findNilRow, standIns := [], harness := (true, "d8f003bb30c7eff630ab199fe459f850063dc93547eb1fb2a15a9c69c9c71f63"), looks := true }, kinds := [], alts := [], laidByText := true, laidKinds := [.data], laidTests := true, laidLooks := .later }
def FindNilCardSaid : Prop := Claim7.holds Tryd.pinned (.plain (OpenSpec.ofChange findNilSpec)) findNilCard

/-- THE TIED CARD OF 'bodkinlaw39.FindSteps'. -/
def findStepsCard : Claim7 := { stood := { row := findStepsRow, standIns := [], harness := (true, "d8f003bb30c7eff630ab199fe459f850063dc93547eb1fb2a15a9c69c9c71f63"), looks := true }, kinds := [], alts := [], laidByText := true, laidKinds := [.data], laidTests := true, laidLooks := .later }
def FindStepsCardSaid : Prop := Claim7.holds Tryd.pinned (.plain (OpenSpec.ofChange findStepsSpec)) findStepsCard

/-- THE SECOND FORM's CARD OF 'bodkinlaw39.FindAll'. -/
def findAllUptoCard : Claim7 := { stood := { row := findAllUptoRow, standIns := [], harness := (true, "d8f003bb30c7eff630ab199fe459f850063dc93547eb1fb2a15a9c69c9c71f63"), looks := true }, kinds := [], alts := [], laidByText := true, laidKinds := [.data], laidTests := true, laidLooks := .later }
def FindAllUptoCardSaid : Prop := Claim7.holds Tryd.pinned (.plain (OpenSpec.upto findAllSpec)) findAllUptoCard

/-- THE SECOND FORM's CARD OF 'bodkinlaw39.FindIs'. -/
def findIsUptoCard : Claim7 := { stood := { row := findIsUptoRow, standIns := [], harness := (true, "d8f003bb30c7eff630ab199fe459f850063dc93547eb1fb2a15a9c69c9c71f63"), looks := true }, kinds := [], alts := [], laidByText := true, laidKinds := [.data], laidTests := true, laidLooks := .later }
def FindIsUptoCardSaid : Prop := Claim7.holds Tryd.pinned (.plain (OpenSpec.upto findIsSpec)) findIsUptoCard

/-- THE SECOND FORM's CARD OF 'bodkinlaw39.FindNone'. -/
def findNoneUptoCard : Claim7 := { stood := { row := findNoneUptoRow, standIns := [], harness := (true, "d8f003bb30c7eff630ab199fe459f850063dc93547eb1fb2a15a9c69c9c71f63"), looks := true }, kinds := [], alts := [], laidByText := true, laidKinds := [.data], laidTests := true, laidLooks := .later }
def FindNoneUptoCardSaid : Prop := Claim7.holds Tryd.pinned (.plain (OpenSpec.upto findNoneSpec)) findNoneUptoCard

/-- THE SECOND FORM's CARD OF 'bodkinlaw39.FindNil'. -/
def findNilUptoCard : Claim7 := { stood := { row := findNilUptoRow, standIns := [], harness := (true, "d8f003bb30c7eff630ab199fe459f850063dc93547eb1fb2a15a9c69c9c71f63"), looks := true }, kinds := [], alts := [], laidByText := true, laidKinds := [.data], laidTests := true, laidLooks := .later }
def FindNilUptoCardSaid : Prop := Claim7.holds Tryd.pinned (.plain (OpenSpec.upto findNilSpec)) findNilUptoCard

/-- THE SECOND FORM's CARD OF 'bodkinlaw39.FindSteps'. -/
def findStepsUptoCard : Claim7 := { stood := { row := findStepsUptoRow, standIns := [], harness := (true, "d8f003bb30c7eff630ab199fe459f850063dc93547eb1fb2a15a9c69c9c71f63"), looks := true }, kinds := [], alts := [], laidByText := true, laidKinds := [.data], laidTests := true, laidLooks := .later }
def FindStepsUptoCardSaid : Prop := Claim7.holds Tryd.pinned (.plain (OpenSpec.upto findStepsSpec)) findStepsUptoCard
end Rows
end Go.Proofs.YthpngnngoamlpaaDoor

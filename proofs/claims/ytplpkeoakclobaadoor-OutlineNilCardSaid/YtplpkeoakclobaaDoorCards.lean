/-
  DERIVED. GIVEN WITH THE SEED: THE CARDS: each row of YtplpkeoakclobaaDoorRows.lean that lists a variable, with what it lists TIED to the program's text (the seventh form; the later family's looks); each row that meets fmt, with fmt's text TOLD by the authors' own Lean function (tested against real Go, not proved from fmt's source: count such statements apart). THE CARD IS WHAT COUNTS. Prove the row's statement (the work); the ties are given (YtplpkeoakclobaaDoorTie.lean); close each card by the builder's one call (the guide's Derived/Test/ToyasCard.lean, 'card_holds'). Laid BY PROGRAM, IN A SANDBOX (cutbox-door.mjs). By AI agents, Wed Nov 11 2026. No macro, syntax, notation, axiom, sorry.
-/
import Derived.Test.YtplpkeoakclobaaDoorRows
import GoSem.ClaimSeven
namespace Go.Proofs.YtplpkeoakclobaaDoor
namespace Rows

/-- THE TIED CARD OF 'bodkinlaw43.OutlineIndents'. -/
def outlineIndentsCard : Claim7 := { stood := { row := outlineIndentsRow, standIns := [], harness := (true, "9789c40eb8ac82e2d12376bead8b16047d0df3da193534cb0d69d41c3cc034a7"), looks := true }, kinds := [], alts := [], laidByText := true, laidKinds := [.data, .data, .data], laidTests := true, laidLooks := .later }
def OutlineIndentsCardSaid : Prop := Claim7.holds Tryd.pinned (.plain (OpenSpec.ofChange outlineIndentsSpec)) outlineIndentsCard

/-- THE TIED CARD OF 'bodkinlaw43.OutlineNests'. -/
def outlineNestsCard : Claim7 := { stood := { row := outlineNestsRow, standIns := [], harness := (true, "9789c40eb8ac82e2d12376bead8b16047d0df3da193534cb0d69d41c3cc034a7"), looks := true }, kinds := [], alts := [], laidByText := true, laidKinds := [.data, .data, .data], laidTests := true, laidLooks := .later }
def OutlineNestsCardSaid : Prop := Claim7.holds Tryd.pinned (.plain (OpenSpec.ofChange outlineNestsSpec)) outlineNestsCard

/-- THE TIED CARD OF 'bodkinlaw43.OutlineRanges'. -/
def outlineRangesCard : Claim7 := { stood := { row := outlineRangesRow, standIns := [], harness := (true, "9789c40eb8ac82e2d12376bead8b16047d0df3da193534cb0d69d41c3cc034a7"), looks := true }, kinds := [], alts := [], laidByText := true, laidKinds := [.data, .data, .data], laidTests := true, laidLooks := .later }
def OutlineRangesCardSaid : Prop := Claim7.holds Tryd.pinned (.plain (OpenSpec.ofChange outlineRangesSpec)) outlineRangesCard

/-- THE TIED CARD OF 'bodkinlaw43.OutlinePartners'. -/
def outlinePartnersCard : Claim7 := { stood := { row := outlinePartnersRow, standIns := [], harness := (true, "9789c40eb8ac82e2d12376bead8b16047d0df3da193534cb0d69d41c3cc034a7"), looks := true }, kinds := [], alts := [], laidByText := true, laidKinds := [.data, .data, .data], laidTests := true, laidLooks := .later }
def OutlinePartnersCardSaid : Prop := Claim7.holds Tryd.pinned (.plain (OpenSpec.ofChange outlinePartnersSpec)) outlinePartnersCard

/-- THE TIED CARD OF 'bodkinlaw43.OutlineBack'. -/
def outlineBackCard : Claim7 := { stood := { row := outlineBackRow, standIns := [], harness := (true, "9789c40eb8ac82e2d12376bead8b16047d0df3da193534cb0d69d41c3cc034a7"), looks := true }, kinds := [], alts := [], laidByText := true, laidKinds := [.data, .data, .data], laidTests := true, laidLooks := .later }
def OutlineBackCardSaid : Prop := Claim7.holds Tryd.pinned (.plain (OpenSpec.ofChange outlineBackSpec)) outlineBackCard

/-- THE TIED CARD OF 'bodkinlaw43.OutlineNil'. -/
def outlineNilCard : Claim7 := { stood := { row := outlineNilRow, standIns := [], harness := (true, "9789c40eb8ac82e2d12376bead8b16047d0df3da193534cb0d69d41c3cc034a7"), looks := true }, kinds := [], alts := [], laidByText := true, laidKinds := [.data, .data, .data], laidTests := true, laidLooks := .later }
def OutlineNilCardSaid : Prop := Claim7.holds Tryd.pinned (.plain (OpenSpec.ofChange outlineNilSpec)) outlineNilCard

/-- THE SECOND FORM's CARD OF 'bodkinlaw43.OutlineIndents'. -/
def outlineIndentsUptoCard : Claim7 := { stood := { row := outlineIndentsUptoRow, standIns := [], harness := (true, "9789c40eb8ac82e2d12376bead8b16047d0df3da193534cb0d69d41c3cc034a7"), looks := true }, kinds := [], alts := [], laidByText := true, laidKinds := [.data, .data, .data], laidTests := true, laidLooks := .later }
def OutlineIndentsUptoCardSaid : Prop := Claim7.holds Tryd.pinned (.plain (OpenSpec.upto outlineIndentsSpec)) outlineIndentsUptoCard

/-- THE SECOND FORM's CARD OF 'bodkinlaw43.OutlineNests'. -/
def outlineNestsUptoCard : Claim7 := { stood := { row := outlineNestsUptoRow, standIns := [], harness := (true, "9789c40eb8ac82e2d12376bead8b16047d0df3da193534cb0d69d41c3cc034a7"), looks := true }, kinds := [], alts := [], laidByText := true, laidKinds := [.data, .data, .data], laidTests := true, laidLooks := .later }
def OutlineNestsUptoCardSaid : Prop := Claim7.holds Tryd.pinned (.plain (OpenSpec.upto outlineNestsSpec)) outlineNestsUptoCard

/-- THE SECOND FORM's CARD OF 'bodkinlaw43.OutlineRanges'. -/
def outlineRangesUptoCard : Claim7 := { stood := { row := outlineRangesUptoRow, standIns := [], harness := (true, "9789c40eb8ac82e2d12376bead8b16047d0df3da193534cb0d69d41c3cc034a7"), looks := true }, kinds := [], alts := [], laidByText := true, laidKinds := [.data, .data, .data], laidTests := true, laidLooks := .later }
def OutlineRangesUptoCardSaid : Prop := Claim7.holds Tryd.pinned (.plain (OpenSpec.upto outlineRangesSpec)) outlineRangesUptoCard

/-- THE SECOND FORM's CARD OF 'bodkinlaw43.OutlinePartners'. -/
def outlinePartnersUptoCard : Claim7 := { stood := { row := outlinePartnersUptoRow, standIns := [], harness := (true, "9789c40eb8ac82e2d12376bead8b16047d0df3da193534cb0d69d41c3cc034a7"), looks := true }, kinds := [], alts := [], laidByText := true, laidKinds := [.data, .data, .data], laidTests := true, laidLooks := .later }
def OutlinePartnersUptoCardSaid : Prop := Claim7.holds Tryd.pinned (.plain (OpenSpec.upto outlinePartnersSpec)) outlinePartnersUptoCard

/-- THE SECOND FORM's CARD OF 'bodkinlaw43.OutlineBack'. -/
def outlineBackUptoCard : Claim7 := { stood := { row := outlineBackUptoRow, standIns := [], harness := (true, "9789c40eb8ac82e2d12376bead8b16047d0df3da193534cb0d69d41c3cc034a7"), looks := true }, kinds := [], alts := [], laidByText := true, laidKinds := [.data, .data, .data], laidTests := true, laidLooks := .later }
def OutlineBackUptoCardSaid : Prop := Claim7.holds Tryd.pinned (.plain (OpenSpec.upto outlineBackSpec)) outlineBackUptoCard

/-- THE SECOND FORM's CARD OF 'bodkinlaw43.OutlineNil'. -/
def outlineNilUptoCard : Claim7 := { stood := { row := outlineNilUptoRow, standIns := [], harness := (true, "9789c40eb8ac82e2d12376bead8b16047d0df3da193534cb0d69d41c3cc034a7"), looks := true }, kinds := [], alts := [], laidByText := true, laidKinds := [.data, .data, .data], laidTests := true, laidLooks := .later }
def OutlineNilUptoCardSaid : Prop := Claim7.holds Tryd.pinned (.plain (OpenSpec.upto outlineNilSpec)) outlineNilUptoCard
end Rows
end Go.Proofs.YtplpkeoakclobaaDoor

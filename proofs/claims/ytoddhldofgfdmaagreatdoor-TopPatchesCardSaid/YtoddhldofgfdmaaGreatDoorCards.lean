/-
  DERIVED. GIVEN WITH THE SEED: THE CARDS: each row of YtoddhldofgfdmaaGreatDoorRows.lean that lists a variable, with what it lists TIED to the program's text (the seventh form; the later family's looks); each row that meets fmt, with fmt's text TOLD by the authors' own Lean function (tested against real Go, not proved from fmt's source: count such statements apart). THE CARD IS WHAT COUNTS. Prove the row's statement (the work); the ties are given (YtoddhldofgfdmaaGreatDoorTie.lean); close each card by the builder's one call (the guide's Derived/Test/ToyasCard.lean, 'card_holds'). Laid BY PROGRAM, IN A SANDBOX (cutbox-door.mjs). By AI agents, Wed Nov 11 2026. No macro, syntax, notation, axiom, sorry.
-/
import Derived.Test.YtoddhldofgfdmaaGreatDoorRows
import GoSem.ClaimSeven
namespace Go.Proofs.YtoddhldofgfdmaaGreatDoor
namespace Rows

/-- THE TIED CARD OF 'bodkintop.TopRises'. -/
def topRisesCard : Claim7 := { stood := { row := topRisesRow, standIns := [], harness := (true, "5a433605d8d727df1b1aa9efdf0595aa7e37f9770103e4ddd0d56927e0df9308"), looks := true }, kinds := [], alts := [], laidByText := true, laidKinds := [.data, .data, .data], laidTests := true, laidLooks := .later }
def TopRisesCardSaid : Prop := Claim7.holds Tryz.pinned (.plain (OpenSpec.ofChange topRisesSpec)) topRisesCard

/-- THE TIED CARD OF 'bodkintop.TopPatches'. -/
def topPatchesCard : Claim7 := { stood := { row := topPatchesRow, standIns := [], harness := (true, "5a433605d8d727df1b1aa9efdf0595aa7e37f9770103e4ddd0d56927e0df9308"), looks := true }, kinds := [], alts := [], laidByText := true, laidKinds := [.data, .data, .data], laidTests := true, laidLooks := .later }
def TopPatchesCardSaid : Prop := Claim7.holds Tryz.pinned (.plain (OpenSpec.ofChange topPatchesSpec)) topPatchesCard

/-- THE TIED CARD OF 'bodkintop.TopTight'. -/
def topTightCard : Claim7 := { stood := { row := topTightRow, standIns := [], harness := (true, "5a433605d8d727df1b1aa9efdf0595aa7e37f9770103e4ddd0d56927e0df9308"), looks := true }, kinds := [], alts := [], laidByText := true, laidKinds := [.data, .data, .data], laidTests := true, laidLooks := .later }
def TopTightCardSaid : Prop := Claim7.holds Tryz.pinned (.plain (OpenSpec.ofChange topTightSpec)) topTightCard

/-- THE SECOND FORM's CARD OF 'bodkintop.TopRises'. -/
def topRisesUptoCard : Claim7 := { stood := { row := topRisesUptoRow, standIns := [], harness := (true, "5a433605d8d727df1b1aa9efdf0595aa7e37f9770103e4ddd0d56927e0df9308"), looks := true }, kinds := [], alts := [], laidByText := true, laidKinds := [.data, .data, .data], laidTests := true, laidLooks := .later }
def TopRisesUptoCardSaid : Prop := Claim7.holds Tryz.pinned (.plain (OpenSpec.upto topRisesSpec)) topRisesUptoCard

/-- THE SECOND FORM's CARD OF 'bodkintop.TopPatches'. -/
def topPatchesUptoCard : Claim7 := { stood := { row := topPatchesUptoRow, standIns := [], harness := (true, "5a433605d8d727df1b1aa9efdf0595aa7e37f9770103e4ddd0d56927e0df9308"), looks := true }, kinds := [], alts := [], laidByText := true, laidKinds := [.data, .data, .data], laidTests := true, laidLooks := .later }
def TopPatchesUptoCardSaid : Prop := Claim7.holds Tryz.pinned (.plain (OpenSpec.upto topPatchesSpec)) topPatchesUptoCard

/-- THE SECOND FORM's CARD OF 'bodkintop.TopTight'. -/
def topTightUptoCard : Claim7 := { stood := { row := topTightUptoRow, standIns := [], harness := (true, "5a433605d8d727df1b1aa9efdf0595aa7e37f9770103e4ddd0d56927e0df9308"), looks := true }, kinds := [], alts := [], laidByText := true, laidKinds := [.data, .data, .data], laidTests := true, laidLooks := .later }
def TopTightUptoCardSaid : Prop := Claim7.holds Tryz.pinned (.plain (OpenSpec.upto topTightSpec)) topTightUptoCard
end Rows
end Go.Proofs.YtoddhldofgfdmaaGreatDoor

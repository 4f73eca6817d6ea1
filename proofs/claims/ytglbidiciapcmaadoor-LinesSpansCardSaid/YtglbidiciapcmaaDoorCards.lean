/-
  DERIVED. GIVEN WITH THE SEED: THE CARDS: each row of YtglbidiciapcmaaDoorRows.lean that lists a variable, with what it lists TIED to the program's text (the seventh form; the later family's looks); each row that meets fmt, with fmt's text TOLD by the authors' own Lean function (tested against real Go, not proved from fmt's source: count such statements apart). THE CARD IS WHAT COUNTS. Prove the row's statement (the work); the ties are given (YtglbidiciapcmaaDoorTie.lean); close each card by the builder's one call (the guide's Derived/Test/ToyasCard.lean, 'card_holds'). Laid BY PROGRAM, IN A SANDBOX (cutbox-door.mjs). By AI agents, Wed Nov 11 2026. No macro, syntax, notation, axiom, sorry.
-/
import Derived.Test.YtglbidiciapcmaaDoorRows
import GoSem.ClaimSeven
namespace Go.Proofs.YtglbidiciapcmaaDoor
namespace Rows

/-- THE TIED CARD OF 'bodkinlaw08.LinesPoints'. -/
def linesPointsCard : Claim7 := { stood := { row := linesPointsRow, standIns := [], harness := (true, "759188afee2142be8fd7eb1d6b3567d9f73672f0f5c5d79e7a1af41e9bc7c955"), looks := true }, kinds := [], alts := [], laidByText := true, laidKinds := [.data], laidTests := true, laidLooks := .later }
def LinesPointsCardSaid : Prop := Claim7.holds Tryd.pinned (.plain (OpenSpec.ofChange linesPointsSpec)) linesPointsCard

/-- THE TIED CARD OF 'bodkinlaw08.LinesThere'. -/
def linesThereCard : Claim7 := { stood := { row := linesThereRow, standIns := [], harness := (true, "759188afee2142be8fd7eb1d6b3567d9f73672f0f5c5d79e7a1af41e9bc7c955"), looks := true }, kinds := [], alts := [], laidByText := true, laidKinds := [.data], laidTests := true, laidLooks := .later }
def LinesThereCardSaid : Prop := Claim7.holds Tryd.pinned (.plain (OpenSpec.ofChange linesThereSpec)) linesThereCard

/-- THE TIED CARD OF 'bodkinlaw08.LinesClips'. -/
def linesClipsCard : Claim7 := { stood := { row := linesClipsRow, standIns := [], harness := (true, "759188afee2142be8fd7eb1d6b3567d9f73672f0f5c5d79e7a1af41e9bc7c955"), looks := true }, kinds := [], alts := [], laidByText := true, laidKinds := [.data], laidTests := true, laidLooks := .later }
def LinesClipsCardSaid : Prop := Claim7.holds Tryd.pinned (.plain (OpenSpec.ofChange linesClipsSpec)) linesClipsCard

/-- THE TIED CARD OF 'bodkinlaw08.LinesNil'. -/
def linesNilCard : Claim7 := { stood := { row := linesNilRow, standIns := [], harness := (true, "759188afee2142be8fd7eb1d6b3567d9f73672f0f5c5d79e7a1af41e9bc7c955"), looks := true }, kinds := [], alts := [], laidByText := true, laidKinds := [.data], laidTests := true, laidLooks := .later }
def LinesNilCardSaid : Prop := Claim7.holds Tryd.pinned (.plain (OpenSpec.ofChange linesNilSpec)) linesNilCard

/-- THE TIED CARD OF 'bodkinlaw08.LinesSpans'. -/
def linesSpansCard : Claim7 := { stood := { row := linesSpansRow, standIns := [], harness := (true, "759188afee2142be8fd7eb1d6b3567d9f73672f0f5c5d79e7a1af41e9bc7c955"), looks := true }, kinds := [], alts := [], laidByText := true, laidKinds := [.data], laidTests := true, laidLooks := .later }
def LinesSpansCardSaid : Prop := Claim7.holds Tryd.pinned (.plain (OpenSpec.ofChange linesSpansSpec)) linesSpansCard

/-- THE SECOND FORM's CARD OF 'bodkinlaw08.LinesPoints'. -/
def linesPointsUptoCard : Claim7 := { stood := { row := linesPointsUptoRow, standIns := [], harness := (true, "759188afee2142be8fd7eb1d6b3567d9f73672f0f5c5d79e7a1af41e9bc7c955"), looks := true }, kinds := [], alts := [], laidByText := true, laidKinds := [.data], laidTests := true, laidLooks := .later }
def LinesPointsUptoCardSaid : Prop := Claim7.holds Tryd.pinned (.plain (OpenSpec.upto linesPointsSpec)) linesPointsUptoCard

/-- THE SECOND FORM's CARD OF 'bodkinlaw08.LinesThere'. -/
def linesThereUptoCard : Claim7 := { stood := { row := linesThereUptoRow, standIns := [], harness := (true, "759188afee2142be8fd7eb1d6b3567d9f73672f0f5c5d79e7a1af41e9bc7c955"), looks := true }, kinds := [], alts := [], laidByText := true, laidKinds := [.data], laidTests := true, laidLooks := .later }
def LinesThereUptoCardSaid : Prop := Claim7.holds Tryd.pinned (.plain (OpenSpec.upto linesThereSpec)) linesThereUptoCard

/-- THE SECOND FORM's CARD OF 'bodkinlaw08.LinesClips'. -/
def linesClipsUptoCard : Claim7 := { stood := { row := linesClipsUptoRow, standIns := [], harness := (true, "759188afee2142be8fd7eb1d6b3567d9f73672f0f5c5d79e7a1af41e9bc7c955"), looks := true }, kinds := [], alts := [], laidByText := true, laidKinds := [.data], laidTests := true, laidLooks := .later }
def LinesClipsUptoCardSaid : Prop := Claim7.holds Tryd.pinned (.plain (OpenSpec.upto linesClipsSpec)) linesClipsUptoCard

/-- THE SECOND FORM's CARD OF 'bodkinlaw08.LinesNil'. -/
def linesNilUptoCard : Claim7 := { stood := { row := linesNilUptoRow, standIns := [], harness := (true, "759188afee2142be8fd7eb1d6b3567d9f73672f0f5c5d79e7a1af41e9bc7c955"), looks := true }, kinds := [], alts := [], laidByText := true, laidKinds := [.data], laidTests := true, laidLooks := .later }
def LinesNilUptoCardSaid : Prop := Claim7.holds Tryd.pinned (.plain (OpenSpec.upto linesNilSpec)) linesNilUptoCard

/-- THE SECOND FORM's CARD OF 'bodkinlaw08.LinesSpans'. -/
def linesSpansUptoCard : Claim7 := { stood := { row := linesSpansUptoRow, standIns := [], harness := (true, "759188afee2142be8fd7eb1d6b3567d9f73672f0f5c5d79e7a1af41e9bc7c955"), looks := true }, kinds := [], alts := [], laidByText := true, laidKinds := [.data], laidTests := true, laidLooks := .later }
def LinesSpansUptoCardSaid : Prop := Claim7.holds Tryd.pinned (.plain (OpenSpec.upto linesSpansSpec)) linesSpansUptoCard
end Rows
end Go.Proofs.YtglbidiciapcmaaDoor

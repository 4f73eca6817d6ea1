/-
  DERIVED. GIVEN WITH THE SEED: THE CARDS: each row of YtchblkoipojcbaaDoorRows.lean that lists a variable, with what it lists TIED to the program's text (the seventh form; the later family's looks); each row that meets fmt, with fmt's text TOLD by the authors' own Lean function (tested against real Go, not proved from fmt's source: count such statements apart). THE CARD IS WHAT COUNTS. Prove the row's statement (the work); the ties are given (YtchblkoipojcbaaDoorTie.lean); close each card by the builder's one call (the guide's Derived/Test/ToyasCard.lean, 'card_holds'). Laid BY PROGRAM, IN A SANDBOX (cutbox-door.mjs). By AI agents, Wed Nov 11 2026. No macro, syntax, notation, axiom, sorry.
-/
import Derived.Test.YtchblkoipojcbaaDoorRows
import GoSem.ClaimSeven
namespace Go.Proofs.YtchblkoipojcbaaDoor
namespace Rows

/-- THE TIED CARD OF 'bodkinlaw02.WidthPlain'. -/
def widthPlainCard : Claim7 := { stood := { row := widthPlainRow, standIns := [], harness := (true, "4ed54e42468d87f37f308d041983f33d4bf089007234e5930e748c9e5e8ef2dc"), looks := false }, kinds := [], alts := [], laidByText := true, laidKinds := [.data, .data], laidTests := true, laidLooks := .later }
def WidthPlainCardSaid : Prop := Claim7.holds Tryd.pinned (.plain (OpenSpec.ofChange widthPlainSpec)) widthPlainCard

/-- THE TIED CARD OF 'bodkinlaw02.WidthSums'. -/
def widthSumsCard : Claim7 := { stood := { row := widthSumsRow, standIns := [], harness := (true, "4ed54e42468d87f37f308d041983f33d4bf089007234e5930e748c9e5e8ef2dc"), looks := false }, kinds := [], alts := [], laidByText := true, laidKinds := [.data, .data], laidTests := true, laidLooks := .later }
def WidthSumsCardSaid : Prop := Claim7.holds Tryd.pinned (.plain (OpenSpec.ofChange widthSumsSpec)) widthSumsCard

/-- THE TIED CARD OF 'bodkinlaw02.WidthNil'. -/
def widthNilCard : Claim7 := { stood := { row := widthNilRow, standIns := [], harness := (true, "4ed54e42468d87f37f308d041983f33d4bf089007234e5930e748c9e5e8ef2dc"), looks := false }, kinds := [], alts := [], laidByText := true, laidKinds := [.data, .data], laidTests := true, laidLooks := .later }
def WidthNilCardSaid : Prop := Claim7.holds Tryd.pinned (.plain (OpenSpec.ofChange widthNilSpec)) widthNilCard

/-- THE TIED CARD OF 'bodkinlaw02.WidthTables'. -/
def widthTablesCard : Claim7 := { stood := { row := widthTablesRow, standIns := [], harness := (true, "4ed54e42468d87f37f308d041983f33d4bf089007234e5930e748c9e5e8ef2dc"), looks := false }, kinds := [], alts := [], laidByText := true, laidKinds := [.data, .data], laidTests := true, laidLooks := .later }
def WidthTablesCardSaid : Prop := Claim7.holds Tryd.pinned (.plain (OpenSpec.ofChange widthTablesSpec)) widthTablesCard

/-- THE TIED CARD OF 'bodkinlaw02.WidthKeeps'. -/
def widthKeepsCard : Claim7 := { stood := { row := widthKeepsRow, standIns := [], harness := (true, "4ed54e42468d87f37f308d041983f33d4bf089007234e5930e748c9e5e8ef2dc"), looks := false }, kinds := [], alts := [], laidByText := true, laidKinds := [.data, .data], laidTests := true, laidLooks := .later }
def WidthKeepsCardSaid : Prop := Claim7.holds Tryd.pinned (.plain (OpenSpec.ofChange widthKeepsSpec)) widthKeepsCard

/-- THE SECOND FORM's CARD OF 'bodkinlaw02.WidthPlain'. -/
def widthPlainUptoCard : Claim7 := { stood := { row := widthPlainUptoRow, standIns := [], harness := (true, "4ed54e42468d87f37f308d041983f33d4bf089007234e5930e748c9e5e8ef2dc"), looks := false }, kinds := [], alts := [], laidByText := true, laidKinds := [.data, .data], laidTests := true, laidLooks := .later }
def WidthPlainUptoCardSaid : Prop := Claim7.holds Tryd.pinned (.plain (OpenSpec.upto widthPlainSpec)) widthPlainUptoCard

/-- THE SECOND FORM's CARD OF 'bodkinlaw02.WidthSums'. -/
def widthSumsUptoCard : Claim7 := { stood := { row := widthSumsUptoRow, standIns := [], harness := (true, "4ed54e42468d87f37f308d041983f33d4bf089007234e5930e748c9e5e8ef2dc"), looks := false }, kinds := [], alts := [], laidByText := true, laidKinds := [.data, .data], laidTests := true, laidLooks := .later }
def WidthSumsUptoCardSaid : Prop := Claim7.holds Tryd.pinned (.plain (OpenSpec.upto widthSumsSpec)) widthSumsUptoCard

/-- THE SECOND FORM's CARD OF 'bodkinlaw02.WidthNil'. -/
def widthNilUptoCard : Claim7 := { stood := { row := widthNilUptoRow, standIns := [], harness := (true, "4ed54e42468d87f37f308d041983f33d4bf089007234e5930e748c9e5e8ef2dc"), looks := false }, kinds := [], alts := [], laidByText := true, laidKinds := [.data, .data], laidTests := true, laidLooks := .later }
def WidthNilUptoCardSaid : Prop := Claim7.holds Tryd.pinned (.plain (OpenSpec.upto widthNilSpec)) widthNilUptoCard

/-- THE SECOND FORM's CARD OF 'bodkinlaw02.WidthTables'. -/
def widthTablesUptoCard : Claim7 := { stood := { row := widthTablesUptoRow, standIns := [], harness := (true, "4ed54e42468d87f37f308d041983f33d4bf089007234e5930e748c9e5e8ef2dc"), looks := false }, kinds := [], alts := [], laidByText := true, laidKinds := [.data, .data], laidTests := true, laidLooks := .later }
def WidthTablesUptoCardSaid : Prop := Claim7.holds Tryd.pinned (.plain (OpenSpec.upto widthTablesSpec)) widthTablesUptoCard

/-- THE SECOND FORM's CARD OF 'bodkinlaw02.WidthKeeps'. -/
def widthKeepsUptoCard : Claim7 := { stood := { row := widthKeepsUptoRow, standIns := [], harness := (true, "4ed54e42468d87f37f308d041983f33d4bf089007234e5930e748c9e5e8ef2dc"), looks := false }, kinds := [], alts := [], laidByText := true, laidKinds := [.data, .data], laidTests := true, laidLooks := .later }
def WidthKeepsUptoCardSaid : Prop := Claim7.holds Tryd.pinned (.plain (OpenSpec.upto widthKeepsSpec)) widthKeepsUptoCard
end Rows
end Go.Proofs.YtchblkoipojcbaaDoor

/-
  NARROWER THAN 'FOR EVERY INPUT', by the rows' own cells (each row's printed sentence says how): OutlineIndents: laid · OutlineNests: laid · OutlineRanges: laid · OutlinePartners: laid · OutlineBack: laid · OutlineNil: laid.
  DERIVED. THE GIVEN ROWS OF THIS SEAT. 6 by the template 'for every input the law returns true; each argument reads behind the call as it read before'; 0 by the template 'total and deterministic' (their statements: YtplpkeoakclobaaDoorTotals.lean).
  GIVEN WITH THE SEED: the statements are not yours to turn. If you find one false, say at which input.
  Laid BY PROGRAM, IN A SANDBOX (cutbox-rows.mjs): the forced cells as the released guide's own fill.sh prints them over the translation 4513003a5250d729… (all of the seat's roots in one cut). By AI agents, Wed Nov 11 2026. No macro, syntax, notation, axiom, sorry.
-/
import Derived.Test.YtplpkeoakclobaaDoorChecked
import GoSem.Claim
import GoSem.ClaimJoined
import GoSem.ClaimMapViews
import Derived.JoinedTies
import Derived.KernelRfl
namespace Go.Proofs.YtplpkeoakclobaaDoor
/- THE CELL 'sum', in the pinned program and in every row, IS THE sha256 OF THE DUMP (.gsa) THAT YtplpkeoakclobaaDoorProg.lean LOADS. Nothing in Lean hashes anything: it is a label: what it is worth is what the hold of that sum in a sandbox is worth. -/
noncomputable def Tryd.pinned : Pinned := { name := "ytplpkeoakclobaadoor", sum := "4513003a5250d729d127f33d863c70e4512cc72a7a917ff9f79b35e99110096a", checked := Tryd.checked }
namespace Rows
def none {H : Type} : Left H := { results := [], args := [] }

/- WHAT THE LISTED PACKAGE-LEVEL VARIABLES READ AS WHEN THE CALL BEGINS. Each datum BY PROGRAM (the guide's laid-datum.mjs) off the statement by which the dump's own 'gosem.cut.vars' lays the variable. In a bare row this is a premise. The card (YtplpkeoakclobaaDoorCards.lean) ties it to the program's text. -/
def laid_bodkin_utf_most {H : Type} : DataW H := .agg [.lit (.int .i32 127), .lit (.int .i32 2047), .lit (.int .i32 65535), .lit (.int .i32 1114111)]
def laid_bodkin_width_plainZero {H : Type} : DataW H := .agg [.agg [.lit (.int .i32 768), .lit (.int .i32 879)], .agg [.lit (.int .i32 8203), .lit (.int .i32 8207)], .agg [.lit (.int .i32 65024), .lit (.int .i32 65039)]]
def laid_bodkin_width_plainWide {H : Type} : DataW H := .agg [.agg [.lit (.int .i32 4352), .lit (.int .i32 4447)], .agg [.lit (.int .i32 11904), .lit (.int .i32 12350)], .agg [.lit (.int .i32 12353), .lit (.int .i32 19903)], .agg [.lit (.int .i32 19968), .lit (.int .i32 40959)], .agg [.lit (.int .i32 44032), .lit (.int .i32 55203)], .agg [.lit (.int .i32 63744), .lit (.int .i32 64255)], .agg [.lit (.int .i32 65280), .lit (.int .i32 65376)], .agg [.lit (.int .i32 127744), .lit (.int .i32 128591)]]

/-- 'bodkinlaw43.OutlineIndents': WHATEVER THE INPUT: true; the input reads as it did. -/
def outlineIndentsSpec : ChangeSpec := { name := "outlineIndents", fn := fun _ => fun
  | [d1, d2] => { results := [.lit (.bool true)], args := [d1, d2] }
  | _ => none }
def outlineIndentsRow : OpenClaim := { program := "ytplpkeoakclobaadoor", sum := "4513003a5250d729d127f33d863c70e4512cc72a7a917ff9f79b35e99110096a", func := "bodkin/bodkinlaw43.OutlineIndents", spec := "outlineIndents", inPlace := ["internal/abi.NoEscape"], unfollowed := true, recurses := true, named := ["bodkin/utf.most", "bodkin/width.plainZero", "bodkin/width.plainWide"], apart := false, laid := [("bodkin/utf.most", laid_bodkin_utf_most), ("bodkin/width.plainZero", laid_bodkin_width_plainZero), ("bodkin/width.plainWide", laid_bodkin_width_plainWide)] }
def OutlineIndentsSaid : Prop := outlineIndentsRow.holds Tryd.pinned (OpenSpec.ofChange outlineIndentsSpec)

/-- ITS FALSE NEIGHBOUR: 'it returns false'. Refute it at one input. -/
def outlineIndentsWrong : ChangeSpec := { name := "outlineIndents", fn := fun _ => fun
  | [d1, d2] => { results := [.lit (.bool false)], args := [d1, d2] }
  | _ => none }
def OutlineIndentsWrongFalsely : Prop := outlineIndentsRow.holds Tryd.pinned (OpenSpec.ofChange outlineIndentsWrong)

/-- 'bodkinlaw43.OutlineNests': WHATEVER THE INPUT: true; the input reads as it did. -/
def outlineNestsSpec : ChangeSpec := { name := "outlineNests", fn := fun _ => fun
  | [d1, d2] => { results := [.lit (.bool true)], args := [d1, d2] }
  | _ => none }
def outlineNestsRow : OpenClaim := { program := "ytplpkeoakclobaadoor", sum := "4513003a5250d729d127f33d863c70e4512cc72a7a917ff9f79b35e99110096a", func := "bodkin/bodkinlaw43.OutlineNests", spec := "outlineNests", inPlace := ["internal/abi.NoEscape"], unfollowed := true, recurses := true, named := ["bodkin/utf.most", "bodkin/width.plainZero", "bodkin/width.plainWide"], apart := false, laid := [("bodkin/utf.most", laid_bodkin_utf_most), ("bodkin/width.plainZero", laid_bodkin_width_plainZero), ("bodkin/width.plainWide", laid_bodkin_width_plainWide)] }
def OutlineNestsSaid : Prop := outlineNestsRow.holds Tryd.pinned (OpenSpec.ofChange outlineNestsSpec)

/-- ITS FALSE NEIGHBOUR: 'it returns false'. Refute it at one input. -/
def outlineNestsWrong : ChangeSpec := { name := "outlineNests", fn := fun _ => fun
  | [d1, d2] => { results := [.lit (.bool false)], args := [d1, d2] }
  | _ => none }
def OutlineNestsWrongFalsely : Prop := outlineNestsRow.holds Tryd.pinned (OpenSpec.ofChange outlineNestsWrong)

/-- 'bodkinlaw43.OutlineRanges': WHATEVER THE INPUT: true; the input reads as it did. -/
def outlineRangesSpec : ChangeSpec := { name := "outlineRanges", fn := fun _ => fun
  | [d1, d2, d3] => { results := [.lit (.bool true)], args := [d1, d2, d3] }
  | _ => none }
def outlineRangesRow : OpenClaim := { program := "ytplpkeoakclobaadoor", sum := "4513003a5250d729d127f33d863c70e4512cc72a7a917ff9f79b35e99110096a", func := "bodkin/bodkinlaw43.OutlineRanges", spec := "outlineRanges", inPlace := ["internal/abi.NoEscape"], unfollowed := true, recurses := true, named := ["bodkin/utf.most", "bodkin/width.plainZero", "bodkin/width.plainWide"], apart := false, laid := [("bodkin/utf.most", laid_bodkin_utf_most), ("bodkin/width.plainZero", laid_bodkin_width_plainZero), ("bodkin/width.plainWide", laid_bodkin_width_plainWide)] }
def OutlineRangesSaid : Prop := outlineRangesRow.holds Tryd.pinned (OpenSpec.ofChange outlineRangesSpec)

/-- ITS FALSE NEIGHBOUR: 'it returns false'. Refute it at one input. -/
def outlineRangesWrong : ChangeSpec := { name := "outlineRanges", fn := fun _ => fun
  | [d1, d2, d3] => { results := [.lit (.bool false)], args := [d1, d2, d3] }
  | _ => none }
def OutlineRangesWrongFalsely : Prop := outlineRangesRow.holds Tryd.pinned (OpenSpec.ofChange outlineRangesWrong)

/-- 'bodkinlaw43.OutlinePartners': WHATEVER THE INPUT: true; the input reads as it did. -/
def outlinePartnersSpec : ChangeSpec := { name := "outlinePartners", fn := fun _ => fun
  | [d1, d2] => { results := [.lit (.bool true)], args := [d1, d2] }
  | _ => none }
def outlinePartnersRow : OpenClaim := { program := "ytplpkeoakclobaadoor", sum := "4513003a5250d729d127f33d863c70e4512cc72a7a917ff9f79b35e99110096a", func := "bodkin/bodkinlaw43.OutlinePartners", spec := "outlinePartners", inPlace := ["internal/abi.NoEscape", "internal/bytealg.MakeNoZero"], unfollowed := true, recurses := true, named := ["bodkin/utf.most", "bodkin/width.plainZero", "bodkin/width.plainWide"], apart := false, laid := [("bodkin/utf.most", laid_bodkin_utf_most), ("bodkin/width.plainZero", laid_bodkin_width_plainZero), ("bodkin/width.plainWide", laid_bodkin_width_plainWide)] }
def OutlinePartnersSaid : Prop := outlinePartnersRow.holds Tryd.pinned (OpenSpec.ofChange outlinePartnersSpec)

/-- ITS FALSE NEIGHBOUR: 'it returns false'. Refute it at one input. -/
def outlinePartnersWrong : ChangeSpec := { name := "outlinePartners", fn := fun _ => fun
  | [d1, d2] => { results := [.lit (.bool false)], args := [d1, d2] }
  | _ => none }
def OutlinePartnersWrongFalsely : Prop := outlinePartnersRow.holds Tryd.pinned (OpenSpec.ofChange outlinePartnersWrong)

/-- 'bodkinlaw43.OutlineBack': WHATEVER THE INPUT: true; the input reads as it did. -/
def outlineBackSpec : ChangeSpec := { name := "outlineBack", fn := fun _ => fun
  | [d] => { results := [.lit (.bool true)], args := [d] }
  | _ => none }
def outlineBackRow : OpenClaim := { program := "ytplpkeoakclobaadoor", sum := "4513003a5250d729d127f33d863c70e4512cc72a7a917ff9f79b35e99110096a", func := "bodkin/bodkinlaw43.OutlineBack", spec := "outlineBack", inPlace := ["internal/abi.NoEscape", "internal/bytealg.MakeNoZero"], unfollowed := true, recurses := true, named := ["bodkin/utf.most", "bodkin/width.plainZero", "bodkin/width.plainWide"], apart := false, laid := [("bodkin/utf.most", laid_bodkin_utf_most), ("bodkin/width.plainZero", laid_bodkin_width_plainZero), ("bodkin/width.plainWide", laid_bodkin_width_plainWide)] }
def OutlineBackSaid : Prop := outlineBackRow.holds Tryd.pinned (OpenSpec.ofChange outlineBackSpec)

/-- ITS FALSE NEIGHBOUR: 'it returns false'. Refute it at one input. -/
def outlineBackWrong : ChangeSpec := { name := "outlineBack", fn := fun _ => fun
  | [d] => { results := [.lit (.bool false)], args := [d] }
  | _ => none }
def OutlineBackWrongFalsely : Prop := outlineBackRow.holds Tryd.pinned (OpenSpec.ofChange outlineBackWrong)

/-- 'bodkinlaw43.OutlineNil': WHATEVER THE INPUT: true; the input reads as it did. -/
def outlineNilSpec : ChangeSpec := { name := "outlineNil", fn := fun _ => fun
  | [d] => { results := [.lit (.bool true)], args := [d] }
  | _ => none }
def outlineNilRow : OpenClaim := { program := "ytplpkeoakclobaadoor", sum := "4513003a5250d729d127f33d863c70e4512cc72a7a917ff9f79b35e99110096a", func := "bodkin/bodkinlaw43.OutlineNil", spec := "outlineNil", inPlace := ["internal/abi.NoEscape", "internal/bytealg.MakeNoZero"], unfollowed := true, recurses := true, named := ["bodkin/width.plainZero", "bodkin/width.plainWide", "bodkin/utf.most"], apart := false, laid := [("bodkin/utf.most", laid_bodkin_utf_most), ("bodkin/width.plainZero", laid_bodkin_width_plainZero), ("bodkin/width.plainWide", laid_bodkin_width_plainWide)] }
def OutlineNilSaid : Prop := outlineNilRow.holds Tryd.pinned (OpenSpec.ofChange outlineNilSpec)

/-- ITS FALSE NEIGHBOUR: 'it returns false'. Refute it at one input. -/
def outlineNilWrong : ChangeSpec := { name := "outlineNil", fn := fun _ => fun
  | [d] => { results := [.lit (.bool false)], args := [d] }
  | _ => none }
def OutlineNilWrongFalsely : Prop := outlineNilRow.holds Tryd.pinned (OpenSpec.ofChange outlineNilWrong)

/- THE SECOND FORM. 'bulk': how many values and letters a reading holds, each counted each time it is reached (what is shared counts as often as it is met; a slice's spare places count too). A statement '..UptoSaid' is the law's where the arguments, and the package variables that the reading takes, are together of bulk at most 1048576: NARROWER than '..Said'. Prove '..Said' where nothing that the law and all that it calls make is longer than what came in: it says more and counts as full. Else prove '..UptoSaid'. A law counts once. -/
mutual
def uptoBulk {H : Type} : DataW H → Nat
  | .lit (.string bytes) => bytes.length + 1
  | .lit _ => 1
  | .nil => 1
  | .ptr d => uptoBulk d + 1
  | .slice elems spare => uptoBulkAll elems + uptoBulkAll spare + 1
  | .agg parts => uptoBulkAll parts + 1
  | .iface _ d => uptoBulk d + 1
  | .map entries => uptoBulkEntries entries + 1
  | .held _ => 1
def uptoBulkAll {H : Type} : List (DataW H) → Nat
  | [] => 0
  | d :: r => uptoBulk d + uptoBulkAll r
def uptoBulkEntries {H : Type} : List (Lit × DataW H) → Nat
  | [] => 0
  | x :: r => uptoBulkEntry x + uptoBulkEntries r
def uptoBulkEntry {H : Type} : Lit × DataW H → Nat
  | (.string bytes, d) => bytes.length + uptoBulk d + 1
  | (_, d) => uptoBulk d + 1
 end
def uptoSmall : (H : Type) → List (DataW H) → Bool := fun _ ds => decide (uptoBulkAll ds ≤ 1048576)
def OpenSpec.upto (s : _root_.Go.ChangeSpec) : _root_.Go.OpenSpec := { _root_.Go.OpenSpec.ofChange s with cond := some uptoSmall }

/-- 'bodkinlaw43.OutlineIndents', WHERE WHAT IT READS IS OF BULK AT MOST 1048576: true; the input reads as it did. -/
def outlineIndentsUptoRow : OpenClaim := { program := "ytplpkeoakclobaadoor", sum := "4513003a5250d729d127f33d863c70e4512cc72a7a917ff9f79b35e99110096a", func := "bodkin/bodkinlaw43.OutlineIndents", spec := "outlineIndents", inPlace := ["internal/abi.NoEscape"], unfollowed := true, recurses := true, named := ["bodkin/utf.most", "bodkin/width.plainZero", "bodkin/width.plainWide"], apart := false, laid := [("bodkin/utf.most", laid_bodkin_utf_most), ("bodkin/width.plainZero", laid_bodkin_width_plainZero), ("bodkin/width.plainWide", laid_bodkin_width_plainWide)], narrowed := true }
def OutlineIndentsUptoSaid : Prop := outlineIndentsUptoRow.holds Tryd.pinned (OpenSpec.upto outlineIndentsSpec)

/-- 'bodkinlaw43.OutlineNests', WHERE WHAT IT READS IS OF BULK AT MOST 1048576: true; the input reads as it did. -/
def outlineNestsUptoRow : OpenClaim := { program := "ytplpkeoakclobaadoor", sum := "4513003a5250d729d127f33d863c70e4512cc72a7a917ff9f79b35e99110096a", func := "bodkin/bodkinlaw43.OutlineNests", spec := "outlineNests", inPlace := ["internal/abi.NoEscape"], unfollowed := true, recurses := true, named := ["bodkin/utf.most", "bodkin/width.plainZero", "bodkin/width.plainWide"], apart := false, laid := [("bodkin/utf.most", laid_bodkin_utf_most), ("bodkin/width.plainZero", laid_bodkin_width_plainZero), ("bodkin/width.plainWide", laid_bodkin_width_plainWide)], narrowed := true }
def OutlineNestsUptoSaid : Prop := outlineNestsUptoRow.holds Tryd.pinned (OpenSpec.upto outlineNestsSpec)

/-- 'bodkinlaw43.OutlineRanges', WHERE WHAT IT READS IS OF BULK AT MOST 1048576: true; the input reads as it did. -/
def outlineRangesUptoRow : OpenClaim := { program := "ytplpkeoakclobaadoor", sum := "4513003a5250d729d127f33d863c70e4512cc72a7a917ff9f79b35e99110096a", func := "bodkin/bodkinlaw43.OutlineRanges", spec := "outlineRanges", inPlace := ["internal/abi.NoEscape"], unfollowed := true, recurses := true, named := ["bodkin/utf.most", "bodkin/width.plainZero", "bodkin/width.plainWide"], apart := false, laid := [("bodkin/utf.most", laid_bodkin_utf_most), ("bodkin/width.plainZero", laid_bodkin_width_plainZero), ("bodkin/width.plainWide", laid_bodkin_width_plainWide)], narrowed := true }
def OutlineRangesUptoSaid : Prop := outlineRangesUptoRow.holds Tryd.pinned (OpenSpec.upto outlineRangesSpec)

/-- 'bodkinlaw43.OutlinePartners', WHERE WHAT IT READS IS OF BULK AT MOST 1048576: true; the input reads as it did. -/
def outlinePartnersUptoRow : OpenClaim := { program := "ytplpkeoakclobaadoor", sum := "4513003a5250d729d127f33d863c70e4512cc72a7a917ff9f79b35e99110096a", func := "bodkin/bodkinlaw43.OutlinePartners", spec := "outlinePartners", inPlace := ["internal/abi.NoEscape", "internal/bytealg.MakeNoZero"], unfollowed := true, recurses := true, named := ["bodkin/utf.most", "bodkin/width.plainZero", "bodkin/width.plainWide"], apart := false, laid := [("bodkin/utf.most", laid_bodkin_utf_most), ("bodkin/width.plainZero", laid_bodkin_width_plainZero), ("bodkin/width.plainWide", laid_bodkin_width_plainWide)], narrowed := true }
def OutlinePartnersUptoSaid : Prop := outlinePartnersUptoRow.holds Tryd.pinned (OpenSpec.upto outlinePartnersSpec)

/-- 'bodkinlaw43.OutlineBack', WHERE WHAT IT READS IS OF BULK AT MOST 1048576: true; the input reads as it did. -/
def outlineBackUptoRow : OpenClaim := { program := "ytplpkeoakclobaadoor", sum := "4513003a5250d729d127f33d863c70e4512cc72a7a917ff9f79b35e99110096a", func := "bodkin/bodkinlaw43.OutlineBack", spec := "outlineBack", inPlace := ["internal/abi.NoEscape", "internal/bytealg.MakeNoZero"], unfollowed := true, recurses := true, named := ["bodkin/utf.most", "bodkin/width.plainZero", "bodkin/width.plainWide"], apart := false, laid := [("bodkin/utf.most", laid_bodkin_utf_most), ("bodkin/width.plainZero", laid_bodkin_width_plainZero), ("bodkin/width.plainWide", laid_bodkin_width_plainWide)], narrowed := true }
def OutlineBackUptoSaid : Prop := outlineBackUptoRow.holds Tryd.pinned (OpenSpec.upto outlineBackSpec)

/-- 'bodkinlaw43.OutlineNil', WHERE WHAT IT READS IS OF BULK AT MOST 1048576: true; the input reads as it did. -/
def outlineNilUptoRow : OpenClaim := { program := "ytplpkeoakclobaadoor", sum := "4513003a5250d729d127f33d863c70e4512cc72a7a917ff9f79b35e99110096a", func := "bodkin/bodkinlaw43.OutlineNil", spec := "outlineNil", inPlace := ["internal/abi.NoEscape", "internal/bytealg.MakeNoZero"], unfollowed := true, recurses := true, named := ["bodkin/width.plainZero", "bodkin/width.plainWide", "bodkin/utf.most"], apart := false, laid := [("bodkin/utf.most", laid_bodkin_utf_most), ("bodkin/width.plainZero", laid_bodkin_width_plainZero), ("bodkin/width.plainWide", laid_bodkin_width_plainWide)], narrowed := true }
def OutlineNilUptoSaid : Prop := outlineNilUptoRow.holds Tryd.pinned (OpenSpec.upto outlineNilSpec)

end Rows
end Go.Proofs.YtplpkeoakclobaaDoor

/-
  NARROWER THAN 'FOR EVERY INPUT', by the rows' own cells (each row's printed sentence says how): BatchChecks: laid · BatchApplies: laid · BatchUndoes: laid · BatchOnes: laid · BatchNil: laid · HistoryTexts: laid.
  DERIVED. THE GIVEN ROWS OF THIS SEAT. 6 by the template 'for every input the law returns true; each argument reads behind the call as it read before'; 0 by the template 'total and deterministic' (their statements: YtpjmmhbdondknaaDoorTotals.lean).
  GIVEN WITH THE SEED: the statements are not yours to turn. If you find one false, say at which input.
  Laid BY PROGRAM, IN A SANDBOX (cutbox-rows.mjs): the forced cells as the released guide's own fill.sh prints them over the translation 3d132888ea0fed81… (all of the seat's roots in one cut). By AI agents, Wed Nov 11 2026. No macro, syntax, notation, axiom, sorry.
-/
import Derived.Test.YtpjmmhbdondknaaDoorChecked
import GoSem.Claim
import GoSem.ClaimJoined
import GoSem.ClaimMapViews
import Derived.JoinedTies
import Derived.KernelRfl
namespace Go.Proofs.YtpjmmhbdondknaaDoor
/- THE CELL 'sum', in the pinned program and in every row, IS THE sha256 OF THE DUMP (.gsa) THAT YtpjmmhbdondknaaDoorProg.lean LOADS. Nothing in Lean hashes anything: it is a label: what it is worth is what the hold of that sum in a sandbox is worth. -/
noncomputable def Tryd.pinned : Pinned := { name := "ytpjmmhbdondknaadoor", sum := "3d132888ea0fed81f26bd6a5916acfa6440b449aa0ebf2831c7066ae3a42e645", checked := Tryd.checked }
namespace Rows
def none {H : Type} : Left H := { results := [], args := [] }

/- WHAT THE LISTED PACKAGE-LEVEL VARIABLES READ AS WHEN THE CALL BEGINS. Each datum BY PROGRAM (the guide's laid-datum.mjs) off the statement by which the dump's own 'gosem.cut.vars' lays the variable. In a bare row this is a premise. The card (YtpjmmhbdondknaaDoorCards.lean) ties it to the program's text. -/
def laid_bodkin_utf_most {H : Type} : DataW H := .agg [.lit (.int .i32 127), .lit (.int .i32 2047), .lit (.int .i32 65535), .lit (.int .i32 1114111)]

/-- 'bodkinlaw09.BatchChecks': WHATEVER THE INPUT: true; the input reads as it did. -/
def batchChecksSpec : ChangeSpec := { name := "batchChecks", fn := fun _ => fun
  | [d1, d2] => { results := [.lit (.bool true)], args := [d1, d2] }
  | _ => none }
def batchChecksRow : OpenClaim := { program := "ytpjmmhbdondknaadoor", sum := "3d132888ea0fed81f26bd6a5916acfa6440b449aa0ebf2831c7066ae3a42e645", func := "bodkin/bodkinlaw09.BatchChecks", spec := "batchChecks", inPlace := ["internal/abi.NoEscape", "internal/bytealg.MakeNoZero"], unfollowed := true, recurses := true, named := ["bodkin/utf.most"], apart := false, laid := [("bodkin/utf.most", laid_bodkin_utf_most)] }
def BatchChecksSaid : Prop := batchChecksRow.holds Tryd.pinned (OpenSpec.ofChange batchChecksSpec)

/-- ITS FALSE NEIGHBOUR: 'it returns false'. Refute it at one input. -/
def batchChecksWrong : ChangeSpec := { name := "batchChecks", fn := fun _ => fun
  | [d1, d2] => { results := [.lit (.bool false)], args := [d1, d2] }
  | _ => none }
def BatchChecksWrongFalsely : Prop := batchChecksRow.holds Tryd.pinned (OpenSpec.ofChange batchChecksWrong)

/-- 'bodkinlaw09.BatchApplies': WHATEVER THE INPUT: true; the input reads as it did. -/
def batchAppliesSpec : ChangeSpec := { name := "batchApplies", fn := fun _ => fun
  | [d1, d2] => { results := [.lit (.bool true)], args := [d1, d2] }
  | _ => none }
def batchAppliesRow : OpenClaim := { program := "ytpjmmhbdondknaadoor", sum := "3d132888ea0fed81f26bd6a5916acfa6440b449aa0ebf2831c7066ae3a42e645", func := "bodkin/bodkinlaw09.BatchApplies", spec := "batchApplies", inPlace := ["internal/abi.NoEscape", "internal/bytealg.MakeNoZero"], unfollowed := true, recurses := true, named := ["bodkin/utf.most"], apart := false, laid := [("bodkin/utf.most", laid_bodkin_utf_most)] }
def BatchAppliesSaid : Prop := batchAppliesRow.holds Tryd.pinned (OpenSpec.ofChange batchAppliesSpec)

/-- ITS FALSE NEIGHBOUR: 'it returns false'. Refute it at one input. -/
def batchAppliesWrong : ChangeSpec := { name := "batchApplies", fn := fun _ => fun
  | [d1, d2] => { results := [.lit (.bool false)], args := [d1, d2] }
  | _ => none }
def BatchAppliesWrongFalsely : Prop := batchAppliesRow.holds Tryd.pinned (OpenSpec.ofChange batchAppliesWrong)

/-- 'bodkinlaw09.BatchUndoes': WHATEVER THE INPUT: true; the input reads as it did. -/
def batchUndoesSpec : ChangeSpec := { name := "batchUndoes", fn := fun _ => fun
  | [d1, d2] => { results := [.lit (.bool true)], args := [d1, d2] }
  | _ => none }
def batchUndoesRow : OpenClaim := { program := "ytpjmmhbdondknaadoor", sum := "3d132888ea0fed81f26bd6a5916acfa6440b449aa0ebf2831c7066ae3a42e645", func := "bodkin/bodkinlaw09.BatchUndoes", spec := "batchUndoes", inPlace := ["internal/abi.NoEscape", "internal/bytealg.MakeNoZero"], unfollowed := true, recurses := true, named := ["bodkin/utf.most"], apart := false, laid := [("bodkin/utf.most", laid_bodkin_utf_most)] }
def BatchUndoesSaid : Prop := batchUndoesRow.holds Tryd.pinned (OpenSpec.ofChange batchUndoesSpec)

/-- ITS FALSE NEIGHBOUR: 'it returns false'. Refute it at one input. -/
def batchUndoesWrong : ChangeSpec := { name := "batchUndoes", fn := fun _ => fun
  | [d1, d2] => { results := [.lit (.bool false)], args := [d1, d2] }
  | _ => none }
def BatchUndoesWrongFalsely : Prop := batchUndoesRow.holds Tryd.pinned (OpenSpec.ofChange batchUndoesWrong)

/-- 'bodkinlaw09.BatchOnes': WHATEVER THE INPUT: true; the input reads as it did. -/
def batchOnesSpec : ChangeSpec := { name := "batchOnes", fn := fun _ => fun
  | [d1, d2] => { results := [.lit (.bool true)], args := [d1, d2] }
  | _ => none }
def batchOnesRow : OpenClaim := { program := "ytpjmmhbdondknaadoor", sum := "3d132888ea0fed81f26bd6a5916acfa6440b449aa0ebf2831c7066ae3a42e645", func := "bodkin/bodkinlaw09.BatchOnes", spec := "batchOnes", inPlace := ["internal/abi.NoEscape", "internal/bytealg.MakeNoZero"], unfollowed := true, recurses := true, named := ["bodkin/utf.most"], apart := false, laid := [("bodkin/utf.most", laid_bodkin_utf_most)] }
def BatchOnesSaid : Prop := batchOnesRow.holds Tryd.pinned (OpenSpec.ofChange batchOnesSpec)

/-- ITS FALSE NEIGHBOUR: 'it returns false'. Refute it at one input. -/
def batchOnesWrong : ChangeSpec := { name := "batchOnes", fn := fun _ => fun
  | [d1, d2] => { results := [.lit (.bool false)], args := [d1, d2] }
  | _ => none }
def BatchOnesWrongFalsely : Prop := batchOnesRow.holds Tryd.pinned (OpenSpec.ofChange batchOnesWrong)

/-- 'bodkinlaw09.BatchNil': WHATEVER THE INPUT: true; the input reads as it did. -/
def batchNilSpec : ChangeSpec := { name := "batchNil", fn := fun _ => fun
  | [d] => { results := [.lit (.bool true)], args := [d] }
  | _ => none }
def batchNilRow : OpenClaim := { program := "ytpjmmhbdondknaadoor", sum := "3d132888ea0fed81f26bd6a5916acfa6440b449aa0ebf2831c7066ae3a42e645", func := "bodkin/bodkinlaw09.BatchNil", spec := "batchNil", inPlace := ["internal/abi.NoEscape", "internal/bytealg.MakeNoZero"], unfollowed := true, recurses := true, named := ["bodkin/utf.most"], apart := false, laid := [("bodkin/utf.most", laid_bodkin_utf_most)] }
def BatchNilSaid : Prop := batchNilRow.holds Tryd.pinned (OpenSpec.ofChange batchNilSpec)

/-- ITS FALSE NEIGHBOUR: 'it returns false'. Refute it at one input. -/
def batchNilWrong : ChangeSpec := { name := "batchNil", fn := fun _ => fun
  | [d] => { results := [.lit (.bool false)], args := [d] }
  | _ => none }
def BatchNilWrongFalsely : Prop := batchNilRow.holds Tryd.pinned (OpenSpec.ofChange batchNilWrong)

/-- 'bodkinlaw12.HistoryTexts': WHATEVER THE INPUT: true; the input reads as it did. -/
def historyTextsSpec : ChangeSpec := { name := "historyTexts", fn := fun _ => fun
  | [d1, d2] => { results := [.lit (.bool true)], args := [d1, d2] }
  | _ => none }
def historyTextsRow : OpenClaim := { program := "ytpjmmhbdondknaadoor", sum := "3d132888ea0fed81f26bd6a5916acfa6440b449aa0ebf2831c7066ae3a42e645", func := "bodkin/bodkinlaw12.HistoryTexts", spec := "historyTexts", inPlace := ["internal/abi.NoEscape", "internal/bytealg.MakeNoZero"], unfollowed := true, recurses := true, named := ["bodkin/utf.most"], apart := false, laid := [("bodkin/utf.most", laid_bodkin_utf_most)] }
def HistoryTextsSaid : Prop := historyTextsRow.holds Tryd.pinned (OpenSpec.ofChange historyTextsSpec)

/-- ITS FALSE NEIGHBOUR: 'it returns false'. Refute it at one input. -/
def historyTextsWrong : ChangeSpec := { name := "historyTexts", fn := fun _ => fun
  | [d1, d2] => { results := [.lit (.bool false)], args := [d1, d2] }
  | _ => none }
def HistoryTextsWrongFalsely : Prop := historyTextsRow.holds Tryd.pinned (OpenSpec.ofChange historyTextsWrong)

/- THE SECOND FORM. 'bulk': how many values and letters a reading holds, each counted each time it is reached (what is shared counts as often as it is met; a slice's spare places count too). A statement '..UptoSaid' is the law's where the arguments, and the package variables that the reading takes, are together of bulk at most 1048576: NARROWER than '..Said'. Prove '..Said' where nothing that the law and all that it calls make is longer than what came in: it says more and counts as full. Else prove '..UptoSaid'. A law counts once. -/
mutual
def uptoBulk {H : Type} : DataW H → Nat
  | .lit (.string bytes) => bytes.length + 1
  | .lit _ => 1
  | .nil => 1
  | .ptr d => uptoBulk d + 1
  | .slice elems spare => uptoBulkAll elems + uptoBulkAll spare + 1
  | .agg parts => uptoBulkAll parts + 1
  | .iface _ d => uptoBulk d + 1
  | .map entries => uptoBulkEntries entries + 1
  | .held _ => 1
def uptoBulkAll {H : Type} : List (DataW H) → Nat
  | [] => 0
  | d :: r => uptoBulk d + uptoBulkAll r
def uptoBulkEntries {H : Type} : List (Lit × DataW H) → Nat
  | [] => 0
  | x :: r => uptoBulkEntry x + uptoBulkEntries r
def uptoBulkEntry {H : Type} : Lit × DataW H → Nat
  | (.string bytes, d) => bytes.length + uptoBulk d + 1
  | (_, d) => uptoBulk d + 1
 end
def uptoSmall : (H : Type) → List (DataW H) → Bool := fun _ ds => decide (uptoBulkAll ds ≤ 1048576)
def OpenSpec.upto (s : _root_.Go.ChangeSpec) : _root_.Go.OpenSpec := { _root_.Go.OpenSpec.ofChange s with cond := some uptoSmall }

/-- 'bodkinlaw09.BatchChecks', WHERE WHAT IT READS IS OF BULK AT MOST 1048576: true; the input reads as it did. -/
def batchChecksUptoRow : OpenClaim := { program := "ytpjmmhbdondknaadoor", sum := "3d132888ea0fed81f26bd6a5916acfa6440b449aa0ebf2831c7066ae3a42e645", func := "bodkin/bodkinlaw09.BatchChecks", spec := "batchChecks", inPlace := ["internal/abi.NoEscape", "internal/bytealg.MakeNoZero"], unfollowed := true, recurses := true, named := ["bodkin/utf.most"], apart := false, laid := [("bodkin/utf.most", laid_bodkin_utf_most)], narrowed := true }
def BatchChecksUptoSaid : Prop := batchChecksUptoRow.holds Tryd.pinned (OpenSpec.upto batchChecksSpec)

/-- 'bodkinlaw09.BatchApplies', WHERE WHAT IT READS IS OF BULK AT MOST 1048576: true; the input reads as it did. -/
def batchAppliesUptoRow : OpenClaim := { program := "ytpjmmhbdondknaadoor", sum := "3d132888ea0fed81f26bd6a5916acfa6440b449aa0ebf2831c7066ae3a42e645", func := "bodkin/bodkinlaw09.BatchApplies", spec := "batchApplies", inPlace := ["internal/abi.NoEscape", "internal/bytealg.MakeNoZero"], unfollowed := true, recurses := true, named := ["bodkin/utf.most"], apart := false, laid := [("bodkin/utf.most", laid_bodkin_utf_most)], narrowed := true }
def BatchAppliesUptoSaid : Prop := batchAppliesUptoRow.holds Tryd.pinned (OpenSpec.upto batchAppliesSpec)

/-- 'bodkinlaw09.BatchUndoes', WHERE WHAT IT READS IS OF BULK AT MOST 1048576: true; the input reads as it did. -/
def batchUndoesUptoRow : OpenClaim := { program := "ytpjmmhbdondknaadoor", sum := "3d132888ea0fed81f26bd6a5916acfa6440b449aa0ebf2831c7066ae3a42e645", func := "bodkin/bodkinlaw09.BatchUndoes", spec := "batchUndoes", inPlace := ["internal/abi.NoEscape", "internal/bytealg.MakeNoZero"], unfollowed := true, recurses := true, named := ["bodkin/utf.most"], apart := false, laid := [("bodkin/utf.most", laid_bodkin_utf_most)], narrowed := true }
def BatchUndoesUptoSaid : Prop := batchUndoesUptoRow.holds Tryd.pinned (OpenSpec.upto batchUndoesSpec)

/-- 'bodkinlaw09.BatchOnes', WHERE WHAT IT READS IS OF BULK AT MOST 1048576: true; the input reads as it did. -/
def batchOnesUptoRow : OpenClaim := { program := "ytpjmmhbdondknaadoor", sum := "3d132888ea0fed81f26bd6a5916acfa6440b449aa0ebf2831c7066ae3a42e645", func := "bodkin/bodkinlaw09.BatchOnes", spec := "batchOnes", inPlace := ["internal/abi.NoEscape", "internal/bytealg.MakeNoZero"], unfollowed := true, recurses := true, named := ["bodkin/utf.most"], apart := false, laid := [("bodkin/utf.most", laid_bodkin_utf_most)], narrowed := true }
def BatchOnesUptoSaid : Prop := batchOnesUptoRow.holds Tryd.pinned (OpenSpec.upto batchOnesSpec)

/-- 'bodkinlaw09.BatchNil', WHERE WHAT IT READS IS OF BULK AT MOST 1048576: true; the input reads as it did. -/
def batchNilUptoRow : OpenClaim := { program := "ytpjmmhbdondknaadoor", sum := "3d132888ea0fed81f26bd6a5916acfa6440b449aa0ebf2831c7066ae3a42e645", func := "bodkin/bodkinlaw09.BatchNil", spec := "batchNil", inPlace := ["internal/abi.NoEscape", "internal/bytealg.MakeNoZero"], unfollowed := true, recurses := true, named := ["bodkin/utf.most"], apart := false, laid := [("bodkin/utf.most", laid_bodkin_utf_most)], narrowed := true }
def BatchNilUptoSaid : Prop := batchNilUptoRow.holds Tryd.pinned (OpenSpec.upto batchNilSpec)

/-- 'bodkinlaw12.HistoryTexts', WHERE WHAT IT READS IS OF BULK AT MOST 1048576: true; the input reads as it did. -/
def historyTextsUptoRow : OpenClaim := { program := "ytpjmmhbdondknaadoor", sum := "3d132888ea0fed81f26bd6a5916acfa6440b449aa0ebf2831c7066ae3a42e645", func := "bodkin/bodkinlaw12.HistoryTexts", spec := "historyTexts", inPlace := ["internal/abi.NoEscape", "internal/bytealg.MakeNoZero"], unfollowed := true, recurses := true, named := ["bodkin/utf.most"], apart := false, laid := [("bodkin/utf.most", laid_bodkin_utf_most)], narrowed := true }
def HistoryTextsUptoSaid : Prop := historyTextsUptoRow.holds Tryd.pinned (OpenSpec.upto historyTextsSpec)

end Rows
end Go.Proofs.YtpjmmhbdondknaaDoor

/-
  NARROWER THAN 'FOR EVERY INPUT', by the rows' own cells (each row's printed sentence says how): FindAll: laid · FindIs: laid · FindNone: laid · FindNil: laid · FindSteps: laid.
  DERIVED. THE GIVEN ROWS OF THIS SEAT. 5 by the template 'for every input the law returns true; each argument reads behind the call as it read before'; 0 by the template 'total and deterministic' (their statements: YthpngnngoamlpaaDoorTotals.lean).
  GIVEN WITH THE SEED: the statements are not yours to turn. If you find one false, say at which input.
  Laid BY PROGRAM, IN A SANDBOX (cutbox-rows.mjs): the forced cells as the released guide's own fill.sh prints them over the translation 5f51b7b8fb1b9c21… (all of the seat's roots in one cut). By AI agents, Wed Nov 11 2026. No macro, syntax, notation, axiom, sorry.
-/
import Derived.Test.YthpngnngoamlpaaDoorChecked
import GoSem.Claim
import GoSem.ClaimJoined
import GoSem.ClaimMapViews
import Derived.JoinedTies
import Derived.KernelRfl
namespace Go.Proofs.YthpngnngoamlpaaDoor
/- THE CELL 'sum', in the pinned program and in every row, IS THE sha256 OF THE DUMP (.gsa) THAT YthpngnngoamlpaaDoorProg.lean LOADS. Nothing in Lean hashes anything: it is a label: what it is worth is what the hold of that sum in a sandbox is worth. -/
noncomputable def Tryd.pinned : Pinned := { name := "ythpngnngoamlpaadoor", sum := "5f51b7b8fb1b9c21096564e6843818bef8a814073e0e551287af3fe5d0493d5d", checked := Tryd.checked }
namespace Rows
def none {H : Type} : Left H := { results := [], args := [] }

/- WHAT THE LISTED PACKAGE-LEVEL VARIABLES READ AS WHEN THE CALL BEGINS. Each datum BY PROGRAM (the guide's laid-datum.mjs) off the statement by which the dump's own 'gosem.cut.vars' lays the variable. In a bare row this is a premise. The card (YthpngnngoamlpaaDoorCards.lean) ties it to the program's text. -/
def laid_bodkin_utf_most {H : Type} : DataW H := .agg [.lit (.int .i32 127), .lit (.int .i32 2047), .lit (.int .i32 65535), .lit (.int .i32 1114111)]

/-- 'bodkinlaw39.FindAll': WHATEVER THE INPUT: true; the input reads as it did. -/
def findAllSpec : ChangeSpec := { name := "findAll", fn := fun _ => fun
  | [d1, d2] => { results := [.lit (.bool true)], args := [d1, d2] }
  | _ => none }
def findAllRow : OpenClaim := { program := "ythpngnngoamlpaadoor", sum := "5f51b7b8fb1b9c21096564e6843818bef8a814073e0e551287af3fe5d0493d5d", func := "bodkin/bodkinlaw39.FindAll", spec := "findAll", inPlace := ["internal/abi.NoEscape", "internal/bytealg.MakeNoZero"], unfollowed := true, recurses := true, named := ["bodkin/utf.most"], apart := false, laid := [("bodkin/utf.most", laid_bodkin_utf_most)] }
def FindAllSaid : Prop := findAllRow.holds Tryd.pinned (OpenSpec.ofChange findAllSpec)

/-- ITS FALSE NEIGHBOUR: 'it returns false'. Refute it at one input. -/
def findAllWrong : ChangeSpec := { name := "findAll", fn := fun _ => fun
  | [d1, d2] => { results := [.lit (.bool false)], args := [d1, d2] }
  | _ => none }
def FindAllWrongFalsely : Prop := findAllRow.holds Tryd.pinned (OpenSpec.ofChange findAllWrong)

/-- 'bodkinlaw39.FindIs': WHATEVER THE INPUT: true; the input reads as it did. -/
def findIsSpec : ChangeSpec := { name := "findIs", fn := fun _ => fun
  | [d1, d2] => { results := [.lit (.bool true)], args := [d1, d2] }
  | _ => none }
def findIsRow : OpenClaim := { program := "ythpngnngoamlpaadoor", sum := "5f51b7b8fb1b9c21096564e6843818bef8a814073e0e551287af3fe5d0493d5d", func := "bodkin/bodkinlaw39.FindIs", spec := "findIs", inPlace := ["internal/abi.NoEscape", "internal/bytealg.MakeNoZero"], unfollowed := true, recurses := true, named := ["bodkin/utf.most"], apart := false, laid := [("bodkin/utf.most", laid_bodkin_utf_most)] }
def FindIsSaid : Prop := findIsRow.holds Tryd.pinned (OpenSpec.ofChange findIsSpec)

/-- ITS FALSE NEIGHBOUR: 'it returns false'. Refute it at one input. -/
def findIsWrong : ChangeSpec := { name := "findIs", fn := fun _ => fun
  | [d1, d2] => { results := [.lit (.bool false)], args := [d1, d2] }
  | _ => none }
def FindIsWrongFalsely : Prop := findIsRow.holds Tryd.pinned (OpenSpec.ofChange findIsWrong)

/-- 'bodkinlaw39.FindNone': WHATEVER THE INPUT: true; the input reads as it did. -/
def findNoneSpec : ChangeSpec := { name := "findNone", fn := fun _ => fun
  | [d1, d2] => { results := [.lit (.bool true)], args := [d1, d2] }
  | _ => none }
def findNoneRow : OpenClaim := { program := "ythpngnngoamlpaadoor", sum := "5f51b7b8fb1b9c21096564e6843818bef8a814073e0e551287af3fe5d0493d5d", func := "bodkin/bodkinlaw39.FindNone", spec := "findNone", inPlace := ["internal/abi.NoEscape", "internal/bytealg.MakeNoZero"], unfollowed := true, recurses := true, named := ["bodkin/utf.most"], apart := false, laid := [("bodkin/utf.most", laid_bodkin_utf_most)] }
def FindNoneSaid : Prop := findNoneRow.holds Tryd.pinned (OpenSpec.ofChange findNoneSpec)

/-- ITS FALSE NEIGHBOUR: 'it returns false'. Refute it at one input. -/
def findNoneWrong : ChangeSpec := { name := "findNone", fn := fun _ => fun
  | [d1, d2] => { results := [.lit (.bool false)], args := [d1, d2] }
  | _ => none }
def FindNoneWrongFalsely : Prop := findNoneRow.holds Tryd.pinned (OpenSpec.ofChange findNoneWrong)

/-- 'bodkinlaw39.FindNil': WHATEVER THE INPUT: true; the input reads as it did. -/
def findNilSpec : ChangeSpec := { name := "findNil", fn := fun _ => fun
  | [d1, d2] => { results := [.lit (.bool true)], args := [d1, d2] }
  | _ => none }
def findNilRow : OpenClaim := { program := "ythpngnngoamlpaadoor", sum := "5f51b7b8fb1b9c21096564e6843818bef8a814073e0e551287af3fe5d0493d5d", func := "bodkin/bodkinlaw39.FindNil", spec := "findNil", inPlace := ["internal/abi.NoEscape", "internal/bytealg.MakeNoZero"], unfollowed := true, recurses := true, named := ["bodkin/utf.most"], apart := false, laid := [("bodkin/utf.most", laid_bodkin_utf_most)] }
def FindNilSaid : Prop := findNilRow.holds Tryd.pinned (OpenSpec.ofChange findNilSpec)

/-- ITS FALSE NEIGHBOUR: 'it returns false'. Refute it at one input. -/
def findNilWrong : ChangeSpec := { name := "findNil", fn := fun _ => fun
  | [d1, d2] => { results := [.lit (.bool false)], args := [d1, d2] }
  | _ => none }
def FindNilWrongFalsely : Prop := findNilRow.holds Tryd.pinned (OpenSpec.ofChange findNilWrong)

/-- 'bodkinlaw39.FindSteps': WHATEVER THE INPUT: true; the input reads as it did. -/
def findStepsSpec : ChangeSpec := { name := "findSteps", fn := fun _ => fun
  | [d1, d2, d3] => { results := [.lit (.bool true)], args := [d1, d2, d3] }
  | _ => none }
def findStepsRow : OpenClaim := { program := "ythpngnngoamlpaadoor", sum := "5f51b7b8fb1b9c21096564e6843818bef8a814073e0e551287af3fe5d0493d5d", func := "bodkin/bodkinlaw39.FindSteps", spec := "findSteps", inPlace := ["internal/abi.NoEscape", "internal/bytealg.MakeNoZero"], unfollowed := true, recurses := true, named := ["bodkin/utf.most"], apart := false, laid := [("bodkin/utf.most", laid_bodkin_utf_most)] }
def FindStepsSaid : Prop := findStepsRow.holds Tryd.pinned (OpenSpec.ofChange findStepsSpec)

/-- ITS FALSE NEIGHBOUR: 'it returns false'. Refute it at one input. -/
def findStepsWrong : ChangeSpec := { name := "findSteps", fn := fun _ => fun
  | [d1, d2, d3] => { results := [.lit (.bool false)], args := [d1, d2, d3] }
  | _ => none }
def FindStepsWrongFalsely : Prop := findStepsRow.holds Tryd.pinned (OpenSpec.ofChange findStepsWrong)

/- THE SECOND FORM. 'bulk': how many values and letters a reading holds, each counted each time it is reached (what is shared counts as often as it is met; a slice's spare places count too). A statement '..UptoSaid' is the law's where the arguments, and the package variables that the reading takes, are together of bulk at most 1048576: NARROWER than '..Said'. Prove '..Said' where nothing that the law and all that it calls make is longer than what came in: it says more and counts as full. Else prove '..UptoSaid'. A law counts once. -/
mutual
def uptoBulk {H : Type} : DataW H → Nat
  | .lit (.string bytes) => bytes.length + 1
  | .lit _ => 1
  | .nil => 1
  | .ptr d => uptoBulk d + 1
  | .slice elems spare => uptoBulkAll elems + uptoBulkAll spare + 1
  | .agg parts => uptoBulkAll parts + 1
  | .iface _ d => uptoBulk d + 1
  | .map entries => uptoBulkEntries entries + 1
  | .held _ => 1
def uptoBulkAll {H : Type} : List (DataW H) → Nat
  | [] => 0
  | d :: r => uptoBulk d + uptoBulkAll r
def uptoBulkEntries {H : Type} : List (Lit × DataW H) → Nat
  | [] => 0
  | x :: r => uptoBulkEntry x + uptoBulkEntries r
def uptoBulkEntry {H : Type} : Lit × DataW H → Nat
  | (.string bytes, d) => bytes.length + uptoBulk d + 1
  | (_, d) => uptoBulk d + 1
 end
def uptoSmall : (H : Type) → List (DataW H) → Bool := fun _ ds => decide (uptoBulkAll ds ≤ 1048576)
def OpenSpec.upto (s : _root_.Go.ChangeSpec) : _root_.Go.OpenSpec := { _root_.Go.OpenSpec.ofChange s with cond := some uptoSmall }

/-- 'bodkinlaw39.FindAll', WHERE WHAT IT READS IS OF BULK AT MOST 1048576: true; the input reads as it did. -/
def findAllUptoRow : OpenClaim := { program := "ythpngnngoamlpaadoor", sum := "5f51b7b8fb1b9c21096564e6843818bef8a814073e0e551287af3fe5d0493d5d", func := "bodkin/bodkinlaw39.FindAll", spec := "findAll", inPlace := ["internal/abi.NoEscape", "internal/bytealg.MakeNoZero"], unfollowed := true, recurses := true, named := ["bodkin/utf.most"], apart := false, laid := [("bodkin/utf.most", laid_bodkin_utf_most)], narrowed := true }
def FindAllUptoSaid : Prop := findAllUptoRow.holds Tryd.pinned (OpenSpec.upto findAllSpec)

/-- 'bodkinlaw39.FindIs', WHERE WHAT IT READS IS OF BULK AT MOST 1048576: true; the input reads as it did. -/
def findIsUptoRow : OpenClaim := { program := "ythpngnngoamlpaadoor", sum := "5f51b7b8fb1b9c21096564e6843818bef8a814073e0e551287af3fe5d0493d5d", func := "bodkin/bodkinlaw39.FindIs", spec := "findIs", inPlace := ["internal/abi.NoEscape", "internal/bytealg.MakeNoZero"], unfollowed := true, recurses := true, named := ["bodkin/utf.most"], apart := false, laid := [("bodkin/utf.most", laid_bodkin_utf_most)], narrowed := true }
def FindIsUptoSaid : Prop := findIsUptoRow.holds Tryd.pinned (OpenSpec.upto findIsSpec)

/-- 'bodkinlaw39.FindNone', WHERE WHAT IT READS IS OF BULK AT MOST 1048576: true; the input reads as it did. -/
def findNoneUptoRow : OpenClaim := { program := "ythpngnngoamlpaadoor", sum := "5f51b7b8fb1b9c21096564e6843818bef8a814073e0e551287af3fe5d0493d5d", func := "bodkin/bodkinlaw39.FindNone", spec := "findNone", inPlace := ["internal/abi.NoEscape", "internal/bytealg.MakeNoZero"], unfollowed := true, recurses := true, named := ["bodkin/utf.most"], apart := false, laid := [("bodkin/utf.most", laid_bodkin_utf_most)], narrowed := true }
def FindNoneUptoSaid : Prop := findNoneUptoRow.holds Tryd.pinned (OpenSpec.upto findNoneSpec)

/-- 'bodkinlaw39.FindNil', WHERE WHAT IT READS IS OF BULK AT MOST 1048576: true; the input reads as it did. -/
def findNilUptoRow : OpenClaim := { program := "ythpngnngoamlpaadoor", sum := "5f51b7b8fb1b9c21096564e6843818bef8a814073e0e551287af3fe5d0493d5d", func := "bodkin/bodkinlaw39.FindNil", spec := "findNil", inPlace := ["internal/abi.NoEscape", "internal/bytealg.MakeNoZero"], unfollowed := true, recurses := true, named := ["bodkin/utf.most"], apart := false, laid := [("bodkin/utf.most", laid_bodkin_utf_most)], narrowed := true }
def FindNilUptoSaid : Prop := findNilUptoRow.holds Tryd.pinned (OpenSpec.upto findNilSpec)

/-- 'bodkinlaw39.FindSteps', WHERE WHAT IT READS IS OF BULK AT MOST 1048576: true; the input reads as it did. -/
def findStepsUptoRow : OpenClaim := { program := "ythpngnngoamlpaadoor", sum := "5f51b7b8fb1b9c21096564e6843818bef8a814073e0e551287af3fe5d0493d5d", func := "bodkin/bodkinlaw39.FindSteps", spec := "findSteps", inPlace := ["internal/abi.NoEscape", "internal/bytealg.MakeNoZero"], unfollowed := true, recurses := true, named := ["bodkin/utf.most"], apart := false, laid := [("bodkin/utf.most", laid_bodkin_utf_most)], narrowed := true }
def FindStepsUptoSaid : Prop := findStepsUptoRow.holds Tryd.pinned (OpenSpec.upto findStepsSpec)

end Rows
end Go.Proofs.YthpngnngoamlpaaDoor

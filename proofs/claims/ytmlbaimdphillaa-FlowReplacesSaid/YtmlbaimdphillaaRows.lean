/-
  No cell of these rows narrows 'for every input' (looked for: loops, veiled, ifaces, maps, wideKeys, modest, calm, conditions, laid).
  DERIVED. THE GIVEN ROWS OF THIS SEAT. 13 by the template 'for every input the law returns true; each argument reads behind the call as it read before'; 0 by the template 'total and deterministic' (their statements: YtmlbaimdphillaaTotals.lean).
  GIVEN WITH THE SEED: the statements are not yours to turn. If you find one false, say at which input.
  Laid BY PROGRAM, IN A SANDBOX (cutbox-rows.mjs): the forced cells as the released guide's own fill.sh prints them over the translation 011cf3634b92178a… (all of the seat's roots in one cut). By AI agents, Wed Nov 11 2026. No macro, syntax, notation, axiom, sorry.
-/
import Derived.Test.YtmlbaimdphillaaChecked
import GoSem.Claim
import GoSem.ClaimJoined
import GoSem.ClaimMapViews
import Derived.JoinedTies
import Derived.KernelRfl
namespace Go.Proofs.Ytmlbaimdphillaa
/- THE CELL 'sum', in the pinned program and in every row, IS THE sha256 OF THE DUMP (.gsa) THAT YtmlbaimdphillaaProg.lean LOADS. Nothing in Lean hashes anything: it is a label: what it is worth is what the hold of that sum in a sandbox is worth. -/
noncomputable def Try.pinned : Pinned := { name := "ytmlbaimdphillaa", sum := "011cf3634b92178aa7ae0a709221635db826f1bb4bfe4d240a612b17783466b0", checked := Try.checked }
namespace Rows
def none {H : Type} : Left H := { results := [], args := [] }

/-- 'bodkinlaw05.TreeFinds': WHATEVER THE INPUT: true; the input reads as it did. -/
def treeFindsSpec : ChangeSpec := { name := "treeFinds", fn := fun _ => fun
  | [d1, d2, d3] => { results := [.lit (.bool true)], args := [d1, d2, d3] }
  | _ => none }
def treeFindsRow : OpenClaim := { program := "ytmlbaimdphillaa", sum := "011cf3634b92178aa7ae0a709221635db826f1bb4bfe4d240a612b17783466b0", func := "bodkin/bodkinlaw05.TreeFinds", spec := "treeFinds", unfollowed := true, recurses := true, apart := false }
def TreeFindsSaid : Prop := treeFindsRow.holds Try.pinned (OpenSpec.ofChange treeFindsSpec)

/-- ITS FALSE NEIGHBOUR: 'it returns false'. Refute it at one input. -/
def treeFindsWrong : ChangeSpec := { name := "treeFinds", fn := fun _ => fun
  | [d1, d2, d3] => { results := [.lit (.bool false)], args := [d1, d2, d3] }
  | _ => none }
def TreeFindsWrongFalsely : Prop := treeFindsRow.holds Try.pinned (OpenSpec.ofChange treeFindsWrong)

/-- 'bodkinlaw05.TreeJoins': WHATEVER THE INPUT: true; the input reads as it did. -/
def treeJoinsSpec : ChangeSpec := { name := "treeJoins", fn := fun _ => fun
  | [d1, d2] => { results := [.lit (.bool true)], args := [d1, d2] }
  | _ => none }
def treeJoinsRow : OpenClaim := { program := "ytmlbaimdphillaa", sum := "011cf3634b92178aa7ae0a709221635db826f1bb4bfe4d240a612b17783466b0", func := "bodkin/bodkinlaw05.TreeJoins", spec := "treeJoins", unfollowed := true, recurses := true, apart := false }
def TreeJoinsSaid : Prop := treeJoinsRow.holds Try.pinned (OpenSpec.ofChange treeJoinsSpec)

/-- ITS FALSE NEIGHBOUR: 'it returns false'. Refute it at one input. -/
def treeJoinsWrong : ChangeSpec := { name := "treeJoins", fn := fun _ => fun
  | [d1, d2] => { results := [.lit (.bool false)], args := [d1, d2] }
  | _ => none }
def TreeJoinsWrongFalsely : Prop := treeJoinsRow.holds Try.pinned (OpenSpec.ofChange treeJoinsWrong)

/-- 'bodkinlaw05.TreeNew': WHATEVER THE INPUT: true; the input reads as it did. -/
def treeNewSpec : ChangeSpec := { name := "treeNew", fn := fun _ => fun
  | [d1, d2] => { results := [.lit (.bool true)], args := [d1, d2] }
  | _ => none }
def treeNewRow : OpenClaim := { program := "ytmlbaimdphillaa", sum := "011cf3634b92178aa7ae0a709221635db826f1bb4bfe4d240a612b17783466b0", func := "bodkin/bodkinlaw05.TreeNew", spec := "treeNew", unfollowed := true, recurses := true, apart := false }
def TreeNewSaid : Prop := treeNewRow.holds Try.pinned (OpenSpec.ofChange treeNewSpec)

/-- ITS FALSE NEIGHBOUR: 'it returns false'. Refute it at one input. -/
def treeNewWrong : ChangeSpec := { name := "treeNew", fn := fun _ => fun
  | [d1, d2] => { results := [.lit (.bool false)], args := [d1, d2] }
  | _ => none }
def TreeNewWrongFalsely : Prop := treeNewRow.holds Try.pinned (OpenSpec.ofChange treeNewWrong)

/-- 'bodkinlaw22.FlowRows': WHATEVER THE INPUT: true; the input reads as it did. -/
def flowRowsSpec : ChangeSpec := { name := "flowRows", fn := fun _ => fun
  | [d] => { results := [.lit (.bool true)], args := [d] }
  | _ => none }
def flowRowsRow : OpenClaim := { program := "ytmlbaimdphillaa", sum := "011cf3634b92178aa7ae0a709221635db826f1bb4bfe4d240a612b17783466b0", func := "bodkin/bodkinlaw22.FlowRows", spec := "flowRows", unfollowed := true, recurses := true, apart := false }
def FlowRowsSaid : Prop := flowRowsRow.holds Try.pinned (OpenSpec.ofChange flowRowsSpec)

/-- ITS FALSE NEIGHBOUR: 'it returns false'. Refute it at one input. -/
def flowRowsWrong : ChangeSpec := { name := "flowRows", fn := fun _ => fun
  | [d] => { results := [.lit (.bool false)], args := [d] }
  | _ => none }
def FlowRowsWrongFalsely : Prop := flowRowsRow.holds Try.pinned (OpenSpec.ofChange flowRowsWrong)

/-- 'bodkinlaw05.TreeSlices': WHATEVER THE INPUT: true; the input reads as it did. -/
def treeSlicesSpec : ChangeSpec := { name := "treeSlices", fn := fun _ => fun
  | [d1, d2, d3] => { results := [.lit (.bool true)], args := [d1, d2, d3] }
  | _ => none }
def treeSlicesRow : OpenClaim := { program := "ytmlbaimdphillaa", sum := "011cf3634b92178aa7ae0a709221635db826f1bb4bfe4d240a612b17783466b0", func := "bodkin/bodkinlaw05.TreeSlices", spec := "treeSlices", unfollowed := true, recurses := true, apart := false }
def TreeSlicesSaid : Prop := treeSlicesRow.holds Try.pinned (OpenSpec.ofChange treeSlicesSpec)

/-- ITS FALSE NEIGHBOUR: 'it returns false'. Refute it at one input. -/
def treeSlicesWrong : ChangeSpec := { name := "treeSlices", fn := fun _ => fun
  | [d1, d2, d3] => { results := [.lit (.bool false)], args := [d1, d2, d3] }
  | _ => none }
def TreeSlicesWrongFalsely : Prop := treeSlicesRow.holds Try.pinned (OpenSpec.ofChange treeSlicesWrong)

/-- 'bodkinlaw06.SeekAll': WHATEVER THE INPUT: true; the input reads as it did. -/
def seekAllSpec : ChangeSpec := { name := "seekAll", fn := fun _ => fun
  | [d] => { results := [.lit (.bool true)], args := [d] }
  | _ => none }
def seekAllRow : OpenClaim := { program := "ytmlbaimdphillaa", sum := "011cf3634b92178aa7ae0a709221635db826f1bb4bfe4d240a612b17783466b0", func := "bodkin/bodkinlaw06.SeekAll", spec := "seekAll", unfollowed := true, recurses := true, apart := false }
def SeekAllSaid : Prop := seekAllRow.holds Try.pinned (OpenSpec.ofChange seekAllSpec)

/-- ITS FALSE NEIGHBOUR: 'it returns false'. Refute it at one input. -/
def seekAllWrong : ChangeSpec := { name := "seekAll", fn := fun _ => fun
  | [d] => { results := [.lit (.bool false)], args := [d] }
  | _ => none }
def SeekAllWrongFalsely : Prop := seekAllRow.holds Try.pinned (OpenSpec.ofChange seekAllWrong)

/-- 'bodkinlaw06.SeekSteps': WHATEVER THE INPUT: true; the input reads as it did. -/
def seekStepsSpec : ChangeSpec := { name := "seekSteps", fn := fun _ => fun
  | [d1, d2] => { results := [.lit (.bool true)], args := [d1, d2] }
  | _ => none }
def seekStepsRow : OpenClaim := { program := "ytmlbaimdphillaa", sum := "011cf3634b92178aa7ae0a709221635db826f1bb4bfe4d240a612b17783466b0", func := "bodkin/bodkinlaw06.SeekSteps", spec := "seekSteps", unfollowed := true, recurses := true, apart := false }
def SeekStepsSaid : Prop := seekStepsRow.holds Try.pinned (OpenSpec.ofChange seekStepsSpec)

/-- ITS FALSE NEIGHBOUR: 'it returns false'. Refute it at one input. -/
def seekStepsWrong : ChangeSpec := { name := "seekSteps", fn := fun _ => fun
  | [d1, d2] => { results := [.lit (.bool false)], args := [d1, d2] }
  | _ => none }
def SeekStepsWrongFalsely : Prop := seekStepsRow.holds Try.pinned (OpenSpec.ofChange seekStepsWrong)

/-- 'bodkinlaw06.SeekBack': WHATEVER THE INPUT: true; the input reads as it did. -/
def seekBackSpec : ChangeSpec := { name := "seekBack", fn := fun _ => fun
  | [d1, d2] => { results := [.lit (.bool true)], args := [d1, d2] }
  | _ => none }
def seekBackRow : OpenClaim := { program := "ytmlbaimdphillaa", sum := "011cf3634b92178aa7ae0a709221635db826f1bb4bfe4d240a612b17783466b0", func := "bodkin/bodkinlaw06.SeekBack", spec := "seekBack", unfollowed := true, recurses := true, apart := false }
def SeekBackSaid : Prop := seekBackRow.holds Try.pinned (OpenSpec.ofChange seekBackSpec)

/-- ITS FALSE NEIGHBOUR: 'it returns false'. Refute it at one input. -/
def seekBackWrong : ChangeSpec := { name := "seekBack", fn := fun _ => fun
  | [d1, d2] => { results := [.lit (.bool false)], args := [d1, d2] }
  | _ => none }
def SeekBackWrongFalsely : Prop := seekBackRow.holds Try.pinned (OpenSpec.ofChange seekBackWrong)

/-- 'bodkinlaw06.SeekNil': WHATEVER THE INPUT: true; the input reads as it did. -/
def seekNilSpec : ChangeSpec := { name := "seekNil", fn := fun _ => fun
  | [d] => { results := [.lit (.bool true)], args := [d] }
  | _ => none }
def seekNilRow : OpenClaim := { program := "ytmlbaimdphillaa", sum := "011cf3634b92178aa7ae0a709221635db826f1bb4bfe4d240a612b17783466b0", func := "bodkin/bodkinlaw06.SeekNil", spec := "seekNil", unfollowed := true, recurses := true, apart := false }
def SeekNilSaid : Prop := seekNilRow.holds Try.pinned (OpenSpec.ofChange seekNilSpec)

/-- ITS FALSE NEIGHBOUR: 'it returns false'. Refute it at one input. -/
def seekNilWrong : ChangeSpec := { name := "seekNil", fn := fun _ => fun
  | [d] => { results := [.lit (.bool false)], args := [d] }
  | _ => none }
def SeekNilWrongFalsely : Prop := seekNilRow.holds Try.pinned (OpenSpec.ofChange seekNilWrong)

/-- 'bodkinlaw05.TreeReplaces': WHATEVER THE INPUT: true; the input reads as it did. -/
def treeReplacesSpec : ChangeSpec := { name := "treeReplaces", fn := fun _ => fun
  | [d1, d2] => { results := [.lit (.bool true)], args := [d1, d2] }
  | _ => none }
def treeReplacesRow : OpenClaim := { program := "ytmlbaimdphillaa", sum := "011cf3634b92178aa7ae0a709221635db826f1bb4bfe4d240a612b17783466b0", func := "bodkin/bodkinlaw05.TreeReplaces", spec := "treeReplaces", unfollowed := true, recurses := true, apart := false }
def TreeReplacesSaid : Prop := treeReplacesRow.holds Try.pinned (OpenSpec.ofChange treeReplacesSpec)

/-- ITS FALSE NEIGHBOUR: 'it returns false'. Refute it at one input. -/
def treeReplacesWrong : ChangeSpec := { name := "treeReplaces", fn := fun _ => fun
  | [d1, d2] => { results := [.lit (.bool false)], args := [d1, d2] }
  | _ => none }
def TreeReplacesWrongFalsely : Prop := treeReplacesRow.holds Try.pinned (OpenSpec.ofChange treeReplacesWrong)

/-- 'bodkinlaw22.FlowNew': WHATEVER THE INPUT: true; the input reads as it did. -/
def flowNewSpec : ChangeSpec := { name := "flowNew", fn := fun _ => fun
  | [d] => { results := [.lit (.bool true)], args := [d] }
  | _ => none }
def flowNewRow : OpenClaim := { program := "ytmlbaimdphillaa", sum := "011cf3634b92178aa7ae0a709221635db826f1bb4bfe4d240a612b17783466b0", func := "bodkin/bodkinlaw22.FlowNew", spec := "flowNew", unfollowed := true, recurses := true, apart := false }
def FlowNewSaid : Prop := flowNewRow.holds Try.pinned (OpenSpec.ofChange flowNewSpec)

/-- ITS FALSE NEIGHBOUR: 'it returns false'. Refute it at one input. -/
def flowNewWrong : ChangeSpec := { name := "flowNew", fn := fun _ => fun
  | [d] => { results := [.lit (.bool false)], args := [d] }
  | _ => none }
def FlowNewWrongFalsely : Prop := flowNewRow.holds Try.pinned (OpenSpec.ofChange flowNewWrong)

/-- 'bodkinlaw05.TreeNil': WHATEVER THE INPUT: true; the input reads as it did. -/
def treeNilSpec : ChangeSpec := { name := "treeNil", fn := fun _ => fun
  | [d] => { results := [.lit (.bool true)], args := [d] }
  | _ => none }
def treeNilRow : OpenClaim := { program := "ytmlbaimdphillaa", sum := "011cf3634b92178aa7ae0a709221635db826f1bb4bfe4d240a612b17783466b0", func := "bodkin/bodkinlaw05.TreeNil", spec := "treeNil", unfollowed := true, recurses := true, apart := false }
def TreeNilSaid : Prop := treeNilRow.holds Try.pinned (OpenSpec.ofChange treeNilSpec)

/-- ITS FALSE NEIGHBOUR: 'it returns false'. Refute it at one input. -/
def treeNilWrong : ChangeSpec := { name := "treeNil", fn := fun _ => fun
  | [d] => { results := [.lit (.bool false)], args := [d] }
  | _ => none }
def TreeNilWrongFalsely : Prop := treeNilRow.holds Try.pinned (OpenSpec.ofChange treeNilWrong)

/-- 'bodkinlaw22.FlowReplaces': WHATEVER THE INPUT: true; the input reads as it did. -/
def flowReplacesSpec : ChangeSpec := { name := "flowReplaces", fn := fun _ => fun
  | [d1, d2] => { results := [.lit (.bool true)], args := [d1, d2] }
  | _ => none }
def flowReplacesRow : OpenClaim := { program := "ytmlbaimdphillaa", sum := "011cf3634b92178aa7ae0a709221635db826f1bb4bfe4d240a612b17783466b0", func := "bodkin/bodkinlaw22.FlowReplaces", spec := "flowReplaces", unfollowed := true, recurses := true, apart := false }
def FlowReplacesSaid : Prop := flowReplacesRow.holds Try.pinned (OpenSpec.ofChange flowReplacesSpec)

/-- ITS FALSE NEIGHBOUR: 'it returns false'. Refute it at one input. -/
def flowReplacesWrong : ChangeSpec := { name := "flowReplaces", fn := fun _ => fun
  | [d1, d2] => { results := [.lit (.bool false)], args := [d1, d2] }
  | _ => none }
def FlowReplacesWrongFalsely : Prop := flowReplacesRow.holds Try.pinned (OpenSpec.ofChange flowReplacesWrong)

/- THE SECOND FORM. 'bulk': how many values and letters a reading holds, each counted each time it is reached (what is shared counts as often as it is met; a slice's spare places count too). A statement '..UptoSaid' is the law's where the arguments, and the package variables that the reading takes, are together of bulk at most 1048576: NARROWER than '..Said'. Prove '..Said' where nothing that the law and all that it calls make is longer than what came in: it says more and counts as full. Else prove '..UptoSaid'. A law counts once. -/
mutual
def uptoBulk {H : Type} : DataW H → Nat
  | .lit (.string bytes) => bytes.length + 1
  | .lit _ => 1
  | .nil => 1
  | .ptr d => uptoBulk d + 1
  | .slice elems spare => uptoBulkAll elems + uptoBulkAll spare + 1
  | .agg parts => uptoBulkAll parts + 1
  | .iface _ d => uptoBulk d + 1
  | .map entries => uptoBulkEntries entries + 1
  | .held _ => 1
def uptoBulkAll {H : Type} : List (DataW H) → Nat
  | [] => 0
  | d :: r => uptoBulk d + uptoBulkAll r
def uptoBulkEntries {H : Type} : List (Lit × DataW H) → Nat
  | [] => 0
  | x :: r => uptoBulkEntry x + uptoBulkEntries r
def uptoBulkEntry {H : Type} : Lit × DataW H → Nat
  | (.string bytes, d) => bytes.length + uptoBulk d + 1
  | (_, d) => uptoBulk d + 1
 end
def uptoSmall : (H : Type) → List (DataW H) → Bool := fun _ ds => decide (uptoBulkAll ds ≤ 1048576)
def OpenSpec.upto (s : _root_.Go.ChangeSpec) : _root_.Go.OpenSpec := { _root_.Go.OpenSpec.ofChange s with cond := some uptoSmall }

/-- 'bodkinlaw05.TreeFinds', WHERE WHAT IT READS IS OF BULK AT MOST 1048576: true; the input reads as it did. -/
def treeFindsUptoRow : OpenClaim := { program := "ytmlbaimdphillaa", sum := "011cf3634b92178aa7ae0a709221635db826f1bb4bfe4d240a612b17783466b0", func := "bodkin/bodkinlaw05.TreeFinds", spec := "treeFinds", unfollowed := true, recurses := true, apart := false, narrowed := true }
def TreeFindsUptoSaid : Prop := treeFindsUptoRow.holds Try.pinned (OpenSpec.upto treeFindsSpec)

/-- 'bodkinlaw05.TreeJoins', WHERE WHAT IT READS IS OF BULK AT MOST 1048576: true; the input reads as it did. -/
def treeJoinsUptoRow : OpenClaim := { program := "ytmlbaimdphillaa", sum := "011cf3634b92178aa7ae0a709221635db826f1bb4bfe4d240a612b17783466b0", func := "bodkin/bodkinlaw05.TreeJoins", spec := "treeJoins", unfollowed := true, recurses := true, apart := false, narrowed := true }
def TreeJoinsUptoSaid : Prop := treeJoinsUptoRow.holds Try.pinned (OpenSpec.upto treeJoinsSpec)

/-- 'bodkinlaw05.TreeNew', WHERE WHAT IT READS IS OF BULK AT MOST 1048576: true; the input reads as it did. -/
def treeNewUptoRow : OpenClaim := { program := "ytmlbaimdphillaa", sum := "011cf3634b92178aa7ae0a709221635db826f1bb4bfe4d240a612b17783466b0", func := "bodkin/bodkinlaw05.TreeNew", spec := "treeNew", unfollowed := true, recurses := true, apart := false, narrowed := true }
def TreeNewUptoSaid : Prop := treeNewUptoRow.holds Try.pinned (OpenSpec.upto treeNewSpec)

/-- 'bodkinlaw22.FlowRows', WHERE WHAT IT READS IS OF BULK AT MOST 1048576: true; the input reads as it did. -/
def flowRowsUptoRow : OpenClaim := { program := "ytmlbaimdphillaa", sum := "011cf3634b92178aa7ae0a709221635db826f1bb4bfe4d240a612b17783466b0", func := "bodkin/bodkinlaw22.FlowRows", spec := "flowRows", unfollowed := true, recurses := true, apart := false, narrowed := true }
def FlowRowsUptoSaid : Prop := flowRowsUptoRow.holds Try.pinned (OpenSpec.upto flowRowsSpec)

/-- 'bodkinlaw05.TreeSlices', WHERE WHAT IT READS IS OF BULK AT MOST 1048576: true; the input reads as it did. -/
def treeSlicesUptoRow : OpenClaim := { program := "ytmlbaimdphillaa", sum := "011cf3634b92178aa7ae0a709221635db826f1bb4bfe4d240a612b17783466b0", func := "bodkin/bodkinlaw05.TreeSlices", spec := "treeSlices", unfollowed := true, recurses := true, apart := false, narrowed := true }
def TreeSlicesUptoSaid : Prop := treeSlicesUptoRow.holds Try.pinned (OpenSpec.upto treeSlicesSpec)

/-- 'bodkinlaw06.SeekAll', WHERE WHAT IT READS IS OF BULK AT MOST 1048576: true; the input reads as it did. -/
def seekAllUptoRow : OpenClaim := { program := "ytmlbaimdphillaa", sum := "011cf3634b92178aa7ae0a709221635db826f1bb4bfe4d240a612b17783466b0", func := "bodkin/bodkinlaw06.SeekAll", spec := "seekAll", unfollowed := true, recurses := true, apart := false, narrowed := true }
def SeekAllUptoSaid : Prop := seekAllUptoRow.holds Try.pinned (OpenSpec.upto seekAllSpec)

/-- 'bodkinlaw06.SeekSteps', WHERE WHAT IT READS IS OF BULK AT MOST 1048576: true; the input reads as it did. -/
def seekStepsUptoRow : OpenClaim := { program := "ytmlbaimdphillaa", sum := "011cf3634b92178aa7ae0a709221635db826f1bb4bfe4d240a612b17783466b0", func := "bodkin/bodkinlaw06.SeekSteps", spec := "seekSteps", unfollowed := true, recurses := true, apart := false, narrowed := true }
def SeekStepsUptoSaid : Prop := seekStepsUptoRow.holds Try.pinned (OpenSpec.upto seekStepsSpec)

/-- 'bodkinlaw06.SeekBack', WHERE WHAT IT READS IS OF BULK AT MOST 1048576: true; the input reads as it did. -/
def seekBackUptoRow : OpenClaim := { program := "ytmlbaimdphillaa", sum := "011cf3634b92178aa7ae0a709221635db826f1bb4bfe4d240a612b17783466b0", func := "bodkin/bodkinlaw06.SeekBack", spec := "seekBack", unfollowed := true, recurses := true, apart := false, narrowed := true }
def SeekBackUptoSaid : Prop := seekBackUptoRow.holds Try.pinned (OpenSpec.upto seekBackSpec)

/-- 'bodkinlaw06.SeekNil', WHERE WHAT IT READS IS OF BULK AT MOST 1048576: true; the input reads as it did. -/
def seekNilUptoRow : OpenClaim := { program := "ytmlbaimdphillaa", sum := "011cf3634b92178aa7ae0a709221635db826f1bb4bfe4d240a612b17783466b0", func := "bodkin/bodkinlaw06.SeekNil", spec := "seekNil", unfollowed := true, recurses := true, apart := false, narrowed := true }
def SeekNilUptoSaid : Prop := seekNilUptoRow.holds Try.pinned (OpenSpec.upto seekNilSpec)

/-- 'bodkinlaw05.TreeReplaces', WHERE WHAT IT READS IS OF BULK AT MOST 1048576: true; the input reads as it did. -/
def treeReplacesUptoRow : OpenClaim := { program := "ytmlbaimdphillaa", sum := "011cf3634b92178aa7ae0a709221635db826f1bb4bfe4d240a612b17783466b0", func := "bodkin/bodkinlaw05.TreeReplaces", spec := "treeReplaces", unfollowed := true, recurses := true, apart := false, narrowed := true }
def TreeReplacesUptoSaid : Prop := treeReplacesUptoRow.holds Try.pinned (OpenSpec.upto treeReplacesSpec)

/-- 'bodkinlaw22.FlowNew', WHERE WHAT IT READS IS OF BULK AT MOST 1048576: true; the input reads as it did. -/
def flowNewUptoRow : OpenClaim := { program := "ytmlbaimdphillaa", sum := "011cf3634b92178aa7ae0a709221635db826f1bb4bfe4d240a612b17783466b0", func := "bodkin/bodkinlaw22.FlowNew", spec := "flowNew", unfollowed := true, recurses := true, apart := false, narrowed := true }
def FlowNewUptoSaid : Prop := flowNewUptoRow.holds Try.pinned (OpenSpec.upto flowNewSpec)

/-- 'bodkinlaw05.TreeNil', WHERE WHAT IT READS IS OF BULK AT MOST 1048576: true; the input reads as it did. -/
def treeNilUptoRow : OpenClaim := { program := "ytmlbaimdphillaa", sum := "011cf3634b92178aa7ae0a709221635db826f1bb4bfe4d240a612b17783466b0", func := "bodkin/bodkinlaw05.TreeNil", spec := "treeNil", unfollowed := true, recurses := true, apart := false, narrowed := true }
def TreeNilUptoSaid : Prop := treeNilUptoRow.holds Try.pinned (OpenSpec.upto treeNilSpec)

/-- 'bodkinlaw22.FlowReplaces', WHERE WHAT IT READS IS OF BULK AT MOST 1048576: true; the input reads as it did. -/
def flowReplacesUptoRow : OpenClaim := { program := "ytmlbaimdphillaa", sum := "011cf3634b92178aa7ae0a709221635db826f1bb4bfe4d240a612b17783466b0", func := "bodkin/bodkinlaw22.FlowReplaces", spec := "flowReplaces", unfollowed := true, recurses := true, apart := false, narrowed := true }
def FlowReplacesUptoSaid : Prop := flowReplacesUptoRow.holds Try.pinned (OpenSpec.upto flowReplacesSpec)

end Rows
end Go.Proofs.Ytmlbaimdphillaa

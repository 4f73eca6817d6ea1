/-
  NARROWER THAN 'FOR EVERY INPUT', by the rows' own cells (each row's printed sentence says how): RopeBytes: laid · RopeThere: laid · RopeLong: laid · RopeNew: laid · RopeReplaces: laid · RopeSlices: laid · RopeNil: laid · RopeBreaks: laid.
  DERIVED. THE GIVEN ROWS OF THIS SEAT. 8 by the template 'for every input the law returns true; each argument reads behind the call as it read before'; 0 by the template 'total and deterministic' (their statements: YtjolodlmnffkeaaDoorTotals.lean).
  GIVEN WITH THE SEED: the statements are not yours to turn. If you find one false, say at which input.
  Laid BY PROGRAM, IN A SANDBOX (cutbox-rows.mjs): the forced cells as the released guide's own fill.sh prints them over the translation 070d0cd85b9c7b14… (all of the seat's roots in one cut). By AI agents, Wed Nov 11 2026. No macro, syntax, notation, axiom, sorry.
-/
import Derived.Test.YtjolodlmnffkeaaDoorChecked
import GoSem.Claim
import GoSem.ClaimJoined
import GoSem.ClaimMapViews
import Derived.JoinedTies
import Derived.KernelRfl
namespace Go.Proofs.YtjolodlmnffkeaaDoor
/- THE CELL 'sum', in the pinned program and in every row, IS THE sha256 OF THE DUMP (.gsa) THAT YtjolodlmnffkeaaDoorProg.lean LOADS. Nothing in Lean hashes anything: it is a label: what it is worth is what the hold of that sum in a sandbox is worth. -/
noncomputable def Tryd.pinned : Pinned := { name := "ytjolodlmnffkeaadoor", sum := "070d0cd85b9c7b146985ab2afa6954ebf451af6386a39d982556d637b3afc577", checked := Tryd.checked }
namespace Rows
def none {H : Type} : Left H := { results := [], args := [] }

/- WHAT THE LISTED PACKAGE-LEVEL VARIABLES READ AS WHEN THE CALL BEGINS. Each datum BY PROGRAM (the guide's laid-datum.mjs) off the statement by which the dump's own 'gosem.cut.vars' lays the variable. In a bare row this is a premise. The card (YtjolodlmnffkeaaDoorCards.lean) ties it to the program's text. -/
def laid_bodkin_utf_most {H : Type} : DataW H := .agg [.lit (.int .i32 127), .lit (.int .i32 2047), .lit (.int .i32 65535), .lit (.int .i32 1114111)]

/-- 'bodkinlaw07.RopeBytes': WHATEVER THE INPUT: true; the input reads as it did. -/
def ropeBytesSpec : ChangeSpec := { name := "ropeBytes", fn := fun _ => fun
  | [d1, d2] => { results := [.lit (.bool true)], args := [d1, d2] }
  | _ => none }
def ropeBytesRow : OpenClaim := { program := "ytjolodlmnffkeaadoor", sum := "070d0cd85b9c7b146985ab2afa6954ebf451af6386a39d982556d637b3afc577", func := "bodkin/bodkinlaw07.RopeBytes", spec := "ropeBytes", inPlace := ["internal/abi.NoEscape", "internal/bytealg.MakeNoZero"], unfollowed := true, recurses := true, named := ["bodkin/utf.most"], apart := false, laid := [("bodkin/utf.most", laid_bodkin_utf_most)] }
def RopeBytesSaid : Prop := ropeBytesRow.holds Tryd.pinned (OpenSpec.ofChange ropeBytesSpec)

/-- ITS FALSE NEIGHBOUR: 'it returns false'. Refute it at one input. -/
def ropeBytesWrong : ChangeSpec := { name := "ropeBytes", fn := fun _ => fun
  | [d1, d2] => { results := [.lit (.bool false)], args := [d1, d2] }
  | _ => none }
def RopeBytesWrongFalsely : Prop := ropeBytesRow.holds Tryd.pinned (OpenSpec.ofChange ropeBytesWrong)

/-- 'bodkinlaw07.RopeThere': WHATEVER THE INPUT: true; the input reads as it did. -/
def ropeThereSpec : ChangeSpec := { name := "ropeThere", fn := fun _ => fun
  | [d] => { results := [.lit (.bool true)], args := [d] }
  | _ => none }
def ropeThereRow : OpenClaim := { program := "ytjolodlmnffkeaadoor", sum := "070d0cd85b9c7b146985ab2afa6954ebf451af6386a39d982556d637b3afc577", func := "bodkin/bodkinlaw07.RopeThere", spec := "ropeThere", inPlace := ["internal/abi.NoEscape", "internal/bytealg.MakeNoZero"], unfollowed := true, recurses := true, named := ["bodkin/utf.most"], apart := false, laid := [("bodkin/utf.most", laid_bodkin_utf_most)] }
def RopeThereSaid : Prop := ropeThereRow.holds Tryd.pinned (OpenSpec.ofChange ropeThereSpec)

/-- ITS FALSE NEIGHBOUR: 'it returns false'. Refute it at one input. -/
def ropeThereWrong : ChangeSpec := { name := "ropeThere", fn := fun _ => fun
  | [d] => { results := [.lit (.bool false)], args := [d] }
  | _ => none }
def RopeThereWrongFalsely : Prop := ropeThereRow.holds Tryd.pinned (OpenSpec.ofChange ropeThereWrong)

/-- 'bodkinlaw07.RopeLong': WHATEVER THE INPUT: true; the input reads as it did. -/
def ropeLongSpec : ChangeSpec := { name := "ropeLong", fn := fun _ => fun
  | [d1, d2] => { results := [.lit (.bool true)], args := [d1, d2] }
  | _ => none }
def ropeLongRow : OpenClaim := { program := "ytjolodlmnffkeaadoor", sum := "070d0cd85b9c7b146985ab2afa6954ebf451af6386a39d982556d637b3afc577", func := "bodkin/bodkinlaw07.RopeLong", spec := "ropeLong", inPlace := ["internal/abi.NoEscape", "internal/bytealg.MakeNoZero"], unfollowed := true, recurses := true, named := ["bodkin/utf.most"], apart := false, laid := [("bodkin/utf.most", laid_bodkin_utf_most)] }
def RopeLongSaid : Prop := ropeLongRow.holds Tryd.pinned (OpenSpec.ofChange ropeLongSpec)

/-- ITS FALSE NEIGHBOUR: 'it returns false'. Refute it at one input. -/
def ropeLongWrong : ChangeSpec := { name := "ropeLong", fn := fun _ => fun
  | [d1, d2] => { results := [.lit (.bool false)], args := [d1, d2] }
  | _ => none }
def RopeLongWrongFalsely : Prop := ropeLongRow.holds Tryd.pinned (OpenSpec.ofChange ropeLongWrong)

/-- 'bodkinlaw07.RopeNew': WHATEVER THE INPUT: true; the input reads as it did. -/
def ropeNewSpec : ChangeSpec := { name := "ropeNew", fn := fun _ => fun
  | [d] => { results := [.lit (.bool true)], args := [d] }
  | _ => none }
def ropeNewRow : OpenClaim := { program := "ytjolodlmnffkeaadoor", sum := "070d0cd85b9c7b146985ab2afa6954ebf451af6386a39d982556d637b3afc577", func := "bodkin/bodkinlaw07.RopeNew", spec := "ropeNew", inPlace := ["internal/abi.NoEscape", "internal/bytealg.MakeNoZero"], unfollowed := true, recurses := true, named := ["bodkin/utf.most"], apart := false, laid := [("bodkin/utf.most", laid_bodkin_utf_most)] }
def RopeNewSaid : Prop := ropeNewRow.holds Tryd.pinned (OpenSpec.ofChange ropeNewSpec)

/-- ITS FALSE NEIGHBOUR: 'it returns false'. Refute it at one input. -/
def ropeNewWrong : ChangeSpec := { name := "ropeNew", fn := fun _ => fun
  | [d] => { results := [.lit (.bool false)], args := [d] }
  | _ => none }
def RopeNewWrongFalsely : Prop := ropeNewRow.holds Tryd.pinned (OpenSpec.ofChange ropeNewWrong)

/-- 'bodkinlaw07.RopeReplaces': WHATEVER THE INPUT: true; the input reads as it did. -/
def ropeReplacesSpec : ChangeSpec := { name := "ropeReplaces", fn := fun _ => fun
  | [d1, d2] => { results := [.lit (.bool true)], args := [d1, d2] }
  | _ => none }
def ropeReplacesRow : OpenClaim := { program := "ytjolodlmnffkeaadoor", sum := "070d0cd85b9c7b146985ab2afa6954ebf451af6386a39d982556d637b3afc577", func := "bodkin/bodkinlaw07.RopeReplaces", spec := "ropeReplaces", inPlace := ["internal/abi.NoEscape", "internal/bytealg.MakeNoZero"], unfollowed := true, recurses := true, named := ["bodkin/utf.most"], apart := false, laid := [("bodkin/utf.most", laid_bodkin_utf_most)] }
def RopeReplacesSaid : Prop := ropeReplacesRow.holds Tryd.pinned (OpenSpec.ofChange ropeReplacesSpec)

/-- ITS FALSE NEIGHBOUR: 'it returns false'. Refute it at one input. -/
def ropeReplacesWrong : ChangeSpec := { name := "ropeReplaces", fn := fun _ => fun
  | [d1, d2] => { results := [.lit (.bool false)], args := [d1, d2] }
  | _ => none }
def RopeReplacesWrongFalsely : Prop := ropeReplacesRow.holds Tryd.pinned (OpenSpec.ofChange ropeReplacesWrong)

/-- 'bodkinlaw07.RopeSlices': WHATEVER THE INPUT: true; the input reads as it did. -/
def ropeSlicesSpec : ChangeSpec := { name := "ropeSlices", fn := fun _ => fun
  | [d1, d2, d3] => { results := [.lit (.bool true)], args := [d1, d2, d3] }
  | _ => none }
def ropeSlicesRow : OpenClaim := { program := "ytjolodlmnffkeaadoor", sum := "070d0cd85b9c7b146985ab2afa6954ebf451af6386a39d982556d637b3afc577", func := "bodkin/bodkinlaw07.RopeSlices", spec := "ropeSlices", inPlace := ["internal/abi.NoEscape", "internal/bytealg.MakeNoZero"], unfollowed := true, recurses := true, named := ["bodkin/utf.most"], apart := false, laid := [("bodkin/utf.most", laid_bodkin_utf_most)] }
def RopeSlicesSaid : Prop := ropeSlicesRow.holds Tryd.pinned (OpenSpec.ofChange ropeSlicesSpec)

/-- ITS FALSE NEIGHBOUR: 'it returns false'. Refute it at one input. -/
def ropeSlicesWrong : ChangeSpec := { name := "ropeSlices", fn := fun _ => fun
  | [d1, d2, d3] => { results := [.lit (.bool false)], args := [d1, d2, d3] }
  | _ => none }
def RopeSlicesWrongFalsely : Prop := ropeSlicesRow.holds Tryd.pinned (OpenSpec.ofChange ropeSlicesWrong)

/-- 'bodkinlaw07.RopeNil': WHATEVER THE INPUT: true; the input reads as it did. -/
def ropeNilSpec : ChangeSpec := { name := "ropeNil", fn := fun _ => fun
  | [d] => { results := [.lit (.bool true)], args := [d] }
  | _ => none }
def ropeNilRow : OpenClaim := { program := "ytjolodlmnffkeaadoor", sum := "070d0cd85b9c7b146985ab2afa6954ebf451af6386a39d982556d637b3afc577", func := "bodkin/bodkinlaw07.RopeNil", spec := "ropeNil", inPlace := ["internal/abi.NoEscape", "internal/bytealg.MakeNoZero"], unfollowed := true, recurses := true, named := ["bodkin/utf.most"], apart := false, laid := [("bodkin/utf.most", laid_bodkin_utf_most)] }
def RopeNilSaid : Prop := ropeNilRow.holds Tryd.pinned (OpenSpec.ofChange ropeNilSpec)

/-- ITS FALSE NEIGHBOUR: 'it returns false'. Refute it at one input. -/
def ropeNilWrong : ChangeSpec := { name := "ropeNil", fn := fun _ => fun
  | [d] => { results := [.lit (.bool false)], args := [d] }
  | _ => none }
def RopeNilWrongFalsely : Prop := ropeNilRow.holds Tryd.pinned (OpenSpec.ofChange ropeNilWrong)

/-- 'bodkinlaw07.RopeBreaks': WHATEVER THE INPUT: true; the input reads as it did. -/
def ropeBreaksSpec : ChangeSpec := { name := "ropeBreaks", fn := fun _ => fun
  | [d1, d2] => { results := [.lit (.bool true)], args := [d1, d2] }
  | _ => none }
def ropeBreaksRow : OpenClaim := { program := "ytjolodlmnffkeaadoor", sum := "070d0cd85b9c7b146985ab2afa6954ebf451af6386a39d982556d637b3afc577", func := "bodkin/bodkinlaw07.RopeBreaks", spec := "ropeBreaks", inPlace := ["internal/abi.NoEscape", "internal/bytealg.MakeNoZero", "internal/bytealg.CountString", "internal/bytealg.IndexByteString", "internal/bytealg.IndexString"], unfollowed := true, recurses := true, named := ["bodkin/utf.most", "internal/bytealg.MaxLen"], apart := false, laid := [("bodkin/utf.most", laid_bodkin_utf_most)] }
def RopeBreaksSaid : Prop := ropeBreaksRow.holds Tryd.pinned (OpenSpec.ofChange ropeBreaksSpec)

/-- ITS FALSE NEIGHBOUR: 'it returns false'. Refute it at one input. -/
def ropeBreaksWrong : ChangeSpec := { name := "ropeBreaks", fn := fun _ => fun
  | [d1, d2] => { results := [.lit (.bool false)], args := [d1, d2] }
  | _ => none }
def RopeBreaksWrongFalsely : Prop := ropeBreaksRow.holds Tryd.pinned (OpenSpec.ofChange ropeBreaksWrong)

/- THE SECOND FORM. 'bulk': how many values and letters a reading holds, each counted each time it is reached (what is shared counts as often as it is met; a slice's spare places count too). A statement '..UptoSaid' is the law's where the arguments, and the package variables that the reading takes, are together of bulk at most 1048576: NARROWER than '..Said'. Prove '..Said' where nothing that the law and all that it calls make is longer than what came in: it says more and counts as full. Else prove '..UptoSaid'. A law counts once. -/
mutual
def uptoBulk {H : Type} : DataW H → Nat
  | .lit (.string bytes) => bytes.length + 1
  | .lit _ => 1
  | .nil => 1
  | .ptr d => uptoBulk d + 1
  | .slice elems spare => uptoBulkAll elems + uptoBulkAll spare + 1
  | .agg parts => uptoBulkAll parts + 1
  | .iface _ d => uptoBulk d + 1
  | .map entries => uptoBulkEntries entries + 1
  | .held _ => 1
def uptoBulkAll {H : Type} : List (DataW H) → Nat
  | [] => 0
  | d :: r => uptoBulk d + uptoBulkAll r
def uptoBulkEntries {H : Type} : List (Lit × DataW H) → Nat
  | [] => 0
  | x :: r => uptoBulkEntry x + uptoBulkEntries r
def uptoBulkEntry {H : Type} : Lit × DataW H → Nat
  | (.string bytes, d) => bytes.length + uptoBulk d + 1
  | (_, d) => uptoBulk d + 1
 end
def uptoSmall : (H : Type) → List (DataW H) → Bool := fun _ ds => decide (uptoBulkAll ds ≤ 1048576)
def OpenSpec.upto (s : _root_.Go.ChangeSpec) : _root_.Go.OpenSpec := { _root_.Go.OpenSpec.ofChange s with cond := some uptoSmall }

/-- 'bodkinlaw07.RopeBytes', WHERE WHAT IT READS IS OF BULK AT MOST 1048576: true; the input reads as it did. -/
def ropeBytesUptoRow : OpenClaim := { program := "ytjolodlmnffkeaadoor", sum := "070d0cd85b9c7b146985ab2afa6954ebf451af6386a39d982556d637b3afc577", func := "bodkin/bodkinlaw07.RopeBytes", spec := "ropeBytes", inPlace := ["internal/abi.NoEscape", "internal/bytealg.MakeNoZero"], unfollowed := true, recurses := true, named := ["bodkin/utf.most"], apart := false, laid := [("bodkin/utf.most", laid_bodkin_utf_most)], narrowed := true }
def RopeBytesUptoSaid : Prop := ropeBytesUptoRow.holds Tryd.pinned (OpenSpec.upto ropeBytesSpec)

/-- 'bodkinlaw07.RopeThere', WHERE WHAT IT READS IS OF BULK AT MOST 1048576: true; the input reads as it did. -/
def ropeThereUptoRow : OpenClaim := { program := "ytjolodlmnffkeaadoor", sum := "070d0cd85b9c7b146985ab2afa6954ebf451af6386a39d982556d637b3afc577", func := "bodkin/bodkinlaw07.RopeThere", spec := "ropeThere", inPlace := ["internal/abi.NoEscape", "internal/bytealg.MakeNoZero"], unfollowed := true, recurses := true, named := ["bodkin/utf.most"], apart := false, laid := [("bodkin/utf.most", laid_bodkin_utf_most)], narrowed := true }
def RopeThereUptoSaid : Prop := ropeThereUptoRow.holds Tryd.pinned (OpenSpec.upto ropeThereSpec)

/-- 'bodkinlaw07.RopeLong', WHERE WHAT IT READS IS OF BULK AT MOST 1048576: true; the input reads as it did. -/
def ropeLongUptoRow : OpenClaim := { program := "ytjolodlmnffkeaadoor", sum := "070d0cd85b9c7b146985ab2afa6954ebf451af6386a39d982556d637b3afc577", func := "bodkin/bodkinlaw07.RopeLong", spec := "ropeLong", inPlace := ["internal/abi.NoEscape", "internal/bytealg.MakeNoZero"], unfollowed := true, recurses := true, named := ["bodkin/utf.most"], apart := false, laid := [("bodkin/utf.most", laid_bodkin_utf_most)], narrowed := true }
def RopeLongUptoSaid : Prop := ropeLongUptoRow.holds Tryd.pinned (OpenSpec.upto ropeLongSpec)

/-- 'bodkinlaw07.RopeNew', WHERE WHAT IT READS IS OF BULK AT MOST 1048576: true; the input reads as it did. -/
def ropeNewUptoRow : OpenClaim := { program := "ytjolodlmnffkeaadoor", sum := "070d0cd85b9c7b146985ab2afa6954ebf451af6386a39d982556d637b3afc577", func := "bodkin/bodkinlaw07.RopeNew", spec := "ropeNew", inPlace := ["internal/abi.NoEscape", "internal/bytealg.MakeNoZero"], unfollowed := true, recurses := true, named := ["bodkin/utf.most"], apart := false, laid := [("bodkin/utf.most", laid_bodkin_utf_most)], narrowed := true }
def RopeNewUptoSaid : Prop := ropeNewUptoRow.holds Tryd.pinned (OpenSpec.upto ropeNewSpec)

/-- 'bodkinlaw07.RopeReplaces', WHERE WHAT IT READS IS OF BULK AT MOST 1048576: true; the input reads as it did. -/
def ropeReplacesUptoRow : OpenClaim := { program := "ytjolodlmnffkeaadoor", sum := "070d0cd85b9c7b146985ab2afa6954ebf451af6386a39d982556d637b3afc577", func := "bodkin/bodkinlaw07.RopeReplaces", spec := "ropeReplaces", inPlace := ["internal/abi.NoEscape", "internal/bytealg.MakeNoZero"], unfollowed := true, recurses := true, named := ["bodkin/utf.most"], apart := false, laid := [("bodkin/utf.most", laid_bodkin_utf_most)], narrowed := true }
def RopeReplacesUptoSaid : Prop := ropeReplacesUptoRow.holds Tryd.pinned (OpenSpec.upto ropeReplacesSpec)

/-- 'bodkinlaw07.RopeSlices', WHERE WHAT IT READS IS OF BULK AT MOST 1048576: true; the input reads as it did. -/
def ropeSlicesUptoRow : OpenClaim := { program := "ytjolodlmnffkeaadoor", sum := "070d0cd85b9c7b146985ab2afa6954ebf451af6386a39d982556d637b3afc577", func := "bodkin/bodkinlaw07.RopeSlices", spec := "ropeSlices", inPlace := ["internal/abi.NoEscape", "internal/bytealg.MakeNoZero"], unfollowed := true, recurses := true, named := ["bodkin/utf.most"], apart := false, laid := [("bodkin/utf.most", laid_bodkin_utf_most)], narrowed := true }
def RopeSlicesUptoSaid : Prop := ropeSlicesUptoRow.holds Tryd.pinned (OpenSpec.upto ropeSlicesSpec)

/-- 'bodkinlaw07.RopeNil', WHERE WHAT IT READS IS OF BULK AT MOST 1048576: true; the input reads as it did. -/
def ropeNilUptoRow : OpenClaim := { program := "ytjolodlmnffkeaadoor", sum := "070d0cd85b9c7b146985ab2afa6954ebf451af6386a39d982556d637b3afc577", func := "bodkin/bodkinlaw07.RopeNil", spec := "ropeNil", inPlace := ["internal/abi.NoEscape", "internal/bytealg.MakeNoZero"], unfollowed := true, recurses := true, named := ["bodkin/utf.most"], apart := false, laid := [("bodkin/utf.most", laid_bodkin_utf_most)], narrowed := true }
def RopeNilUptoSaid : Prop := ropeNilUptoRow.holds Tryd.pinned (OpenSpec.upto ropeNilSpec)

/-- 'bodkinlaw07.RopeBreaks', WHERE WHAT IT READS IS OF BULK AT MOST 1048576: true; the input reads as it did. -/
def ropeBreaksUptoRow : OpenClaim := { program := "ytjolodlmnffkeaadoor", sum := "070d0cd85b9c7b146985ab2afa6954ebf451af6386a39d982556d637b3afc577", func := "bodkin/bodkinlaw07.RopeBreaks", spec := "ropeBreaks", inPlace := ["internal/abi.NoEscape", "internal/bytealg.MakeNoZero", "internal/bytealg.CountString", "internal/bytealg.IndexByteString", "internal/bytealg.IndexString"], unfollowed := true, recurses := true, named := ["bodkin/utf.most", "internal/bytealg.MaxLen"], apart := false, laid := [("bodkin/utf.most", laid_bodkin_utf_most)], narrowed := true }
def RopeBreaksUptoSaid : Prop := ropeBreaksUptoRow.holds Tryd.pinned (OpenSpec.upto ropeBreaksSpec)

end Rows
end Go.Proofs.YtjolodlmnffkeaaDoor

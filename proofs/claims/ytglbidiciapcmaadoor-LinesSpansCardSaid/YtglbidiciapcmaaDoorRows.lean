/-
  NARROWER THAN 'FOR EVERY INPUT', by the rows' own cells (each row's printed sentence says how): LinesPoints: laid · LinesThere: laid · LinesClips: laid · LinesNil: laid · LinesSpans: laid.
  DERIVED. THE GIVEN ROWS OF THIS SEAT. 5 by the template 'for every input the law returns true; each argument reads behind the call as it read before'; 0 by the template 'total and deterministic' (their statements: YtglbidiciapcmaaDoorTotals.lean).
  GIVEN WITH THE SEED: the statements are not yours to turn. If you find one false, say at which input.
  Laid BY PROGRAM, IN A SANDBOX (cutbox-rows.mjs): the forced cells as the released guide's own fill.sh prints them over the translation 471527281ca6d4f3… (all of the seat's roots in one cut). By AI agents, Wed Nov 11 2026. No macro, syntax, notation, axiom, sorry.
-/
import Derived.Test.YtglbidiciapcmaaDoorChecked
import GoSem.Claim
import GoSem.ClaimJoined
import GoSem.ClaimMapViews
import Derived.JoinedTies
import Derived.KernelRfl
namespace Go.Proofs.YtglbidiciapcmaaDoor
/- THE CELL 'sum', in the pinned program and in every row, IS THE sha256 OF THE DUMP (.gsa) THAT YtglbidiciapcmaaDoorProg.lean LOADS. Nothing in Lean hashes anything: it is a label: what it is worth is what the hold of that sum in a sandbox is worth. -/
noncomputable def Tryd.pinned : Pinned := { name := "ytglbidiciapcmaadoor", sum := "471527281ca6d4f37563d286e2f31a38f6a12c41bc2a9019d8728ebf74caffef", checked := Tryd.checked }
namespace Rows
def none {H : Type} : Left H := { results := [], args := [] }

/- WHAT THE LISTED PACKAGE-LEVEL VARIABLES READ AS WHEN THE CALL BEGINS. Each datum BY PROGRAM (the guide's laid-datum.mjs) off the statement by which the dump's own 'gosem.cut.vars' lays the variable. In a bare row this is a premise. The card (YtglbidiciapcmaaDoorCards.lean) ties it to the program's text. -/
def laid_bodkin_utf_most {H : Type} : DataW H := .agg [.lit (.int .i32 127), .lit (.int .i32 2047), .lit (.int .i32 65535), .lit (.int .i32 1114111)]

/-- 'bodkinlaw08.LinesPoints': WHATEVER THE INPUT: true; the input reads as it did. -/
def linesPointsSpec : ChangeSpec := { name := "linesPoints", fn := fun _ => fun
  | [d1, d2, d3] => { results := [.lit (.bool true)], args := [d1, d2, d3] }
  | _ => none }
def linesPointsRow : OpenClaim := { program := "ytglbidiciapcmaadoor", sum := "471527281ca6d4f37563d286e2f31a38f6a12c41bc2a9019d8728ebf74caffef", func := "bodkin/bodkinlaw08.LinesPoints", spec := "linesPoints", inPlace := ["internal/bytealg.CountString", "internal/bytealg.IndexByteString", "internal/bytealg.IndexString"], unfollowed := true, recurses := true, named := ["bodkin/utf.most", "internal/bytealg.MaxLen"], apart := false, laid := [("bodkin/utf.most", laid_bodkin_utf_most)] }
def LinesPointsSaid : Prop := linesPointsRow.holds Tryd.pinned (OpenSpec.ofChange linesPointsSpec)

/-- ITS FALSE NEIGHBOUR: 'it returns false'. Refute it at one input. -/
def linesPointsWrong : ChangeSpec := { name := "linesPoints", fn := fun _ => fun
  | [d1, d2, d3] => { results := [.lit (.bool false)], args := [d1, d2, d3] }
  | _ => none }
def LinesPointsWrongFalsely : Prop := linesPointsRow.holds Tryd.pinned (OpenSpec.ofChange linesPointsWrong)

/-- 'bodkinlaw08.LinesThere': WHATEVER THE INPUT: true; the input reads as it did. -/
def linesThereSpec : ChangeSpec := { name := "linesThere", fn := fun _ => fun
  | [d] => { results := [.lit (.bool true)], args := [d] }
  | _ => none }
def linesThereRow : OpenClaim := { program := "ytglbidiciapcmaadoor", sum := "471527281ca6d4f37563d286e2f31a38f6a12c41bc2a9019d8728ebf74caffef", func := "bodkin/bodkinlaw08.LinesThere", spec := "linesThere", inPlace := ["internal/bytealg.CountString", "internal/bytealg.IndexByteString", "internal/bytealg.IndexString"], unfollowed := true, recurses := true, named := ["bodkin/utf.most", "internal/bytealg.MaxLen"], apart := false, laid := [("bodkin/utf.most", laid_bodkin_utf_most)] }
def LinesThereSaid : Prop := linesThereRow.holds Tryd.pinned (OpenSpec.ofChange linesThereSpec)

/-- ITS FALSE NEIGHBOUR: 'it returns false'. Refute it at one input. -/
def linesThereWrong : ChangeSpec := { name := "linesThere", fn := fun _ => fun
  | [d] => { results := [.lit (.bool false)], args := [d] }
  | _ => none }
def LinesThereWrongFalsely : Prop := linesThereRow.holds Tryd.pinned (OpenSpec.ofChange linesThereWrong)

/-- 'bodkinlaw08.LinesClips': WHATEVER THE INPUT: true; the input reads as it did. -/
def linesClipsSpec : ChangeSpec := { name := "linesClips", fn := fun _ => fun
  | [d1, d2] => { results := [.lit (.bool true)], args := [d1, d2] }
  | _ => none }
def linesClipsRow : OpenClaim := { program := "ytglbidiciapcmaadoor", sum := "471527281ca6d4f37563d286e2f31a38f6a12c41bc2a9019d8728ebf74caffef", func := "bodkin/bodkinlaw08.LinesClips", spec := "linesClips", inPlace := ["internal/bytealg.CountString", "internal/bytealg.IndexByteString", "internal/bytealg.IndexString"], unfollowed := true, recurses := true, named := ["bodkin/utf.most", "internal/bytealg.MaxLen"], apart := false, laid := [("bodkin/utf.most", laid_bodkin_utf_most)] }
def LinesClipsSaid : Prop := linesClipsRow.holds Tryd.pinned (OpenSpec.ofChange linesClipsSpec)

/-- ITS FALSE NEIGHBOUR: 'it returns false'. Refute it at one input. -/
def linesClipsWrong : ChangeSpec := { name := "linesClips", fn := fun _ => fun
  | [d1, d2] => { results := [.lit (.bool false)], args := [d1, d2] }
  | _ => none }
def LinesClipsWrongFalsely : Prop := linesClipsRow.holds Tryd.pinned (OpenSpec.ofChange linesClipsWrong)

/-- 'bodkinlaw08.LinesNil': WHATEVER THE INPUT: true; the input reads as it did. -/
def linesNilSpec : ChangeSpec := { name := "linesNil", fn := fun _ => fun
  | [d] => { results := [.lit (.bool true)], args := [d] }
  | _ => none }
def linesNilRow : OpenClaim := { program := "ytglbidiciapcmaadoor", sum := "471527281ca6d4f37563d286e2f31a38f6a12c41bc2a9019d8728ebf74caffef", func := "bodkin/bodkinlaw08.LinesNil", spec := "linesNil", inPlace := ["internal/bytealg.CountString", "internal/bytealg.IndexByteString", "internal/bytealg.IndexString"], unfollowed := true, recurses := true, named := ["internal/bytealg.MaxLen", "bodkin/utf.most"], apart := false, laid := [("bodkin/utf.most", laid_bodkin_utf_most)] }
def LinesNilSaid : Prop := linesNilRow.holds Tryd.pinned (OpenSpec.ofChange linesNilSpec)

/-- ITS FALSE NEIGHBOUR: 'it returns false'. Refute it at one input. -/
def linesNilWrong : ChangeSpec := { name := "linesNil", fn := fun _ => fun
  | [d] => { results := [.lit (.bool false)], args := [d] }
  | _ => none }
def LinesNilWrongFalsely : Prop := linesNilRow.holds Tryd.pinned (OpenSpec.ofChange linesNilWrong)

/-- 'bodkinlaw08.LinesSpans': WHATEVER THE INPUT: true; the input reads as it did. -/
def linesSpansSpec : ChangeSpec := { name := "linesSpans", fn := fun _ => fun
  | [d1, d2] => { results := [.lit (.bool true)], args := [d1, d2] }
  | _ => none }
def linesSpansRow : OpenClaim := { program := "ytglbidiciapcmaadoor", sum := "471527281ca6d4f37563d286e2f31a38f6a12c41bc2a9019d8728ebf74caffef", func := "bodkin/bodkinlaw08.LinesSpans", spec := "linesSpans", inPlace := ["internal/bytealg.CountString", "internal/bytealg.IndexByteString", "internal/bytealg.IndexString", "internal/abi.NoEscape"], unfollowed := true, recurses := true, named := ["bodkin/utf.most", "internal/bytealg.MaxLen"], apart := false, laid := [("bodkin/utf.most", laid_bodkin_utf_most)] }
def LinesSpansSaid : Prop := linesSpansRow.holds Tryd.pinned (OpenSpec.ofChange linesSpansSpec)

/-- ITS FALSE NEIGHBOUR: 'it returns false'. Refute it at one input. -/
def linesSpansWrong : ChangeSpec := { name := "linesSpans", fn := fun _ => fun
  | [d1, d2] => { results := [.lit (.bool false)], args := [d1, d2] }
  | _ => none }
def LinesSpansWrongFalsely : Prop := linesSpansRow.holds Tryd.pinned (OpenSpec.ofChange linesSpansWrong)

/- THE SECOND FORM. 'bulk': how many values and letters a reading holds, each counted each time it is reached (what is shared counts as often as it is met; a slice's spare places count too). A statement '..UptoSaid' is the law's where the arguments, and the package variables that the reading takes, are together of bulk at most 1048576: NARROWER than '..Said'. Prove '..Said' where nothing that the law and all that it calls make is longer than what came in: it says more and counts as full. Else prove '..UptoSaid'. A law counts once. -/
mutual
def uptoBulk {H : Type} : DataW H → Nat
  | .lit (.string bytes) => bytes.length + 1
  | .lit _ => 1
  | .nil => 1
  | .ptr d => uptoBulk d + 1
  | .slice elems spare => uptoBulkAll elems + uptoBulkAll spare + 1
  | .agg parts => uptoBulkAll parts + 1
  | .iface _ d => uptoBulk d + 1
  | .map entries => uptoBulkEntries entries + 1
  | .held _ => 1
def uptoBulkAll {H : Type} : List (DataW H) → Nat
  | [] => 0
  | d :: r => uptoBulk d + uptoBulkAll r
def uptoBulkEntries {H : Type} : List (Lit × DataW H) → Nat
  | [] => 0
  | x :: r => uptoBulkEntry x + uptoBulkEntries r
def uptoBulkEntry {H : Type} : Lit × DataW H → Nat
  | (.string bytes, d) => bytes.length + uptoBulk d + 1
  | (_, d) => uptoBulk d + 1
 end
def uptoSmall : (H : Type) → List (DataW H) → Bool := fun _ ds => decide (uptoBulkAll ds ≤ 1048576)
def OpenSpec.upto (s : _root_.Go.ChangeSpec) : _root_.Go.OpenSpec := { _root_.Go.OpenSpec.ofChange s with cond := some uptoSmall }

/-- 'bodkinlaw08.LinesPoints', WHERE WHAT IT READS IS OF BULK AT MOST 1048576: true; the input reads as it did. -/
def linesPointsUptoRow : OpenClaim := { program := "ytglbidiciapcmaadoor", sum := "471527281ca6d4f37563d286e2f31a38f6a12c41bc2a9019d8728ebf74caffef", func := "bodkin/bodkinlaw08.LinesPoints", spec := "linesPoints", inPlace := ["internal/bytealg.CountString", "internal/bytealg.IndexByteString", "internal/bytealg.IndexString"], unfollowed := true, recurses := true, named := ["bodkin/utf.most", "internal/bytealg.MaxLen"], apart := false, laid := [("bodkin/utf.most", laid_bodkin_utf_most)], narrowed := true }
def LinesPointsUptoSaid : Prop := linesPointsUptoRow.holds Tryd.pinned (OpenSpec.upto linesPointsSpec)

/-- 'bodkinlaw08.LinesThere', WHERE WHAT IT READS IS OF BULK AT MOST 1048576: true; the input reads as it did. -/
def linesThereUptoRow : OpenClaim := { program := "ytglbidiciapcmaadoor", sum := "471527281ca6d4f37563d286e2f31a38f6a12c41bc2a9019d8728ebf74caffef", func := "bodkin/bodkinlaw08.LinesThere", spec := "linesThere", inPlace := ["internal/bytealg.CountString", "internal/bytealg.IndexByteString", "internal/bytealg.IndexString"], unfollowed := true, recurses := true, named := ["bodkin/utf.most", "internal/bytealg.MaxLen"], apart := false, laid := [("bodkin/utf.most", laid_bodkin_utf_most)], narrowed := true }
def LinesThereUptoSaid : Prop := linesThereUptoRow.holds Tryd.pinned (OpenSpec.upto linesThereSpec)

/-- 'bodkinlaw08.LinesClips', WHERE WHAT IT READS IS OF BULK AT MOST 1048576: true; the input reads as it did. -/
def linesClipsUptoRow : OpenClaim := { program := "ytglbidiciapcmaadoor", sum := "471527281ca6d4f37563d286e2f31a38f6a12c41bc2a9019d8728ebf74caffef", func := "bodkin/bodkinlaw08.LinesClips", spec := "linesClips", inPlace := ["internal/bytealg.CountString", "internal/bytealg.IndexByteString", "internal/bytealg.IndexString"], unfollowed := true, recurses := true, named := ["bodkin/utf.most", "internal/bytealg.MaxLen"], apart := false, laid := [("bodkin/utf.most", laid_bodkin_utf_most)], narrowed := true }
def LinesClipsUptoSaid : Prop := linesClipsUptoRow.holds Tryd.pinned (OpenSpec.upto linesClipsSpec)

/-- 'bodkinlaw08.LinesNil', WHERE WHAT IT READS IS OF BULK AT MOST 1048576: true; the input reads as it did. -/
def linesNilUptoRow : OpenClaim := { program := "ytglbidiciapcmaadoor", sum := "471527281ca6d4f37563d286e2f31a38f6a12c41bc2a9019d8728ebf74caffef", func := "bodkin/bodkinlaw08.LinesNil", spec := "linesNil", inPlace := ["internal/bytealg.CountString", "internal/bytealg.IndexByteString", "internal/bytealg.IndexString"], unfollowed := true, recurses := true, named := ["internal/bytealg.MaxLen", "bodkin/utf.most"], apart := false, laid := [("bodkin/utf.most", laid_bodkin_utf_most)], narrowed := true }
def LinesNilUptoSaid : Prop := linesNilUptoRow.holds Tryd.pinned (OpenSpec.upto linesNilSpec)

/-- 'bodkinlaw08.LinesSpans', WHERE WHAT IT READS IS OF BULK AT MOST 1048576: true; the input reads as it did. -/
def linesSpansUptoRow : OpenClaim := { program := "ytglbidiciapcmaadoor", sum := "471527281ca6d4f37563d286e2f31a38f6a12c41bc2a9019d8728ebf74caffef", func := "bodkin/bodkinlaw08.LinesSpans", spec := "linesSpans", inPlace := ["internal/bytealg.CountString", "internal/bytealg.IndexByteString", "internal/bytealg.IndexString", "internal/abi.NoEscape"], unfollowed := true, recurses := true, named := ["bodkin/utf.most", "internal/bytealg.MaxLen"], apart := false, laid := [("bodkin/utf.most", laid_bodkin_utf_most)], narrowed := true }
def LinesSpansUptoSaid : Prop := linesSpansUptoRow.holds Tryd.pinned (OpenSpec.upto linesSpansSpec)

end Rows
end Go.Proofs.YtglbidiciapcmaaDoor

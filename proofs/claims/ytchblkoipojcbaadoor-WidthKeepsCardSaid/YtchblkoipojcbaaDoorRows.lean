/-
  NARROWER THAN 'FOR EVERY INPUT', by the rows' own cells (each row's printed sentence says how): WidthPlain: laid · WidthSums: laid · WidthNil: laid · WidthTables: laid · WidthKeeps: laid.
  DERIVED. THE GIVEN ROWS OF THIS SEAT. 5 by the template 'for every input the law returns true; each argument reads behind the call as it read before'; 0 by the template 'total and deterministic' (their statements: YtchblkoipojcbaaDoorTotals.lean).
  GIVEN WITH THE SEED: the statements are not yours to turn. If you find one false, say at which input.
  Laid BY PROGRAM, IN A SANDBOX (cutbox-rows.mjs): the forced cells as the released guide's own fill.sh prints them over the translation 1bdf35af34261919… (all of the seat's roots in one cut). By AI agents, Wed Nov 11 2026. No macro, syntax, notation, axiom, sorry.
-/
import Derived.Test.YtchblkoipojcbaaDoorChecked
import GoSem.Claim
import GoSem.ClaimJoined
import GoSem.ClaimMapViews
import Derived.JoinedTies
import Derived.KernelRfl
namespace Go.Proofs.YtchblkoipojcbaaDoor
/- THE CELL 'sum', in the pinned program and in every row, IS THE sha256 OF THE DUMP (.gsa) THAT YtchblkoipojcbaaDoorProg.lean LOADS. Nothing in Lean hashes anything: it is a label: what it is worth is what the hold of that sum in a sandbox is worth. -/
noncomputable def Tryd.pinned : Pinned := { name := "ytchblkoipojcbaadoor", sum := "1bdf35af342619193b1f96215147da5af4aca82acbafa6ab9b82033c4438e6c9", checked := Tryd.checked }
namespace Rows
def none {H : Type} : Left H := { results := [], args := [] }

/- WHAT THE LISTED PACKAGE-LEVEL VARIABLES READ AS WHEN THE CALL BEGINS. Each datum BY PROGRAM (the guide's laid-datum.mjs) off the statement by which the dump's own 'gosem.cut.vars' lays the variable. In a bare row this is a premise. The card (YtchblkoipojcbaaDoorCards.lean) ties it to the program's text. -/
def laid_bodkin_width_plainZero {H : Type} : DataW H := .agg [.agg [.lit (.int .i32 768), .lit (.int .i32 879)], .agg [.lit (.int .i32 8203), .lit (.int .i32 8207)], .agg [.lit (.int .i32 65024), .lit (.int .i32 65039)]]
def laid_bodkin_width_plainWide {H : Type} : DataW H := .agg [.agg [.lit (.int .i32 4352), .lit (.int .i32 4447)], .agg [.lit (.int .i32 11904), .lit (.int .i32 12350)], .agg [.lit (.int .i32 12353), .lit (.int .i32 19903)], .agg [.lit (.int .i32 19968), .lit (.int .i32 40959)], .agg [.lit (.int .i32 44032), .lit (.int .i32 55203)], .agg [.lit (.int .i32 63744), .lit (.int .i32 64255)], .agg [.lit (.int .i32 65280), .lit (.int .i32 65376)], .agg [.lit (.int .i32 127744), .lit (.int .i32 128591)]]

/-- 'bodkinlaw02.WidthPlain': WHATEVER THE INPUT: true; the input reads as it did. -/
def widthPlainSpec : ChangeSpec := { name := "widthPlain", fn := fun _ => fun
  | [d] => { results := [.lit (.bool true)], args := [d] }
  | _ => none }
def widthPlainRow : OpenClaim := { program := "ytchblkoipojcbaadoor", sum := "1bdf35af342619193b1f96215147da5af4aca82acbafa6ab9b82033c4438e6c9", func := "bodkin/bodkinlaw02.WidthPlain", spec := "widthPlain", named := ["bodkin/width.plainZero", "bodkin/width.plainWide"], apart := false, laid := [("bodkin/width.plainZero", laid_bodkin_width_plainZero), ("bodkin/width.plainWide", laid_bodkin_width_plainWide)] }
def WidthPlainSaid : Prop := widthPlainRow.holds Tryd.pinned (OpenSpec.ofChange widthPlainSpec)

/-- ITS FALSE NEIGHBOUR: 'it returns false'. Refute it at one input. -/
def widthPlainWrong : ChangeSpec := { name := "widthPlain", fn := fun _ => fun
  | [d] => { results := [.lit (.bool false)], args := [d] }
  | _ => none }
def WidthPlainWrongFalsely : Prop := widthPlainRow.holds Tryd.pinned (OpenSpec.ofChange widthPlainWrong)

/-- 'bodkinlaw02.WidthSums': WHATEVER THE INPUT: true; the input reads as it did. -/
def widthSumsSpec : ChangeSpec := { name := "widthSums", fn := fun _ => fun
  | [d1, d2] => { results := [.lit (.bool true)], args := [d1, d2] }
  | _ => none }
def widthSumsRow : OpenClaim := { program := "ytchblkoipojcbaadoor", sum := "1bdf35af342619193b1f96215147da5af4aca82acbafa6ab9b82033c4438e6c9", func := "bodkin/bodkinlaw02.WidthSums", spec := "widthSums", named := ["bodkin/width.plainZero", "bodkin/width.plainWide"], apart := false, laid := [("bodkin/width.plainZero", laid_bodkin_width_plainZero), ("bodkin/width.plainWide", laid_bodkin_width_plainWide)] }
def WidthSumsSaid : Prop := widthSumsRow.holds Tryd.pinned (OpenSpec.ofChange widthSumsSpec)

/-- ITS FALSE NEIGHBOUR: 'it returns false'. Refute it at one input. -/
def widthSumsWrong : ChangeSpec := { name := "widthSums", fn := fun _ => fun
  | [d1, d2] => { results := [.lit (.bool false)], args := [d1, d2] }
  | _ => none }
def WidthSumsWrongFalsely : Prop := widthSumsRow.holds Tryd.pinned (OpenSpec.ofChange widthSumsWrong)

/-- 'bodkinlaw02.WidthNil': WHATEVER THE INPUT: true; the input reads as it did. -/
def widthNilSpec : ChangeSpec := { name := "widthNil", fn := fun _ => fun
  | [d] => { results := [.lit (.bool true)], args := [d] }
  | _ => none }
def widthNilRow : OpenClaim := { program := "ytchblkoipojcbaadoor", sum := "1bdf35af342619193b1f96215147da5af4aca82acbafa6ab9b82033c4438e6c9", func := "bodkin/bodkinlaw02.WidthNil", spec := "widthNil", named := ["bodkin/width.plainZero", "bodkin/width.plainWide"], apart := false, laid := [("bodkin/width.plainZero", laid_bodkin_width_plainZero), ("bodkin/width.plainWide", laid_bodkin_width_plainWide)] }
def WidthNilSaid : Prop := widthNilRow.holds Tryd.pinned (OpenSpec.ofChange widthNilSpec)

/-- ITS FALSE NEIGHBOUR: 'it returns false'. Refute it at one input. -/
def widthNilWrong : ChangeSpec := { name := "widthNil", fn := fun _ => fun
  | [d] => { results := [.lit (.bool false)], args := [d] }
  | _ => none }
def WidthNilWrongFalsely : Prop := widthNilRow.holds Tryd.pinned (OpenSpec.ofChange widthNilWrong)

/-- 'bodkinlaw02.WidthTables': WHATEVER THE INPUT: true; the input reads as it did. -/
def widthTablesSpec : ChangeSpec := { name := "widthTables", fn := fun _ => fun
  | [d1, d2, d3] => { results := [.lit (.bool true)], args := [d1, d2, d3] }
  | _ => none }
def widthTablesRow : OpenClaim := { program := "ytchblkoipojcbaadoor", sum := "1bdf35af342619193b1f96215147da5af4aca82acbafa6ab9b82033c4438e6c9", func := "bodkin/bodkinlaw02.WidthTables", spec := "widthTables", named := ["bodkin/width.plainZero", "bodkin/width.plainWide"], apart := false, laid := [("bodkin/width.plainZero", laid_bodkin_width_plainZero), ("bodkin/width.plainWide", laid_bodkin_width_plainWide)] }
def WidthTablesSaid : Prop := widthTablesRow.holds Tryd.pinned (OpenSpec.ofChange widthTablesSpec)

/-- ITS FALSE NEIGHBOUR: 'it returns false'. Refute it at one input. -/
def widthTablesWrong : ChangeSpec := { name := "widthTables", fn := fun _ => fun
  | [d1, d2, d3] => { results := [.lit (.bool false)], args := [d1, d2, d3] }
  | _ => none }
def WidthTablesWrongFalsely : Prop := widthTablesRow.holds Tryd.pinned (OpenSpec.ofChange widthTablesWrong)

/-- 'bodkinlaw02.WidthKeeps': WHATEVER THE INPUT: true; the input reads as it did. -/
def widthKeepsSpec : ChangeSpec := { name := "widthKeeps", fn := fun _ => fun
  | [d1, d2, d3] => { results := [.lit (.bool true)], args := [d1, d2, d3] }
  | _ => none }
def widthKeepsRow : OpenClaim := { program := "ytchblkoipojcbaadoor", sum := "1bdf35af342619193b1f96215147da5af4aca82acbafa6ab9b82033c4438e6c9", func := "bodkin/bodkinlaw02.WidthKeeps", spec := "widthKeeps", named := ["bodkin/width.plainZero", "bodkin/width.plainWide"], apart := false, laid := [("bodkin/width.plainZero", laid_bodkin_width_plainZero), ("bodkin/width.plainWide", laid_bodkin_width_plainWide)] }
def WidthKeepsSaid : Prop := widthKeepsRow.holds Tryd.pinned (OpenSpec.ofChange widthKeepsSpec)

/-- ITS FALSE NEIGHBOUR: 'it returns false'. Refute it at one input. -/
def widthKeepsWrong : ChangeSpec := { name := "widthKeeps", fn := fun _ => fun
  | [d1, d2, d3] => { results := [.lit (.bool false)], args := [d1, d2, d3] }
  | _ => none }
def WidthKeepsWrongFalsely : Prop := widthKeepsRow.holds Tryd.pinned (OpenSpec.ofChange widthKeepsWrong)

/- THE SECOND FORM. 'bulk': how many values and letters a reading holds, each counted each time it is reached (what is shared counts as often as it is met; a slice's spare places count too). A statement '..UptoSaid' is the law's where the arguments, and the package variables that the reading takes, are together of bulk at most 1048576: NARROWER than '..Said'. Prove '..Said' where nothing that the law and all that it calls make is longer than what came in: it says more and counts as full. Else prove '..UptoSaid'. A law counts once. -/
mutual
def uptoBulk {H : Type} : DataW H → Nat
  | .lit (.string bytes) => bytes.length + 1
  | .lit _ => 1
  | .nil => 1
  | .ptr d => uptoBulk d + 1
  | .slice elems spare => uptoBulkAll elems + uptoBulkAll spare + 1
  | .agg parts => uptoBulkAll parts + 1
  | .iface _ d => uptoBulk d + 1
  | .map entries => uptoBulkEntries entries + 1
  | .held _ => 1
def uptoBulkAll {H : Type} : List (DataW H) → Nat
  | [] => 0
  | d :: r => uptoBulk d + uptoBulkAll r
def uptoBulkEntries {H : Type} : List (Lit × DataW H) → Nat
  | [] => 0
  | x :: r => uptoBulkEntry x + uptoBulkEntries r
def uptoBulkEntry {H : Type} : Lit × DataW H → Nat
  | (.string bytes, d) => bytes.length + uptoBulk d + 1
  | (_, d) => uptoBulk d + 1
 end
def uptoSmall : (H : Type) → List (DataW H) → Bool := fun _ ds => decide (uptoBulkAll ds ≤ 1048576)
def OpenSpec.upto (s : _root_.Go.ChangeSpec) : _root_.Go.OpenSpec := { _root_.Go.OpenSpec.ofChange s with cond := some uptoSmall }

/-- 'bodkinlaw02.WidthPlain', WHERE WHAT IT READS IS OF BULK AT MOST 1048576: true; the input reads as it did. -/
def widthPlainUptoRow : OpenClaim := { program := "ytchblkoipojcbaadoor", sum := "1bdf35af342619193b1f96215147da5af4aca82acbafa6ab9b82033c4438e6c9", func := "bodkin/bodkinlaw02.WidthPlain", spec := "widthPlain", named := ["bodkin/width.plainZero", "bodkin/width.plainWide"], apart := false, laid := [("bodkin/width.plainZero", laid_bodkin_width_plainZero), ("bodkin/width.plainWide", laid_bodkin_width_plainWide)], narrowed := true }
def WidthPlainUptoSaid : Prop := widthPlainUptoRow.holds Tryd.pinned (OpenSpec.upto widthPlainSpec)

/-- 'bodkinlaw02.WidthSums', WHERE WHAT IT READS IS OF BULK AT MOST 1048576: true; the input reads as it did. -/
def widthSumsUptoRow : OpenClaim := { program := "ytchblkoipojcbaadoor", sum := "1bdf35af342619193b1f96215147da5af4aca82acbafa6ab9b82033c4438e6c9", func := "bodkin/bodkinlaw02.WidthSums", spec := "widthSums", named := ["bodkin/width.plainZero", "bodkin/width.plainWide"], apart := false, laid := [("bodkin/width.plainZero", laid_bodkin_width_plainZero), ("bodkin/width.plainWide", laid_bodkin_width_plainWide)], narrowed := true }
def WidthSumsUptoSaid : Prop := widthSumsUptoRow.holds Tryd.pinned (OpenSpec.upto widthSumsSpec)

/-- 'bodkinlaw02.WidthNil', WHERE WHAT IT READS IS OF BULK AT MOST 1048576: true; the input reads as it did. -/
def widthNilUptoRow : OpenClaim := { program := "ytchblkoipojcbaadoor", sum := "1bdf35af342619193b1f96215147da5af4aca82acbafa6ab9b82033c4438e6c9", func := "bodkin/bodkinlaw02.WidthNil", spec := "widthNil", named := ["bodkin/width.plainZero", "bodkin/width.plainWide"], apart := false, laid := [("bodkin/width.plainZero", laid_bodkin_width_plainZero), ("bodkin/width.plainWide", laid_bodkin_width_plainWide)], narrowed := true }
def WidthNilUptoSaid : Prop := widthNilUptoRow.holds Tryd.pinned (OpenSpec.upto widthNilSpec)

/-- 'bodkinlaw02.WidthTables', WHERE WHAT IT READS IS OF BULK AT MOST 1048576: true; the input reads as it did. -/
def widthTablesUptoRow : OpenClaim := { program := "ytchblkoipojcbaadoor", sum := "1bdf35af342619193b1f96215147da5af4aca82acbafa6ab9b82033c4438e6c9", func := "bodkin/bodkinlaw02.WidthTables", spec := "widthTables", named := ["bodkin/width.plainZero", "bodkin/width.plainWide"], apart := false, laid := [("bodkin/width.plainZero", laid_bodkin_width_plainZero), ("bodkin/width.plainWide", laid_bodkin_width_plainWide)], narrowed := true }
def WidthTablesUptoSaid : Prop := widthTablesUptoRow.holds Tryd.pinned (OpenSpec.upto widthTablesSpec)

/-- 'bodkinlaw02.WidthKeeps', WHERE WHAT IT READS IS OF BULK AT MOST 1048576: true; the input reads as it did. -/
def widthKeepsUptoRow : OpenClaim := { program := "ytchblkoipojcbaadoor", sum := "1bdf35af342619193b1f96215147da5af4aca82acbafa6ab9b82033c4438e6c9", func := "bodkin/bodkinlaw02.WidthKeeps", spec := "widthKeeps", named := ["bodkin/width.plainZero", "bodkin/width.plainWide"], apart := false, laid := [("bodkin/width.plainZero", laid_bodkin_width_plainZero), ("bodkin/width.plainWide", laid_bodkin_width_plainWide)], narrowed := true }
def WidthKeepsUptoSaid : Prop := widthKeepsUptoRow.holds Tryd.pinned (OpenSpec.upto widthKeepsSpec)

end Rows
end Go.Proofs.YtchblkoipojcbaaDoor

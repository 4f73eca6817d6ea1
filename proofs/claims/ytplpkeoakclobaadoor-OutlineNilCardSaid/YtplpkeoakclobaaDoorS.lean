/- The functions of this seat, their code without slots, and that a call of each is what its code says: by program (lift.py). No conditions. -/
import Derived.Test.YtplpkeoakclobaaDoorS1
import Derived.Test.YtplpkeoakclobaaDoorRows
import Derived.KernelRfl
namespace Go.Proofs.YtplpkeoakclobaaDoor
open Go Go.Lift
namespace S
set_option maxRecDepth 10000
set_option linter.unusedVariables false
/-- '(*bodkin seek.Cursor).Item' -/
def seek_Cursor_Item_J1 (K : K1) (x2 : Value) (i4_2 e5 : Value) (w : World) : Prop :=
  sLoad Tryd.prog 91 i4_2 w fun x22 w =>
  sBin Tryd.prog .eql 24 false true e5 (.int .i64 0) w fun x24 w =>
  sStore Tryd.prog 91 x2 x22 w fun w =>
  sLoad Tryd.prog 91 x2 w fun v w' => w' = w ∧ K (.tuple #[v, x24]) w

def seek_Cursor_Item (K : K1) (c0 : Value) (w : World) : Prop :=
  sAlloc Tryd.prog 91 w fun x2 w =>
  sBin Tryd.prog .eql 134 false true c0 (.pointer none) w fun x7 w =>
  sIf x7 (
    sBuild Tryd.prog 91 [] w fun x8 w =>
    sStore Tryd.prog 91 x2 x8 w fun w =>
    sLoad Tryd.prog 91 x2 w fun v w' => w' = w ∧ K (.tuple #[v, (.bool false)]) w) (
    JoinS 2 13 (fun M1 =>
      DrawS w fun C w =>
      sNil c0 w fun x11 w =>
      stillS C w (fun w k => sFldA Tryd.prog 178 x11 0 w k) fun x12 =>
      stillS C w (fun w k => sLoad Tryd.prog 60 x12 w k) fun x13 =>
      sNil c0 w fun x15 w =>
      stillS C w (fun w k => sFldA Tryd.prog 178 x15 1 w k) fun x16 =>
      stillS C w (fun w k => sFldA Tryd.prog 176 x16 0 w k) fun x17 =>
      stillS C w (fun w k => sLoad Tryd.prog 3 x17 w k) fun x18 =>
      (
        sCall Tryd.prog 98 [x13, x18] w fun x19 w => C w ∧
        sExtract x19 0 w fun x20 w =>
        sExtract x19 1 w fun x21 w =>
        sAlloc Tryd.prog 91 w fun i4 w => C w ∧
        sStore Tryd.prog 91 i4 x20 w fun w => C w ∧
        M1 [i4, x21] w) ∧ (
        sAlloc Tryd.prog 91 w fun i4_1 w => C w ∧
        sCall Tryd.prog 98 [x13, x18] w fun x19_1 w => C w ∧
        sExtract x19_1 0 w fun x20_1 w =>
        sExtract x19_1 1 w fun x21_1 w =>
        sStore Tryd.prog 91 i4_1 x20_1 w fun w => C w ∧
        M1 [i4_1, x21_1] w)) fun us _ w =>
      seek_Cursor_Item_J1 K x2 (hd us) (hd (tl us)) w)

def seek_Cursor_Item.sc : SC := (.seq (.reg (.op 0 (.op 1 .done))) (.seq (.seq (.reg (.op 0 (.op 1 .done))) (.cond (.seq (.reg (.op 0 (.op 1 (.op 2 .done)))) .nop) .nop)) (.join [4, 5] [10, 11, 12, 13, 14, 15, 16, 17, 18, 19, 9, 20, 21] (.draw (.op 0 (.op 1 (.op 2 (.op 3 (.op 4 (.op 5 (.op 6 (.op 7 (.op 8 (.alt 9 (.op 10 (.op 11 (.op 12 (.op 13 (.op 14 (.op 15 .done)))))) 13 (.op 9 (.op 10 (.op 11 (.op 12 (.op 14 (.op 15 .done))))))))))))))))) (.seq (.reg (.op 0 (.op 1 (.op 2 (.op 3 (.op 4 .done)))))) .nop))))

theorem seek_Cursor_Item.ok : okC Tryd.f77.ntmps seek_Cursor_Item.sc (bodyOf Tryd.f77) = true := by kernel_rfl

theorem seek_Cursor_Item.eq {K : K1} {c0 : Value} {w : World} : seek_Cursor_Item K c0 w = codeS Tryd.prog seek_Cursor_Item.sc (bodyOf Tryd.f77) (argsF 0 [c0]) w (retQ Tryd.prog Tryd.f77.results.toList K) := by kernel_rfl

theorem seek_Cursor_Item.call {K : K1} {c0 : Value} {w : World} (h : seek_Cursor_Item K c0 w) : sCall Tryd.prog 77 [c0] w K := sCall_code mixed Tryd.func77 (by kernel_rfl) rfl rfl seek_Cursor_Item.ok seek_Cursor_Item.eq h

abbrev seek_Cursor_Item.n : Nat := 77

/-- '(*strings.Builder).WriteString' -/
def strings_Builder_WriteString (K : K1) (b0 s1 : Value) (w : World) : Prop :=
  sCall Tryd.prog 99 [b0] w fun x7 w =>
  sNil b0 w fun x10 w =>
  sFldA Tryd.prog 140 x10 1 w fun x11 w =>
  sLoad Tryd.prog 138 x11 w fun x12 w =>
  sBuiltin Tryd.prog .append [138, 9] 138 [x12, s1] w fun x14 w =>
  sNil b0 w fun x15 w =>
  sFldA Tryd.prog 140 x15 1 w fun x16 w =>
  sStore Tryd.prog 138 x16 x14 w fun w =>
  sBuiltin Tryd.prog .len [9] 3 [s1] w fun x18 w =>
  K (.tuple #[x18, .nilIface]) w

def strings_Builder_WriteString.sc : SC := (.seq (.reg (.op 0 (.op 1 .done))) (.seq (.reg (.op 0 (.op 1 .done))) (.seq (.reg (.op 0 (.op 1 (.op 2 (.op 3 (.op 4 (.op 5 (.op 6 (.op 7 (.op 8 (.op 9 .done))))))))))) (.seq (.reg (.op 0 (.op 1 (.op 2 (.op 3 .done))))) .nop))))

theorem strings_Builder_WriteString.ok : okC Tryd.f78.ntmps strings_Builder_WriteString.sc (bodyOf Tryd.f78) = true := by kernel_rfl

theorem strings_Builder_WriteString.eq {K : K1} {b0 s1 : Value} {w : World} : strings_Builder_WriteString K b0 s1 w = codeS Tryd.prog strings_Builder_WriteString.sc (bodyOf Tryd.f78) (argsF 0 [b0, s1]) w (retQ Tryd.prog Tryd.f78.results.toList K) := by kernel_rfl

theorem strings_Builder_WriteString.call {K : K1} {b0 s1 : Value} {w : World} (h : strings_Builder_WriteString K b0 s1 w) : sCall Tryd.prog 78 [b0, s1] w K := sCall_code mixed Tryd.func78 (by kernel_rfl) rfl rfl strings_Builder_WriteString.ok strings_Builder_WriteString.eq h

abbrev strings_Builder_WriteString.n : Nat := 78

/-- '(*bodkin seek.Cursor).Next' -/
def seek_Cursor_Next (K : K1) (c0 : Value) (w : World) : Prop :=
  sCall Tryd.prog 77 [c0] w fun x7 w =>
  sExtract x7 0 w fun x8 w =>
  sExtract x7 1 w fun x9 w =>
  sAlloc Tryd.prog 91 w fun x3 w =>
  sStore Tryd.prog 91 x3 x8 w fun w =>
  sUn Tryd.prog .not x9 w fun x11 w =>
  sIf x11 (
    K (.bool false) w) (
    sCall Tryd.prog 100 [c0] w fun x14 w =>
    sNil c0 w fun x15 w =>
    sFldA Tryd.prog 178 x15 1 w fun x16 w =>
    sFldA Tryd.prog 176 x16 1 w fun x17 w =>
    sStore Tryd.prog 114 x17 x14 w fun w =>
    sNil c0 w fun x19 w =>
    sFldA Tryd.prog 178 x19 1 w fun x20 w =>
    sFldA Tryd.prog 176 x20 0 w fun x21 w =>
    sLoad Tryd.prog 3 x21 w fun x22 w =>
    sBin Tryd.prog .add 3 false true x22 (.int .i64 1) w fun x23 w =>
    sNil c0 w fun x24 w =>
    sFldA Tryd.prog 178 x24 1 w fun x25 w =>
    sFldA Tryd.prog 176 x25 0 w fun x26 w =>
    sStore Tryd.prog 3 x26 x23 w fun w =>
    K (.bool true) w)

def seek_Cursor_Next.sc : SC := (.seq (.reg (.op 0 .done)) (.seq (.seq (.reg (.op 0 (.op 1 (.op 2 (.op 3 (.op 4 (.op 5 (.op 6 (.op 7 .done))))))))) (.seq (.reg (.op 0 (.op 1 .done))) (.cond (.seq (.reg (.op 0 .done)) .nop) .nop))) (.seq (.reg (.op 0 (.op 1 (.op 2 (.op 3 (.op 4 (.op 5 (.op 6 .done)))))))) (.seq (.reg (.op 0 (.op 1 (.op 2 (.op 3 (.op 4 (.op 5 (.op 6 (.op 7 (.op 8 (.op 9 .done))))))))))) (.seq (.reg (.op 0 .done)) .nop)))))

theorem seek_Cursor_Next.ok : okC Tryd.f79.ntmps seek_Cursor_Next.sc (bodyOf Tryd.f79) = true := by kernel_rfl

theorem seek_Cursor_Next.eq {K : K1} {c0 : Value} {w : World} : seek_Cursor_Next K c0 w = codeS Tryd.prog seek_Cursor_Next.sc (bodyOf Tryd.f79) (argsF 0 [c0]) w (retQ Tryd.prog Tryd.f79.results.toList K) := by kernel_rfl

theorem seek_Cursor_Next.call {K : K1} {c0 : Value} {w : World} (h : seek_Cursor_Next K c0 w) : sCall Tryd.prog 79 [c0] w K := sCall_code mixed Tryd.func79 (by kernel_rfl) rfl rfl seek_Cursor_Next.ok seek_Cursor_Next.eq h

abbrev seek_Cursor_Next.n : Nat := 79

/-- 'bodkin stops.right' -/
def stops_right (K : K1) (tab0 : Value) (w : World) : Prop :=
  sBin Tryd.prog .geq 3 false true tab0 (.int .i64 1) w fun x4 w =>
  sIf x4 (
    sBin Tryd.prog .leq 3 false true tab0 (.int .i64 16) w fun x7 w =>
    K x7 w) (
    K (.bool false) w)

def stops_right.sc : SC := (.seq (.reg (.op 0 .done)) (.seq (.reg (.op 0 (.op 1 (.op 2 (.test 2 (.op 3 (.op 4 (.op 5 (.op 6 .done)))) (.skip 3 (.skip 4 (.op 5 (.op 6 .done))))))))) .nop))

theorem stops_right.ok : okC Tryd.f81.ntmps stops_right.sc (bodyOf Tryd.f81) = true := by kernel_rfl

theorem stops_right.eq {K : K1} {tab0 : Value} {w : World} : stops_right K tab0 w = codeS Tryd.prog stops_right.sc (bodyOf Tryd.f81) (argsF 0 [tab0]) w (retQ Tryd.prog Tryd.f81.results.toList K) := by kernel_rfl

theorem stops_right.call {K : K1} {tab0 : Value} {w : World} (h : stops_right K tab0 w) : sCall Tryd.prog 81 [tab0] w K := sCall_code mixed Tryd.func81 (by kernel_rfl) rfl rfl stops_right.ok stops_right.eq h

abbrev stops_right.n : Nat := 81

/-- 'bodkin stops.each' -/
def stops_each_L1 (K : K1) (Nx1 : List Value → World → Prop) (f3 line1 t0 tab2 x13 : Value) (at8 x14 : Value) (w : World) : Prop :=
  sBin Tryd.prog .lss 3 false false x14 x13 w fun x15 w =>
  sIf x15 (
    sIdxA Tryd.prog 33 line1 x14 w fun x17 w =>
    sLoad Tryd.prog 21 x17 w fun x18 w =>
    sCall Tryd.prog 101 [t0, x18, tab2, at8] w fun x23 w =>
    sDyn Tryd.prog f3 [x14, at8, x23] w fun x28 w =>
    sUn Tryd.prog .not x28 w fun x29 w =>
    sIf x29 (
      K (.tuple #[]) w) (
      sBin Tryd.prog .add 3 false false at8 x23 w fun x32 w =>
      sBin Tryd.prog .add 3 false true x14 (.int .i64 1) w fun x33 w =>
      Nx1 [x32, x33] w)) (
    sBuiltin Tryd.prog .len [33] 3 [line1] w fun x36 w =>
    sDyn Tryd.prog f3 [x36, at8, (.int .i64 0)] w fun x38 w =>
    K (.tuple #[]) w)

def stops_each (K : K1) (t0 line1 tab2 f3 : Value) (w : World) : Prop :=
  sBuiltin Tryd.prog .len [33] 3 [line1] w fun x13 w =>
  LoopS [(.int .i64 0), (.int .i64 0)] 2 22 w fun us _ w Nx1 =>
    stops_each_L1 K Nx1 f3 line1 t0 tab2 x13 (hd us) (hd (tl us)) w

def stops_each.sc : SC := (.seq (.reg (.op 0 .done)) (.seq (.seq (.reg (.op 0 (.op 1 (.op 2 .done)))) (.sub (.loop [8, 14] [15, 16, 17, 18, 9, 10, 19, 20, 21, 22, 23, 11, 24, 25, 26, 27, 28, 29, 30, 31, 32, 33] (.seq (.reg (.op 0 .done)) (.seq (.cond .nop .nop) (.seq (.sub (.seq (.reg (.op 0 (.op 1 (.op 2 (.op 3 (.op 4 .done)))))) (.seq (.reg (.op 0 (.op 1 (.op 2 (.op 3 (.op 4 (.op 5 .done))))))) (.seq (.seq (.reg (.op 0 (.op 1 (.op 2 (.op 3 (.op 4 (.op 5 .done))))))) (.cond .nop .nop)) (.reg (.op 0 (.op 1 (.op 2 (.op 3 .done))))))))) (.reg (.op 0 (.op 1 .done))))))))) (.reg (.op 0 (.op 1 (.op 2 (.op 3 (.op 4 .done))))))))

theorem stops_each.ok : okC Tryd.f82.ntmps stops_each.sc (bodyOf Tryd.f82) = true := by kernel_rfl

theorem stops_each.eq {K : K1} {t0 line1 tab2 f3 : Value} {w : World} : stops_each K t0 line1 tab2 f3 w = codeS Tryd.prog stops_each.sc (bodyOf Tryd.f82) (argsF 0 [t0, line1, tab2, f3]) w (retQ Tryd.prog Tryd.f82.results.toList K) := by kernel_rfl

theorem stops_each.call {K : K1} {t0 line1 tab2 f3 : Value} {w : World} (h : stops_each K t0 line1 tab2 f3 w) : sCall Tryd.prog 82 [t0, line1, tab2, f3] w K := sCall_code mixed Tryd.func82 (by kernel_rfl) rfl rfl stops_each.ok stops_each.eq h

abbrev stops_each.n : Nat := 82

/-- 'bodkin stops.Cell$1' -/
def stops_Cell_1 (K : K1) (i0 at1 n2 x3 x4 : Value) (w : World) : Prop :=
  sStore Tryd.prog 3 x3 at1 w fun w =>
  sFldA Tryd.prog 106 x4 1 w fun x11 w =>
  sLoad Tryd.prog 3 x11 w fun x12 w =>
  sBin Tryd.prog .lss 3 false false i0 x12 w fun x13 w =>
  K x13 w

def stops_Cell_1.sc : SC := (.seq (.reg (.op 0 .done)) (.seq (.reg (.op 0 (.op 1 .done))) (.seq (.reg (.op 0 (.op 1 (.op 2 (.op 3 (.op 4 .done)))))) .nop)))

theorem stops_Cell_1.ok : okC Tryd.f83.ntmps stops_Cell_1.sc (bodyOf Tryd.f83) = true := by kernel_rfl

theorem stops_Cell_1.eq {K : K1} {i0 at1 n2 x3 x4 : Value} {w : World} : stops_Cell_1 K i0 at1 n2 x3 x4 w = codeS Tryd.prog stops_Cell_1.sc (bodyOf Tryd.f83) (argsF 0 [i0, at1, n2, x3, x4]) w (retQ Tryd.prog Tryd.f83.results.toList K) := by kernel_rfl

theorem stops_Cell_1.call {K : K1} {i0 at1 n2 x3 x4 : Value} {w : World} (h : stops_Cell_1 K i0 at1 n2 x3 x4 w) : sCall Tryd.prog 83 [i0, at1, n2, x3, x4] w K := sCall_code mixed Tryd.func83 (by kernel_rfl) rfl rfl stops_Cell_1.ok stops_Cell_1.eq h

abbrev stops_Cell_1.n : Nat := 83

/-- 'bodkin bodkinref17.Sizes' -/
def bodkinref17_Sizes_L3 (M2 : List Value → World → Prop) (Nx3 : List Value → World → Prop) (at8 tab2 : Value) (n11 : Value) (w : World) : Prop :=
  sBin Tryd.prog .lss 3 false true at8 (.int .i64 64) w fun x24 w =>
  sIf x24 (
    sBin Tryd.prog .add 3 false false at8 n11 w fun x28 w =>
    sBin Tryd.prog .rem 3 false false x28 tab2 w fun x30 w =>
    sBin Tryd.prog .neq 3 false true x30 (.int .i64 0) w fun x31 w =>
    sIf x31 (
      sBin Tryd.prog .add 3 false true n11 (.int .i64 1) w fun x34 w =>
      Nx3 [x34] w) (
      M2 [n11] w)) (
    M2 [n11] w)

def bodkinref17_Sizes_J2 (Nx1 : List Value → World → Prop) (at8 out7 x14 : Value) (n11_1 : Value) (w : World) : Prop :=
  sBuildSlice Tryd.prog 27 1 [(0, n11_1)] w fun x37 w =>
  sBuiltin Tryd.prog .append [27, 27] 27 [out7, x37] w fun x38 w =>
  sBin Tryd.prog .add 3 false false at8 n11_1 w fun x41 w =>
  sBin Tryd.prog .add 3 false true x14 (.int .i64 1) w fun x42 w =>
  Nx1 [x38, x41, x42] w

def bodkinref17_Sizes_L1 (K : K1) (Nx1 : List Value → World → Prop) (line1 t0 tab2 x13 : Value) (out7 at8 x14 : Value) (w : World) : Prop :=
  sBin Tryd.prog .lss 3 false false x14 x13 w fun x15 w =>
  sIf x15 (
    sIdxA Tryd.prog 33 line1 x14 w fun x16 w =>
    sLoad Tryd.prog 21 x16 w fun x17 w =>
    sCall Tryd.prog 102 [t0, x17] w fun x20 w =>
    JoinS 1 14 (fun M2 =>
      sBin Tryd.prog .eql 21 false true x17 (.int .i32 9) w fun x22 w =>
      sIf x22 (
        LoopS [(.int .i64 1)] 1 12 w fun us _ w Nx3 =>
          bodkinref17_Sizes_L3 M2 Nx3 at8 tab2 (hd us) w) (
        M2 [x20] w)) fun us _ w =>
      bodkinref17_Sizes_J2 Nx1 at8 out7 x14 (hd us) w) (
    K out7 w)

def bodkinref17_Sizes (K : K1) (t0 line1 tab2 : Value) (w : World) : Prop :=
  sBuiltin Tryd.prog .len [33] 3 [line1] w fun x13 w =>
  LoopS [(.slice none 0 0), (.int .i64 0), (.int .i64 0)] 3 30 w fun us _ w Nx1 =>
    bodkinref17_Sizes_L1 K Nx1 line1 t0 tab2 x13 (hd us) (hd (tl us)) (hd (tl (tl us))) w

def bodkinref17_Sizes.sc : SC := (.seq (.reg (.op 0 .done)) (.seq (.reg (.op 0 .done)) (.seq (.reg (.op 0 .done)) (.seq (.seq (.reg (.op 0 (.op 1 (.op 2 .done)))) (.sub (.loop [7, 8, 14] [15, 16, 17, 10, 18, 19, 20, 11, 21, 22, 23, 24, 25, 26, 27, 28, 29, 30, 31, 32, 33, 34, 35, 36, 37, 38, 39, 40, 41, 42] (.seq (.reg (.op 0 .done)) (.seq (.cond .nop .nop) (.seq (.sub (.seq (.reg (.op 0 (.op 1 (.op 2 .done)))) (.seq (.reg (.op 0 (.op 1 (.op 2 (.op 3 .done))))) (.join [11] [21, 22, 23, 24, 25, 26, 27, 28, 29, 30, 31, 32, 33, 34] (.seq (.reg (.op 0 (.op 1 .done))) (.cond (.seq (.reg (.op 0 .done)) (.sub (.loop [11] [23, 24, 25, 26, 27, 28, 29, 30, 31, 32, 33, 34] (.seq (.seq (.reg (.op 0 (.op 1 (.op 2 (.test 2 (.op 3 (.op 4 (.op 5 (.op 6 (.op 7 (.op 8 (.op 9 .done))))))) (.skip 3 (.skip 4 (.skip 5 (.skip 6 (.skip 7 (.skip 8 (.op 9 .done)))))))))))) (.cond .nop .nop)) (.sub (.reg (.op 0 (.op 1 (.op 2 .done))))))))) .nop)) (.seq (.reg (.op 0 (.op 1 (.op 2 (.op 3 (.op 4 .done)))))) (.reg (.op 0 (.op 1 (.op 2 (.op 3 .done)))))))))) (.reg (.op 0 (.op 1 .done))))))))) (.seq (.reg (.op 0 (.op 1 .done))) .nop)))))

theorem bodkinref17_Sizes.ok : okC Tryd.f84.ntmps bodkinref17_Sizes.sc (bodyOf Tryd.f84) = true := by kernel_rfl

theorem bodkinref17_Sizes.eq {K : K1} {t0 line1 tab2 : Value} {w : World} : bodkinref17_Sizes K t0 line1 tab2 w = codeS Tryd.prog bodkinref17_Sizes.sc (bodyOf Tryd.f84) (argsF 0 [t0, line1, tab2]) w (retQ Tryd.prog Tryd.f84.results.toList K) := by kernel_rfl

theorem bodkinref17_Sizes.call {K : K1} {t0 line1 tab2 : Value} {w : World} (h : bodkinref17_Sizes K t0 line1 tab2 w) : sCall Tryd.prog 84 [t0, line1, tab2] w K := sCall_code mixed Tryd.func84 (by kernel_rfl) rfl rfl bodkinref17_Sizes.ok bodkinref17_Sizes.eq h

abbrev bodkinref17_Sizes.n : Nat := 84

/-- 'bodkin tree.sumOf' -/
def tree_sumOf (K : K1) (n0 : Value) (w : World) : Prop :=
  sAlloc Tryd.prog 114 w fun x2 w =>
  sAssert Tryd.prog n0 88 94 true w fun x6 w =>
  sExtract x6 1 w fun x7 w =>
  sExtract x6 0 w fun x8 w =>
  sIf x7 (
    sNil x8 w fun x10 w =>
    sFldA Tryd.prog 132 x10 1 w fun x11 w =>
    sLoad Tryd.prog 114 x11 w fun x12 w =>
    sStore Tryd.prog 114 x2 x12 w fun w =>
    sLoad Tryd.prog 114 x2 w fun v w' => w' = w ∧ K v w) (
    sAssert Tryd.prog n0 88 128 true w fun x13 w =>
    sExtract x13 1 w fun x14 w =>
    sExtract x13 0 w fun x15 w =>
    sIf x14 (
      sNil x15 w fun x17 w =>
      sFldA Tryd.prog 166 x17 2 w fun x18 w =>
      sLoad Tryd.prog 114 x18 w fun x19 w =>
      sStore Tryd.prog 114 x2 x19 w fun w =>
      sLoad Tryd.prog 114 x2 w fun v w' => w' = w ∧ K v w) (
      sBuild Tryd.prog 114 [] w fun x20 w =>
      sStore Tryd.prog 114 x2 x20 w fun w =>
      sLoad Tryd.prog 114 x2 w fun v w' => w' = w ∧ K v w))

def tree_sumOf.sc : SC := (.seq (.reg (.op 0 .done)) (.seq (.seq (.reg (.op 0 .done)) (.sub (.seq (.reg (.op 0 (.op 1 (.op 2 .done)))) (.cond (.seq (.reg (.op 0 .done)) (.seq (.reg (.op 0 (.op 1 (.op 2 (.op 3 (.op 4 .done)))))) .nop)) (.seq (.reg (.op 0 (.op 1 (.op 2 .done)))) (.cond (.seq (.reg (.op 0 .done)) (.seq (.reg (.op 0 (.op 1 (.op 2 (.op 3 (.op 4 .done)))))) .nop)) .nop)))))) (.seq (.reg (.op 0 (.op 1 .done))) .nop)))

theorem tree_sumOf.ok : okC Tryd.f85.ntmps tree_sumOf.sc (bodyOf Tryd.f85) = true := by kernel_rfl

theorem tree_sumOf.eq {K : K1} {n0 : Value} {w : World} : tree_sumOf K n0 w = codeS Tryd.prog tree_sumOf.sc (bodyOf Tryd.f85) (argsF 0 [n0]) w (retQ Tryd.prog Tryd.f85.results.toList K) := by kernel_rfl

theorem tree_sumOf.call {K : K1} {n0 : Value} {w : World} (h : tree_sumOf K n0 w) : sCall Tryd.prog 85 [n0] w K := sCall_code mixed Tryd.func85 (by kernel_rfl) rfl rfl tree_sumOf.ok tree_sumOf.eq h

abbrev tree_sumOf.n : Nat := 85

/-- '(*bodkin tree.Tree).top' -/
def tree_Tree_top (K : K1) (t0 : Value) (w : World) : Prop :=
  sBin Tryd.prog .eql 60 false true t0 (.pointer none) w fun x4 w =>
  sIf x4 (
    K .nilIface w) (
    sNil t0 w fun x6 w =>
    sFldA Tryd.prog 97 x6 0 w fun x7 w =>
    sLoad Tryd.prog 88 x7 w fun x8 w =>
    K x8 w)

def tree_Tree_top.sc : SC := (.seq (.reg (.op 0 .done)) (.seq (.seq (.reg (.op 0 (.op 1 .done))) (.cond (.seq (.reg (.op 0 .done)) .nop) .nop)) (.seq (.reg (.op 0 (.op 1 (.op 2 (.op 3 (.op 4 .done)))))) .nop)))

theorem tree_Tree_top.ok : okC Tryd.f86.ntmps tree_Tree_top.sc (bodyOf Tryd.f86) = true := by kernel_rfl

theorem tree_Tree_top.eq {K : K1} {t0 : Value} {w : World} : tree_Tree_top K t0 w = codeS Tryd.prog tree_Tree_top.sc (bodyOf Tryd.f86) (argsF 0 [t0]) w (retQ Tryd.prog Tryd.f86.results.toList K) := by kernel_rfl

theorem tree_Tree_top.call {K : K1} {t0 : Value} {w : World} (h : tree_Tree_top K t0 w) : sCall Tryd.prog 86 [t0] w K := sCall_code mixed Tryd.func86 (by kernel_rfl) rfl rfl tree_Tree_top.ok tree_Tree_top.eq h

abbrev tree_Tree_top.n : Nat := 86

/-- '(*bodkin tree.Tree).Items' -/
def tree_Tree_Items (K : K1) (t0 : Value) (w : World) : Prop :=
  sAlloc Tryd.prog 63 w fun out3 w =>
  sCall Tryd.prog 86 [t0] w fun x5 w =>
  sFunc Tryd.prog (.func 105) [] [out3] w fun x6 w =>
  sCall Tryd.prog 104 [x5, x6] w fun x7 w =>
  sLoad Tryd.prog 63 out3 w fun x8 w =>
  K x8 w

def tree_Tree_Items.sc : SC := (.seq (.reg (.op 0 .done)) (.seq (.reg (.op 0 .done)) (.seq (.reg (.op 0 (.op 1 (.op 2 (.op 3 .done))))) (.seq (.reg (.op 0 (.op 1 .done))) .nop))))

theorem tree_Tree_Items.ok : okC Tryd.f88.ntmps tree_Tree_Items.sc (bodyOf Tryd.f88) = true := by kernel_rfl

theorem tree_Tree_Items.eq {K : K1} {t0 : Value} {w : World} : tree_Tree_Items K t0 w = codeS Tryd.prog tree_Tree_Items.sc (bodyOf Tryd.f88) (argsF 0 [t0]) w (retQ Tryd.prog Tryd.f88.results.toList K) := by kernel_rfl

theorem tree_Tree_Items.call {K : K1} {t0 : Value} {w : World} (h : tree_Tree_Items K t0 w) : sCall Tryd.prog 88 [t0] w K := sCall_code mixed Tryd.func88 (by kernel_rfl) rfl rfl tree_Tree_Items.ok tree_Tree_Items.eq h

abbrev tree_Tree_Items.n : Nat := 88

/-- 'bodkin tree.heightOf' -/
def tree_heightOf (K : K1) (n0 : Value) (w : World) : Prop :=
  sAssert Tryd.prog n0 88 94 true w fun x6 w =>
  sExtract x6 1 w fun x7 w =>
  sExtract x6 0 w fun x8 w =>
  sIf x7 (
    K (.int .i64 1) w) (
    sAssert Tryd.prog n0 88 128 true w fun x9 w =>
    sExtract x9 1 w fun x10 w =>
    sExtract x9 0 w fun x11 w =>
    sIf x10 (
      sNil x11 w fun x13 w =>
      sFldA Tryd.prog 166 x13 1 w fun x14 w =>
      sLoad Tryd.prog 3 x14 w fun x15 w =>
      K x15 w) (
      K (.int .i64 0) w))

def tree_heightOf.sc : SC := (.seq (.reg (.op 0 .done)) (.seq (.seq (.reg (.op 0 .done)) (.sub (.seq (.reg (.op 0 (.op 1 (.op 2 .done)))) (.cond (.seq (.reg (.op 0 .done)) (.seq (.reg (.op 0 .done)) .nop)) (.seq (.reg (.op 0 (.op 1 (.op 2 .done)))) (.cond (.seq (.reg (.op 0 .done)) (.seq (.reg (.op 0 (.op 1 (.op 2 (.op 3 (.op 4 .done)))))) .nop)) .nop)))))) (.seq (.reg (.op 0 .done)) .nop)))

theorem tree_heightOf.ok : okC Tryd.f89.ntmps tree_heightOf.sc (bodyOf Tryd.f89) = true := by kernel_rfl

theorem tree_heightOf.eq {K : K1} {n0 : Value} {w : World} : tree_heightOf K n0 w = codeS Tryd.prog tree_heightOf.sc (bodyOf Tryd.f89) (argsF 0 [n0]) w (retQ Tryd.prog Tryd.f89.results.toList K) := by kernel_rfl

theorem tree_heightOf.call {K : K1} {n0 : Value} {w : World} (h : tree_heightOf K n0 w) : sCall Tryd.prog 89 [n0] w K := sCall_code mixed Tryd.func89 (by kernel_rfl) rfl rfl tree_heightOf.ok tree_heightOf.eq h

abbrev tree_heightOf.n : Nat := 89

/-- 'bodkin tree.raise' -/
def tree_raise (K : K1) (kids0 : Value) (w : World) : Prop :=
  sBuiltin Tryd.prog .len [126] 3 [kids0] w fun x5 w =>
  sBin Tryd.prog .leq 3 false true x5 (.int .i64 8) w fun x6 w =>
  sIf x6 (
    sCall Tryd.prog 70 [kids0] w fun x8 w =>
    sIface Tryd.prog 128 x8 w fun x9 w =>
    sBuildSlice Tryd.prog 126 1 [(0, x9)] w fun x10 w =>
    K x10 w) (
    sBuiltin Tryd.prog .len [126] 3 [kids0] w fun x12 w =>
    sBin Tryd.prog .quo 3 false true x12 (.int .i64 2) w fun x13 w =>
    DrawS w fun C w =>
    stillS C w (fun w k => sSlice Tryd.prog 126 kids0 none (some x13) (some x13) w k) fun x17 =>
    stillS C w (fun w k => sSlice Tryd.prog 126 kids0 (some x13) none none w k) fun x22 =>
    sCall Tryd.prog 70 [x17] w fun x18 w => C w ∧
    stillS C w (fun w k => sIface Tryd.prog 128 x18 w k) fun x19 =>
    sCall Tryd.prog 70 [x22] w fun x23 w => C w ∧
    stillS C w (fun w k => sIface Tryd.prog 128 x23 w k) fun x24 =>
    sBuildSlice Tryd.prog 126 2 [(0, x19), (1, x24)] w fun x25 w => C w ∧
    K x25 w)

def tree_raise.sc : SC := (.seq (.reg (.op 0 .done)) (.seq (.seq (.reg (.op 0 (.op 1 (.op 2 .done)))) (.cond (.seq (.reg (.op 0 (.op 1 (.op 2 (.op 3 (.op 4 .done)))))) .nop) .nop)) (.seq (.reg (.op 0 (.op 1 (.op 2 (.op 3 .done))))) (.seq (.draw (.op 0 (.op 1 (.op 2 (.op 3 (.op 6 (.op 7 (.op 8 (.op 4 (.op 5 (.op 9 (.op 10 (.op 11 (.op 12 .done)))))))))))))) .nop))))

theorem tree_raise.ok : okC Tryd.f90.ntmps tree_raise.sc (bodyOf Tryd.f90) = true := by kernel_rfl

theorem tree_raise.eq {K : K1} {kids0 : Value} {w : World} : tree_raise K kids0 w = codeS Tryd.prog tree_raise.sc (bodyOf Tryd.f90) (argsF 0 [kids0]) w (retQ Tryd.prog Tryd.f90.results.toList K) := by kernel_rfl

theorem tree_raise.call {K : K1} {kids0 : Value} {w : World} (h : tree_raise K kids0 w) : sCall Tryd.prog 90 [kids0] w K := sCall_code mixed Tryd.func90 (by kernel_rfl) rfl rfl tree_raise.ok tree_raise.eq h

abbrev tree_raise.n : Nat := 90

/-- 'bodkin tree.put' -/
def tree_put (K : K1) (a0 b1 : Value) (w : World) : Prop :=
  sBuiltin Tryd.prog .len [126] 3 [a0] w fun x7 w =>
  sBuiltin Tryd.prog .len [126] 3 [b1] w fun x9 w =>
  sBin Tryd.prog .add 3 false false x7 x9 w fun x10 w =>
  sMake Tryd.prog 126 (.int .i64 0) x10 w fun x11 w =>
  sBuiltin Tryd.prog .append [126, 126] 126 [x11, a0] w fun x14 w =>
  sBuiltin Tryd.prog .append [126, 126] 126 [x14, b1] w fun x17 w =>
  K x17 w

def tree_put.sc : SC := (.seq (.reg (.op 0 .done)) (.seq (.reg (.op 0 (.op 1 (.op 2 (.op 3 (.op 4 (.op 5 (.op 6 .done)))))))) (.seq (.reg (.op 0 (.op 1 (.op 2 (.op 3 .done))))) (.seq (.reg (.op 0 (.op 1 (.op 2 (.op 3 .done))))) .nop))))

theorem tree_put.ok : okC Tryd.f91.ntmps tree_put.sc (bodyOf Tryd.f91) = true := by kernel_rfl

theorem tree_put.eq {K : K1} {a0 b1 : Value} {w : World} : tree_put K a0 b1 w = codeS Tryd.prog tree_put.sc (bodyOf Tryd.f91) (argsF 0 [a0, b1]) w (retQ Tryd.prog Tryd.f91.results.toList K) := by kernel_rfl

theorem tree_put.call {K : K1} {a0 b1 : Value} {w : World} (h : tree_put K a0 b1 w) : sCall Tryd.prog 91 [a0, b1] w K := sCall_code mixed Tryd.func91 (by kernel_rfl) rfl rfl tree_put.ok tree_put.eq h

abbrev tree_put.n : Nat := 91

/-- 'bodkin tree.spread' -/
def tree_spread (K : K1) (l0 : Value) (w : World) : Prop :=
  sBuiltin Tryd.prog .len [63] 3 [l0] w fun x5 w =>
  sBin Tryd.prog .leq 3 false true x5 (.int .i64 8) w fun x6 w =>
  sIf x6 (
    sCall Tryd.prog 46 [l0] w fun x8 w =>
    sIface Tryd.prog 94 x8 w fun x9 w =>
    sBuildSlice Tryd.prog 126 1 [(0, x9)] w fun x10 w =>
    K x10 w) (
    sBuiltin Tryd.prog .len [63] 3 [l0] w fun x12 w =>
    sBin Tryd.prog .quo 3 false true x12 (.int .i64 2) w fun x13 w =>
    DrawS w fun C w =>
    stillS C w (fun w k => sSlice Tryd.prog 63 l0 none (some x13) (some x13) w k) fun x17 =>
    stillS C w (fun w k => sSlice Tryd.prog 63 l0 (some x13) none none w k) fun x22 =>
    sCall Tryd.prog 46 [x17] w fun x18 w => C w ∧
    stillS C w (fun w k => sIface Tryd.prog 94 x18 w k) fun x19 =>
    sCall Tryd.prog 46 [x22] w fun x23 w => C w ∧
    stillS C w (fun w k => sIface Tryd.prog 94 x23 w k) fun x24 =>
    sBuildSlice Tryd.prog 126 2 [(0, x19), (1, x24)] w fun x25 w => C w ∧
    K x25 w)

def tree_spread.sc : SC := (.seq (.reg (.op 0 .done)) (.seq (.seq (.reg (.op 0 (.op 1 (.op 2 .done)))) (.cond (.seq (.reg (.op 0 (.op 1 (.op 2 (.op 3 (.op 4 .done)))))) .nop) .nop)) (.seq (.reg (.op 0 (.op 1 (.op 2 (.op 3 .done))))) (.seq (.draw (.op 0 (.op 1 (.op 2 (.op 3 (.op 6 (.op 7 (.op 8 (.op 4 (.op 5 (.op 9 (.op 10 (.op 11 (.op 12 .done)))))))))))))) .nop))))

theorem tree_spread.ok : okC Tryd.f92.ntmps tree_spread.sc (bodyOf Tryd.f92) = true := by kernel_rfl

theorem tree_spread.eq {K : K1} {l0 : Value} {w : World} : tree_spread K l0 w = codeS Tryd.prog tree_spread.sc (bodyOf Tryd.f92) (argsF 0 [l0]) w (retQ Tryd.prog Tryd.f92.results.toList K) := by kernel_rfl

theorem tree_spread.call {K : K1} {l0 : Value} {w : World} (h : tree_spread K l0 w) : sCall Tryd.prog 92 [l0] w K := sCall_code mixed Tryd.func92 (by kernel_rfl) rfl rfl tree_spread.ok tree_spread.eq h

abbrev tree_spread.n : Nat := 92

/-- 'bodkin item.Add' -/
def item_Add_J2 (K : K1) (a2 b3 s5 x4 : Value) (x47 : Value) (w : World) : Prop :=
  sIf x47 (
    DrawS w fun C w =>
    stillS C w (fun w k => sFldA Tryd.prog 114 b3 2 w k) fun x48 =>
    stillS C w (fun w k => sLoad Tryd.prog 3 x48 w k) fun x49 =>
    stillS C w (fun w k => sFldA Tryd.prog 114 a2 0 w k) fun x50 =>
    stillS C w (fun w k => sLoad Tryd.prog 3 x50 w k) fun x51 =>
    stillS C w (fun w k => sFldA Tryd.prog 114 b3 3 w k) fun x52 =>
    stillS C w (fun w k => sLoad Tryd.prog 3 x52 w k) fun x53 =>
    stillS C w (fun w k => sBin Tryd.prog .add 3 false false x51 x53 w k) fun x54 =>
    stillS C w (fun w k => sFldA Tryd.prog 114 s5 2 w k) fun x55 =>
    sStore Tryd.prog 3 x55 x49 w fun w => C w ∧
    stillS C w (fun w k => sFldA Tryd.prog 114 s5 3 w k) fun x56 =>
    sStore Tryd.prog 3 x56 x54 w fun w =>
    sLoad Tryd.prog 114 s5 w fun x57 w =>
    sStore Tryd.prog 114 x4 x57 w fun w =>
    sLoad Tryd.prog 114 x4 w fun v w' => w' = w ∧ K v w) (
    sLoad Tryd.prog 114 s5 w fun x57_1 w =>
    sStore Tryd.prog 114 x4 x57_1 w fun w =>
    sLoad Tryd.prog 114 x4 w fun v w' => w' = w ∧ K v w)

def item_Add_L1 (K : K1) (Nx1 : List Value → World → Prop) (a2 b3 s5 x4 : Value) (x17 : Value) (w : World) : Prop :=
  sBin Tryd.prog .lss 3 false true x17 (.int .i64 3) w fun x18 w =>
  sIf x18 (
    DrawS w fun C w =>
    stillS C w (fun w k => sFldA Tryd.prog 114 a2 1 w k) fun x22 =>
    stillS C w (fun w k => sIdxA Tryd.prog 89 x22 x17 w k) fun x23 =>
    stillS C w (fun w k => sLoad Tryd.prog 3 x23 w k) fun x24 =>
    stillS C w (fun w k => sFldA Tryd.prog 114 b3 1 w k) fun x26 =>
    stillS C w (fun w k => sIdxA Tryd.prog 89 x26 x17 w k) fun x27 =>
    stillS C w (fun w k => sLoad Tryd.prog 3 x27 w k) fun x28 =>
    stillS C w (fun w k => sBin Tryd.prog .add 3 false false x24 x28 w k) fun x29 =>
    stillS C w (fun w k => sFldA Tryd.prog 114 s5 1 w k) fun x30 =>
    stillS C w (fun w k => sIdxA Tryd.prog 89 x30 x17 w k) fun x31 =>
    sStore Tryd.prog 3 x31 x29 w fun w =>
    sBin Tryd.prog .add 3 false true x17 (.int .i64 1) w fun x32 w =>
    Nx1 [x32] w) (
    JoinS 1 14 (fun M2 =>
      sFldA Tryd.prog 114 b3 0 w fun x33 w =>
      sLoad Tryd.prog 3 x33 w fun x34 w =>
      sBin Tryd.prog .gtr 3 false true x34 (.int .i64 0) w fun x35 w =>
      sIf x35 (
        sFldA Tryd.prog 114 a2 0 w fun x37 w =>
        sLoad Tryd.prog 3 x37 w fun x38 w =>
        sBin Tryd.prog .eql 3 false true x38 (.int .i64 0) w fun x39 w =>
        sIf x39 (
          M2 [(.bool true)] w) (
          sFldA Tryd.prog 114 b3 2 w fun x41 w =>
          sLoad Tryd.prog 3 x41 w fun x42 w =>
          sFldA Tryd.prog 114 a2 2 w fun x43 w =>
          sLoad Tryd.prog 3 x43 w fun x44 w =>
          sBin Tryd.prog .gtr 3 false false x42 x44 w fun x45 w =>
          M2 [x45] w)) (
        M2 [(.bool false)] w)) fun us _ w =>
      item_Add_J2 K a2 b3 s5 x4 (hd us) w)

def item_Add (K : K1) (a0 b1 : Value) (w : World) : Prop :=
  sBox Tryd.prog 114 a0 w fun a2 w =>
  sBox Tryd.prog 114 b1 w fun b3 w =>
  sAlloc Tryd.prog 114 w fun x4 w =>
  sFldA Tryd.prog 114 a2 0 w fun x7 w =>
  sLoad Tryd.prog 3 x7 w fun x8 w =>
  sFldA Tryd.prog 114 b3 0 w fun x9 w =>
  sLoad Tryd.prog 3 x9 w fun x10 w =>
  sBin Tryd.prog .add 3 false false x8 x10 w fun x11 w =>
  sFldA Tryd.prog 114 a2 2 w fun x12 w =>
  sLoad Tryd.prog 3 x12 w fun x13 w =>
  sFldA Tryd.prog 114 a2 3 w fun x14 w =>
  sLoad Tryd.prog 3 x14 w fun x15 w =>
  sBuild Tryd.prog 114 [(0, x11), (2, x13), (3, x15)] w fun x16 w =>
  sAlloc Tryd.prog 114 w fun s5 w =>
  sStore Tryd.prog 114 s5 x16 w fun w =>
  LoopS [(.int .i64 0)] 1 16 w fun us _ w Nx1 =>
    item_Add_L1 K Nx1 a2 b3 s5 x4 (hd us) w

def item_Add.sc : SC := (.seq (.reg (.op 0 (.op 1 (.op 2 .done)))) (.seq (.reg (.op 0 (.op 1 (.op 2 (.op 3 (.op 4 (.op 5 (.op 6 (.op 7 (.op 8 (.op 9 (.op 10 (.op 11 .done))))))))))))) (.seq (.seq (.reg (.op 0 .done)) (.sub (.loop [17] [18, 19, 6, 20, 21, 22, 23, 24, 25, 26, 27, 28, 29, 30, 31, 32] (.seq (.reg (.op 0 .done)) (.seq (.cond .nop .nop) (.seq (.sub (.seq (.reg (.op 0 (.op 1 .done))) (.draw (.op 0 (.op 1 (.op 2 (.op 3 (.op 4 (.op 5 (.op 6 (.op 7 (.op 8 (.op 9 (.op 10 (.op 11 (.fin 12 .done)))))))))))))))) (.reg (.op 0 (.op 1 .done))))))))) (.seq (.join [47] [33, 34, 35, 36, 37, 38, 39, 40, 41, 42, 43, 44, 45, 46] (.reg (.op 0 (.op 1 (.op 2 (.op 3 (.test 3 (.op 4 (.op 5 (.op 6 (.op 7 (.test 7 (.skip 8 (.skip 9 (.skip 10 (.skip 11 (.skip 12 (.op 13 (.op 14 .done))))))) (.op 8 (.op 9 (.op 10 (.op 11 (.op 12 (.op 13 (.op 14 .done)))))))))))) (.skip 4 (.skip 5 (.skip 6 (.skip 7 (.skip 8 (.skip 9 (.skip 10 (.skip 11 (.skip 12 (.skip 13 (.op 14 .done))))))))))))))))) (.cond (.draw (.op 0 (.op 1 (.op 2 (.op 3 (.op 4 (.op 5 (.op 6 (.op 7 (.op 8 (.op 9 (.fin 10 .done)))))))))))) .nop)) (.seq (.reg (.op 0 (.op 1 .done))) .nop)))))

theorem item_Add.ok : okC Tryd.f93.ntmps item_Add.sc (bodyOf Tryd.f93) = true := by kernel_rfl

theorem item_Add.eq {K : K1} {a0 b1 : Value} {w : World} : item_Add K a0 b1 w = codeS Tryd.prog item_Add.sc (bodyOf Tryd.f93) (argsF 0 [a0, b1]) w (retQ Tryd.prog Tryd.f93.results.toList K) := by kernel_rfl

theorem item_Add.call {K : K1} {a0 b1 : Value} {w : World} (h : item_Add K a0 b1 w) : sCall Tryd.prog 93 [a0, b1] w K := sCall_code mixed Tryd.func93 (by kernel_rfl) rfl rfl item_Add.ok item_Add.eq h

abbrev item_Add.n : Nat := 93

/-- 'bodkin item.Of' -/
def item_Of (K : K1) (i0 : Value) (w : World) : Prop :=
  sBox Tryd.prog 91 i0 w fun i1 w =>
  sAlloc Tryd.prog 114 w fun x2 w =>
  sFldA Tryd.prog 91 i1 2 w fun x3 w =>
  sLoad Tryd.prog 89 x3 w fun x4 w =>
  sFldA Tryd.prog 91 i1 3 w fun x5 w =>
  sLoad Tryd.prog 3 x5 w fun x6 w =>
  sBuild Tryd.prog 114 [(0, (.int .i64 1)), (1, x4), (2, x6)] w fun x7 w =>
  sStore Tryd.prog 114 x2 x7 w fun w =>
  sLoad Tryd.prog 114 x2 w fun v w' => w' = w ∧ K v w

def item_Of.sc : SC := (.seq (.reg (.op 0 (.op 1 .done))) (.seq (.reg (.op 0 (.op 1 (.op 2 (.op 3 (.op 4 (.op 5 .done))))))) .nop))

theorem item_Of.ok : okC Tryd.f94.ntmps item_Of.sc (bodyOf Tryd.f94) = true := by kernel_rfl

theorem item_Of.eq {K : K1} {i0 : Value} {w : World} : item_Of K i0 w = codeS Tryd.prog item_Of.sc (bodyOf Tryd.f94) (argsF 0 [i0]) w (retQ Tryd.prog Tryd.f94.results.toList K) := by kernel_rfl

theorem item_Of.call {K : K1} {i0 : Value} {w : World} (h : item_Of K i0 w) : sCall Tryd.prog 94 [i0] w K := sCall_code mixed Tryd.func94 (by kernel_rfl) rfl rfl item_Of.ok item_Of.eq h

abbrev item_Of.n : Nat := 94

/-- 'bodkin utf.right' -/
def utf_right (K : K1) (r0 : Value) (w : World) : Prop :=
  sBin Tryd.prog .geq 21 false true r0 (.int .i32 0) w fun x4 w =>
  sIf x4 (
    sIdxA Tryd.prog 185 (.pointer (some ⟨2, 0, none⟩)) (.int .i64 3) w fun x7 w =>
    sLoad Tryd.prog 21 x7 w fun x8 w =>
    sBin Tryd.prog .leq 21 false false r0 x8 w fun x9 w =>
    sIf x9 (
      sBin Tryd.prog .lss 21 false true r0 (.int .i32 55296) w fun x13 w =>
      sIf x13 (
        K (.bool true) w) (
        sBin Tryd.prog .gtr 21 false true r0 (.int .i32 57343) w fun x16 w =>
        K x16 w)) (
      K (.bool false) w)) (
    K (.bool false) w)

def utf_right.sc : SC := (.seq (.reg (.op 0 .done)) (.seq (.reg (.op 0 (.op 1 (.op 2 (.test 2 (.op 3 (.op 4 (.op 5 (.op 6 (.op 7 (.op 8 (.test 8 (.op 9 (.op 10 (.op 11 (.test 11 (.skip 12 (.skip 13 (.op 14 (.op 15 (.op 16 .done))))) (.op 12 (.op 13 (.op 14 (.op 15 (.op 16 .done))))))))) (.skip 9 (.skip 10 (.skip 11 (.skip 12 (.skip 13 (.skip 14 (.op 15 (.op 16 .done))))))))))))))) (.skip 3 (.skip 4 (.skip 5 (.skip 6 (.op 7 (.op 8 (.know 8 false (.skip 9 (.skip 10 (.skip 11 (.skip 12 (.skip 13 (.skip 14 (.op 15 (.op 16 .done)))))))))))))))))))) .nop))

theorem utf_right.ok : okC Tryd.f95.ntmps utf_right.sc (bodyOf Tryd.f95) = true := by kernel_rfl

theorem utf_right.eq {K : K1} {r0 : Value} {w : World} : utf_right K r0 w = codeS Tryd.prog utf_right.sc (bodyOf Tryd.f95) (argsF 0 [r0]) w (retQ Tryd.prog Tryd.f95.results.toList K) := by kernel_rfl

theorem utf_right.call {K : K1} {r0 : Value} {w : World} (h : utf_right K r0 w) : sCall Tryd.prog 95 [r0] w K := sCall_code mixed Tryd.func95 (by kernel_rfl) rfl rfl utf_right.ok utf_right.eq h

abbrev utf_right.n : Nat := 95

/-- 'bodkin seek.New' -/
def seek_New (K : K1) (t0 : Value) (w : World) : Prop :=
  sBuild Tryd.prog 178 [(0, t0)] w fun x4 w =>
  sBox Tryd.prog 178 x4 w fun x5 w =>
  K x5 w

def seek_New.sc : SC := (.seq (.reg (.op 0 .done)) (.seq (.reg (.op 0 (.op 1 (.op 2 (.op 3 .done))))) .nop))

theorem seek_New.ok : okC Tryd.f96.ntmps seek_New.sc (bodyOf Tryd.f96) = true := by kernel_rfl

theorem seek_New.eq {K : K1} {t0 : Value} {w : World} : seek_New K t0 w = codeS Tryd.prog seek_New.sc (bodyOf Tryd.f96) (argsF 0 [t0]) w (retQ Tryd.prog Tryd.f96.results.toList K) := by kernel_rfl

theorem seek_New.call {K : K1} {t0 : Value} {w : World} (h : seek_New K t0 w) : sCall Tryd.prog 96 [t0] w K := sCall_code mixed Tryd.func96 (by kernel_rfl) rfl rfl seek_New.ok seek_New.eq h

abbrev seek_New.n : Nat := 96

/-- '(*bodkin seek.Cursor).To' -/
def seek_Cursor_To (K : K1) (c0 dim1 v2 bias3 : Value) (w : World) : Prop :=
  sBin Tryd.prog .eql 134 false true c0 (.pointer none) w fun x12 w =>
  sIf x12 (
    K (.int .i64 7) w) (
    sNil c0 w fun x15 w =>
    sFldA Tryd.prog 178 x15 0 w fun x16 w =>
    sLoad Tryd.prog 60 x16 w fun x17 w =>
    sCall Tryd.prog 106 [x17, dim1, v2, bias3] w fun x21 w =>
    sExtract x21 0 w fun x22 w =>
    sExtract x21 1 w fun x23 w =>
    sAlloc Tryd.prog 176 w fun p9 w =>
    sStore Tryd.prog 176 p9 x22 w fun w =>
    sBin Tryd.prog .eql 24 false true x23 (.int .i64 0) w fun x25 w =>
    sIf x25 (
      sLoad Tryd.prog 176 p9 w fun x27 w =>
      sNil c0 w fun x28 w =>
      sFldA Tryd.prog 178 x28 1 w fun x29 w =>
      sStore Tryd.prog 176 x29 x27 w fun w =>
      K x23 w) (
      K x23 w))

def seek_Cursor_To.sc : SC := (.seq (.reg (.op 0 .done)) (.seq (.seq (.reg (.op 0 (.op 1 .done))) (.cond (.seq (.reg (.op 0 .done)) .nop) .nop)) (.seq (.reg (.op 0 (.op 1 (.op 2 (.op 3 (.op 4 (.op 5 (.op 6 (.op 7 (.op 8 (.op 9 (.op 10 (.op 11 (.op 12 (.op 13 .done))))))))))))))) (.seq (.seq (.reg (.op 0 (.op 1 .done))) (.cond (.reg (.op 0 (.op 1 (.op 2 (.op 3 (.op 4 .done)))))) .nop)) (.seq (.reg (.op 0 (.op 1 .done))) .nop)))))

theorem seek_Cursor_To.ok : okC Tryd.f97.ntmps seek_Cursor_To.sc (bodyOf Tryd.f97) = true := by kernel_rfl

theorem seek_Cursor_To.eq {K : K1} {c0 dim1 v2 bias3 : Value} {w : World} : seek_Cursor_To K c0 dim1 v2 bias3 w = codeS Tryd.prog seek_Cursor_To.sc (bodyOf Tryd.f97) (argsF 0 [c0, dim1, v2, bias3]) w (retQ Tryd.prog Tryd.f97.results.toList K) := by kernel_rfl

theorem seek_Cursor_To.call {K : K1} {c0 dim1 v2 bias3 : Value} {w : World} (h : seek_Cursor_To K c0 dim1 v2 bias3 w) : sCall Tryd.prog 97 [c0, dim1, v2, bias3] w K := sCall_code mixed Tryd.func97 (by kernel_rfl) rfl rfl seek_Cursor_To.ok seek_Cursor_To.eq h

abbrev seek_Cursor_To.n : Nat := 97

/-- '(*bodkin tree.Tree).At' -/
def tree_Tree_At_L3 (Nx2 : List Value → World → Prop) (Nx3 : List Value → World → Prop) (x34 x35 : Value) (i1_2 n6_1 x36 : Value) (w : World) : Prop :=
  sBin Tryd.prog .lss 3 false false x36 x35 w fun x37 w =>
  sIf x37 (
    sIdxA Tryd.prog 126 x34 x36 w fun x38 w =>
    sLoad Tryd.prog 88 x38 w fun x39 w =>
    sCall Tryd.prog 85 [x39] w fun x41 w =>
    sFld Tryd.prog 114 x41 0 w fun x42 w =>
    sBin Tryd.prog .geq 3 false false i1_2 x42 w fun x45 w =>
    sIf x45 (
      sBin Tryd.prog .sub 3 false false i1_2 x42 w fun x48 w =>
      sBin Tryd.prog .add 3 false true x36 (.int .i64 1) w fun x50 w =>
      Nx3 [x48, n6_1, x50] w) (
      Nx2 [i1_2, x39] w)) (
    Nx2 [i1_2, n6_1] w)

def tree_Tree_At_L2 (K : K1) (Nx2 : List Value → World → Prop) (x4 : Value) (i1_1 n6 : Value) (w : World) : Prop :=
  sAssert Tryd.prog n6 88 128 true w fun x26 w =>
  sExtract x26 0 w fun x27 w =>
  sExtract x26 1 w fun x28 w =>
  sUn Tryd.prog .not x28 w fun x30 w =>
  sIf x30 (
    sAssert Tryd.prog n6 88 94 false w fun x52 w =>
    sNil x52 w fun x53 w =>
    sFldA Tryd.prog 132 x53 0 w fun x54 w =>
    sLoad Tryd.prog 63 x54 w fun x55 w =>
    sIdxA Tryd.prog 63 x55 i1_1 w fun x57 w =>
    sLoad Tryd.prog 91 x57 w fun x58 w =>
    sStore Tryd.prog 91 x4 x58 w fun w =>
    sLoad Tryd.prog 91 x4 w fun v w' => w' = w ∧ K (.tuple #[v, (.int .i64 0)]) w) (
    sNil x27 w fun x32 w =>
    sFldA Tryd.prog 166 x32 0 w fun x33 w =>
    sLoad Tryd.prog 126 x33 w fun x34 w =>
    sBuiltin Tryd.prog .len [126] 3 [x34] w fun x35 w =>
    LoopS [i1_1, n6, (.int .i64 0)] 3 16 w fun us _ w Nx3 =>
      tree_Tree_At_L3 Nx2 Nx3 x34 x35 (hd us) (hd (tl us)) (hd (tl (tl us))) w)

def tree_Tree_At_J1 (K : K1) (i1 t0 x4 : Value) (x20 : Value) (w : World) : Prop :=
  sIf x20 (
    sBuild Tryd.prog 91 [] w fun x21 w =>
    sStore Tryd.prog 91 x4 x21 w fun w =>
    sLoad Tryd.prog 91 x4 w fun v w' => w' = w ∧ K (.tuple #[v, (.int .i64 1)]) w) (
    sCall Tryd.prog 86 [t0] w fun x23 w =>
    LoopS [i1, x23] 2 31 w fun us _ w Nx2 =>
      tree_Tree_At_L2 K Nx2 x4 (hd us) (hd (tl us)) w)

def tree_Tree_At (K : K1) (t0 i1 : Value) (w : World) : Prop :=
  sAlloc Tryd.prog 91 w fun x4 w =>
  JoinS 1 8 (fun M1 =>
    sBin Tryd.prog .lss 3 false true i1 (.int .i64 0) w fun x13 w =>
    sIf x13 (
      M1 [(.bool true)] w) (
      sCall Tryd.prog 62 [t0] w fun x17 w =>
      sFld Tryd.prog 114 x17 0 w fun x18 w =>
      sBin Tryd.prog .geq 3 false false i1 x18 w fun x19 w =>
      M1 [x19] w)) fun us _ w =>
    tree_Tree_At_J1 K i1 t0 x4 (hd us) w

def tree_Tree_At.sc : SC := (.seq (.reg (.op 0 (.op 1 .done))) (.sub (.seq (.join [20] [12, 13, 14, 15, 16, 17, 18, 19] (.reg (.op 0 (.op 1 (.op 2 (.test 2 (.skip 3 (.skip 4 (.skip 5 (.skip 6 (.skip 7 (.op 8 .done)))))) (.op 3 (.op 4 (.op 5 (.op 6 (.op 7 (.op 8 .done))))))))))) (.cond (.seq (.reg (.op 0 (.op 1 (.op 2 .done)))) .nop) .nop)) (.seq (.reg (.op 0 (.op 1 (.op 2 .done)))) (.seq .nop (.seq (.sub (.loop [1, 6] [25, 26, 24, 27, 28, 7, 8, 29, 30, 31, 32, 33, 34, 35, 36, 37, 38, 39, 10, 40, 41, 42, 11, 43, 44, 45, 46, 47, 48, 49, 50] (.sub (.seq (.reg (.op 0 (.op 1 (.op 2 (.op 3 (.op 4 (.op 5 (.op 6 .done)))))))) (.seq (.seq (.reg (.op 0 (.op 1 .done))) (.cond .nop .nop)) (.seq (.reg (.op 0 (.op 1 (.op 2 (.op 3 (.op 4 (.op 5 .done))))))) (.sub (.loop [1, 6, 36] [37, 38, 39, 10, 40, 41, 42, 11, 43, 44, 45, 46, 47, 48, 49, 50] (.seq (.reg (.op 0 .done)) (.seq (.cond .nop .nop) (.seq (.sub (.seq (.reg (.op 0 (.op 1 (.op 2 .done)))) (.seq (.seq (.reg (.op 0 (.op 1 (.op 2 (.op 3 .done))))) (.seq (.reg (.op 0 (.op 1 (.op 2 .done)))) (.cond (.seq (.reg (.op 0 (.op 1 (.op 2 (.op 3 .done))))) .nop) .nop))) (.seq (.reg (.op 0 (.op 1 .done))) .nop)))) (.reg (.op 0 (.op 1 .done)))))))))))))) (.seq (.reg (.op 0 (.op 1 (.op 2 (.op 3 (.op 4 (.op 5 (.op 6 (.op 7 (.op 8 (.op 9 .done))))))))))) .nop)))))))

theorem tree_Tree_At.ok : okC Tryd.f98.ntmps tree_Tree_At.sc (bodyOf Tryd.f98) = true := by kernel_rfl

theorem tree_Tree_At.eq {K : K1} {t0 i1 : Value} {w : World} : tree_Tree_At K t0 i1 w = codeS Tryd.prog tree_Tree_At.sc (bodyOf Tryd.f98) (argsF 0 [t0, i1]) w (retQ Tryd.prog Tryd.f98.results.toList K) := by kernel_rfl

theorem tree_Tree_At.call {K : K1} {t0 i1 : Value} {w : World} (h : tree_Tree_At K t0 i1 w) : sCall Tryd.prog 98 [t0, i1] w K := sCall_code mixed Tryd.func98 (by kernel_rfl) rfl rfl tree_Tree_At.ok tree_Tree_At.eq h

abbrev tree_Tree_At.n : Nat := 98

/-- '(*strings.Builder).copyCheck' -/
def strings_Builder_copyCheck (K : K1) (b0 : Value) (w : World) : Prop :=
  sNil b0 w fun x3 w =>
  sFldA Tryd.prog 140 x3 0 w fun x4 w =>
  sLoad Tryd.prog 137 x4 w fun x5 w =>
  sBin Tryd.prog .eql 137 false true x5 (.pointer none) w fun x6 w =>
  sIf x6 (
    sConv Tryd.prog 137 189 b0 w fun x9 w =>
    sCall Tryd.prog 107 [x9] w fun x10 w =>
    sConv Tryd.prog 189 137 x10 w fun x11 w =>
    sNil b0 w fun x12 w =>
    sFldA Tryd.prog 140 x12 0 w fun x13 w =>
    sStore Tryd.prog 137 x13 x11 w fun w =>
    K (.tuple #[]) w) (
    sNil b0 w fun x15 w =>
    sFldA Tryd.prog 140 x15 0 w fun x16 w =>
    sLoad Tryd.prog 137 x16 w fun x17 w =>
    sBin Tryd.prog .neq 137 false false x17 b0 w fun x19 w =>
    sIf x19 (
      False) (
      K (.tuple #[]) w))

def strings_Builder_copyCheck.sc : SC := (.seq (.reg (.op 0 (.op 1 (.op 2 (.op 3 (.op 4 .done)))))) (.cond (.reg (.op 0 (.op 1 (.op 2 (.op 3 (.op 4 (.op 5 (.op 6 (.op 7 .done))))))))) (.seq (.reg (.op 0 (.op 1 (.op 2 (.op 3 (.op 4 (.op 5 .done))))))) (.cond .nop .nop))))

theorem strings_Builder_copyCheck.ok : okC Tryd.f99.ntmps strings_Builder_copyCheck.sc (bodyOf Tryd.f99) = true := by kernel_rfl

theorem strings_Builder_copyCheck.eq {K : K1} {b0 : Value} {w : World} : strings_Builder_copyCheck K b0 w = codeS Tryd.prog strings_Builder_copyCheck.sc (bodyOf Tryd.f99) (argsF 0 [b0]) w (retQ Tryd.prog Tryd.f99.results.toList K) := by kernel_rfl

theorem strings_Builder_copyCheck.call {K : K1} {b0 : Value} {w : World} (h : strings_Builder_copyCheck K b0 w) : sCall Tryd.prog 99 [b0] w K := sCall_code mixed Tryd.func99 (by kernel_rfl) rfl rfl strings_Builder_copyCheck.ok strings_Builder_copyCheck.eq h

abbrev strings_Builder_copyCheck.n : Nat := 99

/-- '(*bodkin seek.Cursor).End' -/
def seek_Cursor_End (K : K1) (c0 : Value) (w : World) : Prop :=
  sAlloc Tryd.prog 114 w fun x2 w =>
  sCall Tryd.prog 77 [c0] w fun x7 w =>
  sExtract x7 0 w fun x8 w =>
  sExtract x7 1 w fun x9 w =>
  sAlloc Tryd.prog 91 w fun i3 w =>
  sStore Tryd.prog 91 i3 x8 w fun w =>
  sUn Tryd.prog .not x9 w fun x11 w =>
  sIf x11 (
    sCall Tryd.prog 75 [c0] w fun x13 w =>
    sStore Tryd.prog 114 x2 x13 w fun w =>
    sLoad Tryd.prog 114 x2 w fun v w' => w' = w ∧ K v w) (
    DrawS w fun C w =>
    stillS C w (fun w k => sLoad Tryd.prog 91 i3 w k) fun x16 =>
    sCall Tryd.prog 75 [c0] w fun x15 w => C w ∧
    sCall Tryd.prog 94 [x16] w fun x17 w =>
    sCall Tryd.prog 93 [x15, x17] w fun x18 w =>
    sStore Tryd.prog 114 x2 x18 w fun w =>
    sLoad Tryd.prog 114 x2 w fun v w' => w' = w ∧ K v w)

def seek_Cursor_End.sc : SC := (.seq (.reg (.op 0 .done)) (.seq (.reg (.op 0 (.op 1 (.op 2 (.op 3 (.op 4 (.op 5 (.op 6 (.op 7 .done))))))))) (.seq (.seq (.reg (.op 0 (.op 1 .done))) (.cond (.seq (.reg (.op 0 (.op 1 (.op 2 .done)))) .nop) .nop)) (.seq (.draw (.op 0 (.op 2 (.op 1 (.fin 3 (.fin 4 (.fin 5 .done))))))) .nop))))

theorem seek_Cursor_End.ok : okC Tryd.f100.ntmps seek_Cursor_End.sc (bodyOf Tryd.f100) = true := by kernel_rfl

theorem seek_Cursor_End.eq {K : K1} {c0 : Value} {w : World} : seek_Cursor_End K c0 w = codeS Tryd.prog seek_Cursor_End.sc (bodyOf Tryd.f100) (argsF 0 [c0]) w (retQ Tryd.prog Tryd.f100.results.toList K) := by kernel_rfl

theorem seek_Cursor_End.call {K : K1} {c0 : Value} {w : World} (h : seek_Cursor_End K c0 w) : sCall Tryd.prog 100 [c0] w K := sCall_code mixed Tryd.func100 (by kernel_rfl) rfl rfl seek_Cursor_End.ok seek_Cursor_End.eq h

abbrev seek_Cursor_End.n : Nat := 100

/-- 'bodkin stops.size' -/
def stops_size (K : K1) (t0 r1 tab2 at3 : Value) (w : World) : Prop :=
  sBin Tryd.prog .neq 21 false true r1 (.int .i32 9) w fun x11 w =>
  sIf x11 (
    sCall Tryd.prog 108 [t0, r1] w fun x14 w =>
    K x14 w) (
    sBin Tryd.prog .geq 3 false true at3 (.int .i64 64) w fun x17 w =>
    sIf x17 (
      K (.int .i64 1) w) (
      sBin Tryd.prog .rem 3 false false at3 tab2 w fun x21 w =>
      sBin Tryd.prog .sub 3 false false tab2 x21 w fun x22 w =>
      K x22 w))

def stops_size.sc : SC := (.seq (.reg (.op 0 .done)) (.seq (.sub (.seq (.reg (.op 0 (.op 1 (.op 2 .done)))) (.cond (.seq (.reg (.op 0 (.op 1 (.op 2 (.op 3 .done))))) .nop) (.seq (.reg (.op 0 (.op 1 (.op 2 .done)))) (.cond (.seq (.reg (.op 0 .done)) .nop) .nop))))) (.seq (.reg (.op 0 (.op 1 (.op 2 (.op 3 (.op 4 (.op 5 .done))))))) .nop)))

theorem stops_size.ok : okC Tryd.f101.ntmps stops_size.sc (bodyOf Tryd.f101) = true := by kernel_rfl

theorem stops_size.eq {K : K1} {t0 r1 tab2 at3 : Value} {w : World} : stops_size K t0 r1 tab2 at3 w = codeS Tryd.prog stops_size.sc (bodyOf Tryd.f101) (argsF 0 [t0, r1, tab2, at3]) w (retQ Tryd.prog Tryd.f101.results.toList K) := by kernel_rfl

theorem stops_size.call {K : K1} {t0 r1 tab2 at3 : Value} {w : World} (h : stops_size K t0 r1 tab2 at3 w) : sCall Tryd.prog 101 [t0, r1, tab2, at3] w K := sCall_code mixed Tryd.func101 (by kernel_rfl) rfl rfl stops_size.ok stops_size.eq h

abbrev stops_size.n : Nat := 101

/-- '(*bodkin bodkinref02.Table).Of' -/
def bodkinref02_Table_Of (K : K1) (t0 r1 : Value) (w : World) : Prop :=
  sNil t0 w fun x6 w =>
  sFldA Tryd.prog 159 x6 0 w fun x7 w =>
  sLoad Tryd.prog 157 x7 w fun x8 w =>
  sCall Tryd.prog 109 [x8, r1] w fun x10 w =>
  sIf x10 (
    K (.int .i64 0) w) (
    sNil t0 w fun x12 w =>
    sFldA Tryd.prog 159 x12 1 w fun x13 w =>
    sLoad Tryd.prog 157 x13 w fun x14 w =>
    sCall Tryd.prog 109 [x14, r1] w fun x16 w =>
    sIf x16 (
      K (.int .i64 2) w) (
      K (.int .i64 1) w))

def bodkinref02_Table_Of.sc : SC := (.seq (.reg (.op 0 .done)) (.seq (.seq (.reg (.op 0 (.op 1 (.op 2 (.op 3 (.op 4 (.op 5 .done))))))) (.cond (.seq (.reg (.op 0 .done)) .nop) .nop)) (.seq (.seq (.reg (.op 0 (.op 1 (.op 2 (.op 3 (.op 4 (.op 5 .done))))))) (.cond (.seq (.reg (.op 0 .done)) .nop) .nop)) (.seq (.reg (.op 0 .done)) .nop))))

theorem bodkinref02_Table_Of.ok : okC Tryd.f102.ntmps bodkinref02_Table_Of.sc (bodyOf Tryd.f102) = true := by kernel_rfl

theorem bodkinref02_Table_Of.eq {K : K1} {t0 r1 : Value} {w : World} : bodkinref02_Table_Of K t0 r1 w = codeS Tryd.prog bodkinref02_Table_Of.sc (bodyOf Tryd.f102) (argsF 0 [t0, r1]) w (retQ Tryd.prog Tryd.f102.results.toList K) := by kernel_rfl

theorem bodkinref02_Table_Of.call {K : K1} {t0 r1 : Value} {w : World} (h : bodkinref02_Table_Of K t0 r1 w) : sCall Tryd.prog 102 [t0, r1] w K := sCall_code mixed Tryd.func102 (by kernel_rfl) rfl rfl bodkinref02_Table_Of.ok bodkinref02_Table_Of.eq h

abbrev bodkinref02_Table_Of.n : Nat := 102

/-- 'bodkin tree.each' -/
def tree_each_L1 (K : K1) (Nx1 : List Value → World → Prop) (f1 x17 x18 : Value) (x19 : Value) (w : World) : Prop :=
  sBin Tryd.prog .lss 3 false false x19 x18 w fun x20 w =>
  sIf x20 (
    sIdxA Tryd.prog 63 x17 x19 w fun x21 w =>
    sLoad Tryd.prog 91 x21 w fun x22 w =>
    sAlloc Tryd.prog 91 w fun i6 w =>
    sStore Tryd.prog 91 i6 x22 w fun w =>
    sLoad Tryd.prog 91 i6 w fun x24 w =>
    sDyn Tryd.prog f1 [x24] w fun x25 w =>
    sBin Tryd.prog .add 3 false true x19 (.int .i64 1) w fun x26 w =>
    Nx1 [x26] w) (
    K (.tuple #[]) w)

def tree_each_L2 (K : K1) (Nx2 : List Value → World → Prop) (f1 x33 x34 : Value) (x35 : Value) (w : World) : Prop :=
  sBin Tryd.prog .lss 3 false false x35 x34 w fun x36 w =>
  sIf x36 (
    sIdxA Tryd.prog 126 x33 x35 w fun x37 w =>
    sLoad Tryd.prog 88 x37 w fun x38 w =>
    sCall Tryd.prog 104 [x38, f1] w fun x41 w =>
    sBin Tryd.prog .add 3 false true x35 (.int .i64 1) w fun x42 w =>
    Nx2 [x42] w) (
    K (.tuple #[]) w)

def tree_each (K : K1) (n0 f1 : Value) (w : World) : Prop :=
  sAssert Tryd.prog n0 88 94 true w fun x11 w =>
  sExtract x11 1 w fun x12 w =>
  sExtract x11 0 w fun x13 w =>
  sIf x12 (
    sNil x13 w fun x15 w =>
    sFldA Tryd.prog 132 x15 0 w fun x16 w =>
    sLoad Tryd.prog 63 x16 w fun x17 w =>
    sBuiltin Tryd.prog .len [63] 3 [x17] w fun x18 w =>
    LoopS [(.int .i64 0)] 1 8 w fun us _ w Nx1 =>
      tree_each_L1 K Nx1 f1 x17 x18 (hd us) w) (
    sAssert Tryd.prog n0 88 128 true w fun x27 w =>
    sExtract x27 1 w fun x28 w =>
    sExtract x27 0 w fun x29 w =>
    sIf x28 (
      sNil x29 w fun x31 w =>
      sFldA Tryd.prog 166 x31 0 w fun x32 w =>
      sLoad Tryd.prog 126 x32 w fun x33 w =>
      sBuiltin Tryd.prog .len [126] 3 [x33] w fun x34 w =>
      LoopS [(.int .i64 0)] 1 8 w fun us _ w Nx2 =>
        tree_each_L2 K Nx2 f1 x33 x34 (hd us) w) (
      K (.tuple #[]) w))

def tree_each.sc : SC := (.seq (.reg (.op 0 .done)) (.sub (.seq (.reg (.op 0 (.op 1 (.op 2 .done)))) (.cond (.seq (.reg (.op 0 .done)) (.seq (.reg (.op 0 (.op 1 (.op 2 (.op 3 (.op 4 (.op 5 .done))))))) (.sub (.loop [19] [20, 21, 22, 6, 23, 24, 25, 26] (.seq (.reg (.op 0 .done)) (.seq (.cond .nop .nop) (.seq (.sub (.seq (.reg (.op 0 (.op 1 (.op 2 (.op 3 .done))))) (.reg (.op 0 (.op 1 (.op 2 .done)))))) (.reg (.op 0 (.op 1 .done)))))))))) (.seq (.reg (.op 0 (.op 1 (.op 2 .done)))) (.cond (.seq (.reg (.op 0 .done)) (.seq (.reg (.op 0 (.op 1 (.op 2 (.op 3 (.op 4 (.op 5 .done))))))) (.sub (.loop [35] [36, 37, 38, 9, 39, 40, 41, 42] (.seq (.reg (.op 0 .done)) (.seq (.cond .nop .nop) (.seq (.sub (.seq (.reg (.op 0 (.op 1 (.op 2 .done)))) (.reg (.op 0 (.op 1 (.op 2 .done)))))) (.reg (.op 0 (.op 1 .done)))))))))) .nop))))))

theorem tree_each.ok : okC Tryd.f104.ntmps tree_each.sc (bodyOf Tryd.f104) = true := by kernel_rfl

theorem tree_each.eq {K : K1} {n0 f1 : Value} {w : World} : tree_each K n0 f1 w = codeS Tryd.prog tree_each.sc (bodyOf Tryd.f104) (argsF 0 [n0, f1]) w (retQ Tryd.prog Tryd.f104.results.toList K) := by kernel_rfl

theorem tree_each.call {K : K1} {n0 f1 : Value} {w : World} (h : tree_each K n0 f1 w) : sCall Tryd.prog 104 [n0, f1] w K := sCall_code mixed Tryd.func104 (by kernel_rfl) rfl rfl tree_each.ok tree_each.eq h

abbrev tree_each.n : Nat := 104

/-- '(*bodkin tree.Tree).Items$1' -/
def tree_Tree_Items_1 (K : K1) (i0 x1 : Value) (w : World) : Prop :=
  sBox Tryd.prog 91 i0 w fun i2 w =>
  sLoad Tryd.prog 63 x1 w fun x3 w =>
  sLoad Tryd.prog 91 i2 w fun x4 w =>
  sBuildSlice Tryd.prog 63 1 [(0, x4)] w fun x5 w =>
  sBuiltin Tryd.prog .append [63, 63] 63 [x3, x5] w fun x6 w =>
  sStore Tryd.prog 63 x1 x6 w fun w =>
  K (.tuple #[]) w

def tree_Tree_Items_1.sc : SC := (.seq (.reg (.op 0 .done)) (.reg (.op 0 (.op 1 (.op 2 (.op 3 (.op 4 .done)))))))

theorem tree_Tree_Items_1.ok : okC Tryd.f105.ntmps tree_Tree_Items_1.sc (bodyOf Tryd.f105) = true := by kernel_rfl

theorem tree_Tree_Items_1.eq {K : K1} {i0 x1 : Value} {w : World} : tree_Tree_Items_1 K i0 x1 w = codeS Tryd.prog tree_Tree_Items_1.sc (bodyOf Tryd.f105) (argsF 0 [i0, x1]) w (retQ Tryd.prog Tryd.f105.results.toList K) := by kernel_rfl

theorem tree_Tree_Items_1.call {K : K1} {i0 x1 : Value} {w : World} (h : tree_Tree_Items_1 K i0 x1 w) : sCall Tryd.prog 105 [i0, x1] w K := sCall_code mixed Tryd.func105 (by kernel_rfl) rfl rfl tree_Tree_Items_1.ok tree_Tree_Items_1.eq h

abbrev tree_Tree_Items_1.n : Nat := 105

/-- '(*bodkin tree.Tree).Find' -/
def tree_Tree_Find_J5 (Nx3 : List Value → World → Prop) (Nx4 : List Value → World → Prop) (dim1 n13_1 p12 x52 x74 x77 : Value) (s18_3 : Value) (w : World) : Prop :=
  sLoad Tryd.prog 114 s18_3 w fun x84 w =>
  sCall Tryd.prog 111 [x84, dim1] w fun x86 w =>
  sDyn Tryd.prog x52 [x86] w fun x87 w =>
  sIf x87 (
    Nx3 [x77] w) (
    sLoad Tryd.prog 114 s18_3 w fun x89 w =>
    sFldA Tryd.prog 176 p12 1 w fun x90 w =>
    sStore Tryd.prog 114 x90 x89 w fun w =>
    sBin Tryd.prog .add 3 false true x74 (.int .i64 1) w fun x91 w =>
    Nx4 [n13_1, x91] w)

def tree_Tree_Find_L4 (Nx3 : List Value → World → Prop) (Nx4 : List Value → World → Prop) (dim1 p12 x52 x72 x73 : Value) (n13_1 x74 : Value) (w : World) : Prop :=
  sBin Tryd.prog .lss 3 false false x74 x73 w fun x75 w =>
  sIf x75 (
    sIdxA Tryd.prog 126 x72 x74 w fun x76 w =>
    sLoad Tryd.prog 88 x76 w fun x77 w =>
    JoinS 1 5 (fun M5 =>
      DrawS w fun C w =>
      stillS C w (fun w k => sFldA Tryd.prog 176 p12 1 w k) fun x78 =>
      stillS C w (fun w k => sLoad Tryd.prog 114 x78 w k) fun x79 =>
      (
        sCall Tryd.prog 85 [x77] w fun x81 w => C w ∧
        (
          sCall Tryd.prog 93 [x79, x81] w fun x82 w => C w ∧
          sAlloc Tryd.prog 114 w fun s18 w => C w ∧
          sStore Tryd.prog 114 s18 x82 w fun w =>
          M5 [s18] w) ∧ (
          sAlloc Tryd.prog 114 w fun s18_1 w => C w ∧
          sCall Tryd.prog 93 [x79, x81] w fun x82_1 w =>
          sStore Tryd.prog 114 s18_1 x82_1 w fun w =>
          M5 [s18_1] w)) ∧ (
        sAlloc Tryd.prog 114 w fun s18_2 w => C w ∧
        sCall Tryd.prog 85 [x77] w fun x81_1 w => C w ∧
        sCall Tryd.prog 93 [x79, x81_1] w fun x82_2 w =>
        sStore Tryd.prog 114 s18_2 x82_2 w fun w =>
        M5 [s18_2] w)) fun us _ w =>
      tree_Tree_Find_J5 Nx3 Nx4 dim1 n13_1 p12 x52 x74 x77 (hd us) w) (
    Nx3 [n13_1] w)

def tree_Tree_Find_L3 (M2 : List Value → World → Prop) (Nx3 : List Value → World → Prop) (dim1 p12 x52 : Value) (n13 : Value) (w : World) : Prop :=
  sBin Tryd.prog .neq 88 false true n13 .nilIface w fun x57 w =>
  sIf x57 (
    sFldA Tryd.prog 176 p12 2 w fun x58 w =>
    sLoad Tryd.prog 3 x58 w fun x59 w =>
    sBin Tryd.prog .add 3 false true x59 (.int .i64 1) w fun x60 w =>
    sFldA Tryd.prog 176 p12 2 w fun x61 w =>
    sStore Tryd.prog 3 x61 x60 w fun w =>
    sAssert Tryd.prog n13 88 128 true w fun x64 w =>
    sExtract x64 0 w fun x65 w =>
    sExtract x64 1 w fun x66 w =>
    sUn Tryd.prog .not x66 w fun x68 w =>
    sIf x68 (
      M2 [n13] w) (
      sNil x65 w fun x70 w =>
      sFldA Tryd.prog 166 x70 0 w fun x71 w =>
      sLoad Tryd.prog 126 x71 w fun x72 w =>
      sBuiltin Tryd.prog .len [126] 3 [x72] w fun x73 w =>
      LoopS [.nilIface, (.int .i64 0)] 2 19 w fun us _ w Nx4 =>
        tree_Tree_Find_L4 Nx3 Nx4 dim1 p12 x52 x72 x73 (hd us) (hd (tl us)) w)) (
    M2 [n13] w)

def tree_Tree_Find_J8 (M6 : List Value → World → Prop) (Nx7 : List Value → World → Prop) (dim1 p12 x103 x52 : Value) (s23_3 : Value) (w : World) : Prop :=
  sLoad Tryd.prog 114 s23_3 w fun x113 w =>
  sCall Tryd.prog 111 [x113, dim1] w fun x115 w =>
  sDyn Tryd.prog x52 [x115] w fun x116 w =>
  sIf x116 (
    M6 [] w) (
    sLoad Tryd.prog 114 s23_3 w fun x117 w =>
    sFldA Tryd.prog 176 p12 1 w fun x118 w =>
    sStore Tryd.prog 114 x118 x117 w fun w =>
    sBin Tryd.prog .add 3 false true x103 (.int .i64 1) w fun x119 w =>
    Nx7 [x119] w)

def tree_Tree_Find_L7 (M6 : List Value → World → Prop) (Nx7 : List Value → World → Prop) (dim1 p12 x101 x102 x52 : Value) (x103 : Value) (w : World) : Prop :=
  sBin Tryd.prog .lss 3 false false x103 x102 w fun x104 w =>
  sIf x104 (
    sIdxA Tryd.prog 63 x101 x103 w fun x105 w =>
    sLoad Tryd.prog 91 x105 w fun x106 w =>
    sAlloc Tryd.prog 91 w fun i22 w =>
    sStore Tryd.prog 91 i22 x106 w fun w =>
    JoinS 1 5 (fun M8 =>
      DrawS w fun C w =>
      stillS C w (fun w k => sFldA Tryd.prog 176 p12 1 w k) fun x107 =>
      stillS C w (fun w k => sLoad Tryd.prog 114 x107 w k) fun x108 =>
      stillS C w (fun w k => sLoad Tryd.prog 91 i22 w k) fun x109 =>
      (
        sCall Tryd.prog 94 [x109] w fun x110 w => C w ∧
        (
          sCall Tryd.prog 93 [x108, x110] w fun x111 w => C w ∧
          sAlloc Tryd.prog 114 w fun s23 w => C w ∧
          sStore Tryd.prog 114 s23 x111 w fun w =>
          M8 [s23] w) ∧ (
          sAlloc Tryd.prog 114 w fun s23_1 w => C w ∧
          sCall Tryd.prog 93 [x108, x110] w fun x111_1 w =>
          sStore Tryd.prog 114 s23_1 x111_1 w fun w =>
          M8 [s23_1] w)) ∧ (
        sAlloc Tryd.prog 114 w fun s23_2 w => C w ∧
        sCall Tryd.prog 94 [x109] w fun x110_1 w => C w ∧
        sCall Tryd.prog 93 [x108, x110_1] w fun x111_2 w =>
        sStore Tryd.prog 114 s23_2 x111_2 w fun w =>
        M8 [s23_2] w)) fun us _ w =>
      tree_Tree_Find_J8 M6 Nx7 dim1 p12 x103 x52 (hd us) w) (
    M6 [] w)

def tree_Tree_Find_J6 (K : K1) (p12 x8 : Value) (w : World) : Prop :=
  sFldA Tryd.prog 176 p12 1 w fun x120 w =>
  sFldA Tryd.prog 114 x120 0 w fun x121 w =>
  sLoad Tryd.prog 3 x121 w fun x122 w =>
  sFldA Tryd.prog 176 p12 0 w fun x123 w =>
  sStore Tryd.prog 3 x123 x122 w fun w =>
  sLoad Tryd.prog 176 p12 w fun x124 w =>
  sStore Tryd.prog 176 x8 x124 w fun w =>
  sLoad Tryd.prog 176 x8 w fun v w' => w' = w ∧ K (.tuple #[v, (.int .i64 0)]) w

def tree_Tree_Find_J2 (K : K1) (dim1 p12 x52 x8 : Value) (n13_2 : Value) (w : World) : Prop :=
  JoinS 0 32 (fun M6 =>
    sAssert Tryd.prog n13_2 88 94 true w fun x94 w =>
    sExtract x94 0 w fun x95 w =>
    sExtract x94 1 w fun x96 w =>
    sIf x96 (
      sNil x95 w fun x99 w =>
      sFldA Tryd.prog 132 x99 0 w fun x100 w =>
      sLoad Tryd.prog 63 x100 w fun x101 w =>
      sBuiltin Tryd.prog .len [63] 3 [x101] w fun x102 w =>
      LoopS [(.int .i64 0)] 1 18 w fun us _ w Nx7 =>
        tree_Tree_Find_L7 M6 Nx7 dim1 p12 x101 x102 x52 (hd us) w) (
      M6 [] w)) fun us _ w =>
    tree_Tree_Find_J6 K p12 x8 w

def tree_Tree_Find_J1 (K : K1) (bias7 dim1 t0 v6 x8 : Value) (x50 : Value) (w : World) : Prop :=
  sIf x50 (
    sBuild Tryd.prog 176 [] w fun x51 w =>
    sStore Tryd.prog 176 x8 x51 w fun w =>
    sLoad Tryd.prog 176 x8 w fun v w' => w' = w ∧ K (.tuple #[v, (.int .i64 1)]) w) (
    sFunc Tryd.prog (.func 112) [] [v6, bias7] w fun x52 w =>
    sBuild Tryd.prog 176 [] w fun x53 w =>
    sAlloc Tryd.prog 176 w fun p12 w =>
    sStore Tryd.prog 176 p12 x53 w fun w =>
    sCall Tryd.prog 86 [t0] w fun x55 w =>
    JoinS 1 40 (fun M2 =>
      LoopS [x55] 1 40 w fun us _ w Nx3 =>
        tree_Tree_Find_L3 M2 Nx3 dim1 p12 x52 (hd us) w) fun us _ w =>
      tree_Tree_Find_J2 K dim1 p12 x52 x8 (hd us) w)

def tree_Tree_Find (K : K1) (t0 dim1 v2 bias3 : Value) (w : World) : Prop :=
  sBox Tryd.prog 3 v2 w fun v6 w =>
  sBox Tryd.prog 3 bias3 w fun bias7 w =>
  sAlloc Tryd.prog 176 w fun x8 w =>
  sCall Tryd.prog 62 [t0] w fun x25 w =>
  sAlloc Tryd.prog 114 w fun all10 w =>
  sStore Tryd.prog 114 all10 x25 w fun w =>
  JoinS 1 24 (fun M1 =>
    DrawS w fun C w =>
    stillS C w (fun w k => sBin Tryd.prog .lss 3 false true dim1 (.int .i64 0) w k) fun x27 =>
    sIf x27 (
      M1 [(.bool true)] w) (
      stillS C w (fun w k => sBin Tryd.prog .gtr 3 false true dim1 (.int .i64 3) w k) fun x30 =>
      sIf x30 (
        M1 [(.bool true)] w) (
        stillS C w (fun w k => sLoad Tryd.prog 3 v6 w k) fun x33 =>
        stillS C w (fun w k => sBin Tryd.prog .lss 3 false true x33 (.int .i64 0) w k) fun x34 =>
        sIf x34 (
          M1 [(.bool true)] w) (
          stillS C w (fun w k => sLoad Tryd.prog 3 v6 w k) fun x37 =>
          stillS C w (fun w k => sLoad Tryd.prog 114 all10 w k) fun x38 =>
          sCall Tryd.prog 111 [x38, dim1] w fun x40 w => C w ∧
          stillS C w (fun w k => sBin Tryd.prog .gtr 3 false false x37 x40 w k) fun x41 =>
          sIf x41 (
            M1 [(.bool true)] w) (
            stillS C w (fun w k => sLoad Tryd.prog 3 bias7 w k) fun x44 =>
            stillS C w (fun w k => sBin Tryd.prog .neq 3 false true x44 (.int .i64 0) w k) fun x45 =>
            sIf x45 (
              stillS C w (fun w k => sLoad Tryd.prog 3 bias7 w k) fun x47 =>
              stillS C w (fun w k => sBin Tryd.prog .neq 3 false true x47 (.int .i64 1) w k) fun x48 =>
              M1 [x48] w) (
              M1 [(.bool false)] w)))))) fun us _ w =>
    tree_Tree_Find_J1 K bias7 dim1 t0 v6 x8 (hd us) w

def tree_Tree_Find.sc : SC := (.seq (.reg (.op 0 (.op 1 (.op 2 (.op 3 .done))))) (.seq (.reg (.op 0 (.op 1 (.op 2 (.op 3 .done))))) (.seq (.join [50] [26, 27, 28, 29, 30, 31, 32, 33, 34, 35, 36, 37, 38, 39, 40, 41, 42, 43, 44, 45, 46, 47, 48, 49] (.draw (.op 0 (.op 1 (.op 2 (.test 2 (.skip 3 (.skip 4 (.op 5 (.op 6 (.know 6 true (.skip 7 (.skip 8 (.op 9 (.op 10 (.know 10 true (.skip 11 (.skip 12 (.skip 13 (.skip 14 (.skip 15 (.op 16 (.op 17 (.know 17 true (.skip 18 (.skip 19 (.skip 20 (.skip 21 (.skip 22 (.skip 23 (.op 24 .done))))))))))))))))))))))))) (.op 3 (.op 4 (.op 5 (.op 6 (.test 6 (.skip 7 (.skip 8 (.op 9 (.op 10 (.know 10 true (.skip 11 (.skip 12 (.skip 13 (.skip 14 (.skip 15 (.op 16 (.op 17 (.know 17 true (.skip 18 (.skip 19 (.skip 20 (.skip 21 (.skip 22 (.skip 23 (.op 24 .done)))))))))))))))))))) (.op 7 (.op 8 (.op 9 (.op 10 (.test 10 (.skip 11 (.skip 12 (.skip 13 (.skip 14 (.skip 15 (.op 16 (.op 17 (.know 17 true (.skip 18 (.skip 19 (.skip 20 (.skip 21 (.skip 22 (.skip 23 (.op 24 .done))))))))))))))) (.op 11 (.op 12 (.op 13 (.op 14 (.op 15 (.op 16 (.op 17 (.test 17 (.skip 18 (.skip 19 (.skip 20 (.skip 21 (.skip 22 (.skip 23 (.op 24 .done))))))) (.op 18 (.op 19 (.op 20 (.test 20 (.op 21 (.op 22 (.op 23 (.op 24 .done)))) (.skip 21 (.skip 22 (.op 23 (.op 24 .done))))))))))))))))))))))))))))))) (.cond (.seq (.reg (.op 0 (.op 1 (.op 2 .done)))) .nop) .nop)) (.seq (.reg (.op 0 (.op 1 .done))) (.seq (.reg (.op 0 (.op 1 (.op 2 .done)))) (.seq (.reg (.op 0 (.op 1 (.op 2 .done)))) (.join [13] [56, 57, 58, 59, 60, 61, 63, 64, 62, 65, 66, 14, 15, 67, 68, 69, 70, 71, 72, 73, 74, 75, 76, 77, 17, 78, 79, 80, 81, 82, 18, 83, 84, 85, 86, 87, 88, 89, 90, 91] (.sub (.loop [13] [56, 57, 58, 59, 60, 61, 63, 64, 62, 65, 66, 14, 15, 67, 68, 69, 70, 71, 72, 73, 74, 75, 76, 77, 17, 78, 79, 80, 81, 82, 18, 83, 84, 85, 86, 87, 88, 89, 90, 91] (.seq (.seq (.reg (.op 0 (.op 1 .done))) (.cond .nop .nop)) (.sub (.seq (.reg (.op 0 (.op 1 (.op 2 (.op 3 (.op 4 .done)))))) (.seq (.reg (.op 0 (.op 1 (.op 2 (.op 3 (.op 4 (.op 5 (.op 6 .done)))))))) (.seq (.seq (.reg (.op 0 (.op 1 .done))) (.cond .nop .nop)) (.seq (.reg (.op 0 .done)) (.seq (.reg (.op 0 (.op 1 (.op 2 (.op 3 (.op 4 (.op 5 .done))))))) (.sub (.loop [13, 74] [75, 76, 77, 17, 78, 79, 80, 81, 82, 18, 83, 84, 85, 86, 87, 88, 89, 90, 91] (.seq (.reg (.op 0 .done)) (.seq (.cond .nop .nop) (.seq (.sub (.seq (.reg (.op 0 (.op 1 (.op 2 .done)))) (.join [18] [78, 79, 80, 81, 82] (.draw (.op 0 (.op 1 (.op 2 (.alt 3 (.alt 4 (.op 5 (.fin 6 .done)) 5 (.fin 4 (.fin 6 .done))) 5 (.op 3 (.fin 4 (.fin 6 .done)))))))) (.seq (.seq (.reg (.op 0 (.op 1 (.op 2 (.op 3 (.op 4 .done)))))) (.cond (.seq (.reg (.op 0 (.op 1 .done))) .nop) .nop)) (.reg (.op 0 (.op 1 (.op 2 .done)))))))) (.reg (.op 0 (.op 1 .done))))))))))))))))) (.join [] [93, 94, 92, 95, 96, 19, 20, 97, 98, 99, 100, 101, 102, 103, 104, 105, 106, 22, 107, 108, 109, 110, 111, 23, 112, 113, 114, 115, 116, 117, 118, 119] (.seq (.reg (.op 0 (.op 1 (.op 2 (.op 3 (.op 4 (.op 5 (.op 6 .done)))))))) (.seq (.reg (.op 0 .done)) (.cond (.seq (.reg (.op 0 (.op 1 (.op 2 (.op 3 (.op 4 (.op 5 .done))))))) (.sub (.loop [103] [104, 105, 106, 22, 107, 108, 109, 110, 111, 23, 112, 113, 114, 115, 116, 117, 118, 119] (.seq (.reg (.op 0 .done)) (.seq (.cond .nop .nop) (.seq (.sub (.seq (.reg (.op 0 (.op 1 (.op 2 (.op 3 .done))))) (.join [23] [107, 108, 109, 110, 111] (.draw (.op 0 (.op 1 (.op 2 (.alt 3 (.alt 4 (.op 5 (.fin 6 .done)) 5 (.fin 4 (.fin 6 .done))) 5 (.op 3 (.fin 4 (.fin 6 .done)))))))) (.seq (.seq (.reg (.op 0 (.op 1 (.op 2 (.op 3 (.op 4 .done)))))) (.cond .nop .nop)) (.reg (.op 0 (.op 1 (.op 2 .done)))))))) (.reg (.op 0 (.op 1 .done))))))))) .nop))) (.seq (.reg (.op 0 (.op 1 (.op 2 (.op 3 (.op 4 .done)))))) (.seq (.reg (.op 0 (.op 1 (.op 2 .done)))) .nop))))))))))

theorem tree_Tree_Find.ok : okC Tryd.f106.ntmps tree_Tree_Find.sc (bodyOf Tryd.f106) = true := by kernel_rfl

theorem tree_Tree_Find.eq {K : K1} {t0 dim1 v2 bias3 : Value} {w : World} : tree_Tree_Find K t0 dim1 v2 bias3 w = codeS Tryd.prog tree_Tree_Find.sc (bodyOf Tryd.f106) (argsF 0 [t0, dim1, v2, bias3]) w (retQ Tryd.prog Tryd.f106.results.toList K) := by kernel_rfl

theorem tree_Tree_Find.call {K : K1} {t0 dim1 v2 bias3 : Value} {w : World} (h : tree_Tree_Find K t0 dim1 v2 bias3 w) : sCall Tryd.prog 106 [t0, dim1, v2, bias3] w K := sCall_code mixed Tryd.func106 (by kernel_rfl) rfl rfl tree_Tree_Find.ok tree_Tree_Find.eq h

abbrev tree_Tree_Find.n : Nat := 106

/-- '(*bodkin width.Table).Of' -/
def width_Table_Of (K : K1) (t0 r1 : Value) (w : World) : Prop :=
  sBin Tryd.prog .eql 103 false true t0 (.pointer none) w fun x7 w =>
  sIf x7 (
    K (.int .i64 1) w) (
    sNil t0 w fun x10 w =>
    sFldA Tryd.prog 151 x10 0 w fun x11 w =>
    sLoad Tryd.prog 149 x11 w fun x12 w =>
    sCall Tryd.prog 113 [x12, r1] w fun x14 w =>
    sIf x14 (
      K (.int .i64 0) w) (
      sNil t0 w fun x17 w =>
      sFldA Tryd.prog 151 x17 1 w fun x18 w =>
      sLoad Tryd.prog 149 x18 w fun x19 w =>
      sCall Tryd.prog 113 [x19, r1] w fun x21 w =>
      sIf x21 (
        K (.int .i64 2) w) (
        K (.int .i64 1) w)))

def width_Table_Of.sc : SC := (.seq (.reg (.op 0 .done)) (.seq (.sub (.seq (.reg (.op 0 (.op 1 (.op 2 .done)))) (.cond (.seq (.reg (.op 0 .done)) .nop) (.seq (.reg (.op 0 (.op 1 (.op 2 (.op 3 (.op 4 (.op 5 (.op 6 .done)))))))) (.cond (.seq (.reg (.op 0 .done)) .nop) (.seq (.reg (.op 0 (.op 1 (.op 2 (.op 3 (.op 4 (.op 5 (.op 6 .done)))))))) (.cond (.seq (.reg (.op 0 .done)) .nop) .nop))))))) (.seq (.reg (.op 0 .done)) .nop)))

theorem width_Table_Of.ok : okC Tryd.f108.ntmps width_Table_Of.sc (bodyOf Tryd.f108) = true := by kernel_rfl

theorem width_Table_Of.eq {K : K1} {t0 r1 : Value} {w : World} : width_Table_Of K t0 r1 w = codeS Tryd.prog width_Table_Of.sc (bodyOf Tryd.f108) (argsF 0 [t0, r1]) w (retQ Tryd.prog Tryd.f108.results.toList K) := by kernel_rfl

theorem width_Table_Of.call {K : K1} {t0 r1 : Value} {w : World} (h : width_Table_Of K t0 r1 w) : sCall Tryd.prog 108 [t0, r1] w K := sCall_code mixed Tryd.func108 (by kernel_rfl) rfl rfl width_Table_Of.ok width_Table_Of.eq h

abbrev width_Table_Of.n : Nat := 108

/-- 'bodkin bodkinref02.in' -/
def bodkinref02_in_L1 (K : K1) (Nx1 : List Value → World → Prop) (l0 r1 x8 : Value) (x9 : Value) (w : World) : Prop :=
  sBin Tryd.prog .lss 3 false false x9 x8 w fun x10 w =>
  sIf x10 (
    sIdxA Tryd.prog 157 l0 x9 w fun x11 w =>
    sLoad Tryd.prog 156 x11 w fun x12 w =>
    sAlloc Tryd.prog 156 w fun x6 w =>
    sStore Tryd.prog 156 x6 x12 w fun w =>
    sFldA Tryd.prog 156 x6 0 w fun x14 w =>
    sLoad Tryd.prog 21 x14 w fun x15 w =>
    sBin Tryd.prog .geq 21 false false r1 x15 w fun x16 w =>
    sIf x16 (
      sFldA Tryd.prog 156 x6 1 w fun x19 w =>
      sLoad Tryd.prog 21 x19 w fun x20 w =>
      sBin Tryd.prog .leq 21 false false r1 x20 w fun x21 w =>
      sIf x21 (
        K (.bool true) w) (
        sBin Tryd.prog .add 3 false true x9 (.int .i64 1) w fun x23 w =>
        Nx1 [x23] w)) (
      sBin Tryd.prog .add 3 false true x9 (.int .i64 1) w fun x23_1 w =>
      Nx1 [x23_1] w)) (
    K (.bool false) w)

def bodkinref02_in (K : K1) (l0 r1 : Value) (w : World) : Prop :=
  sBuiltin Tryd.prog .len [157] 3 [l0] w fun x8 w =>
  LoopS [(.int .i64 0)] 1 16 w fun us _ w Nx1 =>
    bodkinref02_in_L1 K Nx1 l0 r1 x8 (hd us) w

def bodkinref02_in.sc : SC := (.seq (.reg (.op 0 .done)) (.seq (.seq (.reg (.op 0 (.op 1 (.op 2 .done)))) (.sub (.loop [9] [10, 11, 12, 6, 13, 14, 15, 16, 17, 18, 19, 20, 21, 22, 4, 23] (.seq (.reg (.op 0 .done)) (.seq (.cond .nop .nop) (.seq (.sub (.seq (.reg (.op 0 (.op 1 (.op 2 (.op 3 .done))))) (.seq (.reg (.op 0 (.op 1 (.op 2 (.op 3 (.op 4 (.test 4 (.op 5 (.op 6 (.op 7 (.op 8 (.op 9 .done))))) (.skip 5 (.skip 6 (.skip 7 (.skip 8 (.op 9 .done)))))))))))) (.cond (.seq (.reg (.op 0 .done)) .nop) .nop)))) (.reg (.op 0 (.op 1 .done))))))))) (.seq (.reg (.op 0 .done)) .nop)))

theorem bodkinref02_in.ok : okC Tryd.f109.ntmps bodkinref02_in.sc (bodyOf Tryd.f109) = true := by kernel_rfl

theorem bodkinref02_in.eq {K : K1} {l0 r1 : Value} {w : World} : bodkinref02_in K l0 r1 w = codeS Tryd.prog bodkinref02_in.sc (bodyOf Tryd.f109) (argsF 0 [l0, r1]) w (retQ Tryd.prog Tryd.f109.results.toList K) := by kernel_rfl

theorem bodkinref02_in.call {K : K1} {l0 r1 : Value} {w : World} (h : bodkinref02_in K l0 r1 w) : sCall Tryd.prog 109 [l0, r1] w K := sCall_code mixed Tryd.func109 (by kernel_rfl) rfl rfl bodkinref02_in.ok bodkinref02_in.eq h

abbrev bodkinref02_in.n : Nat := 109

/-- 'bodkin tree.size' -/
def tree_size (K : K1) (s0 dim1 : Value) (w : World) : Prop :=
  sBox Tryd.prog 114 s0 w fun s2 w =>
  sBin Tryd.prog .eql 3 false true dim1 (.int .i64 3) w fun x6 w =>
  sIf x6 (
    sFldA Tryd.prog 114 s2 0 w fun x7 w =>
    sLoad Tryd.prog 3 x7 w fun x8 w =>
    K x8 w) (
    sFldA Tryd.prog 114 s2 1 w fun x10 w =>
    sIdxA Tryd.prog 89 x10 dim1 w fun x11 w =>
    sLoad Tryd.prog 3 x11 w fun x12 w =>
    K x12 w)

def tree_size.sc : SC := (.seq (.reg (.op 0 (.op 1 .done))) (.seq (.seq (.reg (.op 0 (.op 1 .done))) (.cond (.seq (.reg (.op 0 (.op 1 (.op 2 .done)))) .nop) .nop)) (.seq (.reg (.op 0 (.op 1 (.op 2 (.op 3 (.op 4 .done)))))) .nop)))

theorem tree_size.ok : okC Tryd.f111.ntmps tree_size.sc (bodyOf Tryd.f111) = true := by kernel_rfl

theorem tree_size.eq {K : K1} {s0 dim1 : Value} {w : World} : tree_size K s0 dim1 w = codeS Tryd.prog tree_size.sc (bodyOf Tryd.f111) (argsF 0 [s0, dim1]) w (retQ Tryd.prog Tryd.f111.results.toList K) := by kernel_rfl

theorem tree_size.call {K : K1} {s0 dim1 : Value} {w : World} (h : tree_size K s0 dim1 w) : sCall Tryd.prog 111 [s0, dim1] w K := sCall_code mixed Tryd.func111 (by kernel_rfl) rfl rfl tree_size.ok tree_size.eq h

abbrev tree_size.n : Nat := 111

/-- '(*bodkin tree.Tree).Find$1' -/
def tree_Tree_Find_1 (K : K1) (end0 x1 x2 : Value) (w : World) : Prop :=
  sLoad Tryd.prog 3 x1 w fun x6 w =>
  sBin Tryd.prog .gtr 3 false false end0 x6 w fun x7 w =>
  sIf x7 (
    K (.bool true) w) (
    sLoad Tryd.prog 3 x2 w fun x9 w =>
    sBin Tryd.prog .eql 3 false true x9 (.int .i64 0) w fun x10 w =>
    sIf x10 (
      sLoad Tryd.prog 3 x1 w fun x13 w =>
      sBin Tryd.prog .eql 3 false false end0 x13 w fun x14 w =>
      K x14 w) (
      K (.bool false) w))

def tree_Tree_Find_1.sc : SC := (.seq (.reg (.op 0 .done)) (.seq (.reg (.op 0 (.op 1 (.op 2 (.op 3 (.test 3 (.skip 4 (.skip 5 (.skip 6 (.skip 7 (.skip 8 (.skip 9 (.skip 10 (.op 11 (.op 12 .done))))))))) (.op 4 (.op 5 (.op 6 (.test 6 (.op 7 (.op 8 (.op 9 (.op 10 (.op 11 (.op 12 .done)))))) (.skip 7 (.skip 8 (.skip 9 (.op 10 (.op 11 (.op 12 .done)))))))))))))))) .nop))

theorem tree_Tree_Find_1.ok : okC Tryd.f112.ntmps tree_Tree_Find_1.sc (bodyOf Tryd.f112) = true := by kernel_rfl

theorem tree_Tree_Find_1.eq {K : K1} {end0 x1 x2 : Value} {w : World} : tree_Tree_Find_1 K end0 x1 x2 w = codeS Tryd.prog tree_Tree_Find_1.sc (bodyOf Tryd.f112) (argsF 0 [end0, x1, x2]) w (retQ Tryd.prog Tryd.f112.results.toList K) := by kernel_rfl

theorem tree_Tree_Find_1.call {K : K1} {end0 x1 x2 : Value} {w : World} (h : tree_Tree_Find_1 K end0 x1 x2 w) : sCall Tryd.prog 112 [end0, x1, x2] w K := sCall_code mixed Tryd.func112 (by kernel_rfl) rfl rfl tree_Tree_Find_1.ok tree_Tree_Find_1.eq h

abbrev tree_Tree_Find_1.n : Nat := 112

/-- 'bodkin width.in' -/
def width_in_L1 (K : K1) (Nx1 : List Value → World → Prop) (l0 r1 : Value) (high6 low5 found7 : Value) (w : World) : Prop :=
  sBin Tryd.prog .lss 3 false false low5 high6 w fun x13 w =>
  sIf x13 (
    sBin Tryd.prog .add 3 false false low5 high6 w fun x16 w =>
    sBin Tryd.prog .quo 3 false true x16 (.int .i64 2) w fun x17 w =>
    sIdxA Tryd.prog 149 l0 x17 w fun x22 w =>
    sFldA Tryd.prog 153 x22 0 w fun x23 w =>
    sLoad Tryd.prog 21 x23 w fun x24 w =>
    sBin Tryd.prog .lss 21 false false r1 x24 w fun x25 w =>
    sIf x25 (
      Nx1 [x17, low5, found7] w) (
      sIdxA Tryd.prog 149 l0 x17 w fun x31 w =>
      sFldA Tryd.prog 153 x31 1 w fun x32 w =>
      sLoad Tryd.prog 21 x32 w fun x33 w =>
      sBin Tryd.prog .gtr 21 false false r1 x33 w fun x34 w =>
      sIf x34 (
        sBin Tryd.prog .add 3 false true x17 (.int .i64 1) w fun x36 w =>
        Nx1 [high6, x36, found7] w) (
        K (.bool true) w))) (
    K found7 w)

def width_in (K : K1) (l0 r1 : Value) (w : World) : Prop :=
  sBuiltin Tryd.prog .len [149] 3 [l0] w fun x10 w =>
  LoopS [x10, (.int .i64 0), (.bool false)] 3 27 w fun us _ w Nx1 =>
    width_in_L1 K Nx1 l0 r1 (hd us) (hd (tl us)) (hd (tl (tl us))) w

def width_in.sc : SC := (.seq (.reg (.op 0 .done)) (.sub (.seq (.reg (.op 0 (.op 1 (.op 2 (.op 3 .done))))) (.seq (.reg (.op 0 .done)) (.seq .nop (.seq (.sub (.loop [6, 5, 7] [11, 12, 13, 14, 15, 16, 17, 8, 19, 20, 21, 22, 23, 24, 25, 18, 26, 28, 29, 30, 31, 32, 33, 34, 27, 35, 36] (.seq (.seq (.reg (.op 0 (.op 1 (.op 2 .done)))) (.cond .nop .nop)) (.sub (.seq (.reg (.op 0 (.op 1 (.op 2 (.op 3 (.op 4 .done)))))) (.sub (.seq (.reg (.op 0 (.op 1 (.op 2 (.op 3 (.op 4 (.op 5 (.op 6 (.op 7 .done))))))))) (.cond (.reg (.op 0 (.op 1 .done))) (.seq (.reg (.op 0 (.op 1 (.op 2 (.op 3 (.op 4 (.op 5 (.op 6 (.op 7 .done))))))))) (.cond (.reg (.op 0 (.op 1 (.op 2 .done)))) (.seq (.reg (.op 0 .done)) .nop))))))))))) (.seq (.reg (.op 0 (.op 1 .done))) .nop)))))))

theorem width_in.ok : okC Tryd.f113.ntmps width_in.sc (bodyOf Tryd.f113) = true := by kernel_rfl

theorem width_in.eq {K : K1} {l0 r1 : Value} {w : World} : width_in K l0 r1 w = codeS Tryd.prog width_in.sc (bodyOf Tryd.f113) (argsF 0 [l0, r1]) w (retQ Tryd.prog Tryd.f113.results.toList K) := by kernel_rfl

theorem width_in.call {K : K1} {l0 r1 : Value} {w : World} (h : width_in K l0 r1 w) : sCall Tryd.prog 113 [l0, r1] w K := sCall_code mixed Tryd.func113 (by kernel_rfl) rfl rfl width_in.ok width_in.eq h

abbrev width_in.n : Nat := 113

end S
end Go.Proofs.YtplpkeoakclobaaDoor

/- The functions of this seat, their code without slots, and that a call of each is what its code says: by program (lift.py). No conditions. -/
import Derived.Test.YtjolodlmnffkeaaDoorS1
import Derived.Test.YtjolodlmnffkeaaDoorRows
import Derived.KernelRfl
namespace Go.Proofs.YtjolodlmnffkeaaDoor
open Go Go.Lift
namespace S
set_option maxRecDepth 10000
set_option linter.unusedVariables false
/-- 'bodkin tree.heightOf' -/
def tree_heightOf (K : K1) (n0 : Value) (w : World) : Prop :=
  sAssert Tryd.prog n0 104 107 true w fun x6 w =>
  sExtract x6 1 w fun x7 w =>
  sExtract x6 0 w fun x8 w =>
  sIf x7 (
    K (.int .i64 1) w) (
    sAssert Tryd.prog n0 104 136 true w fun x9 w =>
    sExtract x9 1 w fun x10 w =>
    sExtract x9 0 w fun x11 w =>
    sIf x10 (
      sNil x11 w fun x13 w =>
      sFldA Tryd.prog 142 x13 1 w fun x14 w =>
      sLoad Tryd.prog 3 x14 w fun x15 w =>
      K x15 w) (
      K (.int .i64 0) w))

def tree_heightOf.sc : SC := (.seq (.reg (.op 0 .done)) (.seq (.seq (.reg (.op 0 .done)) (.sub (.seq (.reg (.op 0 (.op 1 (.op 2 .done)))) (.cond (.seq (.reg (.op 0 .done)) (.seq (.reg (.op 0 .done)) .nop)) (.seq (.reg (.op 0 (.op 1 (.op 2 .done)))) (.cond (.seq (.reg (.op 0 .done)) (.seq (.reg (.op 0 (.op 1 (.op 2 (.op 3 (.op 4 .done)))))) .nop)) .nop)))))) (.seq (.reg (.op 0 .done)) .nop)))

theorem tree_heightOf.ok : okC Tryd.f79.ntmps tree_heightOf.sc (bodyOf Tryd.f79) = true := by kernel_rfl

theorem tree_heightOf.eq {K : K1} {n0 : Value} {w : World} : tree_heightOf K n0 w = codeS Tryd.prog tree_heightOf.sc (bodyOf Tryd.f79) (argsF 0 [n0]) w (retQ Tryd.prog Tryd.f79.results.toList K) := by kernel_rfl

theorem tree_heightOf.call {K : K1} {n0 : Value} {w : World} (h : tree_heightOf K n0 w) : sCall Tryd.prog 79 [n0] w K := sCall_code mixed Tryd.func79 (by kernel_rfl) rfl rfl tree_heightOf.ok tree_heightOf.eq h

abbrev tree_heightOf.n : Nat := 79

/-- 'bodkin item.within' -/
def item_within (K : K1) (n0 : Value) (w : World) : Prop :=
  sBin Tryd.prog .geq 3 false true n0 (.int .i64 0) w fun x4 w =>
  sIf x4 (
    sBin Tryd.prog .leq 3 false true n0 (.int .i64 1099511627776) w fun x7 w =>
    K x7 w) (
    K (.bool false) w)

def item_within.sc : SC := (.seq (.reg (.op 0 .done)) (.seq (.reg (.op 0 (.op 1 (.op 2 (.test 2 (.op 3 (.op 4 (.op 5 (.op 6 .done)))) (.skip 3 (.skip 4 (.op 5 (.op 6 .done))))))))) .nop))

theorem item_within.ok : okC Tryd.f83.ntmps item_within.sc (bodyOf Tryd.f83) = true := by kernel_rfl

theorem item_within.eq {K : K1} {n0 : Value} {w : World} : item_within K n0 w = codeS Tryd.prog item_within.sc (bodyOf Tryd.f83) (argsF 0 [n0]) w (retQ Tryd.prog Tryd.f83.results.toList K) := by kernel_rfl

theorem item_within.call {K : K1} {n0 : Value} {w : World} (h : item_within K n0 w) : sCall Tryd.prog 83 [n0] w K := sCall_code mixed Tryd.func83 (by kernel_rfl) rfl rfl item_within.ok item_within.eq h

abbrev item_within.n : Nat := 83

/-- 'bodkin tree.meld' -/
def tree_meld (K : K1) (a0 b1 : Value) (w : World) : Prop :=
  sCall Tryd.prog 79 [a0] w fun x15 w =>
  sCall Tryd.prog 79 [b1] w fun x17 w =>
  sBin Tryd.prog .gtr 3 false false x15 x17 w fun x21 w =>
  sIf x21 (
    sAssert Tryd.prog a0 104 136 false w fun x23 w =>
    sNil x23 w fun x25 w =>
    sFldA Tryd.prog 142 x25 0 w fun x26 w =>
    sLoad Tryd.prog 134 x26 w fun x27 w =>
    sBuiltin Tryd.prog .len [134] 3 [x27] w fun x28 w =>
    sBin Tryd.prog .sub 3 false true x28 (.int .i64 1) w fun x29 w =>
    DrawS w fun C w =>
    sNil x23 w fun x31 w =>
    stillS C w (fun w k => sFldA Tryd.prog 142 x31 0 w k) fun x32 =>
    stillS C w (fun w k => sLoad Tryd.prog 134 x32 w k) fun x33 =>
    stillS C w (fun w k => sSlice Tryd.prog 134 x33 none (some x29) none w k) fun x35 =>
    sNil x23 w fun x37 w =>
    stillS C w (fun w k => sFldA Tryd.prog 142 x37 0 w k) fun x38 =>
    stillS C w (fun w k => sLoad Tryd.prog 134 x38 w k) fun x39 =>
    stillS C w (fun w k => sIdxA Tryd.prog 134 x39 x29 w k) fun x41 =>
    stillS C w (fun w k => sLoad Tryd.prog 104 x41 w k) fun x42 =>
    sCall Tryd.prog 84 [x42, b1] w fun x44 w => C w ∧
    sCall Tryd.prog 97 [x35, x44] w fun x45 w => C w ∧
    sCall Tryd.prog 96 [x45] w fun x46 w => C w ∧
    K x46 w) (
    sBin Tryd.prog .lss 3 false false x15 x17 w fun x50 w =>
    sIf x50 (
      sAssert Tryd.prog b1 104 136 false w fun x52 w =>
      DrawS w fun C w =>
      sNil x52 w fun x55 w =>
      stillS C w (fun w k => sFldA Tryd.prog 142 x55 0 w k) fun x56 =>
      stillS C w (fun w k => sLoad Tryd.prog 134 x56 w k) fun x57 =>
      stillS C w (fun w k => sIdxA Tryd.prog 134 x57 (.int .i64 0) w k) fun x58 =>
      stillS C w (fun w k => sLoad Tryd.prog 104 x58 w k) fun x59 =>
      sNil x52 w fun x62 w =>
      stillS C w (fun w k => sFldA Tryd.prog 142 x62 0 w k) fun x63 =>
      stillS C w (fun w k => sLoad Tryd.prog 134 x63 w k) fun x64 =>
      stillS C w (fun w k => sSlice Tryd.prog 134 x64 (some (.int .i64 1)) none none w k) fun x65 =>
      sCall Tryd.prog 84 [a0, x59] w fun x60 w => C w ∧
      sCall Tryd.prog 97 [x60, x65] w fun x66 w => C w ∧
      sCall Tryd.prog 96 [x66] w fun x67 w => C w ∧
      K x67 w) (
      sAssert Tryd.prog a0 104 107 true w fun x70 w =>
      sExtract x70 0 w fun x71 w =>
      sExtract x70 1 w fun x72 w =>
      sIf x72 (
        sAssert Tryd.prog b1 104 107 false w fun x75 w =>
        DrawS w fun C w =>
        sNil x71 w fun x77 w =>
        stillS C w (fun w k => sFldA Tryd.prog 140 x77 0 w k) fun x78 =>
        stillS C w (fun w k => sLoad Tryd.prog 60 x78 w k) fun x79 =>
        stillS C w (fun w k => sBuiltin Tryd.prog .len [60] 3 [x79] w k) fun x80 =>
        sNil x75 w fun x82 w =>
        stillS C w (fun w k => sFldA Tryd.prog 140 x82 0 w k) fun x83 =>
        stillS C w (fun w k => sLoad Tryd.prog 60 x83 w k) fun x84 =>
        stillS C w (fun w k => sBuiltin Tryd.prog .len [60] 3 [x84] w k) fun x85 =>
        stillS C w (fun w k => sBin Tryd.prog .add 3 false false x80 x85 w k) fun x86 =>
        sMake Tryd.prog 60 (.int .i64 0) x86 w fun x87 w => C w ∧
        sNil x71 w fun x90 w =>
        sFldA Tryd.prog 140 x90 0 w fun x91 w =>
        sLoad Tryd.prog 60 x91 w fun x92 w =>
        sBuiltin Tryd.prog .append [60, 60] 60 [x87, x92] w fun x93 w =>
        sNil x75 w fun x96 w =>
        sFldA Tryd.prog 140 x96 0 w fun x97 w =>
        sLoad Tryd.prog 60 x97 w fun x98 w =>
        sBuiltin Tryd.prog .append [60, 60] 60 [x93, x98] w fun x99 w =>
        sCall Tryd.prog 98 [x99] w fun x100 w =>
        K x100 w) (
        DrawS w fun C w =>
        stillS C w (fun w k => sAssert Tryd.prog a0 104 136 false w k) fun x102 =>
        sNil x102 w fun x103 w =>
        stillS C w (fun w k => sFldA Tryd.prog 142 x103 0 w k) fun x104 =>
        stillS C w (fun w k => sLoad Tryd.prog 134 x104 w k) fun x105 =>
        stillS C w (fun w k => sAssert Tryd.prog b1 104 136 false w k) fun x107 =>
        sNil x107 w fun x108 w =>
        stillS C w (fun w k => sFldA Tryd.prog 142 x108 0 w k) fun x109 =>
        stillS C w (fun w k => sLoad Tryd.prog 134 x109 w k) fun x110 =>
        sCall Tryd.prog 97 [x105, x110] w fun x111 w => C w ∧
        sCall Tryd.prog 96 [x111] w fun x112 w => C w ∧
        K x112 w)))

def tree_meld.sc : SC := (.seq (.reg (.op 0 .done)) (.seq (.reg (.op 0 (.op 1 (.op 2 (.op 3 (.op 4 (.op 5 .done))))))) (.seq (.sub (.seq (.reg (.op 0 (.op 1 (.op 2 (.op 3 .done))))) (.cond (.seq (.reg (.op 0 (.op 1 (.op 2 .done)))) (.seq (.reg (.op 0 (.op 1 (.op 2 (.op 3 (.op 4 (.op 5 (.op 6 .done)))))))) (.seq (.draw (.op 0 (.op 1 (.op 2 (.op 3 (.op 4 (.op 5 (.op 6 (.op 7 (.op 8 (.op 9 (.op 10 (.op 11 (.op 12 (.op 13 (.op 14 (.op 15 (.op 16 (.op 17 .done))))))))))))))))))) .nop))) (.seq (.reg (.op 0 (.op 1 (.op 2 (.op 3 .done))))) (.cond (.seq (.reg (.op 0 (.op 1 (.op 2 .done)))) (.seq (.draw (.op 0 (.op 1 (.op 2 (.op 3 (.op 4 (.op 5 (.op 6 (.op 8 (.op 9 (.op 10 (.op 11 (.op 12 (.op 7 (.op 13 (.op 14 (.op 15 .done))))))))))))))))) .nop)) .nop))))) (.seq (.seq (.reg (.op 0 (.op 1 (.op 2 (.op 3 (.op 4 (.op 5 (.op 6 .done)))))))) (.seq (.reg (.op 0 .done)) (.cond (.seq (.reg (.op 0 (.op 1 (.op 2 .done)))) (.seq (.draw (.op 0 (.op 1 (.op 2 (.op 3 (.op 4 (.op 5 (.op 6 (.op 7 (.op 8 (.op 9 (.op 10 (.op 11 (.op 12 .done)))))))))))))) (.seq (.reg (.op 0 (.op 1 (.op 2 (.op 3 (.op 4 (.op 5 (.op 6 .done)))))))) (.seq (.reg (.op 0 (.op 1 (.op 2 (.op 3 (.op 4 (.op 5 (.op 6 (.op 7 .done))))))))) .nop)))) .nop))) (.seq (.draw (.op 0 (.op 1 (.op 2 (.op 3 (.op 4 (.op 5 (.op 6 (.op 7 (.op 8 (.op 9 (.op 10 (.op 11 (.op 12 .done)))))))))))))) .nop)))))

theorem tree_meld.ok : okC Tryd.f84.ntmps tree_meld.sc (bodyOf Tryd.f84) = true := by kernel_rfl

theorem tree_meld.eq {K : K1} {a0 b1 : Value} {w : World} : tree_meld K a0 b1 w = codeS Tryd.prog tree_meld.sc (bodyOf Tryd.f84) (argsF 0 [a0, b1]) w (retQ Tryd.prog Tryd.f84.results.toList K) := by kernel_rfl

theorem tree_meld.call {K : K1} {a0 b1 : Value} {w : World} (h : tree_meld K a0 b1 w) : sCall Tryd.prog 84 [a0, b1] w K := sCall_code mixed Tryd.func84 (by kernel_rfl) rfl rfl tree_meld.ok tree_meld.eq h

abbrev tree_meld.n : Nat := 84

/-- 'bodkin tree.innerOf' -/
def tree_innerOf_L1 (K : K1) (Nx1 : List Value → World → Prop) (kids0 x13 x15 : Value) (x16 : Value) (w : World) : Prop :=
  sBin Tryd.prog .lss 3 false false x16 x15 w fun x17 w =>
  sIf x17 (
    sIdxA Tryd.prog 134 kids0 x16 w fun x18 w =>
    sLoad Tryd.prog 104 x18 w fun x19 w =>
    DrawS w fun C w =>
    sNil x13 w fun x22 w =>
    stillS C w (fun w k => sFldA Tryd.prog 142 x22 2 w k) fun x23 =>
    stillS C w (fun w k => sLoad Tryd.prog 69 x23 w k) fun x24 =>
    sCall Tryd.prog 71 [x19] w fun x26 w => C w ∧
    sCall Tryd.prog 69 [x24, x26] w fun x27 w => C w ∧
    sNil x13 w fun x28 w =>
    stillS C w (fun w k => sFldA Tryd.prog 142 x28 2 w k) fun x29 =>
    sStore Tryd.prog 69 x29 x27 w fun w =>
    sBin Tryd.prog .add 3 false true x16 (.int .i64 1) w fun x30 w =>
    Nx1 [x30] w) (
    K x13 w)

def tree_innerOf (K : K1) (kids0 : Value) (w : World) : Prop :=
  sIdxA Tryd.prog 134 kids0 (.int .i64 0) w fun x8 w =>
  sLoad Tryd.prog 104 x8 w fun x9 w =>
  sCall Tryd.prog 79 [x9] w fun x10 w =>
  sBin Tryd.prog .add 3 false true x10 (.int .i64 1) w fun x11 w =>
  sBuild Tryd.prog 142 [(0, kids0), (1, x11)] w fun x12 w =>
  sBox Tryd.prog 142 x12 w fun x13 w =>
  sBuiltin Tryd.prog .len [134] 3 [kids0] w fun x15 w =>
  LoopS [(.int .i64 0)] 1 15 w fun us _ w Nx1 =>
    tree_innerOf_L1 K Nx1 kids0 x13 x15 (hd us) w

def tree_innerOf.sc : SC := (.seq (.reg (.op 0 .done)) (.seq (.reg (.op 0 (.op 1 (.op 2 (.op 3 (.op 4 (.op 5 (.op 6 (.op 7 (.op 8 .done)))))))))) (.seq (.seq (.reg (.op 0 (.op 1 (.op 2 .done)))) (.sub (.loop [16] [17, 18, 19, 5, 20, 21, 22, 23, 24, 25, 26, 27, 28, 29, 30] (.seq (.reg (.op 0 .done)) (.seq (.cond .nop .nop) (.seq (.sub (.seq (.reg (.op 0 (.op 1 (.op 2 .done)))) (.draw (.op 0 (.op 1 (.op 2 (.op 3 (.op 4 (.op 5 (.op 6 (.op 7 (.op 8 (.op 9 (.fin 10 .done)))))))))))))) (.reg (.op 0 (.op 1 .done))))))))) (.seq (.reg (.op 0 (.op 1 .done))) .nop))))

theorem tree_innerOf.ok : okC Tryd.f85.ntmps tree_innerOf.sc (bodyOf Tryd.f85) = true := by kernel_rfl

theorem tree_innerOf.eq {K : K1} {kids0 : Value} {w : World} : tree_innerOf K kids0 w = codeS Tryd.prog tree_innerOf.sc (bodyOf Tryd.f85) (argsF 0 [kids0]) w (retQ Tryd.prog Tryd.f85.results.toList K) := by kernel_rfl

theorem tree_innerOf.call {K : K1} {kids0 : Value} {w : World} (h : tree_innerOf K kids0 w) : sCall Tryd.prog 85 [kids0] w K := sCall_code mixed Tryd.func85 (by kernel_rfl) rfl rfl tree_innerOf.ok tree_innerOf.eq h

abbrev tree_innerOf.n : Nat := 85

/-- 'bodkin item.All' -/
def item_All_L1 (K : K1) (Nx1 : List Value → World → Prop) (l0 s3 x2 x7 : Value) (x8 : Value) (w : World) : Prop :=
  sBin Tryd.prog .lss 3 false false x8 x7 w fun x9 w =>
  sIf x9 (
    sIdxA Tryd.prog 60 l0 x8 w fun x10 w =>
    sLoad Tryd.prog 71 x10 w fun x11 w =>
    sAlloc Tryd.prog 71 w fun i5 w =>
    sStore Tryd.prog 71 i5 x11 w fun w =>
    DrawS w fun C w =>
    stillS C w (fun w k => sLoad Tryd.prog 69 s3 w k) fun x12 =>
    stillS C w (fun w k => sLoad Tryd.prog 71 i5 w k) fun x13 =>
    sCall Tryd.prog 70 [x13] w fun x14 w => C w ∧
    sCall Tryd.prog 69 [x12, x14] w fun x15 w =>
    sStore Tryd.prog 69 s3 x15 w fun w =>
    sBin Tryd.prog .add 3 false true x8 (.int .i64 1) w fun x16 w =>
    Nx1 [x16] w) (
    sLoad Tryd.prog 69 s3 w fun x17 w =>
    sStore Tryd.prog 69 x2 x17 w fun w =>
    sLoad Tryd.prog 69 x2 w fun v w' => w' = w ∧ K v w)

def item_All (K : K1) (l0 : Value) (w : World) : Prop :=
  sAlloc Tryd.prog 69 w fun x2 w =>
  sAlloc Tryd.prog 69 w fun s3 w =>
  sBuiltin Tryd.prog .len [60] 3 [l0] w fun x7 w =>
  LoopS [(.int .i64 0)] 1 9 w fun us _ w Nx1 =>
    item_All_L1 K Nx1 l0 s3 x2 x7 (hd us) w

def item_All.sc : SC := (.seq (.reg (.op 0 .done)) (.seq (.reg (.op 0 .done)) (.seq (.seq (.reg (.op 0 (.op 1 (.op 2 .done)))) (.sub (.loop [8] [9, 10, 11, 5, 12, 13, 14, 15, 16] (.seq (.reg (.op 0 .done)) (.seq (.cond .nop .nop) (.seq (.sub (.seq (.reg (.op 0 (.op 1 (.op 2 (.op 3 .done))))) (.draw (.op 0 (.op 1 (.op 2 (.fin 3 (.fin 4 .done)))))))) (.reg (.op 0 (.op 1 .done))))))))) (.seq (.reg (.op 0 (.op 1 .done))) .nop))))

theorem item_All.ok : okC Tryd.f86.ntmps item_All.sc (bodyOf Tryd.f86) = true := by kernel_rfl

theorem item_All.eq {K : K1} {l0 : Value} {w : World} : item_All K l0 w = codeS Tryd.prog item_All.sc (bodyOf Tryd.f86) (argsF 0 [l0]) w (retQ Tryd.prog Tryd.f86.results.toList K) := by kernel_rfl

theorem item_All.call {K : K1} {l0 : Value} {w : World} (h : item_All K l0 w) : sCall Tryd.prog 86 [l0] w K := sCall_code mixed Tryd.func86 (by kernel_rfl) rfl rfl item_All.ok item_All.eq h

abbrev item_All.n : Nat := 86

/-- 'bodkin utf.Encode' -/
def utf_Encode_J2 (Nx1 : List Value → World → Prop) (out3 x8 : Value) (r5 : Value) (w : World) : Prop :=
  sConv Tryd.prog 21 9 r5 w fun x17 w =>
  sBuiltin Tryd.prog .append [90, 9] 90 [out3, x17] w fun x18 w =>
  sBin Tryd.prog .add 3 false true x8 (.int .i64 1) w fun x19 w =>
  Nx1 [x18, x19] w

def utf_Encode_L1 (K : K1) (Nx1 : List Value → World → Prop) (l0 x7 : Value) (out3 x8 : Value) (w : World) : Prop :=
  sBin Tryd.prog .lss 3 false false x8 x7 w fun x9 w =>
  sIf x9 (
    sIdxA Tryd.prog 27 l0 x8 w fun x10 w =>
    sLoad Tryd.prog 21 x10 w fun x11 w =>
    JoinS 1 3 (fun M2 =>
      sCall Tryd.prog 99 [x11] w fun x13 w =>
      sUn Tryd.prog .not x13 w fun x14 w =>
      sIf x14 (
        M2 [(.int .i32 65533)] w) (
        M2 [x11] w)) fun us _ w =>
      utf_Encode_J2 Nx1 out3 x8 (hd us) w) (
    sConv Tryd.prog 90 9 out3 w fun x21 w =>
    K x21 w)

def utf_Encode (K : K1) (l0 : Value) (w : World) : Prop :=
  sBuiltin Tryd.prog .len [27] 3 [l0] w fun x7 w =>
  LoopS [(.slice none 0 0), (.int .i64 0)] 2 12 w fun us _ w Nx1 =>
    utf_Encode_L1 K Nx1 l0 x7 (hd us) (hd (tl us)) w

def utf_Encode.sc : SC := (.seq (.reg (.op 0 .done)) (.seq (.reg (.op 0 .done)) (.seq (.seq (.reg (.op 0 (.op 1 (.op 2 .done)))) (.sub (.loop [3, 8] [9, 10, 11, 5, 12, 13, 14, 15, 16, 17, 18, 19] (.seq (.reg (.op 0 .done)) (.seq (.cond .nop .nop) (.seq (.sub (.seq (.reg (.op 0 (.op 1 (.op 2 .done)))) (.join [5] [12, 13, 14] (.seq (.reg (.op 0 (.op 1 (.op 2 .done)))) (.cond (.reg (.op 0 .done)) .nop)) (.reg (.op 0 (.op 1 (.op 2 (.op 3 (.op 4 .done))))))))) (.reg (.op 0 (.op 1 .done))))))))) (.seq (.reg (.op 0 (.op 1 (.op 2 .done)))) .nop))))

theorem utf_Encode.ok : okC Tryd.f87.ntmps utf_Encode.sc (bodyOf Tryd.f87) = true := by kernel_rfl

theorem utf_Encode.eq {K : K1} {l0 : Value} {w : World} : utf_Encode K l0 w = codeS Tryd.prog utf_Encode.sc (bodyOf Tryd.f87) (argsF 0 [l0]) w (retQ Tryd.prog Tryd.f87.results.toList K) := by kernel_rfl

theorem utf_Encode.call {K : K1} {l0 : Value} {w : World} (h : utf_Encode K l0 w) : sCall Tryd.prog 87 [l0] w K := sCall_code mixed Tryd.func87 (by kernel_rfl) rfl rfl utf_Encode.ok utf_Encode.eq h

abbrev utf_Encode.n : Nat := 87

/-- 'bodkin tree.size' -/
def tree_size (K : K1) (s0 dim1 : Value) (w : World) : Prop :=
  sBox Tryd.prog 69 s0 w fun s2 w =>
  sBin Tryd.prog .eql 3 false true dim1 (.int .i64 3) w fun x6 w =>
  sIf x6 (
    sFldA Tryd.prog 69 s2 0 w fun x7 w =>
    sLoad Tryd.prog 3 x7 w fun x8 w =>
    K x8 w) (
    sFldA Tryd.prog 69 s2 1 w fun x10 w =>
    sIdxA Tryd.prog 67 x10 dim1 w fun x11 w =>
    sLoad Tryd.prog 3 x11 w fun x12 w =>
    K x12 w)

def tree_size.sc : SC := (.seq (.reg (.op 0 (.op 1 .done))) (.seq (.seq (.reg (.op 0 (.op 1 .done))) (.cond (.seq (.reg (.op 0 (.op 1 (.op 2 .done)))) .nop) .nop)) (.seq (.reg (.op 0 (.op 1 (.op 2 (.op 3 (.op 4 .done)))))) .nop)))

theorem tree_size.ok : okC Tryd.f88.ntmps tree_size.sc (bodyOf Tryd.f88) = true := by kernel_rfl

theorem tree_size.eq {K : K1} {s0 dim1 : Value} {w : World} : tree_size K s0 dim1 w = codeS Tryd.prog tree_size.sc (bodyOf Tryd.f88) (argsF 0 [s0, dim1]) w (retQ Tryd.prog Tryd.f88.results.toList K) := by kernel_rfl

theorem tree_size.call {K : K1} {s0 dim1 : Value} {w : World} (h : tree_size K s0 dim1 w) : sCall Tryd.prog 88 [s0, dim1] w K := sCall_code mixed Tryd.func88 (by kernel_rfl) rfl rfl tree_size.ok tree_size.eq h

abbrev tree_size.n : Nat := 88

/-- '(*bodkin tree.Tree).Find$1' -/
def tree_Tree_Find_1 (K : K1) (end0 x1 x2 : Value) (w : World) : Prop :=
  sLoad Tryd.prog 3 x1 w fun x6 w =>
  sBin Tryd.prog .gtr 3 false false end0 x6 w fun x7 w =>
  sIf x7 (
    K (.bool true) w) (
    sLoad Tryd.prog 3 x2 w fun x9 w =>
    sBin Tryd.prog .eql 3 false true x9 (.int .i64 0) w fun x10 w =>
    sIf x10 (
      sLoad Tryd.prog 3 x1 w fun x13 w =>
      sBin Tryd.prog .eql 3 false false end0 x13 w fun x14 w =>
      K x14 w) (
      K (.bool false) w))

def tree_Tree_Find_1.sc : SC := (.seq (.reg (.op 0 .done)) (.seq (.reg (.op 0 (.op 1 (.op 2 (.op 3 (.test 3 (.skip 4 (.skip 5 (.skip 6 (.skip 7 (.skip 8 (.skip 9 (.skip 10 (.op 11 (.op 12 .done))))))))) (.op 4 (.op 5 (.op 6 (.test 6 (.op 7 (.op 8 (.op 9 (.op 10 (.op 11 (.op 12 .done)))))) (.skip 7 (.skip 8 (.skip 9 (.op 10 (.op 11 (.op 12 .done)))))))))))))))) .nop))

theorem tree_Tree_Find_1.ok : okC Tryd.f89.ntmps tree_Tree_Find_1.sc (bodyOf Tryd.f89) = true := by kernel_rfl

theorem tree_Tree_Find_1.eq {K : K1} {end0 x1 x2 : Value} {w : World} : tree_Tree_Find_1 K end0 x1 x2 w = codeS Tryd.prog tree_Tree_Find_1.sc (bodyOf Tryd.f89) (argsF 0 [end0, x1, x2]) w (retQ Tryd.prog Tryd.f89.results.toList K) := by kernel_rfl

theorem tree_Tree_Find_1.call {K : K1} {end0 x1 x2 : Value} {w : World} (h : tree_Tree_Find_1 K end0 x1 x2 w) : sCall Tryd.prog 89 [end0, x1, x2] w K := sCall_code mixed Tryd.func89 (by kernel_rfl) rfl rfl tree_Tree_Find_1.ok tree_Tree_Find_1.eq h

abbrev tree_Tree_Find_1.n : Nat := 89

/-- 'bodkin tree.row' -/
def tree_row (K : K1) (kids0 : Value) (w : World) : Prop :=
  sBuiltin Tryd.prog .len [134] 3 [kids0] w fun x4 w =>
  sBin Tryd.prog .eql 3 false true x4 (.int .i64 0) w fun x6 w =>
  sIf x6 (
    K .nilIface w) (
    sBin Tryd.prog .eql 3 false true x4 (.int .i64 1) w fun x8 w =>
    sIf x8 (
      sIdxA Tryd.prog 134 kids0 (.int .i64 0) w fun x10 w =>
      sLoad Tryd.prog 104 x10 w fun x11 w =>
      K x11 w) (
      sCall Tryd.prog 85 [kids0] w fun x13 w =>
      sIface Tryd.prog 136 x13 w fun x14 w =>
      K x14 w))

def tree_row.sc : SC := (.seq (.reg (.op 0 .done)) (.seq (.seq (.reg (.op 0 (.op 1 .done))) (.sub (.seq (.reg (.op 0 (.op 1 .done))) (.cond (.seq (.reg (.op 0 .done)) .nop) (.seq (.reg (.op 0 (.op 1 .done))) (.cond (.seq (.reg (.op 0 (.op 1 (.op 2 (.op 3 .done))))) .nop) .nop)))))) (.seq (.reg (.op 0 (.op 1 (.op 2 (.op 3 .done))))) .nop)))

theorem tree_row.ok : okC Tryd.f90.ntmps tree_row.sc (bodyOf Tryd.f90) = true := by kernel_rfl

theorem tree_row.eq {K : K1} {kids0 : Value} {w : World} : tree_row K kids0 w = codeS Tryd.prog tree_row.sc (bodyOf Tryd.f90) (argsF 0 [kids0]) w (retQ Tryd.prog Tryd.f90.results.toList K) := by kernel_rfl

theorem tree_row.call {K : K1} {kids0 : Value} {w : World} (h : tree_row K kids0 w) : sCall Tryd.prog 90 [kids0] w K := sCall_code mixed Tryd.func90 (by kernel_rfl) rfl rfl tree_row.ok tree_row.eq h

abbrev tree_row.n : Nat := 90

/-- 'bodkin tree.each' -/
def tree_each_L1 (K : K1) (Nx1 : List Value → World → Prop) (f1 x17 x18 : Value) (x19 : Value) (w : World) : Prop :=
  sBin Tryd.prog .lss 3 false false x19 x18 w fun x20 w =>
  sIf x20 (
    sIdxA Tryd.prog 60 x17 x19 w fun x21 w =>
    sLoad Tryd.prog 71 x21 w fun x22 w =>
    sAlloc Tryd.prog 71 w fun i6 w =>
    sStore Tryd.prog 71 i6 x22 w fun w =>
    sLoad Tryd.prog 71 i6 w fun x24 w =>
    sDyn Tryd.prog f1 [x24] w fun x25 w =>
    sBin Tryd.prog .add 3 false true x19 (.int .i64 1) w fun x26 w =>
    Nx1 [x26] w) (
    K (.tuple #[]) w)

def tree_each_L2 (K : K1) (Nx2 : List Value → World → Prop) (f1 x33 x34 : Value) (x35 : Value) (w : World) : Prop :=
  sBin Tryd.prog .lss 3 false false x35 x34 w fun x36 w =>
  sIf x36 (
    sIdxA Tryd.prog 134 x33 x35 w fun x37 w =>
    sLoad Tryd.prog 104 x37 w fun x38 w =>
    sCall Tryd.prog 91 [x38, f1] w fun x41 w =>
    sBin Tryd.prog .add 3 false true x35 (.int .i64 1) w fun x42 w =>
    Nx2 [x42] w) (
    K (.tuple #[]) w)

def tree_each (K : K1) (n0 f1 : Value) (w : World) : Prop :=
  sAssert Tryd.prog n0 104 107 true w fun x11 w =>
  sExtract x11 1 w fun x12 w =>
  sExtract x11 0 w fun x13 w =>
  sIf x12 (
    sNil x13 w fun x15 w =>
    sFldA Tryd.prog 140 x15 0 w fun x16 w =>
    sLoad Tryd.prog 60 x16 w fun x17 w =>
    sBuiltin Tryd.prog .len [60] 3 [x17] w fun x18 w =>
    LoopS [(.int .i64 0)] 1 8 w fun us _ w Nx1 =>
      tree_each_L1 K Nx1 f1 x17 x18 (hd us) w) (
    sAssert Tryd.prog n0 104 136 true w fun x27 w =>
    sExtract x27 1 w fun x28 w =>
    sExtract x27 0 w fun x29 w =>
    sIf x28 (
      sNil x29 w fun x31 w =>
      sFldA Tryd.prog 142 x31 0 w fun x32 w =>
      sLoad Tryd.prog 134 x32 w fun x33 w =>
      sBuiltin Tryd.prog .len [134] 3 [x33] w fun x34 w =>
      LoopS [(.int .i64 0)] 1 8 w fun us _ w Nx2 =>
        tree_each_L2 K Nx2 f1 x33 x34 (hd us) w) (
      K (.tuple #[]) w))

def tree_each.sc : SC := (.seq (.reg (.op 0 .done)) (.sub (.seq (.reg (.op 0 (.op 1 (.op 2 .done)))) (.cond (.seq (.reg (.op 0 .done)) (.seq (.reg (.op 0 (.op 1 (.op 2 (.op 3 (.op 4 (.op 5 .done))))))) (.sub (.loop [19] [20, 21, 22, 6, 23, 24, 25, 26] (.seq (.reg (.op 0 .done)) (.seq (.cond .nop .nop) (.seq (.sub (.seq (.reg (.op 0 (.op 1 (.op 2 (.op 3 .done))))) (.reg (.op 0 (.op 1 (.op 2 .done)))))) (.reg (.op 0 (.op 1 .done)))))))))) (.seq (.reg (.op 0 (.op 1 (.op 2 .done)))) (.cond (.seq (.reg (.op 0 .done)) (.seq (.reg (.op 0 (.op 1 (.op 2 (.op 3 (.op 4 (.op 5 .done))))))) (.sub (.loop [35] [36, 37, 38, 9, 39, 40, 41, 42] (.seq (.reg (.op 0 .done)) (.seq (.cond .nop .nop) (.seq (.sub (.seq (.reg (.op 0 (.op 1 (.op 2 .done)))) (.reg (.op 0 (.op 1 (.op 2 .done)))))) (.reg (.op 0 (.op 1 .done)))))))))) .nop))))))

theorem tree_each.ok : okC Tryd.f91.ntmps tree_each.sc (bodyOf Tryd.f91) = true := by kernel_rfl

theorem tree_each.eq {K : K1} {n0 f1 : Value} {w : World} : tree_each K n0 f1 w = codeS Tryd.prog tree_each.sc (bodyOf Tryd.f91) (argsF 0 [n0, f1]) w (retQ Tryd.prog Tryd.f91.results.toList K) := by kernel_rfl

theorem tree_each.call {K : K1} {n0 f1 : Value} {w : World} (h : tree_each K n0 f1 w) : sCall Tryd.prog 91 [n0, f1] w K := sCall_code mixed Tryd.func91 (by kernel_rfl) rfl rfl tree_each.ok tree_each.eq h

abbrev tree_each.n : Nat := 91

/-- '(*bodkin tree.Tree).Items$1' -/
def tree_Tree_Items_1 (K : K1) (i0 x1 : Value) (w : World) : Prop :=
  sBox Tryd.prog 71 i0 w fun i2 w =>
  sLoad Tryd.prog 60 x1 w fun x3 w =>
  sLoad Tryd.prog 71 i2 w fun x4 w =>
  sBuildSlice Tryd.prog 60 1 [(0, x4)] w fun x5 w =>
  sBuiltin Tryd.prog .append [60, 60] 60 [x3, x5] w fun x6 w =>
  sStore Tryd.prog 60 x1 x6 w fun w =>
  K (.tuple #[]) w

def tree_Tree_Items_1.sc : SC := (.seq (.reg (.op 0 .done)) (.reg (.op 0 (.op 1 (.op 2 (.op 3 (.op 4 .done)))))))

theorem tree_Tree_Items_1.ok : okC Tryd.f92.ntmps tree_Tree_Items_1.sc (bodyOf Tryd.f92) = true := by kernel_rfl

theorem tree_Tree_Items_1.eq {K : K1} {i0 x1 : Value} {w : World} : tree_Tree_Items_1 K i0 x1 w = codeS Tryd.prog tree_Tree_Items_1.sc (bodyOf Tryd.f92) (argsF 0 [i0, x1]) w (retQ Tryd.prog Tryd.f92.results.toList K) := by kernel_rfl

theorem tree_Tree_Items_1.call {K : K1} {i0 x1 : Value} {w : World} (h : tree_Tree_Items_1 K i0 x1 w) : sCall Tryd.prog 92 [i0, x1] w K := sCall_code mixed Tryd.func92 (by kernel_rfl) rfl rfl tree_Tree_Items_1.ok tree_Tree_Items_1.eq h

abbrev tree_Tree_Items_1.n : Nat := 92

/-- 'bodkin tree.raise' -/
def tree_raise (K : K1) (kids0 : Value) (w : World) : Prop :=
  sBuiltin Tryd.prog .len [134] 3 [kids0] w fun x5 w =>
  sBin Tryd.prog .leq 3 false true x5 (.int .i64 8) w fun x6 w =>
  sIf x6 (
    sCall Tryd.prog 85 [kids0] w fun x8 w =>
    sIface Tryd.prog 136 x8 w fun x9 w =>
    sBuildSlice Tryd.prog 134 1 [(0, x9)] w fun x10 w =>
    K x10 w) (
    sBuiltin Tryd.prog .len [134] 3 [kids0] w fun x12 w =>
    sBin Tryd.prog .quo 3 false true x12 (.int .i64 2) w fun x13 w =>
    DrawS w fun C w =>
    stillS C w (fun w k => sSlice Tryd.prog 134 kids0 none (some x13) (some x13) w k) fun x17 =>
    stillS C w (fun w k => sSlice Tryd.prog 134 kids0 (some x13) none none w k) fun x22 =>
    sCall Tryd.prog 85 [x17] w fun x18 w => C w ∧
    stillS C w (fun w k => sIface Tryd.prog 136 x18 w k) fun x19 =>
    sCall Tryd.prog 85 [x22] w fun x23 w => C w ∧
    stillS C w (fun w k => sIface Tryd.prog 136 x23 w k) fun x24 =>
    sBuildSlice Tryd.prog 134 2 [(0, x19), (1, x24)] w fun x25 w => C w ∧
    K x25 w)

def tree_raise.sc : SC := (.seq (.reg (.op 0 .done)) (.seq (.seq (.reg (.op 0 (.op 1 (.op 2 .done)))) (.cond (.seq (.reg (.op 0 (.op 1 (.op 2 (.op 3 (.op 4 .done)))))) .nop) .nop)) (.seq (.reg (.op 0 (.op 1 (.op 2 (.op 3 .done))))) (.seq (.draw (.op 0 (.op 1 (.op 2 (.op 3 (.op 6 (.op 7 (.op 8 (.op 4 (.op 5 (.op 9 (.op 10 (.op 11 (.op 12 .done)))))))))))))) .nop))))

theorem tree_raise.ok : okC Tryd.f96.ntmps tree_raise.sc (bodyOf Tryd.f96) = true := by kernel_rfl

theorem tree_raise.eq {K : K1} {kids0 : Value} {w : World} : tree_raise K kids0 w = codeS Tryd.prog tree_raise.sc (bodyOf Tryd.f96) (argsF 0 [kids0]) w (retQ Tryd.prog Tryd.f96.results.toList K) := by kernel_rfl

theorem tree_raise.call {K : K1} {kids0 : Value} {w : World} (h : tree_raise K kids0 w) : sCall Tryd.prog 96 [kids0] w K := sCall_code mixed Tryd.func96 (by kernel_rfl) rfl rfl tree_raise.ok tree_raise.eq h

abbrev tree_raise.n : Nat := 96

/-- 'bodkin tree.put' -/
def tree_put (K : K1) (a0 b1 : Value) (w : World) : Prop :=
  sBuiltin Tryd.prog .len [134] 3 [a0] w fun x7 w =>
  sBuiltin Tryd.prog .len [134] 3 [b1] w fun x9 w =>
  sBin Tryd.prog .add 3 false false x7 x9 w fun x10 w =>
  sMake Tryd.prog 134 (.int .i64 0) x10 w fun x11 w =>
  sBuiltin Tryd.prog .append [134, 134] 134 [x11, a0] w fun x14 w =>
  sBuiltin Tryd.prog .append [134, 134] 134 [x14, b1] w fun x17 w =>
  K x17 w

def tree_put.sc : SC := (.seq (.reg (.op 0 .done)) (.seq (.reg (.op 0 (.op 1 (.op 2 (.op 3 (.op 4 (.op 5 (.op 6 .done)))))))) (.seq (.reg (.op 0 (.op 1 (.op 2 (.op 3 .done))))) (.seq (.reg (.op 0 (.op 1 (.op 2 (.op 3 .done))))) .nop))))

theorem tree_put.ok : okC Tryd.f97.ntmps tree_put.sc (bodyOf Tryd.f97) = true := by kernel_rfl

theorem tree_put.eq {K : K1} {a0 b1 : Value} {w : World} : tree_put K a0 b1 w = codeS Tryd.prog tree_put.sc (bodyOf Tryd.f97) (argsF 0 [a0, b1]) w (retQ Tryd.prog Tryd.f97.results.toList K) := by kernel_rfl

theorem tree_put.call {K : K1} {a0 b1 : Value} {w : World} (h : tree_put K a0 b1 w) : sCall Tryd.prog 97 [a0, b1] w K := sCall_code mixed Tryd.func97 (by kernel_rfl) rfl rfl tree_put.ok tree_put.eq h

abbrev tree_put.n : Nat := 97

/-- 'bodkin tree.spread' -/
def tree_spread (K : K1) (l0 : Value) (w : World) : Prop :=
  sBuiltin Tryd.prog .len [60] 3 [l0] w fun x5 w =>
  sBin Tryd.prog .leq 3 false true x5 (.int .i64 8) w fun x6 w =>
  sIf x6 (
    sCall Tryd.prog 65 [l0] w fun x8 w =>
    sIface Tryd.prog 107 x8 w fun x9 w =>
    sBuildSlice Tryd.prog 134 1 [(0, x9)] w fun x10 w =>
    K x10 w) (
    sBuiltin Tryd.prog .len [60] 3 [l0] w fun x12 w =>
    sBin Tryd.prog .quo 3 false true x12 (.int .i64 2) w fun x13 w =>
    DrawS w fun C w =>
    stillS C w (fun w k => sSlice Tryd.prog 60 l0 none (some x13) (some x13) w k) fun x17 =>
    stillS C w (fun w k => sSlice Tryd.prog 60 l0 (some x13) none none w k) fun x22 =>
    sCall Tryd.prog 65 [x17] w fun x18 w => C w ∧
    stillS C w (fun w k => sIface Tryd.prog 107 x18 w k) fun x19 =>
    sCall Tryd.prog 65 [x22] w fun x23 w => C w ∧
    stillS C w (fun w k => sIface Tryd.prog 107 x23 w k) fun x24 =>
    sBuildSlice Tryd.prog 134 2 [(0, x19), (1, x24)] w fun x25 w => C w ∧
    K x25 w)

def tree_spread.sc : SC := (.seq (.reg (.op 0 .done)) (.seq (.seq (.reg (.op 0 (.op 1 (.op 2 .done)))) (.cond (.seq (.reg (.op 0 (.op 1 (.op 2 (.op 3 (.op 4 .done)))))) .nop) .nop)) (.seq (.reg (.op 0 (.op 1 (.op 2 (.op 3 .done))))) (.seq (.draw (.op 0 (.op 1 (.op 2 (.op 3 (.op 6 (.op 7 (.op 8 (.op 4 (.op 5 (.op 9 (.op 10 (.op 11 (.op 12 .done)))))))))))))) .nop))))

theorem tree_spread.ok : okC Tryd.f98.ntmps tree_spread.sc (bodyOf Tryd.f98) = true := by kernel_rfl

theorem tree_spread.eq {K : K1} {l0 : Value} {w : World} : tree_spread K l0 w = codeS Tryd.prog tree_spread.sc (bodyOf Tryd.f98) (argsF 0 [l0]) w (retQ Tryd.prog Tryd.f98.results.toList K) := by kernel_rfl

theorem tree_spread.call {K : K1} {l0 : Value} {w : World} (h : tree_spread K l0 w) : sCall Tryd.prog 98 [l0] w K := sCall_code mixed Tryd.func98 (by kernel_rfl) rfl rfl tree_spread.ok tree_spread.eq h

abbrev tree_spread.n : Nat := 98

/-- 'bodkin utf.right' -/
def utf_right (K : K1) (r0 : Value) (w : World) : Prop :=
  sBin Tryd.prog .geq 21 false true r0 (.int .i32 0) w fun x4 w =>
  sIf x4 (
    sIdxA Tryd.prog 157 (.pointer (some ⟨1, 0, none⟩)) (.int .i64 3) w fun x7 w =>
    sLoad Tryd.prog 21 x7 w fun x8 w =>
    sBin Tryd.prog .leq 21 false false r0 x8 w fun x9 w =>
    sIf x9 (
      sBin Tryd.prog .lss 21 false true r0 (.int .i32 55296) w fun x13 w =>
      sIf x13 (
        K (.bool true) w) (
        sBin Tryd.prog .gtr 21 false true r0 (.int .i32 57343) w fun x16 w =>
        K x16 w)) (
      K (.bool false) w)) (
    K (.bool false) w)

def utf_right.sc : SC := (.seq (.reg (.op 0 .done)) (.seq (.reg (.op 0 (.op 1 (.op 2 (.test 2 (.op 3 (.op 4 (.op 5 (.op 6 (.op 7 (.op 8 (.test 8 (.op 9 (.op 10 (.op 11 (.test 11 (.skip 12 (.skip 13 (.op 14 (.op 15 (.op 16 .done))))) (.op 12 (.op 13 (.op 14 (.op 15 (.op 16 .done))))))))) (.skip 9 (.skip 10 (.skip 11 (.skip 12 (.skip 13 (.skip 14 (.op 15 (.op 16 .done))))))))))))))) (.skip 3 (.skip 4 (.skip 5 (.skip 6 (.op 7 (.op 8 (.know 8 false (.skip 9 (.skip 10 (.skip 11 (.skip 12 (.skip 13 (.skip 14 (.op 15 (.op 16 .done)))))))))))))))))))) .nop))

theorem utf_right.ok : okC Tryd.f99.ntmps utf_right.sc (bodyOf Tryd.f99) = true := by kernel_rfl

theorem utf_right.eq {K : K1} {r0 : Value} {w : World} : utf_right K r0 w = codeS Tryd.prog utf_right.sc (bodyOf Tryd.f99) (argsF 0 [r0]) w (retQ Tryd.prog Tryd.f99.results.toList K) := by kernel_rfl

theorem utf_right.call {K : K1} {r0 : Value} {w : World} (h : utf_right K r0 w) : sCall Tryd.prog 99 [r0] w K := sCall_code mixed Tryd.func99 (by kernel_rfl) rfl rfl utf_right.ok utf_right.eq h

abbrev utf_right.n : Nat := 99

end S
end Go.Proofs.YtjolodlmnffkeaaDoor

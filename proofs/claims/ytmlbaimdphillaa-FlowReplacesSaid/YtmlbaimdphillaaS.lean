/- The functions of this seat, their code without slots, and that a call of each is what its code says: by program (lift.py). No conditions. -/
import Derived.Test.YtmlbaimdphillaaS1
import Derived.Test.YtmlbaimdphillaaRows
import Derived.KernelRfl
namespace Go.Proofs.Ytmlbaimdphillaa
open Go Go.Lift
namespace S
set_option maxRecDepth 10000
set_option linter.unusedVariables false
/-- 'bodkin bodkinlaw05.ref' -/
def bodkinlaw05_ref (K : K1) (i0 : Value) (w : World) : Prop :=
  sBox Try.prog 51 i0 w fun i1 w =>
  sAlloc Try.prog 105 w fun x2 w =>
  sFldA Try.prog 51 i1 0 w fun x3 w =>
  sLoad Try.prog 3 x3 w fun x4 w =>
  sFldA Try.prog 51 i1 1 w fun x5 w =>
  sLoad Try.prog 3 x5 w fun x6 w =>
  sFldA Try.prog 51 i1 2 w fun x7 w =>
  sLoad Try.prog 30 x7 w fun x8 w =>
  sFldA Try.prog 51 i1 3 w fun x9 w =>
  sLoad Try.prog 3 x9 w fun x10 w =>
  sFldA Try.prog 51 i1 4 w fun x11 w =>
  sLoad Try.prog 9 x11 w fun x12 w =>
  sBuild Try.prog 105 [(0, x4), (1, x6), (2, x8), (3, x10), (4, x12)] w fun x13 w =>
  sStore Try.prog 105 x2 x13 w fun w =>
  sLoad Try.prog 105 x2 w fun v w' => w' = w ∧ K v w

def bodkinlaw05_ref.sc : SC := (.seq (.reg (.op 0 (.op 1 .done))) (.seq (.reg (.op 0 (.op 1 (.op 2 (.op 3 (.op 4 (.op 5 (.op 6 (.op 7 (.op 8 (.op 9 (.op 10 (.op 11 .done))))))))))))) .nop))

theorem bodkinlaw05_ref.ok : okC Try.f56.ntmps bodkinlaw05_ref.sc (bodyOf Try.f56) = true := by kernel_rfl

theorem bodkinlaw05_ref.eq {K : K1} {i0 : Value} {w : World} : bodkinlaw05_ref K i0 w = codeS Try.prog bodkinlaw05_ref.sc (bodyOf Try.f56) (argsF 0 [i0]) w (retQ Try.prog Try.f56.results.toList K) := by kernel_rfl

theorem bodkinlaw05_ref.call {K : K1} {i0 : Value} {w : World} (h : bodkinlaw05_ref K i0 w) : sCall Try.prog 56 [i0] w K := sCall_code mixed Try.func56 (by kernel_rfl) rfl rfl bodkinlaw05_ref.ok bodkinlaw05_ref.eq h

abbrev bodkinlaw05_ref.n : Nat := 56

/-- 'bodkin item.Check' -/
def item_Check_L1 (K : K1) (Nx1 : List Value → World → Prop) (x10 : Value) (ok3 x11 : Value) (w : World) : Prop :=
  sBin Try.prog .lss 3 false true x11 (.int .i64 3) w fun x12 w =>
  sIf x12 (
    sIdx Try.prog 30 x10 x11 w fun x13 w =>
    sIf ok3 (
      sCall Try.prog 93 [x13] w fun x17 w =>
      sBin Try.prog .add 3 false true x11 (.int .i64 1) w fun x19 w =>
      Nx1 [x17, x19] w) (
      sBin Try.prog .add 3 false true x11 (.int .i64 1) w fun x19_1 w =>
      Nx1 [(.bool false), x19_1] w)) (
    sUn Try.prog .not ok3 w fun x21 w =>
    sIf x21 (
      K (.int .i64 1) w) (
      K (.int .i64 0) w))

def item_Check (K : K1) (i0 : Value) (w : World) : Prop :=
  sBox Try.prog 51 i0 w fun i1 w =>
  sFldA Try.prog 51 i1 3 w fun x6 w =>
  sLoad Try.prog 3 x6 w fun x7 w =>
  sCall Try.prog 93 [x7] w fun x8 w =>
  sFldA Try.prog 51 i1 2 w fun x9 w =>
  sLoad Try.prog 30 x9 w fun x10 w =>
  LoopS [x8, (.int .i64 0)] 2 9 w fun us _ w Nx1 =>
    item_Check_L1 K Nx1 x10 (hd us) (hd (tl us)) w

def item_Check.sc : SC := (.seq (.reg (.op 0 (.op 1 .done))) (.seq (.reg (.op 0 (.op 1 (.op 2 (.op 3 .done))))) (.seq (.seq (.reg (.op 0 (.op 1 (.op 2 .done)))) (.sub (.loop [3, 11] [12, 13, 5, 14, 15, 16, 17, 18, 19] (.seq (.reg (.op 0 .done)) (.seq (.cond .nop .nop) (.seq (.sub (.seq (.reg (.op 0 (.op 1 .done))) (.reg (.op 0 (.op 1 (.test 1 (.op 2 (.op 3 (.op 4 (.op 5 .done)))) (.skip 2 (.skip 3 (.op 4 (.op 5 .done)))))))))) (.reg (.op 0 (.op 1 .done))))))))) (.seq (.seq (.reg (.op 0 (.op 1 .done))) (.cond (.seq (.reg (.op 0 .done)) .nop) .nop)) (.seq (.reg (.op 0 .done)) .nop)))))

theorem item_Check.ok : okC Try.f57.ntmps item_Check.sc (bodyOf Try.f57) = true := by kernel_rfl

theorem item_Check.eq {K : K1} {i0 : Value} {w : World} : item_Check K i0 w = codeS Try.prog item_Check.sc (bodyOf Try.f57) (argsF 0 [i0]) w (retQ Try.prog Try.f57.results.toList K) := by kernel_rfl

theorem item_Check.call {K : K1} {i0 : Value} {w : World} (h : item_Check K i0 w) : sCall Try.prog 57 [i0] w K := sCall_code mixed Try.func57 (by kernel_rfl) rfl rfl item_Check.ok item_Check.eq h

abbrev item_Check.n : Nat := 57

/-- 'bodkin tree.join' -/
def tree_join (K : K1) (a0 b1 : Value) (w : World) : Prop :=
  sBin Try.prog .eql 107 false true a0 .nilIface w fun x8 w =>
  sIf x8 (
    K b1 w) (
    sBin Try.prog .eql 107 false true b1 .nilIface w fun x12 w =>
    sIf x12 (
      K a0 w) (
      sCall Try.prog 94 [a0, b1] w fun x16 w =>
      sBuiltin Try.prog .len [118] 3 [x16] w fun x18 w =>
      sBin Try.prog .eql 3 false true x18 (.int .i64 1) w fun x19 w =>
      sIf x19 (
        sIdxA Try.prog 118 x16 (.int .i64 0) w fun x21 w =>
        sLoad Try.prog 107 x21 w fun x22 w =>
        K x22 w) (
        sCall Try.prog 95 [x16] w fun x24 w =>
        sIface Try.prog 116 x24 w fun x25 w =>
        K x25 w)))

def tree_join.sc : SC := (.seq (.reg (.op 0 .done)) (.seq (.sub (.seq (.reg (.op 0 (.op 1 (.op 2 .done)))) (.cond (.seq (.reg (.op 0 (.op 1 .done))) .nop) (.seq (.reg (.op 0 (.op 1 (.op 2 .done)))) (.cond (.seq (.reg (.op 0 (.op 1 .done))) .nop) .nop))))) (.seq (.reg (.op 0 (.op 1 (.op 2 (.op 3 .done))))) (.seq (.seq (.reg (.op 0 (.op 1 (.op 2 .done)))) (.cond (.seq (.reg (.op 0 (.op 1 (.op 2 (.op 3 .done))))) .nop) .nop)) (.seq (.reg (.op 0 (.op 1 (.op 2 (.op 3 .done))))) .nop)))))

theorem tree_join.ok : okC Try.f58.ntmps tree_join.sc (bodyOf Try.f58) = true := by kernel_rfl

theorem tree_join.eq {K : K1} {a0 b1 : Value} {w : World} : tree_join K a0 b1 w = codeS Try.prog tree_join.sc (bodyOf Try.f58) (argsF 0 [a0, b1]) w (retQ Try.prog Try.f58.results.toList K) := by kernel_rfl

theorem tree_join.call {K : K1} {a0 b1 : Value} {w : World} (h : tree_join K a0 b1 w) : sCall Try.prog 58 [a0, b1] w K := sCall_code mixed Try.func58 (by kernel_rfl) rfl rfl tree_join.ok tree_join.eq h

abbrev tree_join.n : Nat := 58

/-- 'bodkin tree.leafOf' -/
def tree_leafOf (K : K1) (l0 : Value) (w : World) : Prop :=
  sCall Try.prog 96 [l0] w fun x5 w =>
  sBuild Try.prog 125 [(0, l0), (1, x5)] w fun x6 w =>
  sBox Try.prog 125 x6 w fun x7 w =>
  K x7 w

def tree_leafOf.sc : SC := (.seq (.reg (.op 0 .done)) (.seq (.reg (.op 0 (.op 1 (.op 2 (.op 3 (.op 4 (.op 5 .done))))))) .nop))

theorem tree_leafOf.ok : okC Try.f59.ntmps tree_leafOf.sc (bodyOf Try.f59) = true := by kernel_rfl

theorem tree_leafOf.eq {K : K1} {l0 : Value} {w : World} : tree_leafOf K l0 w = codeS Try.prog tree_leafOf.sc (bodyOf Try.f59) (argsF 0 [l0]) w (retQ Try.prog Try.f59.results.toList K) := by kernel_rfl

theorem tree_leafOf.call {K : K1} {l0 : Value} {w : World} (h : tree_leafOf K l0 w) : sCall Try.prog 59 [l0] w K := sCall_code mixed Try.func59 (by kernel_rfl) rfl rfl tree_leafOf.ok tree_leafOf.eq h

abbrev tree_leafOf.n : Nat := 59

/-- 'bodkin tree.size' -/
def tree_size (K : K1) (s0 dim1 : Value) (w : World) : Prop :=
  sBox Try.prog 32 s0 w fun s2 w =>
  sBin Try.prog .eql 3 false true dim1 (.int .i64 3) w fun x6 w =>
  sIf x6 (
    sFldA Try.prog 32 s2 0 w fun x7 w =>
    sLoad Try.prog 3 x7 w fun x8 w =>
    K x8 w) (
    sFldA Try.prog 32 s2 1 w fun x10 w =>
    sIdxA Try.prog 30 x10 dim1 w fun x11 w =>
    sLoad Try.prog 3 x11 w fun x12 w =>
    K x12 w)

def tree_size.sc : SC := (.seq (.reg (.op 0 (.op 1 .done))) (.seq (.seq (.reg (.op 0 (.op 1 .done))) (.cond (.seq (.reg (.op 0 (.op 1 (.op 2 .done)))) .nop) .nop)) (.seq (.reg (.op 0 (.op 1 (.op 2 (.op 3 (.op 4 .done)))))) .nop)))

theorem tree_size.ok : okC Try.f60.ntmps tree_size.sc (bodyOf Try.f60) = true := by kernel_rfl

theorem tree_size.eq {K : K1} {s0 dim1 : Value} {w : World} : tree_size K s0 dim1 w = codeS Try.prog tree_size.sc (bodyOf Try.f60) (argsF 0 [s0, dim1]) w (retQ Try.prog Try.f60.results.toList K) := by kernel_rfl

theorem tree_size.call {K : K1} {s0 dim1 : Value} {w : World} (h : tree_size K s0 dim1 w) : sCall Try.prog 60 [s0, dim1] w K := sCall_code mixed Try.func60 (by kernel_rfl) rfl rfl tree_size.ok tree_size.eq h

abbrev tree_size.n : Nat := 60

/-- '(*bodkin tree.Tree).Find$1' -/
def tree_Tree_Find_1 (K : K1) (end0 x1 x2 : Value) (w : World) : Prop :=
  sLoad Try.prog 3 x1 w fun x6 w =>
  sBin Try.prog .gtr 3 false false end0 x6 w fun x7 w =>
  sIf x7 (
    K (.bool true) w) (
    sLoad Try.prog 3 x2 w fun x9 w =>
    sBin Try.prog .eql 3 false true x9 (.int .i64 0) w fun x10 w =>
    sIf x10 (
      sLoad Try.prog 3 x1 w fun x13 w =>
      sBin Try.prog .eql 3 false false end0 x13 w fun x14 w =>
      K x14 w) (
      K (.bool false) w))

def tree_Tree_Find_1.sc : SC := (.seq (.reg (.op 0 .done)) (.seq (.reg (.op 0 (.op 1 (.op 2 (.op 3 (.test 3 (.skip 4 (.skip 5 (.skip 6 (.skip 7 (.skip 8 (.skip 9 (.skip 10 (.op 11 (.op 12 .done))))))))) (.op 4 (.op 5 (.op 6 (.test 6 (.op 7 (.op 8 (.op 9 (.op 10 (.op 11 (.op 12 .done)))))) (.skip 7 (.skip 8 (.skip 9 (.op 10 (.op 11 (.op 12 .done)))))))))))))))) .nop))

theorem tree_Tree_Find_1.ok : okC Try.f61.ntmps tree_Tree_Find_1.sc (bodyOf Try.f61) = true := by kernel_rfl

theorem tree_Tree_Find_1.eq {K : K1} {end0 x1 x2 : Value} {w : World} : tree_Tree_Find_1 K end0 x1 x2 w = codeS Try.prog tree_Tree_Find_1.sc (bodyOf Try.f61) (argsF 0 [end0, x1, x2]) w (retQ Try.prog Try.f61.results.toList K) := by kernel_rfl

theorem tree_Tree_Find_1.call {K : K1} {end0 x1 x2 : Value} {w : World} (h : tree_Tree_Find_1 K end0 x1 x2 w) : sCall Try.prog 61 [end0, x1, x2] w K := sCall_code mixed Try.func61 (by kernel_rfl) rfl rfl tree_Tree_Find_1.ok tree_Tree_Find_1.eq h

abbrev tree_Tree_Find_1.n : Nat := 61

/-- '(*bodkin tree.Tree).top' -/
def tree_Tree_top (K : K1) (t0 : Value) (w : World) : Prop :=
  sBin Try.prog .eql 26 false true t0 (.pointer none) w fun x4 w =>
  sIf x4 (
    K .nilIface w) (
    sNil t0 w fun x6 w =>
    sFldA Try.prog 113 x6 0 w fun x7 w =>
    sLoad Try.prog 107 x7 w fun x8 w =>
    K x8 w)

def tree_Tree_top.sc : SC := (.seq (.reg (.op 0 .done)) (.seq (.seq (.reg (.op 0 (.op 1 .done))) (.cond (.seq (.reg (.op 0 .done)) .nop) .nop)) (.seq (.reg (.op 0 (.op 1 (.op 2 (.op 3 (.op 4 .done)))))) .nop)))

theorem tree_Tree_top.ok : okC Try.f62.ntmps tree_Tree_top.sc (bodyOf Try.f62) = true := by kernel_rfl

theorem tree_Tree_top.eq {K : K1} {t0 : Value} {w : World} : tree_Tree_top K t0 w = codeS Try.prog tree_Tree_top.sc (bodyOf Try.f62) (argsF 0 [t0]) w (retQ Try.prog Try.f62.results.toList K) := by kernel_rfl

theorem tree_Tree_top.call {K : K1} {t0 : Value} {w : World} (h : tree_Tree_top K t0 w) : sCall Try.prog 62 [t0] w K := sCall_code mixed Try.func62 (by kernel_rfl) rfl rfl tree_Tree_top.ok tree_Tree_top.eq h

abbrev tree_Tree_top.n : Nat := 62

/-- 'bodkin item.Add' -/
def item_Add_J2 (K : K1) (a2 b3 s5 x4 : Value) (x47 : Value) (w : World) : Prop :=
  sIf x47 (
    DrawS w fun C w =>
    stillS C w (fun w k => sFldA Try.prog 32 b3 2 w k) fun x48 =>
    stillS C w (fun w k => sLoad Try.prog 3 x48 w k) fun x49 =>
    stillS C w (fun w k => sFldA Try.prog 32 a2 0 w k) fun x50 =>
    stillS C w (fun w k => sLoad Try.prog 3 x50 w k) fun x51 =>
    stillS C w (fun w k => sFldA Try.prog 32 b3 3 w k) fun x52 =>
    stillS C w (fun w k => sLoad Try.prog 3 x52 w k) fun x53 =>
    stillS C w (fun w k => sBin Try.prog .add 3 false false x51 x53 w k) fun x54 =>
    stillS C w (fun w k => sFldA Try.prog 32 s5 2 w k) fun x55 =>
    sStore Try.prog 3 x55 x49 w fun w => C w ∧
    stillS C w (fun w k => sFldA Try.prog 32 s5 3 w k) fun x56 =>
    sStore Try.prog 3 x56 x54 w fun w =>
    sLoad Try.prog 32 s5 w fun x57 w =>
    sStore Try.prog 32 x4 x57 w fun w =>
    sLoad Try.prog 32 x4 w fun v w' => w' = w ∧ K v w) (
    sLoad Try.prog 32 s5 w fun x57_1 w =>
    sStore Try.prog 32 x4 x57_1 w fun w =>
    sLoad Try.prog 32 x4 w fun v w' => w' = w ∧ K v w)

def item_Add_L1 (K : K1) (Nx1 : List Value → World → Prop) (a2 b3 s5 x4 : Value) (x17 : Value) (w : World) : Prop :=
  sBin Try.prog .lss 3 false true x17 (.int .i64 3) w fun x18 w =>
  sIf x18 (
    DrawS w fun C w =>
    stillS C w (fun w k => sFldA Try.prog 32 a2 1 w k) fun x22 =>
    stillS C w (fun w k => sIdxA Try.prog 30 x22 x17 w k) fun x23 =>
    stillS C w (fun w k => sLoad Try.prog 3 x23 w k) fun x24 =>
    stillS C w (fun w k => sFldA Try.prog 32 b3 1 w k) fun x26 =>
    stillS C w (fun w k => sIdxA Try.prog 30 x26 x17 w k) fun x27 =>
    stillS C w (fun w k => sLoad Try.prog 3 x27 w k) fun x28 =>
    stillS C w (fun w k => sBin Try.prog .add 3 false false x24 x28 w k) fun x29 =>
    stillS C w (fun w k => sFldA Try.prog 32 s5 1 w k) fun x30 =>
    stillS C w (fun w k => sIdxA Try.prog 30 x30 x17 w k) fun x31 =>
    sStore Try.prog 3 x31 x29 w fun w =>
    sBin Try.prog .add 3 false true x17 (.int .i64 1) w fun x32 w =>
    Nx1 [x32] w) (
    JoinS 1 14 (fun M2 =>
      sFldA Try.prog 32 b3 0 w fun x33 w =>
      sLoad Try.prog 3 x33 w fun x34 w =>
      sBin Try.prog .gtr 3 false true x34 (.int .i64 0) w fun x35 w =>
      sIf x35 (
        sFldA Try.prog 32 a2 0 w fun x37 w =>
        sLoad Try.prog 3 x37 w fun x38 w =>
        sBin Try.prog .eql 3 false true x38 (.int .i64 0) w fun x39 w =>
        sIf x39 (
          M2 [(.bool true)] w) (
          sFldA Try.prog 32 b3 2 w fun x41 w =>
          sLoad Try.prog 3 x41 w fun x42 w =>
          sFldA Try.prog 32 a2 2 w fun x43 w =>
          sLoad Try.prog 3 x43 w fun x44 w =>
          sBin Try.prog .gtr 3 false false x42 x44 w fun x45 w =>
          M2 [x45] w)) (
        M2 [(.bool false)] w)) fun us _ w =>
      item_Add_J2 K a2 b3 s5 x4 (hd us) w)

def item_Add (K : K1) (a0 b1 : Value) (w : World) : Prop :=
  sBox Try.prog 32 a0 w fun a2 w =>
  sBox Try.prog 32 b1 w fun b3 w =>
  sAlloc Try.prog 32 w fun x4 w =>
  sFldA Try.prog 32 a2 0 w fun x7 w =>
  sLoad Try.prog 3 x7 w fun x8 w =>
  sFldA Try.prog 32 b3 0 w fun x9 w =>
  sLoad Try.prog 3 x9 w fun x10 w =>
  sBin Try.prog .add 3 false false x8 x10 w fun x11 w =>
  sFldA Try.prog 32 a2 2 w fun x12 w =>
  sLoad Try.prog 3 x12 w fun x13 w =>
  sFldA Try.prog 32 a2 3 w fun x14 w =>
  sLoad Try.prog 3 x14 w fun x15 w =>
  sBuild Try.prog 32 [(0, x11), (2, x13), (3, x15)] w fun x16 w =>
  sAlloc Try.prog 32 w fun s5 w =>
  sStore Try.prog 32 s5 x16 w fun w =>
  LoopS [(.int .i64 0)] 1 16 w fun us _ w Nx1 =>
    item_Add_L1 K Nx1 a2 b3 s5 x4 (hd us) w

def item_Add.sc : SC := (.seq (.reg (.op 0 (.op 1 (.op 2 .done)))) (.seq (.reg (.op 0 (.op 1 (.op 2 (.op 3 (.op 4 (.op 5 (.op 6 (.op 7 (.op 8 (.op 9 (.op 10 (.op 11 .done))))))))))))) (.seq (.seq (.reg (.op 0 .done)) (.sub (.loop [17] [18, 19, 6, 20, 21, 22, 23, 24, 25, 26, 27, 28, 29, 30, 31, 32] (.seq (.reg (.op 0 .done)) (.seq (.cond .nop .nop) (.seq (.sub (.seq (.reg (.op 0 (.op 1 .done))) (.draw (.op 0 (.op 1 (.op 2 (.op 3 (.op 4 (.op 5 (.op 6 (.op 7 (.op 8 (.op 9 (.op 10 (.op 11 (.fin 12 .done)))))))))))))))) (.reg (.op 0 (.op 1 .done))))))))) (.seq (.join [47] [33, 34, 35, 36, 37, 38, 39, 40, 41, 42, 43, 44, 45, 46] (.reg (.op 0 (.op 1 (.op 2 (.op 3 (.test 3 (.op 4 (.op 5 (.op 6 (.op 7 (.test 7 (.skip 8 (.skip 9 (.skip 10 (.skip 11 (.skip 12 (.op 13 (.op 14 .done))))))) (.op 8 (.op 9 (.op 10 (.op 11 (.op 12 (.op 13 (.op 14 .done)))))))))))) (.skip 4 (.skip 5 (.skip 6 (.skip 7 (.skip 8 (.skip 9 (.skip 10 (.skip 11 (.skip 12 (.skip 13 (.op 14 .done))))))))))))))))) (.cond (.draw (.op 0 (.op 1 (.op 2 (.op 3 (.op 4 (.op 5 (.op 6 (.op 7 (.op 8 (.op 9 (.fin 10 .done)))))))))))) .nop)) (.seq (.reg (.op 0 (.op 1 .done))) .nop)))))

theorem item_Add.ok : okC Try.f63.ntmps item_Add.sc (bodyOf Try.f63) = true := by kernel_rfl

theorem item_Add.eq {K : K1} {a0 b1 : Value} {w : World} : item_Add K a0 b1 w = codeS Try.prog item_Add.sc (bodyOf Try.f63) (argsF 0 [a0, b1]) w (retQ Try.prog Try.f63.results.toList K) := by kernel_rfl

theorem item_Add.call {K : K1} {a0 b1 : Value} {w : World} (h : item_Add K a0 b1 w) : sCall Try.prog 63 [a0, b1] w K := sCall_code mixed Try.func63 (by kernel_rfl) rfl rfl item_Add.ok item_Add.eq h

abbrev item_Add.n : Nat := 63

/-- 'bodkin tree.sumOf' -/
def tree_sumOf (K : K1) (n0 : Value) (w : World) : Prop :=
  sAlloc Try.prog 32 w fun x2 w =>
  sAssert Try.prog n0 107 110 true w fun x6 w =>
  sExtract x6 1 w fun x7 w =>
  sExtract x6 0 w fun x8 w =>
  sIf x7 (
    sNil x8 w fun x10 w =>
    sFldA Try.prog 125 x10 1 w fun x11 w =>
    sLoad Try.prog 32 x11 w fun x12 w =>
    sStore Try.prog 32 x2 x12 w fun w =>
    sLoad Try.prog 32 x2 w fun v w' => w' = w ∧ K v w) (
    sAssert Try.prog n0 107 116 true w fun x13 w =>
    sExtract x13 1 w fun x14 w =>
    sExtract x13 0 w fun x15 w =>
    sIf x14 (
      sNil x15 w fun x17 w =>
      sFldA Try.prog 120 x17 2 w fun x18 w =>
      sLoad Try.prog 32 x18 w fun x19 w =>
      sStore Try.prog 32 x2 x19 w fun w =>
      sLoad Try.prog 32 x2 w fun v w' => w' = w ∧ K v w) (
      sBuild Try.prog 32 [] w fun x20 w =>
      sStore Try.prog 32 x2 x20 w fun w =>
      sLoad Try.prog 32 x2 w fun v w' => w' = w ∧ K v w))

def tree_sumOf.sc : SC := (.seq (.reg (.op 0 .done)) (.seq (.seq (.reg (.op 0 .done)) (.sub (.seq (.reg (.op 0 (.op 1 (.op 2 .done)))) (.cond (.seq (.reg (.op 0 .done)) (.seq (.reg (.op 0 (.op 1 (.op 2 (.op 3 (.op 4 .done)))))) .nop)) (.seq (.reg (.op 0 (.op 1 (.op 2 .done)))) (.cond (.seq (.reg (.op 0 .done)) (.seq (.reg (.op 0 (.op 1 (.op 2 (.op 3 (.op 4 .done)))))) .nop)) .nop)))))) (.seq (.reg (.op 0 (.op 1 .done))) .nop)))

theorem tree_sumOf.ok : okC Try.f64.ntmps tree_sumOf.sc (bodyOf Try.f64) = true := by kernel_rfl

theorem tree_sumOf.eq {K : K1} {n0 : Value} {w : World} : tree_sumOf K n0 w = codeS Try.prog tree_sumOf.sc (bodyOf Try.f64) (argsF 0 [n0]) w (retQ Try.prog Try.f64.results.toList K) := by kernel_rfl

theorem tree_sumOf.call {K : K1} {n0 : Value} {w : World} (h : tree_sumOf K n0 w) : sCall Try.prog 64 [n0] w K := sCall_code mixed Try.func64 (by kernel_rfl) rfl rfl tree_sumOf.ok tree_sumOf.eq h

abbrev tree_sumOf.n : Nat := 64

/-- 'bodkin item.Of' -/
def item_Of (K : K1) (i0 : Value) (w : World) : Prop :=
  sBox Try.prog 51 i0 w fun i1 w =>
  sAlloc Try.prog 32 w fun x2 w =>
  sFldA Try.prog 51 i1 2 w fun x3 w =>
  sLoad Try.prog 30 x3 w fun x4 w =>
  sFldA Try.prog 51 i1 3 w fun x5 w =>
  sLoad Try.prog 3 x5 w fun x6 w =>
  sBuild Try.prog 32 [(0, (.int .i64 1)), (1, x4), (2, x6)] w fun x7 w =>
  sStore Try.prog 32 x2 x7 w fun w =>
  sLoad Try.prog 32 x2 w fun v w' => w' = w ∧ K v w

def item_Of.sc : SC := (.seq (.reg (.op 0 (.op 1 .done))) (.seq (.reg (.op 0 (.op 1 (.op 2 (.op 3 (.op 4 (.op 5 .done))))))) .nop))

theorem item_Of.ok : okC Try.f65.ntmps item_Of.sc (bodyOf Try.f65) = true := by kernel_rfl

theorem item_Of.eq {K : K1} {i0 : Value} {w : World} : item_Of K i0 w = codeS Try.prog item_Of.sc (bodyOf Try.f65) (argsF 0 [i0]) w (retQ Try.prog Try.f65.results.toList K) := by kernel_rfl

theorem item_Of.call {K : K1} {i0 : Value} {w : World} (h : item_Of K i0 w) : sCall Try.prog 65 [i0] w K := sCall_code mixed Try.func65 (by kernel_rfl) rfl rfl item_Of.ok item_Of.eq h

abbrev item_Of.n : Nat := 65

/-- 'bodkin bodkinref05.size' -/
def bodkinref05_size (K : K1) (l0 dim1 : Value) (w : World) : Prop :=
  sBin Try.prog .eql 3 false true dim1 (.int .i64 3) w fun x6 w =>
  sIf x6 (
    sBuiltin Try.prog .len [37] 3 [l0] w fun x8 w =>
    K x8 w) (
    sCall Try.prog 67 [l0] w fun x10 w =>
    sFld Try.prog 40 x10 1 w fun x11 w =>
    sIdx Try.prog 30 x11 dim1 w fun x13 w =>
    K x13 w)

def bodkinref05_size.sc : SC := (.seq (.reg (.op 0 .done)) (.seq (.seq (.reg (.op 0 (.op 1 .done))) (.cond (.seq (.reg (.op 0 (.op 1 (.op 2 .done)))) .nop) .nop)) (.seq (.reg (.op 0 (.op 1 (.op 2 (.op 3 (.op 4 (.op 5 .done))))))) .nop)))

theorem bodkinref05_size.ok : okC Try.f66.ntmps bodkinref05_size.sc (bodyOf Try.f66) = true := by kernel_rfl

theorem bodkinref05_size.eq {K : K1} {l0 dim1 : Value} {w : World} : bodkinref05_size K l0 dim1 w = codeS Try.prog bodkinref05_size.sc (bodyOf Try.f66) (argsF 0 [l0, dim1]) w (retQ Try.prog Try.f66.results.toList K) := by kernel_rfl

theorem bodkinref05_size.call {K : K1} {l0 dim1 : Value} {w : World} (h : bodkinref05_size K l0 dim1 w) : sCall Try.prog 66 [l0, dim1] w K := sCall_code mixed Try.func66 (by kernel_rfl) rfl rfl bodkinref05_size.ok bodkinref05_size.eq h

abbrev bodkinref05_size.n : Nat := 66

/-- 'bodkin bodkinref04.All' -/
def bodkinref04_All_L2 (Nx1 : List Value → World → Prop) (Nx2 : List Value → World → Prop) (s3 x12 x5 : Value) (k6 : Value) (w : World) : Prop :=
  sBin Try.prog .lss 3 false true k6 (.int .i64 3) w fun x18 w =>
  sIf x18 (
    DrawS w fun C w =>
    stillS C w (fun w k => sFldA Try.prog 40 s3 1 w k) fun x23 =>
    stillS C w (fun w k => sIdxA Try.prog 30 x23 k6 w k) fun x24 =>
    stillS C w (fun w k => sLoad Try.prog 3 x24 w k) fun x25 =>
    stillS C w (fun w k => sFldA Try.prog 105 x5 2 w k) fun x27 =>
    stillS C w (fun w k => sIdxA Try.prog 30 x27 k6 w k) fun x28 =>
    stillS C w (fun w k => sLoad Try.prog 3 x28 w k) fun x29 =>
    stillS C w (fun w k => sBin Try.prog .add 3 false false x25 x29 w k) fun x30 =>
    stillS C w (fun w k => sFldA Try.prog 40 s3 1 w k) fun x31 =>
    stillS C w (fun w k => sIdxA Try.prog 30 x31 k6 w k) fun x32 =>
    sStore Try.prog 3 x32 x30 w fun w =>
    sBin Try.prog .add 3 false true k6 (.int .i64 1) w fun x20 w =>
    Nx2 [x20] w) (
    sFldA Try.prog 105 x5 3 w fun x33 w =>
    sLoad Try.prog 3 x33 w fun x34 w =>
    sFldA Try.prog 40 s3 2 w fun x35 w =>
    sLoad Try.prog 3 x35 w fun x36 w =>
    sBin Try.prog .gtr 3 false false x34 x36 w fun x37 w =>
    sIf x37 (
      sFldA Try.prog 105 x5 3 w fun x38 w =>
      sLoad Try.prog 3 x38 w fun x39 w =>
      sFldA Try.prog 40 s3 2 w fun x40 w =>
      sStore Try.prog 3 x40 x39 w fun w =>
      sFldA Try.prog 40 s3 3 w fun x42 w =>
      sStore Try.prog 3 x42 x12 w fun w =>
      sBin Try.prog .add 3 false true x12 (.int .i64 1) w fun x43 w =>
      Nx1 [x43] w) (
      sBin Try.prog .add 3 false true x12 (.int .i64 1) w fun x43_1 w =>
      Nx1 [x43_1] w))

def bodkinref04_All_L1 (K : K1) (Nx1 : List Value → World → Prop) (l0 s3 x11 x2 : Value) (x12 : Value) (w : World) : Prop :=
  sBin Try.prog .lss 3 false false x12 x11 w fun x13 w =>
  sIf x13 (
    sIdxA Try.prog 37 l0 x12 w fun x15 w =>
    sLoad Try.prog 105 x15 w fun x16 w =>
    sAlloc Try.prog 105 w fun x5 w =>
    sStore Try.prog 105 x5 x16 w fun w =>
    LoopS [(.int .i64 0)] 1 16 w fun us _ w Nx2 =>
      bodkinref04_All_L2 Nx1 Nx2 s3 x12 x5 (hd us) w) (
    sLoad Try.prog 40 s3 w fun x44 w =>
    sStore Try.prog 40 x2 x44 w fun w =>
    sLoad Try.prog 40 x2 w fun v w' => w' = w ∧ K v w)

def bodkinref04_All (K : K1) (l0 : Value) (w : World) : Prop :=
  sAlloc Try.prog 40 w fun x2 w =>
  sBuiltin Try.prog .len [37] 3 [l0] w fun x8 w =>
  sBuild Try.prog 40 [(0, x8)] w fun x9 w =>
  sAlloc Try.prog 40 w fun s3 w =>
  sStore Try.prog 40 s3 x9 w fun w =>
  sBuiltin Try.prog .len [37] 3 [l0] w fun x11 w =>
  LoopS [(.int .i64 0)] 1 34 w fun us _ w Nx1 =>
    bodkinref04_All_L1 K Nx1 l0 s3 x11 x2 (hd us) w

def bodkinref04_All.sc : SC := (.seq (.reg (.op 0 .done)) (.seq (.reg (.op 0 (.op 1 (.op 2 (.op 3 (.op 4 .done)))))) (.seq (.seq (.reg (.op 0 (.op 1 (.op 2 .done)))) (.sub (.loop [12] [13, 14, 15, 16, 5, 4, 6, 17, 18, 21, 22, 23, 24, 25, 26, 27, 28, 29, 30, 31, 32, 19, 20, 33, 34, 35, 36, 37, 38, 39, 40, 41, 42, 43] (.seq (.reg (.op 0 .done)) (.seq (.cond .nop .nop) (.seq (.sub (.seq (.reg (.op 0 (.op 1 (.op 2 (.op 3 (.op 4 (.op 5 .done))))))) (.seq (.seq (.reg (.op 0 .done)) (.sub (.loop [6] [17, 18, 21, 22, 23, 24, 25, 26, 27, 28, 29, 30, 31, 32, 19, 20] (.seq (.seq (.reg (.op 0 (.op 1 .done))) (.cond .nop .nop)) (.seq (.sub (.draw (.op 0 (.op 1 (.op 2 (.op 3 (.op 4 (.op 5 (.op 6 (.op 7 (.op 8 (.op 9 (.op 10 (.op 11 (.fin 12 .done))))))))))))))) (.reg (.op 0 (.op 1 (.op 2 .done))))))))) (.seq (.reg (.op 0 (.op 1 (.op 2 (.op 3 (.op 4 .done)))))) (.cond (.seq (.reg (.op 0 (.op 1 (.op 2 (.op 3 .done))))) (.reg (.op 0 (.op 1 (.op 2 .done))))) .nop))))) (.reg (.op 0 (.op 1 .done))))))))) (.seq (.reg (.op 0 (.op 1 .done))) .nop))))

theorem bodkinref04_All.ok : okC Try.f67.ntmps bodkinref04_All.sc (bodyOf Try.f67) = true := by kernel_rfl

theorem bodkinref04_All.eq {K : K1} {l0 : Value} {w : World} : bodkinref04_All K l0 w = codeS Try.prog bodkinref04_All.sc (bodyOf Try.f67) (argsF 0 [l0]) w (retQ Try.prog Try.f67.results.toList K) := by kernel_rfl

theorem bodkinref04_All.call {K : K1} {l0 : Value} {w : World} (h : bodkinref04_All K l0 w) : sCall Try.prog 67 [l0] w K := sCall_code mixed Try.func67 (by kernel_rfl) rfl rfl bodkinref04_All.ok bodkinref04_All.eq h

abbrev bodkinref04_All.n : Nat := 67

/-- 'bodkin tree.heightOf' -/
def tree_heightOf (K : K1) (n0 : Value) (w : World) : Prop :=
  sAssert Try.prog n0 107 110 true w fun x6 w =>
  sExtract x6 1 w fun x7 w =>
  sExtract x6 0 w fun x8 w =>
  sIf x7 (
    K (.int .i64 1) w) (
    sAssert Try.prog n0 107 116 true w fun x9 w =>
    sExtract x9 1 w fun x10 w =>
    sExtract x9 0 w fun x11 w =>
    sIf x10 (
      sNil x11 w fun x13 w =>
      sFldA Try.prog 120 x13 1 w fun x14 w =>
      sLoad Try.prog 3 x14 w fun x15 w =>
      K x15 w) (
      K (.int .i64 0) w))

def tree_heightOf.sc : SC := (.seq (.reg (.op 0 .done)) (.seq (.seq (.reg (.op 0 .done)) (.sub (.seq (.reg (.op 0 (.op 1 (.op 2 .done)))) (.cond (.seq (.reg (.op 0 .done)) (.seq (.reg (.op 0 .done)) .nop)) (.seq (.reg (.op 0 (.op 1 (.op 2 .done)))) (.cond (.seq (.reg (.op 0 .done)) (.seq (.reg (.op 0 (.op 1 (.op 2 (.op 3 (.op 4 .done)))))) .nop)) .nop)))))) (.seq (.reg (.op 0 .done)) .nop)))

theorem tree_heightOf.ok : okC Try.f68.ntmps tree_heightOf.sc (bodyOf Try.f68) = true := by kernel_rfl

theorem tree_heightOf.eq {K : K1} {n0 : Value} {w : World} : tree_heightOf K n0 w = codeS Try.prog tree_heightOf.sc (bodyOf Try.f68) (argsF 0 [n0]) w (retQ Try.prog Try.f68.results.toList K) := by kernel_rfl

theorem tree_heightOf.call {K : K1} {n0 : Value} {w : World} (h : tree_heightOf K n0 w) : sCall Try.prog 68 [n0] w K := sCall_code mixed Try.func68 (by kernel_rfl) rfl rfl tree_heightOf.ok tree_heightOf.eq h

abbrev tree_heightOf.n : Nat := 68

/-- 'bodkin bodkinref05.Same' -/
def bodkinref05_Same_L1 (K : K1) (Nx1 : List Value → World → Prop) (a0 b1 x7 : Value) (x8 : Value) (w : World) : Prop :=
  sBin Try.prog .lss 3 false false x8 x7 w fun x9 w =>
  sIf x9 (
    DrawS w fun C w =>
    stillS C w (fun w k => sBuiltin Try.prog .len [37] 3 [b1] w k) fun x13 =>
    stillS C w (fun w k => sBin Try.prog .geq 3 false false x8 x13 w k) fun x14 =>
    sIf x14 (
      K (.bool false) w) (
      stillS C w (fun w k => sIdxA Try.prog 37 a0 x8 w k) fun x18 =>
      stillS C w (fun w k => sLoad Try.prog 105 x18 w k) fun x19 =>
      stillS C w (fun w k => sIdxA Try.prog 37 b1 x8 w k) fun x22 =>
      stillS C w (fun w k => sLoad Try.prog 105 x22 w k) fun x23 =>
      stillS C w (fun w k => sBin Try.prog .neq 105 false false x19 x23 w k) fun x24 =>
      sIf x24 (
        K (.bool false) w) (
        sBin Try.prog .add 3 false true x8 (.int .i64 1) w fun x26 w =>
        Nx1 [x26] w))) (
    sBuiltin Try.prog .len [37] 3 [a0] w fun x28 w =>
    sBuiltin Try.prog .len [37] 3 [b1] w fun x30 w =>
    sBin Try.prog .eql 3 false false x28 x30 w fun x31 w =>
    K x31 w)

def bodkinref05_Same (K : K1) (a0 b1 : Value) (w : World) : Prop :=
  sBuiltin Try.prog .len [37] 3 [a0] w fun x7 w =>
  LoopS [(.int .i64 0)] 1 20 w fun us _ w Nx1 =>
    bodkinref05_Same_L1 K Nx1 a0 b1 x7 (hd us) w

def bodkinref05_Same.sc : SC := (.seq (.reg (.op 0 .done)) (.seq (.seq (.reg (.op 0 (.op 1 (.op 2 .done)))) (.sub (.loop [8] [9, 10, 5, 11, 12, 13, 14, 15, 16, 17, 18, 19, 20, 21, 22, 23, 24, 25, 4, 26] (.seq (.reg (.op 0 .done)) (.seq (.cond .nop .nop) (.seq (.sub (.seq (.reg (.op 0 (.op 1 .done))) (.seq (.draw (.op 0 (.op 1 (.op 2 (.op 3 (.op 4 (.test 4 (.skip 5 (.skip 6 (.skip 7 (.skip 8 (.skip 9 (.skip 10 (.skip 11 (.skip 12 (.skip 13 (.op 14 .done)))))))))) (.op 5 (.op 6 (.op 7 (.op 8 (.op 9 (.op 10 (.op 11 (.op 12 (.op 13 (.op 14 .done))))))))))))))))) (.cond (.seq (.reg (.op 0 .done)) .nop) .nop)))) (.reg (.op 0 (.op 1 .done))))))))) (.seq (.reg (.op 0 (.op 1 (.op 2 (.op 3 (.op 4 (.op 5 .done))))))) .nop)))

theorem bodkinref05_Same.ok : okC Try.f69.ntmps bodkinref05_Same.sc (bodyOf Try.f69) = true := by kernel_rfl

theorem bodkinref05_Same.eq {K : K1} {a0 b1 : Value} {w : World} : bodkinref05_Same K a0 b1 w = codeS Try.prog bodkinref05_Same.sc (bodyOf Try.f69) (argsF 0 [a0, b1]) w (retQ Try.prog Try.f69.results.toList K) := by kernel_rfl

theorem bodkinref05_Same.call {K : K1} {a0 b1 : Value} {w : World} (h : bodkinref05_Same K a0 b1 w) : sCall Try.prog 69 [a0, b1] w K := sCall_code mixed Try.func69 (by kernel_rfl) rfl rfl bodkinref05_Same.ok bodkinref05_Same.eq h

abbrev bodkinref05_Same.n : Nat := 69

/-- 'bodkin bodkinref05.High' -/
def bodkinref05_High_L1 (K : K1) (Nx1 : List Value → World → Prop) (height0 items1 : Value) (power5 i6 : Value) (w : World) : Prop :=
  sBin Try.prog .lss 3 false false i6 height0 w fun x9 w =>
  sIf x9 (
    sBin Try.prog .mul 3 true false (.int .i64 4) power5 w fun x13 w =>
    sBin Try.prog .add 3 false true items1 (.int .i64 1) w fun x16 w =>
    sBin Try.prog .gtr 3 false false x13 x16 w fun x17 w =>
    sIf x17 (
      K (.bool false) w) (
      sBin Try.prog .add 3 false true i6 (.int .i64 1) w fun x11 w =>
      Nx1 [x13, x11] w)) (
    sBin Try.prog .eql 3 false true height0 (.int .i64 0) w fun x19 w =>
    sBin Try.prog .eql 3 false true items1 (.int .i64 0) w fun x21 w =>
    sBin Try.prog .eql 4 false false x19 x21 w fun x22 w =>
    sIf x22 (
      sBin Try.prog .geq 3 false true height0 (.int .i64 0) w fun x25 w =>
      K x25 w) (
      K (.bool false) w))

def bodkinref05_High (K : K1) (height0 items1 : Value) (w : World) : Prop :=
  LoopS [(.int .i64 1), (.int .i64 2)] 2 12 w fun us _ w Nx1 =>
    bodkinref05_High_L1 K Nx1 height0 items1 (hd us) (hd (tl us)) w

def bodkinref05_High.sc : SC := (.seq (.reg (.op 0 .done)) (.seq (.reg (.op 0 .done)) (.seq (.seq (.reg (.op 0 .done)) (.sub (.loop [5, 6] [7, 8, 9, 12, 13, 14, 15, 16, 17, 4, 10, 11] (.seq (.seq (.reg (.op 0 (.op 1 (.op 2 .done)))) (.cond .nop .nop)) (.seq (.sub (.seq (.reg (.op 0 (.op 1 (.op 2 .done)))) (.seq (.reg (.op 0 (.op 1 (.op 2 (.op 3 .done))))) (.cond (.seq (.reg (.op 0 .done)) .nop) .nop)))) (.reg (.op 0 (.op 1 (.op 2 .done))))))))) (.seq (.reg (.op 0 (.op 1 (.op 2 (.op 3 (.op 4 (.op 5 (.test 5 (.op 6 (.op 7 (.op 8 (.op 9 .done)))) (.skip 6 (.skip 7 (.op 8 (.op 9 .done)))))))))))) .nop))))

theorem bodkinref05_High.ok : okC Try.f70.ntmps bodkinref05_High.sc (bodyOf Try.f70) = true := by kernel_rfl

theorem bodkinref05_High.eq {K : K1} {height0 items1 : Value} {w : World} : bodkinref05_High K height0 items1 w = codeS Try.prog bodkinref05_High.sc (bodyOf Try.f70) (argsF 0 [height0, items1]) w (retQ Try.prog Try.f70.results.toList K) := by kernel_rfl

theorem bodkinref05_High.call {K : K1} {height0 items1 : Value} {w : World} (h : bodkinref05_High K height0 items1 w) : sCall Try.prog 70 [height0, items1] w K := sCall_code mixed Try.func70 (by kernel_rfl) rfl rfl bodkinref05_High.ok bodkinref05_High.eq h

abbrev bodkinref05_High.n : Nat := 70

/-- 'bodkin bodkinref22.right' -/
def bodkinref22_right (K : K1) (n0 : Value) (w : World) : Prop :=
  sBin Try.prog .geq 3 false true n0 (.int .i64 0) w fun x4 w =>
  sIf x4 (
    sBin Try.prog .leq 3 false true n0 (.int .i64 1099511627776) w fun x7 w =>
    K x7 w) (
    K (.bool false) w)

def bodkinref22_right.sc : SC := (.seq (.reg (.op 0 .done)) (.seq (.reg (.op 0 (.op 1 (.op 2 (.test 2 (.op 3 (.op 4 (.op 5 (.op 6 .done)))) (.skip 3 (.skip 4 (.op 5 (.op 6 .done))))))))) .nop))

theorem bodkinref22_right.ok : okC Try.f71.ntmps bodkinref22_right.sc (bodyOf Try.f71) = true := by kernel_rfl

theorem bodkinref22_right.eq {K : K1} {n0 : Value} {w : World} : bodkinref22_right K n0 w = codeS Try.prog bodkinref22_right.sc (bodyOf Try.f71) (argsF 0 [n0]) w (retQ Try.prog Try.f71.results.toList K) := by kernel_rfl

theorem bodkinref22_right.call {K : K1} {n0 : Value} {w : World} (h : bodkinref22_right K n0 w) : sCall Try.prog 71 [n0] w K := sCall_code mixed Try.func71 (by kernel_rfl) rfl rfl bodkinref22_right.ok bodkinref22_right.eq h

abbrev bodkinref22_right.n : Nat := 71

/-- '(*bodkin flow.Flow).Widest' -/
def flow_Flow_Widest (K : K1) (f0 : Value) (w : World) : Prop :=
  sCall Try.prog 79 [f0] w fun x6 w =>
  sCall Try.prog 42 [x6] w fun x7 w =>
  sAlloc Try.prog 32 w fun s4 w =>
  sStore Try.prog 32 s4 x7 w fun w =>
  DrawS w fun C w =>
  stillS C w (fun w k => sFldA Try.prog 32 s4 3 w k) fun x8 =>
  stillS C w (fun w k => sLoad Try.prog 3 x8 w k) fun x9 =>
  stillS C w (fun w k => sFldA Try.prog 32 s4 2 w k) fun x10 =>
  stillS C w (fun w k => sLoad Try.prog 3 x10 w k) fun x11 =>
  K (.tuple #[x9, x11]) w

def flow_Flow_Widest.sc : SC := (.seq (.reg (.op 0 (.op 1 .done))) (.seq (.reg (.op 0 (.op 1 (.op 2 (.op 3 (.op 4 .done)))))) (.seq (.draw (.op 0 (.op 1 (.op 2 (.op 3 (.op 4 (.op 5 .done))))))) .nop)))

theorem flow_Flow_Widest.ok : okC Try.f72.ntmps flow_Flow_Widest.sc (bodyOf Try.f72) = true := by kernel_rfl

theorem flow_Flow_Widest.eq {K : K1} {f0 : Value} {w : World} : flow_Flow_Widest K f0 w = codeS Try.prog flow_Flow_Widest.sc (bodyOf Try.f72) (argsF 0 [f0]) w (retQ Try.prog Try.f72.results.toList K) := by kernel_rfl

theorem flow_Flow_Widest.call {K : K1} {f0 : Value} {w : World} (h : flow_Flow_Widest K f0 w) : sCall Try.prog 72 [f0] w K := sCall_code mixed Try.func72 (by kernel_rfl) rfl rfl flow_Flow_Widest.ok flow_Flow_Widest.eq h

abbrev flow_Flow_Widest.n : Nat := 72

/-- '(*bodkin flow.Flow).Count' -/
def flow_Flow_Count (K : K1) (f0 : Value) (w : World) : Prop :=
  sCall Try.prog 79 [f0] w fun x4 w =>
  sCall Try.prog 42 [x4] w fun x5 w =>
  sFld Try.prog 32 x5 0 w fun x6 w =>
  K x6 w

def flow_Flow_Count.sc : SC := (.seq (.reg (.op 0 .done)) (.seq (.reg (.op 0 (.op 1 (.op 2 (.op 3 (.op 4 .done)))))) .nop))

theorem flow_Flow_Count.ok : okC Try.f73.ntmps flow_Flow_Count.sc (bodyOf Try.f73) = true := by kernel_rfl

theorem flow_Flow_Count.eq {K : K1} {f0 : Value} {w : World} : flow_Flow_Count K f0 w = codeS Try.prog flow_Flow_Count.sc (bodyOf Try.f73) (argsF 0 [f0]) w (retQ Try.prog Try.f73.results.toList K) := by kernel_rfl

theorem flow_Flow_Count.call {K : K1} {f0 : Value} {w : World} (h : flow_Flow_Count K f0 w) : sCall Try.prog 73 [f0] w K := sCall_code mixed Try.func73 (by kernel_rfl) rfl rfl flow_Flow_Count.ok flow_Flow_Count.eq h

abbrev flow_Flow_Count.n : Nat := 73

/-- '(*bodkin flow.Flow).Height' -/
def flow_Flow_Height (K : K1) (f0 : Value) (w : World) : Prop :=
  sCall Try.prog 79 [f0] w fun x4 w =>
  sCall Try.prog 24 [x4] w fun x5 w =>
  K x5 w

def flow_Flow_Height.sc : SC := (.seq (.reg (.op 0 .done)) (.seq (.reg (.op 0 (.op 1 (.op 2 (.op 3 .done))))) .nop))

theorem flow_Flow_Height.ok : okC Try.f74.ntmps flow_Flow_Height.sc (bodyOf Try.f74) = true := by kernel_rfl

theorem flow_Flow_Height.eq {K : K1} {f0 : Value} {w : World} : flow_Flow_Height K f0 w = codeS Try.prog flow_Flow_Height.sc (bodyOf Try.f74) (argsF 0 [f0]) w (retQ Try.prog Try.f74.results.toList K) := by kernel_rfl

theorem flow_Flow_Height.call {K : K1} {f0 : Value} {w : World} (h : flow_Flow_Height K f0 w) : sCall Try.prog 74 [f0] w K := sCall_code mixed Try.func74 (by kernel_rfl) rfl rfl flow_Flow_Height.ok flow_Flow_Height.eq h

abbrev flow_Flow_Height.n : Nat := 74

/-- 'bodkin flow.items' -/
def flow_items_J2 (Nx1 : List Value → World → Prop) (out4 x10 x7 : Value) (ok5_1 : Value) (w : World) : Prop :=
  sLoad Try.prog 69 x7 w fun x21 w =>
  sCall Try.prog 97 [x21] w fun x22 w =>
  sBuildSlice Try.prog 22 1 [(0, x22)] w fun x23 w =>
  sBuiltin Try.prog .append [22, 22] 22 [out4, x23] w fun x24 w =>
  sBin Try.prog .add 3 false true x10 (.int .i64 1) w fun x25 w =>
  Nx1 [ok5_1, x24, x25] w

def flow_items_L1 (K : K1) (Nx1 : List Value → World → Prop) (l0 x9 : Value) (ok5 out4 x10 : Value) (w : World) : Prop :=
  sBin Try.prog .lss 3 false false x10 x9 w fun x11 w =>
  sIf x11 (
    sIdxA Try.prog 55 l0 x10 w fun x12 w =>
    sLoad Try.prog 69 x12 w fun x13 w =>
    sAlloc Try.prog 69 w fun x7 w =>
    sStore Try.prog 69 x7 x13 w fun w =>
    JoinS 1 6 (fun M2 =>
      sIf ok5 (
        sFldA Try.prog 69 x7 2 w fun x16 w =>
        sLoad Try.prog 3 x16 w fun x17 w =>
        sBin Try.prog .gtr 3 false true x17 (.int .i64 0) w fun x18 w =>
        M2 [x18] w) (
        M2 [(.bool false)] w)) fun us _ w =>
      flow_items_J2 Nx1 out4 x10 x7 (hd us) w) (
    K (.tuple #[out4, ok5]) w)

def flow_items (K : K1) (l0 : Value) (w : World) : Prop :=
  sBuiltin Try.prog .len [55] 3 [l0] w fun x9 w =>
  LoopS [(.bool true), (.slice none 0 0), (.int .i64 0)] 3 16 w fun us _ w Nx1 =>
    flow_items_L1 K Nx1 l0 x9 (hd us) (hd (tl us)) (hd (tl (tl us))) w

def flow_items.sc : SC := (.seq (.reg (.op 0 (.op 1 .done))) (.seq (.reg (.op 0 .done)) (.seq (.reg (.op 0 .done)) (.seq (.seq (.reg (.op 0 (.op 1 (.op 2 .done)))) (.sub (.loop [5, 4, 10] [11, 12, 13, 7, 14, 15, 16, 17, 18, 19, 20, 21, 22, 23, 24, 25] (.seq (.reg (.op 0 .done)) (.seq (.cond .nop .nop) (.seq (.sub (.seq (.reg (.op 0 (.op 1 (.op 2 (.op 3 .done))))) (.join [5] [14, 15, 16, 17, 18, 19] (.reg (.op 0 (.op 1 (.test 1 (.op 2 (.op 3 (.op 4 (.op 5 (.op 6 .done))))) (.skip 2 (.skip 3 (.skip 4 (.op 5 (.op 6 .done))))))))) (.reg (.op 0 (.op 1 (.op 2 (.op 3 (.op 4 (.op 5 .done)))))))))) (.reg (.op 0 (.op 1 .done))))))))) (.seq (.reg (.op 0 (.op 1 (.op 2 (.op 3 .done))))) .nop)))))

theorem flow_items.ok : okC Try.f75.ntmps flow_items.sc (bodyOf Try.f75) = true := by kernel_rfl

theorem flow_items.eq {K : K1} {l0 : Value} {w : World} : flow_items K l0 w = codeS Try.prog flow_items.sc (bodyOf Try.f75) (argsF 0 [l0]) w (retQ Try.prog Try.f75.results.toList K) := by kernel_rfl

theorem flow_items.call {K : K1} {l0 : Value} {w : World} (h : flow_items K l0 w) : sCall Try.prog 75 [l0] w K := sCall_code mixed Try.func75 (by kernel_rfl) rfl rfl flow_items.ok flow_items.eq h

abbrev flow_items.n : Nat := 75

/-- 'bodkin flow.checked' -/
def flow_checked (K : K1) (t0 e1 ok2 : Value) (w : World) : Prop :=
  sBin Try.prog .neq 27 false true e1 (.int .i64 0) w fun x10 w =>
  sIf x10 (
    K (.tuple #[(.pointer none), e1]) w) (
    sUn Try.prog .not ok2 w fun x14 w =>
    sIf x14 (
      K (.tuple #[(.pointer none), (.int .i64 1)]) w) (
      sBuild Try.prog 157 [(0, t0)] w fun x16 w =>
      sBox Try.prog 157 x16 w fun x17 w =>
      K (.tuple #[x17, (.int .i64 0)]) w))

def flow_checked.sc : SC := (.seq (.reg (.op 0 (.op 1 .done))) (.seq (.sub (.seq (.reg (.op 0 (.op 1 (.op 2 .done)))) (.cond (.seq (.reg (.op 0 (.op 1 (.op 2 .done)))) .nop) (.seq (.reg (.op 0 (.op 1 (.op 2 .done)))) (.cond (.seq (.reg (.op 0 (.op 1 .done))) .nop) .nop))))) (.seq (.reg (.op 0 (.op 1 (.op 2 (.op 3 (.op 4 .done)))))) .nop)))

theorem flow_checked.ok : okC Try.f76.ntmps flow_checked.sc (bodyOf Try.f76) = true := by kernel_rfl

theorem flow_checked.eq {K : K1} {t0 e1 ok2 : Value} {w : World} : flow_checked K t0 e1 ok2 w = codeS Try.prog flow_checked.sc (bodyOf Try.f76) (argsF 0 [t0, e1, ok2]) w (retQ Try.prog Try.f76.results.toList K) := by kernel_rfl

theorem flow_checked.call {K : K1} {t0 e1 ok2 : Value} {w : World} (h : flow_checked K t0 e1 ok2 w) : sCall Try.prog 76 [t0, e1, ok2] w K := sCall_code mixed Try.func76 (by kernel_rfl) rfl rfl flow_checked.ok flow_checked.eq h

abbrev flow_checked.n : Nat := 76

/-- '(*bodkin flow.Flow).Sum' -/
def flow_Flow_Sum (K : K1) (f0 : Value) (w : World) : Prop :=
  sAlloc Try.prog 69 w fun x2 w =>
  sCall Try.prog 79 [f0] w fun x5 w =>
  sCall Try.prog 42 [x5] w fun x6 w =>
  sAlloc Try.prog 32 w fun s3 w =>
  sStore Try.prog 32 s3 x6 w fun w =>
  sFldA Try.prog 32 s3 1 w fun x7 w =>
  sIdxA Try.prog 30 x7 (.int .i64 0) w fun x8 w =>
  sLoad Try.prog 3 x8 w fun x9 w =>
  sFldA Try.prog 32 s3 1 w fun x10 w =>
  sIdxA Try.prog 30 x10 (.int .i64 1) w fun x11 w =>
  sLoad Try.prog 3 x11 w fun x12 w =>
  sFldA Try.prog 32 s3 1 w fun x13 w =>
  sIdxA Try.prog 30 x13 (.int .i64 2) w fun x14 w =>
  sLoad Try.prog 3 x14 w fun x15 w =>
  sFldA Try.prog 32 s3 2 w fun x16 w =>
  sLoad Try.prog 3 x16 w fun x17 w =>
  sBuild Try.prog 69 [(0, x9), (1, x12), (2, x15), (3, x17)] w fun x18 w =>
  sStore Try.prog 69 x2 x18 w fun w =>
  sLoad Try.prog 69 x2 w fun v w' => w' = w ∧ K v w

def flow_Flow_Sum.sc : SC := (.seq (.reg (.op 0 .done)) (.seq (.reg (.op 0 (.op 1 (.op 2 (.op 3 (.op 4 .done)))))) (.seq (.reg (.op 0 (.op 1 (.op 2 (.op 3 (.op 4 (.op 5 (.op 6 (.op 7 (.op 8 (.op 9 (.op 10 (.op 11 (.op 12 .done)))))))))))))) .nop)))

theorem flow_Flow_Sum.ok : okC Try.f77.ntmps flow_Flow_Sum.sc (bodyOf Try.f77) = true := by kernel_rfl

theorem flow_Flow_Sum.eq {K : K1} {f0 : Value} {w : World} : flow_Flow_Sum K f0 w = codeS Try.prog flow_Flow_Sum.sc (bodyOf Try.f77) (argsF 0 [f0]) w (retQ Try.prog Try.f77.results.toList K) := by kernel_rfl

theorem flow_Flow_Sum.call {K : K1} {f0 : Value} {w : World} (h : flow_Flow_Sum K f0 w) : sCall Try.prog 77 [f0] w K := sCall_code mixed Try.func77 (by kernel_rfl) rfl rfl flow_Flow_Sum.ok flow_Flow_Sum.eq h

abbrev flow_Flow_Sum.n : Nat := 77

/-- 'bodkin flow.by' -/
def flow_by_J1 (K : K1) (p8 x6 : Value) (inside10 : Value) (w : World) : Prop :=
  sLoad Try.prog 34 p8 w fun x32 w =>
  sCall Try.prog 98 [x32, inside10] w fun x34 w =>
  sStore Try.prog 66 x6 x34 w fun w =>
  sLoad Try.prog 66 x6 w fun v w' => w' = w ∧ K (.tuple #[v, (.int .i64 0)]) w

def flow_by (K : K1) (find0 dim1 v2 : Value) (w : World) : Prop :=
  sAlloc Try.prog 66 w fun x6 w =>
  sDyn Try.prog find0 [dim1, v2, (.int .i64 1)] w fun x15 w =>
  sExtract x15 0 w fun x16 w =>
  sExtract x15 1 w fun x17 w =>
  sAlloc Try.prog 34 w fun p8 w =>
  sStore Try.prog 34 p8 x16 w fun w =>
  sBin Try.prog .neq 27 false true x17 (.int .i64 0) w fun x19 w =>
  sIf x19 (
    sBuild Try.prog 66 [] w fun x20 w =>
    sStore Try.prog 66 x6 x20 w fun w =>
    sLoad Try.prog 66 x6 w fun v w' => w' = w ∧ K (.tuple #[v, x17]) w) (
    JoinS 1 9 (fun M1 =>
      sBin Try.prog .neq 3 false true dim1 (.int .i64 3) w fun x24 w =>
      sIf x24 (
        sFldA Try.prog 34 p8 1 w fun x27 w =>
        sFldA Try.prog 32 x27 1 w fun x28 w =>
        sIdxA Try.prog 30 x28 dim1 w fun x29 w =>
        sLoad Try.prog 3 x29 w fun x30 w =>
        sBin Try.prog .sub 3 false false v2 x30 w fun x31 w =>
        M1 [x31] w) (
        M1 [(.int .i64 0)] w)) fun us _ w =>
      flow_by_J1 K p8 x6 (hd us) w)

def flow_by.sc : SC := (.seq (.reg (.op 0 (.op 1 .done))) (.seq (.reg (.op 0 (.op 1 (.op 2 (.op 3 (.op 4 (.op 5 (.op 6 (.op 7 (.op 8 (.op 9 .done))))))))))) (.seq (.seq (.reg (.op 0 (.op 1 .done))) (.cond (.seq (.reg (.op 0 (.op 1 (.op 2 (.op 3 .done))))) .nop) .nop)) (.seq (.reg (.op 0 (.op 1 .done))) (.join [10] [23, 24, 25, 26, 27, 28, 29, 30, 31] (.seq (.reg (.op 0 (.op 1 .done))) (.cond (.reg (.op 0 (.op 1 (.op 2 (.op 3 (.op 4 (.op 5 (.op 6 (.op 7 .done))))))))) (.reg (.op 0 .done)))) (.seq (.reg (.op 0 (.op 1 (.op 2 (.op 3 (.op 4 .done)))))) .nop))))))

theorem flow_by.ok : okC Try.f78.ntmps flow_by.sc (bodyOf Try.f78) = true := by kernel_rfl

theorem flow_by.eq {K : K1} {find0 dim1 v2 : Value} {w : World} : flow_by K find0 dim1 v2 w = codeS Try.prog flow_by.sc (bodyOf Try.f78) (argsF 0 [find0, dim1, v2]) w (retQ Try.prog Try.f78.results.toList K) := by kernel_rfl

theorem flow_by.call {K : K1} {find0 dim1 v2 : Value} {w : World} (h : flow_by K find0 dim1 v2 w) : sCall Try.prog 78 [find0, dim1, v2] w K := sCall_code mixed Try.func78 (by kernel_rfl) rfl rfl flow_by.ok flow_by.eq h

abbrev flow_by.n : Nat := 78

/-- '(*bodkin flow.Flow).tree' -/
def flow_Flow_tree (K : K1) (f0 : Value) (w : World) : Prop :=
  sBin Try.prog .eql 62 false true f0 (.pointer none) w fun x4 w =>
  sIf x4 (
    K (.pointer none) w) (
    sNil f0 w fun x6 w =>
    sFldA Try.prog 157 x6 0 w fun x7 w =>
    sLoad Try.prog 26 x7 w fun x8 w =>
    K x8 w)

def flow_Flow_tree.sc : SC := (.seq (.reg (.op 0 .done)) (.seq (.seq (.reg (.op 0 (.op 1 .done))) (.cond (.seq (.reg (.op 0 .done)) .nop) .nop)) (.seq (.reg (.op 0 (.op 1 (.op 2 (.op 3 (.op 4 .done)))))) .nop)))

theorem flow_Flow_tree.ok : okC Try.f79.ntmps flow_Flow_tree.sc (bodyOf Try.f79) = true := by kernel_rfl

theorem flow_Flow_tree.eq {K : K1} {f0 : Value} {w : World} : flow_Flow_tree K f0 w = codeS Try.prog flow_Flow_tree.sc (bodyOf Try.f79) (argsF 0 [f0]) w (retQ Try.prog Try.f79.results.toList K) := by kernel_rfl

theorem flow_Flow_tree.call {K : K1} {f0 : Value} {w : World} (h : flow_Flow_tree K f0 w) : sCall Try.prog 79 [f0] w K := sCall_code mixed Try.func79 (by kernel_rfl) rfl rfl flow_Flow_tree.ok flow_Flow_tree.eq h

abbrev flow_Flow_tree.n : Nat := 79

/-- 'bodkin tree.split' -/
def tree_split_L1 (K : K1) (Nx1 : List Value → World → Prop) (x51 x55 x56 : Value) (at1_1 x57 : Value) (w : World) : Prop :=
  sBin Try.prog .lss 3 false false x57 x56 w fun x58 w =>
  sIf x58 (
    sIdxA Try.prog 118 x55 x57 w fun x60 w =>
    sLoad Try.prog 107 x60 w fun x61 w =>
    sCall Try.prog 64 [x61] w fun x63 w =>
    sFld Try.prog 32 x63 0 w fun x64 w =>
    sBin Try.prog .leq 3 false false at1_1 x64 w fun x67 w =>
    sIf x67 (
      sCall Try.prog 80 [x61, at1_1] w fun x71 w =>
      sExtract x71 0 w fun x72 w =>
      sExtract x71 1 w fun x73 w =>
      DrawS w fun C w =>
      sNil x51 w fun x75 w =>
      stillS C w (fun w k => sFldA Try.prog 120 x75 0 w k) fun x76 =>
      stillS C w (fun w k => sLoad Try.prog 118 x76 w k) fun x77 =>
      stillS C w (fun w k => sSlice Try.prog 118 x77 none (some x57) (some x57) w k) fun x80 =>
      sNil x51 w fun x86 w =>
      stillS C w (fun w k => sFldA Try.prog 120 x86 0 w k) fun x87 =>
      stillS C w (fun w k => sLoad Try.prog 118 x87 w k) fun x88 =>
      stillS C w (fun w k => sBin Try.prog .add 3 false true x57 (.int .i64 1) w k) fun x90 =>
      stillS C w (fun w k => sSlice Try.prog 118 x88 (some x90) none none w k) fun x91 =>
      sCall Try.prog 99 [x80] w fun x81 w => C w ∧
      sCall Try.prog 58 [x81, x72] w fun x83 w => C w ∧
      sCall Try.prog 99 [x91] w fun x92 w => C w ∧
      sCall Try.prog 58 [x73, x92] w fun x93 w => C w ∧
      K (.tuple #[x83, x93]) w) (
      sBin Try.prog .sub 3 false false at1_1 x64 w fun x96 w =>
      sBin Try.prog .add 3 false true x57 (.int .i64 1) w fun x97 w =>
      Nx1 [x96, x97] w)) (
    sIface Try.prog 116 x51 w fun x99 w =>
    K (.tuple #[x99, .nilIface]) w)

def tree_split (K : K1) (n0 at1 : Value) (w : World) : Prop :=
  sAssert Try.prog n0 107 110 true w fun x14 w =>
  sExtract x14 1 w fun x15 w =>
  sExtract x14 0 w fun x16 w =>
  sIf x15 (
    sBin Try.prog .leq 3 false true at1 (.int .i64 0) w fun x19 w =>
    sIf x19 (
      sIface Try.prog 110 x16 w fun x21 w =>
      K (.tuple #[.nilIface, x21]) w) (
      sNil x16 w fun x25 w =>
      sFldA Try.prog 125 x25 0 w fun x26 w =>
      sLoad Try.prog 22 x26 w fun x27 w =>
      sBuiltin Try.prog .len [22] 3 [x27] w fun x28 w =>
      sBin Try.prog .geq 3 false false at1 x28 w fun x29 w =>
      sIf x29 (
        sIface Try.prog 110 x16 w fun x31 w =>
        K (.tuple #[x31, .nilIface]) w) (
        DrawS w fun C w =>
        sNil x16 w fun x33 w =>
        stillS C w (fun w k => sFldA Try.prog 125 x33 0 w k) fun x34 =>
        stillS C w (fun w k => sLoad Try.prog 22 x34 w k) fun x35 =>
        stillS C w (fun w k => sSlice Try.prog 22 x35 none (some at1) (some at1) w k) fun x38 =>
        sNil x16 w fun x42 w =>
        stillS C w (fun w k => sFldA Try.prog 125 x42 0 w k) fun x43 =>
        stillS C w (fun w k => sLoad Try.prog 22 x43 w k) fun x44 =>
        stillS C w (fun w k => sSlice Try.prog 22 x44 (some at1) none none w k) fun x46 =>
        sCall Try.prog 59 [x38] w fun x39 w => C w ∧
        stillS C w (fun w k => sIface Try.prog 110 x39 w k) fun x40 =>
        sCall Try.prog 59 [x46] w fun x47 w => C w ∧
        stillS C w (fun w k => sIface Try.prog 110 x47 w k) fun x48 =>
        K (.tuple #[x40, x48]) w))) (
    sAssert Try.prog n0 107 116 true w fun x49 w =>
    sExtract x49 1 w fun x50 w =>
    sExtract x49 0 w fun x51 w =>
    sIf x50 (
      sNil x51 w fun x53 w =>
      sFldA Try.prog 120 x53 0 w fun x54 w =>
      sLoad Try.prog 118 x54 w fun x55 w =>
      sBuiltin Try.prog .len [118] 3 [x55] w fun x56 w =>
      LoopS [at1, (.int .i64 0)] 2 47 w fun us _ w Nx1 =>
        tree_split_L1 K Nx1 x51 x55 x56 (hd us) (hd (tl us)) w) (
      K (.tuple #[.nilIface, .nilIface]) w))

def tree_split.sc : SC := (.seq (.reg (.op 0 (.op 1 .done))) (.seq (.seq (.reg (.op 0 .done)) (.sub (.seq (.reg (.op 0 (.op 1 (.op 2 .done)))) (.cond (.seq (.reg (.op 0 .done)) (.seq (.sub (.seq (.reg (.op 0 (.op 1 (.op 2 .done)))) (.cond (.seq (.reg (.op 0 (.op 1 (.op 2 (.op 3 .done))))) .nop) (.seq (.reg (.op 0 (.op 1 (.op 2 (.op 3 (.op 4 (.op 5 (.op 6 (.op 7 .done))))))))) (.cond (.seq (.reg (.op 0 (.op 1 (.op 2 (.op 3 .done))))) .nop) .nop))))) (.seq (.draw (.op 0 (.op 1 (.op 2 (.op 3 (.op 4 (.op 5 (.op 6 (.op 9 (.op 10 (.op 11 (.op 12 (.op 13 (.op 14 (.op 7 (.op 8 (.op 15 (.op 16 (.op 17 (.op 18 .done)))))))))))))))))))) .nop))) (.seq (.reg (.op 0 (.op 1 (.op 2 .done)))) (.cond (.seq (.reg (.op 0 .done)) (.seq (.seq (.reg (.op 0 (.op 1 (.op 2 (.op 3 (.op 4 (.op 5 .done))))))) (.sub (.loop [1, 57] [58, 59, 60, 61, 8, 9, 62, 63, 64, 10, 65, 66, 67, 69, 70, 71, 68, 72, 73, 11, 12, 74, 75, 76, 77, 78, 79, 80, 81, 82, 83, 84, 85, 86, 87, 88, 89, 90, 91, 92, 93, 4, 5, 94, 95, 96, 97] (.seq (.reg (.op 0 .done)) (.seq (.cond .nop .nop) (.seq (.sub (.seq (.reg (.op 0 (.op 1 (.op 2 (.op 3 (.op 4 .done)))))) (.seq (.reg (.op 0 (.op 1 (.op 2 (.op 3 .done))))) (.seq (.seq (.reg (.op 0 (.op 1 (.op 2 .done)))) (.cond (.seq (.reg (.op 0 (.op 1 (.op 2 (.op 3 (.op 4 (.op 5 (.op 6 (.op 7 .done))))))))) (.seq (.draw (.op 0 (.op 1 (.op 2 (.op 3 (.op 4 (.op 5 (.op 6 (.op 8 (.op 10 (.op 11 (.op 12 (.op 13 (.op 14 (.op 15 (.op 16 (.op 17 (.op 7 (.op 9 (.op 18 (.op 19 (.op 20 (.op 21 .done))))))))))))))))))))))) .nop)) .nop)) (.reg (.op 0 (.op 1 (.op 2 (.op 3 .done))))))))) (.reg (.op 0 (.op 1 .done))))))))) (.seq (.reg (.op 0 (.op 1 (.op 2 (.op 3 .done))))) .nop))) .nop)))))) (.seq (.reg (.op 0 (.op 1 .done))) .nop)))

theorem tree_split.ok : okC Try.f80.ntmps tree_split.sc (bodyOf Try.f80) = true := by kernel_rfl

theorem tree_split.eq {K : K1} {n0 at1 : Value} {w : World} : tree_split K n0 at1 w = codeS Try.prog tree_split.sc (bodyOf Try.f80) (argsF 0 [n0, at1]) w (retQ Try.prog Try.f80.results.toList K) := by kernel_rfl

theorem tree_split.call {K : K1} {n0 at1 : Value} {w : World} (h : tree_split K n0 at1 w) : sCall Try.prog 80 [n0, at1] w K := sCall_code mixed Try.func80 (by kernel_rfl) rfl rfl tree_split.ok tree_split.eq h

abbrev tree_split.n : Nat := 80

/-- 'bodkin bodkinlaw06.ref' -/
def bodkinlaw06_ref (K : K1) (i0 : Value) (w : World) : Prop :=
  sBox Try.prog 51 i0 w fun i1 w =>
  sAlloc Try.prog 105 w fun x2 w =>
  sFldA Try.prog 51 i1 0 w fun x3 w =>
  sLoad Try.prog 3 x3 w fun x4 w =>
  sFldA Try.prog 51 i1 1 w fun x5 w =>
  sLoad Try.prog 3 x5 w fun x6 w =>
  sFldA Try.prog 51 i1 2 w fun x7 w =>
  sLoad Try.prog 30 x7 w fun x8 w =>
  sFldA Try.prog 51 i1 3 w fun x9 w =>
  sLoad Try.prog 3 x9 w fun x10 w =>
  sFldA Try.prog 51 i1 4 w fun x11 w =>
  sLoad Try.prog 9 x11 w fun x12 w =>
  sBuild Try.prog 105 [(0, x4), (1, x6), (2, x8), (3, x10), (4, x12)] w fun x13 w =>
  sStore Try.prog 105 x2 x13 w fun w =>
  sLoad Try.prog 105 x2 w fun v w' => w' = w ∧ K v w

def bodkinlaw06_ref.sc : SC := (.seq (.reg (.op 0 (.op 1 .done))) (.seq (.reg (.op 0 (.op 1 (.op 2 (.op 3 (.op 4 (.op 5 (.op 6 (.op 7 (.op 8 (.op 9 (.op 10 (.op 11 .done))))))))))))) .nop))

theorem bodkinlaw06_ref.ok : okC Try.f81.ntmps bodkinlaw06_ref.sc (bodyOf Try.f81) = true := by kernel_rfl

theorem bodkinlaw06_ref.eq {K : K1} {i0 : Value} {w : World} : bodkinlaw06_ref K i0 w = codeS Try.prog bodkinlaw06_ref.sc (bodyOf Try.f81) (argsF 0 [i0]) w (retQ Try.prog Try.f81.results.toList K) := by kernel_rfl

theorem bodkinlaw06_ref.call {K : K1} {i0 : Value} {w : World} (h : bodkinlaw06_ref K i0 w) : sCall Try.prog 81 [i0] w K := sCall_code mixed Try.func81 (by kernel_rfl) rfl rfl bodkinlaw06_ref.ok bodkinlaw06_ref.eq h

abbrev bodkinlaw06_ref.n : Nat := 81

/-- 'bodkin bodkinlaw06.refSum' -/
def bodkinlaw06_refSum (K : K1) (s0 : Value) (w : World) : Prop :=
  sBox Try.prog 32 s0 w fun s1 w =>
  sAlloc Try.prog 40 w fun x2 w =>
  sFldA Try.prog 32 s1 0 w fun x3 w =>
  sLoad Try.prog 3 x3 w fun x4 w =>
  sFldA Try.prog 32 s1 1 w fun x5 w =>
  sLoad Try.prog 30 x5 w fun x6 w =>
  sFldA Try.prog 32 s1 2 w fun x7 w =>
  sLoad Try.prog 3 x7 w fun x8 w =>
  sFldA Try.prog 32 s1 3 w fun x9 w =>
  sLoad Try.prog 3 x9 w fun x10 w =>
  sBuild Try.prog 40 [(0, x4), (1, x6), (2, x8), (3, x10)] w fun x11 w =>
  sStore Try.prog 40 x2 x11 w fun w =>
  sLoad Try.prog 40 x2 w fun v w' => w' = w ∧ K v w

def bodkinlaw06_refSum.sc : SC := (.seq (.reg (.op 0 (.op 1 .done))) (.seq (.reg (.op 0 (.op 1 (.op 2 (.op 3 (.op 4 (.op 5 (.op 6 (.op 7 (.op 8 (.op 9 .done))))))))))) .nop))

theorem bodkinlaw06_refSum.ok : okC Try.f82.ntmps bodkinlaw06_refSum.sc (bodyOf Try.f82) = true := by kernel_rfl

theorem bodkinlaw06_refSum.eq {K : K1} {s0 : Value} {w : World} : bodkinlaw06_refSum K s0 w = codeS Try.prog bodkinlaw06_refSum.sc (bodyOf Try.f82) (argsF 0 [s0]) w (retQ Try.prog Try.f82.results.toList K) := by kernel_rfl

theorem bodkinlaw06_refSum.call {K : K1} {s0 : Value} {w : World} (h : bodkinlaw06_refSum K s0 w) : sCall Try.prog 82 [s0] w K := sCall_code mixed Try.func82 (by kernel_rfl) rfl rfl bodkinlaw06_refSum.ok bodkinlaw06_refSum.eq h

abbrev bodkinlaw06_refSum.n : Nat := 82

/-- '(*bodkin bodkinref06.Cursor).Start' -/
def bodkinref06_Cursor_Start (K : K1) (c0 : Value) (w : World) : Prop :=
  sAlloc Try.prog 40 w fun x2 w =>
  DrawS w fun C w =>
  sNil c0 w fun x4 w =>
  stillS C w (fun w k => sFldA Try.prog 81 x4 0 w k) fun x5 =>
  stillS C w (fun w k => sLoad Try.prog 37 x5 w k) fun x6 =>
  sNil c0 w fun x8 w =>
  stillS C w (fun w k => sFldA Try.prog 81 x8 1 w k) fun x9 =>
  stillS C w (fun w k => sLoad Try.prog 3 x9 w k) fun x10 =>
  stillS C w (fun w k => sSlice Try.prog 37 x6 none (some x10) none w k) fun x11 =>
  sCall Try.prog 67 [x11] w fun x12 w =>
  sStore Try.prog 40 x2 x12 w fun w =>
  sLoad Try.prog 40 x2 w fun v w' => w' = w ∧ K v w

def bodkinref06_Cursor_Start.sc : SC := (.seq (.reg (.op 0 .done)) (.seq (.draw (.op 0 (.op 1 (.op 2 (.op 3 (.op 4 (.op 5 (.op 6 (.op 7 (.op 8 (.fin 9 (.fin 10 .done)))))))))))) .nop))

theorem bodkinref06_Cursor_Start.ok : okC Try.f83.ntmps bodkinref06_Cursor_Start.sc (bodyOf Try.f83) = true := by kernel_rfl

theorem bodkinref06_Cursor_Start.eq {K : K1} {c0 : Value} {w : World} : bodkinref06_Cursor_Start K c0 w = codeS Try.prog bodkinref06_Cursor_Start.sc (bodyOf Try.f83) (argsF 0 [c0]) w (retQ Try.prog Try.f83.results.toList K) := by kernel_rfl

theorem bodkinref06_Cursor_Start.call {K : K1} {c0 : Value} {w : World} (h : bodkinref06_Cursor_Start K c0 w) : sCall Try.prog 83 [c0] w K := sCall_code mixed Try.func83 (by kernel_rfl) rfl rfl bodkinref06_Cursor_Start.ok bodkinref06_Cursor_Start.eq h

abbrev bodkinref06_Cursor_Start.n : Nat := 83

/-- '(*bodkin bodkinref06.Cursor).End' -/
def bodkinref06_Cursor_End (K : K1) (c0 : Value) (w : World) : Prop :=
  sAlloc Try.prog 40 w fun x2 w =>
  DrawS w fun C w =>
  sNil c0 w fun x4 w =>
  stillS C w (fun w k => sFldA Try.prog 81 x4 1 w k) fun x5 =>
  stillS C w (fun w k => sLoad Try.prog 3 x5 w k) fun x6 =>
  sNil c0 w fun x8 w =>
  stillS C w (fun w k => sFldA Try.prog 81 x8 0 w k) fun x9 =>
  stillS C w (fun w k => sLoad Try.prog 37 x9 w k) fun x10 =>
  stillS C w (fun w k => sBuiltin Try.prog .len [37] 3 [x10] w k) fun x11 =>
  stillS C w (fun w k => sBin Try.prog .eql 3 false false x6 x11 w k) fun x12 =>
  sIf x12 (
    sCall Try.prog 83 [c0] w fun x14 w =>
    sStore Try.prog 40 x2 x14 w fun w =>
    sLoad Try.prog 40 x2 w fun v w' => w' = w ∧ K v w) (
    DrawS w fun C w =>
    sNil c0 w fun x16 w =>
    stillS C w (fun w k => sFldA Try.prog 81 x16 0 w k) fun x17 =>
    stillS C w (fun w k => sLoad Try.prog 37 x17 w k) fun x18 =>
    sNil c0 w fun x20 w =>
    stillS C w (fun w k => sFldA Try.prog 81 x20 1 w k) fun x21 =>
    stillS C w (fun w k => sLoad Try.prog 3 x21 w k) fun x22 =>
    stillS C w (fun w k => sBin Try.prog .add 3 false true x22 (.int .i64 1) w k) fun x23 =>
    stillS C w (fun w k => sSlice Try.prog 37 x18 none (some x23) none w k) fun x24 =>
    sCall Try.prog 67 [x24] w fun x25 w =>
    sStore Try.prog 40 x2 x25 w fun w =>
    sLoad Try.prog 40 x2 w fun v w' => w' = w ∧ K v w)

def bodkinref06_Cursor_End.sc : SC := (.seq (.reg (.op 0 .done)) (.seq (.seq (.draw (.op 0 (.op 1 (.op 2 (.op 3 (.op 4 (.op 5 (.op 6 (.op 7 (.op 8 (.op 9 .done))))))))))) (.cond (.seq (.reg (.op 0 (.op 1 (.op 2 .done)))) .nop) .nop)) (.seq (.draw (.op 0 (.op 1 (.op 2 (.op 3 (.op 4 (.op 5 (.op 6 (.op 7 (.op 8 (.op 9 (.fin 10 (.fin 11 .done))))))))))))) .nop)))

theorem bodkinref06_Cursor_End.ok : okC Try.f84.ntmps bodkinref06_Cursor_End.sc (bodyOf Try.f84) = true := by kernel_rfl

theorem bodkinref06_Cursor_End.eq {K : K1} {c0 : Value} {w : World} : bodkinref06_Cursor_End K c0 w = codeS Try.prog bodkinref06_Cursor_End.sc (bodyOf Try.f84) (argsF 0 [c0]) w (retQ Try.prog Try.f84.results.toList K) := by kernel_rfl

theorem bodkinref06_Cursor_End.call {K : K1} {c0 : Value} {w : World} (h : bodkinref06_Cursor_End K c0 w) : sCall Try.prog 84 [c0] w K := sCall_code mixed Try.func84 (by kernel_rfl) rfl rfl bodkinref06_Cursor_End.ok bodkinref06_Cursor_End.eq h

abbrev bodkinref06_Cursor_End.n : Nat := 84

/-- '(*bodkin bodkinref06.Cursor).To' -/
def bodkinref06_Cursor_To (K : K1) (c0 dim1 at2 : Value) (w : World) : Prop :=
  sBox Try.prog 23 at2 w fun at5 w =>
  DrawS w fun C w =>
  sNil c0 w fun x8 w =>
  stillS C w (fun w k => sFldA Try.prog 81 x8 0 w k) fun x9 =>
  stillS C w (fun w k => sLoad Try.prog 37 x9 w k) fun x10 =>
  stillS C w (fun w k => sLoad Try.prog 23 at5 w k) fun x12 =>
  sCall Try.prog 21 [x10, dim1, x12] w fun x13 w => C w ∧
  stillS C w (fun w k => sUn Try.prog .not x13 w k) fun x14 =>
  sIf x14 (
    K (.bool false) w) (
    DrawS w fun C w =>
    sNil c0 w fun x17 w =>
    stillS C w (fun w k => sFldA Try.prog 81 x17 0 w k) fun x18 =>
    stillS C w (fun w k => sLoad Try.prog 37 x18 w k) fun x19 =>
    stillS C w (fun w k => sLoad Try.prog 23 at5 w k) fun x21 =>
    sCall Try.prog 22 [x19, dim1, x21] w fun x22 w => C w ∧
    stillS C w (fun w k => sFld Try.prog 42 x22 0 w k) fun x23 =>
    sNil c0 w fun x24 w =>
    stillS C w (fun w k => sFldA Try.prog 81 x24 1 w k) fun x25 =>
    sStore Try.prog 3 x25 x23 w fun w =>
    K (.bool true) w)

def bodkinref06_Cursor_To.sc : SC := (.seq (.reg (.op 0 (.op 1 .done))) (.seq (.seq (.draw (.op 0 (.op 1 (.op 2 (.op 3 (.op 4 (.op 5 (.op 6 (.op 7 .done))))))))) (.cond (.seq (.reg (.op 0 .done)) .nop) .nop)) (.seq (.draw (.op 0 (.op 1 (.op 2 (.op 3 (.op 4 (.op 5 (.op 6 (.op 7 (.op 8 (.op 9 (.op 10 (.fin 11 .done))))))))))))) (.seq (.reg (.op 0 .done)) .nop))))

theorem bodkinref06_Cursor_To.ok : okC Try.f85.ntmps bodkinref06_Cursor_To.sc (bodyOf Try.f85) = true := by kernel_rfl

theorem bodkinref06_Cursor_To.eq {K : K1} {c0 dim1 at2 : Value} {w : World} : bodkinref06_Cursor_To K c0 dim1 at2 w = codeS Try.prog bodkinref06_Cursor_To.sc (bodyOf Try.f85) (argsF 0 [c0, dim1, at2]) w (retQ Try.prog Try.f85.results.toList K) := by kernel_rfl

theorem bodkinref06_Cursor_To.call {K : K1} {c0 dim1 at2 : Value} {w : World} (h : bodkinref06_Cursor_To K c0 dim1 at2 w) : sCall Try.prog 85 [c0, dim1, at2] w K := sCall_code mixed Try.func85 (by kernel_rfl) rfl rfl bodkinref06_Cursor_To.ok bodkinref06_Cursor_To.eq h

abbrev bodkinref06_Cursor_To.n : Nat := 85

/-- '(*bodkin bodkinref06.Cursor).Take' -/
def bodkinref06_Cursor_Take_J2 (K : K1) (Nx1 : List Value → World → Prop) (c0 out7 v2 : Value) (n8 : Value) (w : World) : Prop :=
  sBin Try.prog .gtr 3 false false n8 v2 w fun x41 w =>
  sIf x41 (
    K out7 w) (
    DrawS w fun C w =>
    sNil c0 w fun x44 w =>
    stillS C w (fun w k => sFldA Try.prog 81 x44 0 w k) fun x45 =>
    stillS C w (fun w k => sLoad Try.prog 37 x45 w k) fun x46 =>
    sNil c0 w fun x48 w =>
    stillS C w (fun w k => sFldA Try.prog 81 x48 1 w k) fun x49 =>
    stillS C w (fun w k => sLoad Try.prog 3 x49 w k) fun x50 =>
    stillS C w (fun w k => sIdxA Try.prog 37 x46 x50 w k) fun x51 =>
    stillS C w (fun w k => sLoad Try.prog 105 x51 w k) fun x52 =>
    sBuildSlice Try.prog 37 1 [(0, x52)] w fun x53 w => C w ∧
    sBuiltin Try.prog .append [37, 37] 37 [out7, x53] w fun x54 w => C w ∧
    sNil c0 w fun x56 w =>
    sFldA Try.prog 81 x56 1 w fun x57 w =>
    sLoad Try.prog 3 x57 w fun x58 w =>
    sBin Try.prog .add 3 false true x58 (.int .i64 1) w fun x59 w =>
    sNil c0 w fun x60 w =>
    sFldA Try.prog 81 x60 1 w fun x61 w =>
    sStore Try.prog 3 x61 x59 w fun w =>
    Nx1 [x54] w)

def bodkinref06_Cursor_Take_L1 (K : K1) (Nx1 : List Value → World → Prop) (c0 dim1 v2 : Value) (out7 : Value) (w : World) : Prop :=
  DrawS w fun C w =>
  stillS C w (fun w k => sBin Try.prog .geq 3 false true dim1 (.int .i64 0) w k) fun x10 =>
  sIf x10 (
    stillS C w (fun w k => sBin Try.prog .lss 3 false true dim1 (.int .i64 4) w k) fun x13 =>
    sIf x13 (
      sNil c0 w fun x17 w =>
      stillS C w (fun w k => sFldA Try.prog 81 x17 1 w k) fun x18 =>
      stillS C w (fun w k => sLoad Try.prog 3 x18 w k) fun x19 =>
      sNil c0 w fun x21 w =>
      stillS C w (fun w k => sFldA Try.prog 81 x21 0 w k) fun x22 =>
      stillS C w (fun w k => sLoad Try.prog 37 x22 w k) fun x23 =>
      stillS C w (fun w k => sBuiltin Try.prog .len [37] 3 [x23] w k) fun x24 =>
      stillS C w (fun w k => sBin Try.prog .lss 3 false false x19 x24 w k) fun x25 =>
      sIf x25 (
        sNil c0 w fun x28 w =>
        sFldA Try.prog 81 x28 1 w fun x29 w =>
        sLoad Try.prog 3 x29 w fun x30 w =>
        sBin Try.prog .add 3 false true x30 (.int .i64 1) w fun x31 w =>
        JoinS 1 7 (fun M2 =>
          sBin Try.prog .lss 3 false true dim1 (.int .i64 3) w fun x33 w =>
          sIf x33 (
            sCall Try.prog 84 [c0] w fun x35 w =>
            sFld Try.prog 40 x35 1 w fun x36 w =>
            sIdx Try.prog 30 x36 dim1 w fun x38 w =>
            M2 [x38] w) (
            M2 [x31] w)) fun us _ w =>
          bodkinref06_Cursor_Take_J2 K Nx1 c0 out7 v2 (hd us) w) (
        K out7 w)) (
      K out7 w)) (
    K out7 w)

def bodkinref06_Cursor_Take (K : K1) (c0 dim1 v2 : Value) (w : World) : Prop :=
  LoopS [(.slice none 0 0)] 1 54 w fun us _ w Nx1 =>
    bodkinref06_Cursor_Take_L1 K Nx1 c0 dim1 v2 (hd us) w

def bodkinref06_Cursor_Take.sc : SC := (.seq (.reg (.op 0 .done)) (.seq (.reg (.op 0 .done)) (.seq (.sub (.loop [7] [9, 10, 11, 12, 13, 14, 15, 16, 17, 18, 19, 20, 21, 22, 23, 24, 25, 26, 27, 28, 29, 30, 31, 8, 32, 33, 34, 35, 36, 37, 38, 39, 40, 41, 42, 43, 44, 45, 46, 47, 48, 49, 50, 51, 52, 53, 54, 55, 56, 57, 58, 59, 60, 61] (.seq (.seq (.draw (.op 0 (.op 1 (.op 2 (.test 2 (.op 3 (.op 4 (.op 5 (.op 6 (.test 6 (.op 7 (.op 8 (.op 9 (.op 10 (.op 11 (.op 12 (.op 13 (.op 14 (.op 15 (.op 16 (.op 17 .done))))))))))) (.skip 7 (.skip 8 (.skip 9 (.skip 10 (.skip 11 (.skip 12 (.skip 13 (.skip 14 (.skip 15 (.skip 16 (.op 17 .done)))))))))))))))) (.skip 3 (.skip 4 (.op 5 (.op 6 (.know 6 false (.skip 7 (.skip 8 (.skip 9 (.skip 10 (.skip 11 (.skip 12 (.skip 13 (.skip 14 (.skip 15 (.skip 16 (.op 17 .done))))))))))))))))))))) (.cond .nop .nop)) (.sub (.seq (.reg (.op 0 (.op 1 (.op 2 (.op 3 (.op 4 (.op 5 .done))))))) (.join [8] [32, 33, 34, 35, 36, 37, 38] (.seq (.reg (.op 0 (.op 1 .done))) (.cond (.reg (.op 0 (.op 1 (.op 2 (.op 3 (.op 4 (.op 5 .done))))))) .nop)) (.seq (.seq (.reg (.op 0 (.op 1 (.op 2 .done)))) (.cond .nop .nop)) (.seq (.draw (.op 0 (.op 1 (.op 2 (.op 3 (.op 4 (.op 5 (.op 6 (.op 7 (.op 8 (.op 9 (.op 10 (.op 11 (.op 12 (.op 13 .done))))))))))))))) (.reg (.op 0 (.op 1 (.op 2 (.op 3 (.op 4 (.op 5 (.op 6 (.op 7 .done))))))))))))))))) (.seq (.reg (.op 0 (.op 1 .done))) .nop))))

theorem bodkinref06_Cursor_Take.ok : okC Try.f86.ntmps bodkinref06_Cursor_Take.sc (bodyOf Try.f86) = true := by kernel_rfl

theorem bodkinref06_Cursor_Take.eq {K : K1} {c0 dim1 v2 : Value} {w : World} : bodkinref06_Cursor_Take K c0 dim1 v2 w = codeS Try.prog bodkinref06_Cursor_Take.sc (bodyOf Try.f86) (argsF 0 [c0, dim1, v2]) w (retQ Try.prog Try.f86.results.toList K) := by kernel_rfl

theorem bodkinref06_Cursor_Take.call {K : K1} {c0 dim1 v2 : Value} {w : World} (h : bodkinref06_Cursor_Take K c0 dim1 v2 w) : sCall Try.prog 86 [c0, dim1, v2] w K := sCall_code mixed Try.func86 (by kernel_rfl) rfl rfl bodkinref06_Cursor_Take.ok bodkinref06_Cursor_Take.eq h

abbrev bodkinref06_Cursor_Take.n : Nat := 86

/-- 'bodkin seek.size' -/
def seek_size (K : K1) (s0 dim1 : Value) (w : World) : Prop :=
  sBox Try.prog 32 s0 w fun s2 w =>
  sBin Try.prog .eql 3 false true dim1 (.int .i64 3) w fun x6 w =>
  sIf x6 (
    sFldA Try.prog 32 s2 0 w fun x7 w =>
    sLoad Try.prog 3 x7 w fun x8 w =>
    K x8 w) (
    sFldA Try.prog 32 s2 1 w fun x10 w =>
    sIdxA Try.prog 30 x10 dim1 w fun x11 w =>
    sLoad Try.prog 3 x11 w fun x12 w =>
    K x12 w)

def seek_size.sc : SC := (.seq (.reg (.op 0 (.op 1 .done))) (.seq (.seq (.reg (.op 0 (.op 1 .done))) (.cond (.seq (.reg (.op 0 (.op 1 (.op 2 .done)))) .nop) .nop)) (.seq (.reg (.op 0 (.op 1 (.op 2 (.op 3 (.op 4 .done)))))) .nop)))

theorem seek_size.ok : okC Try.f87.ntmps seek_size.sc (bodyOf Try.f87) = true := by kernel_rfl

theorem seek_size.eq {K : K1} {s0 dim1 : Value} {w : World} : seek_size K s0 dim1 w = codeS Try.prog seek_size.sc (bodyOf Try.f87) (argsF 0 [s0, dim1]) w (retQ Try.prog Try.f87.results.toList K) := by kernel_rfl

theorem seek_size.call {K : K1} {s0 dim1 : Value} {w : World} (h : seek_size K s0 dim1 w) : sCall Try.prog 87 [s0, dim1] w K := sCall_code mixed Try.func87 (by kernel_rfl) rfl rfl seek_size.ok seek_size.eq h

abbrev seek_size.n : Nat := 87

/-- '(*bodkin flow.Flow).Lines' -/
def flow_Flow_Lines_L1 (K : K1) (Nx1 : List Value → World → Prop) (x8 x9 : Value) (out3 x10 : Value) (w : World) : Prop :=
  sBin Try.prog .lss 3 false false x10 x9 w fun x11 w =>
  sIf x11 (
    sIdxA Try.prog 22 x8 x10 w fun x12 w =>
    sLoad Try.prog 51 x12 w fun x13 w =>
    sAlloc Try.prog 51 w fun i5 w =>
    sStore Try.prog 51 i5 x13 w fun w =>
    sLoad Try.prog 51 i5 w fun x15 w =>
    sCall Try.prog 100 [x15] w fun x16 w =>
    sBuildSlice Try.prog 55 1 [(0, x16)] w fun x17 w =>
    sBuiltin Try.prog .append [55, 55] 55 [out3, x17] w fun x18 w =>
    sBin Try.prog .add 3 false true x10 (.int .i64 1) w fun x19 w =>
    Nx1 [x18, x19] w) (
    K out3 w)

def flow_Flow_Lines (K : K1) (f0 : Value) (w : World) : Prop :=
  sCall Try.prog 79 [f0] w fun x7 w =>
  sCall Try.prog 52 [x7] w fun x8 w =>
  sBuiltin Try.prog .len [22] 3 [x8] w fun x9 w =>
  LoopS [(.slice none 0 0), (.int .i64 0)] 2 10 w fun us _ w Nx1 =>
    flow_Flow_Lines_L1 K Nx1 x8 x9 (hd us) (hd (tl us)) w

def flow_Flow_Lines.sc : SC := (.seq (.reg (.op 0 .done)) (.seq (.reg (.op 0 .done)) (.seq (.seq (.reg (.op 0 (.op 1 (.op 2 (.op 3 (.op 4 .done)))))) (.sub (.loop [3, 10] [11, 12, 13, 5, 14, 15, 16, 17, 18, 19] (.seq (.reg (.op 0 .done)) (.seq (.cond .nop .nop) (.seq (.sub (.seq (.reg (.op 0 (.op 1 (.op 2 (.op 3 .done))))) (.reg (.op 0 (.op 1 (.op 2 (.op 3 (.op 4 (.op 5 .done))))))))) (.reg (.op 0 (.op 1 .done))))))))) (.seq (.reg (.op 0 (.op 1 .done))) .nop))))

theorem flow_Flow_Lines.ok : okC Try.f88.ntmps flow_Flow_Lines.sc (bodyOf Try.f88) = true := by kernel_rfl

theorem flow_Flow_Lines.eq {K : K1} {f0 : Value} {w : World} : flow_Flow_Lines K f0 w = codeS Try.prog flow_Flow_Lines.sc (bodyOf Try.f88) (argsF 0 [f0]) w (retQ Try.prog Try.f88.results.toList K) := by kernel_rfl

theorem flow_Flow_Lines.call {K : K1} {f0 : Value} {w : World} (h : flow_Flow_Lines K f0 w) : sCall Try.prog 88 [f0] w K := sCall_code mixed Try.func88 (by kernel_rfl) rfl rfl flow_Flow_Lines.ok flow_Flow_Lines.eq h

abbrev flow_Flow_Lines.n : Nat := 88

/-- 'bodkin bodkinref22.Widest' -/
def bodkinref22_Widest_L1 (K : K1) (Nx1 : List Value → World → Prop) (l0 x6 : Value) (x7 : Value) (w : World) : Prop :=
  sBin Try.prog .lss 3 false false x7 x6 w fun x8 w =>
  sIf x8 (
    sIdxA Try.prog 57 l0 x7 w fun x10 w =>
    sLoad Try.prog 60 x10 w fun x11 w =>
    sAlloc Try.prog 60 w fun x4 w =>
    sStore Try.prog 60 x4 x11 w fun w =>
    DrawS w fun C w =>
    stillS C w (fun w k => sFldA Try.prog 60 x4 3 w k) fun x12 =>
    stillS C w (fun w k => sLoad Try.prog 3 x12 w k) fun x13 =>
    sCall Try.prog 30 [l0] w fun x15 w => C w ∧
    stillS C w (fun w k => sFld Try.prog 60 x15 3 w k) fun x16 =>
    stillS C w (fun w k => sBin Try.prog .eql 3 false false x13 x16 w k) fun x17 =>
    sIf x17 (
      K x7 w) (
      sBin Try.prog .add 3 false true x7 (.int .i64 1) w fun x19 w =>
      Nx1 [x19] w)) (
    K (.int .i64 0) w)

def bodkinref22_Widest (K : K1) (l0 : Value) (w : World) : Prop :=
  sBuiltin Try.prog .len [57] 3 [l0] w fun x6 w =>
  LoopS [(.int .i64 0)] 1 15 w fun us _ w Nx1 =>
    bodkinref22_Widest_L1 K Nx1 l0 x6 (hd us) w

def bodkinref22_Widest.sc : SC := (.seq (.reg (.op 0 .done)) (.seq (.seq (.reg (.op 0 (.op 1 (.op 2 .done)))) (.sub (.loop [7] [8, 9, 10, 11, 4, 3, 12, 13, 14, 15, 16, 17, 18, 2, 19] (.seq (.reg (.op 0 .done)) (.seq (.cond .nop .nop) (.seq (.sub (.seq (.reg (.op 0 (.op 1 (.op 2 (.op 3 (.op 4 (.op 5 .done))))))) (.seq (.draw (.op 0 (.op 1 (.op 2 (.op 3 (.op 4 (.op 5 .done))))))) (.cond (.seq (.reg (.op 0 (.op 1 .done))) .nop) .nop)))) (.reg (.op 0 (.op 1 .done))))))))) (.seq (.reg (.op 0 .done)) .nop)))

theorem bodkinref22_Widest.ok : okC Try.f89.ntmps bodkinref22_Widest.sc (bodyOf Try.f89) = true := by kernel_rfl

theorem bodkinref22_Widest.eq {K : K1} {l0 : Value} {w : World} : bodkinref22_Widest K l0 w = codeS Try.prog bodkinref22_Widest.sc (bodyOf Try.f89) (argsF 0 [l0]) w (retQ Try.prog Try.f89.results.toList K) := by kernel_rfl

theorem bodkinref22_Widest.call {K : K1} {l0 : Value} {w : World} (h : bodkinref22_Widest K l0 w) : sCall Try.prog 89 [l0] w K := sCall_code mixed Try.func89 (by kernel_rfl) rfl rfl bodkinref22_Widest.ok bodkinref22_Widest.eq h

abbrev bodkinref22_Widest.n : Nat := 89

/-- 'bodkin tree.each' -/
def tree_each_L1 (K : K1) (Nx1 : List Value → World → Prop) (f1 x17 x18 : Value) (x19 : Value) (w : World) : Prop :=
  sBin Try.prog .lss 3 false false x19 x18 w fun x20 w =>
  sIf x20 (
    sIdxA Try.prog 22 x17 x19 w fun x21 w =>
    sLoad Try.prog 51 x21 w fun x22 w =>
    sAlloc Try.prog 51 w fun i6 w =>
    sStore Try.prog 51 i6 x22 w fun w =>
    sLoad Try.prog 51 i6 w fun x24 w =>
    sDyn Try.prog f1 [x24] w fun x25 w =>
    sBin Try.prog .add 3 false true x19 (.int .i64 1) w fun x26 w =>
    Nx1 [x26] w) (
    K (.tuple #[]) w)

def tree_each_L2 (K : K1) (Nx2 : List Value → World → Prop) (f1 x33 x34 : Value) (x35 : Value) (w : World) : Prop :=
  sBin Try.prog .lss 3 false false x35 x34 w fun x36 w =>
  sIf x36 (
    sIdxA Try.prog 118 x33 x35 w fun x37 w =>
    sLoad Try.prog 107 x37 w fun x38 w =>
    sCall Try.prog 90 [x38, f1] w fun x41 w =>
    sBin Try.prog .add 3 false true x35 (.int .i64 1) w fun x42 w =>
    Nx2 [x42] w) (
    K (.tuple #[]) w)

def tree_each (K : K1) (n0 f1 : Value) (w : World) : Prop :=
  sAssert Try.prog n0 107 110 true w fun x11 w =>
  sExtract x11 1 w fun x12 w =>
  sExtract x11 0 w fun x13 w =>
  sIf x12 (
    sNil x13 w fun x15 w =>
    sFldA Try.prog 125 x15 0 w fun x16 w =>
    sLoad Try.prog 22 x16 w fun x17 w =>
    sBuiltin Try.prog .len [22] 3 [x17] w fun x18 w =>
    LoopS [(.int .i64 0)] 1 8 w fun us _ w Nx1 =>
      tree_each_L1 K Nx1 f1 x17 x18 (hd us) w) (
    sAssert Try.prog n0 107 116 true w fun x27 w =>
    sExtract x27 1 w fun x28 w =>
    sExtract x27 0 w fun x29 w =>
    sIf x28 (
      sNil x29 w fun x31 w =>
      sFldA Try.prog 120 x31 0 w fun x32 w =>
      sLoad Try.prog 118 x32 w fun x33 w =>
      sBuiltin Try.prog .len [118] 3 [x33] w fun x34 w =>
      LoopS [(.int .i64 0)] 1 8 w fun us _ w Nx2 =>
        tree_each_L2 K Nx2 f1 x33 x34 (hd us) w) (
      K (.tuple #[]) w))

def tree_each.sc : SC := (.seq (.reg (.op 0 .done)) (.sub (.seq (.reg (.op 0 (.op 1 (.op 2 .done)))) (.cond (.seq (.reg (.op 0 .done)) (.seq (.reg (.op 0 (.op 1 (.op 2 (.op 3 (.op 4 (.op 5 .done))))))) (.sub (.loop [19] [20, 21, 22, 6, 23, 24, 25, 26] (.seq (.reg (.op 0 .done)) (.seq (.cond .nop .nop) (.seq (.sub (.seq (.reg (.op 0 (.op 1 (.op 2 (.op 3 .done))))) (.reg (.op 0 (.op 1 (.op 2 .done)))))) (.reg (.op 0 (.op 1 .done)))))))))) (.seq (.reg (.op 0 (.op 1 (.op 2 .done)))) (.cond (.seq (.reg (.op 0 .done)) (.seq (.reg (.op 0 (.op 1 (.op 2 (.op 3 (.op 4 (.op 5 .done))))))) (.sub (.loop [35] [36, 37, 38, 9, 39, 40, 41, 42] (.seq (.reg (.op 0 .done)) (.seq (.cond .nop .nop) (.seq (.sub (.seq (.reg (.op 0 (.op 1 (.op 2 .done)))) (.reg (.op 0 (.op 1 (.op 2 .done)))))) (.reg (.op 0 (.op 1 .done)))))))))) .nop))))))

theorem tree_each.ok : okC Try.f90.ntmps tree_each.sc (bodyOf Try.f90) = true := by kernel_rfl

theorem tree_each.eq {K : K1} {n0 f1 : Value} {w : World} : tree_each K n0 f1 w = codeS Try.prog tree_each.sc (bodyOf Try.f90) (argsF 0 [n0, f1]) w (retQ Try.prog Try.f90.results.toList K) := by kernel_rfl

theorem tree_each.call {K : K1} {n0 f1 : Value} {w : World} (h : tree_each K n0 f1 w) : sCall Try.prog 90 [n0, f1] w K := sCall_code mixed Try.func90 (by kernel_rfl) rfl rfl tree_each.ok tree_each.eq h

abbrev tree_each.n : Nat := 90

/-- '(*bodkin tree.Tree).Items$1' -/
def tree_Tree_Items_1 (K : K1) (i0 x1 : Value) (w : World) : Prop :=
  sBox Try.prog 51 i0 w fun i2 w =>
  sLoad Try.prog 22 x1 w fun x3 w =>
  sLoad Try.prog 51 i2 w fun x4 w =>
  sBuildSlice Try.prog 22 1 [(0, x4)] w fun x5 w =>
  sBuiltin Try.prog .append [22, 22] 22 [x3, x5] w fun x6 w =>
  sStore Try.prog 22 x1 x6 w fun w =>
  K (.tuple #[]) w

def tree_Tree_Items_1.sc : SC := (.seq (.reg (.op 0 .done)) (.reg (.op 0 (.op 1 (.op 2 (.op 3 (.op 4 .done)))))))

theorem tree_Tree_Items_1.ok : okC Try.f91.ntmps tree_Tree_Items_1.sc (bodyOf Try.f91) = true := by kernel_rfl

theorem tree_Tree_Items_1.eq {K : K1} {i0 x1 : Value} {w : World} : tree_Tree_Items_1 K i0 x1 w = codeS Try.prog tree_Tree_Items_1.sc (bodyOf Try.f91) (argsF 0 [i0, x1]) w (retQ Try.prog Try.f91.results.toList K) := by kernel_rfl

theorem tree_Tree_Items_1.call {K : K1} {i0 x1 : Value} {w : World} (h : tree_Tree_Items_1 K i0 x1 w) : sCall Try.prog 91 [i0, x1] w K := sCall_code mixed Try.func91 (by kernel_rfl) rfl rfl tree_Tree_Items_1.ok tree_Tree_Items_1.eq h

abbrev tree_Tree_Items_1.n : Nat := 91

/-- 'bodkin tree.sound' -/
def tree_sound_J1 (K : K1) (x14 : Value) (least5 : Value) (w : World) : Prop :=
  DrawS w fun C w =>
  sNil x14 w fun x17 w =>
  stillS C w (fun w k => sFldA Try.prog 125 x17 0 w k) fun x18 =>
  stillS C w (fun w k => sLoad Try.prog 22 x18 w k) fun x19 =>
  stillS C w (fun w k => sBuiltin Try.prog .len [22] 3 [x19] w k) fun x20 =>
  stillS C w (fun w k => sBin Try.prog .geq 3 false false x20 least5 w k) fun x22 =>
  sIf x22 (
    sNil x14 w fun x25 w =>
    stillS C w (fun w k => sFldA Try.prog 125 x25 0 w k) fun x26 =>
    stillS C w (fun w k => sLoad Try.prog 22 x26 w k) fun x27 =>
    stillS C w (fun w k => sBuiltin Try.prog .len [22] 3 [x27] w k) fun x28 =>
    stillS C w (fun w k => sBin Try.prog .leq 3 false true x28 (.int .i64 8) w k) fun x29 =>
    sIf x29 (
      sNil x14 w fun x33 w =>
      stillS C w (fun w k => sFldA Try.prog 125 x33 1 w k) fun x34 =>
      stillS C w (fun w k => sLoad Try.prog 32 x34 w k) fun x35 =>
      sNil x14 w fun x37 w =>
      stillS C w (fun w k => sFldA Try.prog 125 x37 0 w k) fun x38 =>
      stillS C w (fun w k => sLoad Try.prog 22 x38 w k) fun x39 =>
      sCall Try.prog 96 [x39] w fun x40 w => C w ∧
      stillS C w (fun w k => sBin Try.prog .eql 32 false false x35 x40 w k) fun x41 =>
      K x41 w) (
      K (.bool false) w)) (
    K (.bool false) w)

def tree_sound_L3 (K : K1) (Nx3 : List Value → World → Prop) (least5_1 s8 x45 x50 x51 : Value) (x52 : Value) (w : World) : Prop :=
  sBin Try.prog .lss 3 false false x52 x51 w fun x53 w =>
  sIf x53 (
    sIdxA Try.prog 118 x50 x52 w fun x54 w =>
    sLoad Try.prog 107 x54 w fun x55 w =>
    DrawS w fun C w =>
    sNil x45 w fun x59 w =>
    stillS C w (fun w k => sFldA Try.prog 120 x59 1 w k) fun x60 =>
    stillS C w (fun w k => sLoad Try.prog 3 x60 w k) fun x61 =>
    stillS C w (fun w k => sBin Try.prog .sub 3 false true x61 (.int .i64 1) w k) fun x62 =>
    sCall Try.prog 68 [x55] w fun x57 w => C w ∧
    stillS C w (fun w k => sBin Try.prog .neq 3 false false x57 x62 w k) fun x63 =>
    sIf x63 (
      K (.bool false) w) (
      sCall Try.prog 92 [x55, (.bool false)] w fun x66 w => C w ∧
      stillS C w (fun w k => sUn Try.prog .not x66 w k) fun x67 =>
      sIf x67 (
        K (.bool false) w) (
        DrawS w fun C w =>
        stillS C w (fun w k => sLoad Try.prog 32 s8 w k) fun x69 =>
        sCall Try.prog 64 [x55] w fun x71 w => C w ∧
        sCall Try.prog 63 [x69, x71] w fun x72 w =>
        sStore Try.prog 32 s8 x72 w fun w =>
        sBin Try.prog .add 3 false true x52 (.int .i64 1) w fun x73 w =>
        Nx3 [x73] w))) (
    DrawS w fun C w =>
    sNil x45 w fun x75 w =>
    stillS C w (fun w k => sFldA Try.prog 120 x75 0 w k) fun x76 =>
    stillS C w (fun w k => sLoad Try.prog 118 x76 w k) fun x77 =>
    stillS C w (fun w k => sBuiltin Try.prog .len [118] 3 [x77] w k) fun x78 =>
    stillS C w (fun w k => sBin Try.prog .geq 3 false false x78 least5_1 w k) fun x80 =>
    sIf x80 (
      sNil x45 w fun x83 w =>
      stillS C w (fun w k => sFldA Try.prog 120 x83 0 w k) fun x84 =>
      stillS C w (fun w k => sLoad Try.prog 118 x84 w k) fun x85 =>
      stillS C w (fun w k => sBuiltin Try.prog .len [118] 3 [x85] w k) fun x86 =>
      stillS C w (fun w k => sBin Try.prog .leq 3 false true x86 (.int .i64 8) w k) fun x87 =>
      sIf x87 (
        sNil x45 w fun x91 w =>
        stillS C w (fun w k => sFldA Try.prog 120 x91 2 w k) fun x92 =>
        stillS C w (fun w k => sLoad Try.prog 32 x92 w k) fun x93 =>
        stillS C w (fun w k => sLoad Try.prog 32 s8 w k) fun x94 =>
        stillS C w (fun w k => sBin Try.prog .eql 32 false false x93 x94 w k) fun x95 =>
        K x95 w) (
        K (.bool false) w)) (
      K (.bool false) w))

def tree_sound_J2 (K : K1) (x45 : Value) (least5_1 : Value) (w : World) : Prop :=
  sAlloc Try.prog 32 w fun s8 w =>
  sNil x45 w fun x48 w =>
  sFldA Try.prog 120 x48 0 w fun x49 w =>
  sLoad Try.prog 118 x49 w fun x50 w =>
  sBuiltin Try.prog .len [118] 3 [x50] w fun x51 w =>
  LoopS [(.int .i64 0)] 1 23 w fun us _ w Nx3 =>
    tree_sound_L3 K Nx3 least5_1 s8 x45 x50 x51 (hd us) w

def tree_sound (K : K1) (n0 top1 : Value) (w : World) : Prop :=
  sAssert Try.prog n0 107 110 true w fun x12 w =>
  sExtract x12 1 w fun x13 w =>
  sExtract x12 0 w fun x14 w =>
  sIf x13 (
    JoinS 1 1 (fun M1 =>
      sIf top1 (
        M1 [(.int .i64 1)] w) (
        M1 [(.int .i64 4)] w)) fun us _ w =>
      tree_sound_J1 K x14 (hd us) w) (
    sAssert Try.prog n0 107 116 true w fun x43 w =>
    sExtract x43 1 w fun x44 w =>
    sExtract x43 0 w fun x45 w =>
    sIf x44 (
      JoinS 1 1 (fun M2 =>
        sIf top1 (
          M2 [(.int .i64 2)] w) (
          M2 [(.int .i64 4)] w)) fun us _ w =>
        tree_sound_J2 K x45 (hd us) w) (
      K (.bool true) w))

def tree_sound.sc : SC := (.seq (.reg (.op 0 .done)) (.seq (.reg (.op 0 .done)) (.seq (.seq (.reg (.op 0 .done)) (.sub (.seq (.reg (.op 0 (.op 1 (.op 2 .done)))) (.cond (.seq (.reg (.op 0 .done)) (.join [5] [15] (.seq (.reg (.op 0 .done)) (.cond (.reg (.op 0 .done)) .nop)) (.seq (.draw (.op 0 (.op 1 (.op 2 (.op 3 (.op 4 (.op 5 (.op 6 (.op 7 (.test 7 (.op 8 (.op 9 (.op 10 (.op 11 (.op 12 (.op 13 (.op 14 (.op 15 (.test 15 (.op 16 (.op 17 (.op 18 (.op 19 (.op 20 (.op 21 (.op 22 (.op 23 (.op 24 (.op 25 (.op 26 (.op 27 .done)))))))))))) (.skip 16 (.skip 17 (.skip 18 (.skip 19 (.skip 20 (.skip 21 (.skip 22 (.skip 23 (.skip 24 (.skip 25 (.op 26 (.op 27 .done))))))))))))))))))))) (.skip 8 (.skip 9 (.skip 10 (.skip 11 (.skip 12 (.skip 13 (.op 14 (.op 15 (.know 15 false (.skip 16 (.skip 17 (.skip 18 (.skip 19 (.skip 20 (.skip 21 (.skip 22 (.skip 23 (.skip 24 (.skip 25 (.op 26 (.op 27 .done))))))))))))))))))))))))))))))) .nop))) (.seq (.reg (.op 0 (.op 1 (.op 2 .done)))) (.cond (.seq (.reg (.op 0 .done)) (.join [5] [46] (.seq (.reg (.op 0 .done)) (.cond (.reg (.op 0 .done)) .nop)) (.seq (.reg (.op 0 .done)) (.seq (.seq (.reg (.op 0 (.op 1 (.op 2 (.op 3 (.op 4 (.op 5 .done))))))) (.sub (.loop [52] [53, 54, 55, 10, 56, 57, 58, 59, 60, 61, 62, 63, 64, 65, 66, 67, 68, 4, 69, 70, 71, 72, 73] (.seq (.reg (.op 0 .done)) (.seq (.cond .nop .nop) (.seq (.sub (.seq (.reg (.op 0 (.op 1 (.op 2 .done)))) (.seq (.seq (.draw (.op 0 (.op 2 (.op 3 (.op 4 (.op 5 (.op 6 (.op 1 (.op 7 (.op 8 (.test 8 (.skip 9 (.skip 10 (.skip 11 (.op 12 .done)))) (.op 9 (.op 10 (.op 11 (.op 12 .done))))))))))))))) (.cond (.seq (.reg (.op 0 .done)) .nop) .nop)) (.draw (.op 0 (.op 1 (.op 2 (.fin 3 (.fin 4 .done))))))))) (.reg (.op 0 (.op 1 .done))))))))) (.seq (.draw (.op 0 (.op 1 (.op 2 (.op 3 (.op 4 (.op 5 (.op 6 (.op 7 (.test 7 (.op 8 (.op 9 (.op 10 (.op 11 (.op 12 (.op 13 (.op 14 (.op 15 (.test 15 (.op 16 (.op 17 (.op 18 (.op 19 (.op 20 (.op 21 (.op 22 (.op 23 .done)))))))) (.skip 16 (.skip 17 (.skip 18 (.skip 19 (.skip 20 (.skip 21 (.op 22 (.op 23 .done))))))))))))))))) (.skip 8 (.skip 9 (.skip 10 (.skip 11 (.skip 12 (.skip 13 (.op 14 (.op 15 (.know 15 false (.skip 16 (.skip 17 (.skip 18 (.skip 19 (.skip 20 (.skip 21 (.op 22 (.op 23 .done))))))))))))))))))))))))))) .nop))))) .nop)))))) (.seq (.reg (.op 0 .done)) .nop))))

theorem tree_sound.ok : okC Try.f92.ntmps tree_sound.sc (bodyOf Try.f92) = true := by kernel_rfl

theorem tree_sound.eq {K : K1} {n0 top1 : Value} {w : World} : tree_sound K n0 top1 w = codeS Try.prog tree_sound.sc (bodyOf Try.f92) (argsF 0 [n0, top1]) w (retQ Try.prog Try.f92.results.toList K) := by kernel_rfl

theorem tree_sound.call {K : K1} {n0 top1 : Value} {w : World} (h : tree_sound K n0 top1 w) : sCall Try.prog 92 [n0, top1] w K := sCall_code mixed Try.func92 (by kernel_rfl) rfl rfl tree_sound.ok tree_sound.eq h

abbrev tree_sound.n : Nat := 92

/-- 'bodkin item.within' -/
def item_within (K : K1) (n0 : Value) (w : World) : Prop :=
  sBin Try.prog .geq 3 false true n0 (.int .i64 0) w fun x4 w =>
  sIf x4 (
    sBin Try.prog .leq 3 false true n0 (.int .i64 1099511627776) w fun x7 w =>
    K x7 w) (
    K (.bool false) w)

def item_within.sc : SC := (.seq (.reg (.op 0 .done)) (.seq (.reg (.op 0 (.op 1 (.op 2 (.test 2 (.op 3 (.op 4 (.op 5 (.op 6 .done)))) (.skip 3 (.skip 4 (.op 5 (.op 6 .done))))))))) .nop))

theorem item_within.ok : okC Try.f93.ntmps item_within.sc (bodyOf Try.f93) = true := by kernel_rfl

theorem item_within.eq {K : K1} {n0 : Value} {w : World} : item_within K n0 w = codeS Try.prog item_within.sc (bodyOf Try.f93) (argsF 0 [n0]) w (retQ Try.prog Try.f93.results.toList K) := by kernel_rfl

theorem item_within.call {K : K1} {n0 : Value} {w : World} (h : item_within K n0 w) : sCall Try.prog 93 [n0] w K := sCall_code mixed Try.func93 (by kernel_rfl) rfl rfl item_within.ok item_within.eq h

abbrev item_within.n : Nat := 93

/-- 'bodkin tree.meld' -/
def tree_meld (K : K1) (a0 b1 : Value) (w : World) : Prop :=
  sCall Try.prog 68 [a0] w fun x15 w =>
  sCall Try.prog 68 [b1] w fun x17 w =>
  sBin Try.prog .gtr 3 false false x15 x17 w fun x21 w =>
  sIf x21 (
    sAssert Try.prog a0 107 116 false w fun x23 w =>
    sNil x23 w fun x25 w =>
    sFldA Try.prog 120 x25 0 w fun x26 w =>
    sLoad Try.prog 118 x26 w fun x27 w =>
    sBuiltin Try.prog .len [118] 3 [x27] w fun x28 w =>
    sBin Try.prog .sub 3 false true x28 (.int .i64 1) w fun x29 w =>
    DrawS w fun C w =>
    sNil x23 w fun x31 w =>
    stillS C w (fun w k => sFldA Try.prog 120 x31 0 w k) fun x32 =>
    stillS C w (fun w k => sLoad Try.prog 118 x32 w k) fun x33 =>
    stillS C w (fun w k => sSlice Try.prog 118 x33 none (some x29) none w k) fun x35 =>
    sNil x23 w fun x37 w =>
    stillS C w (fun w k => sFldA Try.prog 120 x37 0 w k) fun x38 =>
    stillS C w (fun w k => sLoad Try.prog 118 x38 w k) fun x39 =>
    stillS C w (fun w k => sIdxA Try.prog 118 x39 x29 w k) fun x41 =>
    stillS C w (fun w k => sLoad Try.prog 107 x41 w k) fun x42 =>
    sCall Try.prog 94 [x42, b1] w fun x44 w => C w ∧
    sCall Try.prog 102 [x35, x44] w fun x45 w => C w ∧
    sCall Try.prog 101 [x45] w fun x46 w => C w ∧
    K x46 w) (
    sBin Try.prog .lss 3 false false x15 x17 w fun x50 w =>
    sIf x50 (
      sAssert Try.prog b1 107 116 false w fun x52 w =>
      DrawS w fun C w =>
      sNil x52 w fun x55 w =>
      stillS C w (fun w k => sFldA Try.prog 120 x55 0 w k) fun x56 =>
      stillS C w (fun w k => sLoad Try.prog 118 x56 w k) fun x57 =>
      stillS C w (fun w k => sIdxA Try.prog 118 x57 (.int .i64 0) w k) fun x58 =>
      stillS C w (fun w k => sLoad Try.prog 107 x58 w k) fun x59 =>
      sNil x52 w fun x62 w =>
      stillS C w (fun w k => sFldA Try.prog 120 x62 0 w k) fun x63 =>
      stillS C w (fun w k => sLoad Try.prog 118 x63 w k) fun x64 =>
      stillS C w (fun w k => sSlice Try.prog 118 x64 (some (.int .i64 1)) none none w k) fun x65 =>
      sCall Try.prog 94 [a0, x59] w fun x60 w => C w ∧
      sCall Try.prog 102 [x60, x65] w fun x66 w => C w ∧
      sCall Try.prog 101 [x66] w fun x67 w => C w ∧
      K x67 w) (
      sAssert Try.prog a0 107 110 true w fun x70 w =>
      sExtract x70 0 w fun x71 w =>
      sExtract x70 1 w fun x72 w =>
      sIf x72 (
        sAssert Try.prog b1 107 110 false w fun x75 w =>
        DrawS w fun C w =>
        sNil x71 w fun x77 w =>
        stillS C w (fun w k => sFldA Try.prog 125 x77 0 w k) fun x78 =>
        stillS C w (fun w k => sLoad Try.prog 22 x78 w k) fun x79 =>
        stillS C w (fun w k => sBuiltin Try.prog .len [22] 3 [x79] w k) fun x80 =>
        sNil x75 w fun x82 w =>
        stillS C w (fun w k => sFldA Try.prog 125 x82 0 w k) fun x83 =>
        stillS C w (fun w k => sLoad Try.prog 22 x83 w k) fun x84 =>
        stillS C w (fun w k => sBuiltin Try.prog .len [22] 3 [x84] w k) fun x85 =>
        stillS C w (fun w k => sBin Try.prog .add 3 false false x80 x85 w k) fun x86 =>
        sMake Try.prog 22 (.int .i64 0) x86 w fun x87 w => C w ∧
        sNil x71 w fun x90 w =>
        sFldA Try.prog 125 x90 0 w fun x91 w =>
        sLoad Try.prog 22 x91 w fun x92 w =>
        sBuiltin Try.prog .append [22, 22] 22 [x87, x92] w fun x93 w =>
        sNil x75 w fun x96 w =>
        sFldA Try.prog 125 x96 0 w fun x97 w =>
        sLoad Try.prog 22 x97 w fun x98 w =>
        sBuiltin Try.prog .append [22, 22] 22 [x93, x98] w fun x99 w =>
        sCall Try.prog 103 [x99] w fun x100 w =>
        K x100 w) (
        DrawS w fun C w =>
        stillS C w (fun w k => sAssert Try.prog a0 107 116 false w k) fun x102 =>
        sNil x102 w fun x103 w =>
        stillS C w (fun w k => sFldA Try.prog 120 x103 0 w k) fun x104 =>
        stillS C w (fun w k => sLoad Try.prog 118 x104 w k) fun x105 =>
        stillS C w (fun w k => sAssert Try.prog b1 107 116 false w k) fun x107 =>
        sNil x107 w fun x108 w =>
        stillS C w (fun w k => sFldA Try.prog 120 x108 0 w k) fun x109 =>
        stillS C w (fun w k => sLoad Try.prog 118 x109 w k) fun x110 =>
        sCall Try.prog 102 [x105, x110] w fun x111 w => C w ∧
        sCall Try.prog 101 [x111] w fun x112 w => C w ∧
        K x112 w)))

def tree_meld.sc : SC := (.seq (.reg (.op 0 .done)) (.seq (.reg (.op 0 (.op 1 (.op 2 (.op 3 (.op 4 (.op 5 .done))))))) (.seq (.sub (.seq (.reg (.op 0 (.op 1 (.op 2 (.op 3 .done))))) (.cond (.seq (.reg (.op 0 (.op 1 (.op 2 .done)))) (.seq (.reg (.op 0 (.op 1 (.op 2 (.op 3 (.op 4 (.op 5 (.op 6 .done)))))))) (.seq (.draw (.op 0 (.op 1 (.op 2 (.op 3 (.op 4 (.op 5 (.op 6 (.op 7 (.op 8 (.op 9 (.op 10 (.op 11 (.op 12 (.op 13 (.op 14 (.op 15 (.op 16 (.op 17 .done))))))))))))))))))) .nop))) (.seq (.reg (.op 0 (.op 1 (.op 2 (.op 3 .done))))) (.cond (.seq (.reg (.op 0 (.op 1 (.op 2 .done)))) (.seq (.draw (.op 0 (.op 1 (.op 2 (.op 3 (.op 4 (.op 5 (.op 6 (.op 8 (.op 9 (.op 10 (.op 11 (.op 12 (.op 7 (.op 13 (.op 14 (.op 15 .done))))))))))))))))) .nop)) .nop))))) (.seq (.seq (.reg (.op 0 (.op 1 (.op 2 (.op 3 (.op 4 (.op 5 (.op 6 .done)))))))) (.seq (.reg (.op 0 .done)) (.cond (.seq (.reg (.op 0 (.op 1 (.op 2 .done)))) (.seq (.draw (.op 0 (.op 1 (.op 2 (.op 3 (.op 4 (.op 5 (.op 6 (.op 7 (.op 8 (.op 9 (.op 10 (.op 11 (.op 12 .done)))))))))))))) (.seq (.reg (.op 0 (.op 1 (.op 2 (.op 3 (.op 4 (.op 5 (.op 6 .done)))))))) (.seq (.reg (.op 0 (.op 1 (.op 2 (.op 3 (.op 4 (.op 5 (.op 6 (.op 7 .done))))))))) .nop)))) .nop))) (.seq (.draw (.op 0 (.op 1 (.op 2 (.op 3 (.op 4 (.op 5 (.op 6 (.op 7 (.op 8 (.op 9 (.op 10 (.op 11 (.op 12 .done)))))))))))))) .nop)))))

theorem tree_meld.ok : okC Try.f94.ntmps tree_meld.sc (bodyOf Try.f94) = true := by kernel_rfl

theorem tree_meld.eq {K : K1} {a0 b1 : Value} {w : World} : tree_meld K a0 b1 w = codeS Try.prog tree_meld.sc (bodyOf Try.f94) (argsF 0 [a0, b1]) w (retQ Try.prog Try.f94.results.toList K) := by kernel_rfl

theorem tree_meld.call {K : K1} {a0 b1 : Value} {w : World} (h : tree_meld K a0 b1 w) : sCall Try.prog 94 [a0, b1] w K := sCall_code mixed Try.func94 (by kernel_rfl) rfl rfl tree_meld.ok tree_meld.eq h

abbrev tree_meld.n : Nat := 94

/-- 'bodkin tree.innerOf' -/
def tree_innerOf_L1 (K : K1) (Nx1 : List Value → World → Prop) (kids0 x13 x15 : Value) (x16 : Value) (w : World) : Prop :=
  sBin Try.prog .lss 3 false false x16 x15 w fun x17 w =>
  sIf x17 (
    sIdxA Try.prog 118 kids0 x16 w fun x18 w =>
    sLoad Try.prog 107 x18 w fun x19 w =>
    DrawS w fun C w =>
    sNil x13 w fun x22 w =>
    stillS C w (fun w k => sFldA Try.prog 120 x22 2 w k) fun x23 =>
    stillS C w (fun w k => sLoad Try.prog 32 x23 w k) fun x24 =>
    sCall Try.prog 64 [x19] w fun x26 w => C w ∧
    sCall Try.prog 63 [x24, x26] w fun x27 w => C w ∧
    sNil x13 w fun x28 w =>
    stillS C w (fun w k => sFldA Try.prog 120 x28 2 w k) fun x29 =>
    sStore Try.prog 32 x29 x27 w fun w =>
    sBin Try.prog .add 3 false true x16 (.int .i64 1) w fun x30 w =>
    Nx1 [x30] w) (
    K x13 w)

def tree_innerOf (K : K1) (kids0 : Value) (w : World) : Prop :=
  sIdxA Try.prog 118 kids0 (.int .i64 0) w fun x8 w =>
  sLoad Try.prog 107 x8 w fun x9 w =>
  sCall Try.prog 68 [x9] w fun x10 w =>
  sBin Try.prog .add 3 false true x10 (.int .i64 1) w fun x11 w =>
  sBuild Try.prog 120 [(0, kids0), (1, x11)] w fun x12 w =>
  sBox Try.prog 120 x12 w fun x13 w =>
  sBuiltin Try.prog .len [118] 3 [kids0] w fun x15 w =>
  LoopS [(.int .i64 0)] 1 15 w fun us _ w Nx1 =>
    tree_innerOf_L1 K Nx1 kids0 x13 x15 (hd us) w

def tree_innerOf.sc : SC := (.seq (.reg (.op 0 .done)) (.seq (.reg (.op 0 (.op 1 (.op 2 (.op 3 (.op 4 (.op 5 (.op 6 (.op 7 (.op 8 .done)))))))))) (.seq (.seq (.reg (.op 0 (.op 1 (.op 2 .done)))) (.sub (.loop [16] [17, 18, 19, 5, 20, 21, 22, 23, 24, 25, 26, 27, 28, 29, 30] (.seq (.reg (.op 0 .done)) (.seq (.cond .nop .nop) (.seq (.sub (.seq (.reg (.op 0 (.op 1 (.op 2 .done)))) (.draw (.op 0 (.op 1 (.op 2 (.op 3 (.op 4 (.op 5 (.op 6 (.op 7 (.op 8 (.op 9 (.fin 10 .done)))))))))))))) (.reg (.op 0 (.op 1 .done))))))))) (.seq (.reg (.op 0 (.op 1 .done))) .nop))))

theorem tree_innerOf.ok : okC Try.f95.ntmps tree_innerOf.sc (bodyOf Try.f95) = true := by kernel_rfl

theorem tree_innerOf.eq {K : K1} {kids0 : Value} {w : World} : tree_innerOf K kids0 w = codeS Try.prog tree_innerOf.sc (bodyOf Try.f95) (argsF 0 [kids0]) w (retQ Try.prog Try.f95.results.toList K) := by kernel_rfl

theorem tree_innerOf.call {K : K1} {kids0 : Value} {w : World} (h : tree_innerOf K kids0 w) : sCall Try.prog 95 [kids0] w K := sCall_code mixed Try.func95 (by kernel_rfl) rfl rfl tree_innerOf.ok tree_innerOf.eq h

abbrev tree_innerOf.n : Nat := 95

/-- 'bodkin item.All' -/
def item_All_L1 (K : K1) (Nx1 : List Value → World → Prop) (l0 s3 x2 x7 : Value) (x8 : Value) (w : World) : Prop :=
  sBin Try.prog .lss 3 false false x8 x7 w fun x9 w =>
  sIf x9 (
    sIdxA Try.prog 22 l0 x8 w fun x10 w =>
    sLoad Try.prog 51 x10 w fun x11 w =>
    sAlloc Try.prog 51 w fun i5 w =>
    sStore Try.prog 51 i5 x11 w fun w =>
    DrawS w fun C w =>
    stillS C w (fun w k => sLoad Try.prog 32 s3 w k) fun x12 =>
    stillS C w (fun w k => sLoad Try.prog 51 i5 w k) fun x13 =>
    sCall Try.prog 65 [x13] w fun x14 w => C w ∧
    sCall Try.prog 63 [x12, x14] w fun x15 w =>
    sStore Try.prog 32 s3 x15 w fun w =>
    sBin Try.prog .add 3 false true x8 (.int .i64 1) w fun x16 w =>
    Nx1 [x16] w) (
    sLoad Try.prog 32 s3 w fun x17 w =>
    sStore Try.prog 32 x2 x17 w fun w =>
    sLoad Try.prog 32 x2 w fun v w' => w' = w ∧ K v w)

def item_All (K : K1) (l0 : Value) (w : World) : Prop :=
  sAlloc Try.prog 32 w fun x2 w =>
  sAlloc Try.prog 32 w fun s3 w =>
  sBuiltin Try.prog .len [22] 3 [l0] w fun x7 w =>
  LoopS [(.int .i64 0)] 1 9 w fun us _ w Nx1 =>
    item_All_L1 K Nx1 l0 s3 x2 x7 (hd us) w

def item_All.sc : SC := (.seq (.reg (.op 0 .done)) (.seq (.reg (.op 0 .done)) (.seq (.seq (.reg (.op 0 (.op 1 (.op 2 .done)))) (.sub (.loop [8] [9, 10, 11, 5, 12, 13, 14, 15, 16] (.seq (.reg (.op 0 .done)) (.seq (.cond .nop .nop) (.seq (.sub (.seq (.reg (.op 0 (.op 1 (.op 2 (.op 3 .done))))) (.draw (.op 0 (.op 1 (.op 2 (.fin 3 (.fin 4 .done)))))))) (.reg (.op 0 (.op 1 .done))))))))) (.seq (.reg (.op 0 (.op 1 .done))) .nop))))

theorem item_All.ok : okC Try.f96.ntmps item_All.sc (bodyOf Try.f96) = true := by kernel_rfl

theorem item_All.eq {K : K1} {l0 : Value} {w : World} : item_All K l0 w = codeS Try.prog item_All.sc (bodyOf Try.f96) (argsF 0 [l0]) w (retQ Try.prog Try.f96.results.toList K) := by kernel_rfl

theorem item_All.call {K : K1} {l0 : Value} {w : World} (h : item_All K l0 w) : sCall Try.prog 96 [l0] w K := sCall_code mixed Try.func96 (by kernel_rfl) rfl rfl item_All.ok item_All.eq h

abbrev item_All.n : Nat := 96

/-- 'bodkin flow.itemOf' -/
def flow_itemOf (K : K1) (l0 : Value) (w : World) : Prop :=
  sBox Try.prog 69 l0 w fun l1 w =>
  sAlloc Try.prog 51 w fun x2 w =>
  sFldA Try.prog 69 l1 0 w fun x3 w =>
  sLoad Try.prog 3 x3 w fun x4 w =>
  sFldA Try.prog 69 l1 1 w fun x5 w =>
  sLoad Try.prog 3 x5 w fun x6 w =>
  sFldA Try.prog 69 l1 2 w fun x7 w =>
  sLoad Try.prog 3 x7 w fun x8 w =>
  sBuild Try.prog 30 [(0, x4), (1, x6), (2, x8)] w fun x9 w =>
  sFldA Try.prog 69 l1 3 w fun x10 w =>
  sLoad Try.prog 3 x10 w fun x11 w =>
  sBuild Try.prog 51 [(2, x9), (3, x11)] w fun x12 w =>
  sStore Try.prog 51 x2 x12 w fun w =>
  sLoad Try.prog 51 x2 w fun v w' => w' = w ∧ K v w

def flow_itemOf.sc : SC := (.seq (.reg (.op 0 (.op 1 .done))) (.seq (.reg (.op 0 (.op 1 (.op 2 (.op 3 (.op 4 (.op 5 (.op 6 (.op 7 (.op 8 (.op 9 (.op 10 .done)))))))))))) .nop))

theorem flow_itemOf.ok : okC Try.f97.ntmps flow_itemOf.sc (bodyOf Try.f97) = true := by kernel_rfl

theorem flow_itemOf.eq {K : K1} {l0 : Value} {w : World} : flow_itemOf K l0 w = codeS Try.prog flow_itemOf.sc (bodyOf Try.f97) (argsF 0 [l0]) w (retQ Try.prog Try.f97.results.toList K) := by kernel_rfl

theorem flow_itemOf.call {K : K1} {l0 : Value} {w : World} (h : flow_itemOf K l0 w) : sCall Try.prog 97 [l0] w K := sCall_code mixed Try.func97 (by kernel_rfl) rfl rfl flow_itemOf.ok flow_itemOf.eq h

abbrev flow_itemOf.n : Nat := 97

/-- 'bodkin flow.spot' -/
def flow_spot (K : K1) (p0 inside1 : Value) (w : World) : Prop :=
  sBox Try.prog 34 p0 w fun p2 w =>
  sAlloc Try.prog 66 w fun x4 w =>
  sFldA Try.prog 34 p2 0 w fun x5 w =>
  sLoad Try.prog 3 x5 w fun x6 w =>
  sFldA Try.prog 34 p2 1 w fun x8 w =>
  sFldA Try.prog 32 x8 1 w fun x9 w =>
  sIdxA Try.prog 30 x9 (.int .i64 2) w fun x10 w =>
  sLoad Try.prog 3 x10 w fun x11 w =>
  sFldA Try.prog 34 p2 1 w fun x12 w =>
  sFldA Try.prog 32 x12 1 w fun x13 w =>
  sIdxA Try.prog 30 x13 (.int .i64 0) w fun x14 w =>
  sLoad Try.prog 3 x14 w fun x15 w =>
  sFldA Try.prog 34 p2 1 w fun x16 w =>
  sFldA Try.prog 32 x16 1 w fun x17 w =>
  sIdxA Try.prog 30 x17 (.int .i64 1) w fun x18 w =>
  sLoad Try.prog 3 x18 w fun x19 w =>
  sBuild Try.prog 66 [(0, x6), (1, inside1), (2, x11), (3, x15), (4, x19)] w fun x20 w =>
  sStore Try.prog 66 x4 x20 w fun w =>
  sLoad Try.prog 66 x4 w fun v w' => w' = w ∧ K v w

def flow_spot.sc : SC := (.seq (.reg (.op 0 (.op 1 .done))) (.seq (.reg (.op 0 (.op 1 (.op 2 (.op 3 (.op 4 (.op 5 (.op 6 (.op 7 (.op 8 (.op 9 (.op 10 (.op 11 (.op 12 (.op 13 (.op 14 (.op 15 (.op 16 .done)))))))))))))))))) .nop))

theorem flow_spot.ok : okC Try.f98.ntmps flow_spot.sc (bodyOf Try.f98) = true := by kernel_rfl

theorem flow_spot.eq {K : K1} {p0 inside1 : Value} {w : World} : flow_spot K p0 inside1 w = codeS Try.prog flow_spot.sc (bodyOf Try.f98) (argsF 0 [p0, inside1]) w (retQ Try.prog Try.f98.results.toList K) := by kernel_rfl

theorem flow_spot.call {K : K1} {p0 inside1 : Value} {w : World} (h : flow_spot K p0 inside1 w) : sCall Try.prog 98 [p0, inside1] w K := sCall_code mixed Try.func98 (by kernel_rfl) rfl rfl flow_spot.ok flow_spot.eq h

abbrev flow_spot.n : Nat := 98

/-- 'bodkin tree.row' -/
def tree_row (K : K1) (kids0 : Value) (w : World) : Prop :=
  sBuiltin Try.prog .len [118] 3 [kids0] w fun x4 w =>
  sBin Try.prog .eql 3 false true x4 (.int .i64 0) w fun x6 w =>
  sIf x6 (
    K .nilIface w) (
    sBin Try.prog .eql 3 false true x4 (.int .i64 1) w fun x8 w =>
    sIf x8 (
      sIdxA Try.prog 118 kids0 (.int .i64 0) w fun x10 w =>
      sLoad Try.prog 107 x10 w fun x11 w =>
      K x11 w) (
      sCall Try.prog 95 [kids0] w fun x13 w =>
      sIface Try.prog 116 x13 w fun x14 w =>
      K x14 w))

def tree_row.sc : SC := (.seq (.reg (.op 0 .done)) (.seq (.seq (.reg (.op 0 (.op 1 .done))) (.sub (.seq (.reg (.op 0 (.op 1 .done))) (.cond (.seq (.reg (.op 0 .done)) .nop) (.seq (.reg (.op 0 (.op 1 .done))) (.cond (.seq (.reg (.op 0 (.op 1 (.op 2 (.op 3 .done))))) .nop) .nop)))))) (.seq (.reg (.op 0 (.op 1 (.op 2 (.op 3 .done))))) .nop)))

theorem tree_row.ok : okC Try.f99.ntmps tree_row.sc (bodyOf Try.f99) = true := by kernel_rfl

theorem tree_row.eq {K : K1} {kids0 : Value} {w : World} : tree_row K kids0 w = codeS Try.prog tree_row.sc (bodyOf Try.f99) (argsF 0 [kids0]) w (retQ Try.prog Try.f99.results.toList K) := by kernel_rfl

theorem tree_row.call {K : K1} {kids0 : Value} {w : World} (h : tree_row K kids0 w) : sCall Try.prog 99 [kids0] w K := sCall_code mixed Try.func99 (by kernel_rfl) rfl rfl tree_row.ok tree_row.eq h

abbrev tree_row.n : Nat := 99

/-- 'bodkin flow.lineOf' -/
def flow_lineOf (K : K1) (i0 : Value) (w : World) : Prop :=
  sBox Try.prog 51 i0 w fun i1 w =>
  sAlloc Try.prog 69 w fun x2 w =>
  sFldA Try.prog 51 i1 2 w fun x3 w =>
  sIdxA Try.prog 30 x3 (.int .i64 0) w fun x4 w =>
  sLoad Try.prog 3 x4 w fun x5 w =>
  sFldA Try.prog 51 i1 2 w fun x6 w =>
  sIdxA Try.prog 30 x6 (.int .i64 1) w fun x7 w =>
  sLoad Try.prog 3 x7 w fun x8 w =>
  sFldA Try.prog 51 i1 2 w fun x9 w =>
  sIdxA Try.prog 30 x9 (.int .i64 2) w fun x10 w =>
  sLoad Try.prog 3 x10 w fun x11 w =>
  sFldA Try.prog 51 i1 3 w fun x12 w =>
  sLoad Try.prog 3 x12 w fun x13 w =>
  sBuild Try.prog 69 [(0, x5), (1, x8), (2, x11), (3, x13)] w fun x14 w =>
  sStore Try.prog 69 x2 x14 w fun w =>
  sLoad Try.prog 69 x2 w fun v w' => w' = w ∧ K v w

def flow_lineOf.sc : SC := (.seq (.reg (.op 0 (.op 1 .done))) (.seq (.reg (.op 0 (.op 1 (.op 2 (.op 3 (.op 4 (.op 5 (.op 6 (.op 7 (.op 8 (.op 9 (.op 10 (.op 11 (.op 12 .done)))))))))))))) .nop))

theorem flow_lineOf.ok : okC Try.f100.ntmps flow_lineOf.sc (bodyOf Try.f100) = true := by kernel_rfl

theorem flow_lineOf.eq {K : K1} {i0 : Value} {w : World} : flow_lineOf K i0 w = codeS Try.prog flow_lineOf.sc (bodyOf Try.f100) (argsF 0 [i0]) w (retQ Try.prog Try.f100.results.toList K) := by kernel_rfl

theorem flow_lineOf.call {K : K1} {i0 : Value} {w : World} (h : flow_lineOf K i0 w) : sCall Try.prog 100 [i0] w K := sCall_code mixed Try.func100 (by kernel_rfl) rfl rfl flow_lineOf.ok flow_lineOf.eq h

abbrev flow_lineOf.n : Nat := 100

/-- 'bodkin tree.raise' -/
def tree_raise (K : K1) (kids0 : Value) (w : World) : Prop :=
  sBuiltin Try.prog .len [118] 3 [kids0] w fun x5 w =>
  sBin Try.prog .leq 3 false true x5 (.int .i64 8) w fun x6 w =>
  sIf x6 (
    sCall Try.prog 95 [kids0] w fun x8 w =>
    sIface Try.prog 116 x8 w fun x9 w =>
    sBuildSlice Try.prog 118 1 [(0, x9)] w fun x10 w =>
    K x10 w) (
    sBuiltin Try.prog .len [118] 3 [kids0] w fun x12 w =>
    sBin Try.prog .quo 3 false true x12 (.int .i64 2) w fun x13 w =>
    DrawS w fun C w =>
    stillS C w (fun w k => sSlice Try.prog 118 kids0 none (some x13) (some x13) w k) fun x17 =>
    stillS C w (fun w k => sSlice Try.prog 118 kids0 (some x13) none none w k) fun x22 =>
    sCall Try.prog 95 [x17] w fun x18 w => C w ∧
    stillS C w (fun w k => sIface Try.prog 116 x18 w k) fun x19 =>
    sCall Try.prog 95 [x22] w fun x23 w => C w ∧
    stillS C w (fun w k => sIface Try.prog 116 x23 w k) fun x24 =>
    sBuildSlice Try.prog 118 2 [(0, x19), (1, x24)] w fun x25 w => C w ∧
    K x25 w)

def tree_raise.sc : SC := (.seq (.reg (.op 0 .done)) (.seq (.seq (.reg (.op 0 (.op 1 (.op 2 .done)))) (.cond (.seq (.reg (.op 0 (.op 1 (.op 2 (.op 3 (.op 4 .done)))))) .nop) .nop)) (.seq (.reg (.op 0 (.op 1 (.op 2 (.op 3 .done))))) (.seq (.draw (.op 0 (.op 1 (.op 2 (.op 3 (.op 6 (.op 7 (.op 8 (.op 4 (.op 5 (.op 9 (.op 10 (.op 11 (.op 12 .done)))))))))))))) .nop))))

theorem tree_raise.ok : okC Try.f101.ntmps tree_raise.sc (bodyOf Try.f101) = true := by kernel_rfl

theorem tree_raise.eq {K : K1} {kids0 : Value} {w : World} : tree_raise K kids0 w = codeS Try.prog tree_raise.sc (bodyOf Try.f101) (argsF 0 [kids0]) w (retQ Try.prog Try.f101.results.toList K) := by kernel_rfl

theorem tree_raise.call {K : K1} {kids0 : Value} {w : World} (h : tree_raise K kids0 w) : sCall Try.prog 101 [kids0] w K := sCall_code mixed Try.func101 (by kernel_rfl) rfl rfl tree_raise.ok tree_raise.eq h

abbrev tree_raise.n : Nat := 101

/-- 'bodkin tree.put' -/
def tree_put (K : K1) (a0 b1 : Value) (w : World) : Prop :=
  sBuiltin Try.prog .len [118] 3 [a0] w fun x7 w =>
  sBuiltin Try.prog .len [118] 3 [b1] w fun x9 w =>
  sBin Try.prog .add 3 false false x7 x9 w fun x10 w =>
  sMake Try.prog 118 (.int .i64 0) x10 w fun x11 w =>
  sBuiltin Try.prog .append [118, 118] 118 [x11, a0] w fun x14 w =>
  sBuiltin Try.prog .append [118, 118] 118 [x14, b1] w fun x17 w =>
  K x17 w

def tree_put.sc : SC := (.seq (.reg (.op 0 .done)) (.seq (.reg (.op 0 (.op 1 (.op 2 (.op 3 (.op 4 (.op 5 (.op 6 .done)))))))) (.seq (.reg (.op 0 (.op 1 (.op 2 (.op 3 .done))))) (.seq (.reg (.op 0 (.op 1 (.op 2 (.op 3 .done))))) .nop))))

theorem tree_put.ok : okC Try.f102.ntmps tree_put.sc (bodyOf Try.f102) = true := by kernel_rfl

theorem tree_put.eq {K : K1} {a0 b1 : Value} {w : World} : tree_put K a0 b1 w = codeS Try.prog tree_put.sc (bodyOf Try.f102) (argsF 0 [a0, b1]) w (retQ Try.prog Try.f102.results.toList K) := by kernel_rfl

theorem tree_put.call {K : K1} {a0 b1 : Value} {w : World} (h : tree_put K a0 b1 w) : sCall Try.prog 102 [a0, b1] w K := sCall_code mixed Try.func102 (by kernel_rfl) rfl rfl tree_put.ok tree_put.eq h

abbrev tree_put.n : Nat := 102

/-- 'bodkin tree.spread' -/
def tree_spread (K : K1) (l0 : Value) (w : World) : Prop :=
  sBuiltin Try.prog .len [22] 3 [l0] w fun x5 w =>
  sBin Try.prog .leq 3 false true x5 (.int .i64 8) w fun x6 w =>
  sIf x6 (
    sCall Try.prog 59 [l0] w fun x8 w =>
    sIface Try.prog 110 x8 w fun x9 w =>
    sBuildSlice Try.prog 118 1 [(0, x9)] w fun x10 w =>
    K x10 w) (
    sBuiltin Try.prog .len [22] 3 [l0] w fun x12 w =>
    sBin Try.prog .quo 3 false true x12 (.int .i64 2) w fun x13 w =>
    DrawS w fun C w =>
    stillS C w (fun w k => sSlice Try.prog 22 l0 none (some x13) (some x13) w k) fun x17 =>
    stillS C w (fun w k => sSlice Try.prog 22 l0 (some x13) none none w k) fun x22 =>
    sCall Try.prog 59 [x17] w fun x18 w => C w ∧
    stillS C w (fun w k => sIface Try.prog 110 x18 w k) fun x19 =>
    sCall Try.prog 59 [x22] w fun x23 w => C w ∧
    stillS C w (fun w k => sIface Try.prog 110 x23 w k) fun x24 =>
    sBuildSlice Try.prog 118 2 [(0, x19), (1, x24)] w fun x25 w => C w ∧
    K x25 w)

def tree_spread.sc : SC := (.seq (.reg (.op 0 .done)) (.seq (.seq (.reg (.op 0 (.op 1 (.op 2 .done)))) (.cond (.seq (.reg (.op 0 (.op 1 (.op 2 (.op 3 (.op 4 .done)))))) .nop) .nop)) (.seq (.reg (.op 0 (.op 1 (.op 2 (.op 3 .done))))) (.seq (.draw (.op 0 (.op 1 (.op 2 (.op 3 (.op 6 (.op 7 (.op 8 (.op 4 (.op 5 (.op 9 (.op 10 (.op 11 (.op 12 .done)))))))))))))) .nop))))

theorem tree_spread.ok : okC Try.f103.ntmps tree_spread.sc (bodyOf Try.f103) = true := by kernel_rfl

theorem tree_spread.eq {K : K1} {l0 : Value} {w : World} : tree_spread K l0 w = codeS Try.prog tree_spread.sc (bodyOf Try.f103) (argsF 0 [l0]) w (retQ Try.prog Try.f103.results.toList K) := by kernel_rfl

theorem tree_spread.call {K : K1} {l0 : Value} {w : World} (h : tree_spread K l0 w) : sCall Try.prog 103 [l0] w K := sCall_code mixed Try.func103 (by kernel_rfl) rfl rfl tree_spread.ok tree_spread.eq h

abbrev tree_spread.n : Nat := 103

end S
end Go.Proofs.Ytmlbaimdphillaa

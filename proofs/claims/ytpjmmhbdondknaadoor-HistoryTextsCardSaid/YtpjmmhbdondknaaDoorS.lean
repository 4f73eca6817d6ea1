/- The functions of this seat, their code without slots, and that a call of each is what its code says: by program (lift.py). No conditions. -/
import Derived.Test.YtpjmmhbdondknaaDoorS1
import Derived.Test.YtpjmmhbdondknaaDoorRows
import Derived.KernelRfl
namespace Go.Proofs.YtpjmmhbdondknaaDoor
open Go Go.Lift
namespace S
set_option maxRecDepth 10000
set_option linter.unusedVariables false
/-- '(*bodkin tree.Tree).Find' -/
def tree_Tree_Find_J5 (Nx3 : List Value → World → Prop) (Nx4 : List Value → World → Prop) (dim1 n13_1 p12 x52 x74 x77 : Value) (s18_3 : Value) (w : World) : Prop :=
  sLoad Tryd.prog 103 s18_3 w fun x84 w =>
  sCall Tryd.prog 93 [x84, dim1] w fun x86 w =>
  sDyn Tryd.prog x52 [x86] w fun x87 w =>
  sIf x87 (
    Nx3 [x77] w) (
    sLoad Tryd.prog 103 s18_3 w fun x89 w =>
    sFldA Tryd.prog 138 p12 1 w fun x90 w =>
    sStore Tryd.prog 103 x90 x89 w fun w =>
    sBin Tryd.prog .add 3 false true x74 (.int .i64 1) w fun x91 w =>
    Nx4 [n13_1, x91] w)

def tree_Tree_Find_L4 (Nx3 : List Value → World → Prop) (Nx4 : List Value → World → Prop) (dim1 p12 x52 x72 x73 : Value) (n13_1 x74 : Value) (w : World) : Prop :=
  sBin Tryd.prog .lss 3 false false x74 x73 w fun x75 w =>
  sIf x75 (
    sIdxA Tryd.prog 128 x72 x74 w fun x76 w =>
    sLoad Tryd.prog 90 x76 w fun x77 w =>
    JoinS 1 5 (fun M5 =>
      DrawS w fun C w =>
      stillS C w (fun w k => sFldA Tryd.prog 138 p12 1 w k) fun x78 =>
      stillS C w (fun w k => sLoad Tryd.prog 103 x78 w k) fun x79 =>
      (
        sCall Tryd.prog 78 [x77] w fun x81 w => C w ∧
        (
          sCall Tryd.prog 76 [x79, x81] w fun x82 w => C w ∧
          sAlloc Tryd.prog 103 w fun s18 w => C w ∧
          sStore Tryd.prog 103 s18 x82 w fun w =>
          M5 [s18] w) ∧ (
          sAlloc Tryd.prog 103 w fun s18_1 w => C w ∧
          sCall Tryd.prog 76 [x79, x81] w fun x82_1 w =>
          sStore Tryd.prog 103 s18_1 x82_1 w fun w =>
          M5 [s18_1] w)) ∧ (
        sAlloc Tryd.prog 103 w fun s18_2 w => C w ∧
        sCall Tryd.prog 78 [x77] w fun x81_1 w => C w ∧
        sCall Tryd.prog 76 [x79, x81_1] w fun x82_2 w =>
        sStore Tryd.prog 103 s18_2 x82_2 w fun w =>
        M5 [s18_2] w)) fun us _ w =>
      tree_Tree_Find_J5 Nx3 Nx4 dim1 n13_1 p12 x52 x74 x77 (hd us) w) (
    Nx3 [n13_1] w)

def tree_Tree_Find_L3 (M2 : List Value → World → Prop) (Nx3 : List Value → World → Prop) (dim1 p12 x52 : Value) (n13 : Value) (w : World) : Prop :=
  sBin Tryd.prog .neq 90 false true n13 .nilIface w fun x57 w =>
  sIf x57 (
    sFldA Tryd.prog 138 p12 2 w fun x58 w =>
    sLoad Tryd.prog 3 x58 w fun x59 w =>
    sBin Tryd.prog .add 3 false true x59 (.int .i64 1) w fun x60 w =>
    sFldA Tryd.prog 138 p12 2 w fun x61 w =>
    sStore Tryd.prog 3 x61 x60 w fun w =>
    sAssert Tryd.prog n13 90 130 true w fun x64 w =>
    sExtract x64 0 w fun x65 w =>
    sExtract x64 1 w fun x66 w =>
    sUn Tryd.prog .not x66 w fun x68 w =>
    sIf x68 (
      M2 [n13] w) (
      sNil x65 w fun x70 w =>
      sFldA Tryd.prog 159 x70 0 w fun x71 w =>
      sLoad Tryd.prog 128 x71 w fun x72 w =>
      sBuiltin Tryd.prog .len [128] 3 [x72] w fun x73 w =>
      LoopS [.nilIface, (.int .i64 0)] 2 19 w fun us _ w Nx4 =>
        tree_Tree_Find_L4 Nx3 Nx4 dim1 p12 x52 x72 x73 (hd us) (hd (tl us)) w)) (
    M2 [n13] w)

def tree_Tree_Find_J8 (M6 : List Value → World → Prop) (Nx7 : List Value → World → Prop) (dim1 p12 x103 x52 : Value) (s23_3 : Value) (w : World) : Prop :=
  sLoad Tryd.prog 103 s23_3 w fun x113 w =>
  sCall Tryd.prog 93 [x113, dim1] w fun x115 w =>
  sDyn Tryd.prog x52 [x115] w fun x116 w =>
  sIf x116 (
    M6 [] w) (
    sLoad Tryd.prog 103 s23_3 w fun x117 w =>
    sFldA Tryd.prog 138 p12 1 w fun x118 w =>
    sStore Tryd.prog 103 x118 x117 w fun w =>
    sBin Tryd.prog .add 3 false true x103 (.int .i64 1) w fun x119 w =>
    Nx7 [x119] w)

def tree_Tree_Find_L7 (M6 : List Value → World → Prop) (Nx7 : List Value → World → Prop) (dim1 p12 x101 x102 x52 : Value) (x103 : Value) (w : World) : Prop :=
  sBin Tryd.prog .lss 3 false false x103 x102 w fun x104 w =>
  sIf x104 (
    sIdxA Tryd.prog 60 x101 x103 w fun x105 w =>
    sLoad Tryd.prog 93 x105 w fun x106 w =>
    sAlloc Tryd.prog 93 w fun i22 w =>
    sStore Tryd.prog 93 i22 x106 w fun w =>
    JoinS 1 5 (fun M8 =>
      DrawS w fun C w =>
      stillS C w (fun w k => sFldA Tryd.prog 138 p12 1 w k) fun x107 =>
      stillS C w (fun w k => sLoad Tryd.prog 103 x107 w k) fun x108 =>
      stillS C w (fun w k => sLoad Tryd.prog 93 i22 w k) fun x109 =>
      (
        sCall Tryd.prog 77 [x109] w fun x110 w => C w ∧
        (
          sCall Tryd.prog 76 [x108, x110] w fun x111 w => C w ∧
          sAlloc Tryd.prog 103 w fun s23 w => C w ∧
          sStore Tryd.prog 103 s23 x111 w fun w =>
          M8 [s23] w) ∧ (
          sAlloc Tryd.prog 103 w fun s23_1 w => C w ∧
          sCall Tryd.prog 76 [x108, x110] w fun x111_1 w =>
          sStore Tryd.prog 103 s23_1 x111_1 w fun w =>
          M8 [s23_1] w)) ∧ (
        sAlloc Tryd.prog 103 w fun s23_2 w => C w ∧
        sCall Tryd.prog 77 [x109] w fun x110_1 w => C w ∧
        sCall Tryd.prog 76 [x108, x110_1] w fun x111_2 w =>
        sStore Tryd.prog 103 s23_2 x111_2 w fun w =>
        M8 [s23_2] w)) fun us _ w =>
      tree_Tree_Find_J8 M6 Nx7 dim1 p12 x103 x52 (hd us) w) (
    M6 [] w)

def tree_Tree_Find_J6 (K : K1) (p12 x8 : Value) (w : World) : Prop :=
  sFldA Tryd.prog 138 p12 1 w fun x120 w =>
  sFldA Tryd.prog 103 x120 0 w fun x121 w =>
  sLoad Tryd.prog 3 x121 w fun x122 w =>
  sFldA Tryd.prog 138 p12 0 w fun x123 w =>
  sStore Tryd.prog 3 x123 x122 w fun w =>
  sLoad Tryd.prog 138 p12 w fun x124 w =>
  sStore Tryd.prog 138 x8 x124 w fun w =>
  sLoad Tryd.prog 138 x8 w fun v w' => w' = w ∧ K (.tuple #[v, (.int .i64 0)]) w

def tree_Tree_Find_J2 (K : K1) (dim1 p12 x52 x8 : Value) (n13_2 : Value) (w : World) : Prop :=
  JoinS 0 32 (fun M6 =>
    sAssert Tryd.prog n13_2 90 96 true w fun x94 w =>
    sExtract x94 0 w fun x95 w =>
    sExtract x94 1 w fun x96 w =>
    sIf x96 (
      sNil x95 w fun x99 w =>
      sFldA Tryd.prog 134 x99 0 w fun x100 w =>
      sLoad Tryd.prog 60 x100 w fun x101 w =>
      sBuiltin Tryd.prog .len [60] 3 [x101] w fun x102 w =>
      LoopS [(.int .i64 0)] 1 18 w fun us _ w Nx7 =>
        tree_Tree_Find_L7 M6 Nx7 dim1 p12 x101 x102 x52 (hd us) w) (
      M6 [] w)) fun us _ w =>
    tree_Tree_Find_J6 K p12 x8 w

def tree_Tree_Find_J1 (K : K1) (bias7 dim1 t0 v6 x8 : Value) (x50 : Value) (w : World) : Prop :=
  sIf x50 (
    sBuild Tryd.prog 138 [] w fun x51 w =>
    sStore Tryd.prog 138 x8 x51 w fun w =>
    sLoad Tryd.prog 138 x8 w fun v w' => w' = w ∧ K (.tuple #[v, (.int .i64 1)]) w) (
    sFunc Tryd.prog (.func 94) [] [v6, bias7] w fun x52 w =>
    sBuild Tryd.prog 138 [] w fun x53 w =>
    sAlloc Tryd.prog 138 w fun p12 w =>
    sStore Tryd.prog 138 p12 x53 w fun w =>
    sCall Tryd.prog 79 [t0] w fun x55 w =>
    JoinS 1 40 (fun M2 =>
      LoopS [x55] 1 40 w fun us _ w Nx3 =>
        tree_Tree_Find_L3 M2 Nx3 dim1 p12 x52 (hd us) w) fun us _ w =>
      tree_Tree_Find_J2 K dim1 p12 x52 x8 (hd us) w)

def tree_Tree_Find (K : K1) (t0 dim1 v2 bias3 : Value) (w : World) : Prop :=
  sBox Tryd.prog 3 v2 w fun v6 w =>
  sBox Tryd.prog 3 bias3 w fun bias7 w =>
  sAlloc Tryd.prog 138 w fun x8 w =>
  sCall Tryd.prog 59 [t0] w fun x25 w =>
  sAlloc Tryd.prog 103 w fun all10 w =>
  sStore Tryd.prog 103 all10 x25 w fun w =>
  JoinS 1 24 (fun M1 =>
    DrawS w fun C w =>
    stillS C w (fun w k => sBin Tryd.prog .lss 3 false true dim1 (.int .i64 0) w k) fun x27 =>
    sIf x27 (
      M1 [(.bool true)] w) (
      stillS C w (fun w k => sBin Tryd.prog .gtr 3 false true dim1 (.int .i64 3) w k) fun x30 =>
      sIf x30 (
        M1 [(.bool true)] w) (
        stillS C w (fun w k => sLoad Tryd.prog 3 v6 w k) fun x33 =>
        stillS C w (fun w k => sBin Tryd.prog .lss 3 false true x33 (.int .i64 0) w k) fun x34 =>
        sIf x34 (
          M1 [(.bool true)] w) (
          stillS C w (fun w k => sLoad Tryd.prog 3 v6 w k) fun x37 =>
          stillS C w (fun w k => sLoad Tryd.prog 103 all10 w k) fun x38 =>
          sCall Tryd.prog 93 [x38, dim1] w fun x40 w => C w ∧
          stillS C w (fun w k => sBin Tryd.prog .gtr 3 false false x37 x40 w k) fun x41 =>
          sIf x41 (
            M1 [(.bool true)] w) (
            stillS C w (fun w k => sLoad Tryd.prog 3 bias7 w k) fun x44 =>
            stillS C w (fun w k => sBin Tryd.prog .neq 3 false true x44 (.int .i64 0) w k) fun x45 =>
            sIf x45 (
              stillS C w (fun w k => sLoad Tryd.prog 3 bias7 w k) fun x47 =>
              stillS C w (fun w k => sBin Tryd.prog .neq 3 false true x47 (.int .i64 1) w k) fun x48 =>
              M1 [x48] w) (
              M1 [(.bool false)] w)))))) fun us _ w =>
    tree_Tree_Find_J1 K bias7 dim1 t0 v6 x8 (hd us) w

def tree_Tree_Find.sc : SC := (.seq (.reg (.op 0 (.op 1 (.op 2 (.op 3 .done))))) (.seq (.reg (.op 0 (.op 1 (.op 2 (.op 3 .done))))) (.seq (.join [50] [26, 27, 28, 29, 30, 31, 32, 33, 34, 35, 36, 37, 38, 39, 40, 41, 42, 43, 44, 45, 46, 47, 48, 49] (.draw (.op 0 (.op 1 (.op 2 (.test 2 (.skip 3 (.skip 4 (.op 5 (.op 6 (.know 6 true (.skip 7 (.skip 8 (.op 9 (.op 10 (.know 10 true (.skip 11 (.skip 12 (.skip 13 (.skip 14 (.skip 15 (.op 16 (.op 17 (.know 17 true (.skip 18 (.skip 19 (.skip 20 (.skip 21 (.skip 22 (.skip 23 (.op 24 .done))))))))))))))))))))))))) (.op 3 (.op 4 (.op 5 (.op 6 (.test 6 (.skip 7 (.skip 8 (.op 9 (.op 10 (.know 10 true (.skip 11 (.skip 12 (.skip 13 (.skip 14 (.skip 15 (.op 16 (.op 17 (.know 17 true (.skip 18 (.skip 19 (.skip 20 (.skip 21 (.skip 22 (.skip 23 (.op 24 .done)))))))))))))))))))) (.op 7 (.op 8 (.op 9 (.op 10 (.test 10 (.skip 11 (.skip 12 (.skip 13 (.skip 14 (.skip 15 (.op 16 (.op 17 (.know 17 true (.skip 18 (.skip 19 (.skip 20 (.skip 21 (.skip 22 (.skip 23 (.op 24 .done))))))))))))))) (.op 11 (.op 12 (.op 13 (.op 14 (.op 15 (.op 16 (.op 17 (.test 17 (.skip 18 (.skip 19 (.skip 20 (.skip 21 (.skip 22 (.skip 23 (.op 24 .done))))))) (.op 18 (.op 19 (.op 20 (.test 20 (.op 21 (.op 22 (.op 23 (.op 24 .done)))) (.skip 21 (.skip 22 (.op 23 (.op 24 .done))))))))))))))))))))))))))))))) (.cond (.seq (.reg (.op 0 (.op 1 (.op 2 .done)))) .nop) .nop)) (.seq (.reg (.op 0 (.op 1 .done))) (.seq (.reg (.op 0 (.op 1 (.op 2 .done)))) (.seq (.reg (.op 0 (.op 1 (.op 2 .done)))) (.join [13] [56, 57, 58, 59, 60, 61, 63, 64, 62, 65, 66, 14, 15, 67, 68, 69, 70, 71, 72, 73, 74, 75, 76, 77, 17, 78, 79, 80, 81, 82, 18, 83, 84, 85, 86, 87, 88, 89, 90, 91] (.sub (.loop [13] [56, 57, 58, 59, 60, 61, 63, 64, 62, 65, 66, 14, 15, 67, 68, 69, 70, 71, 72, 73, 74, 75, 76, 77, 17, 78, 79, 80, 81, 82, 18, 83, 84, 85, 86, 87, 88, 89, 90, 91] (.seq (.seq (.reg (.op 0 (.op 1 .done))) (.cond .nop .nop)) (.sub (.seq (.reg (.op 0 (.op 1 (.op 2 (.op 3 (.op 4 .done)))))) (.seq (.reg (.op 0 (.op 1 (.op 2 (.op 3 (.op 4 (.op 5 (.op 6 .done)))))))) (.seq (.seq (.reg (.op 0 (.op 1 .done))) (.cond .nop .nop)) (.seq (.reg (.op 0 .done)) (.seq (.reg (.op 0 (.op 1 (.op 2 (.op 3 (.op 4 (.op 5 .done))))))) (.sub (.loop [13, 74] [75, 76, 77, 17, 78, 79, 80, 81, 82, 18, 83, 84, 85, 86, 87, 88, 89, 90, 91] (.seq (.reg (.op 0 .done)) (.seq (.cond .nop .nop) (.seq (.sub (.seq (.reg (.op 0 (.op 1 (.op 2 .done)))) (.join [18] [78, 79, 80, 81, 82] (.draw (.op 0 (.op 1 (.op 2 (.alt 3 (.alt 4 (.op 5 (.fin 6 .done)) 5 (.fin 4 (.fin 6 .done))) 5 (.op 3 (.fin 4 (.fin 6 .done)))))))) (.seq (.seq (.reg (.op 0 (.op 1 (.op 2 (.op 3 (.op 4 .done)))))) (.cond (.seq (.reg (.op 0 (.op 1 .done))) .nop) .nop)) (.reg (.op 0 (.op 1 (.op 2 .done)))))))) (.reg (.op 0 (.op 1 .done))))))))))))))))) (.join [] [93, 94, 92, 95, 96, 19, 20, 97, 98, 99, 100, 101, 102, 103, 104, 105, 106, 22, 107, 108, 109, 110, 111, 23, 112, 113, 114, 115, 116, 117, 118, 119] (.seq (.reg (.op 0 (.op 1 (.op 2 (.op 3 (.op 4 (.op 5 (.op 6 .done)))))))) (.seq (.reg (.op 0 .done)) (.cond (.seq (.reg (.op 0 (.op 1 (.op 2 (.op 3 (.op 4 (.op 5 .done))))))) (.sub (.loop [103] [104, 105, 106, 22, 107, 108, 109, 110, 111, 23, 112, 113, 114, 115, 116, 117, 118, 119] (.seq (.reg (.op 0 .done)) (.seq (.cond .nop .nop) (.seq (.sub (.seq (.reg (.op 0 (.op 1 (.op 2 (.op 3 .done))))) (.join [23] [107, 108, 109, 110, 111] (.draw (.op 0 (.op 1 (.op 2 (.alt 3 (.alt 4 (.op 5 (.fin 6 .done)) 5 (.fin 4 (.fin 6 .done))) 5 (.op 3 (.fin 4 (.fin 6 .done)))))))) (.seq (.seq (.reg (.op 0 (.op 1 (.op 2 (.op 3 (.op 4 .done)))))) (.cond .nop .nop)) (.reg (.op 0 (.op 1 (.op 2 .done)))))))) (.reg (.op 0 (.op 1 .done))))))))) .nop))) (.seq (.reg (.op 0 (.op 1 (.op 2 (.op 3 (.op 4 .done)))))) (.seq (.reg (.op 0 (.op 1 (.op 2 .done)))) .nop))))))))))

theorem tree_Tree_Find.ok : okC Tryd.f80.ntmps tree_Tree_Find.sc (bodyOf Tryd.f80) = true := by kernel_rfl

theorem tree_Tree_Find.eq {K : K1} {t0 dim1 v2 bias3 : Value} {w : World} : tree_Tree_Find K t0 dim1 v2 bias3 w = codeS Tryd.prog tree_Tree_Find.sc (bodyOf Tryd.f80) (argsF 0 [t0, dim1, v2, bias3]) w (retQ Tryd.prog Tryd.f80.results.toList K) := by kernel_rfl

theorem tree_Tree_Find.call {K : K1} {t0 dim1 v2 bias3 : Value} {w : World} (h : tree_Tree_Find K t0 dim1 v2 bias3 w) : sCall Tryd.prog 80 [t0, dim1, v2, bias3] w K := sCall_code mixed Tryd.func80 (by kernel_rfl) rfl rfl tree_Tree_Find.ok tree_Tree_Find.eq h

abbrev tree_Tree_Find.n : Nat := 80

/-- 'bodkin tree.split' -/
def tree_split_L1 (K : K1) (Nx1 : List Value → World → Prop) (x51 x55 x56 : Value) (at1_1 x57 : Value) (w : World) : Prop :=
  sBin Tryd.prog .lss 3 false false x57 x56 w fun x58 w =>
  sIf x58 (
    sIdxA Tryd.prog 128 x55 x57 w fun x60 w =>
    sLoad Tryd.prog 90 x60 w fun x61 w =>
    sCall Tryd.prog 78 [x61] w fun x63 w =>
    sFld Tryd.prog 103 x63 0 w fun x64 w =>
    sBin Tryd.prog .leq 3 false false at1_1 x64 w fun x67 w =>
    sIf x67 (
      sCall Tryd.prog 81 [x61, at1_1] w fun x71 w =>
      sExtract x71 0 w fun x72 w =>
      sExtract x71 1 w fun x73 w =>
      DrawS w fun C w =>
      sNil x51 w fun x75 w =>
      stillS C w (fun w k => sFldA Tryd.prog 159 x75 0 w k) fun x76 =>
      stillS C w (fun w k => sLoad Tryd.prog 128 x76 w k) fun x77 =>
      stillS C w (fun w k => sSlice Tryd.prog 128 x77 none (some x57) (some x57) w k) fun x80 =>
      sNil x51 w fun x86 w =>
      stillS C w (fun w k => sFldA Tryd.prog 159 x86 0 w k) fun x87 =>
      stillS C w (fun w k => sLoad Tryd.prog 128 x87 w k) fun x88 =>
      stillS C w (fun w k => sBin Tryd.prog .add 3 false true x57 (.int .i64 1) w k) fun x90 =>
      stillS C w (fun w k => sSlice Tryd.prog 128 x88 (some x90) none none w k) fun x91 =>
      sCall Tryd.prog 95 [x80] w fun x81 w => C w ∧
      sCall Tryd.prog 49 [x81, x72] w fun x83 w => C w ∧
      sCall Tryd.prog 95 [x91] w fun x92 w => C w ∧
      sCall Tryd.prog 49 [x73, x92] w fun x93 w => C w ∧
      K (.tuple #[x83, x93]) w) (
      sBin Tryd.prog .sub 3 false false at1_1 x64 w fun x96 w =>
      sBin Tryd.prog .add 3 false true x57 (.int .i64 1) w fun x97 w =>
      Nx1 [x96, x97] w)) (
    sIface Tryd.prog 130 x51 w fun x99 w =>
    K (.tuple #[x99, .nilIface]) w)

def tree_split (K : K1) (n0 at1 : Value) (w : World) : Prop :=
  sAssert Tryd.prog n0 90 96 true w fun x14 w =>
  sExtract x14 1 w fun x15 w =>
  sExtract x14 0 w fun x16 w =>
  sIf x15 (
    sBin Tryd.prog .leq 3 false true at1 (.int .i64 0) w fun x19 w =>
    sIf x19 (
      sIface Tryd.prog 96 x16 w fun x21 w =>
      K (.tuple #[.nilIface, x21]) w) (
      sNil x16 w fun x25 w =>
      sFldA Tryd.prog 134 x25 0 w fun x26 w =>
      sLoad Tryd.prog 60 x26 w fun x27 w =>
      sBuiltin Tryd.prog .len [60] 3 [x27] w fun x28 w =>
      sBin Tryd.prog .geq 3 false false at1 x28 w fun x29 w =>
      sIf x29 (
        sIface Tryd.prog 96 x16 w fun x31 w =>
        K (.tuple #[x31, .nilIface]) w) (
        DrawS w fun C w =>
        sNil x16 w fun x33 w =>
        stillS C w (fun w k => sFldA Tryd.prog 134 x33 0 w k) fun x34 =>
        stillS C w (fun w k => sLoad Tryd.prog 60 x34 w k) fun x35 =>
        stillS C w (fun w k => sSlice Tryd.prog 60 x35 none (some at1) (some at1) w k) fun x38 =>
        sNil x16 w fun x42 w =>
        stillS C w (fun w k => sFldA Tryd.prog 134 x42 0 w k) fun x43 =>
        stillS C w (fun w k => sLoad Tryd.prog 60 x43 w k) fun x44 =>
        stillS C w (fun w k => sSlice Tryd.prog 60 x44 (some at1) none none w k) fun x46 =>
        sCall Tryd.prog 50 [x38] w fun x39 w => C w ∧
        stillS C w (fun w k => sIface Tryd.prog 96 x39 w k) fun x40 =>
        sCall Tryd.prog 50 [x46] w fun x47 w => C w ∧
        stillS C w (fun w k => sIface Tryd.prog 96 x47 w k) fun x48 =>
        K (.tuple #[x40, x48]) w))) (
    sAssert Tryd.prog n0 90 130 true w fun x49 w =>
    sExtract x49 1 w fun x50 w =>
    sExtract x49 0 w fun x51 w =>
    sIf x50 (
      sNil x51 w fun x53 w =>
      sFldA Tryd.prog 159 x53 0 w fun x54 w =>
      sLoad Tryd.prog 128 x54 w fun x55 w =>
      sBuiltin Tryd.prog .len [128] 3 [x55] w fun x56 w =>
      LoopS [at1, (.int .i64 0)] 2 47 w fun us _ w Nx1 =>
        tree_split_L1 K Nx1 x51 x55 x56 (hd us) (hd (tl us)) w) (
      K (.tuple #[.nilIface, .nilIface]) w))

def tree_split.sc : SC := (.seq (.reg (.op 0 (.op 1 .done))) (.seq (.seq (.reg (.op 0 .done)) (.sub (.seq (.reg (.op 0 (.op 1 (.op 2 .done)))) (.cond (.seq (.reg (.op 0 .done)) (.seq (.sub (.seq (.reg (.op 0 (.op 1 (.op 2 .done)))) (.cond (.seq (.reg (.op 0 (.op 1 (.op 2 (.op 3 .done))))) .nop) (.seq (.reg (.op 0 (.op 1 (.op 2 (.op 3 (.op 4 (.op 5 (.op 6 (.op 7 .done))))))))) (.cond (.seq (.reg (.op 0 (.op 1 (.op 2 (.op 3 .done))))) .nop) .nop))))) (.seq (.draw (.op 0 (.op 1 (.op 2 (.op 3 (.op 4 (.op 5 (.op 6 (.op 9 (.op 10 (.op 11 (.op 12 (.op 13 (.op 14 (.op 7 (.op 8 (.op 15 (.op 16 (.op 17 (.op 18 .done)))))))))))))))))))) .nop))) (.seq (.reg (.op 0 (.op 1 (.op 2 .done)))) (.cond (.seq (.reg (.op 0 .done)) (.seq (.seq (.reg (.op 0 (.op 1 (.op 2 (.op 3 (.op 4 (.op 5 .done))))))) (.sub (.loop [1, 57] [58, 59, 60, 61, 8, 9, 62, 63, 64, 10, 65, 66, 67, 69, 70, 71, 68, 72, 73, 11, 12, 74, 75, 76, 77, 78, 79, 80, 81, 82, 83, 84, 85, 86, 87, 88, 89, 90, 91, 92, 93, 4, 5, 94, 95, 96, 97] (.seq (.reg (.op 0 .done)) (.seq (.cond .nop .nop) (.seq (.sub (.seq (.reg (.op 0 (.op 1 (.op 2 (.op 3 (.op 4 .done)))))) (.seq (.reg (.op 0 (.op 1 (.op 2 (.op 3 .done))))) (.seq (.seq (.reg (.op 0 (.op 1 (.op 2 .done)))) (.cond (.seq (.reg (.op 0 (.op 1 (.op 2 (.op 3 (.op 4 (.op 5 (.op 6 (.op 7 .done))))))))) (.seq (.draw (.op 0 (.op 1 (.op 2 (.op 3 (.op 4 (.op 5 (.op 6 (.op 8 (.op 10 (.op 11 (.op 12 (.op 13 (.op 14 (.op 15 (.op 16 (.op 17 (.op 7 (.op 9 (.op 18 (.op 19 (.op 20 (.op 21 .done))))))))))))))))))))))) .nop)) .nop)) (.reg (.op 0 (.op 1 (.op 2 (.op 3 .done))))))))) (.reg (.op 0 (.op 1 .done))))))))) (.seq (.reg (.op 0 (.op 1 (.op 2 (.op 3 .done))))) .nop))) .nop)))))) (.seq (.reg (.op 0 (.op 1 .done))) .nop)))

theorem tree_split.ok : okC Tryd.f81.ntmps tree_split.sc (bodyOf Tryd.f81) = true := by kernel_rfl

theorem tree_split.eq {K : K1} {n0 at1 : Value} {w : World} : tree_split K n0 at1 w = codeS Tryd.prog tree_split.sc (bodyOf Tryd.f81) (argsF 0 [n0, at1]) w (retQ Tryd.prog Tryd.f81.results.toList K) := by kernel_rfl

theorem tree_split.call {K : K1} {n0 at1 : Value} {w : World} (h : tree_split K n0 at1 w) : sCall Tryd.prog 81 [n0, at1] w K := sCall_code mixed Tryd.func81 (by kernel_rfl) rfl rfl tree_split.ok tree_split.eq h

abbrev tree_split.n : Nat := 81

/-- '(*bodkin rope.Rope).place' -/
def rope_Rope_place_L2 (M1 : List Value → World → Prop) (Nx2 : List Value → World → Prop) (at1 s6 x34 : Value) (n9 : Value) (w : World) : Prop :=
  sNext Tryd.prog x34 true 0 w fun x35 w =>
  sExtract x35 0 w fun x36 w =>
  sIf x36 (
    sExtract x35 1 w fun x37 w =>
    sBin Tryd.prog .eql 3 false false n9 at1 w fun x40 w =>
    sIf x40 (
      sFldA Tryd.prog 105 s6 2 w fun x42 w =>
      sStore Tryd.prog 3 x42 x37 w fun w =>
      M1 [] w) (
      sBin Tryd.prog .add 3 false true n9 (.int .i64 1) w fun x44 w =>
      Nx2 [x44] w)) (
    M1 [] w)

def rope_Rope_place_J1 (K : K1) (s6 x4 : Value) (w : World) : Prop :=
  sLoad Tryd.prog 105 s6 w fun x45 w =>
  sStore Tryd.prog 105 x4 x45 w fun w =>
  sLoad Tryd.prog 105 x4 w fun v w' => w' = w ∧ K (.tuple #[v, (.int .i64 0)]) w

def rope_Rope_place (K : K1) (r0 at1 : Value) (w : World) : Prop :=
  sAlloc Tryd.prog 105 w fun x4 w =>
  sCall Tryd.prog 54 [r0, (.int .i64 1), at1, (.int .i64 1)] w fun x14 w =>
  sExtract x14 0 w fun x15 w =>
  sExtract x14 1 w fun x16 w =>
  sExtract x14 2 w fun x17 w =>
  sAlloc Tryd.prog 105 w fun s6 w =>
  sStore Tryd.prog 105 s6 x15 w fun w =>
  sBin Tryd.prog .neq 24 false true x17 (.int .i64 0) w fun x19 w =>
  sIf x19 (
    sBuild Tryd.prog 105 [] w fun x20 w =>
    sStore Tryd.prog 105 x4 x20 w fun w =>
    sLoad Tryd.prog 105 x4 w fun v w' => w' = w ∧ K (.tuple #[v, x17]) w) (
    sFldA Tryd.prog 105 s6 0 w fun x22 w =>
    sFldA Tryd.prog 103 x22 1 w fun x23 w =>
    sIdxA Tryd.prog 91 x23 (.int .i64 1) w fun x24 w =>
    sLoad Tryd.prog 3 x24 w fun x25 w =>
    sFldA Tryd.prog 105 s6 1 w fun x26 w =>
    sFldA Tryd.prog 93 x26 4 w fun x27 w =>
    sLoad Tryd.prog 9 x27 w fun x28 w =>
    sBuiltin Tryd.prog .len [9] 3 [x28] w fun x29 w =>
    sFldA Tryd.prog 105 s6 2 w fun x30 w =>
    sStore Tryd.prog 3 x30 x29 w fun w =>
    JoinS 0 16 (fun M1 =>
      sFldA Tryd.prog 105 s6 1 w fun x31 w =>
      sFldA Tryd.prog 93 x31 4 w fun x32 w =>
      sLoad Tryd.prog 9 x32 w fun x33 w =>
      sRange Tryd.prog 9 x33 w fun x34 w =>
      LoopS [x25] 1 11 w fun us _ w Nx2 =>
        rope_Rope_place_L2 M1 Nx2 at1 s6 x34 (hd us) w) fun us _ w =>
      rope_Rope_place_J1 K s6 x4 w)

def rope_Rope_place.sc : SC := (.seq (.reg (.op 0 (.op 1 .done))) (.seq (.reg (.op 0 (.op 1 (.op 2 (.op 3 (.op 4 (.op 5 (.op 6 (.op 7 (.op 8 (.op 9 (.op 10 .done)))))))))))) (.seq (.seq (.reg (.op 0 (.op 1 .done))) (.cond (.seq (.reg (.op 0 (.op 1 (.op 2 (.op 3 .done))))) .nop) .nop)) (.seq (.reg (.op 0 (.op 1 (.op 2 (.op 3 (.op 4 .done)))))) (.seq (.reg (.op 0 (.op 1 (.op 2 (.op 3 (.op 4 (.op 5 .done))))))) (.join [] [31, 32, 33, 34, 35, 36, 37, 10, 38, 39, 40, 41, 42, 43, 44, 9] (.seq (.reg (.op 0 (.op 1 (.op 2 (.op 3 .done))))) (.sub (.loop [9] [35, 36, 37, 10, 38, 39, 40, 41, 42, 43, 44] (.seq (.reg (.op 0 (.op 1 .done))) (.seq (.cond .nop .nop) (.sub (.seq (.reg (.op 0 (.op 1 .done))) (.seq (.seq (.reg (.op 0 (.op 1 (.op 2 .done)))) (.cond (.seq (.reg (.op 0 (.op 1 (.op 2 .done)))) .nop) .nop)) (.reg (.op 0 (.op 1 (.op 2 .done)))))))))))) (.seq (.reg (.op 0 (.op 1 (.op 2 .done)))) .nop)))))))

theorem rope_Rope_place.ok : okC Tryd.f82.ntmps rope_Rope_place.sc (bodyOf Tryd.f82) = true := by kernel_rfl

theorem rope_Rope_place.eq {K : K1} {r0 at1 : Value} {w : World} : rope_Rope_place K r0 at1 w = codeS Tryd.prog rope_Rope_place.sc (bodyOf Tryd.f82) (argsF 0 [r0, at1]) w (retQ Tryd.prog Tryd.f82.results.toList K) := by kernel_rfl

theorem rope_Rope_place.call {K : K1} {r0 at1 : Value} {w : World} (h : rope_Rope_place K r0 at1 w) : sCall Tryd.prog 82 [r0, at1] w K := sCall_code mixed Tryd.func82 (by kernel_rfl) rfl rfl rope_Rope_place.ok rope_Rope_place.eq h

abbrev rope_Rope_place.n : Nat := 82

/-- '(*bodkin tree.Tree).At' -/
def tree_Tree_At_L3 (Nx2 : List Value → World → Prop) (Nx3 : List Value → World → Prop) (x34 x35 : Value) (i1_2 n6_1 x36 : Value) (w : World) : Prop :=
  sBin Tryd.prog .lss 3 false false x36 x35 w fun x37 w =>
  sIf x37 (
    sIdxA Tryd.prog 128 x34 x36 w fun x38 w =>
    sLoad Tryd.prog 90 x38 w fun x39 w =>
    sCall Tryd.prog 78 [x39] w fun x41 w =>
    sFld Tryd.prog 103 x41 0 w fun x42 w =>
    sBin Tryd.prog .geq 3 false false i1_2 x42 w fun x45 w =>
    sIf x45 (
      sBin Tryd.prog .sub 3 false false i1_2 x42 w fun x48 w =>
      sBin Tryd.prog .add 3 false true x36 (.int .i64 1) w fun x50 w =>
      Nx3 [x48, n6_1, x50] w) (
      Nx2 [i1_2, x39] w)) (
    Nx2 [i1_2, n6_1] w)

def tree_Tree_At_L2 (K : K1) (Nx2 : List Value → World → Prop) (x4 : Value) (i1_1 n6 : Value) (w : World) : Prop :=
  sAssert Tryd.prog n6 90 130 true w fun x26 w =>
  sExtract x26 0 w fun x27 w =>
  sExtract x26 1 w fun x28 w =>
  sUn Tryd.prog .not x28 w fun x30 w =>
  sIf x30 (
    sAssert Tryd.prog n6 90 96 false w fun x52 w =>
    sNil x52 w fun x53 w =>
    sFldA Tryd.prog 134 x53 0 w fun x54 w =>
    sLoad Tryd.prog 60 x54 w fun x55 w =>
    sIdxA Tryd.prog 60 x55 i1_1 w fun x57 w =>
    sLoad Tryd.prog 93 x57 w fun x58 w =>
    sStore Tryd.prog 93 x4 x58 w fun w =>
    sLoad Tryd.prog 93 x4 w fun v w' => w' = w ∧ K (.tuple #[v, (.int .i64 0)]) w) (
    sNil x27 w fun x32 w =>
    sFldA Tryd.prog 159 x32 0 w fun x33 w =>
    sLoad Tryd.prog 128 x33 w fun x34 w =>
    sBuiltin Tryd.prog .len [128] 3 [x34] w fun x35 w =>
    LoopS [i1_1, n6, (.int .i64 0)] 3 16 w fun us _ w Nx3 =>
      tree_Tree_At_L3 Nx2 Nx3 x34 x35 (hd us) (hd (tl us)) (hd (tl (tl us))) w)

def tree_Tree_At_J1 (K : K1) (i1 t0 x4 : Value) (x20 : Value) (w : World) : Prop :=
  sIf x20 (
    sBuild Tryd.prog 93 [] w fun x21 w =>
    sStore Tryd.prog 93 x4 x21 w fun w =>
    sLoad Tryd.prog 93 x4 w fun v w' => w' = w ∧ K (.tuple #[v, (.int .i64 1)]) w) (
    sCall Tryd.prog 79 [t0] w fun x23 w =>
    LoopS [i1, x23] 2 31 w fun us _ w Nx2 =>
      tree_Tree_At_L2 K Nx2 x4 (hd us) (hd (tl us)) w)

def tree_Tree_At (K : K1) (t0 i1 : Value) (w : World) : Prop :=
  sAlloc Tryd.prog 93 w fun x4 w =>
  JoinS 1 8 (fun M1 =>
    sBin Tryd.prog .lss 3 false true i1 (.int .i64 0) w fun x13 w =>
    sIf x13 (
      M1 [(.bool true)] w) (
      sCall Tryd.prog 59 [t0] w fun x17 w =>
      sFld Tryd.prog 103 x17 0 w fun x18 w =>
      sBin Tryd.prog .geq 3 false false i1 x18 w fun x19 w =>
      M1 [x19] w)) fun us _ w =>
    tree_Tree_At_J1 K i1 t0 x4 (hd us) w

def tree_Tree_At.sc : SC := (.seq (.reg (.op 0 (.op 1 .done))) (.sub (.seq (.join [20] [12, 13, 14, 15, 16, 17, 18, 19] (.reg (.op 0 (.op 1 (.op 2 (.test 2 (.skip 3 (.skip 4 (.skip 5 (.skip 6 (.skip 7 (.op 8 .done)))))) (.op 3 (.op 4 (.op 5 (.op 6 (.op 7 (.op 8 .done))))))))))) (.cond (.seq (.reg (.op 0 (.op 1 (.op 2 .done)))) .nop) .nop)) (.seq (.reg (.op 0 (.op 1 (.op 2 .done)))) (.seq .nop (.seq (.sub (.loop [1, 6] [25, 26, 24, 27, 28, 7, 8, 29, 30, 31, 32, 33, 34, 35, 36, 37, 38, 39, 10, 40, 41, 42, 11, 43, 44, 45, 46, 47, 48, 49, 50] (.sub (.seq (.reg (.op 0 (.op 1 (.op 2 (.op 3 (.op 4 (.op 5 (.op 6 .done)))))))) (.seq (.seq (.reg (.op 0 (.op 1 .done))) (.cond .nop .nop)) (.seq (.reg (.op 0 (.op 1 (.op 2 (.op 3 (.op 4 (.op 5 .done))))))) (.sub (.loop [1, 6, 36] [37, 38, 39, 10, 40, 41, 42, 11, 43, 44, 45, 46, 47, 48, 49, 50] (.seq (.reg (.op 0 .done)) (.seq (.cond .nop .nop) (.seq (.sub (.seq (.reg (.op 0 (.op 1 (.op 2 .done)))) (.seq (.seq (.reg (.op 0 (.op 1 (.op 2 (.op 3 .done))))) (.seq (.reg (.op 0 (.op 1 (.op 2 .done)))) (.cond (.seq (.reg (.op 0 (.op 1 (.op 2 (.op 3 .done))))) .nop) .nop))) (.seq (.reg (.op 0 (.op 1 .done))) .nop)))) (.reg (.op 0 (.op 1 .done)))))))))))))) (.seq (.reg (.op 0 (.op 1 (.op 2 (.op 3 (.op 4 (.op 5 (.op 6 (.op 7 (.op 8 (.op 9 .done))))))))))) .nop)))))))

theorem tree_Tree_At.ok : okC Tryd.f83.ntmps tree_Tree_At.sc (bodyOf Tryd.f83) = true := by kernel_rfl

theorem tree_Tree_At.eq {K : K1} {t0 i1 : Value} {w : World} : tree_Tree_At K t0 i1 w = codeS Tryd.prog tree_Tree_At.sc (bodyOf Tryd.f83) (argsF 0 [t0, i1]) w (retQ Tryd.prog Tryd.f83.results.toList K) := by kernel_rfl

theorem tree_Tree_At.call {K : K1} {t0 i1 : Value} {w : World} (h : tree_Tree_At K t0 i1 w) : sCall Tryd.prog 83 [t0, i1] w K := sCall_code mixed Tryd.func83 (by kernel_rfl) rfl rfl tree_Tree_At.ok tree_Tree_At.eq h

abbrev tree_Tree_At.n : Nat := 83

/-- '(*strings.Builder).copyCheck' -/
def strings_Builder_copyCheck (K : K1) (b0 : Value) (w : World) : Prop :=
  sNil b0 w fun x3 w =>
  sFldA Tryd.prog 118 x3 0 w fun x4 w =>
  sLoad Tryd.prog 115 x4 w fun x5 w =>
  sBin Tryd.prog .eql 115 false true x5 (.pointer none) w fun x6 w =>
  sIf x6 (
    sConv Tryd.prog 115 167 b0 w fun x9 w =>
    sCall Tryd.prog 96 [x9] w fun x10 w =>
    sConv Tryd.prog 167 115 x10 w fun x11 w =>
    sNil b0 w fun x12 w =>
    sFldA Tryd.prog 118 x12 0 w fun x13 w =>
    sStore Tryd.prog 115 x13 x11 w fun w =>
    K (.tuple #[]) w) (
    sNil b0 w fun x15 w =>
    sFldA Tryd.prog 118 x15 0 w fun x16 w =>
    sLoad Tryd.prog 115 x16 w fun x17 w =>
    sBin Tryd.prog .neq 115 false false x17 b0 w fun x19 w =>
    sIf x19 (
      False) (
      K (.tuple #[]) w))

def strings_Builder_copyCheck.sc : SC := (.seq (.reg (.op 0 (.op 1 (.op 2 (.op 3 (.op 4 .done)))))) (.cond (.reg (.op 0 (.op 1 (.op 2 (.op 3 (.op 4 (.op 5 (.op 6 (.op 7 .done))))))))) (.seq (.reg (.op 0 (.op 1 (.op 2 (.op 3 (.op 4 (.op 5 .done))))))) (.cond .nop .nop))))

theorem strings_Builder_copyCheck.ok : okC Tryd.f84.ntmps strings_Builder_copyCheck.sc (bodyOf Tryd.f84) = true := by kernel_rfl

theorem strings_Builder_copyCheck.eq {K : K1} {b0 : Value} {w : World} : strings_Builder_copyCheck K b0 w = codeS Tryd.prog strings_Builder_copyCheck.sc (bodyOf Tryd.f84) (argsF 0 [b0]) w (retQ Tryd.prog Tryd.f84.results.toList K) := by kernel_rfl

theorem strings_Builder_copyCheck.call {K : K1} {b0 : Value} {w : World} (h : strings_Builder_copyCheck K b0 w) : sCall Tryd.prog 84 [b0] w K := sCall_code mixed Tryd.func84 (by kernel_rfl) rfl rfl strings_Builder_copyCheck.ok strings_Builder_copyCheck.eq h

abbrev strings_Builder_copyCheck.n : Nat := 84

/-- 'bodkin utf.right' -/
def utf_right (K : K1) (r0 : Value) (w : World) : Prop :=
  sBin Tryd.prog .geq 21 false true r0 (.int .i32 0) w fun x4 w =>
  sIf x4 (
    sIdxA Tryd.prog 169 (.pointer (some ⟨0, 0, none⟩)) (.int .i64 3) w fun x7 w =>
    sLoad Tryd.prog 21 x7 w fun x8 w =>
    sBin Tryd.prog .leq 21 false false r0 x8 w fun x9 w =>
    sIf x9 (
      sBin Tryd.prog .lss 21 false true r0 (.int .i32 55296) w fun x13 w =>
      sIf x13 (
        K (.bool true) w) (
        sBin Tryd.prog .gtr 21 false true r0 (.int .i32 57343) w fun x16 w =>
        K x16 w)) (
      K (.bool false) w)) (
    K (.bool false) w)

def utf_right.sc : SC := (.seq (.reg (.op 0 .done)) (.seq (.reg (.op 0 (.op 1 (.op 2 (.test 2 (.op 3 (.op 4 (.op 5 (.op 6 (.op 7 (.op 8 (.test 8 (.op 9 (.op 10 (.op 11 (.test 11 (.skip 12 (.skip 13 (.op 14 (.op 15 (.op 16 .done))))) (.op 12 (.op 13 (.op 14 (.op 15 (.op 16 .done))))))))) (.skip 9 (.skip 10 (.skip 11 (.skip 12 (.skip 13 (.skip 14 (.op 15 (.op 16 .done))))))))))))))) (.skip 3 (.skip 4 (.skip 5 (.skip 6 (.op 7 (.op 8 (.know 8 false (.skip 9 (.skip 10 (.skip 11 (.skip 12 (.skip 13 (.skip 14 (.op 15 (.op 16 .done)))))))))))))))))))) .nop))

theorem utf_right.ok : okC Tryd.f85.ntmps utf_right.sc (bodyOf Tryd.f85) = true := by kernel_rfl

theorem utf_right.eq {K : K1} {r0 : Value} {w : World} : utf_right K r0 w = codeS Tryd.prog utf_right.sc (bodyOf Tryd.f85) (argsF 0 [r0]) w (retQ Tryd.prog Tryd.f85.results.toList K) := by kernel_rfl

theorem utf_right.call {K : K1} {r0 : Value} {w : World} (h : utf_right K r0 w) : sCall Tryd.prog 85 [r0] w K := sCall_code mixed Tryd.func85 (by kernel_rfl) rfl rfl utf_right.ok utf_right.eq h

abbrev utf_right.n : Nat := 85

/-- 'bodkin tree.each' -/
def tree_each_L1 (K : K1) (Nx1 : List Value → World → Prop) (f1 x17 x18 : Value) (x19 : Value) (w : World) : Prop :=
  sBin Tryd.prog .lss 3 false false x19 x18 w fun x20 w =>
  sIf x20 (
    sIdxA Tryd.prog 60 x17 x19 w fun x21 w =>
    sLoad Tryd.prog 93 x21 w fun x22 w =>
    sAlloc Tryd.prog 93 w fun i6 w =>
    sStore Tryd.prog 93 i6 x22 w fun w =>
    sLoad Tryd.prog 93 i6 w fun x24 w =>
    sDyn Tryd.prog f1 [x24] w fun x25 w =>
    sBin Tryd.prog .add 3 false true x19 (.int .i64 1) w fun x26 w =>
    Nx1 [x26] w) (
    K (.tuple #[]) w)

def tree_each_L2 (K : K1) (Nx2 : List Value → World → Prop) (f1 x33 x34 : Value) (x35 : Value) (w : World) : Prop :=
  sBin Tryd.prog .lss 3 false false x35 x34 w fun x36 w =>
  sIf x36 (
    sIdxA Tryd.prog 128 x33 x35 w fun x37 w =>
    sLoad Tryd.prog 90 x37 w fun x38 w =>
    sCall Tryd.prog 87 [x38, f1] w fun x41 w =>
    sBin Tryd.prog .add 3 false true x35 (.int .i64 1) w fun x42 w =>
    Nx2 [x42] w) (
    K (.tuple #[]) w)

def tree_each (K : K1) (n0 f1 : Value) (w : World) : Prop :=
  sAssert Tryd.prog n0 90 96 true w fun x11 w =>
  sExtract x11 1 w fun x12 w =>
  sExtract x11 0 w fun x13 w =>
  sIf x12 (
    sNil x13 w fun x15 w =>
    sFldA Tryd.prog 134 x15 0 w fun x16 w =>
    sLoad Tryd.prog 60 x16 w fun x17 w =>
    sBuiltin Tryd.prog .len [60] 3 [x17] w fun x18 w =>
    LoopS [(.int .i64 0)] 1 8 w fun us _ w Nx1 =>
      tree_each_L1 K Nx1 f1 x17 x18 (hd us) w) (
    sAssert Tryd.prog n0 90 130 true w fun x27 w =>
    sExtract x27 1 w fun x28 w =>
    sExtract x27 0 w fun x29 w =>
    sIf x28 (
      sNil x29 w fun x31 w =>
      sFldA Tryd.prog 159 x31 0 w fun x32 w =>
      sLoad Tryd.prog 128 x32 w fun x33 w =>
      sBuiltin Tryd.prog .len [128] 3 [x33] w fun x34 w =>
      LoopS [(.int .i64 0)] 1 8 w fun us _ w Nx2 =>
        tree_each_L2 K Nx2 f1 x33 x34 (hd us) w) (
      K (.tuple #[]) w))

def tree_each.sc : SC := (.seq (.reg (.op 0 .done)) (.sub (.seq (.reg (.op 0 (.op 1 (.op 2 .done)))) (.cond (.seq (.reg (.op 0 .done)) (.seq (.reg (.op 0 (.op 1 (.op 2 (.op 3 (.op 4 (.op 5 .done))))))) (.sub (.loop [19] [20, 21, 22, 6, 23, 24, 25, 26] (.seq (.reg (.op 0 .done)) (.seq (.cond .nop .nop) (.seq (.sub (.seq (.reg (.op 0 (.op 1 (.op 2 (.op 3 .done))))) (.reg (.op 0 (.op 1 (.op 2 .done)))))) (.reg (.op 0 (.op 1 .done)))))))))) (.seq (.reg (.op 0 (.op 1 (.op 2 .done)))) (.cond (.seq (.reg (.op 0 .done)) (.seq (.reg (.op 0 (.op 1 (.op 2 (.op 3 (.op 4 (.op 5 .done))))))) (.sub (.loop [35] [36, 37, 38, 9, 39, 40, 41, 42] (.seq (.reg (.op 0 .done)) (.seq (.cond .nop .nop) (.seq (.sub (.seq (.reg (.op 0 (.op 1 (.op 2 .done)))) (.reg (.op 0 (.op 1 (.op 2 .done)))))) (.reg (.op 0 (.op 1 .done)))))))))) .nop))))))

theorem tree_each.ok : okC Tryd.f87.ntmps tree_each.sc (bodyOf Tryd.f87) = true := by kernel_rfl

theorem tree_each.eq {K : K1} {n0 f1 : Value} {w : World} : tree_each K n0 f1 w = codeS Tryd.prog tree_each.sc (bodyOf Tryd.f87) (argsF 0 [n0, f1]) w (retQ Tryd.prog Tryd.f87.results.toList K) := by kernel_rfl

theorem tree_each.call {K : K1} {n0 f1 : Value} {w : World} (h : tree_each K n0 f1 w) : sCall Tryd.prog 87 [n0, f1] w K := sCall_code mixed Tryd.func87 (by kernel_rfl) rfl rfl tree_each.ok tree_each.eq h

abbrev tree_each.n : Nat := 87

/-- '(*bodkin tree.Tree).Items$1' -/
def tree_Tree_Items_1 (K : K1) (i0 x1 : Value) (w : World) : Prop :=
  sBox Tryd.prog 93 i0 w fun i2 w =>
  sLoad Tryd.prog 60 x1 w fun x3 w =>
  sLoad Tryd.prog 93 i2 w fun x4 w =>
  sBuildSlice Tryd.prog 60 1 [(0, x4)] w fun x5 w =>
  sBuiltin Tryd.prog .append [60, 60] 60 [x3, x5] w fun x6 w =>
  sStore Tryd.prog 60 x1 x6 w fun w =>
  K (.tuple #[]) w

def tree_Tree_Items_1.sc : SC := (.seq (.reg (.op 0 .done)) (.reg (.op 0 (.op 1 (.op 2 (.op 3 (.op 4 .done)))))))

theorem tree_Tree_Items_1.ok : okC Tryd.f88.ntmps tree_Tree_Items_1.sc (bodyOf Tryd.f88) = true := by kernel_rfl

theorem tree_Tree_Items_1.eq {K : K1} {i0 x1 : Value} {w : World} : tree_Tree_Items_1 K i0 x1 w = codeS Tryd.prog tree_Tree_Items_1.sc (bodyOf Tryd.f88) (argsF 0 [i0, x1]) w (retQ Tryd.prog Tryd.f88.results.toList K) := by kernel_rfl

theorem tree_Tree_Items_1.call {K : K1} {i0 x1 : Value} {w : World} (h : tree_Tree_Items_1 K i0 x1 w) : sCall Tryd.prog 88 [i0, x1] w K := sCall_code mixed Tryd.func88 (by kernel_rfl) rfl rfl tree_Tree_Items_1.ok tree_Tree_Items_1.eq h

abbrev tree_Tree_Items_1.n : Nat := 88

/-- 'bodkin tree.heightOf' -/
def tree_heightOf (K : K1) (n0 : Value) (w : World) : Prop :=
  sAssert Tryd.prog n0 90 96 true w fun x6 w =>
  sExtract x6 1 w fun x7 w =>
  sExtract x6 0 w fun x8 w =>
  sIf x7 (
    K (.int .i64 1) w) (
    sAssert Tryd.prog n0 90 130 true w fun x9 w =>
    sExtract x9 1 w fun x10 w =>
    sExtract x9 0 w fun x11 w =>
    sIf x10 (
      sNil x11 w fun x13 w =>
      sFldA Tryd.prog 159 x13 1 w fun x14 w =>
      sLoad Tryd.prog 3 x14 w fun x15 w =>
      K x15 w) (
      K (.int .i64 0) w))

def tree_heightOf.sc : SC := (.seq (.reg (.op 0 .done)) (.seq (.seq (.reg (.op 0 .done)) (.sub (.seq (.reg (.op 0 (.op 1 (.op 2 .done)))) (.cond (.seq (.reg (.op 0 .done)) (.seq (.reg (.op 0 .done)) .nop)) (.seq (.reg (.op 0 (.op 1 (.op 2 .done)))) (.cond (.seq (.reg (.op 0 .done)) (.seq (.reg (.op 0 (.op 1 (.op 2 (.op 3 (.op 4 .done)))))) .nop)) .nop)))))) (.seq (.reg (.op 0 .done)) .nop)))

theorem tree_heightOf.ok : okC Tryd.f89.ntmps tree_heightOf.sc (bodyOf Tryd.f89) = true := by kernel_rfl

theorem tree_heightOf.eq {K : K1} {n0 : Value} {w : World} : tree_heightOf K n0 w = codeS Tryd.prog tree_heightOf.sc (bodyOf Tryd.f89) (argsF 0 [n0]) w (retQ Tryd.prog Tryd.f89.results.toList K) := by kernel_rfl

theorem tree_heightOf.call {K : K1} {n0 : Value} {w : World} (h : tree_heightOf K n0 w) : sCall Tryd.prog 89 [n0] w K := sCall_code mixed Tryd.func89 (by kernel_rfl) rfl rfl tree_heightOf.ok tree_heightOf.eq h

abbrev tree_heightOf.n : Nat := 89

/-- 'bodkin tree.raise' -/
def tree_raise (K : K1) (kids0 : Value) (w : World) : Prop :=
  sBuiltin Tryd.prog .len [128] 3 [kids0] w fun x5 w =>
  sBin Tryd.prog .leq 3 false true x5 (.int .i64 8) w fun x6 w =>
  sIf x6 (
    sCall Tryd.prog 72 [kids0] w fun x8 w =>
    sIface Tryd.prog 130 x8 w fun x9 w =>
    sBuildSlice Tryd.prog 128 1 [(0, x9)] w fun x10 w =>
    K x10 w) (
    sBuiltin Tryd.prog .len [128] 3 [kids0] w fun x12 w =>
    sBin Tryd.prog .quo 3 false true x12 (.int .i64 2) w fun x13 w =>
    DrawS w fun C w =>
    stillS C w (fun w k => sSlice Tryd.prog 128 kids0 none (some x13) (some x13) w k) fun x17 =>
    stillS C w (fun w k => sSlice Tryd.prog 128 kids0 (some x13) none none w k) fun x22 =>
    sCall Tryd.prog 72 [x17] w fun x18 w => C w ∧
    stillS C w (fun w k => sIface Tryd.prog 130 x18 w k) fun x19 =>
    sCall Tryd.prog 72 [x22] w fun x23 w => C w ∧
    stillS C w (fun w k => sIface Tryd.prog 130 x23 w k) fun x24 =>
    sBuildSlice Tryd.prog 128 2 [(0, x19), (1, x24)] w fun x25 w => C w ∧
    K x25 w)

def tree_raise.sc : SC := (.seq (.reg (.op 0 .done)) (.seq (.seq (.reg (.op 0 (.op 1 (.op 2 .done)))) (.cond (.seq (.reg (.op 0 (.op 1 (.op 2 (.op 3 (.op 4 .done)))))) .nop) .nop)) (.seq (.reg (.op 0 (.op 1 (.op 2 (.op 3 .done))))) (.seq (.draw (.op 0 (.op 1 (.op 2 (.op 3 (.op 6 (.op 7 (.op 8 (.op 4 (.op 5 (.op 9 (.op 10 (.op 11 (.op 12 .done)))))))))))))) .nop))))

theorem tree_raise.ok : okC Tryd.f90.ntmps tree_raise.sc (bodyOf Tryd.f90) = true := by kernel_rfl

theorem tree_raise.eq {K : K1} {kids0 : Value} {w : World} : tree_raise K kids0 w = codeS Tryd.prog tree_raise.sc (bodyOf Tryd.f90) (argsF 0 [kids0]) w (retQ Tryd.prog Tryd.f90.results.toList K) := by kernel_rfl

theorem tree_raise.call {K : K1} {kids0 : Value} {w : World} (h : tree_raise K kids0 w) : sCall Tryd.prog 90 [kids0] w K := sCall_code mixed Tryd.func90 (by kernel_rfl) rfl rfl tree_raise.ok tree_raise.eq h

abbrev tree_raise.n : Nat := 90

/-- 'bodkin tree.put' -/
def tree_put (K : K1) (a0 b1 : Value) (w : World) : Prop :=
  sBuiltin Tryd.prog .len [128] 3 [a0] w fun x7 w =>
  sBuiltin Tryd.prog .len [128] 3 [b1] w fun x9 w =>
  sBin Tryd.prog .add 3 false false x7 x9 w fun x10 w =>
  sMake Tryd.prog 128 (.int .i64 0) x10 w fun x11 w =>
  sBuiltin Tryd.prog .append [128, 128] 128 [x11, a0] w fun x14 w =>
  sBuiltin Tryd.prog .append [128, 128] 128 [x14, b1] w fun x17 w =>
  K x17 w

def tree_put.sc : SC := (.seq (.reg (.op 0 .done)) (.seq (.reg (.op 0 (.op 1 (.op 2 (.op 3 (.op 4 (.op 5 (.op 6 .done)))))))) (.seq (.reg (.op 0 (.op 1 (.op 2 (.op 3 .done))))) (.seq (.reg (.op 0 (.op 1 (.op 2 (.op 3 .done))))) .nop))))

theorem tree_put.ok : okC Tryd.f91.ntmps tree_put.sc (bodyOf Tryd.f91) = true := by kernel_rfl

theorem tree_put.eq {K : K1} {a0 b1 : Value} {w : World} : tree_put K a0 b1 w = codeS Tryd.prog tree_put.sc (bodyOf Tryd.f91) (argsF 0 [a0, b1]) w (retQ Tryd.prog Tryd.f91.results.toList K) := by kernel_rfl

theorem tree_put.call {K : K1} {a0 b1 : Value} {w : World} (h : tree_put K a0 b1 w) : sCall Tryd.prog 91 [a0, b1] w K := sCall_code mixed Tryd.func91 (by kernel_rfl) rfl rfl tree_put.ok tree_put.eq h

abbrev tree_put.n : Nat := 91

/-- 'bodkin tree.spread' -/
def tree_spread (K : K1) (l0 : Value) (w : World) : Prop :=
  sBuiltin Tryd.prog .len [60] 3 [l0] w fun x5 w =>
  sBin Tryd.prog .leq 3 false true x5 (.int .i64 8) w fun x6 w =>
  sIf x6 (
    sCall Tryd.prog 50 [l0] w fun x8 w =>
    sIface Tryd.prog 96 x8 w fun x9 w =>
    sBuildSlice Tryd.prog 128 1 [(0, x9)] w fun x10 w =>
    K x10 w) (
    sBuiltin Tryd.prog .len [60] 3 [l0] w fun x12 w =>
    sBin Tryd.prog .quo 3 false true x12 (.int .i64 2) w fun x13 w =>
    DrawS w fun C w =>
    stillS C w (fun w k => sSlice Tryd.prog 60 l0 none (some x13) (some x13) w k) fun x17 =>
    stillS C w (fun w k => sSlice Tryd.prog 60 l0 (some x13) none none w k) fun x22 =>
    sCall Tryd.prog 50 [x17] w fun x18 w => C w ∧
    stillS C w (fun w k => sIface Tryd.prog 96 x18 w k) fun x19 =>
    sCall Tryd.prog 50 [x22] w fun x23 w => C w ∧
    stillS C w (fun w k => sIface Tryd.prog 96 x23 w k) fun x24 =>
    sBuildSlice Tryd.prog 128 2 [(0, x19), (1, x24)] w fun x25 w => C w ∧
    K x25 w)

def tree_spread.sc : SC := (.seq (.reg (.op 0 .done)) (.seq (.seq (.reg (.op 0 (.op 1 (.op 2 .done)))) (.cond (.seq (.reg (.op 0 (.op 1 (.op 2 (.op 3 (.op 4 .done)))))) .nop) .nop)) (.seq (.reg (.op 0 (.op 1 (.op 2 (.op 3 .done))))) (.seq (.draw (.op 0 (.op 1 (.op 2 (.op 3 (.op 6 (.op 7 (.op 8 (.op 4 (.op 5 (.op 9 (.op 10 (.op 11 (.op 12 .done)))))))))))))) .nop))))

theorem tree_spread.ok : okC Tryd.f92.ntmps tree_spread.sc (bodyOf Tryd.f92) = true := by kernel_rfl

theorem tree_spread.eq {K : K1} {l0 : Value} {w : World} : tree_spread K l0 w = codeS Tryd.prog tree_spread.sc (bodyOf Tryd.f92) (argsF 0 [l0]) w (retQ Tryd.prog Tryd.f92.results.toList K) := by kernel_rfl

theorem tree_spread.call {K : K1} {l0 : Value} {w : World} (h : tree_spread K l0 w) : sCall Tryd.prog 92 [l0] w K := sCall_code mixed Tryd.func92 (by kernel_rfl) rfl rfl tree_spread.ok tree_spread.eq h

abbrev tree_spread.n : Nat := 92

/-- 'bodkin tree.size' -/
def tree_size (K : K1) (s0 dim1 : Value) (w : World) : Prop :=
  sBox Tryd.prog 103 s0 w fun s2 w =>
  sBin Tryd.prog .eql 3 false true dim1 (.int .i64 3) w fun x6 w =>
  sIf x6 (
    sFldA Tryd.prog 103 s2 0 w fun x7 w =>
    sLoad Tryd.prog 3 x7 w fun x8 w =>
    K x8 w) (
    sFldA Tryd.prog 103 s2 1 w fun x10 w =>
    sIdxA Tryd.prog 91 x10 dim1 w fun x11 w =>
    sLoad Tryd.prog 3 x11 w fun x12 w =>
    K x12 w)

def tree_size.sc : SC := (.seq (.reg (.op 0 (.op 1 .done))) (.seq (.seq (.reg (.op 0 (.op 1 .done))) (.cond (.seq (.reg (.op 0 (.op 1 (.op 2 .done)))) .nop) .nop)) (.seq (.reg (.op 0 (.op 1 (.op 2 (.op 3 (.op 4 .done)))))) .nop)))

theorem tree_size.ok : okC Tryd.f93.ntmps tree_size.sc (bodyOf Tryd.f93) = true := by kernel_rfl

theorem tree_size.eq {K : K1} {s0 dim1 : Value} {w : World} : tree_size K s0 dim1 w = codeS Tryd.prog tree_size.sc (bodyOf Tryd.f93) (argsF 0 [s0, dim1]) w (retQ Tryd.prog Tryd.f93.results.toList K) := by kernel_rfl

theorem tree_size.call {K : K1} {s0 dim1 : Value} {w : World} (h : tree_size K s0 dim1 w) : sCall Tryd.prog 93 [s0, dim1] w K := sCall_code mixed Tryd.func93 (by kernel_rfl) rfl rfl tree_size.ok tree_size.eq h

abbrev tree_size.n : Nat := 93

/-- '(*bodkin tree.Tree).Find$1' -/
def tree_Tree_Find_1 (K : K1) (end0 x1 x2 : Value) (w : World) : Prop :=
  sLoad Tryd.prog 3 x1 w fun x6 w =>
  sBin Tryd.prog .gtr 3 false false end0 x6 w fun x7 w =>
  sIf x7 (
    K (.bool true) w) (
    sLoad Tryd.prog 3 x2 w fun x9 w =>
    sBin Tryd.prog .eql 3 false true x9 (.int .i64 0) w fun x10 w =>
    sIf x10 (
      sLoad Tryd.prog 3 x1 w fun x13 w =>
      sBin Tryd.prog .eql 3 false false end0 x13 w fun x14 w =>
      K x14 w) (
      K (.bool false) w))

def tree_Tree_Find_1.sc : SC := (.seq (.reg (.op 0 .done)) (.seq (.reg (.op 0 (.op 1 (.op 2 (.op 3 (.test 3 (.skip 4 (.skip 5 (.skip 6 (.skip 7 (.skip 8 (.skip 9 (.skip 10 (.op 11 (.op 12 .done))))))))) (.op 4 (.op 5 (.op 6 (.test 6 (.op 7 (.op 8 (.op 9 (.op 10 (.op 11 (.op 12 .done)))))) (.skip 7 (.skip 8 (.skip 9 (.op 10 (.op 11 (.op 12 .done)))))))))))))))) .nop))

theorem tree_Tree_Find_1.ok : okC Tryd.f94.ntmps tree_Tree_Find_1.sc (bodyOf Tryd.f94) = true := by kernel_rfl

theorem tree_Tree_Find_1.eq {K : K1} {end0 x1 x2 : Value} {w : World} : tree_Tree_Find_1 K end0 x1 x2 w = codeS Tryd.prog tree_Tree_Find_1.sc (bodyOf Tryd.f94) (argsF 0 [end0, x1, x2]) w (retQ Tryd.prog Tryd.f94.results.toList K) := by kernel_rfl

theorem tree_Tree_Find_1.call {K : K1} {end0 x1 x2 : Value} {w : World} (h : tree_Tree_Find_1 K end0 x1 x2 w) : sCall Tryd.prog 94 [end0, x1, x2] w K := sCall_code mixed Tryd.func94 (by kernel_rfl) rfl rfl tree_Tree_Find_1.ok tree_Tree_Find_1.eq h

abbrev tree_Tree_Find_1.n : Nat := 94

/-- 'bodkin tree.row' -/
def tree_row (K : K1) (kids0 : Value) (w : World) : Prop :=
  sBuiltin Tryd.prog .len [128] 3 [kids0] w fun x4 w =>
  sBin Tryd.prog .eql 3 false true x4 (.int .i64 0) w fun x6 w =>
  sIf x6 (
    K .nilIface w) (
    sBin Tryd.prog .eql 3 false true x4 (.int .i64 1) w fun x8 w =>
    sIf x8 (
      sIdxA Tryd.prog 128 kids0 (.int .i64 0) w fun x10 w =>
      sLoad Tryd.prog 90 x10 w fun x11 w =>
      K x11 w) (
      sCall Tryd.prog 72 [kids0] w fun x13 w =>
      sIface Tryd.prog 130 x13 w fun x14 w =>
      K x14 w))

def tree_row.sc : SC := (.seq (.reg (.op 0 .done)) (.seq (.seq (.reg (.op 0 (.op 1 .done))) (.sub (.seq (.reg (.op 0 (.op 1 .done))) (.cond (.seq (.reg (.op 0 .done)) .nop) (.seq (.reg (.op 0 (.op 1 .done))) (.cond (.seq (.reg (.op 0 (.op 1 (.op 2 (.op 3 .done))))) .nop) .nop)))))) (.seq (.reg (.op 0 (.op 1 (.op 2 (.op 3 .done))))) .nop)))

theorem tree_row.ok : okC Tryd.f95.ntmps tree_row.sc (bodyOf Tryd.f95) = true := by kernel_rfl

theorem tree_row.eq {K : K1} {kids0 : Value} {w : World} : tree_row K kids0 w = codeS Tryd.prog tree_row.sc (bodyOf Tryd.f95) (argsF 0 [kids0]) w (retQ Tryd.prog Tryd.f95.results.toList K) := by kernel_rfl

theorem tree_row.call {K : K1} {kids0 : Value} {w : World} (h : tree_row K kids0 w) : sCall Tryd.prog 95 [kids0] w K := sCall_code mixed Tryd.func95 (by kernel_rfl) rfl rfl tree_row.ok tree_row.eq h

abbrev tree_row.n : Nat := 95

end S
end Go.Proofs.YtpjmmhbdondknaaDoor

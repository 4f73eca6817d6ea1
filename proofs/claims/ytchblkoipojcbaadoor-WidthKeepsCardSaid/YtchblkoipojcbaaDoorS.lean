/- The functions of this seat, their code without slots, and that a call of each is what its code says: by program (lift.py). No conditions. -/
import Derived.Test.YtchblkoipojcbaaDoorRsn
import Derived.Test.YtchblkoipojcbaaDoorRows
import Derived.KernelRfl
namespace Go.Proofs.YtchblkoipojcbaaDoor
open Go Go.Lift
namespace S
set_option maxRecDepth 10000
set_option linter.unusedVariables false
theorem mixed : Tryd.prog.follows .mixedOrders = true := by kernel_rfl
abbrev T.int64 : Nat := 2
theorem tcell_int64 : cellQ Tryd.prog 2 = true := by kernel_rfl
theorem tsz_int64 : szQ Tryd.prog 2 = 1 := by kernel_rfl
theorem tby_int64 : byQ Tryd.prog 2 = 8 := by kernel_rfl
theorem tze_int64 : zeroQ Tryd.prog 2 = some [(.int .i64 0)] := by kernel_rfl
abbrev T.int : Nat := 3
theorem tcell_int : cellQ Tryd.prog 3 = true := by kernel_rfl
theorem tsz_int : szQ Tryd.prog 3 = 1 := by kernel_rfl
theorem tby_int : byQ Tryd.prog 3 = 8 := by kernel_rfl
theorem tze_int : zeroQ Tryd.prog 3 = some [(.int .i64 0)] := by kernel_rfl
abbrev T.bool : Nat := 4
theorem tcell_bool : cellQ Tryd.prog 4 = true := by kernel_rfl
theorem tsz_bool : szQ Tryd.prog 4 = 1 := by kernel_rfl
theorem tby_bool : byQ Tryd.prog 4 = 1 := by kernel_rfl
theorem tze_bool : zeroQ Tryd.prog 4 = some [(.bool false)] := by kernel_rfl
abbrev T.uint8 : Nat := 5
theorem tcell_uint8 : cellQ Tryd.prog 5 = true := by kernel_rfl
theorem tsz_uint8 : szQ Tryd.prog 5 = 1 := by kernel_rfl
theorem tby_uint8 : byQ Tryd.prog 5 = 1 := by kernel_rfl
theorem tze_uint8 : zeroQ Tryd.prog 5 = some [(.int .u8 0)] := by kernel_rfl
abbrev T.abi_BoundsErrorCode : Nat := 6
theorem tcell_abi_BoundsErrorCode : cellQ Tryd.prog 6 = true := by kernel_rfl
theorem tsz_abi_BoundsErrorCode : szQ Tryd.prog 6 = 1 := by kernel_rfl
theorem tby_abi_BoundsErrorCode : byQ Tryd.prog 6 = 1 := by kernel_rfl
theorem tze_abi_BoundsErrorCode : zeroQ Tryd.prog 6 = some [(.int .u8 0)] := by kernel_rfl
abbrev T.runtime_boundsError : Nat := 8
theorem tagg_runtime_boundsError : aggN Tryd.prog 8 = some 4 := by kernel_rfl
theorem tsz_runtime_boundsError : szQ Tryd.prog 8 = 4 := by kernel_rfl
theorem tby_runtime_boundsError : byQ Tryd.prog 8 = 24 := by kernel_rfl
theorem tze_runtime_boundsError : zeroQ Tryd.prog 8 = some [(.int .i64 0), (.int .i64 0), (.bool false), (.int .u8 0)] := by kernel_rfl
theorem tfl_runtime_boundsError_x : flQ Tryd.prog 8 0 = some 0 := by kernel_rfl
theorem tfl_runtime_boundsError_y : flQ Tryd.prog 8 1 = some 1 := by kernel_rfl
theorem tfl_runtime_boundsError_signed : flQ Tryd.prog 8 2 = some 2 := by kernel_rfl
theorem tfl_runtime_boundsError_code : flQ Tryd.prog 8 3 = some 3 := by kernel_rfl
theorem tpl_runtime_boundsError : plQ Tryd.prog 8 = some [(0, 1), (1, 1), (2, 1), (3, 1)] := by kernel_rfl
abbrev T.int32 : Nat := 21
theorem tcell_int32 : cellQ Tryd.prog 21 = true := by kernel_rfl
theorem tsz_int32 : szQ Tryd.prog 21 = 1 := by kernel_rfl
theorem tby_int32 : byQ Tryd.prog 21 = 4 := by kernel_rfl
theorem tze_int32 : zeroQ Tryd.prog 21 = some [(.int .i32 0)] := by kernel_rfl
abbrev T.P_width_Table : Nat := 22
theorem tcell_P_width_Table : cellQ Tryd.prog 22 = true := by kernel_rfl
theorem tsz_P_width_Table : szQ Tryd.prog 22 = 1 := by kernel_rfl
theorem tby_P_width_Table : byQ Tryd.prog 22 = 8 := by kernel_rfl
theorem tze_P_width_Table : zeroQ Tryd.prog 22 = some [(.pointer none)] := by kernel_rfl
theorem tpt_P_width_Table : ptQ Tryd.prog 22 = true := by kernel_rfl
abbrev T.P_bodkinref02_Table : Nat := 25
theorem tcell_P_bodkinref02_Table : cellQ Tryd.prog 25 = true := by kernel_rfl
theorem tsz_P_bodkinref02_Table : szQ Tryd.prog 25 = 1 := by kernel_rfl
theorem tby_P_bodkinref02_Table : byQ Tryd.prog 25 = 8 := by kernel_rfl
theorem tze_P_bodkinref02_Table : zeroQ Tryd.prog 25 = some [(.pointer none)] := by kernel_rfl
theorem tpt_P_bodkinref02_Table : ptQ Tryd.prog 25 = true := by kernel_rfl
abbrev T.L_int32 : Nat := 29
theorem tcell_L_int32 : cellQ Tryd.prog 29 = true := by kernel_rfl
theorem tsz_L_int32 : szQ Tryd.prog 29 = 1 := by kernel_rfl
theorem tby_L_int32 : byQ Tryd.prog 29 = 24 := by kernel_rfl
theorem tze_L_int32 : zeroQ Tryd.prog 29 = some [(.slice none 0 0)] := by kernel_rfl
theorem tel_L_int32 : elQ Tryd.prog 29 = some 21 := by kernel_rfl
abbrev T.L_width_Range : Nat := 33
theorem tcell_L_width_Range : cellQ Tryd.prog 33 = true := by kernel_rfl
theorem tsz_L_width_Range : szQ Tryd.prog 33 = 1 := by kernel_rfl
theorem tby_L_width_Range : byQ Tryd.prog 33 = 24 := by kernel_rfl
theorem tze_L_width_Range : zeroQ Tryd.prog 33 = some [(.slice none 0 0)] := by kernel_rfl
theorem tel_L_width_Range : elQ Tryd.prog 33 = some 43 := by kernel_rfl
abbrev T.api_Errno : Nat := 34
theorem tcell_api_Errno : cellQ Tryd.prog 34 = true := by kernel_rfl
theorem tsz_api_Errno : szQ Tryd.prog 34 = 1 := by kernel_rfl
theorem tby_api_Errno : byQ Tryd.prog 34 = 8 := by kernel_rfl
theorem tze_api_Errno : zeroQ Tryd.prog 34 = some [(.int .i64 0)] := by kernel_rfl
abbrev T.L_bodkinref02_Range : Nat := 37
theorem tcell_L_bodkinref02_Range : cellQ Tryd.prog 37 = true := by kernel_rfl
theorem tsz_L_bodkinref02_Range : szQ Tryd.prog 37 = 1 := by kernel_rfl
theorem tby_L_bodkinref02_Range : byQ Tryd.prog 37 = 24 := by kernel_rfl
theorem tze_L_bodkinref02_Range : zeroQ Tryd.prog 37 = some [(.slice none 0 0)] := by kernel_rfl
theorem tel_L_bodkinref02_Range : elQ Tryd.prog 37 = some 50 := by kernel_rfl
abbrev T.bodkinref02_Table : Nat := 40
theorem tagg_bodkinref02_Table : aggN Tryd.prog 40 = some 2 := by kernel_rfl
theorem tsz_bodkinref02_Table : szQ Tryd.prog 40 = 2 := by kernel_rfl
theorem tby_bodkinref02_Table : byQ Tryd.prog 40 = 48 := by kernel_rfl
theorem tze_bodkinref02_Table : zeroQ Tryd.prog 40 = some [(.slice none 0 0), (.slice none 0 0)] := by kernel_rfl
theorem tfl_bodkinref02_Table_Zero : flQ Tryd.prog 40 0 = some 0 := by kernel_rfl
theorem tfl_bodkinref02_Table_Wide : flQ Tryd.prog 40 1 = some 1 := by kernel_rfl
theorem tpl_bodkinref02_Table : plQ Tryd.prog 40 = some [(0, 1), (1, 1)] := by kernel_rfl
abbrev T.width_Range : Nat := 43
theorem tagg_width_Range : aggN Tryd.prog 43 = some 2 := by kernel_rfl
theorem tsz_width_Range : szQ Tryd.prog 43 = 2 := by kernel_rfl
theorem tby_width_Range : byQ Tryd.prog 43 = 8 := by kernel_rfl
theorem tze_width_Range : zeroQ Tryd.prog 43 = some [(.int .i32 0), (.int .i32 0)] := by kernel_rfl
theorem tfl_width_Range_From : flQ Tryd.prog 43 0 = some 0 := by kernel_rfl
theorem tfl_width_Range_To : flQ Tryd.prog 43 1 = some 1 := by kernel_rfl
theorem tpl_width_Range : plQ Tryd.prog 43 = some [(0, 1), (1, 1)] := by kernel_rfl
abbrev T.width_Table : Nat := 46
theorem tagg_width_Table : aggN Tryd.prog 46 = some 2 := by kernel_rfl
theorem tsz_width_Table : szQ Tryd.prog 46 = 2 := by kernel_rfl
theorem tby_width_Table : byQ Tryd.prog 46 = 48 := by kernel_rfl
theorem tze_width_Table : zeroQ Tryd.prog 46 = some [(.slice none 0 0), (.slice none 0 0)] := by kernel_rfl
theorem tfl_width_Table_zero : flQ Tryd.prog 46 0 = some 0 := by kernel_rfl
theorem tfl_width_Table_wide : flQ Tryd.prog 46 1 = some 1 := by kernel_rfl
theorem tpl_width_Table : plQ Tryd.prog 46 = some [(0, 1), (1, 1)] := by kernel_rfl
abbrev T.A3_width_Range : Nat := 47
theorem tagg_A3_width_Range : aggN Tryd.prog 47 = some 6 := by kernel_rfl
theorem tsz_A3_width_Range : szQ Tryd.prog 47 = 6 := by kernel_rfl
theorem tby_A3_width_Range : byQ Tryd.prog 47 = 24 := by kernel_rfl
theorem tze_A3_width_Range : zeroQ Tryd.prog 47 = some [(.int .i32 0), (.int .i32 0), (.int .i32 0), (.int .i32 0), (.int .i32 0), (.int .i32 0)] := by kernel_rfl
theorem tpl_A3_width_Range : plQ Tryd.prog 47 = some [(0, 2), (2, 2), (4, 2)] := by kernel_rfl
theorem tar_A3_width_Range : arQ Tryd.prog 47 = some (3, 43) := by kernel_rfl
abbrev T.A8_width_Range : Nat := 48
theorem tagg_A8_width_Range : aggN Tryd.prog 48 = some 16 := by kernel_rfl
theorem tsz_A8_width_Range : szQ Tryd.prog 48 = 16 := by kernel_rfl
theorem tby_A8_width_Range : byQ Tryd.prog 48 = 64 := by kernel_rfl
theorem tze_A8_width_Range : zeroQ Tryd.prog 48 = some [(.int .i32 0), (.int .i32 0), (.int .i32 0), (.int .i32 0), (.int .i32 0), (.int .i32 0), (.int .i32 0), (.int .i32 0), (.int .i32 0), (.int .i32 0), (.int .i32 0), (.int .i32 0), (.int .i32 0), (.int .i32 0), (.int .i32 0), (.int .i32 0)] := by kernel_rfl
theorem tpl_A8_width_Range : plQ Tryd.prog 48 = some [(0, 2), (2, 2), (4, 2), (6, 2), (8, 2), (10, 2), (12, 2), (14, 2)] := by kernel_rfl
theorem tar_A8_width_Range : arQ Tryd.prog 48 = some (8, 43) := by kernel_rfl
abbrev T.bodkinref02_Range : Nat := 50
theorem tagg_bodkinref02_Range : aggN Tryd.prog 50 = some 2 := by kernel_rfl
theorem tsz_bodkinref02_Range : szQ Tryd.prog 50 = 2 := by kernel_rfl
theorem tby_bodkinref02_Range : byQ Tryd.prog 50 = 8 := by kernel_rfl
theorem tze_bodkinref02_Range : zeroQ Tryd.prog 50 = some [(.int .i32 0), (.int .i32 0)] := by kernel_rfl
theorem tfl_bodkinref02_Range_From : flQ Tryd.prog 50 0 = some 0 := by kernel_rfl
theorem tfl_bodkinref02_Range_To : flQ Tryd.prog 50 1 = some 1 := by kernel_rfl
theorem tpl_bodkinref02_Range : plQ Tryd.prog 50 = some [(0, 1), (1, 1)] := by kernel_rfl
/-- 'bodkin width.in' -/
def width_in_L1 (K : K1) (Nx1 : List Value → World → Prop) (l0 r1 : Value) (high6 low5 found7 : Value) (w : World) : Prop :=
  sBin Tryd.prog .lss 3 false false low5 high6 w fun x13 w =>
  sIf x13 (
    sBin Tryd.prog .add 3 false false low5 high6 w fun x16 w =>
    sBin Tryd.prog .quo 3 false true x16 (.int .i64 2) w fun x17 w =>
    sIdxA Tryd.prog 33 l0 x17 w fun x22 w =>
    sFldA Tryd.prog 43 x22 0 w fun x23 w =>
    sLoad Tryd.prog 21 x23 w fun x24 w =>
    sBin Tryd.prog .lss 21 false false r1 x24 w fun x25 w =>
    sIf x25 (
      Nx1 [x17, low5, found7] w) (
      sIdxA Tryd.prog 33 l0 x17 w fun x31 w =>
      sFldA Tryd.prog 43 x31 1 w fun x32 w =>
      sLoad Tryd.prog 21 x32 w fun x33 w =>
      sBin Tryd.prog .gtr 21 false false r1 x33 w fun x34 w =>
      sIf x34 (
        sBin Tryd.prog .add 3 false true x17 (.int .i64 1) w fun x36 w =>
        Nx1 [high6, x36, found7] w) (
        K (.bool true) w))) (
    K found7 w)

def width_in (K : K1) (l0 r1 : Value) (w : World) : Prop :=
  sBuiltin Tryd.prog .len [33] 3 [l0] w fun x10 w =>
  LoopS [x10, (.int .i64 0), (.bool false)] 3 27 w fun us _ w Nx1 =>
    width_in_L1 K Nx1 l0 r1 (hd us) (hd (tl us)) (hd (tl (tl us))) w

def width_in.sc : SC := (.seq (.reg (.op 0 .done)) (.sub (.seq (.reg (.op 0 (.op 1 (.op 2 (.op 3 .done))))) (.seq (.reg (.op 0 .done)) (.seq .nop (.seq (.sub (.loop [6, 5, 7] [11, 12, 13, 14, 15, 16, 17, 8, 19, 20, 21, 22, 23, 24, 25, 18, 26, 28, 29, 30, 31, 32, 33, 34, 27, 35, 36] (.seq (.seq (.reg (.op 0 (.op 1 (.op 2 .done)))) (.cond .nop .nop)) (.sub (.seq (.reg (.op 0 (.op 1 (.op 2 (.op 3 (.op 4 .done)))))) (.sub (.seq (.reg (.op 0 (.op 1 (.op 2 (.op 3 (.op 4 (.op 5 (.op 6 (.op 7 .done))))))))) (.cond (.reg (.op 0 (.op 1 .done))) (.seq (.reg (.op 0 (.op 1 (.op 2 (.op 3 (.op 4 (.op 5 (.op 6 (.op 7 .done))))))))) (.cond (.reg (.op 0 (.op 1 (.op 2 .done)))) (.seq (.reg (.op 0 .done)) .nop))))))))))) (.seq (.reg (.op 0 (.op 1 .done))) .nop)))))))

theorem width_in.ok : okC Tryd.f18.ntmps width_in.sc (bodyOf Tryd.f18) = true := by kernel_rfl

theorem width_in.eq {K : K1} {l0 r1 : Value} {w : World} : width_in K l0 r1 w = codeS Tryd.prog width_in.sc (bodyOf Tryd.f18) (argsF 0 [l0, r1]) w (retQ Tryd.prog Tryd.f18.results.toList K) := by kernel_rfl

theorem width_in.call {K : K1} {l0 r1 : Value} {w : World} (h : width_in K l0 r1 w) : sCall Tryd.prog 18 [l0, r1] w K := sCall_code mixed Tryd.func18 (by kernel_rfl) rfl rfl width_in.ok width_in.eq h

abbrev width_in.n : Nat := 18

/-- '(*bodkin width.Table).Of' -/
def width_Table_Of (K : K1) (t0 r1 : Value) (w : World) : Prop :=
  sBin Tryd.prog .eql 22 false true t0 (.pointer none) w fun x7 w =>
  sIf x7 (
    K (.int .i64 1) w) (
    sNil t0 w fun x10 w =>
    sFldA Tryd.prog 46 x10 0 w fun x11 w =>
    sLoad Tryd.prog 33 x11 w fun x12 w =>
    sCall Tryd.prog 18 [x12, r1] w fun x14 w =>
    sIf x14 (
      K (.int .i64 0) w) (
      sNil t0 w fun x17 w =>
      sFldA Tryd.prog 46 x17 1 w fun x18 w =>
      sLoad Tryd.prog 33 x18 w fun x19 w =>
      sCall Tryd.prog 18 [x19, r1] w fun x21 w =>
      sIf x21 (
        K (.int .i64 2) w) (
        K (.int .i64 1) w)))

def width_Table_Of.sc : SC := (.seq (.reg (.op 0 .done)) (.seq (.sub (.seq (.reg (.op 0 (.op 1 (.op 2 .done)))) (.cond (.seq (.reg (.op 0 .done)) .nop) (.seq (.reg (.op 0 (.op 1 (.op 2 (.op 3 (.op 4 (.op 5 (.op 6 .done)))))))) (.cond (.seq (.reg (.op 0 .done)) .nop) (.seq (.reg (.op 0 (.op 1 (.op 2 (.op 3 (.op 4 (.op 5 (.op 6 .done)))))))) (.cond (.seq (.reg (.op 0 .done)) .nop) .nop))))))) (.seq (.reg (.op 0 .done)) .nop)))

theorem width_Table_Of.ok : okC Tryd.f9.ntmps width_Table_Of.sc (bodyOf Tryd.f9) = true := by kernel_rfl

theorem width_Table_Of.eq {K : K1} {t0 r1 : Value} {w : World} : width_Table_Of K t0 r1 w = codeS Tryd.prog width_Table_Of.sc (bodyOf Tryd.f9) (argsF 0 [t0, r1]) w (retQ Tryd.prog Tryd.f9.results.toList K) := by kernel_rfl

theorem width_Table_Of.call {K : K1} {t0 r1 : Value} {w : World} (h : width_Table_Of K t0 r1 w) : sCall Tryd.prog 9 [t0, r1] w K := sCall_code mixed Tryd.func9 (by kernel_rfl) rfl rfl width_Table_Of.ok width_Table_Of.eq h

abbrev width_Table_Of.n : Nat := 9

/-- 'bodkin width.Plain' -/
def width_Plain_L2 (K : K1) (Nx2 : List Value → World → Prop) (t1 x17 : Value) (x18 : Value) (w : World) : Prop :=
  sBin Tryd.prog .lss 3 false true x18 (.int .i64 8) w fun x19 w =>
  sIf x19 (
    sIdx Tryd.prog 48 x17 x18 w fun x20 w =>
    sAlloc Tryd.prog 43 w fun r5 w =>
    sStore Tryd.prog 43 r5 x20 w fun w =>
    sFldA Tryd.prog 46 t1 1 w fun x21 w =>
    sLoad Tryd.prog 33 x21 w fun x22 w =>
    sLoad Tryd.prog 43 r5 w fun x23 w =>
    sBuildSlice Tryd.prog 33 1 [(0, x23)] w fun x24 w =>
    sBuiltin Tryd.prog .append [33, 33] 33 [x22, x24] w fun x25 w =>
    sFldA Tryd.prog 46 t1 1 w fun x26 w =>
    sStore Tryd.prog 33 x26 x25 w fun w =>
    sBin Tryd.prog .add 3 false true x18 (.int .i64 1) w fun x27 w =>
    Nx2 [x27] w) (
    K t1 w)

def width_Plain_L1 (K : K1) (Nx1 : List Value → World → Prop) (t1 x6 : Value) (x7 : Value) (w : World) : Prop :=
  sBin Tryd.prog .lss 3 false true x7 (.int .i64 3) w fun x8 w =>
  sIf x8 (
    sIdx Tryd.prog 47 x6 x7 w fun x9 w =>
    sAlloc Tryd.prog 43 w fun r3 w =>
    sStore Tryd.prog 43 r3 x9 w fun w =>
    sFldA Tryd.prog 46 t1 0 w fun x10 w =>
    sLoad Tryd.prog 33 x10 w fun x11 w =>
    sLoad Tryd.prog 43 r3 w fun x12 w =>
    sBuildSlice Tryd.prog 33 1 [(0, x12)] w fun x13 w =>
    sBuiltin Tryd.prog .append [33, 33] 33 [x11, x13] w fun x14 w =>
    sFldA Tryd.prog 46 t1 0 w fun x15 w =>
    sStore Tryd.prog 33 x15 x14 w fun w =>
    sBin Tryd.prog .add 3 false true x7 (.int .i64 1) w fun x16 w =>
    Nx1 [x16] w) (
    sLoad Tryd.prog 48 (.pointer (some ⟨1, 0, none⟩)) w fun x17 w =>
    LoopS [(.int .i64 0)] 1 10 w fun us _ w Nx2 =>
      width_Plain_L2 K Nx2 t1 x17 (hd us) w)

def width_Plain (K : K1) (w : World) : Prop :=
  sAlloc Tryd.prog 46 w fun t1 w =>
  sLoad Tryd.prog 47 (.pointer (some ⟨0, 0, none⟩)) w fun x6 w =>
  LoopS [(.int .i64 0)] 1 10 w fun us _ w Nx1 =>
    width_Plain_L1 K Nx1 t1 x6 (hd us) w

def width_Plain.sc : SC := (.seq (.reg (.op 0 .done)) (.seq (.reg (.op 0 .done)) (.seq (.seq (.reg (.op 0 (.op 1 .done))) (.sub (.loop [7] [8, 9, 3, 10, 11, 12, 13, 14, 15, 16] (.seq (.reg (.op 0 .done)) (.seq (.cond .nop .nop) (.seq (.sub (.seq (.reg (.op 0 (.op 1 (.op 2 .done)))) (.reg (.op 0 (.op 1 (.op 2 (.op 3 (.op 4 (.op 5 (.op 6 .done)))))))))) (.reg (.op 0 (.op 1 .done))))))))) (.seq (.seq (.reg (.op 0 (.op 1 .done))) (.sub (.loop [18] [19, 20, 5, 21, 22, 23, 24, 25, 26, 27] (.seq (.reg (.op 0 .done)) (.seq (.cond .nop .nop) (.seq (.sub (.seq (.reg (.op 0 (.op 1 (.op 2 .done)))) (.reg (.op 0 (.op 1 (.op 2 (.op 3 (.op 4 (.op 5 (.op 6 .done)))))))))) (.reg (.op 0 (.op 1 .done))))))))) (.seq (.reg (.op 0 .done)) .nop)))))

theorem width_Plain.ok : okC Tryd.f8.ntmps width_Plain.sc (bodyOf Tryd.f8) = true := by kernel_rfl

theorem width_Plain.eq {K : K1} {w : World} : width_Plain K  w = codeS Tryd.prog width_Plain.sc (bodyOf Tryd.f8) (argsF 0 []) w (retQ Tryd.prog Tryd.f8.results.toList K) := by kernel_rfl

theorem width_Plain.call {K : K1} {w : World} (h : width_Plain K  w) : sCall Tryd.prog 8 [] w K := sCall_code mixed Tryd.func8 (by kernel_rfl) rfl rfl width_Plain.ok width_Plain.eq h

abbrev width_Plain.n : Nat := 8

/-- '(*bodkin width.Table).Sum' -/
def width_Table_Sum_L1 (K : K1) (Nx1 : List Value → World → Prop) (l1 t0 x9 : Value) (n5 x10 : Value) (w : World) : Prop :=
  sBin Tryd.prog .lss 3 false false x10 x9 w fun x11 w =>
  sIf x11 (
    sIdxA Tryd.prog 29 l1 x10 w fun x12 w =>
    sLoad Tryd.prog 21 x12 w fun x13 w =>
    sCall Tryd.prog 9 [t0, x13] w fun x17 w =>
    sBin Tryd.prog .add 3 false false n5 x17 w fun x18 w =>
    sBin Tryd.prog .add 3 false true x10 (.int .i64 1) w fun x19 w =>
    Nx1 [x18, x19] w) (
    K n5 w)

def width_Table_Sum (K : K1) (t0 l1 : Value) (w : World) : Prop :=
  sBuiltin Tryd.prog .len [29] 3 [l1] w fun x9 w =>
  LoopS [(.int .i64 0), (.int .i64 0)] 2 10 w fun us _ w Nx1 =>
    width_Table_Sum_L1 K Nx1 l1 t0 x9 (hd us) (hd (tl us)) w

def width_Table_Sum.sc : SC := (.seq (.reg (.op 0 .done)) (.seq (.reg (.op 0 .done)) (.seq (.seq (.reg (.op 0 (.op 1 (.op 2 .done)))) (.sub (.loop [5, 10] [11, 12, 13, 7, 14, 15, 16, 17, 18, 19] (.seq (.reg (.op 0 .done)) (.seq (.cond .nop .nop) (.seq (.sub (.seq (.reg (.op 0 (.op 1 (.op 2 .done)))) (.reg (.op 0 (.op 1 (.op 2 (.op 3 (.op 4 (.op 5 .done))))))))) (.reg (.op 0 (.op 1 .done))))))))) (.seq (.reg (.op 0 (.op 1 .done))) .nop))))

theorem width_Table_Sum.ok : okC Tryd.f13.ntmps width_Table_Sum.sc (bodyOf Tryd.f13) = true := by kernel_rfl

theorem width_Table_Sum.eq {K : K1} {t0 l1 : Value} {w : World} : width_Table_Sum K t0 l1 w = codeS Tryd.prog width_Table_Sum.sc (bodyOf Tryd.f13) (argsF 0 [t0, l1]) w (retQ Tryd.prog Tryd.f13.results.toList K) := by kernel_rfl

theorem width_Table_Sum.call {K : K1} {t0 l1 : Value} {w : World} (h : width_Table_Sum K t0 l1 w) : sCall Tryd.prog 13 [t0, l1] w K := sCall_code mixed Tryd.func13 (by kernel_rfl) rfl rfl width_Table_Sum.ok width_Table_Sum.eq h

abbrev width_Table_Sum.n : Nat := 13

/-- 'bodkin bodkinref02.in' -/
def bodkinref02_in_L1 (K : K1) (Nx1 : List Value → World → Prop) (l0 r1 x8 : Value) (x9 : Value) (w : World) : Prop :=
  sBin Tryd.prog .lss 3 false false x9 x8 w fun x10 w =>
  sIf x10 (
    sIdxA Tryd.prog 37 l0 x9 w fun x11 w =>
    sLoad Tryd.prog 50 x11 w fun x12 w =>
    sAlloc Tryd.prog 50 w fun x6 w =>
    sStore Tryd.prog 50 x6 x12 w fun w =>
    sFldA Tryd.prog 50 x6 0 w fun x14 w =>
    sLoad Tryd.prog 21 x14 w fun x15 w =>
    sBin Tryd.prog .geq 21 false false r1 x15 w fun x16 w =>
    sIf x16 (
      sFldA Tryd.prog 50 x6 1 w fun x19 w =>
      sLoad Tryd.prog 21 x19 w fun x20 w =>
      sBin Tryd.prog .leq 21 false false r1 x20 w fun x21 w =>
      sIf x21 (
        K (.bool true) w) (
        sBin Tryd.prog .add 3 false true x9 (.int .i64 1) w fun x23 w =>
        Nx1 [x23] w)) (
      sBin Tryd.prog .add 3 false true x9 (.int .i64 1) w fun x23_1 w =>
      Nx1 [x23_1] w)) (
    K (.bool false) w)

def bodkinref02_in (K : K1) (l0 r1 : Value) (w : World) : Prop :=
  sBuiltin Tryd.prog .len [37] 3 [l0] w fun x8 w =>
  LoopS [(.int .i64 0)] 1 16 w fun us _ w Nx1 =>
    bodkinref02_in_L1 K Nx1 l0 r1 x8 (hd us) w

def bodkinref02_in.sc : SC := (.seq (.reg (.op 0 .done)) (.seq (.seq (.reg (.op 0 (.op 1 (.op 2 .done)))) (.sub (.loop [9] [10, 11, 12, 6, 13, 14, 15, 16, 17, 18, 19, 20, 21, 22, 4, 23] (.seq (.reg (.op 0 .done)) (.seq (.cond .nop .nop) (.seq (.sub (.seq (.reg (.op 0 (.op 1 (.op 2 (.op 3 .done))))) (.seq (.reg (.op 0 (.op 1 (.op 2 (.op 3 (.op 4 (.test 4 (.op 5 (.op 6 (.op 7 (.op 8 (.op 9 .done))))) (.skip 5 (.skip 6 (.skip 7 (.skip 8 (.op 9 .done)))))))))))) (.cond (.seq (.reg (.op 0 .done)) .nop) .nop)))) (.reg (.op 0 (.op 1 .done))))))))) (.seq (.reg (.op 0 .done)) .nop)))

theorem bodkinref02_in.ok : okC Tryd.f19.ntmps bodkinref02_in.sc (bodyOf Tryd.f19) = true := by kernel_rfl

theorem bodkinref02_in.eq {K : K1} {l0 r1 : Value} {w : World} : bodkinref02_in K l0 r1 w = codeS Tryd.prog bodkinref02_in.sc (bodyOf Tryd.f19) (argsF 0 [l0, r1]) w (retQ Tryd.prog Tryd.f19.results.toList K) := by kernel_rfl

theorem bodkinref02_in.call {K : K1} {l0 r1 : Value} {w : World} (h : bodkinref02_in K l0 r1 w) : sCall Tryd.prog 19 [l0, r1] w K := sCall_code mixed Tryd.func19 (by kernel_rfl) rfl rfl bodkinref02_in.ok bodkinref02_in.eq h

abbrev bodkinref02_in.n : Nat := 19

/-- 'bodkin bodkinref02.Plain' -/
def bodkinref02_Plain (K : K1) (w : World) : Prop :=
  sBuild Tryd.prog 50 [(0, (.int .i32 768)), (1, (.int .i32 879))] w fun x1 w =>
  sBuild Tryd.prog 50 [(0, (.int .i32 8203)), (1, (.int .i32 8207))] w fun x2 w =>
  sBuild Tryd.prog 50 [(0, (.int .i32 65024)), (1, (.int .i32 65039))] w fun x3 w =>
  sBuildSlice Tryd.prog 37 3 [(0, x1), (1, x2), (2, x3)] w fun x4 w =>
  sBuild Tryd.prog 50 [(0, (.int .i32 4352)), (1, (.int .i32 4447))] w fun x5 w =>
  sBuild Tryd.prog 50 [(0, (.int .i32 11904)), (1, (.int .i32 12350))] w fun x6 w =>
  sBuild Tryd.prog 50 [(0, (.int .i32 12353)), (1, (.int .i32 19903))] w fun x7 w =>
  sBuild Tryd.prog 50 [(0, (.int .i32 19968)), (1, (.int .i32 40959))] w fun x8 w =>
  sBuild Tryd.prog 50 [(0, (.int .i32 44032)), (1, (.int .i32 55203))] w fun x9 w =>
  sBuild Tryd.prog 50 [(0, (.int .i32 63744)), (1, (.int .i32 64255))] w fun x10 w =>
  sBuild Tryd.prog 50 [(0, (.int .i32 65280)), (1, (.int .i32 65376))] w fun x11 w =>
  sBuild Tryd.prog 50 [(0, (.int .i32 127744)), (1, (.int .i32 128591))] w fun x12 w =>
  sBuildSlice Tryd.prog 37 8 [(0, x5), (1, x6), (2, x7), (3, x8), (4, x9), (5, x10), (6, x11), (7, x12)] w fun x13 w =>
  sBuild Tryd.prog 40 [(0, x4), (1, x13)] w fun x14 w =>
  sBox Tryd.prog 40 x14 w fun x15 w =>
  K x15 w

def bodkinref02_Plain.sc : SC := (.seq (.reg (.op 0 .done)) (.seq (.reg (.op 0 (.op 1 (.op 2 (.op 3 (.op 4 (.op 5 (.op 6 (.op 7 (.op 8 (.op 9 (.op 10 (.op 11 (.op 12 (.op 13 (.op 14 (.op 15 .done))))))))))))))))) .nop))

theorem bodkinref02_Plain.ok : okC Tryd.f10.ntmps bodkinref02_Plain.sc (bodyOf Tryd.f10) = true := by kernel_rfl

theorem bodkinref02_Plain.eq {K : K1} {w : World} : bodkinref02_Plain K  w = codeS Tryd.prog bodkinref02_Plain.sc (bodyOf Tryd.f10) (argsF 0 []) w (retQ Tryd.prog Tryd.f10.results.toList K) := by kernel_rfl

theorem bodkinref02_Plain.call {K : K1} {w : World} (h : bodkinref02_Plain K  w) : sCall Tryd.prog 10 [] w K := sCall_code mixed Tryd.func10 (by kernel_rfl) rfl rfl bodkinref02_Plain.ok bodkinref02_Plain.eq h

abbrev bodkinref02_Plain.n : Nat := 10

/-- '(*bodkin bodkinref02.Table).Of' -/
def bodkinref02_Table_Of (K : K1) (t0 r1 : Value) (w : World) : Prop :=
  sNil t0 w fun x6 w =>
  sFldA Tryd.prog 40 x6 0 w fun x7 w =>
  sLoad Tryd.prog 37 x7 w fun x8 w =>
  sCall Tryd.prog 19 [x8, r1] w fun x10 w =>
  sIf x10 (
    K (.int .i64 0) w) (
    sNil t0 w fun x12 w =>
    sFldA Tryd.prog 40 x12 1 w fun x13 w =>
    sLoad Tryd.prog 37 x13 w fun x14 w =>
    sCall Tryd.prog 19 [x14, r1] w fun x16 w =>
    sIf x16 (
      K (.int .i64 2) w) (
      K (.int .i64 1) w))

def bodkinref02_Table_Of.sc : SC := (.seq (.reg (.op 0 .done)) (.seq (.seq (.reg (.op 0 (.op 1 (.op 2 (.op 3 (.op 4 (.op 5 .done))))))) (.cond (.seq (.reg (.op 0 .done)) .nop) .nop)) (.seq (.seq (.reg (.op 0 (.op 1 (.op 2 (.op 3 (.op 4 (.op 5 .done))))))) (.cond (.seq (.reg (.op 0 .done)) .nop) .nop)) (.seq (.reg (.op 0 .done)) .nop))))

theorem bodkinref02_Table_Of.ok : okC Tryd.f11.ntmps bodkinref02_Table_Of.sc (bodyOf Tryd.f11) = true := by kernel_rfl

theorem bodkinref02_Table_Of.eq {K : K1} {t0 r1 : Value} {w : World} : bodkinref02_Table_Of K t0 r1 w = codeS Tryd.prog bodkinref02_Table_Of.sc (bodyOf Tryd.f11) (argsF 0 [t0, r1]) w (retQ Tryd.prog Tryd.f11.results.toList K) := by kernel_rfl

theorem bodkinref02_Table_Of.call {K : K1} {t0 r1 : Value} {w : World} (h : bodkinref02_Table_Of K t0 r1 w) : sCall Tryd.prog 11 [t0, r1] w K := sCall_code mixed Tryd.func11 (by kernel_rfl) rfl rfl bodkinref02_Table_Of.ok bodkinref02_Table_Of.eq h

abbrev bodkinref02_Table_Of.n : Nat := 11

/-- '(*bodkin bodkinref02.Table).Sum' -/
def bodkinref02_Table_Sum_L1 (K : K1) (Nx1 : List Value → World → Prop) (l1 t0 x9 : Value) (n5 x10 : Value) (w : World) : Prop :=
  sBin Tryd.prog .lss 3 false false x10 x9 w fun x11 w =>
  sIf x11 (
    sIdxA Tryd.prog 29 l1 x10 w fun x12 w =>
    sLoad Tryd.prog 21 x12 w fun x13 w =>
    sCall Tryd.prog 11 [t0, x13] w fun x17 w =>
    sBin Tryd.prog .add 3 false false n5 x17 w fun x18 w =>
    sBin Tryd.prog .add 3 false true x10 (.int .i64 1) w fun x19 w =>
    Nx1 [x18, x19] w) (
    K n5 w)

def bodkinref02_Table_Sum (K : K1) (t0 l1 : Value) (w : World) : Prop :=
  sBuiltin Tryd.prog .len [29] 3 [l1] w fun x9 w =>
  LoopS [(.int .i64 0), (.int .i64 0)] 2 10 w fun us _ w Nx1 =>
    bodkinref02_Table_Sum_L1 K Nx1 l1 t0 x9 (hd us) (hd (tl us)) w

def bodkinref02_Table_Sum.sc : SC := (.seq (.reg (.op 0 .done)) (.seq (.reg (.op 0 .done)) (.seq (.seq (.reg (.op 0 (.op 1 (.op 2 .done)))) (.sub (.loop [5, 10] [11, 12, 13, 7, 14, 15, 16, 17, 18, 19] (.seq (.reg (.op 0 .done)) (.seq (.cond .nop .nop) (.seq (.sub (.seq (.reg (.op 0 (.op 1 (.op 2 .done)))) (.reg (.op 0 (.op 1 (.op 2 (.op 3 (.op 4 (.op 5 .done))))))))) (.reg (.op 0 (.op 1 .done))))))))) (.seq (.reg (.op 0 (.op 1 .done))) .nop))))

theorem bodkinref02_Table_Sum.ok : okC Tryd.f14.ntmps bodkinref02_Table_Sum.sc (bodyOf Tryd.f14) = true := by kernel_rfl

theorem bodkinref02_Table_Sum.eq {K : K1} {t0 l1 : Value} {w : World} : bodkinref02_Table_Sum K t0 l1 w = codeS Tryd.prog bodkinref02_Table_Sum.sc (bodyOf Tryd.f14) (argsF 0 [t0, l1]) w (retQ Tryd.prog Tryd.f14.results.toList K) := by kernel_rfl

theorem bodkinref02_Table_Sum.call {K : K1} {t0 l1 : Value} {w : World} (h : bodkinref02_Table_Sum K t0 l1 w) : sCall Tryd.prog 14 [t0, l1] w K := sCall_code mixed Tryd.func14 (by kernel_rfl) rfl rfl bodkinref02_Table_Sum.ok bodkinref02_Table_Sum.eq h

abbrev bodkinref02_Table_Sum.n : Nat := 14

/-- 'bodkin bodkinlaw02.three' -/
def bodkinlaw02_three (K : K1) (w : World) : Prop :=
  sCall Tryd.prog 8 [] w fun x2 w =>
  sCall Tryd.prog 9 [x2, (.int .i32 97)] w fun x4 w =>
  sBin Tryd.prog .eql 3 false true x4 (.int .i64 1) w fun x5 w =>
  sIf x5 (
    sCall Tryd.prog 9 [x2, (.int .i32 19968)] w fun x8 w =>
    sBin Tryd.prog .eql 3 false true x8 (.int .i64 2) w fun x9 w =>
    sIf x9 (
      sCall Tryd.prog 9 [x2, (.int .i32 769)] w fun x13 w =>
      sBin Tryd.prog .eql 3 false true x13 (.int .i64 0) w fun x14 w =>
      sIf x14 (
        sBuildSlice Tryd.prog 29 3 [(0, (.int .i32 97)), (1, (.int .i32 19968)), (2, (.int .i32 769))] w fun x18 w =>
        sCall Tryd.prog 13 [x2, x18] w fun x19 w =>
        sBin Tryd.prog .eql 3 false true x19 (.int .i64 3) w fun x20 w =>
        K x20 w) (
        K (.bool false) w)) (
      K (.bool false) w)) (
    K (.bool false) w)

def bodkinlaw02_three.sc : SC := (.seq (.reg (.op 0 .done)) (.seq (.reg (.op 0 (.op 1 .done))) (.seq (.reg (.op 0 (.op 1 (.op 2 (.op 3 (.test 3 (.op 4 (.op 5 (.op 6 (.op 7 (.op 8 (.test 8 (.op 9 (.op 10 (.op 11 (.op 12 (.op 13 (.test 13 (.op 14 (.op 15 (.op 16 (.op 17 (.op 18 (.op 19 .done)))))) (.skip 14 (.skip 15 (.skip 16 (.skip 17 (.op 18 (.op 19 .done)))))))))))) (.skip 9 (.skip 10 (.skip 11 (.op 12 (.op 13 (.know 13 false (.skip 14 (.skip 15 (.skip 16 (.skip 17 (.op 18 (.op 19 .done)))))))))))))))))) (.skip 4 (.skip 5 (.skip 6 (.op 7 (.op 8 (.know 8 false (.skip 9 (.skip 10 (.skip 11 (.op 12 (.op 13 (.know 13 false (.skip 14 (.skip 15 (.skip 16 (.skip 17 (.op 18 (.op 19 .done)))))))))))))))))))))))) .nop)))

theorem bodkinlaw02_three.ok : okC Tryd.f12.ntmps bodkinlaw02_three.sc (bodyOf Tryd.f12) = true := by kernel_rfl

theorem bodkinlaw02_three.eq {K : K1} {w : World} : bodkinlaw02_three K  w = codeS Tryd.prog bodkinlaw02_three.sc (bodyOf Tryd.f12) (argsF 0 []) w (retQ Tryd.prog Tryd.f12.results.toList K) := by kernel_rfl

theorem bodkinlaw02_three.call {K : K1} {w : World} (h : bodkinlaw02_three K  w) : sCall Tryd.prog 12 [] w K := sCall_code mixed Tryd.func12 (by kernel_rfl) rfl rfl bodkinlaw02_three.ok bodkinlaw02_three.eq h

abbrev bodkinlaw02_three.n : Nat := 12

/-- 'bodkin bodkinlaw02.WidthPlain' -/
def bodkinlaw02_WidthPlain (K : K1) (r0 : Value) (w : World) : Prop :=
  sCall Tryd.prog 8 [] w fun x3 w =>
  sCall Tryd.prog 9 [x3, r0] w fun x5 w =>
  sCall Tryd.prog 10 [] w fun x6 w =>
  sCall Tryd.prog 11 [x6, r0] w fun x8 w =>
  sBin Tryd.prog .eql 3 false false x5 x8 w fun x9 w =>
  sIf x9 (
    sCall Tryd.prog 12 [] w fun x11 w =>
    K x11 w) (
    K (.bool false) w)

def bodkinlaw02_WidthPlain.sc : SC := (.seq (.reg (.op 0 .done)) (.seq (.reg (.op 0 (.op 1 (.op 2 (.op 3 (.op 4 (.op 5 (.op 6 (.op 7 (.test 7 (.op 8 (.op 9 (.op 10 .done))) (.skip 8 (.op 9 (.op 10 .done))))))))))))) .nop))

theorem bodkinlaw02_WidthPlain.ok : okC Tryd.f3.ntmps bodkinlaw02_WidthPlain.sc (bodyOf Tryd.f3) = true := by kernel_rfl

theorem bodkinlaw02_WidthPlain.eq {K : K1} {r0 : Value} {w : World} : bodkinlaw02_WidthPlain K r0 w = codeS Tryd.prog bodkinlaw02_WidthPlain.sc (bodyOf Tryd.f3) (argsF 0 [r0]) w (retQ Tryd.prog Tryd.f3.results.toList K) := by kernel_rfl

theorem bodkinlaw02_WidthPlain.call {K : K1} {r0 : Value} {w : World} (h : bodkinlaw02_WidthPlain K r0 w) : sCall Tryd.prog 3 [r0] w K := sCall_code mixed Tryd.func3 (by kernel_rfl) rfl rfl bodkinlaw02_WidthPlain.ok bodkinlaw02_WidthPlain.eq h

abbrev bodkinlaw02_WidthPlain.n : Nat := 3

/-- 'bodkin bodkinlaw02.WidthSums' -/
def bodkinlaw02_WidthSums (K : K1) (l0 at1 : Value) (w : World) : Prop :=
  sBuiltin Tryd.prog .len [29] 3 [l0] w fun x7 w =>
  sBin Tryd.prog .gtr 3 false true x7 (.int .i64 1000) w fun x8 w =>
  sIf x8 (
    sCall Tryd.prog 12 [] w fun x19 w =>
    K x19 w) (
    sBin Tryd.prog .lss 3 false true at1 (.int .i64 0) w fun x11 w =>
    sIf x11 (
      sCall Tryd.prog 12 [] w fun x19_1 w =>
      K x19_1 w) (
      sBuiltin Tryd.prog .len [29] 3 [l0] w fun x16 w =>
      sBin Tryd.prog .gtr 3 false false at1 x16 w fun x17 w =>
      sIf x17 (
        sCall Tryd.prog 12 [] w fun x19_2 w =>
        K x19_2 w) (
        sCall Tryd.prog 8 [] w fun x20 w =>
        DrawS w fun C w =>
        sCall Tryd.prog 13 [x20, l0] w fun x23 w => C w ∧
        sCall Tryd.prog 10 [] w fun x24 w => C w ∧
        sCall Tryd.prog 14 [x24, l0] w fun x26 w => C w ∧
        stillS C w (fun w k => sBin Tryd.prog .eql 3 false false x23 x26 w k) fun x27 =>
        sIf x27 (
          stillS C w (fun w k => sSlice Tryd.prog 29 l0 none (some at1) none w k) fun x35 =>
          stillS C w (fun w k => sSlice Tryd.prog 29 l0 (some at1) none none w k) fun x40 =>
          sCall Tryd.prog 13 [x20, l0] w fun x31 w => C w ∧
          sCall Tryd.prog 13 [x20, x35] w fun x36 w => C w ∧
          sCall Tryd.prog 13 [x20, x40] w fun x41 w => C w ∧
          stillS C w (fun w k => sBin Tryd.prog .add 3 false false x36 x41 w k) fun x42 =>
          stillS C w (fun w k => sBin Tryd.prog .eql 3 false false x31 x42 w k) fun x43 =>
          sIf x43 (
            sCall Tryd.prog 12 [] w fun x46 w => C w ∧
            K x46 w) (
            K (.bool false) w)) (
          K (.bool false) w))))

def bodkinlaw02_WidthSums.sc : SC := (.seq (.reg (.op 0 .done)) (.seq (.seq (.reg (.op 0 (.op 1 (.op 2 (.op 3 (.test 3 (.skip 4 (.skip 5 (.op 6 (.op 7 (.know 7 true (.skip 8 (.skip 9 (.skip 10 (.skip 11 (.op 12 .done)))))))))) (.op 4 (.op 5 (.op 6 (.op 7 (.test 7 (.skip 8 (.skip 9 (.skip 10 (.skip 11 (.op 12 .done))))) (.op 8 (.op 9 (.op 10 (.op 11 (.op 12 .done)))))))))))))))) (.cond (.seq (.reg (.op 0 (.op 1 .done))) .nop) .nop)) (.seq (.reg (.op 0 (.op 1 .done))) (.seq (.draw (.op 0 (.op 1 (.op 4 (.op 2 (.op 3 (.op 5 (.op 6 (.op 7 (.test 7 (.op 8 (.op 9 (.op 11 (.op 12 (.op 13 (.op 14 (.op 16 (.op 17 (.op 18 (.op 19 (.op 10 (.op 15 (.op 20 (.op 21 (.op 22 (.op 23 (.op 24 (.test 24 (.op 25 (.op 26 (.op 27 .done))) (.skip 25 (.op 26 (.op 27 .done))))))))))))))))))))) (.skip 8 (.skip 9 (.skip 10 (.skip 11 (.skip 12 (.skip 13 (.skip 14 (.skip 15 (.skip 16 (.skip 17 (.skip 18 (.skip 19 (.skip 20 (.skip 21 (.skip 22 (.op 23 (.op 24 (.know 24 false (.skip 25 (.op 26 (.op 27 .done))))))))))))))))))))))))))))))) .nop))))

theorem bodkinlaw02_WidthSums.ok : okC Tryd.f4.ntmps bodkinlaw02_WidthSums.sc (bodyOf Tryd.f4) = true := by kernel_rfl

theorem bodkinlaw02_WidthSums.eq {K : K1} {l0 at1 : Value} {w : World} : bodkinlaw02_WidthSums K l0 at1 w = codeS Tryd.prog bodkinlaw02_WidthSums.sc (bodyOf Tryd.f4) (argsF 0 [l0, at1]) w (retQ Tryd.prog Tryd.f4.results.toList K) := by kernel_rfl

theorem bodkinlaw02_WidthSums.call {K : K1} {l0 at1 : Value} {w : World} (h : bodkinlaw02_WidthSums K l0 at1 w) : sCall Tryd.prog 4 [l0, at1] w K := sCall_code mixed Tryd.func4 (by kernel_rfl) rfl rfl bodkinlaw02_WidthSums.ok bodkinlaw02_WidthSums.eq h

abbrev bodkinlaw02_WidthSums.n : Nat := 4

/-- 'bodkin bodkinlaw02.WidthNil' -/
def bodkinlaw02_WidthNil (K : K1) (l0 : Value) (w : World) : Prop :=
  sBuiltin Tryd.prog .len [29] 3 [l0] w fun x5 w =>
  sBin Tryd.prog .gtr 3 false true x5 (.int .i64 1000) w fun x6 w =>
  sIf x6 (
    sCall Tryd.prog 12 [] w fun x7 w =>
    K x7 w) (
    sCall Tryd.prog 9 [(.pointer none), (.int .i32 97)] w fun x9 w =>
    sBin Tryd.prog .eql 3 false true x9 (.int .i64 1) w fun x10 w =>
    sIf x10 (
      sCall Tryd.prog 9 [(.pointer none), (.int .i32 19968)] w fun x13 w =>
      sBin Tryd.prog .eql 3 false true x13 (.int .i64 1) w fun x14 w =>
      sIf x14 (
        sCall Tryd.prog 13 [(.pointer none), l0] w fun x19 w =>
        sBuiltin Tryd.prog .len [29] 3 [l0] w fun x21 w =>
        sBin Tryd.prog .eql 3 false false x19 x21 w fun x22 w =>
        sIf x22 (
          sCall Tryd.prog 12 [] w fun x25 w =>
          K x25 w) (
          K (.bool false) w)) (
        K (.bool false) w)) (
      K (.bool false) w))

def bodkinlaw02_WidthNil.sc : SC := (.seq (.reg (.op 0 .done)) (.seq (.reg (.op 0 .done)) (.seq (.seq (.reg (.op 0 (.op 1 (.op 2 .done)))) (.cond (.seq (.reg (.op 0 (.op 1 .done))) .nop) .nop)) (.seq (.reg (.op 0 (.op 1 (.op 2 (.op 3 (.test 3 (.op 4 (.op 5 (.op 6 (.op 7 (.op 8 (.test 8 (.op 9 (.op 10 (.op 11 (.op 12 (.op 13 (.op 14 (.op 15 (.op 16 (.test 16 (.op 17 (.op 18 (.op 19 .done))) (.skip 17 (.op 18 (.op 19 .done)))))))))))) (.skip 9 (.skip 10 (.skip 11 (.skip 12 (.skip 13 (.skip 14 (.op 15 (.op 16 (.know 16 false (.skip 17 (.op 18 (.op 19 .done)))))))))))))))))) (.skip 4 (.skip 5 (.skip 6 (.op 7 (.op 8 (.know 8 false (.skip 9 (.skip 10 (.skip 11 (.skip 12 (.skip 13 (.skip 14 (.op 15 (.op 16 (.know 16 false (.skip 17 (.op 18 (.op 19 .done)))))))))))))))))))))))) .nop))))

theorem bodkinlaw02_WidthNil.ok : okC Tryd.f5.ntmps bodkinlaw02_WidthNil.sc (bodyOf Tryd.f5) = true := by kernel_rfl

theorem bodkinlaw02_WidthNil.eq {K : K1} {l0 : Value} {w : World} : bodkinlaw02_WidthNil K l0 w = codeS Tryd.prog bodkinlaw02_WidthNil.sc (bodyOf Tryd.f5) (argsF 0 [l0]) w (retQ Tryd.prog Tryd.f5.results.toList K) := by kernel_rfl

theorem bodkinlaw02_WidthNil.call {K : K1} {l0 : Value} {w : World} (h : bodkinlaw02_WidthNil K l0 w) : sCall Tryd.prog 5 [l0] w K := sCall_code mixed Tryd.func5 (by kernel_rfl) rfl rfl bodkinlaw02_WidthNil.ok bodkinlaw02_WidthNil.eq h

abbrev bodkinlaw02_WidthNil.n : Nat := 5

/-- 'bodkin width.New' -/
def width_New_J1 (K : K1) (wide1 zero0 : Value) (x6 : Value) (w : World) : Prop :=
  sIf x6 (
    K (.tuple #[(.pointer none), (.int .i64 2)]) w) (
    sCall Tryd.prog 20 [zero0] w fun x17 w =>
    sUn Tryd.prog .not x17 w fun x18 w =>
    sIf x18 (
      K (.tuple #[(.pointer none), (.int .i64 4)]) w) (
      sCall Tryd.prog 20 [wide1] w fun x21 w =>
      sUn Tryd.prog .not x21 w fun x22 w =>
      sIf x22 (
        K (.tuple #[(.pointer none), (.int .i64 4)]) w) (
        sCall Tryd.prog 21 [zero0] w fun x25 w =>
        sCall Tryd.prog 21 [wide1] w fun x27 w =>
        sBuild Tryd.prog 46 [(0, x25), (1, x27)] w fun x28 w =>
        sBox Tryd.prog 46 x28 w fun x29 w =>
        K (.tuple #[x29, (.int .i64 0)]) w)))

def width_New (K : K1) (zero0 wide1 : Value) (w : World) : Prop :=
  JoinS 1 8 (fun M1 =>
    sBuiltin Tryd.prog .len [33] 3 [zero0] w fun x8 w =>
    sBin Tryd.prog .gtr 3 false true x8 (.int .i64 200) w fun x9 w =>
    sIf x9 (
      M1 [(.bool true)] w) (
      sBuiltin Tryd.prog .len [33] 3 [wide1] w fun x12 w =>
      sBin Tryd.prog .gtr 3 false true x12 (.int .i64 200) w fun x13 w =>
      M1 [x13] w)) fun us _ w =>
    width_New_J1 K wide1 zero0 (hd us) w

def width_New.sc : SC := (.seq (.reg (.op 0 (.op 1 .done))) (.seq (.sub (.join [6] [7, 8, 9, 10, 11, 12, 13, 14] (.reg (.op 0 (.op 1 (.op 2 (.op 3 (.test 3 (.skip 4 (.skip 5 (.skip 6 (.op 7 (.op 8 .done))))) (.op 4 (.op 5 (.op 6 (.op 7 (.op 8 .done))))))))))) (.cond (.seq (.reg (.op 0 (.op 1 .done))) .nop) (.seq (.reg (.op 0 (.op 1 (.op 2 (.op 3 (.test 3 (.skip 4 (.skip 5 (.skip 6 (.op 7 (.op 8 .done))))) (.op 4 (.op 5 (.op 6 (.op 7 (.op 8 .done))))))))))) (.cond (.seq (.reg (.op 0 (.op 1 .done))) .nop) .nop))))) (.seq (.reg (.op 0 (.op 1 (.op 2 (.op 3 (.op 4 (.op 5 (.op 6 (.op 7 .done))))))))) .nop)))

theorem width_New.ok : okC Tryd.f15.ntmps width_New.sc (bodyOf Tryd.f15) = true := by kernel_rfl

theorem width_New.eq {K : K1} {zero0 wide1 : Value} {w : World} : width_New K zero0 wide1 w = codeS Tryd.prog width_New.sc (bodyOf Tryd.f15) (argsF 0 [zero0, wide1]) w (retQ Tryd.prog Tryd.f15.results.toList K) := by kernel_rfl

theorem width_New.call {K : K1} {zero0 wide1 : Value} {w : World} (h : width_New K zero0 wide1 w) : sCall Tryd.prog 15 [zero0, wide1] w K := sCall_code mixed Tryd.func15 (by kernel_rfl) rfl rfl width_New.ok width_New.eq h

abbrev width_New.n : Nat := 15

/-- 'bodkin width.right' -/
def width_right_L1 (K : K1) (Nx1 : List Value → World → Prop) (l0 x7 : Value) (last3 x8 : Value) (w : World) : Prop :=
  sBin Tryd.prog .lss 3 false false x8 x7 w fun x9 w =>
  sIf x9 (
    sIdxA Tryd.prog 33 l0 x8 w fun x10 w =>
    sLoad Tryd.prog 43 x10 w fun x11 w =>
    sAlloc Tryd.prog 43 w fun r5 w =>
    sStore Tryd.prog 43 r5 x11 w fun w =>
    sFldA Tryd.prog 43 r5 0 w fun x12 w =>
    sLoad Tryd.prog 21 x12 w fun x13 w =>
    sBin Tryd.prog .leq 21 false false x13 last3 w fun x15 w =>
    sIf x15 (
      K (.bool false) w) (
      sFldA Tryd.prog 43 r5 0 w fun x17 w =>
      sLoad Tryd.prog 21 x17 w fun x18 w =>
      sFldA Tryd.prog 43 r5 1 w fun x19 w =>
      sLoad Tryd.prog 21 x19 w fun x20 w =>
      sBin Tryd.prog .gtr 21 false false x18 x20 w fun x21 w =>
      sIf x21 (
        K (.bool false) w) (
        sFldA Tryd.prog 43 r5 1 w fun x23 w =>
        sLoad Tryd.prog 21 x23 w fun x24 w =>
        sBin Tryd.prog .add 3 false true x8 (.int .i64 1) w fun x25 w =>
        Nx1 [x24, x25] w))) (
    K (.bool true) w)

def width_right (K : K1) (l0 : Value) (w : World) : Prop :=
  sBuiltin Tryd.prog .len [33] 3 [l0] w fun x7 w =>
  LoopS [(.int .i32 (-1)), (.int .i64 0)] 2 19 w fun us _ w Nx1 =>
    width_right_L1 K Nx1 l0 x7 (hd us) (hd (tl us)) w

def width_right.sc : SC := (.seq (.reg (.op 0 .done)) (.seq (.reg (.op 0 .done)) (.seq (.seq (.reg (.op 0 (.op 1 (.op 2 .done)))) (.sub (.loop [3, 8] [9, 10, 11, 5, 12, 13, 14, 15, 16, 17, 18, 19, 20, 21, 22, 2, 23, 24, 25] (.seq (.reg (.op 0 .done)) (.seq (.cond .nop .nop) (.seq (.sub (.seq (.reg (.op 0 (.op 1 (.op 2 (.op 3 .done))))) (.seq (.seq (.reg (.op 0 (.op 1 (.op 2 (.op 3 (.op 4 (.test 4 (.skip 5 (.skip 6 (.skip 7 (.skip 8 (.skip 9 (.op 10 .done)))))) (.op 5 (.op 6 (.op 7 (.op 8 (.op 9 (.op 10 .done))))))))))))) (.cond (.seq (.reg (.op 0 .done)) .nop) .nop)) (.reg (.op 0 (.op 1 (.op 2 .done))))))) (.reg (.op 0 (.op 1 .done))))))))) (.seq (.reg (.op 0 .done)) .nop))))

theorem width_right.ok : okC Tryd.f20.ntmps width_right.sc (bodyOf Tryd.f20) = true := by kernel_rfl

theorem width_right.eq {K : K1} {l0 : Value} {w : World} : width_right K l0 w = codeS Tryd.prog width_right.sc (bodyOf Tryd.f20) (argsF 0 [l0]) w (retQ Tryd.prog Tryd.f20.results.toList K) := by kernel_rfl

theorem width_right.call {K : K1} {l0 : Value} {w : World} (h : width_right K l0 w) : sCall Tryd.prog 20 [l0] w K := sCall_code mixed Tryd.func20 (by kernel_rfl) rfl rfl width_right.ok width_right.eq h

abbrev width_right.n : Nat := 20

/-- 'slices.Clone[[]bodkin width.Range,bodkin width.Range]' -/
def slices_Clone (K : K1) (s0 : Value) (w : World) : Prop :=
  sBin Tryd.prog .eql 33 false true s0 (.slice none 0 0) w fun x4 w =>
  sIf x4 (
    K (.slice none 0 0) w) (
    sBuildSlice Tryd.prog 33 0 [] w fun x5 w =>
    sBuiltin Tryd.prog .append [33, 33] 33 [x5, s0] w fun x7 w =>
    K x7 w)

def slices_Clone.sc : SC := (.seq (.reg (.op 0 .done)) (.seq (.seq (.reg (.op 0 (.op 1 .done))) (.cond (.seq (.reg (.op 0 .done)) .nop) .nop)) (.seq (.reg (.op 0 (.op 1 (.op 2 (.op 3 .done))))) .nop)))

theorem slices_Clone.ok : okC Tryd.f21.ntmps slices_Clone.sc (bodyOf Tryd.f21) = true := by kernel_rfl

theorem slices_Clone.eq {K : K1} {s0 : Value} {w : World} : slices_Clone K s0 w = codeS Tryd.prog slices_Clone.sc (bodyOf Tryd.f21) (argsF 0 [s0]) w (retQ Tryd.prog Tryd.f21.results.toList K) := by kernel_rfl

theorem slices_Clone.call {K : K1} {s0 : Value} {w : World} (h : slices_Clone K s0 w) : sCall Tryd.prog 21 [s0] w K := sCall_code mixed Tryd.func21 (by kernel_rfl) rfl rfl slices_Clone.ok slices_Clone.eq h

abbrev slices_Clone.n : Nat := 21

/-- 'bodkin bodkinlaw02.refs' -/
def bodkinlaw02_refs_L1 (K : K1) (Nx1 : List Value → World → Prop) (l0 x7 : Value) (out3 x8 : Value) (w : World) : Prop :=
  sBin Tryd.prog .lss 3 false false x8 x7 w fun x9 w =>
  sIf x9 (
    sIdxA Tryd.prog 33 l0 x8 w fun x10 w =>
    sLoad Tryd.prog 43 x10 w fun x11 w =>
    sAlloc Tryd.prog 43 w fun r5 w =>
    sStore Tryd.prog 43 r5 x11 w fun w =>
    sFldA Tryd.prog 43 r5 0 w fun x13 w =>
    sLoad Tryd.prog 21 x13 w fun x14 w =>
    sFldA Tryd.prog 43 r5 1 w fun x15 w =>
    sLoad Tryd.prog 21 x15 w fun x16 w =>
    sBuild Tryd.prog 50 [(0, x14), (1, x16)] w fun x17 w =>
    sBuildSlice Tryd.prog 37 1 [(0, x17)] w fun x18 w =>
    sBuiltin Tryd.prog .append [37, 37] 37 [out3, x18] w fun x19 w =>
    sBin Tryd.prog .add 3 false true x8 (.int .i64 1) w fun x20 w =>
    Nx1 [x19, x20] w) (
    K out3 w)

def bodkinlaw02_refs (K : K1) (l0 : Value) (w : World) : Prop :=
  sBuiltin Tryd.prog .len [33] 3 [l0] w fun x7 w =>
  LoopS [(.slice none 0 0), (.int .i64 0)] 2 13 w fun us _ w Nx1 =>
    bodkinlaw02_refs_L1 K Nx1 l0 x7 (hd us) (hd (tl us)) w

def bodkinlaw02_refs.sc : SC := (.seq (.reg (.op 0 .done)) (.seq (.reg (.op 0 .done)) (.seq (.seq (.reg (.op 0 (.op 1 (.op 2 .done)))) (.sub (.loop [3, 8] [9, 10, 11, 5, 12, 13, 14, 15, 16, 17, 18, 19, 20] (.seq (.reg (.op 0 .done)) (.seq (.cond .nop .nop) (.seq (.sub (.seq (.reg (.op 0 (.op 1 (.op 2 (.op 3 .done))))) (.reg (.op 0 (.op 1 (.op 2 (.op 3 (.op 4 (.op 5 (.op 6 (.op 7 (.op 8 .done)))))))))))) (.reg (.op 0 (.op 1 .done))))))))) (.seq (.reg (.op 0 (.op 1 .done))) .nop))))

theorem bodkinlaw02_refs.ok : okC Tryd.f16.ntmps bodkinlaw02_refs.sc (bodyOf Tryd.f16) = true := by kernel_rfl

theorem bodkinlaw02_refs.eq {K : K1} {l0 : Value} {w : World} : bodkinlaw02_refs K l0 w = codeS Tryd.prog bodkinlaw02_refs.sc (bodyOf Tryd.f16) (argsF 0 [l0]) w (retQ Tryd.prog Tryd.f16.results.toList K) := by kernel_rfl

theorem bodkinlaw02_refs.call {K : K1} {l0 : Value} {w : World} (h : bodkinlaw02_refs K l0 w) : sCall Tryd.prog 16 [l0] w K := sCall_code mixed Tryd.func16 (by kernel_rfl) rfl rfl bodkinlaw02_refs.ok bodkinlaw02_refs.eq h

abbrev bodkinlaw02_refs.n : Nat := 16

/-- 'bodkin bodkinref02.Right' -/
def bodkinref02_Right_L1 (K : K1) (Nx1 : List Value → World → Prop) (l0 x6 : Value) (x7 : Value) (w : World) : Prop :=
  sBin Tryd.prog .lss 3 false false x7 x6 w fun x8 w =>
  sIf x8 (
    sIdxA Tryd.prog 37 l0 x7 w fun x10 w =>
    sLoad Tryd.prog 50 x10 w fun x11 w =>
    sAlloc Tryd.prog 50 w fun r4 w =>
    sStore Tryd.prog 50 r4 x11 w fun w =>
    DrawS w fun C w =>
    stillS C w (fun w k => sFldA Tryd.prog 50 r4 0 w k) fun x12 =>
    stillS C w (fun w k => sLoad Tryd.prog 21 x12 w k) fun x13 =>
    stillS C w (fun w k => sBin Tryd.prog .lss 21 false true x13 (.int .i32 0) w k) fun x14 =>
    sIf x14 (
      K (.bool false) w) (
      stillS C w (fun w k => sFldA Tryd.prog 50 r4 0 w k) fun x16 =>
      stillS C w (fun w k => sLoad Tryd.prog 21 x16 w k) fun x17 =>
      stillS C w (fun w k => sFldA Tryd.prog 50 r4 1 w k) fun x18 =>
      stillS C w (fun w k => sLoad Tryd.prog 21 x18 w k) fun x19 =>
      stillS C w (fun w k => sBin Tryd.prog .gtr 21 false false x17 x19 w k) fun x20 =>
      sIf x20 (
        K (.bool false) w) (
        stillS C w (fun w k => sBin Tryd.prog .gtr 3 false true x7 (.int .i64 0) w k) fun x24 =>
        sIf x24 (
          stillS C w (fun w k => sFldA Tryd.prog 50 r4 0 w k) fun x26 =>
          stillS C w (fun w k => sLoad Tryd.prog 21 x26 w k) fun x27 =>
          stillS C w (fun w k => sBin Tryd.prog .sub 3 false true x7 (.int .i64 1) w k) fun x30 =>
          stillS C w (fun w k => sIdxA Tryd.prog 37 l0 x30 w k) fun x31 =>
          stillS C w (fun w k => sFldA Tryd.prog 50 x31 1 w k) fun x32 =>
          stillS C w (fun w k => sLoad Tryd.prog 21 x32 w k) fun x33 =>
          stillS C w (fun w k => sBin Tryd.prog .leq 21 false false x27 x33 w k) fun x34 =>
          sIf x34 (
            K (.bool false) w) (
            sBin Tryd.prog .add 3 false true x7 (.int .i64 1) w fun x37 w =>
            Nx1 [x37] w)) (
          sBin Tryd.prog .add 3 false true x7 (.int .i64 1) w fun x37_1 w =>
          Nx1 [x37_1] w)))) (
    K (.bool true) w)

def bodkinref02_Right (K : K1) (l0 : Value) (w : World) : Prop :=
  sBuiltin Tryd.prog .len [37] 3 [l0] w fun x6 w =>
  LoopS [(.int .i64 0)] 1 33 w fun us _ w Nx1 =>
    bodkinref02_Right_L1 K Nx1 l0 x6 (hd us) w

def bodkinref02_Right.sc : SC := (.seq (.reg (.op 0 .done)) (.seq (.seq (.reg (.op 0 (.op 1 (.op 2 .done)))) (.sub (.loop [7] [8, 9, 10, 11, 4, 3, 12, 13, 14, 15, 16, 17, 18, 19, 20, 21, 22, 23, 24, 25, 26, 27, 28, 29, 30, 31, 32, 33, 34, 35, 36, 2, 37] (.seq (.reg (.op 0 .done)) (.seq (.cond .nop .nop) (.seq (.sub (.seq (.reg (.op 0 (.op 1 (.op 2 (.op 3 (.op 4 (.op 5 .done))))))) (.seq (.draw (.op 0 (.op 1 (.op 2 (.op 3 (.test 3 (.skip 4 (.skip 5 (.skip 6 (.skip 7 (.skip 8 (.op 9 (.op 10 (.know 10 true (.skip 11 (.skip 12 (.skip 13 (.skip 14 (.skip 15 (.skip 16 (.skip 17 (.skip 18 (.skip 19 (.skip 20 (.skip 21 (.skip 22 (.skip 23 (.op 24 .done)))))))))))))))))))))) (.op 4 (.op 5 (.op 6 (.op 7 (.op 8 (.op 9 (.op 10 (.test 10 (.skip 11 (.skip 12 (.skip 13 (.skip 14 (.skip 15 (.skip 16 (.skip 17 (.skip 18 (.skip 19 (.skip 20 (.skip 21 (.skip 22 (.skip 23 (.op 24 .done)))))))))))))) (.op 11 (.op 12 (.op 13 (.test 13 (.op 14 (.op 15 (.op 16 (.op 17 (.op 18 (.op 19 (.op 20 (.op 21 (.op 22 (.op 23 (.op 24 .done))))))))))) (.skip 14 (.skip 15 (.skip 16 (.skip 17 (.skip 18 (.skip 19 (.skip 20 (.skip 21 (.skip 22 (.op 23 (.op 24 .done))))))))))))))))))))))))))))) (.cond (.seq (.reg (.op 0 .done)) .nop) .nop)))) (.reg (.op 0 (.op 1 .done))))))))) (.seq (.reg (.op 0 .done)) .nop)))

theorem bodkinref02_Right.ok : okC Tryd.f17.ntmps bodkinref02_Right.sc (bodyOf Tryd.f17) = true := by kernel_rfl

theorem bodkinref02_Right.eq {K : K1} {l0 : Value} {w : World} : bodkinref02_Right K l0 w = codeS Tryd.prog bodkinref02_Right.sc (bodyOf Tryd.f17) (argsF 0 [l0]) w (retQ Tryd.prog Tryd.f17.results.toList K) := by kernel_rfl

theorem bodkinref02_Right.call {K : K1} {l0 : Value} {w : World} (h : bodkinref02_Right K l0 w) : sCall Tryd.prog 17 [l0] w K := sCall_code mixed Tryd.func17 (by kernel_rfl) rfl rfl bodkinref02_Right.ok bodkinref02_Right.eq h

abbrev bodkinref02_Right.n : Nat := 17

/-- 'bodkin bodkinlaw02.WidthTables' -/
def bodkinlaw02_WidthTables_L4 (K : K1) (Nx4 : List Value → World → Prop) (wide1 x118 x27 x34 : Value) (x119 : Value) (w : World) : Prop :=
  sBin Tryd.prog .lss 3 false false x119 x118 w fun x120 w =>
  sIf x120 (
    sIdxA Tryd.prog 33 wide1 x119 w fun x121 w =>
    sLoad Tryd.prog 43 x121 w fun x122 w =>
    sAlloc Tryd.prog 43 w fun x13 w =>
    sStore Tryd.prog 43 x13 x122 w fun w =>
    DrawS w fun C w =>
    stillS C w (fun w k => sFldA Tryd.prog 43 x13 0 w k) fun x124 =>
    stillS C w (fun w k => sLoad Tryd.prog 21 x124 w k) fun x125 =>
    stillS C w (fun w k => sFldA Tryd.prog 43 x13 0 w k) fun x128 =>
    stillS C w (fun w k => sLoad Tryd.prog 21 x128 w k) fun x129 =>
    sCall Tryd.prog 9 [x27, x125] w fun x126 w => C w ∧
    sCall Tryd.prog 11 [x34, x129] w fun x130 w => C w ∧
    stillS C w (fun w k => sBin Tryd.prog .neq 3 false false x126 x130 w k) fun x131 =>
    sIf x131 (
      K (.bool false) w) (
      stillS C w (fun w k => sFldA Tryd.prog 43 x13 1 w k) fun x134 =>
      stillS C w (fun w k => sLoad Tryd.prog 21 x134 w k) fun x135 =>
      stillS C w (fun w k => sFldA Tryd.prog 43 x13 1 w k) fun x138 =>
      stillS C w (fun w k => sLoad Tryd.prog 21 x138 w k) fun x139 =>
      sCall Tryd.prog 9 [x27, x135] w fun x136 w => C w ∧
      sCall Tryd.prog 11 [x34, x139] w fun x140 w => C w ∧
      stillS C w (fun w k => sBin Tryd.prog .neq 3 false false x136 x140 w k) fun x141 =>
      sIf x141 (
        K (.bool false) w) (
        sBin Tryd.prog .add 3 false true x119 (.int .i64 1) w fun x143 w =>
        Nx4 [x143] w))) (
    sCall Tryd.prog 12 [] w fun x144 w =>
    K x144 w)

def bodkinlaw02_WidthTables_L3 (K : K1) (Nx3 : List Value → World → Prop) (wide1 x27 x34 x91 zero0 : Value) (x92 : Value) (w : World) : Prop :=
  sBin Tryd.prog .lss 3 false false x92 x91 w fun x93 w =>
  sIf x93 (
    sIdxA Tryd.prog 33 zero0 x92 w fun x94 w =>
    sLoad Tryd.prog 43 x94 w fun x95 w =>
    sAlloc Tryd.prog 43 w fun x11 w =>
    sStore Tryd.prog 43 x11 x95 w fun w =>
    DrawS w fun C w =>
    stillS C w (fun w k => sFldA Tryd.prog 43 x11 0 w k) fun x97 =>
    stillS C w (fun w k => sLoad Tryd.prog 21 x97 w k) fun x98 =>
    stillS C w (fun w k => sFldA Tryd.prog 43 x11 0 w k) fun x101 =>
    stillS C w (fun w k => sLoad Tryd.prog 21 x101 w k) fun x102 =>
    sCall Tryd.prog 9 [x27, x98] w fun x99 w => C w ∧
    sCall Tryd.prog 11 [x34, x102] w fun x103 w => C w ∧
    stillS C w (fun w k => sBin Tryd.prog .neq 3 false false x99 x103 w k) fun x104 =>
    sIf x104 (
      K (.bool false) w) (
      stillS C w (fun w k => sFldA Tryd.prog 43 x11 1 w k) fun x107 =>
      stillS C w (fun w k => sLoad Tryd.prog 21 x107 w k) fun x108 =>
      stillS C w (fun w k => sFldA Tryd.prog 43 x11 1 w k) fun x111 =>
      stillS C w (fun w k => sLoad Tryd.prog 21 x111 w k) fun x112 =>
      sCall Tryd.prog 9 [x27, x108] w fun x109 w => C w ∧
      sCall Tryd.prog 11 [x34, x112] w fun x113 w => C w ∧
      stillS C w (fun w k => sBin Tryd.prog .neq 3 false false x109 x113 w k) fun x114 =>
      sIf x114 (
        K (.bool false) w) (
        sBin Tryd.prog .add 3 false true x92 (.int .i64 1) w fun x116 w =>
        Nx3 [x116] w))) (
    sBuiltin Tryd.prog .len [33] 3 [wide1] w fun x118 w =>
    LoopS [(.int .i64 0)] 1 26 w fun us _ w Nx4 =>
      bodkinlaw02_WidthTables_L4 K Nx4 wide1 x118 x27 x34 (hd us) w)

def bodkinlaw02_WidthTables_J2 (K : K1) (r2 wide1 x27 x28 x34 zero0 : Value) (x65 : Value) (w : World) : Prop :=
  sIf x65 (
    sBin Tryd.prog .eql 34 false true x28 (.int .i64 4) w fun x67 w =>
    sIf x67 (
      sBin Tryd.prog .eql 22 false true x27 (.pointer none) w fun x70 w =>
      sIf x70 (
        sCall Tryd.prog 12 [] w fun x73 w =>
        K x73 w) (
        K (.bool false) w)) (
      K (.bool false) w)) (
    sBin Tryd.prog .neq 34 false true x28 (.int .i64 0) w fun x76 w =>
    sIf x76 (
      K (.bool false) w) (
      sBin Tryd.prog .eql 22 false true x27 (.pointer none) w fun x79 w =>
      sIf x79 (
        K (.bool false) w) (
        sCall Tryd.prog 9 [x27, r2] w fun x84 w =>
        sCall Tryd.prog 11 [x34, r2] w fun x87 w =>
        sBin Tryd.prog .neq 3 false false x84 x87 w fun x88 w =>
        sIf x88 (
          K (.bool false) w) (
          sBuiltin Tryd.prog .len [33] 3 [zero0] w fun x91 w =>
          LoopS [(.int .i64 0)] 1 26 w fun us _ w Nx3 =>
            bodkinlaw02_WidthTables_L3 K Nx3 wide1 x27 x34 x91 zero0 (hd us) w))))

def bodkinlaw02_WidthTables_J1 (K : K1) (r2 wide1 x27 x28 x34 zero0 : Value) (x42 : Value) (w : World) : Prop :=
  sIf x42 (
    sBin Tryd.prog .eql 34 false true x28 (.int .i64 2) w fun x44 w =>
    sIf x44 (
      sBin Tryd.prog .eql 22 false true x27 (.pointer none) w fun x47 w =>
      sIf x47 (
        sCall Tryd.prog 12 [] w fun x50 w =>
        K x50 w) (
        K (.bool false) w)) (
      K (.bool false) w)) (
    JoinS 1 13 (fun M2 =>
      sNil x34 w fun x53 w =>
      sFldA Tryd.prog 40 x53 0 w fun x54 w =>
      sLoad Tryd.prog 37 x54 w fun x55 w =>
      sCall Tryd.prog 17 [x55] w fun x56 w =>
      sUn Tryd.prog .not x56 w fun x57 w =>
      sIf x57 (
        M2 [(.bool true)] w) (
        sNil x34 w fun x60 w =>
        sFldA Tryd.prog 40 x60 1 w fun x61 w =>
        sLoad Tryd.prog 37 x61 w fun x62 w =>
        sCall Tryd.prog 17 [x62] w fun x63 w =>
        sUn Tryd.prog .not x63 w fun x64 w =>
        M2 [x64] w)) fun us _ w =>
      bodkinlaw02_WidthTables_J2 K r2 wide1 x27 x28 x34 zero0 (hd us) w)

def bodkinlaw02_WidthTables (K : K1) (zero0 wide1 r2 : Value) (w : World) : Prop :=
  sBuiltin Tryd.prog .len [33] 3 [zero0] w fun x15 w =>
  sBin Tryd.prog .gtr 3 false true x15 (.int .i64 1000) w fun x16 w =>
  sIf x16 (
    sCall Tryd.prog 12 [] w fun x22 w =>
    K x22 w) (
    sBuiltin Tryd.prog .len [33] 3 [wide1] w fun x19 w =>
    sBin Tryd.prog .gtr 3 false true x19 (.int .i64 1000) w fun x20 w =>
    sIf x20 (
      sCall Tryd.prog 12 [] w fun x22_1 w =>
      K x22_1 w) (
      sCall Tryd.prog 15 [zero0, wide1] w fun x26 w =>
      sExtract x26 0 w fun x27 w =>
      sExtract x26 1 w fun x28 w =>
      sCall Tryd.prog 16 [zero0] w fun x30 w =>
      sCall Tryd.prog 16 [wide1] w fun x32 w =>
      sBuild Tryd.prog 40 [(0, x30), (1, x32)] w fun x33 w =>
      sBox Tryd.prog 40 x33 w fun x34 w =>
      JoinS 1 7 (fun M1 =>
        sBuiltin Tryd.prog .len [33] 3 [zero0] w fun x36 w =>
        sBin Tryd.prog .gtr 3 false true x36 (.int .i64 200) w fun x37 w =>
        sIf x37 (
          M1 [(.bool true)] w) (
          sBuiltin Tryd.prog .len [33] 3 [wide1] w fun x40 w =>
          sBin Tryd.prog .gtr 3 false true x40 (.int .i64 200) w fun x41 w =>
          M1 [x41] w)) fun us _ w =>
        bodkinlaw02_WidthTables_J1 K r2 wide1 x27 x28 x34 zero0 (hd us) w))

def bodkinlaw02_WidthTables.sc : SC := (.seq (.reg (.op 0 .done)) (.seq (.seq (.reg (.op 0 (.op 1 (.op 2 (.op 3 (.test 3 (.skip 4 (.skip 5 (.skip 6 (.op 7 .done)))) (.op 4 (.op 5 (.op 6 (.op 7 .done)))))))))) (.cond (.seq (.reg (.op 0 (.op 1 .done))) .nop) .nop)) (.seq (.reg (.op 0 (.op 1 (.op 2 (.op 3 (.op 4 (.op 5 (.op 6 (.op 7 .done))))))))) (.seq (.reg (.op 0 (.op 1 (.op 2 (.op 3 (.op 4 (.op 5 (.op 6 .done)))))))) (.seq (.join [42] [35, 36, 37, 38, 39, 40, 41] (.reg (.op 0 (.op 1 (.op 2 (.op 3 (.test 3 (.skip 4 (.skip 5 (.skip 6 (.op 7 .done)))) (.op 4 (.op 5 (.op 6 (.op 7 .done)))))))))) (.cond (.seq (.reg (.op 0 (.op 1 (.op 2 (.test 2 (.op 3 (.op 4 (.op 5 (.op 6 (.test 6 (.op 7 (.op 8 (.op 9 .done))) (.skip 7 (.op 8 (.op 9 .done)))))))) (.skip 3 (.skip 4 (.op 5 (.op 6 (.know 6 false (.skip 7 (.op 8 (.op 9 .done))))))))))))) .nop) .nop)) (.seq (.join [65] [52, 53, 54, 55, 56, 57, 58, 59, 60, 61, 62, 63, 64] (.reg (.op 0 (.op 1 (.op 2 (.op 3 (.op 4 (.op 5 (.op 6 (.test 6 (.skip 7 (.skip 8 (.skip 9 (.skip 10 (.skip 11 (.skip 12 (.op 13 .done))))))) (.op 7 (.op 8 (.op 9 (.op 10 (.op 11 (.op 12 (.op 13 .done)))))))))))))))) (.cond (.seq (.reg (.op 0 (.op 1 (.op 2 (.test 2 (.op 3 (.op 4 (.op 5 (.op 6 (.test 6 (.op 7 (.op 8 (.op 9 .done))) (.skip 7 (.op 8 (.op 9 .done)))))))) (.skip 3 (.skip 4 (.op 5 (.op 6 (.know 6 false (.skip 7 (.op 8 (.op 9 .done))))))))))))) .nop) .nop)) (.seq (.seq (.reg (.op 0 (.op 1 (.op 2 (.test 2 (.skip 3 (.skip 4 (.op 5 (.op 6 (.know 6 true (.skip 7 (.skip 8 (.skip 9 (.skip 10 (.skip 11 (.skip 12 (.skip 13 (.op 14 .done))))))))))))) (.op 3 (.op 4 (.op 5 (.op 6 (.test 6 (.skip 7 (.skip 8 (.skip 9 (.skip 10 (.skip 11 (.skip 12 (.skip 13 (.op 14 .done)))))))) (.op 7 (.op 8 (.op 9 (.op 10 (.op 11 (.op 12 (.op 13 (.op 14 .done)))))))))))))))))) (.cond (.seq (.reg (.op 0 .done)) .nop) .nop)) (.seq (.seq (.reg (.op 0 (.op 1 (.op 2 .done)))) (.sub (.loop [92] [93, 94, 95, 11, 96, 97, 98, 99, 100, 101, 102, 103, 104, 105, 106, 107, 108, 109, 110, 111, 112, 113, 114, 115, 6, 116] (.seq (.reg (.op 0 .done)) (.seq (.cond .nop .nop) (.seq (.sub (.seq (.reg (.op 0 (.op 1 (.op 2 (.op 3 .done))))) (.seq (.draw (.op 0 (.op 1 (.op 2 (.op 4 (.op 5 (.op 6 (.op 3 (.op 7 (.op 8 (.op 9 (.test 9 (.skip 10 (.skip 11 (.skip 12 (.skip 13 (.skip 14 (.skip 15 (.skip 16 (.skip 17 (.skip 18 (.op 19 .done)))))))))) (.op 10 (.op 11 (.op 12 (.op 14 (.op 15 (.op 16 (.op 13 (.op 17 (.op 18 (.op 19 .done)))))))))))))))))))))) (.cond (.seq (.reg (.op 0 .done)) .nop) .nop)))) (.reg (.op 0 (.op 1 .done))))))))) (.seq (.seq (.reg (.op 0 (.op 1 (.op 2 .done)))) (.sub (.loop [119] [120, 121, 122, 13, 123, 124, 125, 126, 127, 128, 129, 130, 131, 132, 133, 134, 135, 136, 137, 138, 139, 140, 141, 142, 6, 143] (.seq (.reg (.op 0 .done)) (.seq (.cond .nop .nop) (.seq (.sub (.seq (.reg (.op 0 (.op 1 (.op 2 (.op 3 .done))))) (.seq (.draw (.op 0 (.op 1 (.op 2 (.op 4 (.op 5 (.op 6 (.op 3 (.op 7 (.op 8 (.op 9 (.test 9 (.skip 10 (.skip 11 (.skip 12 (.skip 13 (.skip 14 (.skip 15 (.skip 16 (.skip 17 (.skip 18 (.op 19 .done)))))))))) (.op 10 (.op 11 (.op 12 (.op 14 (.op 15 (.op 16 (.op 13 (.op 17 (.op 18 (.op 19 .done)))))))))))))))))))))) (.cond (.seq (.reg (.op 0 .done)) .nop) .nop)))) (.reg (.op 0 (.op 1 .done))))))))) (.seq (.reg (.op 0 (.op 1 .done))) .nop))))))))))

theorem bodkinlaw02_WidthTables.ok : okC Tryd.f6.ntmps bodkinlaw02_WidthTables.sc (bodyOf Tryd.f6) = true := by kernel_rfl

theorem bodkinlaw02_WidthTables.eq {K : K1} {zero0 wide1 r2 : Value} {w : World} : bodkinlaw02_WidthTables K zero0 wide1 r2 w = codeS Tryd.prog bodkinlaw02_WidthTables.sc (bodyOf Tryd.f6) (argsF 0 [zero0, wide1, r2]) w (retQ Tryd.prog Tryd.f6.results.toList K) := by kernel_rfl

theorem bodkinlaw02_WidthTables.call {K : K1} {zero0 wide1 r2 : Value} {w : World} (h : bodkinlaw02_WidthTables K zero0 wide1 r2 w) : sCall Tryd.prog 6 [zero0, wide1, r2] w K := sCall_code mixed Tryd.func6 (by kernel_rfl) rfl rfl bodkinlaw02_WidthTables.ok bodkinlaw02_WidthTables.eq h

abbrev bodkinlaw02_WidthTables.n : Nat := 6

/-- 'bodkin bodkinlaw02.WidthKeeps' -/
def bodkinlaw02_WidthKeeps_L2 (K : K1) (Nx2 : List Value → World → Prop) (r2 x23 x28 x47 x49 : Value) (x50 : Value) (w : World) : Prop :=
  sBin Tryd.prog .lss 3 false false x50 x49 w fun x51 w =>
  sIf x51 (
    sBuild Tryd.prog 43 [(0, r2), (1, r2)] w fun x57 w =>
    sIdxA Tryd.prog 33 x23 x50 w fun x58 w =>
    sStore Tryd.prog 43 x58 x57 w fun w =>
    sBin Tryd.prog .add 3 false true x50 (.int .i64 1) w fun x59 w =>
    Nx2 [x59] w) (
    sCall Tryd.prog 9 [x28, r2] w fun x62 w =>
    sBin Tryd.prog .eql 3 false false x62 x47 w fun x64 w =>
    sIf x64 (
      sCall Tryd.prog 12 [] w fun x66 w =>
      K x66 w) (
      K (.bool false) w))

def bodkinlaw02_WidthKeeps_J1 (K : K1) (r2 x23 x28 x29 : Value) (x35 : Value) (w : World) : Prop :=
  sIf x35 (
    sBin Tryd.prog .neq 34 false true x29 (.int .i64 0) w fun x37 w =>
    sIf x37 (
      sBin Tryd.prog .eql 22 false true x28 (.pointer none) w fun x40 w =>
      sIf x40 (
        sCall Tryd.prog 12 [] w fun x43 w =>
        K x43 w) (
        K (.bool false) w)) (
      K (.bool false) w)) (
    sCall Tryd.prog 9 [x28, r2] w fun x47 w =>
    sBuiltin Tryd.prog .len [33] 3 [x23] w fun x49 w =>
    LoopS [(.int .i64 0)] 1 10 w fun us _ w Nx2 =>
      bodkinlaw02_WidthKeeps_L2 K Nx2 r2 x23 x28 x47 x49 (hd us) w)

def bodkinlaw02_WidthKeeps (K : K1) (zero0 wide1 r2 : Value) (w : World) : Prop :=
  sBuiltin Tryd.prog .len [33] 3 [zero0] w fun x13 w =>
  sBin Tryd.prog .gtr 3 false true x13 (.int .i64 1000) w fun x14 w =>
  sIf x14 (
    sCall Tryd.prog 12 [] w fun x20 w =>
    K x20 w) (
    sBuiltin Tryd.prog .len [33] 3 [wide1] w fun x17 w =>
    sBin Tryd.prog .gtr 3 false true x17 (.int .i64 1000) w fun x18 w =>
    sIf x18 (
      sCall Tryd.prog 12 [] w fun x20_1 w =>
      K x20_1 w) (
      sBuiltin Tryd.prog .append [33, 33] 33 [(.slice none 0 0), zero0] w fun x23 w =>
      sCall Tryd.prog 15 [x23, wide1] w fun x27 w =>
      sExtract x27 0 w fun x28 w =>
      sExtract x27 1 w fun x29 w =>
      JoinS 1 5 (fun M1 =>
        sBin Tryd.prog .neq 34 false true x29 (.int .i64 0) w fun x31 w =>
        sIf x31 (
          M1 [(.bool true)] w) (
          sBin Tryd.prog .eql 22 false true x28 (.pointer none) w fun x34 w =>
          M1 [x34] w)) fun us _ w =>
        bodkinlaw02_WidthKeeps_J1 K r2 x23 x28 x29 (hd us) w))

def bodkinlaw02_WidthKeeps.sc : SC := (.seq (.reg (.op 0 .done)) (.seq (.seq (.reg (.op 0 (.op 1 (.op 2 (.op 3 (.test 3 (.skip 4 (.skip 5 (.skip 6 (.op 7 .done)))) (.op 4 (.op 5 (.op 6 (.op 7 .done)))))))))) (.cond (.seq (.reg (.op 0 (.op 1 .done))) .nop) .nop)) (.seq (.reg (.op 0 .done)) (.seq (.reg (.op 0 (.op 1 (.op 2 (.op 3 .done))))) (.seq (.reg (.op 0 (.op 1 (.op 2 (.op 3 (.op 4 (.op 5 (.op 6 (.op 7 .done))))))))) (.seq (.join [35] [30, 31, 32, 33, 34] (.reg (.op 0 (.op 1 (.op 2 (.test 2 (.skip 3 (.skip 4 (.op 5 .done))) (.op 3 (.op 4 (.op 5 .done)))))))) (.cond (.seq (.reg (.op 0 (.op 1 (.op 2 (.test 2 (.op 3 (.op 4 (.op 5 (.op 6 (.test 6 (.op 7 (.op 8 (.op 9 .done))) (.skip 7 (.op 8 (.op 9 .done)))))))) (.skip 3 (.skip 4 (.op 5 (.op 6 (.know 6 false (.skip 7 (.op 8 (.op 9 .done))))))))))))) .nop) .nop)) (.seq (.reg (.op 0 (.op 1 (.op 2 (.op 3 .done))))) (.seq (.seq (.reg (.op 0 (.op 1 (.op 2 .done)))) (.sub (.loop [50] [51, 52, 11, 53, 54, 55, 56, 57, 58, 59] (.seq (.reg (.op 0 .done)) (.seq (.cond .nop .nop) (.seq (.sub (.seq (.reg (.op 0 (.op 1 .done))) (.reg (.op 0 (.op 1 (.op 2 (.op 3 (.op 4 (.op 5 (.op 6 .done)))))))))) (.reg (.op 0 (.op 1 .done))))))))) (.seq (.reg (.op 0 (.op 1 (.op 2 (.op 3 (.op 4 (.op 5 (.test 5 (.op 6 (.op 7 (.op 8 .done))) (.skip 6 (.op 7 (.op 8 .done))))))))))) .nop)))))))))

theorem bodkinlaw02_WidthKeeps.ok : okC Tryd.f7.ntmps bodkinlaw02_WidthKeeps.sc (bodyOf Tryd.f7) = true := by kernel_rfl

theorem bodkinlaw02_WidthKeeps.eq {K : K1} {zero0 wide1 r2 : Value} {w : World} : bodkinlaw02_WidthKeeps K zero0 wide1 r2 w = codeS Tryd.prog bodkinlaw02_WidthKeeps.sc (bodyOf Tryd.f7) (argsF 0 [zero0, wide1, r2]) w (retQ Tryd.prog Tryd.f7.results.toList K) := by kernel_rfl

theorem bodkinlaw02_WidthKeeps.call {K : K1} {zero0 wide1 r2 : Value} {w : World} (h : bodkinlaw02_WidthKeeps K zero0 wide1 r2 w) : sCall Tryd.prog 7 [zero0, wide1, r2] w K := sCall_code mixed Tryd.func7 (by kernel_rfl) rfl rfl bodkinlaw02_WidthKeeps.ok bodkinlaw02_WidthKeeps.eq h

abbrev bodkinlaw02_WidthKeeps.n : Nat := 7

end S
end Go.Proofs.YtchblkoipojcbaaDoor

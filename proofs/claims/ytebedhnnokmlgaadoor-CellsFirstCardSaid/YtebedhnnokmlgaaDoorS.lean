/- The functions of this seat, their code without slots, and that a call of each is what its code says: by program (lift.py). No conditions. -/
import Derived.Test.YtebedhnnokmlgaaDoorRsn
import Derived.Test.YtebedhnnokmlgaaDoorRows
import Derived.KernelRfl
namespace Go.Proofs.YtebedhnnokmlgaaDoor
open Go Go.Lift
namespace S
set_option maxRecDepth 10000
set_option linter.unusedVariables false
theorem mixed : Tryd.prog.follows .mixedOrders = true := by kernel_rfl
abbrev T.int64 : Nat := 2
theorem tcell_int64 : cellQ Tryd.prog 2 = true := by kernel_rfl
theorem tsz_int64 : szQ Tryd.prog 2 = 1 := by kernel_rfl
theorem tby_int64 : byQ Tryd.prog 2 = 8 := by kernel_rfl
theorem tze_int64 : zeroQ Tryd.prog 2 = some [(.int .i64 0)] := by kernel_rfl
abbrev T.int : Nat := 3
theorem tcell_int : cellQ Tryd.prog 3 = true := by kernel_rfl
theorem tsz_int : szQ Tryd.prog 3 = 1 := by kernel_rfl
theorem tby_int : byQ Tryd.prog 3 = 8 := by kernel_rfl
theorem tze_int : zeroQ Tryd.prog 3 = some [(.int .i64 0)] := by kernel_rfl
abbrev T.bool : Nat := 4
theorem tcell_bool : cellQ Tryd.prog 4 = true := by kernel_rfl
theorem tsz_bool : szQ Tryd.prog 4 = 1 := by kernel_rfl
theorem tby_bool : byQ Tryd.prog 4 = 1 := by kernel_rfl
theorem tze_bool : zeroQ Tryd.prog 4 = some [(.bool false)] := by kernel_rfl
abbrev T.uint8 : Nat := 5
theorem tcell_uint8 : cellQ Tryd.prog 5 = true := by kernel_rfl
theorem tsz_uint8 : szQ Tryd.prog 5 = 1 := by kernel_rfl
theorem tby_uint8 : byQ Tryd.prog 5 = 1 := by kernel_rfl
theorem tze_uint8 : zeroQ Tryd.prog 5 = some [(.int .u8 0)] := by kernel_rfl
abbrev T.abi_BoundsErrorCode : Nat := 6
theorem tcell_abi_BoundsErrorCode : cellQ Tryd.prog 6 = true := by kernel_rfl
theorem tsz_abi_BoundsErrorCode : szQ Tryd.prog 6 = 1 := by kernel_rfl
theorem tby_abi_BoundsErrorCode : byQ Tryd.prog 6 = 1 := by kernel_rfl
theorem tze_abi_BoundsErrorCode : zeroQ Tryd.prog 6 = some [(.int .u8 0)] := by kernel_rfl
abbrev T.runtime_boundsError : Nat := 8
theorem tagg_runtime_boundsError : aggN Tryd.prog 8 = some 4 := by kernel_rfl
theorem tsz_runtime_boundsError : szQ Tryd.prog 8 = 4 := by kernel_rfl
theorem tby_runtime_boundsError : byQ Tryd.prog 8 = 24 := by kernel_rfl
theorem tze_runtime_boundsError : zeroQ Tryd.prog 8 = some [(.int .i64 0), (.int .i64 0), (.bool false), (.int .u8 0)] := by kernel_rfl
theorem tfl_runtime_boundsError_x : flQ Tryd.prog 8 0 = some 0 := by kernel_rfl
theorem tfl_runtime_boundsError_y : flQ Tryd.prog 8 1 = some 1 := by kernel_rfl
theorem tfl_runtime_boundsError_signed : flQ Tryd.prog 8 2 = some 2 := by kernel_rfl
theorem tfl_runtime_boundsError_code : flQ Tryd.prog 8 3 = some 3 := by kernel_rfl
theorem tpl_runtime_boundsError : plQ Tryd.prog 8 = some [(0, 1), (1, 1), (2, 1), (3, 1)] := by kernel_rfl
abbrev T.int32 : Nat := 21
theorem tcell_int32 : cellQ Tryd.prog 21 = true := by kernel_rfl
theorem tsz_int32 : szQ Tryd.prog 21 = 1 := by kernel_rfl
theorem tby_int32 : byQ Tryd.prog 21 = 4 := by kernel_rfl
theorem tze_int32 : zeroQ Tryd.prog 21 = some [(.int .i32 0)] := by kernel_rfl
abbrev T.L_int32 : Nat := 22
theorem tcell_L_int32 : cellQ Tryd.prog 22 = true := by kernel_rfl
theorem tsz_L_int32 : szQ Tryd.prog 22 = 1 := by kernel_rfl
theorem tby_L_int32 : byQ Tryd.prog 22 = 24 := by kernel_rfl
theorem tze_L_int32 : zeroQ Tryd.prog 22 = some [(.slice none 0 0)] := by kernel_rfl
theorem tel_L_int32 : elQ Tryd.prog 22 = some 21 := by kernel_rfl
abbrev T.L_int : Nat := 24
theorem tcell_L_int : cellQ Tryd.prog 24 = true := by kernel_rfl
theorem tsz_L_int : szQ Tryd.prog 24 = 1 := by kernel_rfl
theorem tby_L_int : byQ Tryd.prog 24 = 24 := by kernel_rfl
theorem tze_L_int : zeroQ Tryd.prog 24 = some [(.slice none 0 0)] := by kernel_rfl
theorem tel_L_int : elQ Tryd.prog 24 = some 3 := by kernel_rfl
abbrev T.api_Errno : Nat := 25
theorem tcell_api_Errno : cellQ Tryd.prog 25 = true := by kernel_rfl
theorem tsz_api_Errno : szQ Tryd.prog 25 = 1 := by kernel_rfl
theorem tby_api_Errno : byQ Tryd.prog 25 = 8 := by kernel_rfl
theorem tze_api_Errno : zeroQ Tryd.prog 25 = some [(.int .i64 0)] := by kernel_rfl
abbrev T.P_width_Table : Nat := 28
theorem tcell_P_width_Table : cellQ Tryd.prog 28 = true := by kernel_rfl
theorem tsz_P_width_Table : szQ Tryd.prog 28 = 1 := by kernel_rfl
theorem tby_P_width_Table : byQ Tryd.prog 28 = 8 := by kernel_rfl
theorem tze_P_width_Table : zeroQ Tryd.prog 28 = some [(.pointer none)] := by kernel_rfl
theorem tpt_P_width_Table : ptQ Tryd.prog 28 = true := by kernel_rfl
abbrev T.P_bodkinref02_Table : Nat := 33
theorem tcell_P_bodkinref02_Table : cellQ Tryd.prog 33 = true := by kernel_rfl
theorem tsz_P_bodkinref02_Table : szQ Tryd.prog 33 = 1 := by kernel_rfl
theorem tby_P_bodkinref02_Table : byQ Tryd.prog 33 = 8 := by kernel_rfl
theorem tze_P_bodkinref02_Table : zeroQ Tryd.prog 33 = some [(.pointer none)] := by kernel_rfl
theorem tpt_P_bodkinref02_Table : ptQ Tryd.prog 33 = true := by kernel_rfl
abbrev T.stops_Ask : Nat := 38
theorem tagg_stops_Ask : aggN Tryd.prog 38 = some 2 := by kernel_rfl
theorem tsz_stops_Ask : szQ Tryd.prog 38 = 2 := by kernel_rfl
theorem tby_stops_Ask : byQ Tryd.prog 38 = 16 := by kernel_rfl
theorem tze_stops_Ask : zeroQ Tryd.prog 38 = some [(.int .i64 0), (.int .i64 0)] := by kernel_rfl
theorem tfl_stops_Ask_Tab : flQ Tryd.prog 38 0 = some 0 := by kernel_rfl
theorem tfl_stops_Ask_At : flQ Tryd.prog 38 1 = some 1 := by kernel_rfl
theorem tpl_stops_Ask : plQ Tryd.prog 38 = some [(0, 1), (1, 1)] := by kernel_rfl
abbrev T.L_cells_Part : Nat := 44
theorem tcell_L_cells_Part : cellQ Tryd.prog 44 = true := by kernel_rfl
theorem tsz_L_cells_Part : szQ Tryd.prog 44 = 1 := by kernel_rfl
theorem tby_L_cells_Part : byQ Tryd.prog 44 = 24 := by kernel_rfl
theorem tze_L_cells_Part : zeroQ Tryd.prog 44 = some [(.slice none 0 0)] := by kernel_rfl
theorem tel_L_cells_Part : elQ Tryd.prog 44 = some 56 := by kernel_rfl
abbrev T.L_api_Cell : Nat := 46
theorem tcell_L_api_Cell : cellQ Tryd.prog 46 = true := by kernel_rfl
theorem tsz_L_api_Cell : szQ Tryd.prog 46 = 1 := by kernel_rfl
theorem tby_L_api_Cell : byQ Tryd.prog 46 = 24 := by kernel_rfl
theorem tze_L_api_Cell : zeroQ Tryd.prog 46 = some [(.slice none 0 0)] := by kernel_rfl
theorem tel_L_api_Cell : elQ Tryd.prog 46 = some 58 := by kernel_rfl
abbrev T.L_bodkinref18_Part : Nat := 50
theorem tcell_L_bodkinref18_Part : cellQ Tryd.prog 50 = true := by kernel_rfl
theorem tsz_L_bodkinref18_Part : szQ Tryd.prog 50 = 1 := by kernel_rfl
theorem tby_L_bodkinref18_Part : byQ Tryd.prog 50 = 24 := by kernel_rfl
theorem tze_L_bodkinref18_Part : zeroQ Tryd.prog 50 = some [(.slice none 0 0)] := by kernel_rfl
theorem tel_L_bodkinref18_Part : elQ Tryd.prog 50 = some 81 := by kernel_rfl
abbrev T.cells_Part : Nat := 56
theorem tagg_cells_Part : aggN Tryd.prog 56 = some 3 := by kernel_rfl
theorem tsz_cells_Part : szQ Tryd.prog 56 = 3 := by kernel_rfl
theorem tby_cells_Part : byQ Tryd.prog 56 = 40 := by kernel_rfl
theorem tze_cells_Part : zeroQ Tryd.prog 56 = some [(.int .i64 0), (.int .i64 0), (.slice none 0 0)] := by kernel_rfl
theorem tfl_cells_Part_Kind : flQ Tryd.prog 56 0 = some 0 := by kernel_rfl
theorem tfl_cells_Part_At : flQ Tryd.prog 56 1 = some 1 := by kernel_rfl
theorem tfl_cells_Part_Runes : flQ Tryd.prog 56 2 = some 2 := by kernel_rfl
theorem tpl_cells_Part : plQ Tryd.prog 56 = some [(0, 1), (1, 1), (2, 1)] := by kernel_rfl
abbrev T.api_Cell : Nat := 58
theorem tagg_api_Cell : aggN Tryd.prog 58 = some 4 := by kernel_rfl
theorem tsz_api_Cell : szQ Tryd.prog 58 = 4 := by kernel_rfl
theorem tby_api_Cell : byQ Tryd.prog 58 = 32 := by kernel_rfl
theorem tze_api_Cell : zeroQ Tryd.prog 58 = some [(.int .i32 0), (.int .i64 0), (.int .i64 0), (.int .i64 0)] := by kernel_rfl
theorem tfl_api_Cell_Rune : flQ Tryd.prog 58 0 = some 0 := by kernel_rfl
theorem tfl_api_Cell_Kind : flQ Tryd.prog 58 1 = some 1 := by kernel_rfl
theorem tfl_api_Cell_Width : flQ Tryd.prog 58 2 = some 2 := by kernel_rfl
theorem tfl_api_Cell_At : flQ Tryd.prog 58 3 = some 3 := by kernel_rfl
theorem tpl_api_Cell : plQ Tryd.prog 58 = some [(0, 1), (1, 1), (2, 1), (3, 1)] := by kernel_rfl
abbrev T.L_bool : Nat := 60
theorem tcell_L_bool : cellQ Tryd.prog 60 = true := by kernel_rfl
theorem tsz_L_bool : szQ Tryd.prog 60 = 1 := by kernel_rfl
theorem tby_L_bool : byQ Tryd.prog 60 = 24 := by kernel_rfl
theorem tze_L_bool : zeroQ Tryd.prog 60 = some [(.slice none 0 0)] := by kernel_rfl
theorem tel_L_bool : elQ Tryd.prog 60 = some 4 := by kernel_rfl
abbrev T.L_width_Range : Nat := 67
theorem tcell_L_width_Range : cellQ Tryd.prog 67 = true := by kernel_rfl
theorem tsz_L_width_Range : szQ Tryd.prog 67 = 1 := by kernel_rfl
theorem tby_L_width_Range : byQ Tryd.prog 67 = 24 := by kernel_rfl
theorem tze_L_width_Range : zeroQ Tryd.prog 67 = some [(.slice none 0 0)] := by kernel_rfl
theorem tel_L_width_Range : elQ Tryd.prog 67 = some 71 := by kernel_rfl
abbrev T.width_Table : Nat := 69
theorem tagg_width_Table : aggN Tryd.prog 69 = some 2 := by kernel_rfl
theorem tsz_width_Table : szQ Tryd.prog 69 = 2 := by kernel_rfl
theorem tby_width_Table : byQ Tryd.prog 69 = 48 := by kernel_rfl
theorem tze_width_Table : zeroQ Tryd.prog 69 = some [(.slice none 0 0), (.slice none 0 0)] := by kernel_rfl
theorem tfl_width_Table_zero : flQ Tryd.prog 69 0 = some 0 := by kernel_rfl
theorem tfl_width_Table_wide : flQ Tryd.prog 69 1 = some 1 := by kernel_rfl
theorem tpl_width_Table : plQ Tryd.prog 69 = some [(0, 1), (1, 1)] := by kernel_rfl
abbrev T.width_Range : Nat := 71
theorem tagg_width_Range : aggN Tryd.prog 71 = some 2 := by kernel_rfl
theorem tsz_width_Range : szQ Tryd.prog 71 = 2 := by kernel_rfl
theorem tby_width_Range : byQ Tryd.prog 71 = 8 := by kernel_rfl
theorem tze_width_Range : zeroQ Tryd.prog 71 = some [(.int .i32 0), (.int .i32 0)] := by kernel_rfl
theorem tfl_width_Range_From : flQ Tryd.prog 71 0 = some 0 := by kernel_rfl
theorem tfl_width_Range_To : flQ Tryd.prog 71 1 = some 1 := by kernel_rfl
theorem tpl_width_Range : plQ Tryd.prog 71 = some [(0, 1), (1, 1)] := by kernel_rfl
abbrev T.A3_width_Range : Nat := 72
theorem tagg_A3_width_Range : aggN Tryd.prog 72 = some 6 := by kernel_rfl
theorem tsz_A3_width_Range : szQ Tryd.prog 72 = 6 := by kernel_rfl
theorem tby_A3_width_Range : byQ Tryd.prog 72 = 24 := by kernel_rfl
theorem tze_A3_width_Range : zeroQ Tryd.prog 72 = some [(.int .i32 0), (.int .i32 0), (.int .i32 0), (.int .i32 0), (.int .i32 0), (.int .i32 0)] := by kernel_rfl
theorem tpl_A3_width_Range : plQ Tryd.prog 72 = some [(0, 2), (2, 2), (4, 2)] := by kernel_rfl
theorem tar_A3_width_Range : arQ Tryd.prog 72 = some (3, 71) := by kernel_rfl
abbrev T.A8_width_Range : Nat := 73
theorem tagg_A8_width_Range : aggN Tryd.prog 73 = some 16 := by kernel_rfl
theorem tsz_A8_width_Range : szQ Tryd.prog 73 = 16 := by kernel_rfl
theorem tby_A8_width_Range : byQ Tryd.prog 73 = 64 := by kernel_rfl
theorem tze_A8_width_Range : zeroQ Tryd.prog 73 = some [(.int .i32 0), (.int .i32 0), (.int .i32 0), (.int .i32 0), (.int .i32 0), (.int .i32 0), (.int .i32 0), (.int .i32 0), (.int .i32 0), (.int .i32 0), (.int .i32 0), (.int .i32 0), (.int .i32 0), (.int .i32 0), (.int .i32 0), (.int .i32 0)] := by kernel_rfl
theorem tpl_A8_width_Range : plQ Tryd.prog 73 = some [(0, 2), (2, 2), (4, 2), (6, 2), (8, 2), (10, 2), (12, 2), (14, 2)] := by kernel_rfl
theorem tar_A8_width_Range : arQ Tryd.prog 73 = some (8, 71) := by kernel_rfl
abbrev T.bodkinref02_Range : Nat := 75
theorem tagg_bodkinref02_Range : aggN Tryd.prog 75 = some 2 := by kernel_rfl
theorem tsz_bodkinref02_Range : szQ Tryd.prog 75 = 2 := by kernel_rfl
theorem tby_bodkinref02_Range : byQ Tryd.prog 75 = 8 := by kernel_rfl
theorem tze_bodkinref02_Range : zeroQ Tryd.prog 75 = some [(.int .i32 0), (.int .i32 0)] := by kernel_rfl
theorem tfl_bodkinref02_Range_From : flQ Tryd.prog 75 0 = some 0 := by kernel_rfl
theorem tfl_bodkinref02_Range_To : flQ Tryd.prog 75 1 = some 1 := by kernel_rfl
theorem tpl_bodkinref02_Range : plQ Tryd.prog 75 = some [(0, 1), (1, 1)] := by kernel_rfl
abbrev T.L_bodkinref02_Range : Nat := 76
theorem tcell_L_bodkinref02_Range : cellQ Tryd.prog 76 = true := by kernel_rfl
theorem tsz_L_bodkinref02_Range : szQ Tryd.prog 76 = 1 := by kernel_rfl
theorem tby_L_bodkinref02_Range : byQ Tryd.prog 76 = 24 := by kernel_rfl
theorem tze_L_bodkinref02_Range : zeroQ Tryd.prog 76 = some [(.slice none 0 0)] := by kernel_rfl
theorem tel_L_bodkinref02_Range : elQ Tryd.prog 76 = some 75 := by kernel_rfl
abbrev T.bodkinref02_Table : Nat := 78
theorem tagg_bodkinref02_Table : aggN Tryd.prog 78 = some 2 := by kernel_rfl
theorem tsz_bodkinref02_Table : szQ Tryd.prog 78 = 2 := by kernel_rfl
theorem tby_bodkinref02_Table : byQ Tryd.prog 78 = 48 := by kernel_rfl
theorem tze_bodkinref02_Table : zeroQ Tryd.prog 78 = some [(.slice none 0 0), (.slice none 0 0)] := by kernel_rfl
theorem tfl_bodkinref02_Table_Zero : flQ Tryd.prog 78 0 = some 0 := by kernel_rfl
theorem tfl_bodkinref02_Table_Wide : flQ Tryd.prog 78 1 = some 1 := by kernel_rfl
theorem tpl_bodkinref02_Table : plQ Tryd.prog 78 = some [(0, 1), (1, 1)] := by kernel_rfl
abbrev T.bodkinref18_Part : Nat := 81
theorem tagg_bodkinref18_Part : aggN Tryd.prog 81 = some 3 := by kernel_rfl
theorem tsz_bodkinref18_Part : szQ Tryd.prog 81 = 3 := by kernel_rfl
theorem tby_bodkinref18_Part : byQ Tryd.prog 81 = 40 := by kernel_rfl
theorem tze_bodkinref18_Part : zeroQ Tryd.prog 81 = some [(.int .i64 0), (.int .i64 0), (.slice none 0 0)] := by kernel_rfl
theorem tfl_bodkinref18_Part_Kind : flQ Tryd.prog 81 0 = some 0 := by kernel_rfl
theorem tfl_bodkinref18_Part_At : flQ Tryd.prog 81 1 = some 1 := by kernel_rfl
theorem tfl_bodkinref18_Part_Runes : flQ Tryd.prog 81 2 = some 2 := by kernel_rfl
theorem tpl_bodkinref18_Part : plQ Tryd.prog 81 = some [(0, 1), (1, 1), (2, 1)] := by kernel_rfl
/-- 'bodkin bodkinlaw17.StopsSizes' -/
def bodkinlaw17_StopsSizes (K : K1) (line0 size1 : Value) (w : World) : Prop :=
  sBuiltin Tryd.prog .len [22] 3 [line0] w fun x8 w =>
  sBin Tryd.prog .gtr 3 false true x8 (.int .i64 500) w fun x9 w =>
  sIf x9 (
    sCall Tryd.prog 13 [] w fun x10 w =>
    K x10 w) (
    sCall Tryd.prog 15 [] w fun x12 w =>
    sCall Tryd.prog 14 [x12, line0, size1] w fun x15 w =>
    sExtract x15 0 w fun x16 w =>
    sExtract x15 1 w fun x17 w =>
    sCall Tryd.prog 16 [size1] w fun x19 w =>
    sUn Tryd.prog .not x19 w fun x20 w =>
    sIf x20 (
      sBin Tryd.prog .eql 25 false true x17 (.int .i64 1) w fun x22 w =>
      sIf x22 (
        sBuiltin Tryd.prog .len [24] 3 [x16] w fun x25 w =>
        sBin Tryd.prog .eql 3 false true x25 (.int .i64 0) w fun x26 w =>
        sIf x26 (
          sCall Tryd.prog 13 [] w fun x29 w =>
          K x29 w) (
          K (.bool false) w)) (
        K (.bool false) w)) (
      sBin Tryd.prog .eql 25 false true x17 (.int .i64 0) w fun x32 w =>
      sIf x32 (
        sCall Tryd.prog 19 [] w fun x35 w =>
        sCall Tryd.prog 18 [x35, line0, size1] w fun x38 w =>
        sCall Tryd.prog 17 [x16, x38] w fun x39 w =>
        sIf x39 (
          sCall Tryd.prog 13 [] w fun x42 w =>
          K x42 w) (
          K (.bool false) w)) (
        K (.bool false) w)))

def bodkinlaw17_StopsSizes.sc : SC := (.seq (.reg (.op 0 .done)) (.seq (.seq (.reg (.op 0 (.op 1 (.op 2 .done)))) (.cond (.seq (.reg (.op 0 (.op 1 .done))) .nop) .nop)) (.seq (.reg (.op 0 (.op 1 (.op 2 (.op 3 (.op 4 (.op 5 (.op 6 (.op 7 (.op 8 .done)))))))))) (.seq (.seq (.reg (.op 0 (.op 1 (.op 2 .done)))) (.cond (.seq (.reg (.op 0 (.op 1 (.op 2 (.test 2 (.op 3 (.op 4 (.op 5 (.op 6 (.op 7 (.test 7 (.op 8 (.op 9 (.op 10 .done))) (.skip 8 (.op 9 (.op 10 .done))))))))) (.skip 3 (.skip 4 (.skip 5 (.op 6 (.op 7 (.know 7 false (.skip 8 (.op 9 (.op 10 .done)))))))))))))) .nop) .nop)) (.seq (.reg (.op 0 (.op 1 (.op 2 (.test 2 (.op 3 (.op 4 (.op 5 (.op 6 (.op 7 (.op 8 (.op 9 (.op 10 (.test 10 (.op 11 (.op 12 (.op 13 .done))) (.skip 11 (.op 12 (.op 13 .done)))))))))))) (.skip 3 (.skip 4 (.skip 5 (.skip 6 (.skip 7 (.skip 8 (.op 9 (.op 10 (.know 10 false (.skip 11 (.op 12 (.op 13 .done))))))))))))))))) .nop)))))

theorem bodkinlaw17_StopsSizes.ok : okC Tryd.f3.ntmps bodkinlaw17_StopsSizes.sc (bodyOf Tryd.f3) = true := by kernel_rfl

theorem bodkinlaw17_StopsSizes.eq {K : K1} {line0 size1 : Value} {w : World} : bodkinlaw17_StopsSizes K line0 size1 w = codeS Tryd.prog bodkinlaw17_StopsSizes.sc (bodyOf Tryd.f3) (argsF 0 [line0, size1]) w (retQ Tryd.prog Tryd.f3.results.toList K) := by kernel_rfl

theorem bodkinlaw17_StopsSizes.call {K : K1} {line0 size1 : Value} {w : World} (h : bodkinlaw17_StopsSizes K line0 size1 w) : sCall Tryd.prog 3 [line0, size1] w K := sCall_code mixed Tryd.func3 (by kernel_rfl) rfl rfl bodkinlaw17_StopsSizes.ok bodkinlaw17_StopsSizes.eq h

abbrev bodkinlaw17_StopsSizes.n : Nat := 3

/-- 'bodkin bodkinlaw17.StopsEnd' -/
def bodkinlaw17_StopsEnd_J2 (Nx1 : List Value → World → Prop) (at7 x24 x37 : Value) (w : World) : Prop :=
  sIdxA Tryd.prog 24 x24 x37 w fun x86 w =>
  sLoad Tryd.prog 3 x86 w fun x87 w =>
  sBin Tryd.prog .add 3 false false at7 x87 w fun x88 w =>
  sBin Tryd.prog .add 3 false true x37 (.int .i64 1) w fun x89 w =>
  Nx1 [x88, x89] w

def bodkinlaw17_StopsEnd_L1 (K : K1) (Nx1 : List Value → World → Prop) (line0 size1 x24 x36 : Value) (at7 x37 : Value) (w : World) : Prop :=
  sBin Tryd.prog .lss 3 false false x37 x36 w fun x38 w =>
  sIf x38 (
    sIdxA Tryd.prog 22 line0 x37 w fun x40 w =>
    sLoad Tryd.prog 21 x40 w fun x41 w =>
    JoinS 0 42 (fun M2 =>
      sBin Tryd.prog .eql 21 false true x41 (.int .i32 9) w fun x43 w =>
      sIf x43 (
        sIdxA Tryd.prog 24 x24 x37 w fun x46 w =>
        sLoad Tryd.prog 3 x46 w fun x47 w =>
        sBin Tryd.prog .lss 3 false true x47 (.int .i64 1) w fun x48 w =>
        sIf x48 (
          K (.bool false) w) (
          sIdxA Tryd.prog 24 x24 x37 w fun x52 w =>
          sLoad Tryd.prog 3 x52 w fun x53 w =>
          sBin Tryd.prog .gtr 3 false false x53 size1 w fun x55 w =>
          sIf x55 (
            K (.bool false) w) (
            sBin Tryd.prog .lss 3 false true at7 (.int .i64 64) w fun x59 w =>
            sIf x59 (
              sIdxA Tryd.prog 24 x24 x37 w fun x64 w =>
              sLoad Tryd.prog 3 x64 w fun x65 w =>
              sBin Tryd.prog .add 3 false false at7 x65 w fun x66 w =>
              sBin Tryd.prog .rem 3 false false x66 size1 w fun x68 w =>
              sBin Tryd.prog .neq 3 false true x68 (.int .i64 0) w fun x69 w =>
              sIf x69 (
                K (.bool false) w) (
                sBin Tryd.prog .geq 3 false true at7 (.int .i64 64) w fun x74 w =>
                sIf x74 (
                  sIdxA Tryd.prog 24 x24 x37 w fun x78 w =>
                  sLoad Tryd.prog 3 x78 w fun x79 w =>
                  sBin Tryd.prog .neq 3 false true x79 (.int .i64 1) w fun x80 w =>
                  sIf x80 (
                    K (.bool false) w) (
                    M2 [] w)) (
                  M2 [] w))) (
              sBin Tryd.prog .geq 3 false true at7 (.int .i64 64) w fun x74_1 w =>
              sIf x74_1 (
                sIdxA Tryd.prog 24 x24 x37 w fun x78_1 w =>
                sLoad Tryd.prog 3 x78_1 w fun x79_1 w =>
                sBin Tryd.prog .neq 3 false true x79_1 (.int .i64 1) w fun x80_1 w =>
                sIf x80_1 (
                  K (.bool false) w) (
                  M2 [] w)) (
                M2 [] w))))) (
        M2 [] w)) fun us _ w =>
      bodkinlaw17_StopsEnd_J2 Nx1 at7 x24 x37 w) (
    sCall Tryd.prog 13 [] w fun x90 w =>
    K x90 w)

def bodkinlaw17_StopsEnd (K : K1) (line0 size1 : Value) (w : World) : Prop :=
  sBuiltin Tryd.prog .len [22] 3 [line0] w fun x11 w =>
  sBin Tryd.prog .gtr 3 false true x11 (.int .i64 500) w fun x12 w =>
  sIf x12 (
    sCall Tryd.prog 13 [] w fun x18 w =>
    K x18 w) (
    sCall Tryd.prog 16 [size1] w fun x15 w =>
    sUn Tryd.prog .not x15 w fun x16 w =>
    sIf x16 (
      sCall Tryd.prog 13 [] w fun x18_1 w =>
      K x18_1 w) (
      sCall Tryd.prog 15 [] w fun x20 w =>
      sCall Tryd.prog 14 [x20, line0, size1] w fun x23 w =>
      sExtract x23 0 w fun x24 w =>
      sExtract x23 1 w fun x25 w =>
      sBin Tryd.prog .neq 25 false true x25 (.int .i64 0) w fun x27 w =>
      sIf x27 (
        K (.bool false) w) (
        sBuiltin Tryd.prog .len [24] 3 [x24] w fun x30 w =>
        sBuiltin Tryd.prog .len [22] 3 [line0] w fun x32 w =>
        sBin Tryd.prog .neq 3 false false x30 x32 w fun x33 w =>
        sIf x33 (
          K (.bool false) w) (
          sBuiltin Tryd.prog .len [22] 3 [line0] w fun x36 w =>
          LoopS [(.int .i64 0), (.int .i64 0)] 2 55 w fun us _ w Nx1 =>
            bodkinlaw17_StopsEnd_L1 K Nx1 line0 size1 x24 x36 (hd us) (hd (tl us)) w))))

def bodkinlaw17_StopsEnd.sc : SC := (.seq (.reg (.op 0 .done)) (.seq (.seq (.reg (.op 0 (.op 1 (.op 2 (.op 3 (.test 3 (.skip 4 (.skip 5 (.skip 6 (.op 7 .done)))) (.op 4 (.op 5 (.op 6 (.op 7 .done)))))))))) (.cond (.seq (.reg (.op 0 (.op 1 .done))) .nop) .nop)) (.seq (.reg (.op 0 (.op 1 (.op 2 (.op 3 (.op 4 (.op 5 (.op 6 (.op 7 (.op 8 .done)))))))))) (.seq (.seq (.reg (.op 0 (.op 1 (.op 2 (.test 2 (.skip 3 (.skip 4 (.skip 5 (.skip 6 (.skip 7 (.op 8 .done)))))) (.op 3 (.op 4 (.op 5 (.op 6 (.op 7 (.op 8 .done))))))))))) (.cond (.seq (.reg (.op 0 .done)) .nop) .nop)) (.seq (.reg (.op 0 .done)) (.seq (.seq (.reg (.op 0 (.op 1 (.op 2 .done)))) (.sub (.loop [7, 37] [38, 39, 40, 41, 8, 9, 42, 43, 44, 45, 46, 47, 48, 49, 50, 51, 52, 53, 54, 55, 56, 57, 58, 59, 60, 61, 62, 63, 64, 65, 66, 67, 68, 69, 70, 71, 72, 73, 74, 75, 76, 77, 78, 79, 80, 81, 82, 4, 83, 84, 85, 86, 87, 88, 89] (.seq (.reg (.op 0 .done)) (.seq (.cond .nop .nop) (.seq (.sub (.seq (.reg (.op 0 (.op 1 (.op 2 (.op 3 (.op 4 .done)))))) (.join [] [42, 43, 44, 45, 46, 47, 48, 49, 50, 51, 52, 53, 54, 55, 56, 57, 58, 59, 60, 61, 62, 63, 64, 65, 66, 67, 68, 69, 70, 71, 72, 73, 74, 75, 76, 77, 78, 79, 80, 81, 82, 4] (.seq (.reg (.op 0 (.op 1 .done))) (.cond (.seq (.reg (.op 0 (.op 1 (.op 2 (.op 3 (.op 4 (.op 5 (.test 5 (.skip 6 (.skip 7 (.skip 8 (.skip 9 (.skip 10 (.skip 11 (.op 12 (.op 13 (.know 13 true (.skip 14 (.skip 15 (.skip 16 (.skip 17 (.skip 18 (.skip 19 (.skip 20 (.skip 21 (.skip 22 (.skip 23 (.skip 24 (.skip 25 (.skip 26 (.op 27 (.op 28 (.know 28 true (.skip 29 (.skip 30 (.skip 31 (.skip 32 (.skip 33 (.skip 34 (.skip 35 (.skip 36 (.skip 37 (.op 38 .done))))))))))))))))))))))))))))))))))) (.op 6 (.op 7 (.op 8 (.op 9 (.op 10 (.op 11 (.op 12 (.op 13 (.test 13 (.skip 14 (.skip 15 (.skip 16 (.skip 17 (.skip 18 (.skip 19 (.skip 20 (.skip 21 (.skip 22 (.skip 23 (.skip 24 (.skip 25 (.skip 26 (.op 27 (.op 28 (.know 28 true (.skip 29 (.skip 30 (.skip 31 (.skip 32 (.skip 33 (.skip 34 (.skip 35 (.skip 36 (.skip 37 (.op 38 .done)))))))))))))))))))))))))) (.op 14 (.op 15 (.op 16 (.test 16 (.op 17 (.op 18 (.op 19 (.op 20 (.op 21 (.op 22 (.op 23 (.op 24 (.op 25 (.op 26 (.op 27 (.op 28 (.test 28 (.skip 29 (.skip 30 (.skip 31 (.skip 32 (.skip 33 (.skip 34 (.skip 35 (.skip 36 (.skip 37 (.op 38 .done)))))))))) (.op 29 (.op 30 (.op 31 (.test 31 (.op 32 (.op 33 (.op 34 (.op 35 (.op 36 (.op 37 (.op 38 .done))))))) (.skip 32 (.skip 33 (.skip 34 (.skip 35 (.skip 36 (.op 37 (.op 38 .done)))))))))))))))))))))))) (.skip 17 (.skip 18 (.skip 19 (.skip 20 (.skip 21 (.skip 22 (.skip 23 (.skip 24 (.skip 25 (.op 26 (.op 27 (.op 28 (.know 28 false (.op 29 (.op 30 (.op 31 (.test 31 (.op 32 (.op 33 (.op 34 (.op 35 (.op 36 (.op 37 (.op 38 .done))))))) (.skip 32 (.skip 33 (.skip 34 (.skip 35 (.skip 36 (.op 37 (.op 38 .done))))))))))))))))))))))))))))))))))))))))))))) (.cond (.seq (.reg (.op 0 .done)) .nop) .nop)) .nop)) (.reg (.op 0 (.op 1 (.op 2 (.op 3 (.op 4 (.op 5 (.op 6 .done))))))))))) (.reg (.op 0 (.op 1 .done))))))))) (.seq (.reg (.op 0 (.op 1 .done))) .nop)))))))

theorem bodkinlaw17_StopsEnd.ok : okC Tryd.f4.ntmps bodkinlaw17_StopsEnd.sc (bodyOf Tryd.f4) = true := by kernel_rfl

theorem bodkinlaw17_StopsEnd.eq {K : K1} {line0 size1 : Value} {w : World} : bodkinlaw17_StopsEnd K line0 size1 w = codeS Tryd.prog bodkinlaw17_StopsEnd.sc (bodyOf Tryd.f4) (argsF 0 [line0, size1]) w (retQ Tryd.prog Tryd.f4.results.toList K) := by kernel_rfl

theorem bodkinlaw17_StopsEnd.call {K : K1} {line0 size1 : Value} {w : World} (h : bodkinlaw17_StopsEnd K line0 size1 w) : sCall Tryd.prog 4 [line0, size1] w K := sCall_code mixed Tryd.func4 (by kernel_rfl) rfl rfl bodkinlaw17_StopsEnd.ok bodkinlaw17_StopsEnd.eq h

abbrev bodkinlaw17_StopsEnd.n : Nat := 4

/-- 'bodkin bodkinlaw17.StopsNil' -/
def bodkinlaw17_StopsNil_L1 (K : K1) (Nx1 : List Value → World → Prop) (x16 x28 : Value) (x29 : Value) (w : World) : Prop :=
  sBin Tryd.prog .lss 3 false false x29 x28 w fun x30 w =>
  sIf x30 (
    sIdxA Tryd.prog 24 x16 x29 w fun x31 w =>
    sLoad Tryd.prog 3 x31 w fun x32 w =>
    sBin Tryd.prog .neq 3 false true x32 (.int .i64 1) w fun x34 w =>
    sIf x34 (
      K (.bool false) w) (
      sBin Tryd.prog .add 3 false true x29 (.int .i64 1) w fun x35 w =>
      Nx1 [x35] w)) (
    sCall Tryd.prog 13 [] w fun x36 w =>
    K x36 w)

def bodkinlaw17_StopsNil (K : K1) (line0 : Value) (w : World) : Prop :=
  sBuiltin Tryd.prog .len [22] 3 [line0] w fun x9 w =>
  sBin Tryd.prog .gtr 3 false true x9 (.int .i64 500) w fun x10 w =>
  sIf x10 (
    sCall Tryd.prog 13 [] w fun x11 w =>
    K x11 w) (
    sCall Tryd.prog 14 [(.pointer none), line0, (.int .i64 1)] w fun x15 w =>
    sExtract x15 0 w fun x16 w =>
    sExtract x15 1 w fun x17 w =>
    sBin Tryd.prog .neq 25 false true x17 (.int .i64 0) w fun x19 w =>
    sIf x19 (
      K (.bool false) w) (
      sBuiltin Tryd.prog .len [24] 3 [x16] w fun x22 w =>
      sBuiltin Tryd.prog .len [22] 3 [line0] w fun x24 w =>
      sBin Tryd.prog .neq 3 false false x22 x24 w fun x25 w =>
      sIf x25 (
        K (.bool false) w) (
        sBuiltin Tryd.prog .len [24] 3 [x16] w fun x28 w =>
        LoopS [(.int .i64 0)] 1 8 w fun us _ w Nx1 =>
          bodkinlaw17_StopsNil_L1 K Nx1 x16 x28 (hd us) w)))

def bodkinlaw17_StopsNil.sc : SC := (.seq (.reg (.op 0 .done)) (.seq (.reg (.op 0 .done)) (.seq (.seq (.reg (.op 0 (.op 1 (.op 2 .done)))) (.cond (.seq (.reg (.op 0 (.op 1 .done))) .nop) .nop)) (.seq (.reg (.op 0 (.op 1 (.op 2 (.op 3 (.op 4 (.op 5 (.op 6 (.op 7 .done))))))))) (.seq (.seq (.reg (.op 0 (.op 1 (.op 2 (.test 2 (.skip 3 (.skip 4 (.skip 5 (.skip 6 (.skip 7 (.op 8 .done)))))) (.op 3 (.op 4 (.op 5 (.op 6 (.op 7 (.op 8 .done))))))))))) (.cond (.seq (.reg (.op 0 .done)) .nop) .nop)) (.seq (.seq (.reg (.op 0 (.op 1 (.op 2 .done)))) (.sub (.loop [29] [30, 31, 32, 7, 33, 34, 2, 35] (.seq (.reg (.op 0 .done)) (.seq (.cond .nop .nop) (.seq (.sub (.seq (.reg (.op 0 (.op 1 (.op 2 .done)))) (.seq (.reg (.op 0 (.op 1 .done))) (.cond (.seq (.reg (.op 0 .done)) .nop) .nop)))) (.reg (.op 0 (.op 1 .done))))))))) (.seq (.reg (.op 0 (.op 1 .done))) .nop)))))))

theorem bodkinlaw17_StopsNil.ok : okC Tryd.f5.ntmps bodkinlaw17_StopsNil.sc (bodyOf Tryd.f5) = true := by kernel_rfl

theorem bodkinlaw17_StopsNil.eq {K : K1} {line0 : Value} {w : World} : bodkinlaw17_StopsNil K line0 w = codeS Tryd.prog bodkinlaw17_StopsNil.sc (bodyOf Tryd.f5) (argsF 0 [line0]) w (retQ Tryd.prog Tryd.f5.results.toList K) := by kernel_rfl

theorem bodkinlaw17_StopsNil.call {K : K1} {line0 : Value} {w : World} (h : bodkinlaw17_StopsNil K line0 w) : sCall Tryd.prog 5 [line0] w K := sCall_code mixed Tryd.func5 (by kernel_rfl) rfl rfl bodkinlaw17_StopsNil.ok bodkinlaw17_StopsNil.eq h

abbrev bodkinlaw17_StopsNil.n : Nat := 5

/-- 'bodkin bodkinlaw17.StopsPlaces' -/
def bodkinlaw17_StopsPlaces_J2 (K : K1) (M1 : List Value → World → Prop) (q3 x23 x24 x62 : Value) (x72 : Value) (w : World) : Prop :=
  sIf x72 (
    sBin Tryd.prog .neq 25 false true x24 (.int .i64 1) w fun x74 w =>
    sIf x74 (
      K (.bool false) w) (
      sBin Tryd.prog .neq 3 false true x23 (.int .i64 0) w fun x77 w =>
      sIf x77 (
        K (.bool false) w) (
        M1 [] w))) (
    sBin Tryd.prog .neq 25 false true x24 (.int .i64 0) w fun x80 w =>
    sIf x80 (
      K (.bool false) w) (
      sFldA Tryd.prog 38 q3 1 w fun x84 w =>
      sLoad Tryd.prog 3 x84 w fun x85 w =>
      sIdxA Tryd.prog 24 x62 x85 w fun x86 w =>
      sLoad Tryd.prog 3 x86 w fun x87 w =>
      sBin Tryd.prog .neq 3 false false x23 x87 w fun x88 w =>
      sIf x88 (
        K (.bool false) w) (
        M1 [] w)))

def bodkinlaw17_StopsPlaces_L4 (K : K1) (Nx4 : List Value → World → Prop) (q3 x117 x30 x31 x32 x62 : Value) (last11 x118 : Value) (w : World) : Prop :=
  sBin Tryd.prog .lss 3 false false x118 x117 w fun x119 w =>
  sIf x119 (
    sIdxA Tryd.prog 24 x62 x118 w fun x121 w =>
    sLoad Tryd.prog 3 x121 w fun x122 w =>
    sFldA Tryd.prog 38 q3 1 w fun x124 w =>
    sLoad Tryd.prog 3 x124 w fun x125 w =>
    sBin Tryd.prog .leq 3 false false x122 x125 w fun x126 w =>
    sIf x126 (
      sBin Tryd.prog .add 3 false true x118 (.int .i64 1) w fun x128 w =>
      Nx4 [x118, x128] w) (
      sBin Tryd.prog .add 3 false true x118 (.int .i64 1) w fun x128_1 w =>
      Nx4 [last11, x128_1] w)) (
    DrawS w fun C w =>
    stillS C w (fun w k => sBin Tryd.prog .eql 25 false true x32 (.int .i64 0) w k) fun x130 =>
    sIf x130 (
      stillS C w (fun w k => sBin Tryd.prog .eql 3 false false x30 last11 w k) fun x134 =>
      sIf x134 (
        stillS C w (fun w k => sFldA Tryd.prog 38 q3 1 w k) fun x138 =>
        stillS C w (fun w k => sLoad Tryd.prog 3 x138 w k) fun x139 =>
        stillS C w (fun w k => sIdxA Tryd.prog 24 x62 last11 w k) fun x142 =>
        stillS C w (fun w k => sLoad Tryd.prog 3 x142 w k) fun x143 =>
        stillS C w (fun w k => sBin Tryd.prog .sub 3 false false x139 x143 w k) fun x144 =>
        stillS C w (fun w k => sBin Tryd.prog .eql 3 false false x31 x144 w k) fun x145 =>
        sIf x145 (
          sCall Tryd.prog 13 [] w fun x148 w => C w ∧
          K x148 w) (
          K (.bool false) w)) (
        K (.bool false) w)) (
      K (.bool false) w))

def bodkinlaw17_StopsPlaces_J3 (K : K1) (q3 x30 x31 x32 x62 : Value) (x102 : Value) (w : World) : Prop :=
  sIf x102 (
    sBin Tryd.prog .eql 25 false true x32 (.int .i64 1) w fun x104 w =>
    sIf x104 (
      sBin Tryd.prog .eql 3 false true x30 (.int .i64 0) w fun x107 w =>
      sIf x107 (
        sBin Tryd.prog .eql 3 false true x31 (.int .i64 0) w fun x111 w =>
        sIf x111 (
          sCall Tryd.prog 13 [] w fun x114 w =>
          K x114 w) (
          K (.bool false) w)) (
        K (.bool false) w)) (
      K (.bool false) w)) (
    sBuiltin Tryd.prog .len [24] 3 [x62] w fun x117 w =>
    LoopS [(.int .i64 0), (.int .i64 0)] 2 12 w fun us _ w Nx4 =>
      bodkinlaw17_StopsPlaces_L4 K Nx4 q3 x117 x30 x31 x32 x62 (hd us) (hd (tl us)) w)

def bodkinlaw17_StopsPlaces_J1 (K : K1) (line0 q3 x30 x31 x32 x62 : Value) (w : World) : Prop :=
  JoinS 1 12 (fun M3 =>
    DrawS w fun C w =>
    stillS C w (fun w k => sFldA Tryd.prog 38 q3 1 w k) fun x90 =>
    stillS C w (fun w k => sLoad Tryd.prog 3 x90 w k) fun x91 =>
    stillS C w (fun w k => sBin Tryd.prog .lss 3 false true x91 (.int .i64 0) w k) fun x92 =>
    sIf x92 (
      M3 [(.bool true)] w) (
      stillS C w (fun w k => sFldA Tryd.prog 38 q3 1 w k) fun x94 =>
      stillS C w (fun w k => sLoad Tryd.prog 3 x94 w k) fun x95 =>
      stillS C w (fun w k => sBuiltin Tryd.prog .len [22] 3 [line0] w k) fun x98 =>
      stillS C w (fun w k => sIdxA Tryd.prog 24 x62 x98 w k) fun x99 =>
      stillS C w (fun w k => sLoad Tryd.prog 3 x99 w k) fun x100 =>
      stillS C w (fun w k => sBin Tryd.prog .gtr 3 false false x95 x100 w k) fun x101 =>
      M3 [x101] w)) fun us _ w =>
    bodkinlaw17_StopsPlaces_J3 K q3 x30 x31 x32 x62 (hd us) w

def bodkinlaw17_StopsPlaces (K : K1) (line0 q1 : Value) (w : World) : Prop :=
  sBox Tryd.prog 38 q1 w fun q3 w =>
  sBuiltin Tryd.prog .len [22] 3 [line0] w fun x15 w =>
  sBin Tryd.prog .gtr 3 false true x15 (.int .i64 500) w fun x16 w =>
  sIf x16 (
    sCall Tryd.prog 13 [] w fun x17 w =>
    K x17 w) (
    DrawS w fun C w =>
    stillS C w (fun w k => sLoad Tryd.prog 38 q3 w k) fun x21 =>
    sCall Tryd.prog 15 [] w fun x19 w => C w ∧
    sCall Tryd.prog 20 [x19, line0, x21] w fun x22 w => C w ∧
    sExtract x22 0 w fun x23 w =>
    sExtract x22 1 w fun x24 w =>
    DrawS w fun C w =>
    stillS C w (fun w k => sLoad Tryd.prog 38 q3 w k) fun x28 =>
    sCall Tryd.prog 15 [] w fun x26 w => C w ∧
    sCall Tryd.prog 21 [x26, line0, x28] w fun x29 w => C w ∧
    sExtract x29 0 w fun x30 w =>
    sExtract x29 1 w fun x31 w =>
    sExtract x29 2 w fun x32 w =>
    sFldA Tryd.prog 38 q3 0 w fun x33 w =>
    sLoad Tryd.prog 3 x33 w fun x34 w =>
    sCall Tryd.prog 16 [x34] w fun x35 w =>
    sUn Tryd.prog .not x35 w fun x36 w =>
    sIf x36 (
      sBin Tryd.prog .eql 25 false true x24 (.int .i64 1) w fun x38 w =>
      sIf x38 (
        sBin Tryd.prog .eql 25 false true x32 (.int .i64 1) w fun x41 w =>
        sIf x41 (
          sBin Tryd.prog .eql 3 false true x23 (.int .i64 0) w fun x45 w =>
          sIf x45 (
            sBin Tryd.prog .eql 3 false true x30 (.int .i64 0) w fun x49 w =>
            sIf x49 (
              sBin Tryd.prog .eql 3 false true x31 (.int .i64 0) w fun x53 w =>
              sIf x53 (
                sCall Tryd.prog 13 [] w fun x56 w =>
                K x56 w) (
                K (.bool false) w)) (
              K (.bool false) w)) (
            K (.bool false) w)) (
          K (.bool false) w)) (
        K (.bool false) w)) (
      DrawS w fun C w =>
      stillS C w (fun w k => sFldA Tryd.prog 38 q3 0 w k) fun x60 =>
      stillS C w (fun w k => sLoad Tryd.prog 3 x60 w k) fun x61 =>
      sCall Tryd.prog 19 [] w fun x58 w => C w ∧
      sCall Tryd.prog 22 [x58, line0, x61] w fun x62 w => C w ∧
      JoinS 0 28 (fun M1 =>
        JoinS 1 9 (fun M2 =>
          sFldA Tryd.prog 38 q3 1 w fun x63 w =>
          sLoad Tryd.prog 3 x63 w fun x64 w =>
          sBin Tryd.prog .lss 3 false true x64 (.int .i64 0) w fun x65 w =>
          sIf x65 (
            M2 [(.bool true)] w) (
            sFldA Tryd.prog 38 q3 1 w fun x67 w =>
            sLoad Tryd.prog 3 x67 w fun x68 w =>
            sBuiltin Tryd.prog .len [22] 3 [line0] w fun x70 w =>
            sBin Tryd.prog .gtr 3 false false x68 x70 w fun x71 w =>
            M2 [x71] w)) fun us _ w =>
          bodkinlaw17_StopsPlaces_J2 K M1 q3 x23 x24 x62 (hd us) w) fun us _ w =>
        bodkinlaw17_StopsPlaces_J1 K line0 q3 x30 x31 x32 x62 w))

def bodkinlaw17_StopsPlaces.sc : SC := (.seq (.reg (.op 0 (.op 1 .done))) (.seq (.seq (.reg (.op 0 (.op 1 (.op 2 .done)))) (.cond (.seq (.reg (.op 0 (.op 1 .done))) .nop) .nop)) (.seq (.draw (.op 1 (.op 2 (.op 0 (.op 3 (.op 4 (.op 5 (.op 6 (.op 7 (.op 8 .done)))))))))) (.seq (.draw (.op 1 (.op 2 (.op 0 (.op 3 (.op 4 (.op 5 (.op 6 (.op 7 (.op 8 (.op 9 (.op 10 .done)))))))))))) (.seq (.seq (.reg (.op 0 (.op 1 (.op 2 (.op 3 .done))))) (.cond (.seq (.reg (.op 0 (.op 1 (.op 2 (.test 2 (.op 3 (.op 4 (.op 5 (.op 6 (.test 6 (.op 7 (.op 8 (.op 9 (.op 10 (.test 10 (.op 11 (.op 12 (.op 13 (.op 14 (.test 14 (.op 15 (.op 16 (.op 17 (.op 18 (.test 18 (.op 19 (.op 20 (.op 21 .done))) (.skip 19 (.op 20 (.op 21 .done)))))))) (.skip 15 (.skip 16 (.op 17 (.op 18 (.know 18 false (.skip 19 (.op 20 (.op 21 .done))))))))))))) (.skip 11 (.skip 12 (.op 13 (.op 14 (.know 14 false (.skip 15 (.skip 16 (.op 17 (.op 18 (.know 18 false (.skip 19 (.op 20 (.op 21 .done)))))))))))))))))) (.skip 7 (.skip 8 (.op 9 (.op 10 (.know 10 false (.skip 11 (.skip 12 (.op 13 (.op 14 (.know 14 false (.skip 15 (.skip 16 (.op 17 (.op 18 (.know 18 false (.skip 19 (.op 20 (.op 21 .done))))))))))))))))))))))) (.skip 3 (.skip 4 (.op 5 (.op 6 (.know 6 false (.skip 7 (.skip 8 (.op 9 (.op 10 (.know 10 false (.skip 11 (.skip 12 (.op 13 (.op 14 (.know 14 false (.skip 15 (.skip 16 (.op 17 (.op 18 (.know 18 false (.skip 19 (.op 20 (.op 21 .done)))))))))))))))))))))))))))) .nop) .nop)) (.seq (.draw (.op 1 (.op 2 (.op 3 (.op 0 (.op 4 (.op 5 .done))))))) (.join [] [63, 64, 65, 66, 67, 68, 69, 70, 71, 72, 73, 74, 75, 76, 77, 78, 4, 79, 80, 81, 82, 83, 84, 85, 86, 87, 88, 89] (.join [72] [63, 64, 65, 66, 67, 68, 69, 70, 71] (.reg (.op 0 (.op 1 (.op 2 (.op 3 (.test 3 (.skip 4 (.skip 5 (.skip 6 (.skip 7 (.skip 8 (.op 9 .done)))))) (.op 4 (.op 5 (.op 6 (.op 7 (.op 8 (.op 9 .done)))))))))))) (.cond (.seq (.reg (.op 0 (.op 1 (.op 2 (.test 2 (.skip 3 (.skip 4 (.op 5 .done))) (.op 3 (.op 4 (.op 5 .done)))))))) (.cond (.seq (.reg (.op 0 .done)) .nop) .nop)) (.seq (.reg (.op 0 (.op 1 (.op 2 (.test 2 (.skip 3 (.skip 4 (.skip 5 (.skip 6 (.skip 7 (.skip 8 (.skip 9 (.op 10 .done)))))))) (.op 3 (.op 4 (.op 5 (.op 6 (.op 7 (.op 8 (.op 9 (.op 10 .done))))))))))))) (.cond (.seq (.reg (.op 0 .done)) .nop) .nop)))) (.seq (.join [102] [90, 91, 92, 93, 94, 95, 96, 97, 98, 99, 100, 101] (.draw (.op 0 (.op 1 (.op 2 (.op 3 (.test 3 (.skip 4 (.skip 5 (.skip 6 (.skip 7 (.skip 8 (.skip 9 (.skip 10 (.skip 11 (.op 12 .done))))))))) (.op 4 (.op 5 (.op 6 (.op 7 (.op 8 (.op 9 (.op 10 (.op 11 (.op 12 .done))))))))))))))) (.cond (.seq (.reg (.op 0 (.op 1 (.op 2 (.test 2 (.op 3 (.op 4 (.op 5 (.op 6 (.test 6 (.op 7 (.op 8 (.op 9 (.op 10 (.test 10 (.op 11 (.op 12 (.op 13 .done))) (.skip 11 (.op 12 (.op 13 .done)))))))) (.skip 7 (.skip 8 (.op 9 (.op 10 (.know 10 false (.skip 11 (.op 12 (.op 13 .done))))))))))))) (.skip 3 (.skip 4 (.op 5 (.op 6 (.know 6 false (.skip 7 (.skip 8 (.op 9 (.op 10 (.know 10 false (.skip 11 (.op 12 (.op 13 .done)))))))))))))))))) .nop) .nop)) (.seq (.reg (.op 0 .done)) (.seq (.seq (.reg (.op 0 (.op 1 (.op 2 .done)))) (.sub (.loop [11, 118] [119, 120, 121, 122, 12, 13, 123, 124, 125, 126, 127, 128] (.seq (.reg (.op 0 .done)) (.seq (.cond .nop .nop) (.seq (.sub (.seq (.reg (.op 0 (.op 1 (.op 2 (.op 3 (.op 4 .done)))))) (.seq (.reg (.op 0 (.op 1 (.op 2 (.op 3 .done))))) (.cond (.reg (.op 0 (.op 1 .done))) .nop)))) (.reg (.op 0 (.op 1 .done))))))))) (.seq (.draw (.op 0 (.op 1 (.op 2 (.test 2 (.op 3 (.op 4 (.op 5 (.op 6 (.op 7 (.test 7 (.op 8 (.op 9 (.op 10 (.op 11 (.op 12 (.op 13 (.op 14 (.op 15 (.op 16 (.op 17 (.op 18 (.test 18 (.op 19 (.op 20 (.op 21 .done))) (.skip 19 (.op 20 (.op 21 .done))))))))))))))) (.skip 8 (.skip 9 (.skip 10 (.skip 11 (.skip 12 (.skip 13 (.skip 14 (.skip 15 (.skip 16 (.op 17 (.op 18 (.know 18 false (.skip 19 (.op 20 (.op 21 .done))))))))))))))))))))) (.skip 3 (.skip 4 (.skip 5 (.op 6 (.op 7 (.know 7 false (.skip 8 (.skip 9 (.skip 10 (.skip 11 (.skip 12 (.skip 13 (.skip 14 (.skip 15 (.skip 16 (.op 17 (.op 18 (.know 18 false (.skip 19 (.op 20 (.op 21 .done)))))))))))))))))))))))))) .nop)))))))))))

theorem bodkinlaw17_StopsPlaces.ok : okC Tryd.f6.ntmps bodkinlaw17_StopsPlaces.sc (bodyOf Tryd.f6) = true := by kernel_rfl

theorem bodkinlaw17_StopsPlaces.eq {K : K1} {line0 q1 : Value} {w : World} : bodkinlaw17_StopsPlaces K line0 q1 w = codeS Tryd.prog bodkinlaw17_StopsPlaces.sc (bodyOf Tryd.f6) (argsF 0 [line0, q1]) w (retQ Tryd.prog Tryd.f6.results.toList K) := by kernel_rfl

theorem bodkinlaw17_StopsPlaces.call {K : K1} {line0 q1 : Value} {w : World} (h : bodkinlaw17_StopsPlaces K line0 q1 w) : sCall Tryd.prog 6 [line0, q1] w K := sCall_code mixed Tryd.func6 (by kernel_rfl) rfl rfl bodkinlaw17_StopsPlaces.ok bodkinlaw17_StopsPlaces.eq h

abbrev bodkinlaw17_StopsPlaces.n : Nat := 6

/-- 'bodkin bodkinlaw17.StopsThere' -/
def bodkinlaw17_StopsThere_J3 (Nx2 : List Value → World → Prop) (c15 : Value) (w : World) : Prop :=
  sBin Tryd.prog .add 3 false true c15 (.int .i64 1) w fun x102 w =>
  Nx2 [x102] w

def bodkinlaw17_StopsThere_L2 (K : K1) (Nx2 : List Value → World → Prop) (line0 size1 x38 : Value) (c15 : Value) (w : World) : Prop :=
  sBin Tryd.prog .leq 3 false false c15 x38 w fun x100 w =>
  sIf x100 (
    JoinS 0 51 (fun M3 =>
      sCall Tryd.prog 15 [] w fun x104 w =>
      sBuild Tryd.prog 38 [(0, size1), (1, c15)] w fun x108 w =>
      sCall Tryd.prog 21 [x104, line0, x108] w fun x109 w =>
      sExtract x109 0 w fun x110 w =>
      sExtract x109 1 w fun x111 w =>
      sExtract x109 2 w fun x112 w =>
      sCall Tryd.prog 15 [] w fun x114 w =>
      sBuild Tryd.prog 38 [(0, size1), (1, x110)] w fun x118 w =>
      sCall Tryd.prog 20 [x114, line0, x118] w fun x119 w =>
      sExtract x119 0 w fun x120 w =>
      sExtract x119 1 w fun x121 w =>
      sBin Tryd.prog .neq 25 false true x112 (.int .i64 0) w fun x123 w =>
      sIf x123 (
        K (.bool false) w) (
        sBin Tryd.prog .neq 25 false true x121 (.int .i64 0) w fun x126 w =>
        sIf x126 (
          K (.bool false) w) (
          sBin Tryd.prog .add 3 false false x120 x111 w fun x131 w =>
          sBin Tryd.prog .neq 3 false false x131 c15 w fun x133 w =>
          sIf x133 (
            K (.bool false) w) (
            sBin Tryd.prog .lss 3 false true x111 (.int .i64 0) w fun x137 w =>
            sIf x137 (
              K (.bool false) w) (
              sBin Tryd.prog .geq 3 false false x111 size1 w fun x142 w =>
              sIf x142 (
                sBin Tryd.prog .gtr 3 false true x111 (.int .i64 1) w fun x145 w =>
                sIf x145 (
                  K (.bool false) w) (
                  M3 [] w)) (
                M3 [] w)))))) fun us _ w =>
      bodkinlaw17_StopsThere_J3 Nx2 c15 w) (
    sCall Tryd.prog 13 [] w fun x148 w =>
    K x148 w)

def bodkinlaw17_StopsThere_L1 (K : K1) (Nx1 : List Value → World → Prop) (line0 size1 x38 : Value) (at7 : Value) (w : World) : Prop :=
  sBuiltin Tryd.prog .len [22] 3 [line0] w fun x44 w =>
  sBin Tryd.prog .leq 3 false false at7 x44 w fun x45 w =>
  sIf x45 (
    sCall Tryd.prog 15 [] w fun x49 w =>
    sBuild Tryd.prog 38 [(0, size1), (1, at7)] w fun x53 w =>
    sCall Tryd.prog 20 [x49, line0, x53] w fun x54 w =>
    sExtract x54 0 w fun x55 w =>
    sExtract x54 1 w fun x56 w =>
    sCall Tryd.prog 15 [] w fun x58 w =>
    sBuild Tryd.prog 38 [(0, size1), (1, x55)] w fun x62 w =>
    sCall Tryd.prog 21 [x58, line0, x62] w fun x63 w =>
    sExtract x63 0 w fun x64 w =>
    sExtract x63 1 w fun x65 w =>
    sExtract x63 2 w fun x66 w =>
    sBin Tryd.prog .neq 25 false true x56 (.int .i64 0) w fun x68 w =>
    sIf x68 (
      K (.bool false) w) (
      sBin Tryd.prog .neq 25 false true x66 (.int .i64 0) w fun x71 w =>
      sIf x71 (
        K (.bool false) w) (
        sBin Tryd.prog .lss 3 false false x64 at7 w fun x76 w =>
        sIf x76 (
          K (.bool false) w) (
          sBin Tryd.prog .neq 3 false true x65 (.int .i64 0) w fun x80 w =>
          sIf x80 (
            K (.bool false) w) (
            sCall Tryd.prog 15 [] w fun x83 w =>
            sBuild Tryd.prog 38 [(0, size1), (1, x64)] w fun x87 w =>
            sCall Tryd.prog 20 [x83, line0, x87] w fun x88 w =>
            sExtract x88 0 w fun x89 w =>
            sExtract x88 1 w fun x90 w =>
            sBin Tryd.prog .neq 25 false true x90 (.int .i64 0) w fun x92 w =>
            sIf x92 (
              K (.bool false) w) (
              sBin Tryd.prog .neq 3 false false x89 x55 w fun x96 w =>
              sIf x96 (
                K (.bool false) w) (
                sBin Tryd.prog .add 3 false true at7 (.int .i64 1) w fun x47 w =>
                Nx1 [x47] w))))))) (
    LoopS [(.int .i64 0)] 1 56 w fun us _ w Nx2 =>
      bodkinlaw17_StopsThere_L2 K Nx2 line0 size1 x38 (hd us) w)

def bodkinlaw17_StopsThere (K : K1) (line0 size1 : Value) (w : World) : Prop :=
  sBuiltin Tryd.prog .len [22] 3 [line0] w fun x22 w =>
  sBin Tryd.prog .gtr 3 false true x22 (.int .i64 60) w fun x23 w =>
  sIf x23 (
    sCall Tryd.prog 13 [] w fun x29 w =>
    K x29 w) (
    sCall Tryd.prog 16 [size1] w fun x26 w =>
    sUn Tryd.prog .not x26 w fun x27 w =>
    sIf x27 (
      sCall Tryd.prog 13 [] w fun x29_1 w =>
      K x29_1 w) (
      sCall Tryd.prog 15 [] w fun x31 w =>
      sBuiltin Tryd.prog .len [22] 3 [line0] w fun x35 w =>
      sBuild Tryd.prog 38 [(0, size1), (1, x35)] w fun x36 w =>
      sCall Tryd.prog 20 [x31, line0, x36] w fun x37 w =>
      sExtract x37 0 w fun x38 w =>
      sExtract x37 1 w fun x39 w =>
      sBin Tryd.prog .neq 25 false true x39 (.int .i64 0) w fun x41 w =>
      sIf x41 (
        K (.bool false) w) (
        LoopS [(.int .i64 0)] 1 64 w fun us _ w Nx1 =>
          bodkinlaw17_StopsThere_L1 K Nx1 line0 size1 x38 (hd us) w)))

def bodkinlaw17_StopsThere.sc : SC := (.seq (.reg (.op 0 .done)) (.seq (.seq (.reg (.op 0 (.op 1 (.op 2 (.op 3 (.test 3 (.skip 4 (.skip 5 (.skip 6 (.op 7 .done)))) (.op 4 (.op 5 (.op 6 (.op 7 .done)))))))))) (.cond (.seq (.reg (.op 0 (.op 1 .done))) .nop) .nop)) (.seq (.reg (.op 0 (.op 1 (.op 2 (.op 3 (.op 4 (.op 5 (.op 6 (.op 7 (.op 8 (.op 9 (.op 10 (.op 11 .done))))))))))))) (.seq (.seq (.reg (.op 0 (.op 1 .done))) (.cond (.seq (.reg (.op 0 .done)) .nop) .nop)) (.seq (.seq (.reg (.op 0 .done)) (.sub (.loop [7] [42, 43, 44, 45, 49, 50, 51, 52, 53, 54, 48, 55, 56, 8, 9, 58, 59, 60, 61, 62, 63, 57, 64, 65, 66, 10, 11, 12, 67, 68, 69, 70, 71, 72, 73, 74, 75, 76, 77, 78, 79, 80, 81, 4, 83, 84, 85, 86, 87, 88, 82, 89, 90, 13, 14, 91, 92, 93, 94, 95, 96, 97, 46, 47] (.seq (.seq (.reg (.op 0 (.op 1 (.op 2 (.op 3 .done))))) (.cond .nop .nop)) (.seq (.sub (.seq (.reg (.op 0 (.op 1 (.op 2 (.op 3 (.op 4 (.op 5 (.op 6 (.op 7 (.op 8 (.op 9 (.op 10 .done)))))))))))) (.seq (.reg (.op 0 (.op 1 (.op 2 (.op 3 (.op 4 (.op 5 (.op 6 (.op 7 (.op 8 (.op 9 (.op 10 (.op 11 (.op 12 .done)))))))))))))) (.seq (.seq (.reg (.op 0 (.op 1 (.op 2 (.test 2 (.skip 3 (.skip 4 (.op 5 (.op 6 (.know 6 true (.skip 7 (.skip 8 (.skip 9 (.op 10 (.op 11 (.know 11 true (.skip 12 (.skip 13 (.op 14 .done)))))))))))))) (.op 3 (.op 4 (.op 5 (.op 6 (.test 6 (.skip 7 (.skip 8 (.skip 9 (.op 10 (.op 11 (.know 11 true (.skip 12 (.skip 13 (.op 14 .done))))))))) (.op 7 (.op 8 (.op 9 (.op 10 (.op 11 (.test 11 (.skip 12 (.skip 13 (.op 14 .done))) (.op 12 (.op 13 (.op 14 .done))))))))))))))))))) (.cond (.seq (.reg (.op 0 .done)) .nop) .nop)) (.seq (.reg (.op 0 (.op 1 (.op 2 (.op 3 (.op 4 (.op 5 (.op 6 (.op 7 (.op 8 (.op 9 (.op 10 .done)))))))))))) (.seq (.reg (.op 0 (.op 1 (.op 2 (.test 2 (.skip 3 (.skip 4 (.skip 5 (.op 6 .done)))) (.op 3 (.op 4 (.op 5 (.op 6 .done))))))))) (.cond (.seq (.reg (.op 0 .done)) .nop) .nop))))))) (.reg (.op 0 (.op 1 (.op 2 .done))))))))) (.seq (.seq (.reg (.op 0 .done)) (.sub (.loop [15] [98, 99, 100, 104, 105, 106, 107, 108, 109, 103, 110, 111, 112, 16, 17, 18, 114, 115, 116, 117, 118, 119, 113, 120, 121, 19, 20, 122, 123, 124, 125, 126, 127, 128, 129, 130, 131, 132, 133, 134, 135, 136, 137, 138, 139, 140, 141, 142, 143, 144, 145, 146, 147, 4, 101, 102] (.seq (.seq (.reg (.op 0 (.op 1 (.op 2 .done)))) (.cond .nop .nop)) (.join [] [104, 105, 106, 107, 108, 109, 103, 110, 111, 112, 16, 17, 18, 114, 115, 116, 117, 118, 119, 113, 120, 121, 19, 20, 122, 123, 124, 125, 126, 127, 128, 129, 130, 131, 132, 133, 134, 135, 136, 137, 138, 139, 140, 141, 142, 143, 144, 145, 146, 147, 4] (.sub (.seq (.reg (.op 0 (.op 1 (.op 2 (.op 3 (.op 4 (.op 5 (.op 6 (.op 7 (.op 8 (.op 9 (.op 10 (.op 11 (.op 12 .done)))))))))))))) (.seq (.reg (.op 0 (.op 1 (.op 2 (.op 3 (.op 4 (.op 5 (.op 6 (.op 7 (.op 8 (.op 9 (.op 10 .done)))))))))))) (.seq (.reg (.op 0 (.op 1 (.op 2 (.test 2 (.skip 3 (.skip 4 (.op 5 (.op 6 (.know 6 true (.skip 7 (.skip 8 (.skip 9 (.skip 10 (.skip 11 (.op 12 (.op 13 (.know 13 true (.skip 14 (.skip 15 (.op 16 (.op 17 (.know 17 true (.skip 18 (.skip 19 (.skip 20 (.skip 21 (.skip 22 (.skip 23 (.skip 24 (.op 25 .done)))))))))))))))))))))))))) (.op 3 (.op 4 (.op 5 (.op 6 (.test 6 (.skip 7 (.skip 8 (.skip 9 (.skip 10 (.skip 11 (.op 12 (.op 13 (.know 13 true (.skip 14 (.skip 15 (.op 16 (.op 17 (.know 17 true (.skip 18 (.skip 19 (.skip 20 (.skip 21 (.skip 22 (.skip 23 (.skip 24 (.op 25 .done))))))))))))))))))))) (.op 7 (.op 8 (.op 9 (.op 10 (.op 11 (.op 12 (.op 13 (.test 13 (.skip 14 (.skip 15 (.op 16 (.op 17 (.know 17 true (.skip 18 (.skip 19 (.skip 20 (.skip 21 (.skip 22 (.skip 23 (.skip 24 (.op 25 .done))))))))))))) (.op 14 (.op 15 (.op 16 (.op 17 (.test 17 (.skip 18 (.skip 19 (.skip 20 (.skip 21 (.skip 22 (.skip 23 (.skip 24 (.op 25 .done)))))))) (.op 18 (.op 19 (.op 20 (.op 21 (.test 21 (.op 22 (.op 23 (.op 24 (.op 25 .done)))) (.skip 22 (.skip 23 (.op 24 (.op 25 .done)))))))))))))))))))))))))))))))) (.cond (.seq (.reg (.op 0 .done)) .nop) .nop))))) (.reg (.op 0 (.op 1 (.op 2 .done))))))))) (.seq (.reg (.op 0 (.op 1 .done))) .nop)))))))

theorem bodkinlaw17_StopsThere.ok : okC Tryd.f7.ntmps bodkinlaw17_StopsThere.sc (bodyOf Tryd.f7) = true := by kernel_rfl

theorem bodkinlaw17_StopsThere.eq {K : K1} {line0 size1 : Value} {w : World} : bodkinlaw17_StopsThere K line0 size1 w = codeS Tryd.prog bodkinlaw17_StopsThere.sc (bodyOf Tryd.f7) (argsF 0 [line0, size1]) w (retQ Tryd.prog Tryd.f7.results.toList K) := by kernel_rfl

theorem bodkinlaw17_StopsThere.call {K : K1} {line0 size1 : Value} {w : World} (h : bodkinlaw17_StopsThere K line0 size1 w) : sCall Tryd.prog 7 [line0, size1] w K := sCall_code mixed Tryd.func7 (by kernel_rfl) rfl rfl bodkinlaw17_StopsThere.ok bodkinlaw17_StopsThere.eq h

abbrev bodkinlaw17_StopsThere.n : Nat := 7

/-- 'bodkin bodkinlaw18.CellsOf' -/
def bodkinlaw18_CellsOf (K : K1) (l0 tab1 : Value) (w : World) : Prop :=
  sCall Tryd.prog 23 [l0] w fun x9 w =>
  sIf x9 (
    sCall Tryd.prog 24 [] w fun x10 w =>
    K x10 w) (
    sCall Tryd.prog 15 [] w fun x12 w =>
    sCall Tryd.prog 25 [x12, l0, tab1] w fun x15 w =>
    sExtract x15 0 w fun x16 w =>
    sExtract x15 1 w fun x17 w =>
    sCall Tryd.prog 27 [l0] w fun x19 w =>
    sCall Tryd.prog 26 [x19, tab1] w fun x21 w =>
    sBin Tryd.prog .neq 3 false true x21 (.int .i64 0) w fun x23 w =>
    sIf x23 (
      sBin Tryd.prog .eql 3 false false x17 x21 w fun x26 w =>
      sIf x26 (
        sBuiltin Tryd.prog .len [46] 3 [x16] w fun x29 w =>
        sBin Tryd.prog .eql 3 false true x29 (.int .i64 0) w fun x30 w =>
        sIf x30 (
          sCall Tryd.prog 24 [] w fun x33 w =>
          K x33 w) (
          K (.bool false) w)) (
        K (.bool false) w)) (
      sBin Tryd.prog .eql 25 false true x17 (.int .i64 0) w fun x36 w =>
      sIf x36 (
        sCall Tryd.prog 19 [] w fun x39 w =>
        sCall Tryd.prog 27 [l0] w fun x41 w =>
        sCall Tryd.prog 29 [x39, x41, tab1] w fun x43 w =>
        sCall Tryd.prog 28 [x16, x43] w fun x44 w =>
        sIf x44 (
          sCall Tryd.prog 24 [] w fun x47 w =>
          K x47 w) (
          K (.bool false) w)) (
        K (.bool false) w)))

def bodkinlaw18_CellsOf.sc : SC := (.seq (.reg (.op 0 .done)) (.seq (.seq (.reg (.op 0 (.op 1 .done))) (.cond (.seq (.reg (.op 0 (.op 1 .done))) .nop) .nop)) (.seq (.reg (.op 0 (.op 1 (.op 2 (.op 3 (.op 4 (.op 5 (.op 6 (.op 7 (.op 8 .done)))))))))) (.seq (.reg (.op 0 (.op 1 (.op 2 (.op 3 (.op 4 .done)))))) (.seq (.seq (.reg (.op 0 (.op 1 .done))) (.cond (.seq (.reg (.op 0 (.op 1 (.op 2 (.op 3 (.test 3 (.op 4 (.op 5 (.op 6 (.op 7 (.op 8 (.test 8 (.op 9 (.op 10 (.op 11 .done))) (.skip 9 (.op 10 (.op 11 .done))))))))) (.skip 4 (.skip 5 (.skip 6 (.op 7 (.op 8 (.know 8 false (.skip 9 (.op 10 (.op 11 .done))))))))))))))) .nop) .nop)) (.seq (.reg (.op 0 (.op 1 (.op 2 (.test 2 (.op 3 (.op 4 (.op 5 (.op 6 (.op 7 (.op 8 (.op 9 (.op 10 (.op 11 (.test 11 (.op 12 (.op 13 (.op 14 .done))) (.skip 12 (.op 13 (.op 14 .done))))))))))))) (.skip 3 (.skip 4 (.skip 5 (.skip 6 (.skip 7 (.skip 8 (.skip 9 (.op 10 (.op 11 (.know 11 false (.skip 12 (.op 13 (.op 14 .done)))))))))))))))))) .nop))))))

theorem bodkinlaw18_CellsOf.ok : okC Tryd.f8.ntmps bodkinlaw18_CellsOf.sc (bodyOf Tryd.f8) = true := by kernel_rfl

theorem bodkinlaw18_CellsOf.eq {K : K1} {l0 tab1 : Value} {w : World} : bodkinlaw18_CellsOf K l0 tab1 w = codeS Tryd.prog bodkinlaw18_CellsOf.sc (bodyOf Tryd.f8) (argsF 0 [l0, tab1]) w (retQ Tryd.prog Tryd.f8.results.toList K) := by kernel_rfl

theorem bodkinlaw18_CellsOf.call {K : K1} {l0 tab1 : Value} {w : World} (h : bodkinlaw18_CellsOf K l0 tab1 w) : sCall Tryd.prog 8 [l0, tab1] w K := sCall_code mixed Tryd.func8 (by kernel_rfl) rfl rfl bodkinlaw18_CellsOf.ok bodkinlaw18_CellsOf.eq h

abbrev bodkinlaw18_CellsOf.n : Nat := 8

/-- 'bodkin bodkinlaw18.CellsPlain' -/
def bodkinlaw18_CellsPlain_L4 (M3 : List Value → World → Prop) (Nx4 : List Value → World → Prop) (x20 : Value) (i7_2 : Value) (w : World) : Prop :=
  sBuiltin Tryd.prog .len [46] 3 [x20] w fun x51 w =>
  sBin Tryd.prog .lss 3 false false i7_2 x51 w fun x52 w =>
  sIf x52 (
    sIdxA Tryd.prog 46 x20 i7_2 w fun x56 w =>
    sFldA Tryd.prog 58 x56 1 w fun x57 w =>
    sLoad Tryd.prog 3 x57 w fun x58 w =>
    sBin Tryd.prog .neq 3 false true x58 (.int .i64 1) w fun x59 w =>
    sIf x59 (
      sBin Tryd.prog .add 3 false true i7_2 (.int .i64 1) w fun x62 w =>
      Nx4 [x62] w) (
      M3 [i7_2] w)) (
    M3 [i7_2] w)

def bodkinlaw18_CellsPlain_J3 (K : K1) (Nx2 : List Value → World → Prop) (p9 x20 x41 x45 : Value) (i7_3 : Value) (w : World) : Prop :=
  DrawS w fun C w =>
  stillS C w (fun w k => sBuiltin Tryd.prog .len [46] 3 [x20] w k) fun x65 =>
  stillS C w (fun w k => sBin Tryd.prog .eql 3 false false i7_3 x65 w k) fun x66 =>
  sIf x66 (
    K (.bool false) w) (
    stillS C w (fun w k => sIdxA Tryd.prog 46 x20 i7_3 w k) fun x70 =>
    stillS C w (fun w k => sFldA Tryd.prog 58 x70 0 w k) fun x71 =>
    stillS C w (fun w k => sLoad Tryd.prog 21 x71 w k) fun x72 =>
    stillS C w (fun w k => sBin Tryd.prog .neq 21 false false x72 x45 w k) fun x74 =>
    sIf x74 (
      K (.bool false) w) (
      stillS C w (fun w k => sIdxA Tryd.prog 46 x20 i7_3 w k) fun x79 =>
      stillS C w (fun w k => sFldA Tryd.prog 58 x79 3 w k) fun x80 =>
      stillS C w (fun w k => sLoad Tryd.prog 3 x80 w k) fun x81 =>
      stillS C w (fun w k => sFldA Tryd.prog 56 p9 1 w k) fun x82 =>
      stillS C w (fun w k => sLoad Tryd.prog 3 x82 w k) fun x83 =>
      stillS C w (fun w k => sBin Tryd.prog .add 3 false false x83 x41 w k) fun x85 =>
      stillS C w (fun w k => sBin Tryd.prog .neq 3 false false x81 x85 w k) fun x86 =>
      sIf x86 (
        K (.bool false) w) (
        sBin Tryd.prog .add 3 false true i7_3 (.int .i64 1) w fun x89 w =>
        sBin Tryd.prog .add 3 false true x41 (.int .i64 1) w fun x90_1 w =>
        Nx2 [x89, x90_1] w)))

def bodkinlaw18_CellsPlain_L2 (K : K1) (Nx1 : List Value → World → Prop) (Nx2 : List Value → World → Prop) (p9 x20 x34 x39 x40 : Value) (i7_1 x41 : Value) (w : World) : Prop :=
  sBin Tryd.prog .lss 3 false false x41 x40 w fun x42 w =>
  sIf x42 (
    sIdxA Tryd.prog 22 x39 x41 w fun x44 w =>
    sLoad Tryd.prog 21 x44 w fun x45 w =>
    sFldA Tryd.prog 56 p9 0 w fun x46 w =>
    sLoad Tryd.prog 3 x46 w fun x47 w =>
    sBin Tryd.prog .neq 3 false true x47 (.int .i64 1) w fun x48 w =>
    sIf x48 (
      sBin Tryd.prog .add 3 false true x41 (.int .i64 1) w fun x90 w =>
      Nx2 [i7_1, x90] w) (
      JoinS 1 14 (fun M3 =>
        LoopS [i7_1] 1 14 w fun us _ w Nx4 =>
          bodkinlaw18_CellsPlain_L4 M3 Nx4 x20 (hd us) w) fun us _ w =>
        bodkinlaw18_CellsPlain_J3 K Nx2 p9 x20 x41 x45 (hd us) w)) (
    sBin Tryd.prog .add 3 false true x34 (.int .i64 1) w fun x91 w =>
    Nx1 [i7_1, x91] w)

def bodkinlaw18_CellsPlain_L5 (K : K1) (Nx5 : List Value → World → Prop) (x20 : Value) (i7_4 : Value) (w : World) : Prop :=
  sBuiltin Tryd.prog .len [46] 3 [x20] w fun x94 w =>
  sBin Tryd.prog .lss 3 false false i7_4 x94 w fun x95 w =>
  sIf x95 (
    sIdxA Tryd.prog 46 x20 i7_4 w fun x98 w =>
    sFldA Tryd.prog 58 x98 1 w fun x99 w =>
    sLoad Tryd.prog 3 x99 w fun x100 w =>
    sBin Tryd.prog .eql 3 false true x100 (.int .i64 1) w fun x101 w =>
    sIf x101 (
      K (.bool false) w) (
      sBin Tryd.prog .add 3 false true i7_4 (.int .i64 1) w fun x103 w =>
      Nx5 [x103] w)) (
    sCall Tryd.prog 24 [] w fun x104 w =>
    K x104 w)

def bodkinlaw18_CellsPlain_L1 (K : K1) (Nx1 : List Value → World → Prop) (l0 x20 x33 : Value) (i7 x34 : Value) (w : World) : Prop :=
  sBin Tryd.prog .lss 3 false false x34 x33 w fun x35 w =>
  sIf x35 (
    sIdxA Tryd.prog 44 l0 x34 w fun x36 w =>
    sLoad Tryd.prog 56 x36 w fun x37 w =>
    sAlloc Tryd.prog 56 w fun p9 w =>
    sStore Tryd.prog 56 p9 x37 w fun w =>
    sFldA Tryd.prog 56 p9 2 w fun x38 w =>
    sLoad Tryd.prog 22 x38 w fun x39 w =>
    sBuiltin Tryd.prog .len [22] 3 [x39] w fun x40 w =>
    LoopS [i7, (.int .i64 0)] 2 52 w fun us _ w Nx2 =>
      bodkinlaw18_CellsPlain_L2 K Nx1 Nx2 p9 x20 x34 x39 x40 (hd us) (hd (tl us)) w) (
    LoopS [i7] 1 13 w fun us _ w Nx5 =>
      bodkinlaw18_CellsPlain_L5 K Nx5 x20 (hd us) w)

def bodkinlaw18_CellsPlain (K : K1) (l0 tab1 : Value) (w : World) : Prop :=
  sCall Tryd.prog 23 [l0] w fun x13 w =>
  sIf x13 (
    sCall Tryd.prog 24 [] w fun x14 w =>
    K x14 w) (
    sCall Tryd.prog 15 [] w fun x16 w =>
    sCall Tryd.prog 25 [x16, l0, tab1] w fun x19 w =>
    sExtract x19 0 w fun x20 w =>
    sExtract x19 1 w fun x21 w =>
    sBin Tryd.prog .neq 25 false true x21 (.int .i64 0) w fun x23 w =>
    sIf x23 (
      sCall Tryd.prog 27 [l0] w fun x25 w =>
      sCall Tryd.prog 26 [x25, tab1] w fun x27 w =>
      sBin Tryd.prog .neq 3 false true x27 (.int .i64 0) w fun x28 w =>
      sIf x28 (
        sCall Tryd.prog 24 [] w fun x30 w =>
        K x30 w) (
        K (.bool false) w)) (
      sBuiltin Tryd.prog .len [44] 3 [l0] w fun x33 w =>
      LoopS [(.int .i64 0), (.int .i64 0)] 2 61 w fun us _ w Nx1 =>
        bodkinlaw18_CellsPlain_L1 K Nx1 l0 x20 x33 (hd us) (hd (tl us)) w))

def bodkinlaw18_CellsPlain.sc : SC := (.seq (.reg (.op 0 .done)) (.seq (.seq (.reg (.op 0 (.op 1 .done))) (.cond (.seq (.reg (.op 0 (.op 1 .done))) .nop) .nop)) (.seq (.reg (.op 0 (.op 1 (.op 2 (.op 3 (.op 4 (.op 5 (.op 6 (.op 7 (.op 8 .done)))))))))) (.seq (.seq (.reg (.op 0 (.op 1 .done))) (.cond (.seq (.reg (.op 0 (.op 1 (.op 2 (.op 3 (.op 4 (.op 5 (.test 5 (.op 6 (.op 7 (.op 8 .done))) (.skip 6 (.op 7 (.op 8 .done))))))))))) .nop) .nop)) (.seq (.reg (.op 0 .done)) (.seq (.seq (.reg (.op 0 (.op 1 (.op 2 .done)))) (.sub (.loop [7, 34] [35, 36, 37, 9, 38, 39, 40, 41, 42, 43, 44, 45, 10, 11, 46, 47, 48, 49, 50, 51, 52, 53, 54, 55, 56, 57, 58, 59, 60, 61, 62, 63, 64, 65, 66, 67, 68, 69, 70, 71, 72, 73, 74, 75, 76, 77, 78, 79, 80, 81, 82, 83, 84, 85, 86, 87, 4, 88, 89, 90, 91] (.seq (.reg (.op 0 .done)) (.seq (.cond .nop .nop) (.seq (.sub (.seq (.reg (.op 0 (.op 1 (.op 2 (.op 3 .done))))) (.seq (.reg (.op 0 (.op 1 (.op 2 (.op 3 .done))))) (.sub (.loop [7, 41] [42, 43, 44, 45, 10, 11, 46, 47, 48, 49, 50, 51, 52, 53, 54, 55, 56, 57, 58, 59, 60, 61, 62, 63, 64, 65, 66, 67, 68, 69, 70, 71, 72, 73, 74, 75, 76, 77, 78, 79, 80, 81, 82, 83, 84, 85, 86, 87, 4, 88, 89, 90] (.seq (.reg (.op 0 .done)) (.seq (.cond .nop .nop) (.seq (.sub (.seq (.reg (.op 0 (.op 1 (.op 2 (.op 3 (.op 4 .done)))))) (.seq (.seq (.reg (.op 0 (.op 1 (.op 2 .done)))) (.cond .nop .nop)) (.join [7] [49, 50, 51, 52, 53, 54, 55, 56, 57, 58, 59, 60, 61, 62] (.sub (.loop [7] [49, 50, 51, 52, 53, 54, 55, 56, 57, 58, 59, 60, 61, 62] (.seq (.seq (.reg (.op 0 (.op 1 (.op 2 (.op 3 (.op 4 (.test 4 (.op 5 (.op 6 (.op 7 (.op 8 (.op 9 (.op 10 (.op 11 .done))))))) (.skip 5 (.skip 6 (.skip 7 (.skip 8 (.skip 9 (.skip 10 (.op 11 .done)))))))))))))) (.cond .nop .nop)) (.sub (.reg (.op 0 (.op 1 (.op 2 .done)))))))) (.seq (.seq (.draw (.op 0 (.op 1 (.op 2 (.op 3 (.op 4 (.test 4 (.skip 5 (.skip 6 (.skip 7 (.skip 8 (.skip 9 (.skip 10 (.skip 11 (.op 12 (.op 13 (.know 13 true (.skip 14 (.skip 15 (.skip 16 (.skip 17 (.skip 18 (.skip 19 (.skip 20 (.skip 21 (.skip 22 (.skip 23 (.op 24 .done))))))))))))))))))))) (.op 5 (.op 6 (.op 7 (.op 8 (.op 9 (.op 10 (.op 11 (.op 12 (.op 13 (.test 13 (.skip 14 (.skip 15 (.skip 16 (.skip 17 (.skip 18 (.skip 19 (.skip 20 (.skip 21 (.skip 22 (.skip 23 (.op 24 .done))))))))))) (.op 14 (.op 15 (.op 16 (.op 17 (.op 18 (.op 19 (.op 20 (.op 21 (.op 22 (.op 23 (.op 24 .done)))))))))))))))))))))))))))) (.cond (.seq (.reg (.op 0 .done)) .nop) .nop)) (.reg (.op 0 (.op 1 (.op 2 .done))))))))) (.reg (.op 0 (.op 1 .done))))))))))) (.reg (.op 0 (.op 1 .done))))))))) (.seq (.sub (.loop [7] [92, 93, 94, 95, 96, 97, 98, 99, 100, 101, 4, 102, 103] (.seq (.seq (.reg (.op 0 (.op 1 (.op 2 (.op 3 .done))))) (.cond .nop .nop)) (.sub (.seq (.seq (.reg (.op 0 (.op 1 (.op 2 (.op 3 (.op 4 (.op 5 .done))))))) (.cond (.seq (.reg (.op 0 .done)) .nop) .nop)) (.reg (.op 0 (.op 1 (.op 2 .done))))))))) (.seq (.reg (.op 0 (.op 1 .done))) .nop))))))))

theorem bodkinlaw18_CellsPlain.ok : okC Tryd.f9.ntmps bodkinlaw18_CellsPlain.sc (bodyOf Tryd.f9) = true := by kernel_rfl

theorem bodkinlaw18_CellsPlain.eq {K : K1} {l0 tab1 : Value} {w : World} : bodkinlaw18_CellsPlain K l0 tab1 w = codeS Tryd.prog bodkinlaw18_CellsPlain.sc (bodyOf Tryd.f9) (argsF 0 [l0, tab1]) w (retQ Tryd.prog Tryd.f9.results.toList K) := by kernel_rfl

theorem bodkinlaw18_CellsPlain.call {K : K1} {l0 tab1 : Value} {w : World} (h : bodkinlaw18_CellsPlain K l0 tab1 w) : sCall Tryd.prog 9 [l0, tab1] w K := sCall_code mixed Tryd.func9 (by kernel_rfl) rfl rfl bodkinlaw18_CellsPlain.ok bodkinlaw18_CellsPlain.eq h

abbrev bodkinlaw18_CellsPlain.n : Nat := 9

/-- 'bodkin bodkinlaw18.CellsWide' -/
def bodkinlaw18_CellsWide_L1 (K : K1) (Nx1 : List Value → World → Prop) (l0 tab1 x19 x32 : Value) (all7 x33 : Value) (w : World) : Prop :=
  sBin Tryd.prog .lss 3 false false x33 x32 w fun x34 w =>
  sIf x34 (
    sIdxA Tryd.prog 44 l0 x33 w fun x35 w =>
    sLoad Tryd.prog 56 x35 w fun x36 w =>
    sAlloc Tryd.prog 56 w fun p9 w =>
    sStore Tryd.prog 56 p9 x36 w fun w =>
    sFldA Tryd.prog 56 p9 0 w fun x37 w =>
    sLoad Tryd.prog 3 x37 w fun x38 w =>
    sBin Tryd.prog .eql 3 false true x38 (.int .i64 3) w fun x39 w =>
    sIf x39 (
      sBuildSlice Tryd.prog 22 1 [(0, (.int .i32 8230))] w fun x41 w =>
      sBuiltin Tryd.prog .append [22, 22] 22 [all7, x41] w fun x42 w =>
      sBin Tryd.prog .add 3 false true x33 (.int .i64 1) w fun x47 w =>
      Nx1 [x42, x47] w) (
      sFldA Tryd.prog 56 p9 2 w fun x44 w =>
      sLoad Tryd.prog 22 x44 w fun x45 w =>
      sBuiltin Tryd.prog .append [22, 22] 22 [all7, x45] w fun x46 w =>
      sBin Tryd.prog .add 3 false true x33 (.int .i64 1) w fun x47_1 w =>
      Nx1 [x46, x47_1] w)) (
    sCall Tryd.prog 19 [] w fun x48 w =>
    sCall Tryd.prog 22 [x48, all7, tab1] w fun x51 w =>
    DrawS w fun C w =>
    stillS C w (fun w k => sBuiltin Tryd.prog .len [22] 3 [all7] w k) fun x56 =>
    stillS C w (fun w k => sIdxA Tryd.prog 24 x51 x56 w k) fun x57 =>
    stillS C w (fun w k => sLoad Tryd.prog 3 x57 w k) fun x58 =>
    sCall Tryd.prog 30 [x19] w fun x53 w => C w ∧
    stillS C w (fun w k => sBin Tryd.prog .eql 3 false false x53 x58 w k) fun x59 =>
    sIf x59 (
      sCall Tryd.prog 24 [] w fun x61 w => C w ∧
      K x61 w) (
      K (.bool false) w))

def bodkinlaw18_CellsWide (K : K1) (l0 tab1 : Value) (w : World) : Prop :=
  sCall Tryd.prog 23 [l0] w fun x12 w =>
  sIf x12 (
    sCall Tryd.prog 24 [] w fun x13 w =>
    K x13 w) (
    sCall Tryd.prog 15 [] w fun x15 w =>
    sCall Tryd.prog 25 [x15, l0, tab1] w fun x18 w =>
    sExtract x18 0 w fun x19 w =>
    sExtract x18 1 w fun x20 w =>
    sBin Tryd.prog .neq 25 false true x20 (.int .i64 0) w fun x22 w =>
    sIf x22 (
      sCall Tryd.prog 27 [l0] w fun x24 w =>
      sCall Tryd.prog 26 [x24, tab1] w fun x26 w =>
      sBin Tryd.prog .neq 3 false true x26 (.int .i64 0) w fun x27 w =>
      sIf x27 (
        sCall Tryd.prog 24 [] w fun x29 w =>
        K x29 w) (
        K (.bool false) w)) (
      sBuiltin Tryd.prog .len [44] 3 [l0] w fun x32 w =>
      LoopS [(.slice none 0 0), (.int .i64 0)] 2 15 w fun us _ w Nx1 =>
        bodkinlaw18_CellsWide_L1 K Nx1 l0 tab1 x19 x32 (hd us) (hd (tl us)) w))

def bodkinlaw18_CellsWide.sc : SC := (.seq (.reg (.op 0 .done)) (.seq (.seq (.reg (.op 0 (.op 1 .done))) (.cond (.seq (.reg (.op 0 (.op 1 .done))) .nop) .nop)) (.seq (.reg (.op 0 (.op 1 (.op 2 (.op 3 (.op 4 (.op 5 (.op 6 (.op 7 (.op 8 .done)))))))))) (.seq (.seq (.reg (.op 0 (.op 1 .done))) (.cond (.seq (.reg (.op 0 (.op 1 (.op 2 (.op 3 (.op 4 (.op 5 (.test 5 (.op 6 (.op 7 (.op 8 .done))) (.skip 6 (.op 7 (.op 8 .done))))))))))) .nop) .nop)) (.seq (.reg (.op 0 .done)) (.seq (.seq (.reg (.op 0 (.op 1 (.op 2 .done)))) (.sub (.loop [7, 33] [34, 35, 36, 9, 37, 38, 39, 40, 41, 42, 43, 44, 45, 46, 47] (.seq (.reg (.op 0 .done)) (.seq (.cond .nop .nop) (.seq (.sub (.seq (.reg (.op 0 (.op 1 (.op 2 (.op 3 .done))))) (.seq (.reg (.op 0 (.op 1 (.op 2 .done)))) (.cond (.reg (.op 0 (.op 1 (.op 2 (.op 3 .done))))) (.reg (.op 0 (.op 1 (.op 2 (.op 3 (.op 4 .done)))))))))) (.reg (.op 0 (.op 1 .done))))))))) (.seq (.reg (.op 0 (.op 1 (.op 2 (.op 3 (.op 4 .done)))))) (.seq (.draw (.op 0 (.op 2 (.op 3 (.op 4 (.op 5 (.op 6 (.op 1 (.op 7 (.op 8 (.test 8 (.op 9 (.op 10 (.op 11 .done))) (.skip 9 (.op 10 (.op 11 .done)))))))))))))) .nop))))))))

theorem bodkinlaw18_CellsWide.ok : okC Tryd.f10.ntmps bodkinlaw18_CellsWide.sc (bodyOf Tryd.f10) = true := by kernel_rfl

theorem bodkinlaw18_CellsWide.eq {K : K1} {l0 tab1 : Value} {w : World} : bodkinlaw18_CellsWide K l0 tab1 w = codeS Tryd.prog bodkinlaw18_CellsWide.sc (bodyOf Tryd.f10) (argsF 0 [l0, tab1]) w (retQ Tryd.prog Tryd.f10.results.toList K) := by kernel_rfl

theorem bodkinlaw18_CellsWide.call {K : K1} {l0 tab1 : Value} {w : World} (h : bodkinlaw18_CellsWide K l0 tab1 w) : sCall Tryd.prog 10 [l0, tab1] w K := sCall_code mixed Tryd.func10 (by kernel_rfl) rfl rfl bodkinlaw18_CellsWide.ok bodkinlaw18_CellsWide.eq h

abbrev bodkinlaw18_CellsWide.n : Nat := 10

/-- 'bodkin bodkinlaw18.CellsFirst' -/
def bodkinlaw18_CellsFirst_L1 (K : K1) (Nx1 : List Value → World → Prop) (x18 x31 x33 : Value) (x34 : Value) (w : World) : Prop :=
  sBin Tryd.prog .lss 3 false false x34 x33 w fun x35 w =>
  sIf x35 (
    sIdxA Tryd.prog 46 x18 x34 w fun x37 w =>
    sLoad Tryd.prog 58 x37 w fun x38 w =>
    sAlloc Tryd.prog 58 w fun x9 w =>
    sStore Tryd.prog 58 x9 x38 w fun w =>
    sFldA Tryd.prog 58 x9 1 w fun x39 w =>
    sLoad Tryd.prog 3 x39 w fun x40 w =>
    sBin Tryd.prog .eql 3 false true x40 (.int .i64 4) w fun x41 w =>
    sIf x41 (
      sIdxA Tryd.prog 60 x31 x34 w fun x45 w =>
      sLoad Tryd.prog 4 x45 w fun x46 w =>
      sIf x46 (
        K (.bool false) w) (
        sBin Tryd.prog .add 3 false true x34 (.int .i64 1) w fun x48 w =>
        Nx1 [x48] w)) (
      sBin Tryd.prog .add 3 false true x34 (.int .i64 1) w fun x48_1 w =>
      Nx1 [x48_1] w)) (
    sBuiltin Tryd.prog .len [60] 3 [x31] w fun x50 w =>
    sBuiltin Tryd.prog .len [46] 3 [x18] w fun x52 w =>
    sBin Tryd.prog .eql 3 false false x50 x52 w fun x53 w =>
    sIf x53 (
      sBuiltin Tryd.prog .len [46] 3 [x18] w fun x56 w =>
      sBin Tryd.prog .eql 3 false true x56 (.int .i64 0) w fun x57 w =>
      sIf x57 (
        sCall Tryd.prog 24 [] w fun x65 w =>
        K x65 w) (
        sIdxA Tryd.prog 60 x31 (.int .i64 0) w fun x60 w =>
        sLoad Tryd.prog 4 x60 w fun x61 w =>
        sIf x61 (
          sCall Tryd.prog 24 [] w fun x65_1 w =>
          K x65_1 w) (
          K (.bool false) w))) (
      K (.bool false) w))

def bodkinlaw18_CellsFirst (K : K1) (l0 tab1 : Value) (w : World) : Prop :=
  sCall Tryd.prog 23 [l0] w fun x11 w =>
  sIf x11 (
    sCall Tryd.prog 24 [] w fun x12 w =>
    K x12 w) (
    sCall Tryd.prog 15 [] w fun x14 w =>
    sCall Tryd.prog 25 [x14, l0, tab1] w fun x17 w =>
    sExtract x17 0 w fun x18 w =>
    sExtract x17 1 w fun x19 w =>
    sBin Tryd.prog .neq 25 false true x19 (.int .i64 0) w fun x21 w =>
    sIf x21 (
      sCall Tryd.prog 27 [l0] w fun x23 w =>
      sCall Tryd.prog 26 [x23, tab1] w fun x25 w =>
      sBin Tryd.prog .neq 3 false true x25 (.int .i64 0) w fun x26 w =>
      sIf x26 (
        sCall Tryd.prog 24 [] w fun x28 w =>
        K x28 w) (
        K (.bool false) w)) (
      sCall Tryd.prog 31 [x18] w fun x31 w =>
      sBuiltin Tryd.prog .len [46] 3 [x18] w fun x33 w =>
      LoopS [(.int .i64 0)] 1 17 w fun us _ w Nx1 =>
        bodkinlaw18_CellsFirst_L1 K Nx1 x18 x31 x33 (hd us) w))

def bodkinlaw18_CellsFirst.sc : SC := (.seq (.reg (.op 0 .done)) (.seq (.seq (.reg (.op 0 (.op 1 .done))) (.cond (.seq (.reg (.op 0 (.op 1 .done))) .nop) .nop)) (.seq (.reg (.op 0 (.op 1 (.op 2 (.op 3 (.op 4 (.op 5 (.op 6 (.op 7 (.op 8 .done)))))))))) (.seq (.seq (.reg (.op 0 (.op 1 .done))) (.cond (.seq (.reg (.op 0 (.op 1 (.op 2 (.op 3 (.op 4 (.op 5 (.test 5 (.op 6 (.op 7 (.op 8 .done))) (.skip 6 (.op 7 (.op 8 .done))))))))))) .nop) .nop)) (.seq (.reg (.op 0 (.op 1 (.op 2 .done)))) (.seq (.seq (.reg (.op 0 (.op 1 (.op 2 .done)))) (.sub (.loop [34] [35, 36, 37, 38, 9, 8, 39, 40, 41, 42, 43, 44, 45, 46, 47, 4, 48] (.seq (.reg (.op 0 .done)) (.seq (.cond .nop .nop) (.seq (.sub (.seq (.reg (.op 0 (.op 1 (.op 2 (.op 3 (.op 4 (.op 5 .done))))))) (.seq (.reg (.op 0 (.op 1 (.op 2 (.op 3 (.test 3 (.op 4 (.op 5 (.op 6 (.op 7 (.op 8 .done))))) (.skip 4 (.skip 5 (.skip 6 (.skip 7 (.op 8 .done))))))))))) (.cond (.seq (.reg (.op 0 .done)) .nop) .nop)))) (.reg (.op 0 (.op 1 .done))))))))) (.seq (.reg (.op 0 (.op 1 (.op 2 (.op 3 (.op 4 (.op 5 (.test 5 (.op 6 (.op 7 (.op 8 (.op 9 (.test 9 (.skip 10 (.skip 11 (.skip 12 (.op 13 (.op 14 (.op 15 (.know 15 true (.op 16 (.op 17 (.op 18 .done)))))))))) (.op 10 (.op 11 (.op 12 (.op 13 (.op 14 (.op 15 (.test 15 (.op 16 (.op 17 (.op 18 .done))) (.skip 16 (.op 17 (.op 18 .done))))))))))))))) (.skip 6 (.skip 7 (.skip 8 (.skip 9 (.skip 10 (.skip 11 (.skip 12 (.skip 13 (.op 14 (.op 15 (.know 15 false (.skip 16 (.op 17 (.op 18 .done)))))))))))))))))))))) .nop)))))))

theorem bodkinlaw18_CellsFirst.ok : okC Tryd.f11.ntmps bodkinlaw18_CellsFirst.sc (bodyOf Tryd.f11) = true := by kernel_rfl

theorem bodkinlaw18_CellsFirst.eq {K : K1} {l0 tab1 : Value} {w : World} : bodkinlaw18_CellsFirst K l0 tab1 w = codeS Tryd.prog bodkinlaw18_CellsFirst.sc (bodyOf Tryd.f11) (argsF 0 [l0, tab1]) w (retQ Tryd.prog Tryd.f11.results.toList K) := by kernel_rfl

theorem bodkinlaw18_CellsFirst.call {K : K1} {l0 tab1 : Value} {w : World} (h : bodkinlaw18_CellsFirst K l0 tab1 w) : sCall Tryd.prog 11 [l0, tab1] w K := sCall_code mixed Tryd.func11 (by kernel_rfl) rfl rfl bodkinlaw18_CellsFirst.ok bodkinlaw18_CellsFirst.eq h

abbrev bodkinlaw18_CellsFirst.n : Nat := 11

/-- 'bodkin bodkinlaw18.CellsStops' -/
def bodkinlaw18_CellsStops_L1 (K : K1) (Nx1 : List Value → World → Prop) (l0 x12 x19 : Value) (n3 x20 : Value) (w : World) : Prop :=
  sBin Tryd.prog .lss 3 false false x20 x19 w fun x21 w =>
  sIf x21 (
    sIdxA Tryd.prog 46 l0 x20 w fun x23 w =>
    sLoad Tryd.prog 58 x23 w fun x24 w =>
    sAlloc Tryd.prog 58 w fun c6 w =>
    sStore Tryd.prog 58 c6 x24 w fun w =>
    sFldA Tryd.prog 58 c6 2 w fun x25 w =>
    sLoad Tryd.prog 3 x25 w fun x26 w =>
    sBin Tryd.prog .lss 3 false true x26 (.int .i64 0) w fun x27 w =>
    sIf x27 (
      sCall Tryd.prog 24 [] w fun x33 w =>
      K x33 w) (
      sFldA Tryd.prog 58 c6 2 w fun x29 w =>
      sLoad Tryd.prog 3 x29 w fun x30 w =>
      sBin Tryd.prog .gtr 3 false true x30 (.int .i64 1099511627776) w fun x31 w =>
      sIf x31 (
        sCall Tryd.prog 24 [] w fun x33_1 w =>
        K x33_1 w) (
        sFldA Tryd.prog 58 c6 2 w fun x35 w =>
        sLoad Tryd.prog 3 x35 w fun x36 w =>
        sBin Tryd.prog .add 3 false false n3 x36 w fun x37 w =>
        DrawS w fun C w =>
        stillS C w (fun w k => sIdxA Tryd.prog 60 x12 x20 w k) fun x40 =>
        stillS C w (fun w k => sLoad Tryd.prog 4 x40 w k) fun x41 =>
        sCall Tryd.prog 32 [l0, x20] w fun x44 w => C w ∧
        stillS C w (fun w k => sBin Tryd.prog .neq 4 false false x41 x44 w k) fun x45 =>
        sIf x45 (
          K (.bool false) w) (
          stillS C w (fun w k => sLoad Tryd.prog 58 c6 w k) fun x47 =>
          stillS C w (fun w k => sFldA Tryd.prog 58 c6 0 w k) fun x49 =>
          stillS C w (fun w k => sLoad Tryd.prog 21 x49 w k) fun x50 =>
          stillS C w (fun w k => sBin Tryd.prog .eql 21 false true x50 (.int .i32 32) w k) fun x51 =>
          sCall Tryd.prog 33 [x47] w fun x48 w => C w ∧
          sIf x51 (
            stillS C w (fun w k => sBin Tryd.prog .neq 4 false false x48 (.bool true) w k) fun x57 =>
            sIf x57 (
              K (.bool false) w) (
              sBin Tryd.prog .add 3 false true x20 (.int .i64 1) w fun x59 w =>
              Nx1 [x37, x59] w)) (
            stillS C w (fun w k => sFldA Tryd.prog 58 c6 0 w k) fun x53 =>
            stillS C w (fun w k => sLoad Tryd.prog 21 x53 w k) fun x54 =>
            stillS C w (fun w k => sBin Tryd.prog .eql 21 false true x54 (.int .i32 9) w k) fun x55 =>
            stillS C w (fun w k => sBin Tryd.prog .neq 4 false false x48 x55 w k) fun x57_1 =>
            sIf x57_1 (
              K (.bool false) w) (
              sBin Tryd.prog .add 3 false true x20 (.int .i64 1) w fun x59_1 w =>
              Nx1 [x37, x59_1] w)))))) (
    sCall Tryd.prog 30 [l0] w fun x61 w =>
    sBin Tryd.prog .eql 3 false false x61 n3 w fun x63 w =>
    sIf x63 (
      sCall Tryd.prog 24 [] w fun x65 w =>
      K x65 w) (
      K (.bool false) w))

def bodkinlaw18_CellsStops (K : K1) (l0 : Value) (w : World) : Prop :=
  sBuiltin Tryd.prog .len [46] 3 [l0] w fun x8 w =>
  sBin Tryd.prog .gtr 3 false true x8 (.int .i64 300) w fun x9 w =>
  sIf x9 (
    sCall Tryd.prog 24 [] w fun x10 w =>
    K x10 w) (
    sCall Tryd.prog 31 [l0] w fun x12 w =>
    sBuiltin Tryd.prog .len [60] 3 [x12] w fun x14 w =>
    sBuiltin Tryd.prog .len [46] 3 [l0] w fun x16 w =>
    sBin Tryd.prog .neq 3 false false x14 x16 w fun x17 w =>
    sIf x17 (
      K (.bool false) w) (
      sBuiltin Tryd.prog .len [46] 3 [l0] w fun x19 w =>
      LoopS [(.int .i64 0), (.int .i64 0)] 2 42 w fun us _ w Nx1 =>
        bodkinlaw18_CellsStops_L1 K Nx1 l0 x12 x19 (hd us) (hd (tl us)) w))

def bodkinlaw18_CellsStops.sc : SC := (.seq (.reg (.op 0 .done)) (.seq (.seq (.reg (.op 0 (.op 1 (.op 2 .done)))) (.cond (.seq (.reg (.op 0 (.op 1 .done))) .nop) .nop)) (.seq (.reg (.op 0 .done)) (.seq (.reg (.op 0 (.op 1 (.op 2 .done)))) (.seq (.seq (.reg (.op 0 (.op 1 (.op 2 (.op 3 (.op 4 .done)))))) (.cond (.seq (.reg (.op 0 .done)) .nop) .nop)) (.seq (.seq (.reg (.op 0 (.op 1 (.op 2 .done)))) (.sub (.loop [3, 20] [21, 22, 23, 24, 6, 5, 25, 26, 27, 28, 29, 30, 31, 32, 33, 2, 34, 35, 36, 37, 38, 39, 40, 41, 42, 43, 44, 45, 46, 47, 48, 49, 50, 51, 52, 53, 54, 55, 56, 57, 58, 59] (.seq (.reg (.op 0 .done)) (.seq (.cond .nop .nop) (.seq (.sub (.seq (.reg (.op 0 (.op 1 (.op 2 (.op 3 (.op 4 (.op 5 .done))))))) (.seq (.seq (.reg (.op 0 (.op 1 (.op 2 (.op 3 (.test 3 (.skip 4 (.skip 5 (.skip 6 (.op 7 .done)))) (.op 4 (.op 5 (.op 6 (.op 7 .done)))))))))) (.cond (.seq (.reg (.op 0 (.op 1 .done))) .nop) .nop)) (.seq (.reg (.op 0 (.op 1 (.op 2 (.op 3 (.op 4 .done)))))) (.seq (.draw (.op 0 (.op 1 (.op 2 (.op 3 (.op 4 (.op 5 (.op 6 (.op 7 (.op 8 (.test 8 (.skip 9 (.skip 10 (.skip 11 (.skip 12 (.skip 13 (.skip 14 (.skip 15 (.skip 16 (.skip 17 (.skip 18 (.skip 19 (.op 20 .done)))))))))))) (.op 9 (.op 11 (.op 12 (.op 13 (.op 10 (.op 14 (.test 14 (.skip 15 (.skip 16 (.skip 17 (.op 18 (.op 19 (.op 20 .done)))))) (.op 15 (.op 16 (.op 17 (.op 18 (.op 19 (.op 20 .done)))))))))))))))))))))))) (.cond (.seq (.reg (.op 0 .done)) .nop) .nop)))))) (.reg (.op 0 (.op 1 .done))))))))) (.seq (.reg (.op 0 (.op 1 (.op 2 (.op 3 (.op 4 (.test 4 (.op 5 (.op 6 (.op 7 .done))) (.skip 5 (.op 6 (.op 7 .done)))))))))) .nop)))))))

theorem bodkinlaw18_CellsStops.ok : okC Tryd.f12.ntmps bodkinlaw18_CellsStops.sc (bodyOf Tryd.f12) = true := by kernel_rfl

theorem bodkinlaw18_CellsStops.eq {K : K1} {l0 : Value} {w : World} : bodkinlaw18_CellsStops K l0 w = codeS Tryd.prog bodkinlaw18_CellsStops.sc (bodyOf Tryd.f12) (argsF 0 [l0]) w (retQ Tryd.prog Tryd.f12.results.toList K) := by kernel_rfl

theorem bodkinlaw18_CellsStops.call {K : K1} {l0 : Value} {w : World} (h : bodkinlaw18_CellsStops K l0 w) : sCall Tryd.prog 12 [l0] w K := sCall_code mixed Tryd.func12 (by kernel_rfl) rfl rfl bodkinlaw18_CellsStops.ok bodkinlaw18_CellsStops.eq h

abbrev bodkinlaw18_CellsStops.n : Nat := 12

/-- 'bodkin bodkinlaw17.tab' -/
def bodkinlaw17_tab (K : K1) (w : World) : Prop :=
  sCall Tryd.prog 15 [] w fun x7 w =>
  sBuildSlice Tryd.prog 22 3 [(0, (.int .i32 97)), (1, (.int .i32 9)), (2, (.int .i32 98))] w fun x8 w =>
  sCall Tryd.prog 14 [x7, x8, (.int .i64 4)] w fun x9 w =>
  sExtract x9 0 w fun x10 w =>
  sExtract x9 1 w fun x11 w =>
  sCall Tryd.prog 15 [] w fun x13 w =>
  sBuildSlice Tryd.prog 22 3 [(0, (.int .i32 97)), (1, (.int .i32 9)), (2, (.int .i32 98))] w fun x14 w =>
  sBuild Tryd.prog 38 [(0, (.int .i64 4)), (1, (.int .i64 2))] w fun x15 w =>
  sCall Tryd.prog 21 [x13, x14, x15] w fun x16 w =>
  sExtract x16 0 w fun x17 w =>
  sExtract x16 1 w fun x18 w =>
  sExtract x16 2 w fun x19 w =>
  sBin Tryd.prog .eql 25 false true x11 (.int .i64 0) w fun x21 w =>
  sIf x21 (
    sBin Tryd.prog .eql 25 false true x19 (.int .i64 0) w fun x24 w =>
    sIf x24 (
      sBuildSlice Tryd.prog 24 3 [(0, (.int .i64 1)), (1, (.int .i64 3)), (2, (.int .i64 1))] w fun x28 w =>
      sCall Tryd.prog 17 [x10, x28] w fun x29 w =>
      sIf x29 (
        sBin Tryd.prog .eql 3 false true x17 (.int .i64 1) w fun x33 w =>
        sIf x33 (
          sBin Tryd.prog .eql 3 false true x18 (.int .i64 1) w fun x37 w =>
          K x37 w) (
          K (.bool false) w)) (
        K (.bool false) w)) (
      K (.bool false) w)) (
    K (.bool false) w)

def bodkinlaw17_tab.sc : SC := (.seq (.reg (.op 0 .done)) (.seq (.reg (.op 0 (.op 1 (.op 2 (.op 3 (.op 4 (.op 5 (.op 6 (.op 7 .done))))))))) (.seq (.reg (.op 0 (.op 1 (.op 2 (.op 3 (.op 4 (.op 5 (.op 6 (.op 7 (.op 8 (.op 9 (.op 10 .done)))))))))))) (.seq (.reg (.op 0 (.op 1 (.op 2 (.test 2 (.op 3 (.op 4 (.op 5 (.op 6 (.test 6 (.op 7 (.op 8 (.op 9 (.op 10 (.op 11 (.test 11 (.op 12 (.op 13 (.op 14 (.op 15 (.test 15 (.op 16 (.op 17 (.op 18 (.op 19 .done)))) (.skip 16 (.skip 17 (.op 18 (.op 19 .done))))))))) (.skip 12 (.skip 13 (.op 14 (.op 15 (.know 15 false (.skip 16 (.skip 17 (.op 18 (.op 19 .done))))))))))))))) (.skip 7 (.skip 8 (.skip 9 (.op 10 (.op 11 (.know 11 false (.skip 12 (.skip 13 (.op 14 (.op 15 (.know 15 false (.skip 16 (.skip 17 (.op 18 (.op 19 .done)))))))))))))))))))) (.skip 3 (.skip 4 (.op 5 (.op 6 (.know 6 false (.skip 7 (.skip 8 (.skip 9 (.op 10 (.op 11 (.know 11 false (.skip 12 (.skip 13 (.op 14 (.op 15 (.know 15 false (.skip 16 (.skip 17 (.op 18 (.op 19 .done))))))))))))))))))))))))) .nop))))

theorem bodkinlaw17_tab.ok : okC Tryd.f13.ntmps bodkinlaw17_tab.sc (bodyOf Tryd.f13) = true := by kernel_rfl

theorem bodkinlaw17_tab.eq {K : K1} {w : World} : bodkinlaw17_tab K  w = codeS Tryd.prog bodkinlaw17_tab.sc (bodyOf Tryd.f13) (argsF 0 []) w (retQ Tryd.prog Tryd.f13.results.toList K) := by kernel_rfl

theorem bodkinlaw17_tab.call {K : K1} {w : World} (h : bodkinlaw17_tab K  w) : sCall Tryd.prog 13 [] w K := sCall_code mixed Tryd.func13 (by kernel_rfl) rfl rfl bodkinlaw17_tab.ok bodkinlaw17_tab.eq h

abbrev bodkinlaw17_tab.n : Nat := 13

/-- 'bodkin stops.Sizes' -/
def stops_Sizes (K : K1) (t0 line1 tab2 : Value) (w : World) : Prop :=
  sBox Tryd.prog 22 line1 w fun line4 w =>
  sCall Tryd.prog 34 [tab2] w fun x10 w =>
  sUn Tryd.prog .not x10 w fun x11 w =>
  sIf x11 (
    K (.tuple #[(.slice none 0 0), (.int .i64 1)]) w) (
    sAlloc Tryd.prog 24 w fun out8 w =>
    sLoad Tryd.prog 22 line4 w fun x13 w =>
    sFunc Tryd.prog (.func 36) [] [line4, out8] w fun x15 w =>
    sCall Tryd.prog 35 [t0, x13, tab2, x15] w fun x16 w =>
    sLoad Tryd.prog 24 out8 w fun x17 w =>
    K (.tuple #[x17, (.int .i64 0)]) w)

def stops_Sizes.sc : SC := (.seq (.reg (.op 0 (.op 1 (.op 2 .done)))) (.seq (.seq (.reg (.op 0 (.op 1 (.op 2 .done)))) (.cond (.seq (.reg (.op 0 (.op 1 .done))) .nop) .nop)) (.seq (.reg (.op 0 .done)) (.seq (.reg (.op 0 (.op 1 (.op 2 (.op 3 (.op 4 .done)))))) (.seq (.reg (.op 0 (.op 1 (.op 2 .done)))) .nop)))))

theorem stops_Sizes.ok : okC Tryd.f14.ntmps stops_Sizes.sc (bodyOf Tryd.f14) = true := by kernel_rfl

theorem stops_Sizes.eq {K : K1} {t0 line1 tab2 : Value} {w : World} : stops_Sizes K t0 line1 tab2 w = codeS Tryd.prog stops_Sizes.sc (bodyOf Tryd.f14) (argsF 0 [t0, line1, tab2]) w (retQ Tryd.prog Tryd.f14.results.toList K) := by kernel_rfl

theorem stops_Sizes.call {K : K1} {t0 line1 tab2 : Value} {w : World} (h : stops_Sizes K t0 line1 tab2 w) : sCall Tryd.prog 14 [t0, line1, tab2] w K := sCall_code mixed Tryd.func14 (by kernel_rfl) rfl rfl stops_Sizes.ok stops_Sizes.eq h

abbrev stops_Sizes.n : Nat := 14

/-- 'bodkin width.Plain' -/
def width_Plain_L2 (K : K1) (Nx2 : List Value → World → Prop) (t1 x17 : Value) (x18 : Value) (w : World) : Prop :=
  sBin Tryd.prog .lss 3 false true x18 (.int .i64 8) w fun x19 w =>
  sIf x19 (
    sIdx Tryd.prog 73 x17 x18 w fun x20 w =>
    sAlloc Tryd.prog 71 w fun r5 w =>
    sStore Tryd.prog 71 r5 x20 w fun w =>
    sFldA Tryd.prog 69 t1 1 w fun x21 w =>
    sLoad Tryd.prog 67 x21 w fun x22 w =>
    sLoad Tryd.prog 71 r5 w fun x23 w =>
    sBuildSlice Tryd.prog 67 1 [(0, x23)] w fun x24 w =>
    sBuiltin Tryd.prog .append [67, 67] 67 [x22, x24] w fun x25 w =>
    sFldA Tryd.prog 69 t1 1 w fun x26 w =>
    sStore Tryd.prog 67 x26 x25 w fun w =>
    sBin Tryd.prog .add 3 false true x18 (.int .i64 1) w fun x27 w =>
    Nx2 [x27] w) (
    K t1 w)

def width_Plain_L1 (K : K1) (Nx1 : List Value → World → Prop) (t1 x6 : Value) (x7 : Value) (w : World) : Prop :=
  sBin Tryd.prog .lss 3 false true x7 (.int .i64 3) w fun x8 w =>
  sIf x8 (
    sIdx Tryd.prog 72 x6 x7 w fun x9 w =>
    sAlloc Tryd.prog 71 w fun r3 w =>
    sStore Tryd.prog 71 r3 x9 w fun w =>
    sFldA Tryd.prog 69 t1 0 w fun x10 w =>
    sLoad Tryd.prog 67 x10 w fun x11 w =>
    sLoad Tryd.prog 71 r3 w fun x12 w =>
    sBuildSlice Tryd.prog 67 1 [(0, x12)] w fun x13 w =>
    sBuiltin Tryd.prog .append [67, 67] 67 [x11, x13] w fun x14 w =>
    sFldA Tryd.prog 69 t1 0 w fun x15 w =>
    sStore Tryd.prog 67 x15 x14 w fun w =>
    sBin Tryd.prog .add 3 false true x7 (.int .i64 1) w fun x16 w =>
    Nx1 [x16] w) (
    sLoad Tryd.prog 73 (.pointer (some ⟨1, 0, none⟩)) w fun x17 w =>
    LoopS [(.int .i64 0)] 1 10 w fun us _ w Nx2 =>
      width_Plain_L2 K Nx2 t1 x17 (hd us) w)

def width_Plain (K : K1) (w : World) : Prop :=
  sAlloc Tryd.prog 69 w fun t1 w =>
  sLoad Tryd.prog 72 (.pointer (some ⟨0, 0, none⟩)) w fun x6 w =>
  LoopS [(.int .i64 0)] 1 10 w fun us _ w Nx1 =>
    width_Plain_L1 K Nx1 t1 x6 (hd us) w

def width_Plain.sc : SC := (.seq (.reg (.op 0 .done)) (.seq (.reg (.op 0 .done)) (.seq (.seq (.reg (.op 0 (.op 1 .done))) (.sub (.loop [7] [8, 9, 3, 10, 11, 12, 13, 14, 15, 16] (.seq (.reg (.op 0 .done)) (.seq (.cond .nop .nop) (.seq (.sub (.seq (.reg (.op 0 (.op 1 (.op 2 .done)))) (.reg (.op 0 (.op 1 (.op 2 (.op 3 (.op 4 (.op 5 (.op 6 .done)))))))))) (.reg (.op 0 (.op 1 .done))))))))) (.seq (.seq (.reg (.op 0 (.op 1 .done))) (.sub (.loop [18] [19, 20, 5, 21, 22, 23, 24, 25, 26, 27] (.seq (.reg (.op 0 .done)) (.seq (.cond .nop .nop) (.seq (.sub (.seq (.reg (.op 0 (.op 1 (.op 2 .done)))) (.reg (.op 0 (.op 1 (.op 2 (.op 3 (.op 4 (.op 5 (.op 6 .done)))))))))) (.reg (.op 0 (.op 1 .done))))))))) (.seq (.reg (.op 0 .done)) .nop)))))

theorem width_Plain.ok : okC Tryd.f15.ntmps width_Plain.sc (bodyOf Tryd.f15) = true := by kernel_rfl

theorem width_Plain.eq {K : K1} {w : World} : width_Plain K  w = codeS Tryd.prog width_Plain.sc (bodyOf Tryd.f15) (argsF 0 []) w (retQ Tryd.prog Tryd.f15.results.toList K) := by kernel_rfl

theorem width_Plain.call {K : K1} {w : World} (h : width_Plain K  w) : sCall Tryd.prog 15 [] w K := sCall_code mixed Tryd.func15 (by kernel_rfl) rfl rfl width_Plain.ok width_Plain.eq h

abbrev width_Plain.n : Nat := 15

/-- 'bodkin bodkinref17.Right' -/
def bodkinref17_Right (K : K1) (tab0 : Value) (w : World) : Prop :=
  sBin Tryd.prog .geq 3 false true tab0 (.int .i64 1) w fun x4 w =>
  sIf x4 (
    sBin Tryd.prog .leq 3 false true tab0 (.int .i64 16) w fun x7 w =>
    K x7 w) (
    K (.bool false) w)

def bodkinref17_Right.sc : SC := (.seq (.reg (.op 0 .done)) (.seq (.reg (.op 0 (.op 1 (.op 2 (.test 2 (.op 3 (.op 4 (.op 5 (.op 6 .done)))) (.skip 3 (.skip 4 (.op 5 (.op 6 .done))))))))) .nop))

theorem bodkinref17_Right.ok : okC Tryd.f16.ntmps bodkinref17_Right.sc (bodyOf Tryd.f16) = true := by kernel_rfl

theorem bodkinref17_Right.eq {K : K1} {tab0 : Value} {w : World} : bodkinref17_Right K tab0 w = codeS Tryd.prog bodkinref17_Right.sc (bodyOf Tryd.f16) (argsF 0 [tab0]) w (retQ Tryd.prog Tryd.f16.results.toList K) := by kernel_rfl

theorem bodkinref17_Right.call {K : K1} {tab0 : Value} {w : World} (h : bodkinref17_Right K tab0 w) : sCall Tryd.prog 16 [tab0] w K := sCall_code mixed Tryd.func16 (by kernel_rfl) rfl rfl bodkinref17_Right.ok bodkinref17_Right.eq h

abbrev bodkinref17_Right.n : Nat := 16

/-- 'bodkin bodkinplain.Ints' -/
def bodkinplain_Ints_L1 (K : K1) (Nx1 : List Value → World → Prop) (a0 b1 x7 : Value) (x8 : Value) (w : World) : Prop :=
  sBin Tryd.prog .lss 3 false false x8 x7 w fun x9 w =>
  sIf x9 (
    DrawS w fun C w =>
    stillS C w (fun w k => sBuiltin Tryd.prog .len [24] 3 [b1] w k) fun x13 =>
    stillS C w (fun w k => sBin Tryd.prog .geq 3 false false x8 x13 w k) fun x14 =>
    sIf x14 (
      K (.bool false) w) (
      stillS C w (fun w k => sIdxA Tryd.prog 24 a0 x8 w k) fun x18 =>
      stillS C w (fun w k => sLoad Tryd.prog 3 x18 w k) fun x19 =>
      stillS C w (fun w k => sIdxA Tryd.prog 24 b1 x8 w k) fun x22 =>
      stillS C w (fun w k => sLoad Tryd.prog 3 x22 w k) fun x23 =>
      stillS C w (fun w k => sBin Tryd.prog .neq 3 false false x19 x23 w k) fun x24 =>
      sIf x24 (
        K (.bool false) w) (
        sBin Tryd.prog .add 3 false true x8 (.int .i64 1) w fun x26 w =>
        Nx1 [x26] w))) (
    sBuiltin Tryd.prog .len [24] 3 [a0] w fun x28 w =>
    sBuiltin Tryd.prog .len [24] 3 [b1] w fun x30 w =>
    sBin Tryd.prog .eql 3 false false x28 x30 w fun x31 w =>
    K x31 w)

def bodkinplain_Ints (K : K1) (a0 b1 : Value) (w : World) : Prop :=
  sBuiltin Tryd.prog .len [24] 3 [a0] w fun x7 w =>
  LoopS [(.int .i64 0)] 1 20 w fun us _ w Nx1 =>
    bodkinplain_Ints_L1 K Nx1 a0 b1 x7 (hd us) w

def bodkinplain_Ints.sc : SC := (.seq (.reg (.op 0 .done)) (.seq (.seq (.reg (.op 0 (.op 1 (.op 2 .done)))) (.sub (.loop [8] [9, 10, 5, 11, 12, 13, 14, 15, 16, 17, 18, 19, 20, 21, 22, 23, 24, 25, 4, 26] (.seq (.reg (.op 0 .done)) (.seq (.cond .nop .nop) (.seq (.sub (.seq (.reg (.op 0 (.op 1 .done))) (.seq (.draw (.op 0 (.op 1 (.op 2 (.op 3 (.op 4 (.test 4 (.skip 5 (.skip 6 (.skip 7 (.skip 8 (.skip 9 (.skip 10 (.skip 11 (.skip 12 (.skip 13 (.op 14 .done)))))))))) (.op 5 (.op 6 (.op 7 (.op 8 (.op 9 (.op 10 (.op 11 (.op 12 (.op 13 (.op 14 .done))))))))))))))))) (.cond (.seq (.reg (.op 0 .done)) .nop) .nop)))) (.reg (.op 0 (.op 1 .done))))))))) (.seq (.reg (.op 0 (.op 1 (.op 2 (.op 3 (.op 4 (.op 5 .done))))))) .nop)))

theorem bodkinplain_Ints.ok : okC Tryd.f17.ntmps bodkinplain_Ints.sc (bodyOf Tryd.f17) = true := by kernel_rfl

theorem bodkinplain_Ints.eq {K : K1} {a0 b1 : Value} {w : World} : bodkinplain_Ints K a0 b1 w = codeS Tryd.prog bodkinplain_Ints.sc (bodyOf Tryd.f17) (argsF 0 [a0, b1]) w (retQ Tryd.prog Tryd.f17.results.toList K) := by kernel_rfl

theorem bodkinplain_Ints.call {K : K1} {a0 b1 : Value} {w : World} (h : bodkinplain_Ints K a0 b1 w) : sCall Tryd.prog 17 [a0, b1] w K := sCall_code mixed Tryd.func17 (by kernel_rfl) rfl rfl bodkinplain_Ints.ok bodkinplain_Ints.eq h

abbrev bodkinplain_Ints.n : Nat := 17

/-- 'bodkin bodkinref17.Sizes' -/
def bodkinref17_Sizes_L3 (M2 : List Value → World → Prop) (Nx3 : List Value → World → Prop) (at8 tab2 : Value) (n11 : Value) (w : World) : Prop :=
  sBin Tryd.prog .lss 3 false true at8 (.int .i64 64) w fun x24 w =>
  sIf x24 (
    sBin Tryd.prog .add 3 false false at8 n11 w fun x28 w =>
    sBin Tryd.prog .rem 3 false false x28 tab2 w fun x30 w =>
    sBin Tryd.prog .neq 3 false true x30 (.int .i64 0) w fun x31 w =>
    sIf x31 (
      sBin Tryd.prog .add 3 false true n11 (.int .i64 1) w fun x34 w =>
      Nx3 [x34] w) (
      M2 [n11] w)) (
    M2 [n11] w)

def bodkinref17_Sizes_J2 (Nx1 : List Value → World → Prop) (at8 out7 x14 : Value) (n11_1 : Value) (w : World) : Prop :=
  sBuildSlice Tryd.prog 24 1 [(0, n11_1)] w fun x37 w =>
  sBuiltin Tryd.prog .append [24, 24] 24 [out7, x37] w fun x38 w =>
  sBin Tryd.prog .add 3 false false at8 n11_1 w fun x41 w =>
  sBin Tryd.prog .add 3 false true x14 (.int .i64 1) w fun x42 w =>
  Nx1 [x38, x41, x42] w

def bodkinref17_Sizes_L1 (K : K1) (Nx1 : List Value → World → Prop) (line1 t0 tab2 x13 : Value) (out7 at8 x14 : Value) (w : World) : Prop :=
  sBin Tryd.prog .lss 3 false false x14 x13 w fun x15 w =>
  sIf x15 (
    sIdxA Tryd.prog 22 line1 x14 w fun x16 w =>
    sLoad Tryd.prog 21 x16 w fun x17 w =>
    sCall Tryd.prog 37 [t0, x17] w fun x20 w =>
    JoinS 1 14 (fun M2 =>
      sBin Tryd.prog .eql 21 false true x17 (.int .i32 9) w fun x22 w =>
      sIf x22 (
        LoopS [(.int .i64 1)] 1 12 w fun us _ w Nx3 =>
          bodkinref17_Sizes_L3 M2 Nx3 at8 tab2 (hd us) w) (
        M2 [x20] w)) fun us _ w =>
      bodkinref17_Sizes_J2 Nx1 at8 out7 x14 (hd us) w) (
    K out7 w)

def bodkinref17_Sizes (K : K1) (t0 line1 tab2 : Value) (w : World) : Prop :=
  sBuiltin Tryd.prog .len [22] 3 [line1] w fun x13 w =>
  LoopS [(.slice none 0 0), (.int .i64 0), (.int .i64 0)] 3 30 w fun us _ w Nx1 =>
    bodkinref17_Sizes_L1 K Nx1 line1 t0 tab2 x13 (hd us) (hd (tl us)) (hd (tl (tl us))) w

def bodkinref17_Sizes.sc : SC := (.seq (.reg (.op 0 .done)) (.seq (.reg (.op 0 .done)) (.seq (.reg (.op 0 .done)) (.seq (.seq (.reg (.op 0 (.op 1 (.op 2 .done)))) (.sub (.loop [7, 8, 14] [15, 16, 17, 10, 18, 19, 20, 11, 21, 22, 23, 24, 25, 26, 27, 28, 29, 30, 31, 32, 33, 34, 35, 36, 37, 38, 39, 40, 41, 42] (.seq (.reg (.op 0 .done)) (.seq (.cond .nop .nop) (.seq (.sub (.seq (.reg (.op 0 (.op 1 (.op 2 .done)))) (.seq (.reg (.op 0 (.op 1 (.op 2 (.op 3 .done))))) (.join [11] [21, 22, 23, 24, 25, 26, 27, 28, 29, 30, 31, 32, 33, 34] (.seq (.reg (.op 0 (.op 1 .done))) (.cond (.seq (.reg (.op 0 .done)) (.sub (.loop [11] [23, 24, 25, 26, 27, 28, 29, 30, 31, 32, 33, 34] (.seq (.seq (.reg (.op 0 (.op 1 (.op 2 (.test 2 (.op 3 (.op 4 (.op 5 (.op 6 (.op 7 (.op 8 (.op 9 .done))))))) (.skip 3 (.skip 4 (.skip 5 (.skip 6 (.skip 7 (.skip 8 (.op 9 .done)))))))))))) (.cond .nop .nop)) (.sub (.reg (.op 0 (.op 1 (.op 2 .done))))))))) .nop)) (.seq (.reg (.op 0 (.op 1 (.op 2 (.op 3 (.op 4 .done)))))) (.reg (.op 0 (.op 1 (.op 2 (.op 3 .done)))))))))) (.reg (.op 0 (.op 1 .done))))))))) (.seq (.reg (.op 0 (.op 1 .done))) .nop)))))

theorem bodkinref17_Sizes.ok : okC Tryd.f18.ntmps bodkinref17_Sizes.sc (bodyOf Tryd.f18) = true := by kernel_rfl

theorem bodkinref17_Sizes.eq {K : K1} {t0 line1 tab2 : Value} {w : World} : bodkinref17_Sizes K t0 line1 tab2 w = codeS Tryd.prog bodkinref17_Sizes.sc (bodyOf Tryd.f18) (argsF 0 [t0, line1, tab2]) w (retQ Tryd.prog Tryd.f18.results.toList K) := by kernel_rfl

theorem bodkinref17_Sizes.call {K : K1} {t0 line1 tab2 : Value} {w : World} (h : bodkinref17_Sizes K t0 line1 tab2 w) : sCall Tryd.prog 18 [t0, line1, tab2] w K := sCall_code mixed Tryd.func18 (by kernel_rfl) rfl rfl bodkinref17_Sizes.ok bodkinref17_Sizes.eq h

abbrev bodkinref17_Sizes.n : Nat := 18

/-- 'bodkin bodkinref02.Plain' -/
def bodkinref02_Plain (K : K1) (w : World) : Prop :=
  sBuild Tryd.prog 75 [(0, (.int .i32 768)), (1, (.int .i32 879))] w fun x1 w =>
  sBuild Tryd.prog 75 [(0, (.int .i32 8203)), (1, (.int .i32 8207))] w fun x2 w =>
  sBuild Tryd.prog 75 [(0, (.int .i32 65024)), (1, (.int .i32 65039))] w fun x3 w =>
  sBuildSlice Tryd.prog 76 3 [(0, x1), (1, x2), (2, x3)] w fun x4 w =>
  sBuild Tryd.prog 75 [(0, (.int .i32 4352)), (1, (.int .i32 4447))] w fun x5 w =>
  sBuild Tryd.prog 75 [(0, (.int .i32 11904)), (1, (.int .i32 12350))] w fun x6 w =>
  sBuild Tryd.prog 75 [(0, (.int .i32 12353)), (1, (.int .i32 19903))] w fun x7 w =>
  sBuild Tryd.prog 75 [(0, (.int .i32 19968)), (1, (.int .i32 40959))] w fun x8 w =>
  sBuild Tryd.prog 75 [(0, (.int .i32 44032)), (1, (.int .i32 55203))] w fun x9 w =>
  sBuild Tryd.prog 75 [(0, (.int .i32 63744)), (1, (.int .i32 64255))] w fun x10 w =>
  sBuild Tryd.prog 75 [(0, (.int .i32 65280)), (1, (.int .i32 65376))] w fun x11 w =>
  sBuild Tryd.prog 75 [(0, (.int .i32 127744)), (1, (.int .i32 128591))] w fun x12 w =>
  sBuildSlice Tryd.prog 76 8 [(0, x5), (1, x6), (2, x7), (3, x8), (4, x9), (5, x10), (6, x11), (7, x12)] w fun x13 w =>
  sBuild Tryd.prog 78 [(0, x4), (1, x13)] w fun x14 w =>
  sBox Tryd.prog 78 x14 w fun x15 w =>
  K x15 w

def bodkinref02_Plain.sc : SC := (.seq (.reg (.op 0 .done)) (.seq (.reg (.op 0 (.op 1 (.op 2 (.op 3 (.op 4 (.op 5 (.op 6 (.op 7 (.op 8 (.op 9 (.op 10 (.op 11 (.op 12 (.op 13 (.op 14 (.op 15 .done))))))))))))))))) .nop))

theorem bodkinref02_Plain.ok : okC Tryd.f19.ntmps bodkinref02_Plain.sc (bodyOf Tryd.f19) = true := by kernel_rfl

theorem bodkinref02_Plain.eq {K : K1} {w : World} : bodkinref02_Plain K  w = codeS Tryd.prog bodkinref02_Plain.sc (bodyOf Tryd.f19) (argsF 0 []) w (retQ Tryd.prog Tryd.f19.results.toList K) := by kernel_rfl

theorem bodkinref02_Plain.call {K : K1} {w : World} (h : bodkinref02_Plain K  w) : sCall Tryd.prog 19 [] w K := sCall_code mixed Tryd.func19 (by kernel_rfl) rfl rfl bodkinref02_Plain.ok bodkinref02_Plain.eq h

abbrev bodkinref02_Plain.n : Nat := 19

/-- 'bodkin stops.Cell' -/
def stops_Cell (K : K1) (t0 line1 q2 : Value) (w : World) : Prop :=
  sBox Tryd.prog 38 q2 w fun q5 w =>
  sFldA Tryd.prog 38 q5 0 w fun x9 w =>
  sLoad Tryd.prog 3 x9 w fun x10 w =>
  sCall Tryd.prog 34 [x10] w fun x11 w =>
  sUn Tryd.prog .not x11 w fun x12 w =>
  sIf x12 (
    K (.tuple #[(.int .i64 0), (.int .i64 1)]) w) (
    sFldA Tryd.prog 38 q5 1 w fun x14 w =>
    sLoad Tryd.prog 3 x14 w fun x15 w =>
    sBin Tryd.prog .lss 3 false true x15 (.int .i64 0) w fun x16 w =>
    sIf x16 (
      K (.tuple #[(.int .i64 0), (.int .i64 1)]) w) (
      sFldA Tryd.prog 38 q5 1 w fun x19 w =>
      sLoad Tryd.prog 3 x19 w fun x20 w =>
      sBuiltin Tryd.prog .len [22] 3 [line1] w fun x22 w =>
      sBin Tryd.prog .gtr 3 false false x20 x22 w fun x23 w =>
      sIf x23 (
        K (.tuple #[(.int .i64 0), (.int .i64 1)]) w) (
        sAlloc Tryd.prog 3 w fun cell8 w =>
        sStore Tryd.prog 3 cell8 (.int .i64 0) w fun w =>
        sFldA Tryd.prog 38 q5 0 w fun x27 w =>
        sLoad Tryd.prog 3 x27 w fun x28 w =>
        sFunc Tryd.prog (.func 38) [] [cell8, q5] w fun x29 w =>
        sCall Tryd.prog 35 [t0, line1, x28, x29] w fun x30 w =>
        sLoad Tryd.prog 3 cell8 w fun x31 w =>
        K (.tuple #[x31, (.int .i64 0)]) w)))

def stops_Cell.sc : SC := (.seq (.reg (.op 0 (.op 1 (.op 2 .done)))) (.seq (.seq (.reg (.op 0 (.op 1 (.op 2 (.op 3 (.op 4 (.test 4 (.skip 5 (.skip 6 (.skip 7 (.op 8 (.op 9 (.know 9 true (.skip 10 (.skip 11 (.skip 12 (.skip 13 (.skip 14 (.op 15 .done)))))))))))) (.op 5 (.op 6 (.op 7 (.op 8 (.op 9 (.test 9 (.skip 10 (.skip 11 (.skip 12 (.skip 13 (.skip 14 (.op 15 .done)))))) (.op 10 (.op 11 (.op 12 (.op 13 (.op 14 (.op 15 .done))))))))))))))))))) (.cond (.seq (.reg (.op 0 (.op 1 .done))) .nop) .nop)) (.seq (.reg (.op 0 (.op 1 .done))) (.seq (.reg (.op 0 (.op 1 (.op 2 (.op 3 (.op 4 (.op 5 .done))))))) (.seq (.reg (.op 0 (.op 1 (.op 2 .done)))) .nop)))))

theorem stops_Cell.ok : okC Tryd.f20.ntmps stops_Cell.sc (bodyOf Tryd.f20) = true := by kernel_rfl

theorem stops_Cell.eq {K : K1} {t0 line1 q2 : Value} {w : World} : stops_Cell K t0 line1 q2 w = codeS Tryd.prog stops_Cell.sc (bodyOf Tryd.f20) (argsF 0 [t0, line1, q2]) w (retQ Tryd.prog Tryd.f20.results.toList K) := by kernel_rfl

theorem stops_Cell.call {K : K1} {t0 line1 q2 : Value} {w : World} (h : stops_Cell K t0 line1 q2 w) : sCall Tryd.prog 20 [t0, line1, q2] w K := sCall_code mixed Tryd.func20 (by kernel_rfl) rfl rfl stops_Cell.ok stops_Cell.eq h

abbrev stops_Cell.n : Nat := 20

/-- 'bodkin stops.Place' -/
def stops_Place_J1 (K : K1) (line1 q5 t0 : Value) (x20 : Value) (w : World) : Prop :=
  sIf x20 (
    K (.tuple #[(.int .i64 0), (.int .i64 0), (.int .i64 1)]) w) (
    sAlloc Tryd.prog 3 w fun place9 w =>
    sAlloc Tryd.prog 3 w fun more10 w =>
    sAlloc Tryd.prog 3 w fun end11 w =>
    sStore Tryd.prog 3 place9 (.int .i64 0) w fun w =>
    sStore Tryd.prog 3 more10 (.int .i64 0) w fun w =>
    sStore Tryd.prog 3 end11 (.int .i64 0) w fun w =>
    sFldA Tryd.prog 38 q5 0 w fun x23 w =>
    sLoad Tryd.prog 3 x23 w fun x24 w =>
    sFunc Tryd.prog (.func 39) [] [q5, place9, more10, end11] w fun x25 w =>
    sCall Tryd.prog 35 [t0, line1, x24, x25] w fun x26 w =>
    sFldA Tryd.prog 38 q5 1 w fun x27 w =>
    sLoad Tryd.prog 3 x27 w fun x28 w =>
    sLoad Tryd.prog 3 end11 w fun x29 w =>
    sBin Tryd.prog .gtr 3 false false x28 x29 w fun x30 w =>
    sIf x30 (
      K (.tuple #[(.int .i64 0), (.int .i64 0), (.int .i64 1)]) w) (
      DrawS w fun C w =>
      stillS C w (fun w k => sLoad Tryd.prog 3 place9 w k) fun x31 =>
      stillS C w (fun w k => sLoad Tryd.prog 3 more10 w k) fun x32 =>
      K (.tuple #[x31, x32, (.int .i64 0)]) w))

def stops_Place (K : K1) (t0 line1 q2 : Value) (w : World) : Prop :=
  sBox Tryd.prog 38 q2 w fun q5 w =>
  JoinS 1 8 (fun M1 =>
    sFldA Tryd.prog 38 q5 0 w fun x12 w =>
    sLoad Tryd.prog 3 x12 w fun x13 w =>
    sCall Tryd.prog 34 [x13] w fun x14 w =>
    sUn Tryd.prog .not x14 w fun x15 w =>
    sIf x15 (
      M1 [(.bool true)] w) (
      sFldA Tryd.prog 38 q5 1 w fun x17 w =>
      sLoad Tryd.prog 3 x17 w fun x18 w =>
      sBin Tryd.prog .lss 3 false true x18 (.int .i64 0) w fun x19 w =>
      M1 [x19] w)) fun us _ w =>
    stops_Place_J1 K line1 q5 t0 (hd us) w

def stops_Place.sc : SC := (.seq (.reg (.op 0 (.op 1 (.op 2 (.op 3 .done))))) (.seq (.join [20] [12, 13, 14, 15, 16, 17, 18, 19] (.reg (.op 0 (.op 1 (.op 2 (.op 3 (.op 4 (.test 4 (.skip 5 (.skip 6 (.skip 7 (.op 8 .done)))) (.op 5 (.op 6 (.op 7 (.op 8 .done))))))))))) (.cond (.seq (.reg (.op 0 (.op 1 (.op 2 .done)))) .nop) .nop)) (.seq (.reg (.op 0 (.op 1 (.op 2 (.op 3 (.op 4 (.op 5 .done))))))) (.seq (.reg (.op 0 (.op 1 (.op 2 (.op 3 (.op 4 (.op 5 .done))))))) (.seq (.seq (.reg (.op 0 (.op 1 (.op 2 (.op 3 .done))))) (.cond (.seq (.reg (.op 0 (.op 1 (.op 2 .done)))) .nop) .nop)) (.seq (.draw (.op 0 (.op 1 (.op 2 (.op 3 (.op 4 .done)))))) .nop))))))

theorem stops_Place.ok : okC Tryd.f21.ntmps stops_Place.sc (bodyOf Tryd.f21) = true := by kernel_rfl

theorem stops_Place.eq {K : K1} {t0 line1 q2 : Value} {w : World} : stops_Place K t0 line1 q2 w = codeS Tryd.prog stops_Place.sc (bodyOf Tryd.f21) (argsF 0 [t0, line1, q2]) w (retQ Tryd.prog Tryd.f21.results.toList K) := by kernel_rfl

theorem stops_Place.call {K : K1} {t0 line1 q2 : Value} {w : World} (h : stops_Place K t0 line1 q2 w) : sCall Tryd.prog 21 [t0, line1, q2] w K := sCall_code mixed Tryd.func21 (by kernel_rfl) rfl rfl stops_Place.ok stops_Place.eq h

abbrev stops_Place.n : Nat := 21

/-- 'bodkin bodkinref17.Cells' -/
def bodkinref17_Cells_L1 (K : K1) (Nx1 : List Value → World → Prop) (x14 x15 : Value) (out7 x16 : Value) (w : World) : Prop :=
  sBin Tryd.prog .lss 3 false false x16 x15 w fun x17 w =>
  sIf x17 (
    sIdxA Tryd.prog 24 x14 x16 w fun x19 w =>
    sLoad Tryd.prog 3 x19 w fun x20 w =>
    sIdxA Tryd.prog 24 out7 x16 w fun x24 w =>
    sLoad Tryd.prog 3 x24 w fun x25 w =>
    sBin Tryd.prog .add 3 false false x25 x20 w fun x27 w =>
    sBuildSlice Tryd.prog 24 1 [(0, x27)] w fun x28 w =>
    sBuiltin Tryd.prog .append [24, 24] 24 [out7, x28] w fun x29 w =>
    sBin Tryd.prog .add 3 false true x16 (.int .i64 1) w fun x30 w =>
    Nx1 [x29, x30] w) (
    K out7 w)

def bodkinref17_Cells (K : K1) (t0 line1 tab2 : Value) (w : World) : Prop :=
  sBuildSlice Tryd.prog 24 1 [(0, (.int .i64 0))] w fun x10 w =>
  sCall Tryd.prog 18 [t0, line1, tab2] w fun x14 w =>
  sBuiltin Tryd.prog .len [24] 3 [x14] w fun x15 w =>
  LoopS [x10, (.int .i64 0)] 2 16 w fun us _ w Nx1 =>
    bodkinref17_Cells_L1 K Nx1 x14 x15 (hd us) (hd (tl us)) w

def bodkinref17_Cells.sc : SC := (.seq (.reg (.op 0 .done)) (.seq (.reg (.op 0 (.op 1 .done))) (.seq (.seq (.reg (.op 0 (.op 1 (.op 2 (.op 3 (.op 4 (.op 5 .done))))))) (.sub (.loop [7, 16] [17, 18, 19, 20, 8, 9, 21, 22, 23, 24, 25, 26, 27, 28, 29, 30] (.seq (.reg (.op 0 .done)) (.seq (.cond .nop .nop) (.seq (.sub (.seq (.reg (.op 0 (.op 1 (.op 2 (.op 3 (.op 4 .done)))))) (.reg (.op 0 (.op 1 (.op 2 (.op 3 (.op 4 (.op 5 (.op 6 (.op 7 (.op 8 (.op 9 .done))))))))))))) (.reg (.op 0 (.op 1 .done))))))))) (.seq (.reg (.op 0 (.op 1 .done))) .nop))))

theorem bodkinref17_Cells.ok : okC Tryd.f22.ntmps bodkinref17_Cells.sc (bodyOf Tryd.f22) = true := by kernel_rfl

theorem bodkinref17_Cells.eq {K : K1} {t0 line1 tab2 : Value} {w : World} : bodkinref17_Cells K t0 line1 tab2 w = codeS Tryd.prog bodkinref17_Cells.sc (bodyOf Tryd.f22) (argsF 0 [t0, line1, tab2]) w (retQ Tryd.prog Tryd.f22.results.toList K) := by kernel_rfl

theorem bodkinref17_Cells.call {K : K1} {t0 line1 tab2 : Value} {w : World} (h : bodkinref17_Cells K t0 line1 tab2 w) : sCall Tryd.prog 22 [t0, line1, tab2] w K := sCall_code mixed Tryd.func22 (by kernel_rfl) rfl rfl bodkinref17_Cells.ok bodkinref17_Cells.eq h

abbrev bodkinref17_Cells.n : Nat := 22

/-- 'bodkin bodkinlaw18.long' -/
def bodkinlaw18_long_L1 (K : K1) (Nx1 : List Value → World → Prop) (l0 x10 : Value) (n3 x11 : Value) (w : World) : Prop :=
  sBin Tryd.prog .lss 3 false false x11 x10 w fun x12 w =>
  sIf x12 (
    sIdxA Tryd.prog 44 l0 x11 w fun x13 w =>
    sLoad Tryd.prog 56 x13 w fun x14 w =>
    sAlloc Tryd.prog 56 w fun p5 w =>
    sStore Tryd.prog 56 p5 x14 w fun w =>
    sFldA Tryd.prog 56 p5 2 w fun x15 w =>
    sLoad Tryd.prog 22 x15 w fun x16 w =>
    sBuiltin Tryd.prog .len [22] 3 [x16] w fun x17 w =>
    sBin Tryd.prog .gtr 3 false true x17 (.int .i64 300) w fun x18 w =>
    sIf x18 (
      K (.bool true) w) (
      sFldA Tryd.prog 56 p5 1 w fun x20 w =>
      sLoad Tryd.prog 3 x20 w fun x21 w =>
      sBin Tryd.prog .lss 3 false true x21 (.int .i64 0) w fun x22 w =>
      sIf x22 (
        K (.bool true) w) (
        sFldA Tryd.prog 56 p5 1 w fun x25 w =>
        sLoad Tryd.prog 3 x25 w fun x26 w =>
        sBin Tryd.prog .gtr 3 false true x26 (.int .i64 1099511627776) w fun x27 w =>
        sIf x27 (
          K (.bool true) w) (
          sFldA Tryd.prog 56 p5 2 w fun x30 w =>
          sLoad Tryd.prog 22 x30 w fun x31 w =>
          sBuiltin Tryd.prog .len [22] 3 [x31] w fun x32 w =>
          sBin Tryd.prog .add 3 false false n3 x32 w fun x33 w =>
          sBin Tryd.prog .add 3 false true x11 (.int .i64 1) w fun x34 w =>
          Nx1 [x33, x34] w)))) (
    sBin Tryd.prog .gtr 3 false true n3 (.int .i64 600) w fun x36 w =>
    K x36 w)

def bodkinlaw18_long (K : K1) (l0 : Value) (w : World) : Prop :=
  sBuiltin Tryd.prog .len [44] 3 [l0] w fun x7 w =>
  sBin Tryd.prog .gtr 3 false true x7 (.int .i64 60) w fun x8 w =>
  sIf x8 (
    K (.bool true) w) (
    sBuiltin Tryd.prog .len [44] 3 [l0] w fun x10 w =>
    LoopS [(.int .i64 0), (.int .i64 0)] 2 25 w fun us _ w Nx1 =>
      bodkinlaw18_long_L1 K Nx1 l0 x10 (hd us) (hd (tl us)) w)

def bodkinlaw18_long.sc : SC := (.seq (.reg (.op 0 .done)) (.seq (.seq (.reg (.op 0 (.op 1 (.op 2 .done)))) (.cond (.seq (.reg (.op 0 .done)) .nop) .nop)) (.seq (.reg (.op 0 .done)) (.seq (.seq (.reg (.op 0 (.op 1 (.op 2 .done)))) (.sub (.loop [3, 11] [12, 13, 14, 5, 15, 16, 17, 18, 19, 20, 21, 22, 23, 24, 25, 26, 27, 28, 2, 29, 30, 31, 32, 33, 34] (.seq (.reg (.op 0 .done)) (.seq (.cond .nop .nop) (.seq (.sub (.seq (.reg (.op 0 (.op 1 (.op 2 (.op 3 .done))))) (.seq (.seq (.reg (.op 0 (.op 1 (.op 2 (.op 3 (.op 4 (.test 4 (.skip 5 (.skip 6 (.skip 7 (.op 8 (.op 9 (.know 9 true (.skip 10 (.skip 11 (.skip 12 (.op 13 .done)))))))))) (.op 5 (.op 6 (.op 7 (.op 8 (.op 9 (.test 9 (.skip 10 (.skip 11 (.skip 12 (.op 13 .done)))) (.op 10 (.op 11 (.op 12 (.op 13 .done))))))))))))))))) (.cond (.seq (.reg (.op 0 .done)) .nop) .nop)) (.reg (.op 0 (.op 1 (.op 2 (.op 3 (.op 4 (.op 5 .done)))))))))) (.reg (.op 0 (.op 1 .done))))))))) (.seq (.reg (.op 0 (.op 1 (.op 2 .done)))) .nop)))))

theorem bodkinlaw18_long.ok : okC Tryd.f23.ntmps bodkinlaw18_long.sc (bodyOf Tryd.f23) = true := by kernel_rfl

theorem bodkinlaw18_long.eq {K : K1} {l0 : Value} {w : World} : bodkinlaw18_long K l0 w = codeS Tryd.prog bodkinlaw18_long.sc (bodyOf Tryd.f23) (argsF 0 [l0]) w (retQ Tryd.prog Tryd.f23.results.toList K) := by kernel_rfl

theorem bodkinlaw18_long.call {K : K1} {l0 : Value} {w : World} (h : bodkinlaw18_long K l0 w) : sCall Tryd.prog 23 [l0] w K := sCall_code mixed Tryd.func23 (by kernel_rfl) rfl rfl bodkinlaw18_long.ok bodkinlaw18_long.eq h

abbrev bodkinlaw18_long.n : Nat := 23

/-- 'bodkin bodkinlaw18.four' -/
def bodkinlaw18_four (K : K1) (w : World) : Prop :=
  sCall Tryd.prog 15 [] w fun x4 w =>
  sBuildSlice Tryd.prog 22 1 [(0, (.int .i32 9))] w fun x5 w =>
  sBuild Tryd.prog 56 [(0, (.int .i64 1)), (1, (.int .i64 5)), (2, x5)] w fun x6 w =>
  sBuildSlice Tryd.prog 44 1 [(0, x6)] w fun x7 w =>
  sCall Tryd.prog 25 [x4, x7, (.int .i64 4)] w fun x8 w =>
  sExtract x8 0 w fun x9 w =>
  sExtract x8 1 w fun x10 w =>
  sBin Tryd.prog .eql 25 false true x10 (.int .i64 0) w fun x12 w =>
  sIf x12 (
    sBuiltin Tryd.prog .len [46] 3 [x9] w fun x15 w =>
    sBin Tryd.prog .eql 3 false true x15 (.int .i64 4) w fun x16 w =>
    sIf x16 (
      sIdxA Tryd.prog 46 x9 (.int .i64 0) w fun x20 w =>
      sLoad Tryd.prog 58 x20 w fun x21 w =>
      sBuild Tryd.prog 58 [(0, (.int .i32 9)), (1, (.int .i64 1)), (2, (.int .i64 1)), (3, (.int .i64 5))] w fun x22 w =>
      sBin Tryd.prog .eql 58 false false x21 x22 w fun x23 w =>
      sIf x23 (
        sIdxA Tryd.prog 46 x9 (.int .i64 3) w fun x27 w =>
        sLoad Tryd.prog 58 x27 w fun x28 w =>
        sBuild Tryd.prog 58 [(0, (.int .i32 32)), (1, (.int .i64 4)), (2, (.int .i64 1)), (3, (.int .i64 5))] w fun x29 w =>
        sBin Tryd.prog .eql 58 false false x28 x29 w fun x30 w =>
        sIf x30 (
          sCall Tryd.prog 30 [x9] w fun x34 w =>
          sBin Tryd.prog .eql 3 false true x34 (.int .i64 4) w fun x35 w =>
          K x35 w) (
          K (.bool false) w)) (
        K (.bool false) w)) (
      K (.bool false) w)) (
    K (.bool false) w)

def bodkinlaw18_four.sc : SC := (.seq (.reg (.op 0 .done)) (.seq (.reg (.op 0 (.op 1 (.op 2 (.op 3 (.op 4 (.op 5 (.op 6 (.op 7 (.op 8 (.op 9 .done))))))))))) (.seq (.reg (.op 0 (.op 1 (.op 2 (.test 2 (.op 3 (.op 4 (.op 5 (.op 6 (.op 7 (.test 7 (.op 8 (.op 9 (.op 10 (.op 11 (.op 12 (.op 13 (.op 14 (.test 14 (.op 15 (.op 16 (.op 17 (.op 18 (.op 19 (.op 20 (.op 21 (.test 21 (.op 22 (.op 23 (.op 24 (.op 25 (.op 26 .done))))) (.skip 22 (.skip 23 (.skip 24 (.op 25 (.op 26 .done))))))))))))) (.skip 15 (.skip 16 (.skip 17 (.skip 18 (.skip 19 (.op 20 (.op 21 (.know 21 false (.skip 22 (.skip 23 (.skip 24 (.op 25 (.op 26 .done))))))))))))))))))))) (.skip 8 (.skip 9 (.skip 10 (.skip 11 (.skip 12 (.op 13 (.op 14 (.know 14 false (.skip 15 (.skip 16 (.skip 17 (.skip 18 (.skip 19 (.op 20 (.op 21 (.know 21 false (.skip 22 (.skip 23 (.skip 24 (.op 25 (.op 26 .done))))))))))))))))))))))))))) (.skip 3 (.skip 4 (.skip 5 (.op 6 (.op 7 (.know 7 false (.skip 8 (.skip 9 (.skip 10 (.skip 11 (.skip 12 (.op 13 (.op 14 (.know 14 false (.skip 15 (.skip 16 (.skip 17 (.skip 18 (.skip 19 (.op 20 (.op 21 (.know 21 false (.skip 22 (.skip 23 (.skip 24 (.op 25 (.op 26 .done)))))))))))))))))))))))))))))))) .nop)))

theorem bodkinlaw18_four.ok : okC Tryd.f24.ntmps bodkinlaw18_four.sc (bodyOf Tryd.f24) = true := by kernel_rfl

theorem bodkinlaw18_four.eq {K : K1} {w : World} : bodkinlaw18_four K  w = codeS Tryd.prog bodkinlaw18_four.sc (bodyOf Tryd.f24) (argsF 0 []) w (retQ Tryd.prog Tryd.f24.results.toList K) := by kernel_rfl

theorem bodkinlaw18_four.call {K : K1} {w : World} (h : bodkinlaw18_four K  w) : sCall Tryd.prog 24 [] w K := sCall_code mixed Tryd.func24 (by kernel_rfl) rfl rfl bodkinlaw18_four.ok bodkinlaw18_four.eq h

abbrev bodkinlaw18_four.n : Nat := 24

/-- 'bodkin cells.Of' -/
def cells_Of_L4 (Nx2 : List Value → World → Prop) (Nx4 : List Value → World → Prop) (c17 x51 x75 : Value) (out15_1 x76 : Value) (w : World) : Prop :=
  sBin Tryd.prog .lss 3 false false x76 x75 w fun x77 w =>
  sIf x77 (
    sFldA Tryd.prog 58 c17 3 w fun x79 w =>
    sLoad Tryd.prog 3 x79 w fun x80 w =>
    sBuild Tryd.prog 58 [(0, (.int .i32 32)), (1, (.int .i64 4)), (2, (.int .i64 1)), (3, x80)] w fun x81 w =>
    sBuildSlice Tryd.prog 46 1 [(0, x81)] w fun x82 w =>
    sBuiltin Tryd.prog .append [46, 46] 46 [out15_1, x82] w fun x83 w =>
    sBin Tryd.prog .add 3 false true x76 (.int .i64 1) w fun x84 w =>
    Nx4 [x83, x84] w) (
    sBin Tryd.prog .add 3 false true x51 (.int .i64 1) w fun x85 w =>
    Nx2 [out15_1, x85] w)

def cells_Of_J3 (Nx2 : List Value → World → Prop) (c17 out15 x40 x51 : Value) (w : World) : Prop :=
  sLoad Tryd.prog 58 c17 w fun x66 w =>
  sBuildSlice Tryd.prog 46 1 [(0, x66)] w fun x67 w =>
  sBuiltin Tryd.prog .append [46, 46] 46 [out15, x67] w fun x68 w =>
  DrawS w fun C w =>
  stillS C w (fun w k => sIdxA Tryd.prog 24 x40 x51 w k) fun x71 =>
  stillS C w (fun w k => sLoad Tryd.prog 3 x71 w k) fun x72 =>
  stillS C w (fun w k => sFldA Tryd.prog 58 c17 2 w k) fun x73 =>
  stillS C w (fun w k => sLoad Tryd.prog 3 x73 w k) fun x74 =>
  stillS C w (fun w k => sBin Tryd.prog .sub 3 false false x72 x74 w k) fun x75 =>
  LoopS [x68, (.int .i64 0)] 2 8 w fun us _ w Nx4 =>
    cells_Of_L4 Nx2 Nx4 c17 x51 x75 (hd us) (hd (tl us)) w

def cells_Of_L2 (K : K1) (Nx2 : List Value → World → Prop) (x21 x40 x50 : Value) (out15 x51 : Value) (w : World) : Prop :=
  sBin Tryd.prog .lss 3 false false x51 x50 w fun x52 w =>
  sIf x52 (
    sIdxA Tryd.prog 46 x21 x51 w fun x54 w =>
    sLoad Tryd.prog 58 x54 w fun x55 w =>
    sAlloc Tryd.prog 58 w fun c17 w =>
    sStore Tryd.prog 58 c17 x55 w fun w =>
    sIdxA Tryd.prog 24 x40 x51 w fun x58 w =>
    sLoad Tryd.prog 3 x58 w fun x59 w =>
    sFldA Tryd.prog 58 c17 2 w fun x60 w =>
    sStore Tryd.prog 3 x60 x59 w fun w =>
    JoinS 0 4 (fun M3 =>
      sFldA Tryd.prog 58 c17 0 w fun x61 w =>
      sLoad Tryd.prog 21 x61 w fun x62 w =>
      sBin Tryd.prog .eql 21 false true x62 (.int .i32 9) w fun x63 w =>
      sIf x63 (
        sFldA Tryd.prog 58 c17 2 w fun x64 w =>
        sStore Tryd.prog 3 x64 (.int .i64 1) w fun w =>
        M3 [] w) (
        M3 [] w)) fun us _ w =>
      cells_Of_J3 Nx2 c17 out15 x40 x51 w) (
    K (.tuple #[out15, (.int .i64 0)]) w)

def cells_Of_L1 (K : K1) (Nx1 : List Value → World → Prop) (t0 tab2 x21 x22 x24 : Value) (line10 x25 : Value) (w : World) : Prop :=
  sBin Tryd.prog .lss 3 false false x25 x24 w fun x26 w =>
  sIf x26 (
    sIdxA Tryd.prog 46 x21 x25 w fun x27 w =>
    sLoad Tryd.prog 58 x27 w fun x28 w =>
    sAlloc Tryd.prog 58 w fun c12 w =>
    sStore Tryd.prog 58 c12 x28 w fun w =>
    sFldA Tryd.prog 58 c12 0 w fun x30 w =>
    sLoad Tryd.prog 21 x30 w fun x31 w =>
    sBuildSlice Tryd.prog 22 1 [(0, x31)] w fun x32 w =>
    sBuiltin Tryd.prog .append [22, 22] 22 [line10, x32] w fun x33 w =>
    sBin Tryd.prog .add 3 false true x25 (.int .i64 1) w fun x34 w =>
    Nx1 [x33, x34] w) (
    sCall Tryd.prog 14 [t0, line10, tab2] w fun x39 w =>
    sExtract x39 0 w fun x40 w =>
    sExtract x39 1 w fun x41 w =>
    sBin Tryd.prog .neq 25 false true x41 (.int .i64 0) w fun x44 w =>
    sIf x44 (
      K (.tuple #[(.slice none 0 0), x41]) w) (
      sUn Tryd.prog .not x22 w fun x48 w =>
      sIf x48 (
        K (.tuple #[(.slice none 0 0), (.int .i64 4)]) w) (
        sBuiltin Tryd.prog .len [46] 3 [x21] w fun x50 w =>
        LoopS [(.slice none 0 0), (.int .i64 0)] 2 36 w fun us _ w Nx2 =>
          cells_Of_L2 K Nx2 x21 x40 x50 (hd us) (hd (tl us)) w)))

def cells_Of (K : K1) (t0 l1 tab2 : Value) (w : World) : Prop :=
  sCall Tryd.prog 40 [l1] w fun x20 w =>
  sExtract x20 0 w fun x21 w =>
  sExtract x20 1 w fun x22 w =>
  sBuiltin Tryd.prog .len [46] 3 [x21] w fun x24 w =>
  LoopS [(.slice none 0 0), (.int .i64 0)] 2 10 w fun us _ w Nx1 =>
    cells_Of_L1 K Nx1 t0 tab2 x21 x22 x24 (hd us) (hd (tl us)) w

def cells_Of.sc : SC := (.seq (.reg (.op 0 (.op 1 .done))) (.seq (.reg (.op 0 (.op 1 (.op 2 (.op 3 (.op 4 (.op 5 (.op 6 .done)))))))) (.seq (.reg (.op 0 .done)) (.seq (.seq (.reg (.op 0 (.op 1 (.op 2 .done)))) (.sub (.loop [10, 25] [26, 27, 28, 12, 29, 30, 31, 32, 33, 34] (.seq (.reg (.op 0 .done)) (.seq (.cond .nop .nop) (.seq (.sub (.seq (.reg (.op 0 (.op 1 (.op 2 (.op 3 .done))))) (.reg (.op 0 (.op 1 (.op 2 (.op 3 (.op 4 (.op 5 .done))))))))) (.reg (.op 0 (.op 1 .done))))))))) (.seq (.reg (.op 0 (.op 1 (.op 2 (.op 3 (.op 4 (.op 5 (.op 6 (.op 7 (.op 8 .done)))))))))) (.seq (.sub (.seq (.reg (.op 0 (.op 1 (.op 2 .done)))) (.cond (.seq (.reg (.op 0 (.op 1 (.op 2 .done)))) .nop) (.seq (.reg (.op 0 (.op 1 (.op 2 .done)))) (.cond (.seq (.reg (.op 0 (.op 1 .done))) .nop) .nop))))) (.seq (.reg (.op 0 .done)) (.seq (.seq (.reg (.op 0 (.op 1 (.op 2 .done)))) (.sub (.loop [15, 51] [52, 53, 54, 55, 17, 16, 56, 57, 58, 59, 60, 61, 62, 63, 64, 65, 66, 67, 68, 69, 70, 71, 72, 73, 74, 75, 76, 77, 78, 79, 80, 81, 82, 83, 84, 85] (.seq (.reg (.op 0 .done)) (.seq (.cond .nop .nop) (.seq (.sub (.seq (.reg (.op 0 (.op 1 (.op 2 (.op 3 (.op 4 (.op 5 .done))))))) (.seq (.reg (.op 0 (.op 1 (.op 2 (.op 3 (.op 4 (.op 5 .done))))))) (.join [] [61, 62, 63, 64] (.seq (.reg (.op 0 (.op 1 (.op 2 .done)))) (.cond (.reg (.op 0 (.op 1 .done))) .nop)) (.seq (.reg (.op 0 (.op 1 (.op 2 (.op 3 (.op 4 .done)))))) (.seq (.draw (.op 0 (.op 1 (.op 2 (.op 3 (.op 4 (.op 5 (.op 6 (.op 7 .done))))))))) (.sub (.loop [15, 76] [77, 78, 79, 80, 81, 82, 83, 84] (.seq (.reg (.op 0 .done)) (.seq (.cond .nop .nop) (.seq (.sub (.reg (.op 0 (.op 1 (.op 2 (.op 3 (.op 4 (.op 5 (.op 6 .done))))))))) (.reg (.op 0 (.op 1 .done)))))))))))))) (.reg (.op 0 (.op 1 .done))))))))) (.seq (.reg (.op 0 (.op 1 (.op 2 .done)))) .nop)))))))))

theorem cells_Of.ok : okC Tryd.f25.ntmps cells_Of.sc (bodyOf Tryd.f25) = true := by kernel_rfl

theorem cells_Of.eq {K : K1} {t0 l1 tab2 : Value} {w : World} : cells_Of K t0 l1 tab2 w = codeS Tryd.prog cells_Of.sc (bodyOf Tryd.f25) (argsF 0 [t0, l1, tab2]) w (retQ Tryd.prog Tryd.f25.results.toList K) := by kernel_rfl

theorem cells_Of.call {K : K1} {t0 l1 tab2 : Value} {w : World} (h : cells_Of K t0 l1 tab2 w) : sCall Tryd.prog 25 [t0, l1, tab2] w K := sCall_code mixed Tryd.func25 (by kernel_rfl) rfl rfl cells_Of.ok cells_Of.eq h

abbrev cells_Of.n : Nat := 25

/-- 'bodkin bodkinref18.Wrong' -/
def bodkinref18_Wrong_L1 (K : K1) (Nx1 : List Value → World → Prop) (l0 x11 : Value) (x12 : Value) (w : World) : Prop :=
  sBin Tryd.prog .lss 3 false false x12 x11 w fun x13 w =>
  sIf x13 (
    sIdxA Tryd.prog 50 l0 x12 w fun x14 w =>
    sLoad Tryd.prog 81 x14 w fun x15 w =>
    sAlloc Tryd.prog 81 w fun p6 w =>
    sStore Tryd.prog 81 p6 x15 w fun w =>
    sFldA Tryd.prog 81 p6 0 w fun x16 w =>
    sLoad Tryd.prog 3 x16 w fun x17 w =>
    sBin Tryd.prog .lss 3 false true x17 (.int .i64 1) w fun x18 w =>
    sIf x18 (
      K (.int .i64 4) w) (
      sFldA Tryd.prog 81 p6 0 w fun x20 w =>
      sLoad Tryd.prog 3 x20 w fun x21 w =>
      sBin Tryd.prog .gtr 3 false true x21 (.int .i64 3) w fun x22 w =>
      sIf x22 (
        K (.int .i64 4) w) (
        sBin Tryd.prog .add 3 false true x12 (.int .i64 1) w fun x24 w =>
        Nx1 [x24] w))) (
    K (.int .i64 0) w)

def bodkinref18_Wrong (K : K1) (l0 tab1 : Value) (w : World) : Prop :=
  sCall Tryd.prog 16 [tab1] w fun x8 w =>
  sUn Tryd.prog .not x8 w fun x9 w =>
  sIf x9 (
    K (.int .i64 1) w) (
    sBuiltin Tryd.prog .len [50] 3 [l0] w fun x11 w =>
    LoopS [(.int .i64 0)] 1 14 w fun us _ w Nx1 =>
      bodkinref18_Wrong_L1 K Nx1 l0 x11 (hd us) w)

def bodkinref18_Wrong.sc : SC := (.seq (.reg (.op 0 .done)) (.seq (.seq (.reg (.op 0 (.op 1 (.op 2 .done)))) (.cond (.seq (.reg (.op 0 .done)) .nop) .nop)) (.seq (.seq (.reg (.op 0 (.op 1 (.op 2 .done)))) (.sub (.loop [12] [13, 14, 15, 6, 16, 17, 18, 19, 20, 21, 22, 23, 4, 24] (.seq (.reg (.op 0 .done)) (.seq (.cond .nop .nop) (.seq (.sub (.seq (.reg (.op 0 (.op 1 (.op 2 (.op 3 .done))))) (.seq (.reg (.op 0 (.op 1 (.op 2 (.op 3 (.test 3 (.skip 4 (.skip 5 (.skip 6 (.op 7 .done)))) (.op 4 (.op 5 (.op 6 (.op 7 .done)))))))))) (.cond (.seq (.reg (.op 0 .done)) .nop) .nop)))) (.reg (.op 0 (.op 1 .done))))))))) (.seq (.reg (.op 0 .done)) .nop))))

theorem bodkinref18_Wrong.ok : okC Tryd.f26.ntmps bodkinref18_Wrong.sc (bodyOf Tryd.f26) = true := by kernel_rfl

theorem bodkinref18_Wrong.eq {K : K1} {l0 tab1 : Value} {w : World} : bodkinref18_Wrong K l0 tab1 w = codeS Tryd.prog bodkinref18_Wrong.sc (bodyOf Tryd.f26) (argsF 0 [l0, tab1]) w (retQ Tryd.prog Tryd.f26.results.toList K) := by kernel_rfl

theorem bodkinref18_Wrong.call {K : K1} {l0 tab1 : Value} {w : World} (h : bodkinref18_Wrong K l0 tab1 w) : sCall Tryd.prog 26 [l0, tab1] w K := sCall_code mixed Tryd.func26 (by kernel_rfl) rfl rfl bodkinref18_Wrong.ok bodkinref18_Wrong.eq h

abbrev bodkinref18_Wrong.n : Nat := 26

/-- 'bodkin bodkinlaw18.refs' -/
def bodkinlaw18_refs_L1 (K : K1) (Nx1 : List Value → World → Prop) (l0 x7 : Value) (out3 x8 : Value) (w : World) : Prop :=
  sBin Tryd.prog .lss 3 false false x8 x7 w fun x9 w =>
  sIf x9 (
    sIdxA Tryd.prog 44 l0 x8 w fun x10 w =>
    sLoad Tryd.prog 56 x10 w fun x11 w =>
    sAlloc Tryd.prog 56 w fun p5 w =>
    sStore Tryd.prog 56 p5 x11 w fun w =>
    sFldA Tryd.prog 56 p5 0 w fun x13 w =>
    sLoad Tryd.prog 3 x13 w fun x14 w =>
    sFldA Tryd.prog 56 p5 1 w fun x15 w =>
    sLoad Tryd.prog 3 x15 w fun x16 w =>
    sFldA Tryd.prog 56 p5 2 w fun x17 w =>
    sLoad Tryd.prog 22 x17 w fun x18 w =>
    sBuild Tryd.prog 81 [(0, x14), (1, x16), (2, x18)] w fun x19 w =>
    sBuildSlice Tryd.prog 50 1 [(0, x19)] w fun x20 w =>
    sBuiltin Tryd.prog .append [50, 50] 50 [out3, x20] w fun x21 w =>
    sBin Tryd.prog .add 3 false true x8 (.int .i64 1) w fun x22 w =>
    Nx1 [x21, x22] w) (
    K out3 w)

def bodkinlaw18_refs (K : K1) (l0 : Value) (w : World) : Prop :=
  sBuiltin Tryd.prog .len [44] 3 [l0] w fun x7 w =>
  LoopS [(.slice none 0 0), (.int .i64 0)] 2 15 w fun us _ w Nx1 =>
    bodkinlaw18_refs_L1 K Nx1 l0 x7 (hd us) (hd (tl us)) w

def bodkinlaw18_refs.sc : SC := (.seq (.reg (.op 0 .done)) (.seq (.reg (.op 0 .done)) (.seq (.seq (.reg (.op 0 (.op 1 (.op 2 .done)))) (.sub (.loop [3, 8] [9, 10, 11, 5, 12, 13, 14, 15, 16, 17, 18, 19, 20, 21, 22] (.seq (.reg (.op 0 .done)) (.seq (.cond .nop .nop) (.seq (.sub (.seq (.reg (.op 0 (.op 1 (.op 2 (.op 3 .done))))) (.reg (.op 0 (.op 1 (.op 2 (.op 3 (.op 4 (.op 5 (.op 6 (.op 7 (.op 8 (.op 9 (.op 10 .done)))))))))))))) (.reg (.op 0 (.op 1 .done))))))))) (.seq (.reg (.op 0 (.op 1 .done))) .nop))))

theorem bodkinlaw18_refs.ok : okC Tryd.f27.ntmps bodkinlaw18_refs.sc (bodyOf Tryd.f27) = true := by kernel_rfl

theorem bodkinlaw18_refs.eq {K : K1} {l0 : Value} {w : World} : bodkinlaw18_refs K l0 w = codeS Tryd.prog bodkinlaw18_refs.sc (bodyOf Tryd.f27) (argsF 0 [l0]) w (retQ Tryd.prog Tryd.f27.results.toList K) := by kernel_rfl

theorem bodkinlaw18_refs.call {K : K1} {l0 : Value} {w : World} (h : bodkinlaw18_refs K l0 w) : sCall Tryd.prog 27 [l0] w K := sCall_code mixed Tryd.func27 (by kernel_rfl) rfl rfl bodkinlaw18_refs.ok bodkinlaw18_refs.eq h

abbrev bodkinlaw18_refs.n : Nat := 27

/-- 'bodkin bodkinplain.Cells' -/
def bodkinplain_Cells_L1 (K : K1) (Nx1 : List Value → World → Prop) (a0 b1 x7 : Value) (x8 : Value) (w : World) : Prop :=
  sBin Tryd.prog .lss 3 false false x8 x7 w fun x9 w =>
  sIf x9 (
    DrawS w fun C w =>
    stillS C w (fun w k => sBuiltin Tryd.prog .len [46] 3 [b1] w k) fun x13 =>
    stillS C w (fun w k => sBin Tryd.prog .geq 3 false false x8 x13 w k) fun x14 =>
    sIf x14 (
      K (.bool false) w) (
      stillS C w (fun w k => sIdxA Tryd.prog 46 a0 x8 w k) fun x18 =>
      stillS C w (fun w k => sLoad Tryd.prog 58 x18 w k) fun x19 =>
      stillS C w (fun w k => sIdxA Tryd.prog 46 b1 x8 w k) fun x22 =>
      stillS C w (fun w k => sLoad Tryd.prog 58 x22 w k) fun x23 =>
      stillS C w (fun w k => sBin Tryd.prog .neq 58 false false x19 x23 w k) fun x24 =>
      sIf x24 (
        K (.bool false) w) (
        sBin Tryd.prog .add 3 false true x8 (.int .i64 1) w fun x26 w =>
        Nx1 [x26] w))) (
    sBuiltin Tryd.prog .len [46] 3 [a0] w fun x28 w =>
    sBuiltin Tryd.prog .len [46] 3 [b1] w fun x30 w =>
    sBin Tryd.prog .eql 3 false false x28 x30 w fun x31 w =>
    K x31 w)

def bodkinplain_Cells (K : K1) (a0 b1 : Value) (w : World) : Prop :=
  sBuiltin Tryd.prog .len [46] 3 [a0] w fun x7 w =>
  LoopS [(.int .i64 0)] 1 20 w fun us _ w Nx1 =>
    bodkinplain_Cells_L1 K Nx1 a0 b1 x7 (hd us) w

def bodkinplain_Cells.sc : SC := (.seq (.reg (.op 0 .done)) (.seq (.seq (.reg (.op 0 (.op 1 (.op 2 .done)))) (.sub (.loop [8] [9, 10, 5, 11, 12, 13, 14, 15, 16, 17, 18, 19, 20, 21, 22, 23, 24, 25, 4, 26] (.seq (.reg (.op 0 .done)) (.seq (.cond .nop .nop) (.seq (.sub (.seq (.reg (.op 0 (.op 1 .done))) (.seq (.draw (.op 0 (.op 1 (.op 2 (.op 3 (.op 4 (.test 4 (.skip 5 (.skip 6 (.skip 7 (.skip 8 (.skip 9 (.skip 10 (.skip 11 (.skip 12 (.skip 13 (.op 14 .done)))))))))) (.op 5 (.op 6 (.op 7 (.op 8 (.op 9 (.op 10 (.op 11 (.op 12 (.op 13 (.op 14 .done))))))))))))))))) (.cond (.seq (.reg (.op 0 .done)) .nop) .nop)))) (.reg (.op 0 (.op 1 .done))))))))) (.seq (.reg (.op 0 (.op 1 (.op 2 (.op 3 (.op 4 (.op 5 .done))))))) .nop)))

theorem bodkinplain_Cells.ok : okC Tryd.f28.ntmps bodkinplain_Cells.sc (bodyOf Tryd.f28) = true := by kernel_rfl

theorem bodkinplain_Cells.eq {K : K1} {a0 b1 : Value} {w : World} : bodkinplain_Cells K a0 b1 w = codeS Tryd.prog bodkinplain_Cells.sc (bodyOf Tryd.f28) (argsF 0 [a0, b1]) w (retQ Tryd.prog Tryd.f28.results.toList K) := by kernel_rfl

theorem bodkinplain_Cells.call {K : K1} {a0 b1 : Value} {w : World} (h : bodkinplain_Cells K a0 b1 w) : sCall Tryd.prog 28 [a0, b1] w K := sCall_code mixed Tryd.func28 (by kernel_rfl) rfl rfl bodkinplain_Cells.ok bodkinplain_Cells.eq h

abbrev bodkinplain_Cells.n : Nat := 28

/-- 'bodkin bodkinref18.Of' -/
def bodkinref18_Of_L6 (Nx3 : List Value → World → Prop) (Nx6 : List Value → World → Prop) (c17 i12_1 x33 x43 : Value) (out11_2 n18 : Value) (w : World) : Prop :=
  sIdxA Tryd.prog 24 x33 i12_1 w fun x78 w =>
  sLoad Tryd.prog 3 x78 w fun x79 w =>
  sBin Tryd.prog .lss 3 false false n18 x79 w fun x80 w =>
  sIf x80 (
    sFldA Tryd.prog 58 c17 3 w fun x84 w =>
    sLoad Tryd.prog 3 x84 w fun x85 w =>
    sBuild Tryd.prog 58 [(0, (.int .i32 32)), (1, (.int .i64 4)), (2, (.int .i64 1)), (3, x85)] w fun x86 w =>
    sBuildSlice Tryd.prog 46 1 [(0, x86)] w fun x87 w =>
    sBuiltin Tryd.prog .append [46, 46] 46 [out11_2, x87] w fun x88 w =>
    sBin Tryd.prog .add 3 false true n18 (.int .i64 1) w fun x82 w =>
    Nx6 [x88, x82] w) (
    sBin Tryd.prog .add 3 false true i12_1 (.int .i64 1) w fun x90 w =>
    sBin Tryd.prog .add 3 false true x43 (.int .i64 1) w fun x91 w =>
    Nx3 [out11_2, x90, x91] w)

def bodkinref18_Of_J5 (Nx3 : List Value → World → Prop) (c17 i12_1 out11_1 x33 x43 : Value) (w : World) : Prop :=
  sLoad Tryd.prog 58 c17 w fun x70 w =>
  sBuildSlice Tryd.prog 46 1 [(0, x70)] w fun x71 w =>
  sBuiltin Tryd.prog .append [46, 46] 46 [out11_1, x71] w fun x72 w =>
  sFldA Tryd.prog 58 c17 2 w fun x73 w =>
  sLoad Tryd.prog 3 x73 w fun x74 w =>
  LoopS [x72, x74] 2 14 w fun us _ w Nx6 =>
    bodkinref18_Of_L6 Nx3 Nx6 c17 i12_1 x33 x43 (hd us) (hd (tl us)) w

def bodkinref18_Of_J4 (Nx3 : List Value → World → Prop) (c17 i12_1 out11_1 x33 x43 x47 : Value) (w : World) : Prop :=
  JoinS 0 3 (fun M5 =>
    sBin Tryd.prog .eql 21 false true x47 (.int .i32 9) w fun x67 w =>
    sIf x67 (
      sFldA Tryd.prog 58 c17 2 w fun x68 w =>
      sStore Tryd.prog 3 x68 (.int .i64 1) w fun w =>
      M5 [] w) (
      M5 [] w)) fun us _ w =>
    bodkinref18_Of_J5 Nx3 c17 i12_1 out11_1 x33 x43 w

def bodkinref18_Of_L3 (Nx2 : List Value → World → Prop) (Nx3 : List Value → World → Prop) (p14 x33 x36 x41 x42 : Value) (out11_1 i12_1 x43 : Value) (w : World) : Prop :=
  sBin Tryd.prog .lss 3 false false x43 x42 w fun x44 w =>
  sIf x44 (
    sIdxA Tryd.prog 22 x41 x43 w fun x46 w =>
    sLoad Tryd.prog 21 x46 w fun x47 w =>
    DrawS w fun C w =>
    stillS C w (fun w k => sFldA Tryd.prog 81 p14 0 w k) fun x49 =>
    stillS C w (fun w k => sLoad Tryd.prog 3 x49 w k) fun x50 =>
    stillS C w (fun w k => sIdxA Tryd.prog 24 x33 i12_1 w k) fun x53 =>
    stillS C w (fun w k => sLoad Tryd.prog 3 x53 w k) fun x54 =>
    stillS C w (fun w k => sFldA Tryd.prog 81 p14 1 w k) fun x55 =>
    stillS C w (fun w k => sLoad Tryd.prog 3 x55 w k) fun x56 =>
    stillS C w (fun w k => sBuild Tryd.prog 58 [(0, x47), (1, x50), (2, x54), (3, x56)] w k) fun x57 =>
    sAlloc Tryd.prog 58 w fun c17 w => C w ∧
    sStore Tryd.prog 58 c17 x57 w fun w =>
    JoinS 0 8 (fun M4 =>
      sFldA Tryd.prog 81 p14 0 w fun x58 w =>
      sLoad Tryd.prog 3 x58 w fun x59 w =>
      sBin Tryd.prog .eql 3 false true x59 (.int .i64 1) w fun x60 w =>
      sIf x60 (
        sFldA Tryd.prog 81 p14 1 w fun x61 w =>
        sLoad Tryd.prog 3 x61 w fun x62 w =>
        sBin Tryd.prog .add 3 false false x62 x43 w fun x64 w =>
        sFldA Tryd.prog 58 c17 3 w fun x65 w =>
        sStore Tryd.prog 3 x65 x64 w fun w =>
        M4 [] w) (
        M4 [] w)) fun us _ w =>
      bodkinref18_Of_J4 Nx3 c17 i12_1 out11_1 x33 x43 x47 w) (
    sBin Tryd.prog .add 3 false true x36 (.int .i64 1) w fun x92 w =>
    Nx2 [out11_1, i12_1, x92] w)

def bodkinref18_Of_L2 (K : K1) (Nx2 : List Value → World → Prop) (l1 x33 x35 : Value) (out11 i12 x36 : Value) (w : World) : Prop :=
  sBin Tryd.prog .lss 3 false false x36 x35 w fun x37 w =>
  sIf x37 (
    sIdxA Tryd.prog 50 l1 x36 w fun x38 w =>
    sLoad Tryd.prog 81 x38 w fun x39 w =>
    sAlloc Tryd.prog 81 w fun p14 w =>
    sStore Tryd.prog 81 p14 x39 w fun w =>
    sLoad Tryd.prog 81 p14 w fun x40 w =>
    sCall Tryd.prog 41 [x40] w fun x41 w =>
    sBuiltin Tryd.prog .len [22] 3 [x41] w fun x42 w =>
    LoopS [out11, i12, (.int .i64 0)] 3 52 w fun us _ w Nx3 =>
      bodkinref18_Of_L3 Nx2 Nx3 p14 x33 x36 x41 x42 (hd us) (hd (tl us)) (hd (tl (tl us))) w) (
    K out11 w)

def bodkinref18_Of_L1 (K : K1) (Nx1 : List Value → World → Prop) (l1 t0 tab2 x20 : Value) (all7 x21 : Value) (w : World) : Prop :=
  sBin Tryd.prog .lss 3 false false x21 x20 w fun x22 w =>
  sIf x22 (
    sIdxA Tryd.prog 50 l1 x21 w fun x23 w =>
    sLoad Tryd.prog 81 x23 w fun x24 w =>
    sAlloc Tryd.prog 81 w fun p9 w =>
    sStore Tryd.prog 81 p9 x24 w fun w =>
    sLoad Tryd.prog 81 p9 w fun x26 w =>
    sCall Tryd.prog 41 [x26] w fun x27 w =>
    sBuiltin Tryd.prog .append [22, 22] 22 [all7, x27] w fun x28 w =>
    sBin Tryd.prog .add 3 false true x21 (.int .i64 1) w fun x29 w =>
    Nx1 [x28, x29] w) (
    sCall Tryd.prog 18 [t0, all7, tab2] w fun x33 w =>
    sBuiltin Tryd.prog .len [50] 3 [l1] w fun x35 w =>
    LoopS [(.slice none 0 0), (.int .i64 0), (.int .i64 0)] 3 61 w fun us _ w Nx2 =>
      bodkinref18_Of_L2 K Nx2 l1 x33 x35 (hd us) (hd (tl us)) (hd (tl (tl us))) w)

def bodkinref18_Of (K : K1) (t0 l1 tab2 : Value) (w : World) : Prop :=
  sBuiltin Tryd.prog .len [50] 3 [l1] w fun x20 w =>
  LoopS [(.slice none 0 0), (.int .i64 0)] 2 9 w fun us _ w Nx1 =>
    bodkinref18_Of_L1 K Nx1 l1 t0 tab2 x20 (hd us) (hd (tl us)) w

def bodkinref18_Of.sc : SC := (.seq (.reg (.op 0 .done)) (.seq (.reg (.op 0 .done)) (.seq (.seq (.reg (.op 0 (.op 1 (.op 2 .done)))) (.sub (.loop [7, 21] [22, 23, 24, 9, 25, 26, 27, 28, 29] (.seq (.reg (.op 0 .done)) (.seq (.cond .nop .nop) (.seq (.sub (.seq (.reg (.op 0 (.op 1 (.op 2 (.op 3 .done))))) (.reg (.op 0 (.op 1 (.op 2 (.op 3 (.op 4 .done)))))))) (.reg (.op 0 (.op 1 .done))))))))) (.seq (.reg (.op 0 (.op 1 (.op 2 (.op 3 (.op 4 .done)))))) (.seq (.reg (.op 0 .done)) (.seq (.reg (.op 0 .done)) (.seq (.seq (.reg (.op 0 (.op 1 (.op 2 .done)))) (.sub (.loop [11, 12, 36] [37, 38, 39, 14, 40, 41, 42, 43, 44, 45, 46, 47, 15, 16, 48, 49, 50, 51, 52, 53, 54, 55, 56, 57, 17, 58, 59, 60, 61, 62, 63, 64, 65, 66, 67, 68, 69, 70, 71, 72, 73, 74, 18, 75, 76, 77, 78, 79, 80, 83, 84, 85, 86, 87, 88, 81, 82, 89, 90, 91, 92] (.seq (.reg (.op 0 .done)) (.seq (.cond .nop .nop) (.seq (.sub (.seq (.reg (.op 0 (.op 1 (.op 2 (.op 3 .done))))) (.seq (.reg (.op 0 (.op 1 (.op 2 (.op 3 .done))))) (.sub (.loop [11, 12, 43] [44, 45, 46, 47, 15, 16, 48, 49, 50, 51, 52, 53, 54, 55, 56, 57, 17, 58, 59, 60, 61, 62, 63, 64, 65, 66, 67, 68, 69, 70, 71, 72, 73, 74, 18, 75, 76, 77, 78, 79, 80, 83, 84, 85, 86, 87, 88, 81, 82, 89, 90, 91] (.seq (.reg (.op 0 .done)) (.seq (.cond .nop .nop) (.seq (.sub (.seq (.reg (.op 0 (.op 1 (.op 2 (.op 3 (.op 4 .done)))))) (.seq (.draw (.op 0 (.op 1 (.op 2 (.op 3 (.op 4 (.op 5 (.op 6 (.op 7 (.op 8 (.op 9 (.op 10 (.fin 11 .done))))))))))))) (.join [] [58, 59, 60, 61, 62, 63, 64, 65] (.seq (.reg (.op 0 (.op 1 (.op 2 .done)))) (.cond (.reg (.op 0 (.op 1 (.op 2 (.op 3 (.op 4 (.op 5 .done))))))) .nop)) (.join [] [66, 67, 68] (.seq (.reg (.op 0 (.op 1 .done))) (.cond (.reg (.op 0 (.op 1 .done))) .nop)) (.seq (.reg (.op 0 (.op 1 (.op 2 (.op 3 (.op 4 .done)))))) (.seq (.seq (.reg (.op 0 (.op 1 (.op 2 .done)))) (.sub (.loop [11, 18] [75, 76, 77, 78, 79, 80, 83, 84, 85, 86, 87, 88, 81, 82] (.seq (.seq (.reg (.op 0 (.op 1 (.op 2 (.op 3 (.op 4 (.op 5 .done))))))) (.cond .nop .nop)) (.seq (.sub (.reg (.op 0 (.op 1 (.op 2 (.op 3 (.op 4 (.op 5 (.op 6 .done))))))))) (.reg (.op 0 (.op 1 (.op 2 .done))))))))) (.reg (.op 0 (.op 1 (.op 2 .done))))))))))) (.reg (.op 0 (.op 1 .done))))))))))) (.reg (.op 0 (.op 1 .done))))))))) (.seq (.reg (.op 0 (.op 1 .done))) .nop))))))))

theorem bodkinref18_Of.ok : okC Tryd.f29.ntmps bodkinref18_Of.sc (bodyOf Tryd.f29) = true := by kernel_rfl

theorem bodkinref18_Of.eq {K : K1} {t0 l1 tab2 : Value} {w : World} : bodkinref18_Of K t0 l1 tab2 w = codeS Tryd.prog bodkinref18_Of.sc (bodyOf Tryd.f29) (argsF 0 [t0, l1, tab2]) w (retQ Tryd.prog Tryd.f29.results.toList K) := by kernel_rfl

theorem bodkinref18_Of.call {K : K1} {t0 l1 tab2 : Value} {w : World} (h : bodkinref18_Of K t0 l1 tab2 w) : sCall Tryd.prog 29 [t0, l1, tab2] w K := sCall_code mixed Tryd.func29 (by kernel_rfl) rfl rfl bodkinref18_Of.ok bodkinref18_Of.eq h

abbrev bodkinref18_Of.n : Nat := 29

/-- 'bodkin cells.Width' -/
def cells_Width_L1 (K : K1) (Nx1 : List Value → World → Prop) (l0 x7 : Value) (n3 x8 : Value) (w : World) : Prop :=
  sBin Tryd.prog .lss 3 false false x8 x7 w fun x9 w =>
  sIf x9 (
    sIdxA Tryd.prog 46 l0 x8 w fun x10 w =>
    sLoad Tryd.prog 58 x10 w fun x11 w =>
    sAlloc Tryd.prog 58 w fun c5 w =>
    sStore Tryd.prog 58 c5 x11 w fun w =>
    sFldA Tryd.prog 58 c5 2 w fun x13 w =>
    sLoad Tryd.prog 3 x13 w fun x14 w =>
    sBin Tryd.prog .add 3 false false n3 x14 w fun x15 w =>
    sBin Tryd.prog .add 3 false true x8 (.int .i64 1) w fun x16 w =>
    Nx1 [x15, x16] w) (
    K n3 w)

def cells_Width (K : K1) (l0 : Value) (w : World) : Prop :=
  sBuiltin Tryd.prog .len [46] 3 [l0] w fun x7 w =>
  LoopS [(.int .i64 0), (.int .i64 0)] 2 9 w fun us _ w Nx1 =>
    cells_Width_L1 K Nx1 l0 x7 (hd us) (hd (tl us)) w

def cells_Width.sc : SC := (.seq (.reg (.op 0 .done)) (.seq (.reg (.op 0 .done)) (.seq (.seq (.reg (.op 0 (.op 1 (.op 2 .done)))) (.sub (.loop [3, 8] [9, 10, 11, 5, 12, 13, 14, 15, 16] (.seq (.reg (.op 0 .done)) (.seq (.cond .nop .nop) (.seq (.sub (.seq (.reg (.op 0 (.op 1 (.op 2 (.op 3 .done))))) (.reg (.op 0 (.op 1 (.op 2 (.op 3 (.op 4 .done)))))))) (.reg (.op 0 (.op 1 .done))))))))) (.seq (.reg (.op 0 (.op 1 .done))) .nop))))

theorem cells_Width.ok : okC Tryd.f30.ntmps cells_Width.sc (bodyOf Tryd.f30) = true := by kernel_rfl

theorem cells_Width.eq {K : K1} {l0 : Value} {w : World} : cells_Width K l0 w = codeS Tryd.prog cells_Width.sc (bodyOf Tryd.f30) (argsF 0 [l0]) w (retQ Tryd.prog Tryd.f30.results.toList K) := by kernel_rfl

theorem cells_Width.call {K : K1} {l0 : Value} {w : World} (h : cells_Width K l0 w) : sCall Tryd.prog 30 [l0] w K := sCall_code mixed Tryd.func30 (by kernel_rfl) rfl rfl cells_Width.ok cells_Width.eq h

abbrev cells_Width.n : Nat := 30

/-- 'bodkin cells.Stops' -/
def cells_Stops_J3 (M2 : List Value → World → Prop) (c5 l0 x15 x9 : Value) (x16 : Value) (w : World) : Prop :=
  sIf x16 (
    M2 [(.bool true)] w) (
    sBin Tryd.prog .eql 3 false true x15 (.int .i64 2) w fun x20 w =>
    sIf x20 (
      DrawS w fun C w =>
      stillS C w (fun w k => sBin Tryd.prog .eql 3 false true x9 (.int .i64 0) w k) fun x22 =>
      sIf x22 (
        M2 [(.bool true)] w) (
        stillS C w (fun w k => sBin Tryd.prog .sub 3 false true x9 (.int .i64 1) w k) fun x26 =>
        stillS C w (fun w k => sIdxA Tryd.prog 46 l0 x26 w k) fun x27 =>
        stillS C w (fun w k => sFldA Tryd.prog 58 x27 3 w k) fun x28 =>
        stillS C w (fun w k => sLoad Tryd.prog 3 x28 w k) fun x29 =>
        stillS C w (fun w k => sFldA Tryd.prog 58 c5 3 w k) fun x30 =>
        stillS C w (fun w k => sLoad Tryd.prog 3 x30 w k) fun x31 =>
        stillS C w (fun w k => sBin Tryd.prog .neq 3 false false x29 x31 w k) fun x32 =>
        M2 [x32] w)) (
      M2 [(.bool false)] w))

def cells_Stops_J2 (Nx1 : List Value → World → Prop) (out3 x9 : Value) (is6 : Value) (w : World) : Prop :=
  sBuildSlice Tryd.prog 60 1 [(0, is6)] w fun x36 w =>
  sBuiltin Tryd.prog .append [60, 60] 60 [out3, x36] w fun x37 w =>
  sBin Tryd.prog .add 3 false true x9 (.int .i64 1) w fun x38 w =>
  Nx1 [x37, x38] w

def cells_Stops_L1 (K : K1) (Nx1 : List Value → World → Prop) (l0 x8 : Value) (out3 x9 : Value) (w : World) : Prop :=
  sBin Tryd.prog .lss 3 false false x9 x8 w fun x10 w =>
  sIf x10 (
    sIdxA Tryd.prog 46 l0 x9 w fun x12 w =>
    sLoad Tryd.prog 58 x12 w fun x13 w =>
    sAlloc Tryd.prog 58 w fun c5 w =>
    sStore Tryd.prog 58 c5 x13 w fun w =>
    JoinS 1 20 (fun M2 =>
      sFldA Tryd.prog 58 c5 1 w fun x14 w =>
      sLoad Tryd.prog 3 x14 w fun x15 w =>
      JoinS 1 2 (fun M3 =>
        sBin Tryd.prog .eql 3 false true x15 (.int .i64 1) w fun x17 w =>
        sIf x17 (
          M3 [x17] w) (
          sBin Tryd.prog .eql 3 false true x15 (.int .i64 3) w fun x18 w =>
          M3 [x18] w)) fun us _ w =>
        cells_Stops_J3 M2 c5 l0 x15 x9 (hd us) w) fun us _ w =>
      cells_Stops_J2 Nx1 out3 x9 (hd us) w) (
    K out3 w)

def cells_Stops (K : K1) (l0 : Value) (w : World) : Prop :=
  sBuiltin Tryd.prog .len [46] 3 [l0] w fun x8 w =>
  LoopS [(.slice none 0 0), (.int .i64 0)] 2 32 w fun us _ w Nx1 =>
    cells_Stops_L1 K Nx1 l0 x8 (hd us) (hd (tl us)) w

def cells_Stops.sc : SC := (.seq (.reg (.op 0 .done)) (.seq (.reg (.op 0 .done)) (.seq (.seq (.reg (.op 0 (.op 1 (.op 2 .done)))) (.sub (.loop [3, 9] [10, 11, 12, 13, 5, 4, 6, 14, 15, 17, 16, 18, 20, 19, 21, 22, 23, 24, 25, 26, 27, 28, 29, 30, 31, 32, 33, 34, 35, 36, 37, 38] (.seq (.reg (.op 0 .done)) (.seq (.cond .nop .nop) (.seq (.sub (.seq (.reg (.op 0 (.op 1 (.op 2 (.op 3 (.op 4 (.op 5 .done))))))) (.seq (.reg (.op 0 .done)) (.join [6] [14, 15, 17, 16, 18, 20, 19, 21, 22, 23, 24, 25, 26, 27, 28, 29, 30, 31, 32, 33] (.seq (.reg (.op 0 (.op 1 .done))) (.sub (.join [16] [17, 18] (.seq (.reg (.op 0 (.op 1 .done))) (.cond .nop (.reg (.op 0 (.op 1 .done))))) (.cond (.reg (.op 0 .done)) (.seq (.reg (.op 0 (.op 1 .done))) (.cond (.draw (.op 0 (.op 1 (.op 2 (.test 2 (.skip 3 (.skip 4 (.skip 5 (.skip 6 (.skip 7 (.skip 8 (.skip 9 (.skip 10 (.skip 11 (.op 12 (.op 13 .done))))))))))) (.op 3 (.op 4 (.op 5 (.op 6 (.op 7 (.op 8 (.op 9 (.op 10 (.op 11 (.op 12 (.op 13 .done)))))))))))))))) .nop)))))) (.reg (.op 0 (.op 1 (.op 2 (.op 3 (.op 4 .done)))))))))) (.reg (.op 0 (.op 1 .done))))))))) (.seq (.reg (.op 0 (.op 1 .done))) .nop))))

theorem cells_Stops.ok : okC Tryd.f31.ntmps cells_Stops.sc (bodyOf Tryd.f31) = true := by kernel_rfl

theorem cells_Stops.eq {K : K1} {l0 : Value} {w : World} : cells_Stops K l0 w = codeS Tryd.prog cells_Stops.sc (bodyOf Tryd.f31) (argsF 0 [l0]) w (retQ Tryd.prog Tryd.f31.results.toList K) := by kernel_rfl

theorem cells_Stops.call {K : K1} {l0 : Value} {w : World} (h : cells_Stops K l0 w) : sCall Tryd.prog 31 [l0] w K := sCall_code mixed Tryd.func31 (by kernel_rfl) rfl rfl cells_Stops.ok cells_Stops.eq h

abbrev cells_Stops.n : Nat := 31

/-- 'bodkin bodkinref18.Stop' -/
def bodkinref18_Stop (K : K1) (l0 i1 : Value) (w : World) : Prop :=
  sIdxA Tryd.prog 46 l0 i1 w fun x8 w =>
  sLoad Tryd.prog 58 x8 w fun x9 w =>
  sAlloc Tryd.prog 58 w fun c5 w =>
  sStore Tryd.prog 58 c5 x9 w fun w =>
  DrawS w fun C w =>
  stillS C w (fun w k => sFldA Tryd.prog 58 c5 1 w k) fun x10 =>
  stillS C w (fun w k => sLoad Tryd.prog 3 x10 w k) fun x11 =>
  stillS C w (fun w k => sBin Tryd.prog .eql 3 false true x11 (.int .i64 1) w k) fun x12 =>
  sIf x12 (
    K (.bool true) w) (
    stillS C w (fun w k => sFldA Tryd.prog 58 c5 1 w k) fun x14 =>
    stillS C w (fun w k => sLoad Tryd.prog 3 x14 w k) fun x15 =>
    stillS C w (fun w k => sBin Tryd.prog .eql 3 false true x15 (.int .i64 3) w k) fun x16 =>
    sIf x16 (
      K (.bool true) w) (
      stillS C w (fun w k => sFldA Tryd.prog 58 c5 1 w k) fun x19 =>
      stillS C w (fun w k => sLoad Tryd.prog 3 x19 w k) fun x20 =>
      stillS C w (fun w k => sBin Tryd.prog .eql 3 false true x20 (.int .i64 2) w k) fun x21 =>
      sIf x21 (
        stillS C w (fun w k => sBin Tryd.prog .eql 3 false true i1 (.int .i64 0) w k) fun x24 =>
        sIf x24 (
          K (.bool true) w) (
          stillS C w (fun w k => sBin Tryd.prog .sub 3 false true i1 (.int .i64 1) w k) fun x28 =>
          stillS C w (fun w k => sIdxA Tryd.prog 46 l0 x28 w k) fun x29 =>
          stillS C w (fun w k => sFldA Tryd.prog 58 x29 3 w k) fun x30 =>
          stillS C w (fun w k => sLoad Tryd.prog 3 x30 w k) fun x31 =>
          stillS C w (fun w k => sFldA Tryd.prog 58 c5 3 w k) fun x32 =>
          stillS C w (fun w k => sLoad Tryd.prog 3 x32 w k) fun x33 =>
          stillS C w (fun w k => sBin Tryd.prog .neq 3 false false x31 x33 w k) fun x34 =>
          K x34 w)) (
        K (.bool false) w)))

def bodkinref18_Stop.sc : SC := (.seq (.reg (.op 0 .done)) (.seq (.reg (.op 0 (.op 1 (.op 2 (.op 3 (.op 4 (.op 5 .done))))))) (.seq (.draw (.op 0 (.op 1 (.op 2 (.op 3 (.test 3 (.skip 4 (.skip 5 (.skip 6 (.op 7 (.op 8 (.know 8 true (.skip 9 (.skip 10 (.skip 11 (.skip 12 (.skip 13 (.skip 14 (.skip 15 (.skip 16 (.skip 17 (.skip 18 (.skip 19 (.skip 20 (.skip 21 (.skip 22 (.skip 23 (.skip 24 (.skip 25 (.skip 26 (.op 27 (.op 28 .done)))))))))))))))))))))))))) (.op 4 (.op 5 (.op 6 (.op 7 (.op 8 (.test 8 (.skip 9 (.skip 10 (.skip 11 (.skip 12 (.skip 13 (.skip 14 (.skip 15 (.skip 16 (.skip 17 (.skip 18 (.skip 19 (.skip 20 (.skip 21 (.skip 22 (.skip 23 (.skip 24 (.skip 25 (.skip 26 (.op 27 (.op 28 .done)))))))))))))))))))) (.op 9 (.op 10 (.op 11 (.op 12 (.test 12 (.op 13 (.op 14 (.op 15 (.test 15 (.skip 16 (.skip 17 (.skip 18 (.skip 19 (.skip 20 (.skip 21 (.skip 22 (.skip 23 (.skip 24 (.op 25 (.op 26 (.op 27 (.op 28 .done))))))))))))) (.op 16 (.op 17 (.op 18 (.op 19 (.op 20 (.op 21 (.op 22 (.op 23 (.op 24 (.op 25 (.op 26 (.op 27 (.op 28 .done))))))))))))))))) (.skip 13 (.skip 14 (.skip 15 (.skip 16 (.skip 17 (.skip 18 (.skip 19 (.skip 20 (.skip 21 (.skip 22 (.skip 23 (.skip 24 (.skip 25 (.op 26 (.op 27 (.op 28 .done))))))))))))))))))))))))))))))))) .nop)))

theorem bodkinref18_Stop.ok : okC Tryd.f32.ntmps bodkinref18_Stop.sc (bodyOf Tryd.f32) = true := by kernel_rfl

theorem bodkinref18_Stop.eq {K : K1} {l0 i1 : Value} {w : World} : bodkinref18_Stop K l0 i1 w = codeS Tryd.prog bodkinref18_Stop.sc (bodyOf Tryd.f32) (argsF 0 [l0, i1]) w (retQ Tryd.prog Tryd.f32.results.toList K) := by kernel_rfl

theorem bodkinref18_Stop.call {K : K1} {l0 i1 : Value} {w : World} (h : bodkinref18_Stop K l0 i1 w) : sCall Tryd.prog 32 [l0, i1] w K := sCall_code mixed Tryd.func32 (by kernel_rfl) rfl rfl bodkinref18_Stop.ok bodkinref18_Stop.eq h

abbrev bodkinref18_Stop.n : Nat := 32

/-- 'bodkin cells.Blank' -/
def cells_Blank (K : K1) (c0 : Value) (w : World) : Prop :=
  sBox Tryd.prog 58 c0 w fun c1 w =>
  sFldA Tryd.prog 58 c1 0 w fun x3 w =>
  sLoad Tryd.prog 21 x3 w fun x4 w =>
  sBin Tryd.prog .eql 21 false true x4 (.int .i32 32) w fun x5 w =>
  sIf x5 (
    K (.bool true) w) (
    sFldA Tryd.prog 58 c1 0 w fun x7 w =>
    sLoad Tryd.prog 21 x7 w fun x8 w =>
    sBin Tryd.prog .eql 21 false true x8 (.int .i32 9) w fun x9 w =>
    K x9 w)

def cells_Blank.sc : SC := (.seq (.reg (.op 0 (.op 1 .done))) (.seq (.reg (.op 0 (.op 1 (.op 2 (.op 3 (.test 3 (.skip 4 (.skip 5 (.skip 6 (.op 7 (.op 8 .done))))) (.op 4 (.op 5 (.op 6 (.op 7 (.op 8 .done))))))))))) .nop))

theorem cells_Blank.ok : okC Tryd.f33.ntmps cells_Blank.sc (bodyOf Tryd.f33) = true := by kernel_rfl

theorem cells_Blank.eq {K : K1} {c0 : Value} {w : World} : cells_Blank K c0 w = codeS Tryd.prog cells_Blank.sc (bodyOf Tryd.f33) (argsF 0 [c0]) w (retQ Tryd.prog Tryd.f33.results.toList K) := by kernel_rfl

theorem cells_Blank.call {K : K1} {c0 : Value} {w : World} (h : cells_Blank K c0 w) : sCall Tryd.prog 33 [c0] w K := sCall_code mixed Tryd.func33 (by kernel_rfl) rfl rfl cells_Blank.ok cells_Blank.eq h

abbrev cells_Blank.n : Nat := 33

/-- 'bodkin stops.right' -/
def stops_right (K : K1) (tab0 : Value) (w : World) : Prop :=
  sBin Tryd.prog .geq 3 false true tab0 (.int .i64 1) w fun x4 w =>
  sIf x4 (
    sBin Tryd.prog .leq 3 false true tab0 (.int .i64 16) w fun x7 w =>
    K x7 w) (
    K (.bool false) w)

def stops_right.sc : SC := (.seq (.reg (.op 0 .done)) (.seq (.reg (.op 0 (.op 1 (.op 2 (.test 2 (.op 3 (.op 4 (.op 5 (.op 6 .done)))) (.skip 3 (.skip 4 (.op 5 (.op 6 .done))))))))) .nop))

theorem stops_right.ok : okC Tryd.f34.ntmps stops_right.sc (bodyOf Tryd.f34) = true := by kernel_rfl

theorem stops_right.eq {K : K1} {tab0 : Value} {w : World} : stops_right K tab0 w = codeS Tryd.prog stops_right.sc (bodyOf Tryd.f34) (argsF 0 [tab0]) w (retQ Tryd.prog Tryd.f34.results.toList K) := by kernel_rfl

theorem stops_right.call {K : K1} {tab0 : Value} {w : World} (h : stops_right K tab0 w) : sCall Tryd.prog 34 [tab0] w K := sCall_code mixed Tryd.func34 (by kernel_rfl) rfl rfl stops_right.ok stops_right.eq h

abbrev stops_right.n : Nat := 34

/-- 'bodkin stops.each' -/
def stops_each_L1 (K : K1) (Nx1 : List Value → World → Prop) (f3 line1 t0 tab2 x13 : Value) (at8 x14 : Value) (w : World) : Prop :=
  sBin Tryd.prog .lss 3 false false x14 x13 w fun x15 w =>
  sIf x15 (
    sIdxA Tryd.prog 22 line1 x14 w fun x17 w =>
    sLoad Tryd.prog 21 x17 w fun x18 w =>
    sCall Tryd.prog 42 [t0, x18, tab2, at8] w fun x23 w =>
    sDyn Tryd.prog f3 [x14, at8, x23] w fun x28 w =>
    sUn Tryd.prog .not x28 w fun x29 w =>
    sIf x29 (
      K (.tuple #[]) w) (
      sBin Tryd.prog .add 3 false false at8 x23 w fun x32 w =>
      sBin Tryd.prog .add 3 false true x14 (.int .i64 1) w fun x33 w =>
      Nx1 [x32, x33] w)) (
    sBuiltin Tryd.prog .len [22] 3 [line1] w fun x36 w =>
    sDyn Tryd.prog f3 [x36, at8, (.int .i64 0)] w fun x38 w =>
    K (.tuple #[]) w)

def stops_each (K : K1) (t0 line1 tab2 f3 : Value) (w : World) : Prop :=
  sBuiltin Tryd.prog .len [22] 3 [line1] w fun x13 w =>
  LoopS [(.int .i64 0), (.int .i64 0)] 2 22 w fun us _ w Nx1 =>
    stops_each_L1 K Nx1 f3 line1 t0 tab2 x13 (hd us) (hd (tl us)) w

def stops_each.sc : SC := (.seq (.reg (.op 0 .done)) (.seq (.seq (.reg (.op 0 (.op 1 (.op 2 .done)))) (.sub (.loop [8, 14] [15, 16, 17, 18, 9, 10, 19, 20, 21, 22, 23, 11, 24, 25, 26, 27, 28, 29, 30, 31, 32, 33] (.seq (.reg (.op 0 .done)) (.seq (.cond .nop .nop) (.seq (.sub (.seq (.reg (.op 0 (.op 1 (.op 2 (.op 3 (.op 4 .done)))))) (.seq (.reg (.op 0 (.op 1 (.op 2 (.op 3 (.op 4 (.op 5 .done))))))) (.seq (.seq (.reg (.op 0 (.op 1 (.op 2 (.op 3 (.op 4 (.op 5 .done))))))) (.cond .nop .nop)) (.reg (.op 0 (.op 1 (.op 2 (.op 3 .done))))))))) (.reg (.op 0 (.op 1 .done))))))))) (.reg (.op 0 (.op 1 (.op 2 (.op 3 (.op 4 .done))))))))

theorem stops_each.ok : okC Tryd.f35.ntmps stops_each.sc (bodyOf Tryd.f35) = true := by kernel_rfl

theorem stops_each.eq {K : K1} {t0 line1 tab2 f3 : Value} {w : World} : stops_each K t0 line1 tab2 f3 w = codeS Tryd.prog stops_each.sc (bodyOf Tryd.f35) (argsF 0 [t0, line1, tab2, f3]) w (retQ Tryd.prog Tryd.f35.results.toList K) := by kernel_rfl

theorem stops_each.call {K : K1} {t0 line1 tab2 f3 : Value} {w : World} (h : stops_each K t0 line1 tab2 f3 w) : sCall Tryd.prog 35 [t0, line1, tab2, f3] w K := sCall_code mixed Tryd.func35 (by kernel_rfl) rfl rfl stops_each.ok stops_each.eq h

abbrev stops_each.n : Nat := 35

/-- 'bodkin stops.Sizes$1' -/
def stops_Sizes_1 (K : K1) (i0 at1 n2 x3 x4 : Value) (w : World) : Prop :=
  sLoad Tryd.prog 22 x3 w fun x10 w =>
  sBuiltin Tryd.prog .len [22] 3 [x10] w fun x11 w =>
  sBin Tryd.prog .lss 3 false false i0 x11 w fun x12 w =>
  sIf x12 (
    sLoad Tryd.prog 24 x4 w fun x13 w =>
    sBuildSlice Tryd.prog 24 1 [(0, n2)] w fun x15 w =>
    sBuiltin Tryd.prog .append [24, 24] 24 [x13, x15] w fun x16 w =>
    sStore Tryd.prog 24 x4 x16 w fun w =>
    K (.bool true) w) (
    K (.bool true) w)

def stops_Sizes_1.sc : SC := (.seq (.reg (.op 0 .done)) (.seq (.seq (.reg (.op 0 (.op 1 (.op 2 (.op 3 .done))))) (.cond (.reg (.op 0 (.op 1 (.op 2 (.op 3 (.op 4 .done)))))) .nop)) (.seq (.reg (.op 0 .done)) .nop)))

theorem stops_Sizes_1.ok : okC Tryd.f36.ntmps stops_Sizes_1.sc (bodyOf Tryd.f36) = true := by kernel_rfl

theorem stops_Sizes_1.eq {K : K1} {i0 at1 n2 x3 x4 : Value} {w : World} : stops_Sizes_1 K i0 at1 n2 x3 x4 w = codeS Tryd.prog stops_Sizes_1.sc (bodyOf Tryd.f36) (argsF 0 [i0, at1, n2, x3, x4]) w (retQ Tryd.prog Tryd.f36.results.toList K) := by kernel_rfl

theorem stops_Sizes_1.call {K : K1} {i0 at1 n2 x3 x4 : Value} {w : World} (h : stops_Sizes_1 K i0 at1 n2 x3 x4 w) : sCall Tryd.prog 36 [i0, at1, n2, x3, x4] w K := sCall_code mixed Tryd.func36 (by kernel_rfl) rfl rfl stops_Sizes_1.ok stops_Sizes_1.eq h

abbrev stops_Sizes_1.n : Nat := 36

/-- '(*bodkin bodkinref02.Table).Of' -/
def bodkinref02_Table_Of (K : K1) (t0 r1 : Value) (w : World) : Prop :=
  sNil t0 w fun x6 w =>
  sFldA Tryd.prog 78 x6 0 w fun x7 w =>
  sLoad Tryd.prog 76 x7 w fun x8 w =>
  sCall Tryd.prog 43 [x8, r1] w fun x10 w =>
  sIf x10 (
    K (.int .i64 0) w) (
    sNil t0 w fun x12 w =>
    sFldA Tryd.prog 78 x12 1 w fun x13 w =>
    sLoad Tryd.prog 76 x13 w fun x14 w =>
    sCall Tryd.prog 43 [x14, r1] w fun x16 w =>
    sIf x16 (
      K (.int .i64 2) w) (
      K (.int .i64 1) w))

def bodkinref02_Table_Of.sc : SC := (.seq (.reg (.op 0 .done)) (.seq (.seq (.reg (.op 0 (.op 1 (.op 2 (.op 3 (.op 4 (.op 5 .done))))))) (.cond (.seq (.reg (.op 0 .done)) .nop) .nop)) (.seq (.seq (.reg (.op 0 (.op 1 (.op 2 (.op 3 (.op 4 (.op 5 .done))))))) (.cond (.seq (.reg (.op 0 .done)) .nop) .nop)) (.seq (.reg (.op 0 .done)) .nop))))

theorem bodkinref02_Table_Of.ok : okC Tryd.f37.ntmps bodkinref02_Table_Of.sc (bodyOf Tryd.f37) = true := by kernel_rfl

theorem bodkinref02_Table_Of.eq {K : K1} {t0 r1 : Value} {w : World} : bodkinref02_Table_Of K t0 r1 w = codeS Tryd.prog bodkinref02_Table_Of.sc (bodyOf Tryd.f37) (argsF 0 [t0, r1]) w (retQ Tryd.prog Tryd.f37.results.toList K) := by kernel_rfl

theorem bodkinref02_Table_Of.call {K : K1} {t0 r1 : Value} {w : World} (h : bodkinref02_Table_Of K t0 r1 w) : sCall Tryd.prog 37 [t0, r1] w K := sCall_code mixed Tryd.func37 (by kernel_rfl) rfl rfl bodkinref02_Table_Of.ok bodkinref02_Table_Of.eq h

abbrev bodkinref02_Table_Of.n : Nat := 37

/-- 'bodkin stops.Cell$1' -/
def stops_Cell_1 (K : K1) (i0 at1 n2 x3 x4 : Value) (w : World) : Prop :=
  sStore Tryd.prog 3 x3 at1 w fun w =>
  sFldA Tryd.prog 38 x4 1 w fun x11 w =>
  sLoad Tryd.prog 3 x11 w fun x12 w =>
  sBin Tryd.prog .lss 3 false false i0 x12 w fun x13 w =>
  K x13 w

def stops_Cell_1.sc : SC := (.seq (.reg (.op 0 .done)) (.seq (.reg (.op 0 (.op 1 .done))) (.seq (.reg (.op 0 (.op 1 (.op 2 (.op 3 (.op 4 .done)))))) .nop)))

theorem stops_Cell_1.ok : okC Tryd.f38.ntmps stops_Cell_1.sc (bodyOf Tryd.f38) = true := by kernel_rfl

theorem stops_Cell_1.eq {K : K1} {i0 at1 n2 x3 x4 : Value} {w : World} : stops_Cell_1 K i0 at1 n2 x3 x4 w = codeS Tryd.prog stops_Cell_1.sc (bodyOf Tryd.f38) (argsF 0 [i0, at1, n2, x3, x4]) w (retQ Tryd.prog Tryd.f38.results.toList K) := by kernel_rfl

theorem stops_Cell_1.call {K : K1} {i0 at1 n2 x3 x4 : Value} {w : World} (h : stops_Cell_1 K i0 at1 n2 x3 x4 w) : sCall Tryd.prog 38 [i0, at1, n2, x3, x4] w K := sCall_code mixed Tryd.func38 (by kernel_rfl) rfl rfl stops_Cell_1.ok stops_Cell_1.eq h

abbrev stops_Cell_1.n : Nat := 38

/-- 'bodkin stops.Place$1' -/
def stops_Place_1_J1 (K : K1) (at1 n2 x6 : Value) (w : World) : Prop :=
  sBin Tryd.prog .add 3 false false at1 n2 w fun x22 w =>
  sStore Tryd.prog 3 x6 x22 w fun w =>
  K (.bool true) w

def stops_Place_1 (K : K1) (i0 at1 n2 x3 x4 x5 x6 : Value) (w : World) : Prop :=
  JoinS 0 9 (fun M1 =>
    sFldA Tryd.prog 38 x3 1 w fun x12 w =>
    sLoad Tryd.prog 3 x12 w fun x13 w =>
    sBin Tryd.prog .leq 3 false false at1 x13 w fun x14 w =>
    sIf x14 (
      DrawS w fun C w =>
      stillS C w (fun w k => sFldA Tryd.prog 38 x3 1 w k) fun x16 =>
      stillS C w (fun w k => sLoad Tryd.prog 3 x16 w k) fun x17 =>
      stillS C w (fun w k => sBin Tryd.prog .sub 3 false false x17 at1 w k) fun x19 =>
      sStore Tryd.prog 3 x4 i0 w fun w => C w ∧
      sStore Tryd.prog 3 x5 x19 w fun w =>
      M1 [] w) (
      M1 [] w)) fun us _ w =>
    stops_Place_1_J1 K at1 n2 x6 w

def stops_Place_1.sc : SC := (.seq (.reg (.op 0 .done)) (.join [] [11, 12, 13, 14, 15, 16, 17, 18, 19] (.seq (.reg (.op 0 (.op 1 (.op 2 (.op 3 .done))))) (.cond (.draw (.op 0 (.op 1 (.op 2 (.op 3 (.op 4 (.op 5 (.fin 6 .done)))))))) .nop)) (.seq (.reg (.op 0 (.op 1 (.op 2 (.op 3 .done))))) (.seq (.reg (.op 0 .done)) .nop))))

theorem stops_Place_1.ok : okC Tryd.f39.ntmps stops_Place_1.sc (bodyOf Tryd.f39) = true := by kernel_rfl

theorem stops_Place_1.eq {K : K1} {i0 at1 n2 x3 x4 x5 x6 : Value} {w : World} : stops_Place_1 K i0 at1 n2 x3 x4 x5 x6 w = codeS Tryd.prog stops_Place_1.sc (bodyOf Tryd.f39) (argsF 0 [i0, at1, n2, x3, x4, x5, x6]) w (retQ Tryd.prog Tryd.f39.results.toList K) := by kernel_rfl

theorem stops_Place_1.call {K : K1} {i0 at1 n2 x3 x4 x5 x6 : Value} {w : World} (h : stops_Place_1 K i0 at1 n2 x3 x4 x5 x6 w) : sCall Tryd.prog 39 [i0, at1, n2, x3, x4, x5, x6] w K := sCall_code mixed Tryd.func39 (by kernel_rfl) rfl rfl stops_Place_1.ok stops_Place_1.eq h

abbrev stops_Place_1.n : Nat := 39

/-- 'bodkin cells.flat' -/
def cells_flat_L3 (Nx1 : List Value → World → Prop) (Nx3 : List Value → World → Prop) (p6 step7 x12 x25 x26 : Value) (out4_1 x27 : Value) (w : World) : Prop :=
  sBin Tryd.prog .lss 3 false false x27 x26 w fun x28 w =>
  sIf x28 (
    sIdxA Tryd.prog 22 x25 x27 w fun x30 w =>
    sLoad Tryd.prog 21 x30 w fun x31 w =>
    sFldA Tryd.prog 56 p6 0 w fun x34 w =>
    sLoad Tryd.prog 3 x34 w fun x35 w =>
    sFldA Tryd.prog 56 p6 1 w fun x36 w =>
    sLoad Tryd.prog 3 x36 w fun x37 w =>
    sBin Tryd.prog .mul 3 false false step7 x27 w fun x40 w =>
    sBin Tryd.prog .add 3 false false x37 x40 w fun x41 w =>
    sBuild Tryd.prog 58 [(0, x31), (1, x35), (3, x41)] w fun x42 w =>
    sBuildSlice Tryd.prog 46 1 [(0, x42)] w fun x43 w =>
    sBuiltin Tryd.prog .append [46, 46] 46 [out4_1, x43] w fun x44 w =>
    sBin Tryd.prog .add 3 false true x27 (.int .i64 1) w fun x45 w =>
    Nx3 [x44, x45] w) (
    sBin Tryd.prog .add 3 false true x12 (.int .i64 1) w fun x54_1 w =>
    Nx1 [out4_1, x54_1] w)

def cells_flat_J2 (Nx1 : List Value → World → Prop) (out4 p6 x12 : Value) (step7 : Value) (w : World) : Prop :=
  sFldA Tryd.prog 56 p6 2 w fun x24 w =>
  sLoad Tryd.prog 22 x24 w fun x25 w =>
  sBuiltin Tryd.prog .len [22] 3 [x25] w fun x26 w =>
  LoopS [out4, (.int .i64 0)] 2 20 w fun us _ w Nx3 =>
    cells_flat_L3 Nx1 Nx3 p6 step7 x12 x25 x26 (hd us) (hd (tl us)) w

def cells_flat_L1 (K : K1) (Nx1 : List Value → World → Prop) (l0 x11 : Value) (out4 x12 : Value) (w : World) : Prop :=
  sBin Tryd.prog .lss 3 false false x12 x11 w fun x13 w =>
  sIf x13 (
    sIdxA Tryd.prog 44 l0 x12 w fun x14 w =>
    sLoad Tryd.prog 56 x14 w fun x15 w =>
    sAlloc Tryd.prog 56 w fun p6 w =>
    sStore Tryd.prog 56 p6 x15 w fun w =>
    sFldA Tryd.prog 56 p6 0 w fun x16 w =>
    sLoad Tryd.prog 3 x16 w fun x17 w =>
    JoinS 1 6 (fun M2 =>
      sBin Tryd.prog .eql 3 false true x17 (.int .i64 1) w fun x19 w =>
      sIf x19 (
        M2 [(.int .i64 1)] w) (
        sBin Tryd.prog .eql 3 false true x17 (.int .i64 2) w fun x21 w =>
        sIf x21 (
          M2 [(.int .i64 0)] w) (
          sBin Tryd.prog .eql 3 false true x17 (.int .i64 3) w fun x23 w =>
          sIf x23 (
            sFldA Tryd.prog 56 p6 0 w fun x47 w =>
            sLoad Tryd.prog 3 x47 w fun x48 w =>
            sFldA Tryd.prog 56 p6 1 w fun x49 w =>
            sLoad Tryd.prog 3 x49 w fun x50 w =>
            sBuild Tryd.prog 58 [(0, (.int .i32 8230)), (1, x48), (3, x50)] w fun x51 w =>
            sBuildSlice Tryd.prog 46 1 [(0, x51)] w fun x52 w =>
            sBuiltin Tryd.prog .append [46, 46] 46 [out4, x52] w fun x53 w =>
            sBin Tryd.prog .add 3 false true x12 (.int .i64 1) w fun x54 w =>
            Nx1 [x53, x54] w) (
            K (.tuple #[(.slice none 0 0), (.bool false)]) w)))) fun us _ w =>
      cells_flat_J2 Nx1 out4 p6 x12 (hd us) w) (
    K (.tuple #[out4, (.bool true)]) w)

def cells_flat (K : K1) (l0 : Value) (w : World) : Prop :=
  sBuiltin Tryd.prog .len [44] 3 [l0] w fun x11 w =>
  LoopS [(.slice none 0 0), (.int .i64 0)] 2 48 w fun us _ w Nx1 =>
    cells_flat_L1 K Nx1 l0 x11 (hd us) (hd (tl us)) w

def cells_flat.sc : SC := (.seq (.reg (.op 0 (.op 1 .done))) (.seq (.reg (.op 0 .done)) (.seq (.seq (.reg (.op 0 (.op 1 (.op 2 .done)))) (.sub (.loop [4, 12] [13, 14, 15, 6, 7, 16, 17, 19, 18, 21, 20, 23, 22, 24, 25, 26, 27, 28, 29, 30, 31, 8, 9, 32, 33, 34, 35, 36, 37, 38, 39, 40, 41, 42, 43, 44, 45, 46, 47, 48, 49, 50, 51, 52, 53, 2, 3, 54] (.seq (.reg (.op 0 .done)) (.seq (.cond .nop .nop) (.seq (.sub (.seq (.reg (.op 0 (.op 1 (.op 2 (.op 3 .done))))) (.seq (.reg (.op 0 .done)) (.seq (.reg (.op 0 (.op 1 .done))) (.sub (.seq (.sub (.seq (.sub (.join [7] [19, 18, 21, 20, 23, 22] (.sub (.seq (.sub (.seq (.seq (.seq (.reg (.op 0 (.op 1 .done))) (.cond .nop .nop)) (.seq (.seq (.reg (.op 0 (.op 1 .done))) (.cond .nop .nop)) (.seq (.reg (.op 0 (.op 1 .done))) (.cond .nop .nop)))) .nop)) (.reg (.op 0 .done)))) (.seq (.seq (.reg (.op 0 (.op 1 (.op 2 (.op 3 .done))))) (.sub (.loop [4, 27] [28, 29, 30, 31, 8, 9, 32, 33, 34, 35, 36, 37, 38, 39, 40, 41, 42, 43, 44, 45] (.seq (.reg (.op 0 .done)) (.seq (.cond .nop .nop) (.seq (.sub (.seq (.reg (.op 0 (.op 1 (.op 2 (.op 3 (.op 4 .done)))))) (.reg (.op 0 (.op 1 (.op 2 (.op 3 (.op 4 (.op 5 (.op 6 (.op 7 (.op 8 (.op 9 (.op 10 (.op 11 (.op 12 (.op 13 .done))))))))))))))))) (.reg (.op 0 (.op 1 .done))))))))) .nop))) (.seq (.reg (.op 0 (.op 1 (.op 2 (.op 3 (.op 4 (.op 5 (.op 6 (.op 7 (.op 8 .done)))))))))) .nop))) (.seq (.seq (.reg (.op 0 (.op 1 .done))) .nop) .nop))))))) (.reg (.op 0 (.op 1 .done))))))))) (.seq (.reg (.op 0 (.op 1 (.op 2 .done)))) .nop))))

theorem cells_flat.ok : okC Tryd.f40.ntmps cells_flat.sc (bodyOf Tryd.f40) = true := by kernel_rfl

theorem cells_flat.eq {K : K1} {l0 : Value} {w : World} : cells_flat K l0 w = codeS Tryd.prog cells_flat.sc (bodyOf Tryd.f40) (argsF 0 [l0]) w (retQ Tryd.prog Tryd.f40.results.toList K) := by kernel_rfl

theorem cells_flat.call {K : K1} {l0 : Value} {w : World} (h : cells_flat K l0 w) : sCall Tryd.prog 40 [l0] w K := sCall_code mixed Tryd.func40 (by kernel_rfl) rfl rfl cells_flat.ok cells_flat.eq h

abbrev cells_flat.n : Nat := 40

/-- 'bodkin bodkinref18.runes' -/
def bodkinref18_runes (K : K1) (p0 : Value) (w : World) : Prop :=
  sBox Tryd.prog 81 p0 w fun p1 w =>
  sFldA Tryd.prog 81 p1 0 w fun x3 w =>
  sLoad Tryd.prog 3 x3 w fun x4 w =>
  sBin Tryd.prog .eql 3 false true x4 (.int .i64 3) w fun x5 w =>
  sIf x5 (
    sBuildSlice Tryd.prog 22 1 [(0, (.int .i32 8230))] w fun x6 w =>
    K x6 w) (
    sFldA Tryd.prog 81 p1 2 w fun x7 w =>
    sLoad Tryd.prog 22 x7 w fun x8 w =>
    K x8 w)

def bodkinref18_runes.sc : SC := (.seq (.reg (.op 0 (.op 1 .done))) (.seq (.seq (.reg (.op 0 (.op 1 (.op 2 .done)))) (.cond (.seq (.reg (.op 0 (.op 1 .done))) .nop) .nop)) (.seq (.reg (.op 0 (.op 1 (.op 2 .done)))) .nop)))

theorem bodkinref18_runes.ok : okC Tryd.f41.ntmps bodkinref18_runes.sc (bodyOf Tryd.f41) = true := by kernel_rfl

theorem bodkinref18_runes.eq {K : K1} {p0 : Value} {w : World} : bodkinref18_runes K p0 w = codeS Tryd.prog bodkinref18_runes.sc (bodyOf Tryd.f41) (argsF 0 [p0]) w (retQ Tryd.prog Tryd.f41.results.toList K) := by kernel_rfl

theorem bodkinref18_runes.call {K : K1} {p0 : Value} {w : World} (h : bodkinref18_runes K p0 w) : sCall Tryd.prog 41 [p0] w K := sCall_code mixed Tryd.func41 (by kernel_rfl) rfl rfl bodkinref18_runes.ok bodkinref18_runes.eq h

abbrev bodkinref18_runes.n : Nat := 41

/-- 'bodkin stops.size' -/
def stops_size (K : K1) (t0 r1 tab2 at3 : Value) (w : World) : Prop :=
  sBin Tryd.prog .neq 21 false true r1 (.int .i32 9) w fun x11 w =>
  sIf x11 (
    sCall Tryd.prog 44 [t0, r1] w fun x14 w =>
    K x14 w) (
    sBin Tryd.prog .geq 3 false true at3 (.int .i64 64) w fun x17 w =>
    sIf x17 (
      K (.int .i64 1) w) (
      sBin Tryd.prog .rem 3 false false at3 tab2 w fun x21 w =>
      sBin Tryd.prog .sub 3 false false tab2 x21 w fun x22 w =>
      K x22 w))

def stops_size.sc : SC := (.seq (.reg (.op 0 .done)) (.seq (.sub (.seq (.reg (.op 0 (.op 1 (.op 2 .done)))) (.cond (.seq (.reg (.op 0 (.op 1 (.op 2 (.op 3 .done))))) .nop) (.seq (.reg (.op 0 (.op 1 (.op 2 .done)))) (.cond (.seq (.reg (.op 0 .done)) .nop) .nop))))) (.seq (.reg (.op 0 (.op 1 (.op 2 (.op 3 (.op 4 (.op 5 .done))))))) .nop)))

theorem stops_size.ok : okC Tryd.f42.ntmps stops_size.sc (bodyOf Tryd.f42) = true := by kernel_rfl

theorem stops_size.eq {K : K1} {t0 r1 tab2 at3 : Value} {w : World} : stops_size K t0 r1 tab2 at3 w = codeS Tryd.prog stops_size.sc (bodyOf Tryd.f42) (argsF 0 [t0, r1, tab2, at3]) w (retQ Tryd.prog Tryd.f42.results.toList K) := by kernel_rfl

theorem stops_size.call {K : K1} {t0 r1 tab2 at3 : Value} {w : World} (h : stops_size K t0 r1 tab2 at3 w) : sCall Tryd.prog 42 [t0, r1, tab2, at3] w K := sCall_code mixed Tryd.func42 (by kernel_rfl) rfl rfl stops_size.ok stops_size.eq h

abbrev stops_size.n : Nat := 42

/-- 'bodkin bodkinref02.in' -/
def bodkinref02_in_L1 (K : K1) (Nx1 : List Value → World → Prop) (l0 r1 x8 : Value) (x9 : Value) (w : World) : Prop :=
  sBin Tryd.prog .lss 3 false false x9 x8 w fun x10 w =>
  sIf x10 (
    sIdxA Tryd.prog 76 l0 x9 w fun x11 w =>
    sLoad Tryd.prog 75 x11 w fun x12 w =>
    sAlloc Tryd.prog 75 w fun x6 w =>
    sStore Tryd.prog 75 x6 x12 w fun w =>
    sFldA Tryd.prog 75 x6 0 w fun x14 w =>
    sLoad Tryd.prog 21 x14 w fun x15 w =>
    sBin Tryd.prog .geq 21 false false r1 x15 w fun x16 w =>
    sIf x16 (
      sFldA Tryd.prog 75 x6 1 w fun x19 w =>
      sLoad Tryd.prog 21 x19 w fun x20 w =>
      sBin Tryd.prog .leq 21 false false r1 x20 w fun x21 w =>
      sIf x21 (
        K (.bool true) w) (
        sBin Tryd.prog .add 3 false true x9 (.int .i64 1) w fun x23 w =>
        Nx1 [x23] w)) (
      sBin Tryd.prog .add 3 false true x9 (.int .i64 1) w fun x23_1 w =>
      Nx1 [x23_1] w)) (
    K (.bool false) w)

def bodkinref02_in (K : K1) (l0 r1 : Value) (w : World) : Prop :=
  sBuiltin Tryd.prog .len [76] 3 [l0] w fun x8 w =>
  LoopS [(.int .i64 0)] 1 16 w fun us _ w Nx1 =>
    bodkinref02_in_L1 K Nx1 l0 r1 x8 (hd us) w

def bodkinref02_in.sc : SC := (.seq (.reg (.op 0 .done)) (.seq (.seq (.reg (.op 0 (.op 1 (.op 2 .done)))) (.sub (.loop [9] [10, 11, 12, 6, 13, 14, 15, 16, 17, 18, 19, 20, 21, 22, 4, 23] (.seq (.reg (.op 0 .done)) (.seq (.cond .nop .nop) (.seq (.sub (.seq (.reg (.op 0 (.op 1 (.op 2 (.op 3 .done))))) (.seq (.reg (.op 0 (.op 1 (.op 2 (.op 3 (.op 4 (.test 4 (.op 5 (.op 6 (.op 7 (.op 8 (.op 9 .done))))) (.skip 5 (.skip 6 (.skip 7 (.skip 8 (.op 9 .done)))))))))))) (.cond (.seq (.reg (.op 0 .done)) .nop) .nop)))) (.reg (.op 0 (.op 1 .done))))))))) (.seq (.reg (.op 0 .done)) .nop)))

theorem bodkinref02_in.ok : okC Tryd.f43.ntmps bodkinref02_in.sc (bodyOf Tryd.f43) = true := by kernel_rfl

theorem bodkinref02_in.eq {K : K1} {l0 r1 : Value} {w : World} : bodkinref02_in K l0 r1 w = codeS Tryd.prog bodkinref02_in.sc (bodyOf Tryd.f43) (argsF 0 [l0, r1]) w (retQ Tryd.prog Tryd.f43.results.toList K) := by kernel_rfl

theorem bodkinref02_in.call {K : K1} {l0 r1 : Value} {w : World} (h : bodkinref02_in K l0 r1 w) : sCall Tryd.prog 43 [l0, r1] w K := sCall_code mixed Tryd.func43 (by kernel_rfl) rfl rfl bodkinref02_in.ok bodkinref02_in.eq h

abbrev bodkinref02_in.n : Nat := 43

/-- '(*bodkin width.Table).Of' -/
def width_Table_Of (K : K1) (t0 r1 : Value) (w : World) : Prop :=
  sBin Tryd.prog .eql 28 false true t0 (.pointer none) w fun x7 w =>
  sIf x7 (
    K (.int .i64 1) w) (
    sNil t0 w fun x10 w =>
    sFldA Tryd.prog 69 x10 0 w fun x11 w =>
    sLoad Tryd.prog 67 x11 w fun x12 w =>
    sCall Tryd.prog 45 [x12, r1] w fun x14 w =>
    sIf x14 (
      K (.int .i64 0) w) (
      sNil t0 w fun x17 w =>
      sFldA Tryd.prog 69 x17 1 w fun x18 w =>
      sLoad Tryd.prog 67 x18 w fun x19 w =>
      sCall Tryd.prog 45 [x19, r1] w fun x21 w =>
      sIf x21 (
        K (.int .i64 2) w) (
        K (.int .i64 1) w)))

def width_Table_Of.sc : SC := (.seq (.reg (.op 0 .done)) (.seq (.sub (.seq (.reg (.op 0 (.op 1 (.op 2 .done)))) (.cond (.seq (.reg (.op 0 .done)) .nop) (.seq (.reg (.op 0 (.op 1 (.op 2 (.op 3 (.op 4 (.op 5 (.op 6 .done)))))))) (.cond (.seq (.reg (.op 0 .done)) .nop) (.seq (.reg (.op 0 (.op 1 (.op 2 (.op 3 (.op 4 (.op 5 (.op 6 .done)))))))) (.cond (.seq (.reg (.op 0 .done)) .nop) .nop))))))) (.seq (.reg (.op 0 .done)) .nop)))

theorem width_Table_Of.ok : okC Tryd.f44.ntmps width_Table_Of.sc (bodyOf Tryd.f44) = true := by kernel_rfl

theorem width_Table_Of.eq {K : K1} {t0 r1 : Value} {w : World} : width_Table_Of K t0 r1 w = codeS Tryd.prog width_Table_Of.sc (bodyOf Tryd.f44) (argsF 0 [t0, r1]) w (retQ Tryd.prog Tryd.f44.results.toList K) := by kernel_rfl

theorem width_Table_Of.call {K : K1} {t0 r1 : Value} {w : World} (h : width_Table_Of K t0 r1 w) : sCall Tryd.prog 44 [t0, r1] w K := sCall_code mixed Tryd.func44 (by kernel_rfl) rfl rfl width_Table_Of.ok width_Table_Of.eq h

abbrev width_Table_Of.n : Nat := 44

/-- 'bodkin width.in' -/
def width_in_L1 (K : K1) (Nx1 : List Value → World → Prop) (l0 r1 : Value) (high6 low5 found7 : Value) (w : World) : Prop :=
  sBin Tryd.prog .lss 3 false false low5 high6 w fun x13 w =>
  sIf x13 (
    sBin Tryd.prog .add 3 false false low5 high6 w fun x16 w =>
    sBin Tryd.prog .quo 3 false true x16 (.int .i64 2) w fun x17 w =>
    sIdxA Tryd.prog 67 l0 x17 w fun x22 w =>
    sFldA Tryd.prog 71 x22 0 w fun x23 w =>
    sLoad Tryd.prog 21 x23 w fun x24 w =>
    sBin Tryd.prog .lss 21 false false r1 x24 w fun x25 w =>
    sIf x25 (
      Nx1 [x17, low5, found7] w) (
      sIdxA Tryd.prog 67 l0 x17 w fun x31 w =>
      sFldA Tryd.prog 71 x31 1 w fun x32 w =>
      sLoad Tryd.prog 21 x32 w fun x33 w =>
      sBin Tryd.prog .gtr 21 false false r1 x33 w fun x34 w =>
      sIf x34 (
        sBin Tryd.prog .add 3 false true x17 (.int .i64 1) w fun x36 w =>
        Nx1 [high6, x36, found7] w) (
        K (.bool true) w))) (
    K found7 w)

def width_in (K : K1) (l0 r1 : Value) (w : World) : Prop :=
  sBuiltin Tryd.prog .len [67] 3 [l0] w fun x10 w =>
  LoopS [x10, (.int .i64 0), (.bool false)] 3 27 w fun us _ w Nx1 =>
    width_in_L1 K Nx1 l0 r1 (hd us) (hd (tl us)) (hd (tl (tl us))) w

def width_in.sc : SC := (.seq (.reg (.op 0 .done)) (.sub (.seq (.reg (.op 0 (.op 1 (.op 2 (.op 3 .done))))) (.seq (.reg (.op 0 .done)) (.seq .nop (.seq (.sub (.loop [6, 5, 7] [11, 12, 13, 14, 15, 16, 17, 8, 19, 20, 21, 22, 23, 24, 25, 18, 26, 28, 29, 30, 31, 32, 33, 34, 27, 35, 36] (.seq (.seq (.reg (.op 0 (.op 1 (.op 2 .done)))) (.cond .nop .nop)) (.sub (.seq (.reg (.op 0 (.op 1 (.op 2 (.op 3 (.op 4 .done)))))) (.sub (.seq (.reg (.op 0 (.op 1 (.op 2 (.op 3 (.op 4 (.op 5 (.op 6 (.op 7 .done))))))))) (.cond (.reg (.op 0 (.op 1 .done))) (.seq (.reg (.op 0 (.op 1 (.op 2 (.op 3 (.op 4 (.op 5 (.op 6 (.op 7 .done))))))))) (.cond (.reg (.op 0 (.op 1 (.op 2 .done)))) (.seq (.reg (.op 0 .done)) .nop))))))))))) (.seq (.reg (.op 0 (.op 1 .done))) .nop)))))))

theorem width_in.ok : okC Tryd.f45.ntmps width_in.sc (bodyOf Tryd.f45) = true := by kernel_rfl

theorem width_in.eq {K : K1} {l0 r1 : Value} {w : World} : width_in K l0 r1 w = codeS Tryd.prog width_in.sc (bodyOf Tryd.f45) (argsF 0 [l0, r1]) w (retQ Tryd.prog Tryd.f45.results.toList K) := by kernel_rfl

theorem width_in.call {K : K1} {l0 r1 : Value} {w : World} (h : width_in K l0 r1 w) : sCall Tryd.prog 45 [l0, r1] w K := sCall_code mixed Tryd.func45 (by kernel_rfl) rfl rfl width_in.ok width_in.eq h

abbrev width_in.n : Nat := 45

end S
end Go.Proofs.YtebedhnnokmlgaaDoor

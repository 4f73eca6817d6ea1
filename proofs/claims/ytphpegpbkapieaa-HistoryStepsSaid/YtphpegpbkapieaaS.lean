/- The functions of this seat, their code without slots, and that a call of each is what its code says: by program (lift.py). No conditions. -/
import Derived.Test.YtphpegpbkapieaaRsn
import Derived.Test.YtphpegpbkapieaaRows
import Derived.KernelRfl
namespace Go.Proofs.Ytphpegpbkapieaa
open Go Go.Lift
namespace S
set_option maxRecDepth 10000
set_option linter.unusedVariables false
theorem mixed : Try.prog.follows .mixedOrders = true := by kernel_rfl
abbrev T.int64 : Nat := 2
theorem tcell_int64 : cellQ Try.prog 2 = true := by kernel_rfl
theorem tsz_int64 : szQ Try.prog 2 = 1 := by kernel_rfl
theorem tby_int64 : byQ Try.prog 2 = 8 := by kernel_rfl
theorem tze_int64 : zeroQ Try.prog 2 = some [(.int .i64 0)] := by kernel_rfl
abbrev T.int : Nat := 3
theorem tcell_int : cellQ Try.prog 3 = true := by kernel_rfl
theorem tsz_int : szQ Try.prog 3 = 1 := by kernel_rfl
theorem tby_int : byQ Try.prog 3 = 8 := by kernel_rfl
theorem tze_int : zeroQ Try.prog 3 = some [(.int .i64 0)] := by kernel_rfl
abbrev T.bool : Nat := 4
theorem tcell_bool : cellQ Try.prog 4 = true := by kernel_rfl
theorem tsz_bool : szQ Try.prog 4 = 1 := by kernel_rfl
theorem tby_bool : byQ Try.prog 4 = 1 := by kernel_rfl
theorem tze_bool : zeroQ Try.prog 4 = some [(.bool false)] := by kernel_rfl
abbrev T.string : Nat := 9
theorem tcell_string : cellQ Try.prog 9 = true := by kernel_rfl
theorem tsz_string : szQ Try.prog 9 = 1 := by kernel_rfl
theorem tby_string : byQ Try.prog 9 = 16 := by kernel_rfl
theorem tze_string : zeroQ Try.prog 9 = some [(.string ⟨#[]⟩)] := by kernel_rfl
abbrev T.L_bodkinlaw12_Op : Nat := 22
theorem tcell_L_bodkinlaw12_Op : cellQ Try.prog 22 = true := by kernel_rfl
theorem tsz_L_bodkinlaw12_Op : szQ Try.prog 22 = 1 := by kernel_rfl
theorem tby_L_bodkinlaw12_Op : byQ Try.prog 22 = 24 := by kernel_rfl
theorem tze_L_bodkinlaw12_Op : zeroQ Try.prog 22 = some [(.slice none 0 0)] := by kernel_rfl
theorem tel_L_bodkinlaw12_Op : elQ Try.prog 22 = some 32 := by kernel_rfl
abbrev T.P_history_History : Nat := 23
theorem tcell_P_history_History : cellQ Try.prog 23 = true := by kernel_rfl
theorem tsz_P_history_History : szQ Try.prog 23 = 1 := by kernel_rfl
theorem tby_P_history_History : byQ Try.prog 23 = 8 := by kernel_rfl
theorem tze_P_history_History : zeroQ Try.prog 23 = some [(.pointer none)] := by kernel_rfl
theorem tpt_P_history_History : ptQ Try.prog 23 = true := by kernel_rfl
abbrev T.P_bodkinref12_History : Nat := 26
theorem tcell_P_bodkinref12_History : cellQ Try.prog 26 = true := by kernel_rfl
theorem tsz_P_bodkinref12_History : szQ Try.prog 26 = 1 := by kernel_rfl
theorem tby_P_bodkinref12_History : byQ Try.prog 26 = 8 := by kernel_rfl
theorem tze_P_bodkinref12_History : zeroQ Try.prog 26 = some [(.pointer none)] := by kernel_rfl
theorem tpt_P_bodkinref12_History : ptQ Try.prog 26 = true := by kernel_rfl
abbrev T.L_bodkinref12_Step : Nat := 27
theorem tcell_L_bodkinref12_Step : cellQ Try.prog 27 = true := by kernel_rfl
theorem tsz_L_bodkinref12_Step : szQ Try.prog 27 = 1 := by kernel_rfl
theorem tby_L_bodkinref12_Step : byQ Try.prog 27 = 24 := by kernel_rfl
theorem tze_L_bodkinref12_Step : zeroQ Try.prog 27 = some [(.slice none 0 0)] := by kernel_rfl
theorem tel_L_bodkinref12_Step : elQ Try.prog 27 = some 38 := by kernel_rfl
abbrev T.bodkinref12_History : Nat := 29
theorem tagg_bodkinref12_History : aggN Try.prog 29 = some 2 := by kernel_rfl
theorem tsz_bodkinref12_History : szQ Try.prog 29 = 2 := by kernel_rfl
theorem tby_bodkinref12_History : byQ Try.prog 29 = 32 := by kernel_rfl
theorem tze_bodkinref12_History : zeroQ Try.prog 29 = some [(.slice none 0 0), (.int .i64 0)] := by kernel_rfl
theorem tfl_bodkinref12_History_L : flQ Try.prog 29 0 = some 0 := by kernel_rfl
theorem tfl_bodkinref12_History_N : flQ Try.prog 29 1 = some 1 := by kernel_rfl
theorem tpl_bodkinref12_History : plQ Try.prog 29 = some [(0, 1), (1, 1)] := by kernel_rfl
abbrev T.L_api_Edit : Nat := 30
theorem tcell_L_api_Edit : cellQ Try.prog 30 = true := by kernel_rfl
theorem tsz_L_api_Edit : szQ Try.prog 30 = 1 := by kernel_rfl
theorem tby_L_api_Edit : byQ Try.prog 30 = 24 := by kernel_rfl
theorem tze_L_api_Edit : zeroQ Try.prog 30 = some [(.slice none 0 0)] := by kernel_rfl
theorem tel_L_api_Edit : elQ Try.prog 30 = some 48 := by kernel_rfl
abbrev T.bodkinlaw12_Op : Nat := 32
theorem tagg_bodkinlaw12_Op : aggN Try.prog 32 = some 3 := by kernel_rfl
theorem tsz_bodkinlaw12_Op : szQ Try.prog 32 = 3 := by kernel_rfl
theorem tby_bodkinlaw12_Op : byQ Try.prog 32 = 56 := by kernel_rfl
theorem tze_bodkinlaw12_Op : zeroQ Try.prog 32 = some [(.int .i64 0), (.slice none 0 0), (.slice none 0 0)] := by kernel_rfl
theorem tfl_bodkinlaw12_Op_What : flQ Try.prog 32 0 = some 0 := by kernel_rfl
theorem tfl_bodkinlaw12_Op_Back : flQ Try.prog 32 1 = some 1 := by kernel_rfl
theorem tfl_bodkinlaw12_Op_Forth : flQ Try.prog 32 2 = some 2 := by kernel_rfl
theorem tpl_bodkinlaw12_Op : plQ Try.prog 32 = some [(0, 1), (1, 1), (2, 1)] := by kernel_rfl
abbrev T.api_Errno : Nat := 33
theorem tcell_api_Errno : cellQ Try.prog 33 = true := by kernel_rfl
theorem tsz_api_Errno : szQ Try.prog 33 = 1 := by kernel_rfl
theorem tby_api_Errno : byQ Try.prog 33 = 8 := by kernel_rfl
theorem tze_api_Errno : zeroQ Try.prog 33 = some [(.int .i64 0)] := by kernel_rfl
abbrev T.history_Step : Nat := 36
theorem tagg_history_Step : aggN Try.prog 36 = some 2 := by kernel_rfl
theorem tsz_history_Step : szQ Try.prog 36 = 2 := by kernel_rfl
theorem tby_history_Step : byQ Try.prog 36 = 48 := by kernel_rfl
theorem tze_history_Step : zeroQ Try.prog 36 = some [(.slice none 0 0), (.slice none 0 0)] := by kernel_rfl
theorem tfl_history_Step_Back : flQ Try.prog 36 0 = some 0 := by kernel_rfl
theorem tfl_history_Step_Forth : flQ Try.prog 36 1 = some 1 := by kernel_rfl
theorem tpl_history_Step : plQ Try.prog 36 = some [(0, 1), (1, 1)] := by kernel_rfl
abbrev T.bodkinref12_Step : Nat := 38
theorem tagg_bodkinref12_Step : aggN Try.prog 38 = some 2 := by kernel_rfl
theorem tsz_bodkinref12_Step : szQ Try.prog 38 = 2 := by kernel_rfl
theorem tby_bodkinref12_Step : byQ Try.prog 38 = 48 := by kernel_rfl
theorem tze_bodkinref12_Step : zeroQ Try.prog 38 = some [(.slice none 0 0), (.slice none 0 0)] := by kernel_rfl
theorem tfl_bodkinref12_Step_Back : flQ Try.prog 38 0 = some 0 := by kernel_rfl
theorem tfl_bodkinref12_Step_Forth : flQ Try.prog 38 1 = some 1 := by kernel_rfl
theorem tpl_bodkinref12_Step : plQ Try.prog 38 = some [(0, 1), (1, 1)] := by kernel_rfl
abbrev T.api_Edit : Nat := 48
theorem tagg_api_Edit : aggN Try.prog 48 = some 3 := by kernel_rfl
theorem tsz_api_Edit : szQ Try.prog 48 = 3 := by kernel_rfl
theorem tby_api_Edit : byQ Try.prog 48 = 32 := by kernel_rfl
theorem tze_api_Edit : zeroQ Try.prog 48 = some [(.int .i64 0), (.int .i64 0), (.string ⟨#[]⟩)] := by kernel_rfl
theorem tfl_api_Edit_From : flQ Try.prog 48 0 = some 0 := by kernel_rfl
theorem tfl_api_Edit_To : flQ Try.prog 48 1 = some 1 := by kernel_rfl
theorem tfl_api_Edit_Text : flQ Try.prog 48 2 = some 2 := by kernel_rfl
theorem tpl_api_Edit : plQ Try.prog 48 = some [(0, 1), (1, 1), (2, 1)] := by kernel_rfl
abbrev T.L_history_Step : Nat := 51
theorem tcell_L_history_Step : cellQ Try.prog 51 = true := by kernel_rfl
theorem tsz_L_history_Step : szQ Try.prog 51 = 1 := by kernel_rfl
theorem tby_L_history_Step : byQ Try.prog 51 = 24 := by kernel_rfl
theorem tze_L_history_Step : zeroQ Try.prog 51 = some [(.slice none 0 0)] := by kernel_rfl
theorem tel_L_history_Step : elQ Try.prog 51 = some 36 := by kernel_rfl
abbrev T.A2_L_history_Step : Nat := 52
theorem tagg_A2_L_history_Step : aggN Try.prog 52 = some 2 := by kernel_rfl
theorem tsz_A2_L_history_Step : szQ Try.prog 52 = 2 := by kernel_rfl
theorem tby_A2_L_history_Step : byQ Try.prog 52 = 48 := by kernel_rfl
theorem tze_A2_L_history_Step : zeroQ Try.prog 52 = some [(.slice none 0 0), (.slice none 0 0)] := by kernel_rfl
theorem tpl_A2_L_history_Step : plQ Try.prog 52 = some [(0, 1), (1, 1)] := by kernel_rfl
theorem tar_A2_L_history_Step : arQ Try.prog 52 = some (2, 51) := by kernel_rfl
abbrev T.history_History : Nat := 54
theorem tagg_history_History : aggN Try.prog 54 = some 2 := by kernel_rfl
theorem tsz_history_History : szQ Try.prog 54 = 2 := by kernel_rfl
theorem tby_history_History : byQ Try.prog 54 = 48 := by kernel_rfl
theorem tze_history_History : zeroQ Try.prog 54 = some [(.slice none 0 0), (.slice none 0 0)] := by kernel_rfl
theorem tfl_history_History_rows : flQ Try.prog 54 0 = some 0 := by kernel_rfl
theorem tpl_history_History : plQ Try.prog 54 = some [(0, 2)] := by kernel_rfl
/-- 'bodkin bodkinlaw12.HistorySteps' -/
def bodkinlaw12_HistorySteps_J5 (K : K1) (M3 : List Value → World → Prop) (x17 x31 x50 : Value) (x69 : Value) (w : World) : Prop :=
  sIf x69 (
    sCall Try.prog 10 [x17] w fun x74 w =>
    sExtract x74 0 w fun x75 w =>
    sExtract x74 1 w fun x76 w =>
    sCall Try.prog 11 [x31] w fun x79 w =>
    sExtract x79 0 w fun x80 w =>
    sExtract x79 1 w fun x81 w =>
    sBin Try.prog .neq 3 false false x76 x81 w fun x84 w =>
    sIf x84 (
      K (.bool false) w) (
      sCall Try.prog 12 [x75, x80] w fun x88 w =>
      sUn Try.prog .not x88 w fun x89 w =>
      sIf x89 (
        K (.bool false) w) (
        M3 [] w))) (
    sBin Try.prog .eql 3 false true x50 (.int .i64 4) w fun x92 w =>
    sIf x92 (
      sCall Try.prog 13 [x17] w fun x95 w =>
      sExtract x95 0 w fun x96 w =>
      sExtract x95 1 w fun x97 w =>
      sCall Try.prog 14 [x31] w fun x100 w =>
      sExtract x100 0 w fun x101 w =>
      sExtract x100 1 w fun x102 w =>
      sBin Try.prog .neq 3 false false x97 x102 w fun x105 w =>
      sIf x105 (
        K (.bool false) w) (
        sCall Try.prog 12 [x96, x101] w fun x109 w =>
        sUn Try.prog .not x109 w fun x110 w =>
        sIf x110 (
          K (.bool false) w) (
          M3 [] w))) (
      M3 [] w))

def bodkinlaw12_HistorySteps_J4 (K : K1) (M3 : List Value → World → Prop) (o6 x17 x31 x50 : Value) (x51 : Value) (w : World) : Prop :=
  sIf x51 (
    sFldA Try.prog 32 o6 1 w fun x55 w =>
    sLoad Try.prog 30 x55 w fun x56 w =>
    sFldA Try.prog 32 o6 2 w fun x57 w =>
    sLoad Try.prog 30 x57 w fun x58 w =>
    sBuild Try.prog 36 [(0, x56), (1, x58)] w fun x59 w =>
    sCall Try.prog 8 [x17, x59] w fun x60 w =>
    sBin Try.prog .neq 33 false true x60 (.int .i64 0) w fun x61 w =>
    sIf x61 (
      K (.bool false) w) (
      sFldA Try.prog 32 o6 1 w fun x63 w =>
      sLoad Try.prog 30 x63 w fun x64 w =>
      sFldA Try.prog 32 o6 2 w fun x65 w =>
      sLoad Try.prog 30 x65 w fun x66 w =>
      sBuild Try.prog 38 [(0, x64), (1, x66)] w fun x67 w =>
      sCall Try.prog 9 [x31, x67] w fun x68 w =>
      M3 [] w)) (
    JoinS 1 2 (fun M5 =>
      sBin Try.prog .eql 3 false true x50 (.int .i64 2) w fun x70 w =>
      sIf x70 (
        M5 [x70] w) (
        sBin Try.prog .eql 3 false true x50 (.int .i64 3) w fun x71 w =>
        M5 [x71] w)) fun us _ w =>
      bodkinlaw12_HistorySteps_J5 K M3 x17 x31 x50 (hd us) w)

def bodkinlaw12_HistorySteps_J3 (K : K1) (Nx2 : List Value → World → Prop) (x17 x31 x34 : Value) (w : World) : Prop :=
  sCall Try.prog 15 [x17] w fun x114 w =>
  sExtract x114 0 w fun x115 w =>
  sExtract x114 1 w fun x116 w =>
  DrawS w fun C w =>
  sNil x31 w fun x119 w =>
  stillS C w (fun w k => sFldA Try.prog 29 x119 1 w k) fun x120 =>
  stillS C w (fun w k => sLoad Try.prog 3 x120 w k) fun x121 =>
  stillS C w (fun w k => sBin Try.prog .neq 3 false false x115 x121 w k) fun x122 =>
  sIf x122 (
    K (.bool false) w) (
    sNil x31 w fun x126 w =>
    stillS C w (fun w k => sFldA Try.prog 29 x126 0 w k) fun x127 =>
    stillS C w (fun w k => sLoad Try.prog 27 x127 w k) fun x128 =>
    stillS C w (fun w k => sBuiltin Try.prog .len [27] 3 [x128] w k) fun x129 =>
    sNil x31 w fun x131 w =>
    stillS C w (fun w k => sFldA Try.prog 29 x131 1 w k) fun x132 =>
    stillS C w (fun w k => sLoad Try.prog 3 x132 w k) fun x133 =>
    stillS C w (fun w k => sBin Try.prog .sub 3 false false x129 x133 w k) fun x134 =>
    stillS C w (fun w k => sBin Try.prog .neq 3 false false x116 x134 w k) fun x135 =>
    sIf x135 (
      K (.bool false) w) (
      sBin Try.prog .add 3 false true x34 (.int .i64 1) w fun x137 w =>
      Nx2 [x137] w))

def bodkinlaw12_HistorySteps_L2 (K : K1) (Nx2 : List Value → World → Prop) (l0 x17 x31 x33 : Value) (x34 : Value) (w : World) : Prop :=
  sBin Try.prog .lss 3 false false x34 x33 w fun x35 w =>
  sIf x35 (
    sIdxA Try.prog 22 l0 x34 w fun x36 w =>
    sLoad Try.prog 32 x36 w fun x37 w =>
    sAlloc Try.prog 32 w fun o6 w =>
    sStore Try.prog 32 o6 x37 w fun w =>
    sFldA Try.prog 32 o6 1 w fun x38 w =>
    sLoad Try.prog 30 x38 w fun x39 w =>
    sBuiltin Try.prog .len [30] 3 [x39] w fun x40 w =>
    sBin Try.prog .gtr 3 false true x40 (.int .i64 70) w fun x41 w =>
    sIf x41 (
      sCall Try.prog 7 [] w fun x48 w =>
      K x48 w) (
      sFldA Try.prog 32 o6 2 w fun x43 w =>
      sLoad Try.prog 30 x43 w fun x44 w =>
      sBuiltin Try.prog .len [30] 3 [x44] w fun x45 w =>
      sBin Try.prog .gtr 3 false true x45 (.int .i64 70) w fun x46 w =>
      sIf x46 (
        sCall Try.prog 7 [] w fun x48_1 w =>
        K x48_1 w) (
        JoinS 0 72 (fun M3 =>
          sFldA Try.prog 32 o6 0 w fun x49 w =>
          sLoad Try.prog 3 x49 w fun x50 w =>
          JoinS 1 2 (fun M4 =>
            sBin Try.prog .eql 3 false true x50 (.int .i64 0) w fun x52 w =>
            sIf x52 (
              M4 [x52] w) (
              sBin Try.prog .eql 3 false true x50 (.int .i64 1) w fun x53 w =>
              M4 [x53] w)) fun us _ w =>
            bodkinlaw12_HistorySteps_J4 K M3 o6 x17 x31 x50 (hd us) w) fun us _ w =>
          bodkinlaw12_HistorySteps_J3 K Nx2 x17 x31 x34 w))) (
    sCall Try.prog 7 [] w fun x138 w =>
    K x138 w)

def bodkinlaw12_HistorySteps_J1 (K : K1) (l0 x17 : Value) (x24 : Value) (w : World) : Prop :=
  sIf x24 (
    sBin Try.prog .neq 23 false true x17 (.pointer none) w fun x26 w =>
    sIf x26 (
      sCall Try.prog 7 [] w fun x28 w =>
      K x28 w) (
      K (.bool false) w)) (
    sBuild Try.prog 29 [] w fun x30 w =>
    sBox Try.prog 29 x30 w fun x31 w =>
    sBuiltin Try.prog .len [22] 3 [l0] w fun x33 w =>
    LoopS [(.int .i64 0)] 1 115 w fun us _ w Nx2 =>
      bodkinlaw12_HistorySteps_L2 K Nx2 l0 x17 x31 x33 (hd us) w)

def bodkinlaw12_HistorySteps (K : K1) (l0 : Value) (w : World) : Prop :=
  sCall Try.prog 6 [] w fun x17 w =>
  JoinS 1 6 (fun M1 =>
    sBin Try.prog .eql 23 false true x17 (.pointer none) w fun x19 w =>
    sIf x19 (
      M1 [(.bool true)] w) (
      sBuiltin Try.prog .len [22] 3 [l0] w fun x22 w =>
      sBin Try.prog .gtr 3 false true x22 (.int .i64 300) w fun x23 w =>
      M1 [x23] w)) fun us _ w =>
    bodkinlaw12_HistorySteps_J1 K l0 x17 (hd us) w

def bodkinlaw12_HistorySteps.sc : SC := (.seq (.reg (.op 0 .done)) (.seq (.reg (.op 0 (.op 1 .done))) (.seq (.join [24] [18, 19, 20, 21, 22, 23] (.reg (.op 0 (.op 1 (.op 2 (.test 2 (.skip 3 (.skip 4 (.skip 5 (.op 6 .done)))) (.op 3 (.op 4 (.op 5 (.op 6 .done))))))))) (.cond (.seq (.reg (.op 0 (.op 1 (.op 2 (.test 2 (.op 3 (.op 4 (.op 5 .done))) (.skip 3 (.op 4 (.op 5 .done)))))))) .nop) .nop)) (.seq (.reg (.op 0 (.op 1 (.op 2 .done)))) (.seq (.seq (.reg (.op 0 (.op 1 (.op 2 .done)))) (.sub (.loop [34] [35, 36, 37, 6, 38, 39, 40, 41, 42, 43, 44, 45, 46, 47, 48, 2, 49, 50, 52, 51, 53, 54, 55, 56, 57, 58, 59, 60, 61, 62, 63, 64, 65, 66, 67, 68, 70, 69, 71, 73, 74, 72, 75, 76, 7, 8, 78, 79, 77, 80, 81, 9, 10, 82, 83, 84, 85, 86, 87, 88, 89, 90, 92, 91, 94, 95, 93, 96, 97, 11, 12, 99, 100, 98, 101, 102, 13, 14, 103, 104, 105, 106, 107, 108, 109, 110, 111, 113, 114, 112, 115, 116, 15, 16, 117, 118, 119, 120, 121, 122, 123, 124, 125, 126, 127, 128, 129, 130, 131, 132, 133, 134, 135, 136, 137] (.seq (.reg (.op 0 .done)) (.seq (.cond .nop .nop) (.seq (.sub (.seq (.reg (.op 0 (.op 1 (.op 2 (.op 3 .done))))) (.seq (.seq (.reg (.op 0 (.op 1 (.op 2 (.op 3 (.op 4 (.test 4 (.skip 5 (.skip 6 (.skip 7 (.skip 8 (.op 9 .done))))) (.op 5 (.op 6 (.op 7 (.op 8 (.op 9 .done)))))))))))) (.cond (.seq (.reg (.op 0 (.op 1 .done))) .nop) .nop)) (.join [] [49, 50, 52, 51, 53, 54, 55, 56, 57, 58, 59, 60, 61, 2, 62, 63, 64, 65, 66, 67, 68, 70, 69, 71, 73, 74, 72, 75, 76, 7, 8, 78, 79, 77, 80, 81, 9, 10, 82, 83, 84, 85, 86, 87, 88, 89, 90, 92, 91, 94, 95, 93, 96, 97, 11, 12, 99, 100, 98, 101, 102, 13, 14, 103, 104, 105, 106, 107, 108, 109, 110, 111] (.seq (.reg (.op 0 (.op 1 .done))) (.sub (.join [51] [52, 53] (.seq (.reg (.op 0 (.op 1 .done))) (.cond .nop (.reg (.op 0 (.op 1 .done))))) (.cond (.seq (.seq (.reg (.op 0 (.op 1 (.op 2 (.op 3 (.op 4 (.op 5 (.op 6 (.op 7 .done))))))))) (.cond (.seq (.reg (.op 0 .done)) .nop) .nop)) (.reg (.op 0 (.op 1 (.op 2 (.op 3 (.op 4 (.op 5 (.op 6 .done))))))))) (.join [69] [70, 71] (.seq (.reg (.op 0 (.op 1 .done))) (.cond .nop (.reg (.op 0 (.op 1 .done))))) (.cond (.seq (.reg (.op 0 (.op 1 (.op 2 (.op 3 (.op 4 (.op 5 (.op 6 .done)))))))) (.seq (.reg (.op 0 (.op 1 (.op 2 (.op 3 (.op 4 (.op 5 (.op 6 .done)))))))) (.seq (.reg (.op 0 (.op 1 (.op 2 (.op 3 (.test 3 (.skip 4 (.skip 5 (.skip 6 (.skip 7 (.op 8 .done))))) (.op 4 (.op 5 (.op 6 (.op 7 (.op 8 .done))))))))))) (.cond (.seq (.reg (.op 0 .done)) .nop) .nop)))) (.seq (.reg (.op 0 (.op 1 .done))) (.cond (.seq (.reg (.op 0 (.op 1 (.op 2 (.op 3 (.op 4 (.op 5 (.op 6 .done)))))))) (.seq (.reg (.op 0 (.op 1 (.op 2 (.op 3 (.op 4 (.op 5 (.op 6 .done)))))))) (.seq (.reg (.op 0 (.op 1 (.op 2 (.op 3 (.test 3 (.skip 4 (.skip 5 (.skip 6 (.skip 7 (.op 8 .done))))) (.op 4 (.op 5 (.op 6 (.op 7 (.op 8 .done))))))))))) (.cond (.seq (.reg (.op 0 .done)) .nop) .nop)))) .nop)))))))) (.seq (.reg (.op 0 (.op 1 (.op 2 (.op 3 (.op 4 (.op 5 (.op 6 .done)))))))) (.seq (.draw (.op 0 (.op 1 (.op 2 (.op 3 (.op 4 (.op 5 (.op 6 (.test 6 (.skip 7 (.skip 8 (.skip 9 (.skip 10 (.skip 11 (.skip 12 (.skip 13 (.skip 14 (.skip 15 (.skip 16 (.skip 17 (.skip 18 (.op 19 .done))))))))))))) (.op 7 (.op 8 (.op 9 (.op 10 (.op 11 (.op 12 (.op 13 (.op 14 (.op 15 (.op 16 (.op 17 (.op 18 (.op 19 .done)))))))))))))))))))))) (.cond (.seq (.reg (.op 0 .done)) .nop) .nop))))))) (.reg (.op 0 (.op 1 .done))))))))) (.seq (.reg (.op 0 (.op 1 .done))) .nop))))))

theorem bodkinlaw12_HistorySteps.ok : okC Try.f3.ntmps bodkinlaw12_HistorySteps.sc (bodyOf Try.f3) = true := by kernel_rfl

theorem bodkinlaw12_HistorySteps.eq {K : K1} {l0 : Value} {w : World} : bodkinlaw12_HistorySteps K l0 w = codeS Try.prog bodkinlaw12_HistorySteps.sc (bodyOf Try.f3) (argsF 0 [l0]) w (retQ Try.prog Try.f3.results.toList K) := by kernel_rfl

theorem bodkinlaw12_HistorySteps.call {K : K1} {l0 : Value} {w : World} (h : bodkinlaw12_HistorySteps K l0 w) : sCall Try.prog 3 [l0] w K := sCall_code mixed Try.func3 (by kernel_rfl) rfl rfl bodkinlaw12_HistorySteps.ok bodkinlaw12_HistorySteps.eq h

abbrev bodkinlaw12_HistorySteps.n : Nat := 3

/-- 'bodkin bodkinlaw12.HistoryMost' -/
def bodkinlaw12_HistoryMost_L4 (K : K1) (Nx4 : List Value → World → Prop) (many5 n0 x13 : Value) (i6 : Value) (w : World) : Prop :=
  sBin Try.prog .lss 3 false false i6 many5 w fun x46 w =>
  sIf x46 (
    sCall Try.prog 10 [x13] w fun x51 w =>
    sExtract x51 0 w fun x52 w =>
    sExtract x51 1 w fun x53 w =>
    sBin Try.prog .neq 33 false true x53 (.int .i64 0) w fun x55 w =>
    sIf x55 (
      K (.bool false) w) (
      sBuiltin Try.prog .len [30] 3 [x52] w fun x58 w =>
      sBin Try.prog .neq 3 false true x58 (.int .i64 1) w fun x59 w =>
      sIf x59 (
        K (.bool false) w) (
        sIdxA Try.prog 30 x52 (.int .i64 0) w fun x63 w =>
        sFldA Try.prog 48 x63 0 w fun x64 w =>
        sLoad Try.prog 3 x64 w fun x65 w =>
        sBin Try.prog .sub 3 false true n0 (.int .i64 1) w fun x67 w =>
        sBin Try.prog .sub 3 false false x67 i6 w fun x69 w =>
        sBin Try.prog .neq 3 false false x65 x69 w fun x70 w =>
        sIf x70 (
          K (.bool false) w) (
          sBin Try.prog .add 3 false true i6 (.int .i64 1) w fun x48 w =>
          Nx4 [x48] w)))) (
    sCall Try.prog 10 [x13] w fun x74 w =>
    sExtract x74 0 w fun x75 w =>
    sExtract x74 1 w fun x76 w =>
    sCall Try.prog 15 [x13] w fun x79 w =>
    sExtract x79 0 w fun x80 w =>
    sExtract x79 1 w fun x81 w =>
    sBin Try.prog .eql 33 false true x76 (.int .i64 6) w fun x83 w =>
    sIf x83 (
      sBin Try.prog .eql 3 false true x80 (.int .i64 0) w fun x86 w =>
      sIf x86 (
        sBin Try.prog .eql 3 false false x81 many5 w fun x91 w =>
        sIf x91 (
          sCall Try.prog 7 [] w fun x94 w =>
          K x94 w) (
          K (.bool false) w)) (
        K (.bool false) w)) (
      K (.bool false) w))

def bodkinlaw12_HistoryMost_J3 (K : K1) (n0 x13 : Value) (many5 : Value) (w : World) : Prop :=
  LoopS [(.int .i64 0)] 1 31 w fun us _ w Nx4 =>
    bodkinlaw12_HistoryMost_L4 K Nx4 many5 n0 x13 (hd us) w

def bodkinlaw12_HistoryMost_L2 (K : K1) (Nx2 : List Value → World → Prop) (n0 x13 : Value) (i4 : Value) (w : World) : Prop :=
  sBin Try.prog .lss 3 false false i4 n0 w fun x31 w =>
  sIf x31 (
    sBuild Try.prog 48 [(0, i4), (1, i4)] w fun x37 w =>
    sBuildSlice Try.prog 30 1 [(0, x37)] w fun x38 w =>
    sBuild Try.prog 36 [(0, x38)] w fun x39 w =>
    sCall Try.prog 8 [x13, x39] w fun x40 w =>
    sBin Try.prog .add 3 false true i4 (.int .i64 1) w fun x33 w =>
    Nx2 [x33] w) (
    JoinS 1 2 (fun M3 =>
      sBin Try.prog .gtr 3 false true n0 (.int .i64 100) w fun x43 w =>
      sIf x43 (
        M3 [(.int .i64 100)] w) (
        M3 [n0] w)) fun us _ w =>
      bodkinlaw12_HistoryMost_J3 K n0 x13 (hd us) w)

def bodkinlaw12_HistoryMost_J1 (K : K1) (n0 x13 : Value) (x23 : Value) (w : World) : Prop :=
  sIf x23 (
    sBin Try.prog .neq 23 false true x13 (.pointer none) w fun x25 w =>
    sIf x25 (
      sCall Try.prog 7 [] w fun x27 w =>
      K x27 w) (
      K (.bool false) w)) (
    LoopS [(.int .i64 0)] 1 12 w fun us _ w Nx2 =>
      bodkinlaw12_HistoryMost_L2 K Nx2 n0 x13 (hd us) w)

def bodkinlaw12_HistoryMost (K : K1) (n0 : Value) (w : World) : Prop :=
  sCall Try.prog 6 [] w fun x13 w =>
  JoinS 1 9 (fun M1 =>
    sBin Try.prog .eql 23 false true x13 (.pointer none) w fun x15 w =>
    sIf x15 (
      M1 [(.bool true)] w) (
      sBin Try.prog .lss 3 false true n0 (.int .i64 0) w fun x18 w =>
      sIf x18 (
        M1 [(.bool true)] w) (
        sBin Try.prog .gtr 3 false true n0 (.int .i64 260) w fun x22 w =>
        M1 [x22] w))) fun us _ w =>
    bodkinlaw12_HistoryMost_J1 K n0 x13 (hd us) w

def bodkinlaw12_HistoryMost.sc : SC := (.seq (.reg (.op 0 .done)) (.seq (.reg (.op 0 (.op 1 .done))) (.seq (.join [23] [14, 15, 16, 17, 18, 19, 20, 21, 22] (.reg (.op 0 (.op 1 (.op 2 (.test 2 (.skip 3 (.skip 4 (.op 5 (.op 6 (.know 6 true (.skip 7 (.skip 8 (.op 9 .done)))))))) (.op 3 (.op 4 (.op 5 (.op 6 (.test 6 (.skip 7 (.skip 8 (.op 9 .done))) (.op 7 (.op 8 (.op 9 .done))))))))))))) (.cond (.seq (.reg (.op 0 (.op 1 (.op 2 (.test 2 (.op 3 (.op 4 (.op 5 .done))) (.skip 3 (.op 4 (.op 5 .done)))))))) .nop) .nop)) (.seq (.seq (.reg (.op 0 .done)) (.sub (.loop [4] [29, 30, 31, 34, 35, 36, 37, 38, 39, 40, 32, 33] (.seq (.seq (.reg (.op 0 (.op 1 (.op 2 .done)))) (.cond .nop .nop)) (.seq (.sub (.reg (.op 0 (.op 1 (.op 2 (.op 3 (.op 4 (.op 5 (.op 6 .done))))))))) (.reg (.op 0 (.op 1 (.op 2 .done))))))))) (.seq (.reg (.op 0 (.op 1 .done))) (.join [5] [42, 43] (.seq (.reg (.op 0 (.op 1 .done))) (.cond (.reg (.op 0 .done)) .nop)) (.seq (.seq (.reg (.op 0 .done)) (.sub (.loop [6] [44, 45, 46, 50, 51, 49, 52, 53, 7, 8, 54, 55, 56, 57, 58, 59, 60, 61, 62, 63, 64, 65, 66, 67, 68, 69, 70, 71, 2, 47, 48] (.seq (.seq (.reg (.op 0 (.op 1 (.op 2 .done)))) (.cond .nop .nop)) (.seq (.sub (.seq (.reg (.op 0 (.op 1 (.op 2 (.op 3 (.op 4 (.op 5 (.op 6 .done)))))))) (.seq (.reg (.op 0 (.op 1 (.op 2 (.test 2 (.skip 3 (.skip 4 (.skip 5 (.op 6 (.op 7 (.know 7 true (.skip 8 (.skip 9 (.skip 10 (.skip 11 (.skip 12 (.skip 13 (.skip 14 (.skip 15 (.skip 16 (.op 17 .done)))))))))))))))) (.op 3 (.op 4 (.op 5 (.op 6 (.op 7 (.test 7 (.skip 8 (.skip 9 (.skip 10 (.skip 11 (.skip 12 (.skip 13 (.skip 14 (.skip 15 (.skip 16 (.op 17 .done)))))))))) (.op 8 (.op 9 (.op 10 (.op 11 (.op 12 (.op 13 (.op 14 (.op 15 (.op 16 (.op 17 .done))))))))))))))))))))) (.cond (.seq (.reg (.op 0 .done)) .nop) .nop)))) (.reg (.op 0 (.op 1 (.op 2 .done))))))))) (.seq (.reg (.op 0 (.op 1 (.op 2 (.op 3 (.op 4 (.op 5 (.op 6 .done)))))))) (.seq (.reg (.op 0 (.op 1 (.op 2 (.op 3 (.op 4 (.op 5 (.op 6 .done)))))))) (.seq (.reg (.op 0 (.op 1 (.op 2 (.test 2 (.op 3 (.op 4 (.op 5 (.op 6 (.test 6 (.op 7 (.op 8 (.op 9 (.op 10 (.op 11 (.test 11 (.op 12 (.op 13 (.op 14 .done))) (.skip 12 (.op 13 (.op 14 .done))))))))) (.skip 7 (.skip 8 (.skip 9 (.op 10 (.op 11 (.know 11 false (.skip 12 (.op 13 (.op 14 .done)))))))))))))) (.skip 3 (.skip 4 (.op 5 (.op 6 (.know 6 false (.skip 7 (.skip 8 (.skip 9 (.op 10 (.op 11 (.know 11 false (.skip 12 (.op 13 (.op 14 .done))))))))))))))))))) .nop))))))))))

theorem bodkinlaw12_HistoryMost.ok : okC Try.f4.ntmps bodkinlaw12_HistoryMost.sc (bodyOf Try.f4) = true := by kernel_rfl

theorem bodkinlaw12_HistoryMost.eq {K : K1} {n0 : Value} {w : World} : bodkinlaw12_HistoryMost K n0 w = codeS Try.prog bodkinlaw12_HistoryMost.sc (bodyOf Try.f4) (argsF 0 [n0]) w (retQ Try.prog Try.f4.results.toList K) := by kernel_rfl

theorem bodkinlaw12_HistoryMost.call {K : K1} {n0 : Value} {w : World} (h : bodkinlaw12_HistoryMost K n0 w) : sCall Try.prog 4 [n0] w K := sCall_code mixed Try.func4 (by kernel_rfl) rfl rfl bodkinlaw12_HistoryMost.ok bodkinlaw12_HistoryMost.eq h

abbrev bodkinlaw12_HistoryMost.n : Nat := 4

/-- 'bodkin bodkinlaw12.HistoryNil' -/
def bodkinlaw12_HistoryNil (K : K1) (s0 : Value) (w : World) : Prop :=
  sBox Try.prog 32 s0 w fun s1 w =>
  sFldA Try.prog 32 s1 1 w fun x10 w =>
  sLoad Try.prog 30 x10 w fun x11 w =>
  sBuiltin Try.prog .len [30] 3 [x11] w fun x12 w =>
  sBin Try.prog .gtr 3 false true x12 (.int .i64 70) w fun x13 w =>
  sIf x13 (
    sCall Try.prog 7 [] w fun x14 w =>
    K x14 w) (
    sCall Try.prog 10 [(.pointer none)] w fun x17 w =>
    sExtract x17 0 w fun x18 w =>
    sExtract x17 1 w fun x19 w =>
    sCall Try.prog 13 [(.pointer none)] w fun x22 w =>
    sExtract x22 0 w fun x23 w =>
    sExtract x22 1 w fun x24 w =>
    sCall Try.prog 15 [(.pointer none)] w fun x27 w =>
    sExtract x27 0 w fun x28 w =>
    sExtract x27 1 w fun x29 w =>
    sFldA Try.prog 32 s1 1 w fun x31 w =>
    sLoad Try.prog 30 x31 w fun x32 w =>
    sBuild Try.prog 36 [(0, x32)] w fun x33 w =>
    sCall Try.prog 8 [(.pointer none), x33] w fun x34 w =>
    sBin Try.prog .eql 33 false true x34 (.int .i64 7) w fun x35 w =>
    sIf x35 (
      sBuiltin Try.prog .len [30] 3 [x18] w fun x38 w =>
      sBin Try.prog .eql 3 false true x38 (.int .i64 0) w fun x39 w =>
      sIf x39 (
        sBuiltin Try.prog .len [30] 3 [x23] w fun x43 w =>
        sBin Try.prog .eql 3 false true x43 (.int .i64 0) w fun x44 w =>
        sIf x44 (
          sBin Try.prog .eql 33 false true x19 (.int .i64 6) w fun x48 w =>
          sIf x48 (
            sBin Try.prog .eql 33 false true x24 (.int .i64 6) w fun x52 w =>
            sIf x52 (
              sBin Try.prog .eql 3 false true x28 (.int .i64 0) w fun x56 w =>
              sIf x56 (
                sBin Try.prog .eql 3 false true x29 (.int .i64 0) w fun x60 w =>
                sIf x60 (
                  sCall Try.prog 7 [] w fun x63 w =>
                  K x63 w) (
                  K (.bool false) w)) (
                K (.bool false) w)) (
              K (.bool false) w)) (
            K (.bool false) w)) (
          K (.bool false) w)) (
        K (.bool false) w)) (
      K (.bool false) w))

def bodkinlaw12_HistoryNil.sc : SC := (.seq (.reg (.op 0 (.op 1 .done))) (.seq (.reg (.op 0 .done)) (.seq (.seq (.reg (.op 0 (.op 1 (.op 2 (.op 3 .done))))) (.cond (.seq (.reg (.op 0 (.op 1 .done))) .nop) .nop)) (.seq (.reg (.op 0 (.op 1 (.op 2 (.op 3 (.op 4 (.op 5 (.op 6 .done)))))))) (.seq (.reg (.op 0 (.op 1 (.op 2 (.op 3 (.op 4 (.op 5 (.op 6 .done)))))))) (.seq (.reg (.op 0 (.op 1 (.op 2 (.op 3 (.op 4 (.op 5 (.op 6 .done)))))))) (.seq (.reg (.op 0 (.op 1 (.op 2 (.op 3 (.op 4 (.op 5 (.op 6 (.test 6 (.op 7 (.op 8 (.op 9 (.op 10 (.op 11 (.test 11 (.op 12 (.op 13 (.op 14 (.op 15 (.op 16 (.test 16 (.op 17 (.op 18 (.op 19 (.op 20 (.test 20 (.op 21 (.op 22 (.op 23 (.op 24 (.test 24 (.op 25 (.op 26 (.op 27 (.op 28 (.test 28 (.op 29 (.op 30 (.op 31 (.op 32 (.test 32 (.op 33 (.op 34 (.op 35 .done))) (.skip 33 (.op 34 (.op 35 .done)))))))) (.skip 29 (.skip 30 (.op 31 (.op 32 (.know 32 false (.skip 33 (.op 34 (.op 35 .done))))))))))))) (.skip 25 (.skip 26 (.op 27 (.op 28 (.know 28 false (.skip 29 (.skip 30 (.op 31 (.op 32 (.know 32 false (.skip 33 (.op 34 (.op 35 .done)))))))))))))))))) (.skip 21 (.skip 22 (.op 23 (.op 24 (.know 24 false (.skip 25 (.skip 26 (.op 27 (.op 28 (.know 28 false (.skip 29 (.skip 30 (.op 31 (.op 32 (.know 32 false (.skip 33 (.op 34 (.op 35 .done))))))))))))))))))))))) (.skip 17 (.skip 18 (.op 19 (.op 20 (.know 20 false (.skip 21 (.skip 22 (.op 23 (.op 24 (.know 24 false (.skip 25 (.skip 26 (.op 27 (.op 28 (.know 28 false (.skip 29 (.skip 30 (.op 31 (.op 32 (.know 32 false (.skip 33 (.op 34 (.op 35 .done))))))))))))))))))))))))))))) (.skip 12 (.skip 13 (.skip 14 (.op 15 (.op 16 (.know 16 false (.skip 17 (.skip 18 (.op 19 (.op 20 (.know 20 false (.skip 21 (.skip 22 (.op 23 (.op 24 (.know 24 false (.skip 25 (.skip 26 (.op 27 (.op 28 (.know 28 false (.skip 29 (.skip 30 (.op 31 (.op 32 (.know 32 false (.skip 33 (.op 34 (.op 35 .done))))))))))))))))))))))))))))))))))) (.skip 7 (.skip 8 (.skip 9 (.op 10 (.op 11 (.know 11 false (.skip 12 (.skip 13 (.skip 14 (.op 15 (.op 16 (.know 16 false (.skip 17 (.skip 18 (.op 19 (.op 20 (.know 20 false (.skip 21 (.skip 22 (.op 23 (.op 24 (.know 24 false (.skip 25 (.skip 26 (.op 27 (.op 28 (.know 28 false (.skip 29 (.skip 30 (.op 31 (.op 32 (.know 32 false (.skip 33 (.op 34 (.op 35 .done)))))))))))))))))))))))))))))))))))))))))))) .nop)))))))

theorem bodkinlaw12_HistoryNil.ok : okC Try.f5.ntmps bodkinlaw12_HistoryNil.sc (bodyOf Try.f5) = true := by kernel_rfl

theorem bodkinlaw12_HistoryNil.eq {K : K1} {s0 : Value} {w : World} : bodkinlaw12_HistoryNil K s0 w = codeS Try.prog bodkinlaw12_HistoryNil.sc (bodyOf Try.f5) (argsF 0 [s0]) w (retQ Try.prog Try.f5.results.toList K) := by kernel_rfl

theorem bodkinlaw12_HistoryNil.call {K : K1} {s0 : Value} {w : World} (h : bodkinlaw12_HistoryNil K s0 w) : sCall Try.prog 5 [s0] w K := sCall_code mixed Try.func5 (by kernel_rfl) rfl rfl bodkinlaw12_HistoryNil.ok bodkinlaw12_HistoryNil.eq h

abbrev bodkinlaw12_HistoryNil.n : Nat := 5

/-- 'bodkin history.New' -/
def history_New (K : K1) (w : World) : Prop :=
  sBuild Try.prog 54 [] w fun x1 w =>
  sBox Try.prog 54 x1 w fun x2 w =>
  K x2 w

def history_New.sc : SC := (.seq (.reg (.op 0 .done)) (.seq (.reg (.op 0 (.op 1 (.op 2 .done)))) .nop))

theorem history_New.ok : okC Try.f6.ntmps history_New.sc (bodyOf Try.f6) = true := by kernel_rfl

theorem history_New.eq {K : K1} {w : World} : history_New K  w = codeS Try.prog history_New.sc (bodyOf Try.f6) (argsF 0 []) w (retQ Try.prog Try.f6.results.toList K) := by kernel_rfl

theorem history_New.call {K : K1} {w : World} (h : history_New K  w) : sCall Try.prog 6 [] w K := sCall_code mixed Try.func6 (by kernel_rfl) rfl rfl history_New.ok history_New.eq h

abbrev history_New.n : Nat := 6

/-- 'bodkin bodkinlaw12.again' -/
def bodkinlaw12_again (K : K1) (w : World) : Prop :=
  sCall Try.prog 6 [] w fun x10 w =>
  sBuild Try.prog 48 [(0, (.int .i64 1))] w fun x12 w =>
  sBuildSlice Try.prog 30 1 [(0, x12)] w fun x13 w =>
  sBuild Try.prog 48 [(0, (.int .i64 2))] w fun x14 w =>
  sBuildSlice Try.prog 30 1 [(0, x14)] w fun x15 w =>
  sBuild Try.prog 36 [(0, x13), (1, x15)] w fun x16 w =>
  sCall Try.prog 8 [x10, x16] w fun x17 w =>
  sBuild Try.prog 48 [(0, (.int .i64 3))] w fun x19 w =>
  sBuildSlice Try.prog 30 1 [(0, x19)] w fun x20 w =>
  sBuild Try.prog 48 [(0, (.int .i64 4))] w fun x21 w =>
  sBuildSlice Try.prog 30 1 [(0, x21)] w fun x22 w =>
  sBuild Try.prog 36 [(0, x20), (1, x22)] w fun x23 w =>
  sCall Try.prog 8 [x10, x23] w fun x24 w =>
  sCall Try.prog 10 [x10] w fun x27 w =>
  sExtract x27 0 w fun x28 w =>
  sExtract x27 1 w fun x29 w =>
  sCall Try.prog 10 [x10] w fun x32 w =>
  sExtract x32 0 w fun x33 w =>
  sExtract x32 1 w fun x34 w =>
  sCall Try.prog 13 [x10] w fun x37 w =>
  sExtract x37 0 w fun x38 w =>
  sExtract x37 1 w fun x39 w =>
  sCall Try.prog 15 [x10] w fun x42 w =>
  sExtract x42 0 w fun x43 w =>
  sExtract x42 1 w fun x44 w =>
  sBin Try.prog .eql 33 false true x29 (.int .i64 0) w fun x46 w =>
  sIf x46 (
    sBin Try.prog .eql 33 false true x34 (.int .i64 0) w fun x49 w =>
    sIf x49 (
      sBin Try.prog .eql 33 false true x39 (.int .i64 0) w fun x53 w =>
      sIf x53 (
        sBuiltin Try.prog .len [30] 3 [x28] w fun x57 w =>
        sBin Try.prog .eql 3 false true x57 (.int .i64 1) w fun x58 w =>
        sIf x58 (
          sIdxA Try.prog 30 x28 (.int .i64 0) w fun x62 w =>
          sFldA Try.prog 48 x62 0 w fun x63 w =>
          sLoad Try.prog 3 x63 w fun x64 w =>
          sBin Try.prog .eql 3 false true x64 (.int .i64 3) w fun x65 w =>
          sIf x65 (
            sBuiltin Try.prog .len [30] 3 [x33] w fun x69 w =>
            sBin Try.prog .eql 3 false true x69 (.int .i64 1) w fun x70 w =>
            sIf x70 (
              sIdxA Try.prog 30 x33 (.int .i64 0) w fun x74 w =>
              sFldA Try.prog 48 x74 0 w fun x75 w =>
              sLoad Try.prog 3 x75 w fun x76 w =>
              sBin Try.prog .eql 3 false true x76 (.int .i64 1) w fun x77 w =>
              sIf x77 (
                sBuiltin Try.prog .len [30] 3 [x38] w fun x81 w =>
                sBin Try.prog .eql 3 false true x81 (.int .i64 1) w fun x82 w =>
                sIf x82 (
                  sIdxA Try.prog 30 x38 (.int .i64 0) w fun x86 w =>
                  sFldA Try.prog 48 x86 0 w fun x87 w =>
                  sLoad Try.prog 3 x87 w fun x88 w =>
                  sBin Try.prog .eql 3 false true x88 (.int .i64 2) w fun x89 w =>
                  sIf x89 (
                    sBin Try.prog .eql 3 false true x43 (.int .i64 1) w fun x93 w =>
                    sIf x93 (
                      sBin Try.prog .eql 3 false true x44 (.int .i64 1) w fun x97 w =>
                      K x97 w) (
                      K (.bool false) w)) (
                    K (.bool false) w)) (
                  K (.bool false) w)) (
                K (.bool false) w)) (
              K (.bool false) w)) (
            K (.bool false) w)) (
          K (.bool false) w)) (
        K (.bool false) w)) (
      K (.bool false) w)) (
    K (.bool false) w)

def bodkinlaw12_again.sc : SC := (.seq (.reg (.op 0 .done)) (.seq (.reg (.op 0 (.op 1 .done))) (.seq (.reg (.op 0 (.op 1 (.op 2 (.op 3 (.op 4 (.op 5 (.op 6 .done)))))))) (.seq (.reg (.op 0 (.op 1 (.op 2 (.op 3 (.op 4 (.op 5 (.op 6 .done)))))))) (.seq (.reg (.op 0 (.op 1 (.op 2 (.op 3 (.op 4 (.op 5 (.op 6 .done)))))))) (.seq (.reg (.op 0 (.op 1 (.op 2 (.op 3 (.op 4 (.op 5 (.op 6 .done)))))))) (.seq (.reg (.op 0 (.op 1 (.op 2 (.op 3 (.op 4 (.op 5 (.op 6 .done)))))))) (.seq (.reg (.op 0 (.op 1 (.op 2 (.op 3 (.op 4 (.op 5 (.op 6 .done)))))))) (.seq (.reg (.op 0 (.op 1 (.op 2 (.test 2 (.op 3 (.op 4 (.op 5 (.op 6 (.test 6 (.op 7 (.op 8 (.op 9 (.op 10 (.test 10 (.op 11 (.op 12 (.op 13 (.op 14 (.op 15 (.test 15 (.op 16 (.op 17 (.op 18 (.op 19 (.op 20 (.op 21 (.op 22 (.test 22 (.op 23 (.op 24 (.op 25 (.op 26 (.op 27 (.test 27 (.op 28 (.op 29 (.op 30 (.op 31 (.op 32 (.op 33 (.op 34 (.test 34 (.op 35 (.op 36 (.op 37 (.op 38 (.op 39 (.test 39 (.op 40 (.op 41 (.op 42 (.op 43 (.op 44 (.op 45 (.op 46 (.test 46 (.op 47 (.op 48 (.op 49 (.op 50 (.test 50 (.op 51 (.op 52 (.op 53 (.op 54 .done)))) (.skip 51 (.skip 52 (.op 53 (.op 54 .done))))))))) (.skip 47 (.skip 48 (.op 49 (.op 50 (.know 50 false (.skip 51 (.skip 52 (.op 53 (.op 54 .done))))))))))))))))) (.skip 40 (.skip 41 (.skip 42 (.skip 43 (.skip 44 (.op 45 (.op 46 (.know 46 false (.skip 47 (.skip 48 (.op 49 (.op 50 (.know 50 false (.skip 51 (.skip 52 (.op 53 (.op 54 .done))))))))))))))))))))))) (.skip 35 (.skip 36 (.skip 37 (.op 38 (.op 39 (.know 39 false (.skip 40 (.skip 41 (.skip 42 (.skip 43 (.skip 44 (.op 45 (.op 46 (.know 46 false (.skip 47 (.skip 48 (.op 49 (.op 50 (.know 50 false (.skip 51 (.skip 52 (.op 53 (.op 54 .done))))))))))))))))))))))))))))))) (.skip 28 (.skip 29 (.skip 30 (.skip 31 (.skip 32 (.op 33 (.op 34 (.know 34 false (.skip 35 (.skip 36 (.skip 37 (.op 38 (.op 39 (.know 39 false (.skip 40 (.skip 41 (.skip 42 (.skip 43 (.skip 44 (.op 45 (.op 46 (.know 46 false (.skip 47 (.skip 48 (.op 49 (.op 50 (.know 50 false (.skip 51 (.skip 52 (.op 53 (.op 54 .done))))))))))))))))))))))))))))))))))))) (.skip 23 (.skip 24 (.skip 25 (.op 26 (.op 27 (.know 27 false (.skip 28 (.skip 29 (.skip 30 (.skip 31 (.skip 32 (.op 33 (.op 34 (.know 34 false (.skip 35 (.skip 36 (.skip 37 (.op 38 (.op 39 (.know 39 false (.skip 40 (.skip 41 (.skip 42 (.skip 43 (.skip 44 (.op 45 (.op 46 (.know 46 false (.skip 47 (.skip 48 (.op 49 (.op 50 (.know 50 false (.skip 51 (.skip 52 (.op 53 (.op 54 .done))))))))))))))))))))))))))))))))))))))))))))) (.skip 16 (.skip 17 (.skip 18 (.skip 19 (.skip 20 (.op 21 (.op 22 (.know 22 false (.skip 23 (.skip 24 (.skip 25 (.op 26 (.op 27 (.know 27 false (.skip 28 (.skip 29 (.skip 30 (.skip 31 (.skip 32 (.op 33 (.op 34 (.know 34 false (.skip 35 (.skip 36 (.skip 37 (.op 38 (.op 39 (.know 39 false (.skip 40 (.skip 41 (.skip 42 (.skip 43 (.skip 44 (.op 45 (.op 46 (.know 46 false (.skip 47 (.skip 48 (.op 49 (.op 50 (.know 50 false (.skip 51 (.skip 52 (.op 53 (.op 54 .done))))))))))))))))))))))))))))))))))))))))))))))))))) (.skip 11 (.skip 12 (.skip 13 (.op 14 (.op 15 (.know 15 false (.skip 16 (.skip 17 (.skip 18 (.skip 19 (.skip 20 (.op 21 (.op 22 (.know 22 false (.skip 23 (.skip 24 (.skip 25 (.op 26 (.op 27 (.know 27 false (.skip 28 (.skip 29 (.skip 30 (.skip 31 (.skip 32 (.op 33 (.op 34 (.know 34 false (.skip 35 (.skip 36 (.skip 37 (.op 38 (.op 39 (.know 39 false (.skip 40 (.skip 41 (.skip 42 (.skip 43 (.skip 44 (.op 45 (.op 46 (.know 46 false (.skip 47 (.skip 48 (.op 49 (.op 50 (.know 50 false (.skip 51 (.skip 52 (.op 53 (.op 54 .done)))))))))))))))))))))))))))))))))))))))))))))))))))))))) (.skip 7 (.skip 8 (.op 9 (.op 10 (.know 10 false (.skip 11 (.skip 12 (.skip 13 (.op 14 (.op 15 (.know 15 false (.skip 16 (.skip 17 (.skip 18 (.skip 19 (.skip 20 (.op 21 (.op 22 (.know 22 false (.skip 23 (.skip 24 (.skip 25 (.op 26 (.op 27 (.know 27 false (.skip 28 (.skip 29 (.skip 30 (.skip 31 (.skip 32 (.op 33 (.op 34 (.know 34 false (.skip 35 (.skip 36 (.skip 37 (.op 38 (.op 39 (.know 39 false (.skip 40 (.skip 41 (.skip 42 (.skip 43 (.skip 44 (.op 45 (.op 46 (.know 46 false (.skip 47 (.skip 48 (.op 49 (.op 50 (.know 50 false (.skip 51 (.skip 52 (.op 53 (.op 54 .done))))))))))))))))))))))))))))))))))))))))))))))))))))))))))))) (.skip 3 (.skip 4 (.op 5 (.op 6 (.know 6 false (.skip 7 (.skip 8 (.op 9 (.op 10 (.know 10 false (.skip 11 (.skip 12 (.skip 13 (.op 14 (.op 15 (.know 15 false (.skip 16 (.skip 17 (.skip 18 (.skip 19 (.skip 20 (.op 21 (.op 22 (.know 22 false (.skip 23 (.skip 24 (.skip 25 (.op 26 (.op 27 (.know 27 false (.skip 28 (.skip 29 (.skip 30 (.skip 31 (.skip 32 (.op 33 (.op 34 (.know 34 false (.skip 35 (.skip 36 (.skip 37 (.op 38 (.op 39 (.know 39 false (.skip 40 (.skip 41 (.skip 42 (.skip 43 (.skip 44 (.op 45 (.op 46 (.know 46 false (.skip 47 (.skip 48 (.op 49 (.op 50 (.know 50 false (.skip 51 (.skip 52 (.op 53 (.op 54 .done)))))))))))))))))))))))))))))))))))))))))))))))))))))))))))))))))) .nop)))))))))

theorem bodkinlaw12_again.ok : okC Try.f7.ntmps bodkinlaw12_again.sc (bodyOf Try.f7) = true := by kernel_rfl

theorem bodkinlaw12_again.eq {K : K1} {w : World} : bodkinlaw12_again K  w = codeS Try.prog bodkinlaw12_again.sc (bodyOf Try.f7) (argsF 0 []) w (retQ Try.prog Try.f7.results.toList K) := by kernel_rfl

theorem bodkinlaw12_again.call {K : K1} {w : World} (h : bodkinlaw12_again K  w) : sCall Try.prog 7 [] w K := sCall_code mixed Try.func7 (by kernel_rfl) rfl rfl bodkinlaw12_again.ok bodkinlaw12_again.eq h

abbrev bodkinlaw12_again.n : Nat := 7

/-- '(*bodkin history.History).Push' -/
def history_History_Push (K : K1) (h0 s1 : Value) (w : World) : Prop :=
  sBox Try.prog 36 s1 w fun s3 w =>
  sBin Try.prog .eql 23 false true h0 (.pointer none) w fun x7 w =>
  sIf x7 (
    K (.int .i64 7) w) (
    sNil h0 w fun x9 w =>
    sFldA Try.prog 54 x9 0 w fun x10 w =>
    sIdxA Try.prog 52 x10 (.int .i64 1) w fun x11 w =>
    sStore Try.prog 51 x11 (.slice none 0 0) w fun w =>
    DrawS w fun C w =>
    sNil h0 w fun x14 w =>
    stillS C w (fun w k => sFldA Try.prog 54 x14 0 w k) fun x15 =>
    stillS C w (fun w k => sIdxA Try.prog 52 x15 (.int .i64 0) w k) fun x16 =>
    stillS C w (fun w k => sLoad Try.prog 51 x16 w k) fun x17 =>
    stillS C w (fun w k => sFldA Try.prog 36 s3 0 w k) fun x18 =>
    stillS C w (fun w k => sLoad Try.prog 30 x18 w k) fun x19 =>
    stillS C w (fun w k => sFldA Try.prog 36 s3 1 w k) fun x21 =>
    stillS C w (fun w k => sLoad Try.prog 30 x21 w k) fun x22 =>
    sNil h0 w fun x27 w =>
    stillS C w (fun w k => sFldA Try.prog 54 x27 0 w k) fun x28 =>
    sCall Try.prog 16 [x19] w fun x20 w => C w ∧
    sCall Try.prog 16 [x22] w fun x23 w => C w ∧
    stillS C w (fun w k => sBuild Try.prog 36 [(0, x20), (1, x23)] w k) fun x24 =>
    sBuildSlice Try.prog 51 1 [(0, x24)] w fun x25 w => C w ∧
    sBuiltin Try.prog .append [51, 51] 51 [x17, x25] w fun x26 w => C w ∧
    stillS C w (fun w k => sIdxA Try.prog 52 x28 (.int .i64 0) w k) fun x29 =>
    sStore Try.prog 51 x29 x26 w fun w =>
    sNil h0 w fun x31 w =>
    sFldA Try.prog 54 x31 0 w fun x32 w =>
    sIdxA Try.prog 52 x32 (.int .i64 0) w fun x33 w =>
    sLoad Try.prog 51 x33 w fun x34 w =>
    sBuiltin Try.prog .len [51] 3 [x34] w fun x35 w =>
    sBin Try.prog .sub 3 false true x35 (.int .i64 100) w fun x36 w =>
    sBin Try.prog .gtr 3 false true x36 (.int .i64 0) w fun x38 w =>
    sIf x38 (
      DrawS w fun C w =>
      sNil h0 w fun x41 w =>
      stillS C w (fun w k => sFldA Try.prog 54 x41 0 w k) fun x42 =>
      stillS C w (fun w k => sIdxA Try.prog 52 x42 (.int .i64 0) w k) fun x43 =>
      stillS C w (fun w k => sLoad Try.prog 51 x43 w k) fun x44 =>
      stillS C w (fun w k => sSlice Try.prog 51 x44 (some x36) none none w k) fun x46 =>
      sNil h0 w fun x47 w =>
      stillS C w (fun w k => sFldA Try.prog 54 x47 0 w k) fun x48 =>
      stillS C w (fun w k => sIdxA Try.prog 52 x48 (.int .i64 0) w k) fun x49 =>
      sStore Try.prog 51 x49 x46 w fun w =>
      K (.int .i64 0) w) (
      K (.int .i64 0) w))

def history_History_Push.sc : SC := (.seq (.reg (.op 0 (.op 1 .done))) (.seq (.seq (.reg (.op 0 (.op 1 .done))) (.cond (.seq (.reg (.op 0 .done)) .nop) .nop)) (.seq (.reg (.op 0 (.op 1 (.op 2 (.op 3 (.op 4 .done)))))) (.seq (.draw (.op 0 (.op 1 (.op 2 (.op 3 (.op 4 (.op 5 (.op 6 (.op 7 (.op 9 (.op 10 (.op 15 (.op 16 (.op 8 (.op 11 (.op 12 (.op 13 (.op 14 (.op 17 (.fin 18 .done)))))))))))))))))))) (.seq (.seq (.reg (.op 0 (.op 1 (.op 2 (.op 3 (.op 4 (.op 5 (.op 6 (.op 7 .done))))))))) (.seq (.reg (.op 0 (.op 1 .done))) (.cond (.draw (.op 0 (.op 1 (.op 2 (.op 3 (.op 4 (.op 5 (.op 6 (.op 7 (.op 8 (.op 9 (.op 10 (.fin 11 .done))))))))))))) .nop))) (.seq (.reg (.op 0 .done)) .nop))))))

theorem history_History_Push.ok : okC Try.f8.ntmps history_History_Push.sc (bodyOf Try.f8) = true := by kernel_rfl

theorem history_History_Push.eq {K : K1} {h0 s1 : Value} {w : World} : history_History_Push K h0 s1 w = codeS Try.prog history_History_Push.sc (bodyOf Try.f8) (argsF 0 [h0, s1]) w (retQ Try.prog Try.f8.results.toList K) := by kernel_rfl

theorem history_History_Push.call {K : K1} {h0 s1 : Value} {w : World} (h : history_History_Push K h0 s1 w) : sCall Try.prog 8 [h0, s1] w K := sCall_code mixed Try.func8 (by kernel_rfl) rfl rfl history_History_Push.ok history_History_Push.eq h

abbrev history_History_Push.n : Nat := 8

/-- '(*bodkin bodkinref12.History).Push' -/
def bodkinref12_History_Push_J1 (K : K1) (h0 s3 : Value) (first5 : Value) (w : World) : Prop :=
  DrawS w fun C w =>
  sNil h0 w fun x13 w =>
  stillS C w (fun w k => sFldA Try.prog 29 x13 0 w k) fun x14 =>
  stillS C w (fun w k => sLoad Try.prog 27 x14 w k) fun x15 =>
  sNil h0 w fun x18 w =>
  stillS C w (fun w k => sFldA Try.prog 29 x18 1 w k) fun x19 =>
  stillS C w (fun w k => sLoad Try.prog 3 x19 w k) fun x20 =>
  stillS C w (fun w k => sSlice Try.prog 27 x15 (some first5) (some x20) none w k) fun x21 =>
  sBuiltin Try.prog .append [27, 27] 27 [(.slice none 0 0), x21] w fun x22 w => C w ∧
  sLoad Try.prog 38 s3 w fun x24 w =>
  sBuildSlice Try.prog 27 1 [(0, x24)] w fun x25 w =>
  sBuiltin Try.prog .append [27, 27] 27 [x22, x25] w fun x26 w =>
  sNil h0 w fun x29 w =>
  sFldA Try.prog 29 x29 0 w fun x30 w =>
  sStore Try.prog 27 x30 x26 w fun w =>
  sBuiltin Try.prog .len [27] 3 [x26] w fun x33 w =>
  sNil h0 w fun x34 w =>
  sFldA Try.prog 29 x34 1 w fun x35 w =>
  sStore Try.prog 3 x35 x33 w fun w =>
  K (.tuple #[]) w

def bodkinref12_History_Push (K : K1) (h0 s1 : Value) (w : World) : Prop :=
  sBox Try.prog 38 s1 w fun s3 w =>
  JoinS 1 5 (fun M1 =>
    sNil h0 w fun x7 w =>
    sFldA Try.prog 29 x7 1 w fun x8 w =>
    sLoad Try.prog 3 x8 w fun x9 w =>
    sBin Try.prog .eql 3 false true x9 (.int .i64 100) w fun x10 w =>
    sIf x10 (
      M1 [(.int .i64 1)] w) (
      M1 [(.int .i64 0)] w)) fun us _ w =>
    bodkinref12_History_Push_J1 K h0 s3 (hd us) w

def bodkinref12_History_Push.sc : SC := (.seq (.reg (.op 0 .done)) (.seq (.reg (.op 0 .done)) (.seq (.reg (.op 0 .done)) (.join [5] [6, 7, 8, 9, 10] (.seq (.reg (.op 0 (.op 1 (.op 2 (.op 3 (.op 4 .done)))))) (.cond (.reg (.op 0 .done)) .nop)) (.seq (.draw (.op 0 (.op 1 (.op 2 (.op 3 (.op 4 (.op 5 (.op 6 (.op 7 (.op 8 (.op 9 (.op 10 (.op 11 (.op 12 .done)))))))))))))) (.seq (.reg (.op 0 (.op 1 (.op 2 (.op 3 (.op 4 .done)))))) (.seq (.reg (.op 0 (.op 1 (.op 2 (.op 3 (.op 4 .done)))))) (.reg (.op 0 (.op 1 (.op 2 (.op 3 (.op 4 (.op 5 .done))))))))))))))

theorem bodkinref12_History_Push.ok : okC Try.f9.ntmps bodkinref12_History_Push.sc (bodyOf Try.f9) = true := by kernel_rfl

theorem bodkinref12_History_Push.eq {K : K1} {h0 s1 : Value} {w : World} : bodkinref12_History_Push K h0 s1 w = codeS Try.prog bodkinref12_History_Push.sc (bodyOf Try.f9) (argsF 0 [h0, s1]) w (retQ Try.prog Try.f9.results.toList K) := by kernel_rfl

theorem bodkinref12_History_Push.call {K : K1} {h0 s1 : Value} {w : World} (h : bodkinref12_History_Push K h0 s1 w) : sCall Try.prog 9 [h0, s1] w K := sCall_code mixed Try.func9 (by kernel_rfl) rfl rfl bodkinref12_History_Push.ok bodkinref12_History_Push.eq h

abbrev bodkinref12_History_Push.n : Nat := 9

/-- '(*bodkin history.History).Undo' -/
def history_History_Undo (K : K1) (h0 : Value) (w : World) : Prop :=
  sCall Try.prog 17 [h0, (.int .i64 0)] w fun x8 w =>
  sExtract x8 0 w fun x9 w =>
  sExtract x8 1 w fun x10 w =>
  sAlloc Try.prog 36 w fun s4 w =>
  sStore Try.prog 36 s4 x9 w fun w =>
  sFldA Try.prog 36 s4 0 w fun x11 w =>
  sLoad Try.prog 30 x11 w fun x12 w =>
  sCall Try.prog 16 [x12] w fun x13 w =>
  K (.tuple #[x13, x10]) w

def history_History_Undo.sc : SC := (.seq (.reg (.op 0 (.op 1 .done))) (.seq (.reg (.op 0 (.op 1 (.op 2 (.op 3 (.op 4 (.op 5 (.op 6 (.op 7 .done))))))))) (.seq (.reg (.op 0 (.op 1 (.op 2 (.op 3 (.op 4 (.op 5 .done))))))) .nop)))

theorem history_History_Undo.ok : okC Try.f10.ntmps history_History_Undo.sc (bodyOf Try.f10) = true := by kernel_rfl

theorem history_History_Undo.eq {K : K1} {h0 : Value} {w : World} : history_History_Undo K h0 w = codeS Try.prog history_History_Undo.sc (bodyOf Try.f10) (argsF 0 [h0]) w (retQ Try.prog Try.f10.results.toList K) := by kernel_rfl

theorem history_History_Undo.call {K : K1} {h0 : Value} {w : World} (h : history_History_Undo K h0 w) : sCall Try.prog 10 [h0] w K := sCall_code mixed Try.func10 (by kernel_rfl) rfl rfl history_History_Undo.ok history_History_Undo.eq h

abbrev history_History_Undo.n : Nat := 10

/-- '(*bodkin bodkinref12.History).Undo' -/
def bodkinref12_History_Undo (K : K1) (h0 : Value) (w : World) : Prop :=
  sNil h0 w fun x5 w =>
  sFldA Try.prog 29 x5 1 w fun x6 w =>
  sLoad Try.prog 3 x6 w fun x7 w =>
  sBin Try.prog .eql 3 false true x7 (.int .i64 0) w fun x8 w =>
  sIf x8 (
    K (.tuple #[(.slice none 0 0), (.int .i64 6)]) w) (
    sNil h0 w fun x10 w =>
    sFldA Try.prog 29 x10 1 w fun x11 w =>
    sLoad Try.prog 3 x11 w fun x12 w =>
    sBin Try.prog .sub 3 false true x12 (.int .i64 1) w fun x13 w =>
    sNil h0 w fun x14 w =>
    sFldA Try.prog 29 x14 1 w fun x15 w =>
    sStore Try.prog 3 x15 x13 w fun w =>
    DrawS w fun C w =>
    sNil h0 w fun x17 w =>
    stillS C w (fun w k => sFldA Try.prog 29 x17 0 w k) fun x18 =>
    stillS C w (fun w k => sLoad Try.prog 27 x18 w k) fun x19 =>
    sNil h0 w fun x21 w =>
    stillS C w (fun w k => sFldA Try.prog 29 x21 1 w k) fun x22 =>
    stillS C w (fun w k => sLoad Try.prog 3 x22 w k) fun x23 =>
    stillS C w (fun w k => sIdxA Try.prog 27 x19 x23 w k) fun x24 =>
    stillS C w (fun w k => sFldA Try.prog 38 x24 0 w k) fun x25 =>
    stillS C w (fun w k => sLoad Try.prog 30 x25 w k) fun x26 =>
    K (.tuple #[x26, (.int .i64 0)]) w)

def bodkinref12_History_Undo.sc : SC := (.seq (.reg (.op 0 (.op 1 .done))) (.seq (.seq (.reg (.op 0 (.op 1 (.op 2 (.op 3 (.op 4 .done)))))) (.cond (.seq (.reg (.op 0 (.op 1 .done))) .nop) .nop)) (.seq (.reg (.op 0 (.op 1 (.op 2 (.op 3 (.op 4 (.op 5 (.op 6 (.op 7 .done))))))))) (.seq (.draw (.op 0 (.op 1 (.op 2 (.op 3 (.op 4 (.op 5 (.op 6 (.op 7 (.op 8 (.op 9 (.op 10 (.op 11 (.op 12 .done)))))))))))))) .nop))))

theorem bodkinref12_History_Undo.ok : okC Try.f11.ntmps bodkinref12_History_Undo.sc (bodyOf Try.f11) = true := by kernel_rfl

theorem bodkinref12_History_Undo.eq {K : K1} {h0 : Value} {w : World} : bodkinref12_History_Undo K h0 w = codeS Try.prog bodkinref12_History_Undo.sc (bodyOf Try.f11) (argsF 0 [h0]) w (retQ Try.prog Try.f11.results.toList K) := by kernel_rfl

theorem bodkinref12_History_Undo.call {K : K1} {h0 : Value} {w : World} (h : bodkinref12_History_Undo K h0 w) : sCall Try.prog 11 [h0] w K := sCall_code mixed Try.func11 (by kernel_rfl) rfl rfl bodkinref12_History_Undo.ok bodkinref12_History_Undo.eq h

abbrev bodkinref12_History_Undo.n : Nat := 11

/-- 'bodkin bodkinplain.Edits' -/
def bodkinplain_Edits_L1 (K : K1) (Nx1 : List Value → World → Prop) (a0 b1 x7 : Value) (x8 : Value) (w : World) : Prop :=
  sBin Try.prog .lss 3 false false x8 x7 w fun x9 w =>
  sIf x9 (
    DrawS w fun C w =>
    stillS C w (fun w k => sBuiltin Try.prog .len [30] 3 [b1] w k) fun x13 =>
    stillS C w (fun w k => sBin Try.prog .geq 3 false false x8 x13 w k) fun x14 =>
    sIf x14 (
      K (.bool false) w) (
      stillS C w (fun w k => sIdxA Try.prog 30 a0 x8 w k) fun x18 =>
      stillS C w (fun w k => sLoad Try.prog 48 x18 w k) fun x19 =>
      stillS C w (fun w k => sIdxA Try.prog 30 b1 x8 w k) fun x22 =>
      stillS C w (fun w k => sLoad Try.prog 48 x22 w k) fun x23 =>
      stillS C w (fun w k => sBin Try.prog .neq 48 false false x19 x23 w k) fun x24 =>
      sIf x24 (
        K (.bool false) w) (
        sBin Try.prog .add 3 false true x8 (.int .i64 1) w fun x26 w =>
        Nx1 [x26] w))) (
    sBuiltin Try.prog .len [30] 3 [a0] w fun x28 w =>
    sBuiltin Try.prog .len [30] 3 [b1] w fun x30 w =>
    sBin Try.prog .eql 3 false false x28 x30 w fun x31 w =>
    K x31 w)

def bodkinplain_Edits (K : K1) (a0 b1 : Value) (w : World) : Prop :=
  sBuiltin Try.prog .len [30] 3 [a0] w fun x7 w =>
  LoopS [(.int .i64 0)] 1 20 w fun us _ w Nx1 =>
    bodkinplain_Edits_L1 K Nx1 a0 b1 x7 (hd us) w

def bodkinplain_Edits.sc : SC := (.seq (.reg (.op 0 .done)) (.seq (.seq (.reg (.op 0 (.op 1 (.op 2 .done)))) (.sub (.loop [8] [9, 10, 5, 11, 12, 13, 14, 15, 16, 17, 18, 19, 20, 21, 22, 23, 24, 25, 4, 26] (.seq (.reg (.op 0 .done)) (.seq (.cond .nop .nop) (.seq (.sub (.seq (.reg (.op 0 (.op 1 .done))) (.seq (.draw (.op 0 (.op 1 (.op 2 (.op 3 (.op 4 (.test 4 (.skip 5 (.skip 6 (.skip 7 (.skip 8 (.skip 9 (.skip 10 (.skip 11 (.skip 12 (.skip 13 (.op 14 .done)))))))))) (.op 5 (.op 6 (.op 7 (.op 8 (.op 9 (.op 10 (.op 11 (.op 12 (.op 13 (.op 14 .done))))))))))))))))) (.cond (.seq (.reg (.op 0 .done)) .nop) .nop)))) (.reg (.op 0 (.op 1 .done))))))))) (.seq (.reg (.op 0 (.op 1 (.op 2 (.op 3 (.op 4 (.op 5 .done))))))) .nop)))

theorem bodkinplain_Edits.ok : okC Try.f12.ntmps bodkinplain_Edits.sc (bodyOf Try.f12) = true := by kernel_rfl

theorem bodkinplain_Edits.eq {K : K1} {a0 b1 : Value} {w : World} : bodkinplain_Edits K a0 b1 w = codeS Try.prog bodkinplain_Edits.sc (bodyOf Try.f12) (argsF 0 [a0, b1]) w (retQ Try.prog Try.f12.results.toList K) := by kernel_rfl

theorem bodkinplain_Edits.call {K : K1} {a0 b1 : Value} {w : World} (h : bodkinplain_Edits K a0 b1 w) : sCall Try.prog 12 [a0, b1] w K := sCall_code mixed Try.func12 (by kernel_rfl) rfl rfl bodkinplain_Edits.ok bodkinplain_Edits.eq h

abbrev bodkinplain_Edits.n : Nat := 12

/-- '(*bodkin history.History).Redo' -/
def history_History_Redo (K : K1) (h0 : Value) (w : World) : Prop :=
  sCall Try.prog 17 [h0, (.int .i64 1)] w fun x8 w =>
  sExtract x8 0 w fun x9 w =>
  sExtract x8 1 w fun x10 w =>
  sAlloc Try.prog 36 w fun s4 w =>
  sStore Try.prog 36 s4 x9 w fun w =>
  sFldA Try.prog 36 s4 1 w fun x11 w =>
  sLoad Try.prog 30 x11 w fun x12 w =>
  sCall Try.prog 16 [x12] w fun x13 w =>
  K (.tuple #[x13, x10]) w

def history_History_Redo.sc : SC := (.seq (.reg (.op 0 (.op 1 .done))) (.seq (.reg (.op 0 (.op 1 (.op 2 (.op 3 (.op 4 (.op 5 (.op 6 (.op 7 .done))))))))) (.seq (.reg (.op 0 (.op 1 (.op 2 (.op 3 (.op 4 (.op 5 .done))))))) .nop)))

theorem history_History_Redo.ok : okC Try.f13.ntmps history_History_Redo.sc (bodyOf Try.f13) = true := by kernel_rfl

theorem history_History_Redo.eq {K : K1} {h0 : Value} {w : World} : history_History_Redo K h0 w = codeS Try.prog history_History_Redo.sc (bodyOf Try.f13) (argsF 0 [h0]) w (retQ Try.prog Try.f13.results.toList K) := by kernel_rfl

theorem history_History_Redo.call {K : K1} {h0 : Value} {w : World} (h : history_History_Redo K h0 w) : sCall Try.prog 13 [h0] w K := sCall_code mixed Try.func13 (by kernel_rfl) rfl rfl history_History_Redo.ok history_History_Redo.eq h

abbrev history_History_Redo.n : Nat := 13

/-- '(*bodkin bodkinref12.History).Redo' -/
def bodkinref12_History_Redo (K : K1) (h0 : Value) (w : World) : Prop :=
  DrawS w fun C w =>
  sNil h0 w fun x5 w =>
  stillS C w (fun w k => sFldA Try.prog 29 x5 1 w k) fun x6 =>
  stillS C w (fun w k => sLoad Try.prog 3 x6 w k) fun x7 =>
  sNil h0 w fun x9 w =>
  stillS C w (fun w k => sFldA Try.prog 29 x9 0 w k) fun x10 =>
  stillS C w (fun w k => sLoad Try.prog 27 x10 w k) fun x11 =>
  stillS C w (fun w k => sBuiltin Try.prog .len [27] 3 [x11] w k) fun x12 =>
  stillS C w (fun w k => sBin Try.prog .eql 3 false false x7 x12 w k) fun x13 =>
  sIf x13 (
    K (.tuple #[(.slice none 0 0), (.int .i64 6)]) w) (
    sNil h0 w fun x15 w =>
    sFldA Try.prog 29 x15 1 w fun x16 w =>
    sLoad Try.prog 3 x16 w fun x17 w =>
    sBin Try.prog .add 3 false true x17 (.int .i64 1) w fun x18 w =>
    sNil h0 w fun x19 w =>
    sFldA Try.prog 29 x19 1 w fun x20 w =>
    sStore Try.prog 3 x20 x18 w fun w =>
    DrawS w fun C w =>
    sNil h0 w fun x22 w =>
    stillS C w (fun w k => sFldA Try.prog 29 x22 0 w k) fun x23 =>
    stillS C w (fun w k => sLoad Try.prog 27 x23 w k) fun x24 =>
    sNil h0 w fun x26 w =>
    stillS C w (fun w k => sFldA Try.prog 29 x26 1 w k) fun x27 =>
    stillS C w (fun w k => sLoad Try.prog 3 x27 w k) fun x28 =>
    stillS C w (fun w k => sBin Try.prog .sub 3 false true x28 (.int .i64 1) w k) fun x29 =>
    stillS C w (fun w k => sIdxA Try.prog 27 x24 x29 w k) fun x30 =>
    stillS C w (fun w k => sFldA Try.prog 38 x30 1 w k) fun x31 =>
    stillS C w (fun w k => sLoad Try.prog 30 x31 w k) fun x32 =>
    K (.tuple #[x32, (.int .i64 0)]) w)

def bodkinref12_History_Redo.sc : SC := (.seq (.reg (.op 0 (.op 1 .done))) (.seq (.seq (.draw (.op 0 (.op 1 (.op 2 (.op 3 (.op 4 (.op 5 (.op 6 (.op 7 (.op 8 (.op 9 .done))))))))))) (.cond (.seq (.reg (.op 0 (.op 1 .done))) .nop) .nop)) (.seq (.reg (.op 0 (.op 1 (.op 2 (.op 3 (.op 4 (.op 5 (.op 6 (.op 7 .done))))))))) (.seq (.draw (.op 0 (.op 1 (.op 2 (.op 3 (.op 4 (.op 5 (.op 6 (.op 7 (.op 8 (.op 9 (.op 10 (.op 11 (.op 12 (.op 13 .done))))))))))))))) .nop))))

theorem bodkinref12_History_Redo.ok : okC Try.f14.ntmps bodkinref12_History_Redo.sc (bodyOf Try.f14) = true := by kernel_rfl

theorem bodkinref12_History_Redo.eq {K : K1} {h0 : Value} {w : World} : bodkinref12_History_Redo K h0 w = codeS Try.prog bodkinref12_History_Redo.sc (bodyOf Try.f14) (argsF 0 [h0]) w (retQ Try.prog Try.f14.results.toList K) := by kernel_rfl

theorem bodkinref12_History_Redo.call {K : K1} {h0 : Value} {w : World} (h : bodkinref12_History_Redo K h0 w) : sCall Try.prog 14 [h0] w K := sCall_code mixed Try.func14 (by kernel_rfl) rfl rfl bodkinref12_History_Redo.ok bodkinref12_History_Redo.eq h

abbrev bodkinref12_History_Redo.n : Nat := 14

/-- '(*bodkin history.History).Sizes' -/
def history_History_Sizes (K : K1) (h0 : Value) (w : World) : Prop :=
  sBin Try.prog .eql 23 false true h0 (.pointer none) w fun x5 w =>
  sIf x5 (
    K (.tuple #[(.int .i64 0), (.int .i64 0)]) w) (
    DrawS w fun C w =>
    sNil h0 w fun x7 w =>
    stillS C w (fun w k => sFldA Try.prog 54 x7 0 w k) fun x8 =>
    stillS C w (fun w k => sIdxA Try.prog 52 x8 (.int .i64 0) w k) fun x9 =>
    stillS C w (fun w k => sLoad Try.prog 51 x9 w k) fun x10 =>
    stillS C w (fun w k => sBuiltin Try.prog .len [51] 3 [x10] w k) fun x11 =>
    sNil h0 w fun x13 w =>
    stillS C w (fun w k => sFldA Try.prog 54 x13 0 w k) fun x14 =>
    stillS C w (fun w k => sIdxA Try.prog 52 x14 (.int .i64 1) w k) fun x15 =>
    stillS C w (fun w k => sLoad Try.prog 51 x15 w k) fun x16 =>
    stillS C w (fun w k => sBuiltin Try.prog .len [51] 3 [x16] w k) fun x17 =>
    K (.tuple #[x11, x17]) w)

def history_History_Sizes.sc : SC := (.seq (.reg (.op 0 (.op 1 .done))) (.seq (.seq (.reg (.op 0 (.op 1 .done))) (.cond (.seq (.reg (.op 0 (.op 1 .done))) .nop) .nop)) (.seq (.draw (.op 0 (.op 1 (.op 2 (.op 3 (.op 4 (.op 5 (.op 6 (.op 7 (.op 8 (.op 9 (.op 10 (.op 11 (.op 12 (.op 13 .done))))))))))))))) .nop)))

theorem history_History_Sizes.ok : okC Try.f15.ntmps history_History_Sizes.sc (bodyOf Try.f15) = true := by kernel_rfl

theorem history_History_Sizes.eq {K : K1} {h0 : Value} {w : World} : history_History_Sizes K h0 w = codeS Try.prog history_History_Sizes.sc (bodyOf Try.f15) (argsF 0 [h0]) w (retQ Try.prog Try.f15.results.toList K) := by kernel_rfl

theorem history_History_Sizes.call {K : K1} {h0 : Value} {w : World} (h : history_History_Sizes K h0 w) : sCall Try.prog 15 [h0] w K := sCall_code mixed Try.func15 (by kernel_rfl) rfl rfl history_History_Sizes.ok history_History_Sizes.eq h

abbrev history_History_Sizes.n : Nat := 15

/-- 'slices.Clone[[]bodkin api.Edit,bodkin api.Edit]' -/
def slices_Clone (K : K1) (s0 : Value) (w : World) : Prop :=
  sBin Try.prog .eql 30 false true s0 (.slice none 0 0) w fun x4 w =>
  sIf x4 (
    K (.slice none 0 0) w) (
    sBuildSlice Try.prog 30 0 [] w fun x5 w =>
    sBuiltin Try.prog .append [30, 30] 30 [x5, s0] w fun x7 w =>
    K x7 w)

def slices_Clone.sc : SC := (.seq (.reg (.op 0 .done)) (.seq (.seq (.reg (.op 0 (.op 1 .done))) (.cond (.seq (.reg (.op 0 .done)) .nop) .nop)) (.seq (.reg (.op 0 (.op 1 (.op 2 (.op 3 .done))))) .nop)))

theorem slices_Clone.ok : okC Try.f16.ntmps slices_Clone.sc (bodyOf Try.f16) = true := by kernel_rfl

theorem slices_Clone.eq {K : K1} {s0 : Value} {w : World} : slices_Clone K s0 w = codeS Try.prog slices_Clone.sc (bodyOf Try.f16) (argsF 0 [s0]) w (retQ Try.prog Try.f16.results.toList K) := by kernel_rfl

theorem slices_Clone.call {K : K1} {s0 : Value} {w : World} (h : slices_Clone K s0 w) : sCall Try.prog 16 [s0] w K := sCall_code mixed Try.func16 (by kernel_rfl) rfl rfl slices_Clone.ok slices_Clone.eq h

abbrev slices_Clone.n : Nat := 16

/-- '(*bodkin history.History).move' -/
def history_History_move_J1 (K : K1) (from1 h0 x4 : Value) (x19 : Value) (w : World) : Prop :=
  sIf x19 (
    sBuild Try.prog 36 [] w fun x20 w =>
    sStore Try.prog 36 x4 x20 w fun w =>
    sLoad Try.prog 36 x4 w fun v w' => w' = w ∧ K (.tuple #[v, (.int .i64 6)]) w) (
    sNil h0 w fun x23 w =>
    sFldA Try.prog 54 x23 0 w fun x24 w =>
    sIdxA Try.prog 52 x24 from1 w fun x25 w =>
    sLoad Try.prog 51 x25 w fun x26 w =>
    sBuiltin Try.prog .len [51] 3 [x26] w fun x27 w =>
    sBin Try.prog .sub 3 false true x27 (.int .i64 1) w fun x28 w =>
    sNil h0 w fun x31 w =>
    sFldA Try.prog 54 x31 0 w fun x32 w =>
    sIdxA Try.prog 52 x32 from1 w fun x33 w =>
    sLoad Try.prog 51 x33 w fun x34 w =>
    sIdxA Try.prog 51 x34 x28 w fun x36 w =>
    sLoad Try.prog 36 x36 w fun x37 w =>
    sAlloc Try.prog 36 w fun s7 w =>
    sStore Try.prog 36 s7 x37 w fun w =>
    DrawS w fun C w =>
    sNil h0 w fun x42 w =>
    stillS C w (fun w k => sFldA Try.prog 54 x42 0 w k) fun x43 =>
    stillS C w (fun w k => sIdxA Try.prog 52 x43 from1 w k) fun x44 =>
    stillS C w (fun w k => sLoad Try.prog 51 x44 w k) fun x45 =>
    stillS C w (fun w k => sSlice Try.prog 51 x45 none (some x28) none w k) fun x47 =>
    sNil h0 w fun x48 w =>
    stillS C w (fun w k => sFldA Try.prog 54 x48 0 w k) fun x49 =>
    stillS C w (fun w k => sIdxA Try.prog 52 x49 from1 w k) fun x50 =>
    sStore Try.prog 51 x50 x47 w fun w =>
    DrawS w fun C w =>
    stillS C w (fun w k => sBin Try.prog .sub 3 true false (.int .i64 1) from1 w k) fun x53 =>
    stillS C w (fun w k => sBin Try.prog .sub 3 true false (.int .i64 1) from1 w k) fun x56 =>
    sNil h0 w fun x57 w =>
    stillS C w (fun w k => sFldA Try.prog 54 x57 0 w k) fun x58 =>
    stillS C w (fun w k => sIdxA Try.prog 52 x58 x56 w k) fun x59 =>
    stillS C w (fun w k => sLoad Try.prog 51 x59 w k) fun x60 =>
    stillS C w (fun w k => sLoad Try.prog 36 s7 w k) fun x61 =>
    sNil h0 w fun x64 w =>
    stillS C w (fun w k => sFldA Try.prog 54 x64 0 w k) fun x65 =>
    sBuildSlice Try.prog 51 1 [(0, x61)] w fun x62 w => C w ∧
    sBuiltin Try.prog .append [51, 51] 51 [x60, x62] w fun x63 w => C w ∧
    stillS C w (fun w k => sIdxA Try.prog 52 x65 x53 w k) fun x66 =>
    sStore Try.prog 51 x66 x63 w fun w =>
    sLoad Try.prog 36 s7 w fun x67 w =>
    sStore Try.prog 36 x4 x67 w fun w =>
    sLoad Try.prog 36 x4 w fun v w' => w' = w ∧ K (.tuple #[v, (.int .i64 0)]) w)

def history_History_move (K : K1) (h0 from1 : Value) (w : World) : Prop :=
  sAlloc Try.prog 36 w fun x4 w =>
  JoinS 1 11 (fun M1 =>
    sBin Try.prog .eql 23 false true h0 (.pointer none) w fun x9 w =>
    sIf x9 (
      M1 [(.bool true)] w) (
      sNil h0 w fun x13 w =>
      sFldA Try.prog 54 x13 0 w fun x14 w =>
      sIdxA Try.prog 52 x14 from1 w fun x15 w =>
      sLoad Try.prog 51 x15 w fun x16 w =>
      sBuiltin Try.prog .len [51] 3 [x16] w fun x17 w =>
      sBin Try.prog .eql 3 false true x17 (.int .i64 0) w fun x18 w =>
      M1 [x18] w)) fun us _ w =>
    history_History_move_J1 K from1 h0 x4 (hd us) w

def history_History_move.sc : SC := (.seq (.reg (.op 0 (.op 1 .done))) (.seq (.join [19] [8, 9, 10, 11, 12, 13, 14, 15, 16, 17, 18] (.reg (.op 0 (.op 1 (.op 2 (.test 2 (.skip 3 (.skip 4 (.skip 5 (.skip 6 (.skip 7 (.skip 8 (.skip 9 (.skip 10 (.op 11 .done))))))))) (.op 3 (.op 4 (.op 5 (.op 6 (.op 7 (.op 8 (.op 9 (.op 10 (.op 11 .done)))))))))))))) (.cond (.seq (.reg (.op 0 (.op 1 (.op 2 .done)))) .nop) .nop)) (.seq (.reg (.op 0 (.op 1 (.op 2 (.op 3 (.op 4 (.op 5 (.op 6 (.op 7 (.op 8 .done)))))))))) (.seq (.reg (.op 0 (.op 1 (.op 2 (.op 3 (.op 4 (.op 5 (.op 6 (.op 7 (.op 8 (.op 9 (.op 10 .done)))))))))))) (.seq (.draw (.op 0 (.op 1 (.op 2 (.op 3 (.op 4 (.op 5 (.op 6 (.op 7 (.op 8 (.op 9 (.op 10 (.op 11 (.op 12 (.fin 13 .done))))))))))))))) (.seq (.draw (.op 0 (.op 1 (.op 2 (.op 3 (.op 4 (.op 5 (.op 6 (.op 7 (.op 8 (.op 9 (.op 10 (.op 13 (.op 14 (.op 11 (.op 12 (.op 15 (.fin 16 .done)))))))))))))))))) (.seq (.reg (.op 0 (.op 1 (.op 2 .done)))) .nop)))))))

theorem history_History_move.ok : okC Try.f17.ntmps history_History_move.sc (bodyOf Try.f17) = true := by kernel_rfl

theorem history_History_move.eq {K : K1} {h0 from1 : Value} {w : World} : history_History_move K h0 from1 w = codeS Try.prog history_History_move.sc (bodyOf Try.f17) (argsF 0 [h0, from1]) w (retQ Try.prog Try.f17.results.toList K) := by kernel_rfl

theorem history_History_move.call {K : K1} {h0 from1 : Value} {w : World} (h : history_History_move K h0 from1 w) : sCall Try.prog 17 [h0, from1] w K := sCall_code mixed Try.func17 (by kernel_rfl) rfl rfl history_History_move.ok history_History_move.eq h

abbrev history_History_move.n : Nat := 17

end S
end Go.Proofs.Ytphpegpbkapieaa

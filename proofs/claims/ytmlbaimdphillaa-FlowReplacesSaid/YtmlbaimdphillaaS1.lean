/- The functions of this seat, their code without slots, and that a call of each is what its code says: by program (lift.py). No conditions. -/
import Derived.Test.YtmlbaimdphillaaRs4
import Derived.Test.YtmlbaimdphillaaRows
import Derived.KernelRfl
namespace Go.Proofs.Ytmlbaimdphillaa
open Go Go.Lift
namespace S
set_option maxRecDepth 10000
set_option linter.unusedVariables false
theorem mixed : Try.prog.follows .mixedOrders = true := by kernel_rfl
abbrev T.int64 : Nat := 2
theorem tcell_int64 : cellQ Try.prog 2 = true := by kernel_rfl
theorem tsz_int64 : szQ Try.prog 2 = 1 := by kernel_rfl
theorem tby_int64 : byQ Try.prog 2 = 8 := by kernel_rfl
theorem tze_int64 : zeroQ Try.prog 2 = some [(.int .i64 0)] := by kernel_rfl
abbrev T.int : Nat := 3
theorem tcell_int : cellQ Try.prog 3 = true := by kernel_rfl
theorem tsz_int : szQ Try.prog 3 = 1 := by kernel_rfl
theorem tby_int : byQ Try.prog 3 = 8 := by kernel_rfl
theorem tze_int : zeroQ Try.prog 3 = some [(.int .i64 0)] := by kernel_rfl
abbrev T.bool : Nat := 4
theorem tcell_bool : cellQ Try.prog 4 = true := by kernel_rfl
theorem tsz_bool : szQ Try.prog 4 = 1 := by kernel_rfl
theorem tby_bool : byQ Try.prog 4 = 1 := by kernel_rfl
theorem tze_bool : zeroQ Try.prog 4 = some [(.bool false)] := by kernel_rfl
abbrev T.string : Nat := 9
theorem tcell_string : cellQ Try.prog 9 = true := by kernel_rfl
theorem tsz_string : szQ Try.prog 9 = 1 := by kernel_rfl
theorem tby_string : byQ Try.prog 9 = 16 := by kernel_rfl
theorem tze_string : zeroQ Try.prog 9 = some [(.string ⟨#[]⟩)] := by kernel_rfl
abbrev T.interface___ : Nat := 20
theorem tcell_interface___ : cellQ Try.prog 20 = true := by kernel_rfl
theorem tsz_interface___ : szQ Try.prog 20 = 1 := by kernel_rfl
theorem tby_interface___ : byQ Try.prog 20 = 16 := by kernel_rfl
theorem tze_interface___ : zeroQ Try.prog 20 = some [.nilIface] := by kernel_rfl
theorem tif_interface___ : ifcQ Try.prog 20 = true := by kernel_rfl
abbrev T.L_item_Item : Nat := 22
theorem tcell_L_item_Item : cellQ Try.prog 22 = true := by kernel_rfl
theorem tsz_L_item_Item : szQ Try.prog 22 = 1 := by kernel_rfl
theorem tby_L_item_Item : byQ Try.prog 22 = 24 := by kernel_rfl
theorem tze_L_item_Item : zeroQ Try.prog 22 = some [(.slice none 0 0)] := by kernel_rfl
theorem tel_L_item_Item : elQ Try.prog 22 = some 51 := by kernel_rfl
abbrev T.A2_int : Nat := 23
theorem tagg_A2_int : aggN Try.prog 23 = some 2 := by kernel_rfl
theorem tsz_A2_int : szQ Try.prog 23 = 2 := by kernel_rfl
theorem tby_A2_int : byQ Try.prog 23 = 16 := by kernel_rfl
theorem tze_A2_int : zeroQ Try.prog 23 = some [(.int .i64 0), (.int .i64 0)] := by kernel_rfl
theorem tpl_A2_int : plQ Try.prog 23 = some [(0, 1), (1, 1)] := by kernel_rfl
theorem tar_A2_int : arQ Try.prog 23 = some (2, 3) := by kernel_rfl
abbrev T.dl_A2_int : List Nat := [3, 3]
theorem tdq_A2_int : deepQ Try.prog 20 23 = some T.dl_A2_int := by kernel_rfl
theorem taq_A2_int : aggQ Try.prog 23 = true := by kernel_rfl
theorem tgq_A2_int : Try.prog.eqGuardType Try.prog.depth 23 = false := by kernel_rfl
abbrev T.P_tree_Tree : Nat := 26
theorem tcell_P_tree_Tree : cellQ Try.prog 26 = true := by kernel_rfl
theorem tsz_P_tree_Tree : szQ Try.prog 26 = 1 := by kernel_rfl
theorem tby_P_tree_Tree : byQ Try.prog 26 = 8 := by kernel_rfl
theorem tze_P_tree_Tree : zeroQ Try.prog 26 = some [(.pointer none)] := by kernel_rfl
theorem tpt_P_tree_Tree : ptQ Try.prog 26 = true := by kernel_rfl
theorem tcq_P_tree_Tree : concQ Try.prog 26 = true := by kernel_rfl
abbrev T.api_Errno : Nat := 27
theorem tcell_api_Errno : cellQ Try.prog 27 = true := by kernel_rfl
theorem tsz_api_Errno : szQ Try.prog 27 = 1 := by kernel_rfl
theorem tby_api_Errno : byQ Try.prog 27 = 8 := by kernel_rfl
theorem tze_api_Errno : zeroQ Try.prog 27 = some [(.int .i64 0)] := by kernel_rfl
abbrev T.A3_int : Nat := 30
theorem tagg_A3_int : aggN Try.prog 30 = some 3 := by kernel_rfl
theorem tsz_A3_int : szQ Try.prog 30 = 3 := by kernel_rfl
theorem tby_A3_int : byQ Try.prog 30 = 24 := by kernel_rfl
theorem tze_A3_int : zeroQ Try.prog 30 = some [(.int .i64 0), (.int .i64 0), (.int .i64 0)] := by kernel_rfl
theorem tpl_A3_int : plQ Try.prog 30 = some [(0, 1), (1, 1), (2, 1)] := by kernel_rfl
theorem tar_A3_int : arQ Try.prog 30 = some (3, 3) := by kernel_rfl
abbrev T.dl_A3_int : List Nat := [3, 3, 3]
theorem tdq_A3_int : deepQ Try.prog 20 30 = some T.dl_A3_int := by kernel_rfl
theorem taq_A3_int : aggQ Try.prog 30 = true := by kernel_rfl
theorem tgq_A3_int : Try.prog.eqGuardType Try.prog.depth 30 = false := by kernel_rfl
abbrev T.item_Sum : Nat := 32
theorem tagg_item_Sum : aggN Try.prog 32 = some 6 := by kernel_rfl
theorem tsz_item_Sum : szQ Try.prog 32 = 6 := by kernel_rfl
theorem tby_item_Sum : byQ Try.prog 32 = 48 := by kernel_rfl
theorem tze_item_Sum : zeroQ Try.prog 32 = some [(.int .i64 0), (.int .i64 0), (.int .i64 0), (.int .i64 0), (.int .i64 0), (.int .i64 0)] := by kernel_rfl
theorem tfl_item_Sum_N : flQ Try.prog 32 0 = some 0 := by kernel_rfl
theorem tfl_item_Sum_D : flQ Try.prog 32 1 = some 1 := by kernel_rfl
theorem tfl_item_Sum_Max : flQ Try.prog 32 2 = some 4 := by kernel_rfl
theorem tfl_item_Sum_At : flQ Try.prog 32 3 = some 5 := by kernel_rfl
theorem tpl_item_Sum : plQ Try.prog 32 = some [(0, 1), (1, 3), (4, 1), (5, 1)] := by kernel_rfl
theorem tfd_item_Sum_N : fdT Try.prog 32 0 = some (3, 0) := by kernel_rfl
theorem tfd_item_Sum_D : fdT Try.prog 32 1 = some (30, 1) := by kernel_rfl
theorem tfd_item_Sum_Max : fdT Try.prog 32 2 = some (3, 4) := by kernel_rfl
theorem tfd_item_Sum_At : fdT Try.prog 32 3 = some (3, 5) := by kernel_rfl
abbrev T.dl_item_Sum : List Nat := [3, 3, 3, 3, 3, 3]
theorem tdq_item_Sum : deepQ Try.prog 20 32 = some T.dl_item_Sum := by kernel_rfl
theorem taq_item_Sum : aggQ Try.prog 32 = true := by kernel_rfl
theorem tgq_item_Sum : Try.prog.eqGuardType Try.prog.depth 32 = false := by kernel_rfl
abbrev T.tree_Place : Nat := 34
theorem tagg_tree_Place : aggN Try.prog 34 = some 8 := by kernel_rfl
theorem tsz_tree_Place : szQ Try.prog 34 = 8 := by kernel_rfl
theorem tby_tree_Place : byQ Try.prog 34 = 64 := by kernel_rfl
theorem tze_tree_Place : zeroQ Try.prog 34 = some [(.int .i64 0), (.int .i64 0), (.int .i64 0), (.int .i64 0), (.int .i64 0), (.int .i64 0), (.int .i64 0), (.int .i64 0)] := by kernel_rfl
theorem tfl_tree_Place_Index : flQ Try.prog 34 0 = some 0 := by kernel_rfl
theorem tfl_tree_Place_Before : flQ Try.prog 34 1 = some 1 := by kernel_rfl
theorem tfl_tree_Place_Visits : flQ Try.prog 34 2 = some 7 := by kernel_rfl
theorem tpl_tree_Place : plQ Try.prog 34 = some [(0, 1), (1, 6), (7, 1)] := by kernel_rfl
theorem tfd_tree_Place_Index : fdT Try.prog 34 0 = some (3, 0) := by kernel_rfl
theorem tfd_tree_Place_Before : fdT Try.prog 34 1 = some (32, 1) := by kernel_rfl
theorem tfd_tree_Place_Visits : fdT Try.prog 34 2 = some (3, 7) := by kernel_rfl
abbrev T.dl_tree_Place : List Nat := [3, 3, 3, 3, 3, 3, 3, 3]
theorem tdq_tree_Place : deepQ Try.prog 20 34 = some T.dl_tree_Place := by kernel_rfl
theorem taq_tree_Place : aggQ Try.prog 34 = true := by kernel_rfl
theorem tgq_tree_Place : Try.prog.eqGuardType Try.prog.depth 34 = false := by kernel_rfl
abbrev T.L_bodkinref04_Item : Nat := 37
theorem tcell_L_bodkinref04_Item : cellQ Try.prog 37 = true := by kernel_rfl
theorem tsz_L_bodkinref04_Item : szQ Try.prog 37 = 1 := by kernel_rfl
theorem tby_L_bodkinref04_Item : byQ Try.prog 37 = 24 := by kernel_rfl
theorem tze_L_bodkinref04_Item : zeroQ Try.prog 37 = some [(.slice none 0 0)] := by kernel_rfl
theorem tel_L_bodkinref04_Item : elQ Try.prog 37 = some 105 := by kernel_rfl
abbrev T.bodkinref04_Sum : Nat := 40
theorem tagg_bodkinref04_Sum : aggN Try.prog 40 = some 6 := by kernel_rfl
theorem tsz_bodkinref04_Sum : szQ Try.prog 40 = 6 := by kernel_rfl
theorem tby_bodkinref04_Sum : byQ Try.prog 40 = 48 := by kernel_rfl
theorem tze_bodkinref04_Sum : zeroQ Try.prog 40 = some [(.int .i64 0), (.int .i64 0), (.int .i64 0), (.int .i64 0), (.int .i64 0), (.int .i64 0)] := by kernel_rfl
theorem tfl_bodkinref04_Sum_N : flQ Try.prog 40 0 = some 0 := by kernel_rfl
theorem tfl_bodkinref04_Sum_D : flQ Try.prog 40 1 = some 1 := by kernel_rfl
theorem tfl_bodkinref04_Sum_Max : flQ Try.prog 40 2 = some 4 := by kernel_rfl
theorem tfl_bodkinref04_Sum_At : flQ Try.prog 40 3 = some 5 := by kernel_rfl
theorem tpl_bodkinref04_Sum : plQ Try.prog 40 = some [(0, 1), (1, 3), (4, 1), (5, 1)] := by kernel_rfl
theorem tfd_bodkinref04_Sum_N : fdT Try.prog 40 0 = some (3, 0) := by kernel_rfl
theorem tfd_bodkinref04_Sum_D : fdT Try.prog 40 1 = some (30, 1) := by kernel_rfl
theorem tfd_bodkinref04_Sum_Max : fdT Try.prog 40 2 = some (3, 4) := by kernel_rfl
theorem tfd_bodkinref04_Sum_At : fdT Try.prog 40 3 = some (3, 5) := by kernel_rfl
abbrev T.dl_bodkinref04_Sum : List Nat := [3, 3, 3, 3, 3, 3]
theorem tdq_bodkinref04_Sum : deepQ Try.prog 20 40 = some T.dl_bodkinref04_Sum := by kernel_rfl
theorem taq_bodkinref04_Sum : aggQ Try.prog 40 = true := by kernel_rfl
theorem tgq_bodkinref04_Sum : Try.prog.eqGuardType Try.prog.depth 40 = false := by kernel_rfl
abbrev T.bodkinref05_Place : Nat := 42
theorem tagg_bodkinref05_Place : aggN Try.prog 42 = some 7 := by kernel_rfl
theorem tsz_bodkinref05_Place : szQ Try.prog 42 = 7 := by kernel_rfl
theorem tby_bodkinref05_Place : byQ Try.prog 42 = 56 := by kernel_rfl
theorem tze_bodkinref05_Place : zeroQ Try.prog 42 = some [(.int .i64 0), (.int .i64 0), (.int .i64 0), (.int .i64 0), (.int .i64 0), (.int .i64 0), (.int .i64 0)] := by kernel_rfl
theorem tfl_bodkinref05_Place_Index : flQ Try.prog 42 0 = some 0 := by kernel_rfl
theorem tfl_bodkinref05_Place_Before : flQ Try.prog 42 1 = some 1 := by kernel_rfl
theorem tpl_bodkinref05_Place : plQ Try.prog 42 = some [(0, 1), (1, 6)] := by kernel_rfl
theorem tfd_bodkinref05_Place_Index : fdT Try.prog 42 0 = some (3, 0) := by kernel_rfl
theorem tfd_bodkinref05_Place_Before : fdT Try.prog 42 1 = some (40, 1) := by kernel_rfl
abbrev T.dl_bodkinref05_Place : List Nat := [3, 3, 3, 3, 3, 3, 3]
theorem tdq_bodkinref05_Place : deepQ Try.prog 20 42 = some T.dl_bodkinref05_Place := by kernel_rfl
theorem taq_bodkinref05_Place : aggQ Try.prog 42 = true := by kernel_rfl
theorem tgq_bodkinref05_Place : Try.prog.eqGuardType Try.prog.depth 42 = false := by kernel_rfl
abbrev T.item_Item : Nat := 51
theorem tagg_item_Item : aggN Try.prog 51 = some 7 := by kernel_rfl
theorem tsz_item_Item : szQ Try.prog 51 = 7 := by kernel_rfl
theorem tby_item_Item : byQ Try.prog 51 = 64 := by kernel_rfl
theorem tze_item_Item : zeroQ Try.prog 51 = some [(.int .i64 0), (.int .i64 0), (.int .i64 0), (.int .i64 0), (.int .i64 0), (.int .i64 0), (.string ⟨#[]⟩)] := by kernel_rfl
theorem tfl_item_Item_Tag : flQ Try.prog 51 0 = some 0 := by kernel_rfl
theorem tfl_item_Item_ID : flQ Try.prog 51 1 = some 1 := by kernel_rfl
theorem tfl_item_Item_D : flQ Try.prog 51 2 = some 2 := by kernel_rfl
theorem tfl_item_Item_Max : flQ Try.prog 51 3 = some 5 := by kernel_rfl
theorem tfl_item_Item_Text : flQ Try.prog 51 4 = some 6 := by kernel_rfl
theorem tpl_item_Item : plQ Try.prog 51 = some [(0, 1), (1, 1), (2, 3), (5, 1), (6, 1)] := by kernel_rfl
theorem tfd_item_Item_Tag : fdT Try.prog 51 0 = some (3, 0) := by kernel_rfl
theorem tfd_item_Item_ID : fdT Try.prog 51 1 = some (3, 1) := by kernel_rfl
theorem tfd_item_Item_D : fdT Try.prog 51 2 = some (30, 2) := by kernel_rfl
theorem tfd_item_Item_Max : fdT Try.prog 51 3 = some (3, 5) := by kernel_rfl
theorem tfd_item_Item_Text : fdT Try.prog 51 4 = some (9, 6) := by kernel_rfl
abbrev T.dl_item_Item : List Nat := [3, 3, 3, 3, 3, 3, 9]
theorem tdq_item_Item : deepQ Try.prog 20 51 = some T.dl_item_Item := by kernel_rfl
theorem taq_item_Item : aggQ Try.prog 51 = true := by kernel_rfl
theorem tgq_item_Item : Try.prog.eqGuardType Try.prog.depth 51 = false := by kernel_rfl
abbrev T.L_flow_Line : Nat := 55
theorem tcell_L_flow_Line : cellQ Try.prog 55 = true := by kernel_rfl
theorem tsz_L_flow_Line : szQ Try.prog 55 = 1 := by kernel_rfl
theorem tby_L_flow_Line : byQ Try.prog 55 = 24 := by kernel_rfl
theorem tze_L_flow_Line : zeroQ Try.prog 55 = some [(.slice none 0 0)] := by kernel_rfl
theorem tel_L_flow_Line : elQ Try.prog 55 = some 69 := by kernel_rfl
abbrev T.L_bodkinref22_Line : Nat := 57
theorem tcell_L_bodkinref22_Line : cellQ Try.prog 57 = true := by kernel_rfl
theorem tsz_L_bodkinref22_Line : szQ Try.prog 57 = 1 := by kernel_rfl
theorem tby_L_bodkinref22_Line : byQ Try.prog 57 = 24 := by kernel_rfl
theorem tze_L_bodkinref22_Line : zeroQ Try.prog 57 = some [(.slice none 0 0)] := by kernel_rfl
theorem tel_L_bodkinref22_Line : elQ Try.prog 57 = some 60 := by kernel_rfl
abbrev T.bodkinref22_Line : Nat := 60
theorem tagg_bodkinref22_Line : aggN Try.prog 60 = some 4 := by kernel_rfl
theorem tsz_bodkinref22_Line : szQ Try.prog 60 = 4 := by kernel_rfl
theorem tby_bodkinref22_Line : byQ Try.prog 60 = 32 := by kernel_rfl
theorem tze_bodkinref22_Line : zeroQ Try.prog 60 = some [(.int .i64 0), (.int .i64 0), (.int .i64 0), (.int .i64 0)] := by kernel_rfl
theorem tfl_bodkinref22_Line_Shown : flQ Try.prog 60 0 = some 0 := by kernel_rfl
theorem tfl_bodkinref22_Line_Buffer : flQ Try.prog 60 1 = some 1 := by kernel_rfl
theorem tfl_bodkinref22_Line_Rows : flQ Try.prog 60 2 = some 2 := by kernel_rfl
theorem tfl_bodkinref22_Line_Wide : flQ Try.prog 60 3 = some 3 := by kernel_rfl
theorem tpl_bodkinref22_Line : plQ Try.prog 60 = some [(0, 1), (1, 1), (2, 1), (3, 1)] := by kernel_rfl
theorem tfd_bodkinref22_Line_Shown : fdT Try.prog 60 0 = some (3, 0) := by kernel_rfl
theorem tfd_bodkinref22_Line_Buffer : fdT Try.prog 60 1 = some (3, 1) := by kernel_rfl
theorem tfd_bodkinref22_Line_Rows : fdT Try.prog 60 2 = some (3, 2) := by kernel_rfl
theorem tfd_bodkinref22_Line_Wide : fdT Try.prog 60 3 = some (3, 3) := by kernel_rfl
abbrev T.dl_bodkinref22_Line : List Nat := [3, 3, 3, 3]
theorem tdq_bodkinref22_Line : deepQ Try.prog 20 60 = some T.dl_bodkinref22_Line := by kernel_rfl
theorem taq_bodkinref22_Line : aggQ Try.prog 60 = true := by kernel_rfl
theorem tgq_bodkinref22_Line : Try.prog.eqGuardType Try.prog.depth 60 = false := by kernel_rfl
abbrev T.P_flow_Flow : Nat := 62
theorem tcell_P_flow_Flow : cellQ Try.prog 62 = true := by kernel_rfl
theorem tsz_P_flow_Flow : szQ Try.prog 62 = 1 := by kernel_rfl
theorem tby_P_flow_Flow : byQ Try.prog 62 = 8 := by kernel_rfl
theorem tze_P_flow_Flow : zeroQ Try.prog 62 = some [(.pointer none)] := by kernel_rfl
theorem tpt_P_flow_Flow : ptQ Try.prog 62 = true := by kernel_rfl
theorem tcq_P_flow_Flow : concQ Try.prog 62 = true := by kernel_rfl
abbrev T.flow_Spot : Nat := 66
theorem tagg_flow_Spot : aggN Try.prog 66 = some 5 := by kernel_rfl
theorem tsz_flow_Spot : szQ Try.prog 66 = 5 := by kernel_rfl
theorem tby_flow_Spot : byQ Try.prog 66 = 40 := by kernel_rfl
theorem tze_flow_Spot : zeroQ Try.prog 66 = some [(.int .i64 0), (.int .i64 0), (.int .i64 0), (.int .i64 0), (.int .i64 0)] := by kernel_rfl
theorem tfl_flow_Spot_Line : flQ Try.prog 66 0 = some 0 := by kernel_rfl
theorem tfl_flow_Spot_Inside : flQ Try.prog 66 1 = some 1 := by kernel_rfl
theorem tfl_flow_Spot_Row : flQ Try.prog 66 2 = some 2 := by kernel_rfl
theorem tfl_flow_Spot_Shown : flQ Try.prog 66 3 = some 3 := by kernel_rfl
theorem tfl_flow_Spot_Buffer : flQ Try.prog 66 4 = some 4 := by kernel_rfl
theorem tpl_flow_Spot : plQ Try.prog 66 = some [(0, 1), (1, 1), (2, 1), (3, 1), (4, 1)] := by kernel_rfl
theorem tfd_flow_Spot_Line : fdT Try.prog 66 0 = some (3, 0) := by kernel_rfl
theorem tfd_flow_Spot_Inside : fdT Try.prog 66 1 = some (3, 1) := by kernel_rfl
theorem tfd_flow_Spot_Row : fdT Try.prog 66 2 = some (3, 2) := by kernel_rfl
theorem tfd_flow_Spot_Shown : fdT Try.prog 66 3 = some (3, 3) := by kernel_rfl
theorem tfd_flow_Spot_Buffer : fdT Try.prog 66 4 = some (3, 4) := by kernel_rfl
abbrev T.dl_flow_Spot : List Nat := [3, 3, 3, 3, 3]
theorem tdq_flow_Spot : deepQ Try.prog 20 66 = some T.dl_flow_Spot := by kernel_rfl
theorem taq_flow_Spot : aggQ Try.prog 66 = true := by kernel_rfl
theorem tgq_flow_Spot : Try.prog.eqGuardType Try.prog.depth 66 = false := by kernel_rfl
abbrev T.flow_Line : Nat := 69
theorem tagg_flow_Line : aggN Try.prog 69 = some 4 := by kernel_rfl
theorem tsz_flow_Line : szQ Try.prog 69 = 4 := by kernel_rfl
theorem tby_flow_Line : byQ Try.prog 69 = 32 := by kernel_rfl
theorem tze_flow_Line : zeroQ Try.prog 69 = some [(.int .i64 0), (.int .i64 0), (.int .i64 0), (.int .i64 0)] := by kernel_rfl
theorem tfl_flow_Line_Shown : flQ Try.prog 69 0 = some 0 := by kernel_rfl
theorem tfl_flow_Line_Buffer : flQ Try.prog 69 1 = some 1 := by kernel_rfl
theorem tfl_flow_Line_Rows : flQ Try.prog 69 2 = some 2 := by kernel_rfl
theorem tfl_flow_Line_Wide : flQ Try.prog 69 3 = some 3 := by kernel_rfl
theorem tpl_flow_Line : plQ Try.prog 69 = some [(0, 1), (1, 1), (2, 1), (3, 1)] := by kernel_rfl
theorem tfd_flow_Line_Shown : fdT Try.prog 69 0 = some (3, 0) := by kernel_rfl
theorem tfd_flow_Line_Buffer : fdT Try.prog 69 1 = some (3, 1) := by kernel_rfl
theorem tfd_flow_Line_Rows : fdT Try.prog 69 2 = some (3, 2) := by kernel_rfl
theorem tfd_flow_Line_Wide : fdT Try.prog 69 3 = some (3, 3) := by kernel_rfl
abbrev T.dl_flow_Line : List Nat := [3, 3, 3, 3]
theorem tdq_flow_Line : deepQ Try.prog 20 69 = some T.dl_flow_Line := by kernel_rfl
theorem taq_flow_Line : aggQ Try.prog 69 = true := by kernel_rfl
theorem tgq_flow_Line : Try.prog.eqGuardType Try.prog.depth 69 = false := by kernel_rfl
abbrev T.P_seek_Cursor : Nat := 73
theorem tcell_P_seek_Cursor : cellQ Try.prog 73 = true := by kernel_rfl
theorem tsz_P_seek_Cursor : szQ Try.prog 73 = 1 := by kernel_rfl
theorem tby_P_seek_Cursor : byQ Try.prog 73 = 8 := by kernel_rfl
theorem tze_P_seek_Cursor : zeroQ Try.prog 73 = some [(.pointer none)] := by kernel_rfl
theorem tpt_P_seek_Cursor : ptQ Try.prog 73 = true := by kernel_rfl
theorem tcq_P_seek_Cursor : concQ Try.prog 73 = true := by kernel_rfl
abbrev T.L_bodkinlaw06_Step : Nat := 78
theorem tcell_L_bodkinlaw06_Step : cellQ Try.prog 78 = true := by kernel_rfl
theorem tsz_L_bodkinlaw06_Step : szQ Try.prog 78 = 1 := by kernel_rfl
theorem tby_L_bodkinlaw06_Step : byQ Try.prog 78 = 24 := by kernel_rfl
theorem tze_L_bodkinlaw06_Step : zeroQ Try.prog 78 = some [(.slice none 0 0)] := by kernel_rfl
theorem tel_L_bodkinlaw06_Step : elQ Try.prog 78 = some 83 := by kernel_rfl
abbrev T.P_bodkinref06_Cursor : Nat := 79
theorem tcell_P_bodkinref06_Cursor : cellQ Try.prog 79 = true := by kernel_rfl
theorem tsz_P_bodkinref06_Cursor : szQ Try.prog 79 = 1 := by kernel_rfl
theorem tby_P_bodkinref06_Cursor : byQ Try.prog 79 = 8 := by kernel_rfl
theorem tze_P_bodkinref06_Cursor : zeroQ Try.prog 79 = some [(.pointer none)] := by kernel_rfl
theorem tpt_P_bodkinref06_Cursor : ptQ Try.prog 79 = true := by kernel_rfl
theorem tcq_P_bodkinref06_Cursor : concQ Try.prog 79 = true := by kernel_rfl
abbrev T.bodkinref06_Cursor : Nat := 81
theorem tagg_bodkinref06_Cursor : aggN Try.prog 81 = some 2 := by kernel_rfl
theorem tsz_bodkinref06_Cursor : szQ Try.prog 81 = 2 := by kernel_rfl
theorem tby_bodkinref06_Cursor : byQ Try.prog 81 = 32 := by kernel_rfl
theorem tze_bodkinref06_Cursor : zeroQ Try.prog 81 = some [(.slice none 0 0), (.int .i64 0)] := by kernel_rfl
theorem tfl_bodkinref06_Cursor_L : flQ Try.prog 81 0 = some 0 := by kernel_rfl
theorem tfl_bodkinref06_Cursor_At : flQ Try.prog 81 1 = some 1 := by kernel_rfl
theorem tpl_bodkinref06_Cursor : plQ Try.prog 81 = some [(0, 1), (1, 1)] := by kernel_rfl
theorem tfd_bodkinref06_Cursor_L : fdT Try.prog 81 0 = some (37, 0) := by kernel_rfl
theorem tfd_bodkinref06_Cursor_At : fdT Try.prog 81 1 = some (3, 1) := by kernel_rfl
abbrev T.bodkinlaw06_Step : Nat := 83
theorem tagg_bodkinlaw06_Step : aggN Try.prog 83 = some 4 := by kernel_rfl
theorem tsz_bodkinlaw06_Step : szQ Try.prog 83 = 4 := by kernel_rfl
theorem tby_bodkinlaw06_Step : byQ Try.prog 83 = 32 := by kernel_rfl
theorem tze_bodkinlaw06_Step : zeroQ Try.prog 83 = some [(.int .i64 0), (.int .i64 0), (.int .i64 0), (.int .i64 0)] := by kernel_rfl
theorem tfl_bodkinlaw06_Step_What : flQ Try.prog 83 0 = some 0 := by kernel_rfl
theorem tfl_bodkinlaw06_Step_Dim : flQ Try.prog 83 1 = some 1 := by kernel_rfl
theorem tfl_bodkinlaw06_Step_V : flQ Try.prog 83 2 = some 2 := by kernel_rfl
theorem tfl_bodkinlaw06_Step_Bias : flQ Try.prog 83 3 = some 3 := by kernel_rfl
theorem tpl_bodkinlaw06_Step : plQ Try.prog 83 = some [(0, 1), (1, 1), (2, 1), (3, 1)] := by kernel_rfl
theorem tfd_bodkinlaw06_Step_What : fdT Try.prog 83 0 = some (3, 0) := by kernel_rfl
theorem tfd_bodkinlaw06_Step_Dim : fdT Try.prog 83 1 = some (3, 1) := by kernel_rfl
theorem tfd_bodkinlaw06_Step_V : fdT Try.prog 83 2 = some (3, 2) := by kernel_rfl
theorem tfd_bodkinlaw06_Step_Bias : fdT Try.prog 83 3 = some (3, 3) := by kernel_rfl
abbrev T.dl_bodkinlaw06_Step : List Nat := [3, 3, 3, 3]
theorem tdq_bodkinlaw06_Step : deepQ Try.prog 20 83 = some T.dl_bodkinlaw06_Step := by kernel_rfl
theorem taq_bodkinlaw06_Step : aggQ Try.prog 83 = true := by kernel_rfl
theorem tgq_bodkinlaw06_Step : Try.prog.eqGuardType Try.prog.depth 83 = false := by kernel_rfl
abbrev T.L_bodkinlaw05_Step : Nat := 90
theorem tcell_L_bodkinlaw05_Step : cellQ Try.prog 90 = true := by kernel_rfl
theorem tsz_L_bodkinlaw05_Step : szQ Try.prog 90 = 1 := by kernel_rfl
theorem tby_L_bodkinlaw05_Step : byQ Try.prog 90 = 24 := by kernel_rfl
theorem tze_L_bodkinlaw05_Step : zeroQ Try.prog 90 = some [(.slice none 0 0)] := by kernel_rfl
theorem tel_L_bodkinlaw05_Step : elQ Try.prog 90 = some 92 := by kernel_rfl
abbrev T.bodkinlaw05_Step : Nat := 92
theorem tagg_bodkinlaw05_Step : aggN Try.prog 92 = some 3 := by kernel_rfl
theorem tsz_bodkinlaw05_Step : szQ Try.prog 92 = 3 := by kernel_rfl
theorem tby_bodkinlaw05_Step : byQ Try.prog 92 = 40 := by kernel_rfl
theorem tze_bodkinlaw05_Step : zeroQ Try.prog 92 = some [(.int .i64 0), (.int .i64 0), (.slice none 0 0)] := by kernel_rfl
theorem tfl_bodkinlaw05_Step_From : flQ Try.prog 92 0 = some 0 := by kernel_rfl
theorem tfl_bodkinlaw05_Step_To : flQ Try.prog 92 1 = some 1 := by kernel_rfl
theorem tfl_bodkinlaw05_Step_L : flQ Try.prog 92 2 = some 2 := by kernel_rfl
theorem tpl_bodkinlaw05_Step : plQ Try.prog 92 = some [(0, 1), (1, 1), (2, 1)] := by kernel_rfl
theorem tfd_bodkinlaw05_Step_From : fdT Try.prog 92 0 = some (3, 0) := by kernel_rfl
theorem tfd_bodkinlaw05_Step_To : fdT Try.prog 92 1 = some (3, 1) := by kernel_rfl
theorem tfd_bodkinlaw05_Step_L : fdT Try.prog 92 2 = some (22, 2) := by kernel_rfl
abbrev T.L_bodkinlaw22_Step : Nat := 99
theorem tcell_L_bodkinlaw22_Step : cellQ Try.prog 99 = true := by kernel_rfl
theorem tsz_L_bodkinlaw22_Step : szQ Try.prog 99 = 1 := by kernel_rfl
theorem tby_L_bodkinlaw22_Step : byQ Try.prog 99 = 24 := by kernel_rfl
theorem tze_L_bodkinlaw22_Step : zeroQ Try.prog 99 = some [(.slice none 0 0)] := by kernel_rfl
theorem tel_L_bodkinlaw22_Step : elQ Try.prog 99 = some 101 := by kernel_rfl
abbrev T.bodkinlaw22_Step : Nat := 101
theorem tagg_bodkinlaw22_Step : aggN Try.prog 101 = some 3 := by kernel_rfl
theorem tsz_bodkinlaw22_Step : szQ Try.prog 101 = 3 := by kernel_rfl
theorem tby_bodkinlaw22_Step : byQ Try.prog 101 = 40 := by kernel_rfl
theorem tze_bodkinlaw22_Step : zeroQ Try.prog 101 = some [(.int .i64 0), (.int .i64 0), (.slice none 0 0)] := by kernel_rfl
theorem tfl_bodkinlaw22_Step_From : flQ Try.prog 101 0 = some 0 := by kernel_rfl
theorem tfl_bodkinlaw22_Step_To : flQ Try.prog 101 1 = some 1 := by kernel_rfl
theorem tfl_bodkinlaw22_Step_L : flQ Try.prog 101 2 = some 2 := by kernel_rfl
theorem tpl_bodkinlaw22_Step : plQ Try.prog 101 = some [(0, 1), (1, 1), (2, 1)] := by kernel_rfl
theorem tfd_bodkinlaw22_Step_From : fdT Try.prog 101 0 = some (3, 0) := by kernel_rfl
theorem tfd_bodkinlaw22_Step_To : fdT Try.prog 101 1 = some (3, 1) := by kernel_rfl
theorem tfd_bodkinlaw22_Step_L : fdT Try.prog 101 2 = some (55, 2) := by kernel_rfl
abbrev T.bodkinref04_Item : Nat := 105
theorem tagg_bodkinref04_Item : aggN Try.prog 105 = some 7 := by kernel_rfl
theorem tsz_bodkinref04_Item : szQ Try.prog 105 = 7 := by kernel_rfl
theorem tby_bodkinref04_Item : byQ Try.prog 105 = 64 := by kernel_rfl
theorem tze_bodkinref04_Item : zeroQ Try.prog 105 = some [(.int .i64 0), (.int .i64 0), (.int .i64 0), (.int .i64 0), (.int .i64 0), (.int .i64 0), (.string ⟨#[]⟩)] := by kernel_rfl
theorem tfl_bodkinref04_Item_Tag : flQ Try.prog 105 0 = some 0 := by kernel_rfl
theorem tfl_bodkinref04_Item_ID : flQ Try.prog 105 1 = some 1 := by kernel_rfl
theorem tfl_bodkinref04_Item_D : flQ Try.prog 105 2 = some 2 := by kernel_rfl
theorem tfl_bodkinref04_Item_Max : flQ Try.prog 105 3 = some 5 := by kernel_rfl
theorem tfl_bodkinref04_Item_Text : flQ Try.prog 105 4 = some 6 := by kernel_rfl
theorem tpl_bodkinref04_Item : plQ Try.prog 105 = some [(0, 1), (1, 1), (2, 3), (5, 1), (6, 1)] := by kernel_rfl
theorem tfd_bodkinref04_Item_Tag : fdT Try.prog 105 0 = some (3, 0) := by kernel_rfl
theorem tfd_bodkinref04_Item_ID : fdT Try.prog 105 1 = some (3, 1) := by kernel_rfl
theorem tfd_bodkinref04_Item_D : fdT Try.prog 105 2 = some (30, 2) := by kernel_rfl
theorem tfd_bodkinref04_Item_Max : fdT Try.prog 105 3 = some (3, 5) := by kernel_rfl
theorem tfd_bodkinref04_Item_Text : fdT Try.prog 105 4 = some (9, 6) := by kernel_rfl
abbrev T.dl_bodkinref04_Item : List Nat := [3, 3, 3, 3, 3, 3, 9]
theorem tdq_bodkinref04_Item : deepQ Try.prog 20 105 = some T.dl_bodkinref04_Item := by kernel_rfl
theorem taq_bodkinref04_Item : aggQ Try.prog 105 = true := by kernel_rfl
theorem tgq_bodkinref04_Item : Try.prog.eqGuardType Try.prog.depth 105 = false := by kernel_rfl
abbrev T.tree_node : Nat := 107
theorem tcell_tree_node : cellQ Try.prog 107 = true := by kernel_rfl
theorem tsz_tree_node : szQ Try.prog 107 = 1 := by kernel_rfl
theorem tby_tree_node : byQ Try.prog 107 = 16 := by kernel_rfl
theorem tze_tree_node : zeroQ Try.prog 107 = some [.nilIface] := by kernel_rfl
theorem tif_tree_node : ifcQ Try.prog 107 = true := by kernel_rfl
abbrev T.P_tree_leaf : Nat := 110
theorem tcell_P_tree_leaf : cellQ Try.prog 110 = true := by kernel_rfl
theorem tsz_P_tree_leaf : szQ Try.prog 110 = 1 := by kernel_rfl
theorem tby_P_tree_leaf : byQ Try.prog 110 = 8 := by kernel_rfl
theorem tze_P_tree_leaf : zeroQ Try.prog 110 = some [(.pointer none)] := by kernel_rfl
theorem tpt_P_tree_leaf : ptQ Try.prog 110 = true := by kernel_rfl
theorem tcq_P_tree_leaf : concQ Try.prog 110 = true := by kernel_rfl
abbrev T.tree_Tree : Nat := 113
theorem tagg_tree_Tree : aggN Try.prog 113 = some 1 := by kernel_rfl
theorem tsz_tree_Tree : szQ Try.prog 113 = 1 := by kernel_rfl
theorem tby_tree_Tree : byQ Try.prog 113 = 16 := by kernel_rfl
theorem tze_tree_Tree : zeroQ Try.prog 113 = some [.nilIface] := by kernel_rfl
theorem tfl_tree_Tree_root : flQ Try.prog 113 0 = some 0 := by kernel_rfl
theorem tpl_tree_Tree : plQ Try.prog 113 = some [(0, 1)] := by kernel_rfl
theorem tfd_tree_Tree_root : fdT Try.prog 113 0 = some (107, 0) := by kernel_rfl
abbrev T.P_tree_inner : Nat := 116
theorem tcell_P_tree_inner : cellQ Try.prog 116 = true := by kernel_rfl
theorem tsz_P_tree_inner : szQ Try.prog 116 = 1 := by kernel_rfl
theorem tby_P_tree_inner : byQ Try.prog 116 = 8 := by kernel_rfl
theorem tze_P_tree_inner : zeroQ Try.prog 116 = some [(.pointer none)] := by kernel_rfl
theorem tpt_P_tree_inner : ptQ Try.prog 116 = true := by kernel_rfl
theorem tcq_P_tree_inner : concQ Try.prog 116 = true := by kernel_rfl
abbrev T.L_tree_node : Nat := 118
theorem tcell_L_tree_node : cellQ Try.prog 118 = true := by kernel_rfl
theorem tsz_L_tree_node : szQ Try.prog 118 = 1 := by kernel_rfl
theorem tby_L_tree_node : byQ Try.prog 118 = 24 := by kernel_rfl
theorem tze_L_tree_node : zeroQ Try.prog 118 = some [(.slice none 0 0)] := by kernel_rfl
theorem tel_L_tree_node : elQ Try.prog 118 = some 107 := by kernel_rfl
abbrev T.tree_inner : Nat := 120
theorem tagg_tree_inner : aggN Try.prog 120 = some 8 := by kernel_rfl
theorem tsz_tree_inner : szQ Try.prog 120 = 8 := by kernel_rfl
theorem tby_tree_inner : byQ Try.prog 120 = 80 := by kernel_rfl
theorem tze_tree_inner : zeroQ Try.prog 120 = some [(.slice none 0 0), (.int .i64 0), (.int .i64 0), (.int .i64 0), (.int .i64 0), (.int .i64 0), (.int .i64 0), (.int .i64 0)] := by kernel_rfl
theorem tfl_tree_inner_kids : flQ Try.prog 120 0 = some 0 := by kernel_rfl
theorem tfl_tree_inner_height : flQ Try.prog 120 1 = some 1 := by kernel_rfl
theorem tfl_tree_inner_sum : flQ Try.prog 120 2 = some 2 := by kernel_rfl
theorem tpl_tree_inner : plQ Try.prog 120 = some [(0, 1), (1, 1), (2, 6)] := by kernel_rfl
theorem tfd_tree_inner_kids : fdT Try.prog 120 0 = some (118, 0) := by kernel_rfl
theorem tfd_tree_inner_height : fdT Try.prog 120 1 = some (3, 1) := by kernel_rfl
theorem tfd_tree_inner_sum : fdT Try.prog 120 2 = some (32, 2) := by kernel_rfl
abbrev T.tree_leaf : Nat := 125
theorem tagg_tree_leaf : aggN Try.prog 125 = some 7 := by kernel_rfl
theorem tsz_tree_leaf : szQ Try.prog 125 = 7 := by kernel_rfl
theorem tby_tree_leaf : byQ Try.prog 125 = 72 := by kernel_rfl
theorem tze_tree_leaf : zeroQ Try.prog 125 = some [(.slice none 0 0), (.int .i64 0), (.int .i64 0), (.int .i64 0), (.int .i64 0), (.int .i64 0), (.int .i64 0)] := by kernel_rfl
theorem tfl_tree_leaf_items : flQ Try.prog 125 0 = some 0 := by kernel_rfl
theorem tfl_tree_leaf_sum : flQ Try.prog 125 1 = some 1 := by kernel_rfl
theorem tpl_tree_leaf : plQ Try.prog 125 = some [(0, 1), (1, 6)] := by kernel_rfl
theorem tfd_tree_leaf_items : fdT Try.prog 125 0 = some (22, 0) := by kernel_rfl
theorem tfd_tree_leaf_sum : fdT Try.prog 125 1 = some (32, 1) := by kernel_rfl
abbrev T.seek_Cursor : Nat := 143
theorem tagg_seek_Cursor : aggN Try.prog 143 = some 9 := by kernel_rfl
theorem tsz_seek_Cursor : szQ Try.prog 143 = 9 := by kernel_rfl
theorem tby_seek_Cursor : byQ Try.prog 143 = 72 := by kernel_rfl
theorem tze_seek_Cursor : zeroQ Try.prog 143 = some [(.pointer none), (.int .i64 0), (.int .i64 0), (.int .i64 0), (.int .i64 0), (.int .i64 0), (.int .i64 0), (.int .i64 0), (.int .i64 0)] := by kernel_rfl
theorem tfl_seek_Cursor_t : flQ Try.prog 143 0 = some 0 := by kernel_rfl
theorem tfl_seek_Cursor_at : flQ Try.prog 143 1 = some 1 := by kernel_rfl
theorem tpl_seek_Cursor : plQ Try.prog 143 = some [(0, 1), (1, 8)] := by kernel_rfl
theorem tfd_seek_Cursor_t : fdT Try.prog 143 0 = some (26, 0) := by kernel_rfl
theorem tfd_seek_Cursor_at : fdT Try.prog 143 1 = some (34, 1) := by kernel_rfl
abbrev T.flow_Flow : Nat := 157
theorem tagg_flow_Flow : aggN Try.prog 157 = some 1 := by kernel_rfl
theorem tsz_flow_Flow : szQ Try.prog 157 = 1 := by kernel_rfl
theorem tby_flow_Flow : byQ Try.prog 157 = 8 := by kernel_rfl
theorem tze_flow_Flow : zeroQ Try.prog 157 = some [(.pointer none)] := by kernel_rfl
theorem tfl_flow_Flow_t : flQ Try.prog 157 0 = some 0 := by kernel_rfl
theorem tpl_flow_Flow : plQ Try.prog 157 = some [(0, 1)] := by kernel_rfl
theorem tfd_flow_Flow_t : fdT Try.prog 157 0 = some (26, 0) := by kernel_rfl
/-- 'bodkin bodkinlaw05.TreeFinds' -/
def bodkinlaw05_TreeFinds (K : K1) (l0 dim1 at2 : Value) (w : World) : Prop :=
  sBox Try.prog 23 at2 w fun at5 w =>
  sCall Try.prog 16 [l0] w fun x14 w =>
  sUn Try.prog .not x14 w fun x15 w =>
  sIf x15 (
    sCall Try.prog 17 [] w fun x16 w =>
    K x16 w) (
    sCall Try.prog 18 [l0] w fun x19 w =>
    sExtract x19 0 w fun x20 w =>
    sExtract x19 1 w fun x21 w =>
    sBin Try.prog .neq 27 false true x21 (.int .i64 0) w fun x23 w =>
    sIf x23 (
      K (.bool false) w) (
      sBin Try.prog .eql 26 false true x20 (.pointer none) w fun x26 w =>
      sIf x26 (
        K (.bool false) w) (
        sIdxA Try.prog 23 at5 (.int .i64 0) w fun x31 w =>
        sLoad Try.prog 3 x31 w fun x32 w =>
        sIdxA Try.prog 23 at5 (.int .i64 1) w fun x33 w =>
        sLoad Try.prog 3 x33 w fun x34 w =>
        sCall Try.prog 19 [x20, dim1, x32, x34] w fun x35 w =>
        sExtract x35 0 w fun x36 w =>
        sExtract x35 1 w fun x37 w =>
        sAlloc Try.prog 34 w fun p9 w =>
        sStore Try.prog 34 p9 x36 w fun w =>
        sCall Try.prog 20 [l0] w fun x39 w =>
        sLoad Try.prog 23 at5 w fun x42 w =>
        sCall Try.prog 21 [x39, dim1, x42] w fun x43 w =>
        sUn Try.prog .not x43 w fun x44 w =>
        sIf x44 (
          sBin Try.prog .eql 27 false true x37 (.int .i64 1) w fun x46 w =>
          sIf x46 (
            sLoad Try.prog 34 p9 w fun x48 w =>
            sBuild Try.prog 34 [] w fun x49 w =>
            sBin Try.prog .eql 34 false false x48 x49 w fun x50 w =>
            sIf x50 (
              sCall Try.prog 17 [] w fun x53 w =>
              K x53 w) (
              K (.bool false) w)) (
            K (.bool false) w)) (
          sLoad Try.prog 23 at5 w fun x57 w =>
          sCall Try.prog 22 [x39, dim1, x57] w fun x58 w =>
          sAlloc Try.prog 42 w fun w12 w =>
          sStore Try.prog 42 w12 x58 w fun w =>
          DrawS w fun C w =>
          stillS C w (fun w k => sBin Try.prog .eql 27 false true x37 (.int .i64 0) w k) fun x60 =>
          sIf x60 (
            stillS C w (fun w k => sFldA Try.prog 34 p9 0 w k) fun x62 =>
            stillS C w (fun w k => sLoad Try.prog 3 x62 w k) fun x63 =>
            stillS C w (fun w k => sFldA Try.prog 42 w12 0 w k) fun x64 =>
            stillS C w (fun w k => sLoad Try.prog 3 x64 w k) fun x65 =>
            stillS C w (fun w k => sBin Try.prog .eql 3 false false x63 x65 w k) fun x66 =>
            sIf x66 (
              stillS C w (fun w k => sFldA Try.prog 34 p9 1 w k) fun x69 =>
              stillS C w (fun w k => sLoad Try.prog 32 x69 w k) fun x70 =>
              stillS C w (fun w k => sFldA Try.prog 42 w12 1 w k) fun x72 =>
              stillS C w (fun w k => sLoad Try.prog 40 x72 w k) fun x73 =>
              sCall Try.prog 23 [x70] w fun x71 w => C w ∧
              stillS C w (fun w k => sBin Try.prog .eql 40 false false x71 x73 w k) fun x74 =>
              sIf x74 (
                stillS C w (fun w k => sFldA Try.prog 34 p9 2 w k) fun x77 =>
                stillS C w (fun w k => sLoad Try.prog 3 x77 w k) fun x78 =>
                stillS C w (fun w k => sBin Try.prog .geq 3 false true x78 (.int .i64 0) w k) fun x79 =>
                sIf x79 (
                  stillS C w (fun w k => sFldA Try.prog 34 p9 2 w k) fun x82 =>
                  stillS C w (fun w k => sLoad Try.prog 3 x82 w k) fun x83 =>
                  sCall Try.prog 24 [x20] w fun x85 w => C w ∧
                  stillS C w (fun w k => sBin Try.prog .leq 3 false false x83 x85 w k) fun x86 =>
                  sIf x86 (
                    sCall Try.prog 17 [] w fun x89 w => C w ∧
                    K x89 w) (
                    K (.bool false) w)) (
                  K (.bool false) w)) (
                K (.bool false) w)) (
              K (.bool false) w)) (
            K (.bool false) w)))))

def bodkinlaw05_TreeFinds.sc : SC := (.seq (.reg (.op 0 (.op 1 .done))) (.seq (.seq (.reg (.op 0 (.op 1 (.op 2 .done)))) (.cond (.seq (.reg (.op 0 (.op 1 .done))) .nop) .nop)) (.seq (.reg (.op 0 (.op 1 (.op 2 (.op 3 (.op 4 (.op 5 (.op 6 .done)))))))) (.seq (.seq (.reg (.op 0 (.op 1 (.op 2 (.test 2 (.skip 3 (.skip 4 (.op 5 .done))) (.op 3 (.op 4 (.op 5 .done)))))))) (.cond (.seq (.reg (.op 0 .done)) .nop) .nop)) (.seq (.reg (.op 0 (.op 1 (.op 2 (.op 3 (.op 4 (.op 5 (.op 6 (.op 7 (.op 8 (.op 9 (.op 10 (.op 11 (.op 12 .done)))))))))))))) (.seq (.reg (.op 0 (.op 1 (.op 2 .done)))) (.seq (.seq (.reg (.op 0 (.op 1 (.op 2 (.op 3 (.op 4 .done)))))) (.cond (.seq (.reg (.op 0 (.op 1 (.op 2 (.test 2 (.op 3 (.op 4 (.op 5 (.op 6 (.op 7 (.test 7 (.op 8 (.op 9 (.op 10 .done))) (.skip 8 (.op 9 (.op 10 .done))))))))) (.skip 3 (.skip 4 (.skip 5 (.op 6 (.op 7 (.know 7 false (.skip 8 (.op 9 (.op 10 .done)))))))))))))) .nop) .nop)) (.seq (.reg (.op 0 (.op 1 (.op 2 (.op 3 (.op 4 (.op 5 .done))))))) (.seq (.draw (.op 0 (.op 1 (.op 2 (.test 2 (.op 3 (.op 4 (.op 5 (.op 6 (.op 7 (.op 8 (.op 9 (.test 9 (.op 10 (.op 11 (.op 13 (.op 14 (.op 12 (.op 15 (.op 16 (.op 17 (.test 17 (.op 18 (.op 19 (.op 20 (.op 21 (.op 22 (.test 22 (.op 23 (.op 24 (.op 25 (.op 26 (.op 27 (.op 28 (.op 29 (.test 29 (.op 30 (.op 31 (.op 32 .done))) (.skip 30 (.op 31 (.op 32 .done))))))))))) (.skip 23 (.skip 24 (.skip 25 (.skip 26 (.skip 27 (.op 28 (.op 29 (.know 29 false (.skip 30 (.op 31 (.op 32 .done))))))))))))))))) (.skip 18 (.skip 19 (.skip 20 (.op 21 (.op 22 (.know 22 false (.skip 23 (.skip 24 (.skip 25 (.skip 26 (.skip 27 (.op 28 (.op 29 (.know 29 false (.skip 30 (.op 31 (.op 32 .done)))))))))))))))))))))))))) (.skip 10 (.skip 11 (.skip 12 (.skip 13 (.skip 14 (.skip 15 (.op 16 (.op 17 (.know 17 false (.skip 18 (.skip 19 (.skip 20 (.op 21 (.op 22 (.know 22 false (.skip 23 (.skip 24 (.skip 25 (.skip 26 (.skip 27 (.op 28 (.op 29 (.know 29 false (.skip 30 (.op 31 (.op 32 .done)))))))))))))))))))))))))))))))))) (.skip 3 (.skip 4 (.skip 5 (.skip 6 (.skip 7 (.op 8 (.op 9 (.know 9 false (.skip 10 (.skip 11 (.skip 12 (.skip 13 (.skip 14 (.skip 15 (.op 16 (.op 17 (.know 17 false (.skip 18 (.skip 19 (.skip 20 (.op 21 (.op 22 (.know 22 false (.skip 23 (.skip 24 (.skip 25 (.skip 26 (.skip 27 (.op 28 (.op 29 (.know 29 false (.skip 30 (.op 31 (.op 32 .done))))))))))))))))))))))))))))))))))))))) .nop)))))))))

theorem bodkinlaw05_TreeFinds.ok : okC Try.f3.ntmps bodkinlaw05_TreeFinds.sc (bodyOf Try.f3) = true := by kernel_rfl

theorem bodkinlaw05_TreeFinds.eq {K : K1} {l0 dim1 at2 : Value} {w : World} : bodkinlaw05_TreeFinds K l0 dim1 at2 w = codeS Try.prog bodkinlaw05_TreeFinds.sc (bodyOf Try.f3) (argsF 0 [l0, dim1, at2]) w (retQ Try.prog Try.f3.results.toList K) := by kernel_rfl

theorem bodkinlaw05_TreeFinds.call {K : K1} {l0 dim1 at2 : Value} {w : World} (h : bodkinlaw05_TreeFinds K l0 dim1 at2 w) : sCall Try.prog 3 [l0, dim1, at2] w K := sCall_code mixed Try.func3 (by kernel_rfl) rfl rfl bodkinlaw05_TreeFinds.ok bodkinlaw05_TreeFinds.eq h

abbrev bodkinlaw05_TreeFinds.n : Nat := 3

/-- 'bodkin bodkinlaw05.TreeJoins' -/
def bodkinlaw05_TreeJoins (K : K1) (a0 b1 : Value) (w : World) : Prop :=
  sCall Try.prog 16 [a0] w fun x13 w =>
  sUn Try.prog .not x13 w fun x14 w =>
  sIf x14 (
    sCall Try.prog 17 [] w fun x20 w =>
    K x20 w) (
    sCall Try.prog 16 [b1] w fun x17 w =>
    sUn Try.prog .not x17 w fun x18 w =>
    sIf x18 (
      sCall Try.prog 17 [] w fun x20_1 w =>
      K x20_1 w) (
      sCall Try.prog 18 [a0] w fun x23 w =>
      sExtract x23 0 w fun x24 w =>
      sExtract x23 1 w fun x25 w =>
      sCall Try.prog 18 [b1] w fun x28 w =>
      sExtract x28 0 w fun x29 w =>
      sExtract x28 1 w fun x30 w =>
      sBin Try.prog .neq 27 false true x25 (.int .i64 0) w fun x32 w =>
      sIf x32 (
        K (.bool false) w) (
        sBin Try.prog .neq 27 false true x30 (.int .i64 0) w fun x35 w =>
        sIf x35 (
          K (.bool false) w) (
          sBin Try.prog .eql 26 false true x24 (.pointer none) w fun x39 w =>
          sIf x39 (
            K (.bool false) w) (
            sBin Try.prog .eql 26 false true x29 (.pointer none) w fun x43 w =>
            sIf x43 (
              K (.bool false) w) (
              sCall Try.prog 25 [x24, x29] w fun x48 w =>
              sExtract x48 0 w fun x49 w =>
              sExtract x48 1 w fun x50 w =>
              sBuiltin Try.prog .append [22, 22] 22 [(.slice none 0 0), a0] w fun x53 w =>
              sBuiltin Try.prog .append [22, 22] 22 [x53, b1] w fun x56 w =>
              sBin Try.prog .eql 27 false true x50 (.int .i64 0) w fun x58 w =>
              sIf x58 (
                sBin Try.prog .neq 26 false true x49 (.pointer none) w fun x61 w =>
                sIf x61 (
                  sCall Try.prog 20 [x56] w fun x66 w =>
                  sCall Try.prog 26 [x49, x66] w fun x67 w =>
                  sIf x67 (
                    sCall Try.prog 20 [a0] w fun x72 w =>
                    sCall Try.prog 26 [x24, x72] w fun x73 w =>
                    sIf x73 (
                      sCall Try.prog 20 [b1] w fun x78 w =>
                      sCall Try.prog 26 [x29, x78] w fun x79 w =>
                      sIf x79 (
                        sCall Try.prog 17 [] w fun x82 w =>
                        K x82 w) (
                        K (.bool false) w)) (
                      K (.bool false) w)) (
                    K (.bool false) w)) (
                  K (.bool false) w)) (
                K (.bool false) w)))))))

def bodkinlaw05_TreeJoins.sc : SC := (.seq (.reg (.op 0 .done)) (.seq (.seq (.reg (.op 0 (.op 1 (.op 2 (.op 3 (.test 3 (.skip 4 (.skip 5 (.skip 6 (.op 7 .done)))) (.op 4 (.op 5 (.op 6 (.op 7 .done)))))))))) (.cond (.seq (.reg (.op 0 (.op 1 .done))) .nop) .nop)) (.seq (.reg (.op 0 (.op 1 (.op 2 (.op 3 (.op 4 (.op 5 (.op 6 .done)))))))) (.seq (.reg (.op 0 (.op 1 (.op 2 (.op 3 (.op 4 (.op 5 (.op 6 .done)))))))) (.seq (.seq (.reg (.op 0 (.op 1 (.op 2 (.test 2 (.skip 3 (.skip 4 (.op 5 (.op 6 (.know 6 true (.skip 7 (.skip 8 (.op 9 (.op 10 (.know 10 true (.skip 11 (.skip 12 (.op 13 .done))))))))))))) (.op 3 (.op 4 (.op 5 (.op 6 (.test 6 (.skip 7 (.skip 8 (.op 9 (.op 10 (.know 10 true (.skip 11 (.skip 12 (.op 13 .done)))))))) (.op 7 (.op 8 (.op 9 (.op 10 (.test 10 (.skip 11 (.skip 12 (.op 13 .done))) (.op 11 (.op 12 (.op 13 .done)))))))))))))))))) (.cond (.seq (.reg (.op 0 .done)) .nop) .nop)) (.seq (.reg (.op 0 (.op 1 (.op 2 (.op 3 (.op 4 (.op 5 (.op 6 (.op 7 .done))))))))) (.seq (.reg (.op 0 .done)) (.seq (.reg (.op 0 (.op 1 (.op 2 (.op 3 .done))))) (.seq (.reg (.op 0 (.op 1 (.op 2 (.op 3 .done))))) (.seq (.reg (.op 0 (.op 1 (.op 2 (.test 2 (.op 3 (.op 4 (.op 5 (.op 6 (.test 6 (.op 7 (.op 8 (.op 9 (.op 10 (.op 11 (.op 12 (.test 12 (.op 13 (.op 14 (.op 15 (.op 16 (.op 17 (.op 18 (.test 18 (.op 19 (.op 20 (.op 21 (.op 22 (.op 23 (.op 24 (.test 24 (.op 25 (.op 26 (.op 27 .done))) (.skip 25 (.op 26 (.op 27 .done)))))))))) (.skip 19 (.skip 20 (.skip 21 (.skip 22 (.op 23 (.op 24 (.know 24 false (.skip 25 (.op 26 (.op 27 .done))))))))))))))))) (.skip 13 (.skip 14 (.skip 15 (.skip 16 (.op 17 (.op 18 (.know 18 false (.skip 19 (.skip 20 (.skip 21 (.skip 22 (.op 23 (.op 24 (.know 24 false (.skip 25 (.op 26 (.op 27 .done)))))))))))))))))))))))) (.skip 7 (.skip 8 (.skip 9 (.skip 10 (.op 11 (.op 12 (.know 12 false (.skip 13 (.skip 14 (.skip 15 (.skip 16 (.op 17 (.op 18 (.know 18 false (.skip 19 (.skip 20 (.skip 21 (.skip 22 (.op 23 (.op 24 (.know 24 false (.skip 25 (.op 26 (.op 27 .done))))))))))))))))))))))))))))) (.skip 3 (.skip 4 (.op 5 (.op 6 (.know 6 false (.skip 7 (.skip 8 (.skip 9 (.skip 10 (.op 11 (.op 12 (.know 12 false (.skip 13 (.skip 14 (.skip 15 (.skip 16 (.op 17 (.op 18 (.know 18 false (.skip 19 (.skip 20 (.skip 21 (.skip 22 (.op 23 (.op 24 (.know 24 false (.skip 25 (.op 26 (.op 27 .done)))))))))))))))))))))))))))))))))) .nop))))))))))

theorem bodkinlaw05_TreeJoins.ok : okC Try.f4.ntmps bodkinlaw05_TreeJoins.sc (bodyOf Try.f4) = true := by kernel_rfl

theorem bodkinlaw05_TreeJoins.eq {K : K1} {a0 b1 : Value} {w : World} : bodkinlaw05_TreeJoins K a0 b1 w = codeS Try.prog bodkinlaw05_TreeJoins.sc (bodyOf Try.f4) (argsF 0 [a0, b1]) w (retQ Try.prog Try.f4.results.toList K) := by kernel_rfl

theorem bodkinlaw05_TreeJoins.call {K : K1} {a0 b1 : Value} {w : World} (h : bodkinlaw05_TreeJoins K a0 b1 w) : sCall Try.prog 4 [a0, b1] w K := sCall_code mixed Try.func4 (by kernel_rfl) rfl rfl bodkinlaw05_TreeJoins.ok bodkinlaw05_TreeJoins.eq h

abbrev bodkinlaw05_TreeJoins.n : Nat := 4

/-- 'bodkin bodkinlaw05.TreeNew' -/
def bodkinlaw05_TreeNew_J1 (K : K1) (at1 l0 x68 x9 : Value) (x76 : Value) (w : World) : Prop :=
  sIf x76 (
    sBin Try.prog .eql 27 false true x68 (.int .i64 1) w fun x78 w =>
    sIf x78 (
      sLoad Try.prog 51 x9 w fun x80 w =>
      sBuild Try.prog 51 [] w fun x81 w =>
      sBin Try.prog .eql 51 false false x80 x81 w fun x82 w =>
      sIf x82 (
        sCall Try.prog 17 [] w fun x85 w =>
        K x85 w) (
        K (.bool false) w)) (
      K (.bool false) w)) (
    DrawS w fun C w =>
    stillS C w (fun w k => sBin Try.prog .eql 27 false true x68 (.int .i64 0) w k) fun x88 =>
    sIf x88 (
      stillS C w (fun w k => sLoad Try.prog 51 x9 w k) fun x90 =>
      stillS C w (fun w k => sIdxA Try.prog 22 l0 at1 w k) fun x93 =>
      stillS C w (fun w k => sLoad Try.prog 51 x93 w k) fun x94 =>
      stillS C w (fun w k => sBin Try.prog .eql 51 false false x90 x94 w k) fun x95 =>
      sIf x95 (
        sCall Try.prog 17 [] w fun x98 w => C w ∧
        K x98 w) (
        K (.bool false) w)) (
      K (.bool false) w))

def bodkinlaw05_TreeNew (K : K1) (l0 at1 : Value) (w : World) : Prop :=
  sBuiltin Try.prog .len [22] 3 [l0] w fun x12 w =>
  sBin Try.prog .gtr 3 false true x12 (.int .i64 600) w fun x13 w =>
  sIf x13 (
    sCall Try.prog 18 [l0] w fun x16 w =>
    sExtract x16 0 w fun x17 w =>
    sExtract x16 1 w fun x18 w =>
    sBuiltin Try.prog .len [22] 3 [l0] w fun x20 w =>
    sBin Try.prog .leq 3 false true x20 (.int .i64 30000) w fun x21 w =>
    sIf x21 (
      sCall Try.prog 17 [] w fun x31 w =>
      K x31 w) (
      sBin Try.prog .eql 27 false true x18 (.int .i64 5) w fun x24 w =>
      sIf x24 (
        sBin Try.prog .eql 26 false true x17 (.pointer none) w fun x27 w =>
        sIf x27 (
          sCall Try.prog 17 [] w fun x31_1 w =>
          K x31_1 w) (
          K (.bool false) w)) (
        K (.bool false) w))) (
    sCall Try.prog 18 [l0] w fun x35 w =>
    sExtract x35 0 w fun x36 w =>
    sExtract x35 1 w fun x37 w =>
    sCall Try.prog 16 [l0] w fun x39 w =>
    sUn Try.prog .not x39 w fun x40 w =>
    sIf x40 (
      sBin Try.prog .eql 27 false true x37 (.int .i64 1) w fun x42 w =>
      sIf x42 (
        sBin Try.prog .eql 26 false true x36 (.pointer none) w fun x45 w =>
        sIf x45 (
          sCall Try.prog 17 [] w fun x48 w =>
          K x48 w) (
          K (.bool false) w)) (
        K (.bool false) w)) (
      sBin Try.prog .neq 27 false true x37 (.int .i64 0) w fun x51 w =>
      sIf x51 (
        K (.bool false) w) (
        sBin Try.prog .eql 26 false true x36 (.pointer none) w fun x54 w =>
        sIf x54 (
          K (.bool false) w) (
          sCall Try.prog 20 [l0] w fun x59 w =>
          sCall Try.prog 26 [x36, x59] w fun x60 w =>
          sUn Try.prog .not x60 w fun x61 w =>
          sIf x61 (
            K (.bool false) w) (
            sCall Try.prog 27 [x36, at1] w fun x66 w =>
            sExtract x66 0 w fun x67 w =>
            sExtract x66 1 w fun x68 w =>
            sAlloc Try.prog 51 w fun x9 w =>
            sStore Try.prog 51 x9 x67 w fun w =>
            JoinS 1 7 (fun M1 =>
              sBin Try.prog .lss 3 false true at1 (.int .i64 0) w fun x70 w =>
              sIf x70 (
                M1 [(.bool true)] w) (
                sBuiltin Try.prog .len [22] 3 [l0] w fun x74 w =>
                sBin Try.prog .geq 3 false false at1 x74 w fun x75 w =>
                M1 [x75] w)) fun us _ w =>
              bodkinlaw05_TreeNew_J1 K at1 l0 x68 x9 (hd us) w)))))

def bodkinlaw05_TreeNew.sc : SC := (.seq (.reg (.op 0 .done)) (.seq (.seq (.reg (.op 0 (.op 1 (.op 2 .done)))) (.cond (.seq (.reg (.op 0 (.op 1 (.op 2 (.op 3 (.op 4 (.op 5 (.op 6 .done)))))))) (.seq (.reg (.op 0 (.op 1 (.op 2 (.op 3 (.test 3 (.skip 4 (.skip 5 (.skip 6 (.skip 7 (.skip 8 (.skip 9 (.op 10 (.op 11 (.know 11 true (.op 12 (.op 13 (.op 14 .done)))))))))))) (.op 4 (.op 5 (.op 6 (.test 6 (.op 7 (.op 8 (.op 9 (.op 10 (.op 11 (.test 11 (.op 12 (.op 13 (.op 14 .done))) (.skip 12 (.op 13 (.op 14 .done))))))))) (.skip 7 (.skip 8 (.op 9 (.op 10 (.op 11 (.know 11 false (.skip 12 (.op 13 (.op 14 .done))))))))))))))))))) .nop)) .nop)) (.seq (.reg (.op 0 (.op 1 (.op 2 (.op 3 (.op 4 (.op 5 (.op 6 .done)))))))) (.seq (.seq (.reg (.op 0 (.op 1 (.op 2 .done)))) (.cond (.seq (.reg (.op 0 (.op 1 (.op 2 (.test 2 (.op 3 (.op 4 (.op 5 (.op 6 (.test 6 (.op 7 (.op 8 (.op 9 .done))) (.skip 7 (.op 8 (.op 9 .done)))))))) (.skip 3 (.skip 4 (.op 5 (.op 6 (.know 6 false (.skip 7 (.op 8 (.op 9 .done))))))))))))) .nop) .nop)) (.seq (.seq (.reg (.op 0 (.op 1 (.op 2 (.test 2 (.skip 3 (.skip 4 (.op 5 (.op 6 (.know 6 true (.skip 7 (.skip 8 (.skip 9 (.skip 10 (.skip 11 (.op 12 .done))))))))))) (.op 3 (.op 4 (.op 5 (.op 6 (.test 6 (.skip 7 (.skip 8 (.skip 9 (.skip 10 (.skip 11 (.op 12 .done)))))) (.op 7 (.op 8 (.op 9 (.op 10 (.op 11 (.op 12 .done)))))))))))))))) (.cond (.seq (.reg (.op 0 .done)) .nop) .nop)) (.seq (.reg (.op 0 (.op 1 (.op 2 (.op 3 (.op 4 (.op 5 (.op 6 (.op 7 (.op 8 .done)))))))))) (.seq (.join [76] [69, 70, 71, 72, 73, 74, 75] (.reg (.op 0 (.op 1 (.op 2 (.test 2 (.skip 3 (.skip 4 (.skip 5 (.skip 6 (.op 7 .done))))) (.op 3 (.op 4 (.op 5 (.op 6 (.op 7 .done)))))))))) (.cond (.seq (.reg (.op 0 (.op 1 (.op 2 (.test 2 (.op 3 (.op 4 (.op 5 (.op 6 (.op 7 (.test 7 (.op 8 (.op 9 (.op 10 .done))) (.skip 8 (.op 9 (.op 10 .done))))))))) (.skip 3 (.skip 4 (.skip 5 (.op 6 (.op 7 (.know 7 false (.skip 8 (.op 9 (.op 10 .done)))))))))))))) .nop) .nop)) (.seq (.draw (.op 0 (.op 1 (.op 2 (.test 2 (.op 3 (.op 4 (.op 5 (.op 6 (.op 7 (.op 8 (.op 9 (.op 10 (.test 10 (.op 11 (.op 12 (.op 13 .done))) (.skip 11 (.op 12 (.op 13 .done)))))))))))) (.skip 3 (.skip 4 (.skip 5 (.skip 6 (.skip 7 (.skip 8 (.op 9 (.op 10 (.know 10 false (.skip 11 (.op 12 (.op 13 .done))))))))))))))))) .nop))))))))

theorem bodkinlaw05_TreeNew.ok : okC Try.f5.ntmps bodkinlaw05_TreeNew.sc (bodyOf Try.f5) = true := by kernel_rfl

theorem bodkinlaw05_TreeNew.eq {K : K1} {l0 at1 : Value} {w : World} : bodkinlaw05_TreeNew K l0 at1 w = codeS Try.prog bodkinlaw05_TreeNew.sc (bodyOf Try.f5) (argsF 0 [l0, at1]) w (retQ Try.prog Try.f5.results.toList K) := by kernel_rfl

theorem bodkinlaw05_TreeNew.call {K : K1} {l0 at1 : Value} {w : World} (h : bodkinlaw05_TreeNew K l0 at1 w) : sCall Try.prog 5 [l0, at1] w K := sCall_code mixed Try.func5 (by kernel_rfl) rfl rfl bodkinlaw05_TreeNew.ok bodkinlaw05_TreeNew.eq h

abbrev bodkinlaw05_TreeNew.n : Nat := 5

/-- 'bodkin bodkinlaw22.FlowRows' -/
def bodkinlaw22_FlowRows_J2 (K : K1) (Nx1 : List Value → World → Prop) (l0 last5 row6 s7 : Value) (next9 : Value) (w : World) : Prop :=
  DrawS w fun C w =>
  stillS C w (fun w k => sUn Try.prog .not next9 w k) fun x99 =>
  sIf x99 (
    K (.bool false) w) (
    stillS C w (fun w k => sFldA Try.prog 66 s7 1 w k) fun x101 =>
    stillS C w (fun w k => sLoad Try.prog 3 x101 w k) fun x102 =>
    stillS C w (fun w k => sFldA Try.prog 66 s7 0 w k) fun x104 =>
    stillS C w (fun w k => sLoad Try.prog 3 x104 w k) fun x105 =>
    stillS C w (fun w k => sIdxA Try.prog 55 l0 x105 w k) fun x106 =>
    stillS C w (fun w k => sFldA Try.prog 69 x106 2 w k) fun x107 =>
    stillS C w (fun w k => sLoad Try.prog 3 x107 w k) fun x108 =>
    stillS C w (fun w k => sBin Try.prog .geq 3 false false x102 x108 w k) fun x109 =>
    sIf x109 (
      K (.bool false) w) (
      sLoad Try.prog 66 s7 w fun x111 w =>
      sStore Try.prog 66 last5 x111 w fun w =>
      sBin Try.prog .add 3 false true row6 (.int .i64 1) w fun x42 w =>
      Nx1 [x42] w))

def bodkinlaw22_FlowRows_L1 (K : K1) (Nx1 : List Value → World → Prop) (l0 last5 x30 : Value) (row6 : Value) (w : World) : Prop :=
  sCall Try.prog 29 [l0] w fun x37 w =>
  sCall Try.prog 30 [x37] w fun x38 w =>
  sFld Try.prog 60 x38 2 w fun x39 w =>
  sBin Try.prog .lss 3 false false row6 x39 w fun x40 w =>
  sIf x40 (
    sCall Try.prog 33 [x30, row6] w fun x46 w =>
    sExtract x46 0 w fun x47 w =>
    sExtract x46 1 w fun x48 w =>
    sAlloc Try.prog 66 w fun s7 w =>
    sStore Try.prog 66 s7 x47 w fun w =>
    sBin Try.prog .neq 27 false true x48 (.int .i64 0) w fun x50 w =>
    sIf x50 (
      K (.bool false) w) (
      sFldA Try.prog 66 s7 2 w fun x52 w =>
      sLoad Try.prog 3 x52 w fun x53 w =>
      sFldA Try.prog 66 s7 1 w fun x54 w =>
      sLoad Try.prog 3 x54 w fun x55 w =>
      sBin Try.prog .add 3 false false x53 x55 w fun x56 w =>
      sBin Try.prog .neq 3 false false x56 row6 w fun x58 w =>
      sIf x58 (
        K (.bool false) w) (
        sFldA Try.prog 66 s7 0 w fun x61 w =>
        sLoad Try.prog 3 x61 w fun x62 w =>
        sBin Try.prog .lss 3 false true x62 (.int .i64 0) w fun x63 w =>
        sIf x63 (
          K (.bool false) w) (
          sFldA Try.prog 66 s7 0 w fun x66 w =>
          sLoad Try.prog 3 x66 w fun x67 w =>
          sBuiltin Try.prog .len [55] 3 [l0] w fun x69 w =>
          sBin Try.prog .geq 3 false false x67 x69 w fun x70 w =>
          sIf x70 (
            K (.bool false) w) (
            JoinS 1 26 (fun M2 =>
              sFldA Try.prog 66 s7 0 w fun x72 w =>
              sLoad Try.prog 3 x72 w fun x73 w =>
              sFldA Try.prog 66 last5 0 w fun x74 w =>
              sLoad Try.prog 3 x74 w fun x75 w =>
              sBin Try.prog .eql 3 false false x73 x75 w fun x76 w =>
              sIf x76 (
                sFldA Try.prog 66 s7 1 w fun x78 w =>
                sLoad Try.prog 3 x78 w fun x79 w =>
                sFldA Try.prog 66 last5 1 w fun x80 w =>
                sLoad Try.prog 3 x80 w fun x81 w =>
                sBin Try.prog .add 3 false true x81 (.int .i64 1) w fun x82 w =>
                sBin Try.prog .eql 3 false false x79 x82 w fun x83 w =>
                sIf x83 (
                  M2 [(.bool true)] w) (
                  sFldA Try.prog 66 s7 0 w fun x86 w =>
                  sLoad Try.prog 3 x86 w fun x87 w =>
                  sFldA Try.prog 66 last5 0 w fun x88 w =>
                  sLoad Try.prog 3 x88 w fun x89 w =>
                  sBin Try.prog .add 3 false true x89 (.int .i64 1) w fun x90 w =>
                  sBin Try.prog .eql 3 false false x87 x90 w fun x91 w =>
                  sIf x91 (
                    sFldA Try.prog 66 s7 1 w fun x93 w =>
                    sLoad Try.prog 3 x93 w fun x94 w =>
                    sBin Try.prog .eql 3 false true x94 (.int .i64 0) w fun x95 w =>
                    M2 [x95] w) (
                    M2 [(.bool false)] w))) (
                sFldA Try.prog 66 s7 0 w fun x86_1 w =>
                sLoad Try.prog 3 x86_1 w fun x87_1 w =>
                sFldA Try.prog 66 last5 0 w fun x88_1 w =>
                sLoad Try.prog 3 x88_1 w fun x89_1 w =>
                sBin Try.prog .add 3 false true x89_1 (.int .i64 1) w fun x90_1 w =>
                sBin Try.prog .eql 3 false false x87_1 x90_1 w fun x91_1 w =>
                sIf x91_1 (
                  sFldA Try.prog 66 s7 1 w fun x93_1 w =>
                  sLoad Try.prog 3 x93_1 w fun x94_1 w =>
                  sBin Try.prog .eql 3 false true x94_1 (.int .i64 0) w fun x95_1 w =>
                  M2 [x95_1] w) (
                  M2 [(.bool false)] w))) fun us _ w =>
              bodkinlaw22_FlowRows_J2 K Nx1 l0 last5 row6 s7 (hd us) w))))) (
    sFldA Try.prog 66 last5 0 w fun x112 w =>
    sLoad Try.prog 3 x112 w fun x113 w =>
    sBuiltin Try.prog .len [55] 3 [l0] w fun x115 w =>
    sBin Try.prog .sub 3 false true x115 (.int .i64 1) w fun x116 w =>
    sBin Try.prog .eql 3 false false x113 x116 w fun x117 w =>
    sIf x117 (
      sCall Try.prog 31 [] w fun x119 w =>
      K x119 w) (
      K (.bool false) w))

def bodkinlaw22_FlowRows (K : K1) (l0 : Value) (w : World) : Prop :=
  sBuiltin Try.prog .len [55] 3 [l0] w fun x11 w =>
  sBin Try.prog .gtr 3 false true x11 (.int .i64 60) w fun x12 w =>
  sIf x12 (
    sCall Try.prog 31 [] w fun x26 w =>
    K x26 w) (
    sCall Try.prog 29 [l0] w fun x15 w =>
    sCall Try.prog 28 [x15] w fun x16 w =>
    sUn Try.prog .not x16 w fun x17 w =>
    sIf x17 (
      sCall Try.prog 31 [] w fun x26_1 w =>
      K x26_1 w) (
      sCall Try.prog 29 [l0] w fun x21 w =>
      sCall Try.prog 30 [x21] w fun x22 w =>
      sFld Try.prog 60 x22 2 w fun x23 w =>
      sBin Try.prog .gtr 3 false true x23 (.int .i64 400) w fun x24 w =>
      sIf x24 (
        sCall Try.prog 31 [] w fun x26_2 w =>
        K x26_2 w) (
        sCall Try.prog 32 [l0] w fun x29 w =>
        sExtract x29 0 w fun x30 w =>
        sExtract x29 1 w fun x31 w =>
        sBin Try.prog .neq 27 false true x31 (.int .i64 0) w fun x33 w =>
        sIf x33 (
          K (.bool false) w) (
          sBuild Try.prog 66 [(0, (.int .i64 (-1)))] w fun x34 w =>
          sAlloc Try.prog 66 w fun last5 w =>
          sStore Try.prog 66 last5 x34 w fun w =>
          LoopS [(.int .i64 0)] 1 81 w fun us _ w Nx1 =>
            bodkinlaw22_FlowRows_L1 K Nx1 l0 last5 x30 (hd us) w))))

def bodkinlaw22_FlowRows.sc : SC := (.seq (.reg (.op 0 .done)) (.seq (.seq (.reg (.op 0 (.op 1 (.op 2 (.op 3 (.test 3 (.skip 4 (.skip 5 (.skip 6 (.skip 7 (.op 8 (.op 9 (.know 9 true (.skip 10 (.skip 11 (.skip 12 (.skip 13 (.skip 14 (.op 15 .done))))))))))))) (.op 4 (.op 5 (.op 6 (.op 7 (.op 8 (.op 9 (.test 9 (.skip 10 (.skip 11 (.skip 12 (.skip 13 (.skip 14 (.op 15 .done)))))) (.op 10 (.op 11 (.op 12 (.op 13 (.op 14 (.op 15 .done))))))))))))))))))) (.cond (.seq (.reg (.op 0 (.op 1 .done))) .nop) .nop)) (.seq (.reg (.op 0 (.op 1 (.op 2 (.op 3 (.op 4 (.op 5 (.op 6 .done)))))))) (.seq (.seq (.reg (.op 0 (.op 1 .done))) (.cond (.seq (.reg (.op 0 .done)) .nop) .nop)) (.seq (.reg (.op 0 (.op 1 (.op 2 .done)))) (.seq (.seq (.reg (.op 0 .done)) (.sub (.loop [6] [35, 36, 37, 38, 39, 40, 44, 45, 46, 43, 47, 48, 7, 8, 49, 50, 51, 52, 53, 54, 55, 56, 57, 58, 59, 60, 61, 62, 63, 64, 65, 66, 67, 68, 69, 70, 71, 2, 72, 73, 74, 75, 76, 77, 78, 79, 80, 81, 82, 83, 84, 85, 86, 87, 88, 89, 90, 91, 92, 93, 94, 95, 96, 97, 9, 98, 99, 100, 101, 102, 103, 104, 105, 106, 107, 108, 109, 110, 111, 41, 42] (.seq (.seq (.reg (.op 0 (.op 1 (.op 2 (.op 3 (.op 4 (.op 5 .done))))))) (.cond .nop .nop)) (.seq (.sub (.seq (.reg (.op 0 (.op 1 (.op 2 (.op 3 (.op 4 (.op 5 (.op 6 (.op 7 (.op 8 .done)))))))))) (.seq (.seq (.reg (.op 0 (.op 1 (.op 2 (.test 2 (.skip 3 (.skip 4 (.skip 5 (.skip 6 (.skip 7 (.skip 8 (.skip 9 (.op 10 (.op 11 (.know 11 true (.skip 12 (.skip 13 (.skip 14 (.op 15 (.op 16 (.know 16 true (.skip 17 (.skip 18 (.skip 19 (.skip 20 (.skip 21 (.op 22 .done)))))))))))))))))))))) (.op 3 (.op 4 (.op 5 (.op 6 (.op 7 (.op 8 (.op 9 (.op 10 (.op 11 (.test 11 (.skip 12 (.skip 13 (.skip 14 (.op 15 (.op 16 (.know 16 true (.skip 17 (.skip 18 (.skip 19 (.skip 20 (.skip 21 (.op 22 .done)))))))))))) (.op 12 (.op 13 (.op 14 (.op 15 (.op 16 (.test 16 (.skip 17 (.skip 18 (.skip 19 (.skip 20 (.skip 21 (.op 22 .done)))))) (.op 17 (.op 18 (.op 19 (.op 20 (.op 21 (.op 22 .done))))))))))))))))))))))))))) (.cond (.seq (.reg (.op 0 .done)) .nop) .nop)) (.join [9] [72, 73, 74, 75, 76, 77, 78, 79, 80, 81, 82, 83, 84, 85, 86, 87, 88, 89, 90, 91, 92, 93, 94, 95, 96, 97] (.reg (.op 0 (.op 1 (.op 2 (.op 3 (.op 4 (.op 5 (.test 5 (.op 6 (.op 7 (.op 8 (.op 9 (.op 10 (.op 11 (.op 12 (.op 13 (.test 13 (.skip 14 (.skip 15 (.skip 16 (.skip 17 (.skip 18 (.skip 19 (.skip 20 (.skip 21 (.skip 22 (.skip 23 (.skip 24 (.op 25 (.op 26 .done))))))))))))) (.op 14 (.op 15 (.op 16 (.op 17 (.op 18 (.op 19 (.op 20 (.test 20 (.op 21 (.op 22 (.op 23 (.op 24 (.op 25 (.op 26 .done)))))) (.skip 21 (.skip 22 (.skip 23 (.op 24 (.op 25 (.op 26 .done))))))))))))))))))))))) (.skip 6 (.skip 7 (.skip 8 (.skip 9 (.skip 10 (.skip 11 (.op 12 (.op 13 (.know 13 false (.op 14 (.op 15 (.op 16 (.op 17 (.op 18 (.op 19 (.op 20 (.test 20 (.op 21 (.op 22 (.op 23 (.op 24 (.op 25 (.op 26 .done)))))) (.skip 21 (.skip 22 (.skip 23 (.op 24 (.op 25 (.op 26 .done))))))))))))))))))))))))))))))) (.seq (.seq (.draw (.op 0 (.op 1 (.op 2 (.test 2 (.skip 3 (.skip 4 (.skip 5 (.skip 6 (.skip 7 (.skip 8 (.skip 9 (.skip 10 (.skip 11 (.op 12 .done)))))))))) (.op 3 (.op 4 (.op 5 (.op 6 (.op 7 (.op 8 (.op 9 (.op 10 (.op 11 (.op 12 .done))))))))))))))) (.cond (.seq (.reg (.op 0 .done)) .nop) .nop)) (.reg (.op 0 (.op 1 .done)))))))) (.reg (.op 0 (.op 1 (.op 2 .done))))))))) (.seq (.reg (.op 0 (.op 1 (.op 2 (.op 3 (.op 4 (.op 5 (.op 6 (.test 6 (.op 7 (.op 8 (.op 9 .done))) (.skip 7 (.op 8 (.op 9 .done)))))))))))) .nop)))))))

theorem bodkinlaw22_FlowRows.ok : okC Try.f6.ntmps bodkinlaw22_FlowRows.sc (bodyOf Try.f6) = true := by kernel_rfl

theorem bodkinlaw22_FlowRows.eq {K : K1} {l0 : Value} {w : World} : bodkinlaw22_FlowRows K l0 w = codeS Try.prog bodkinlaw22_FlowRows.sc (bodyOf Try.f6) (argsF 0 [l0]) w (retQ Try.prog Try.f6.results.toList K) := by kernel_rfl

theorem bodkinlaw22_FlowRows.call {K : K1} {l0 : Value} {w : World} (h : bodkinlaw22_FlowRows K l0 w) : sCall Try.prog 6 [l0] w K := sCall_code mixed Try.func6 (by kernel_rfl) rfl rfl bodkinlaw22_FlowRows.ok bodkinlaw22_FlowRows.eq h

abbrev bodkinlaw22_FlowRows.n : Nat := 6

/-- 'bodkin bodkinlaw05.TreeSlices' -/
def bodkinlaw05_TreeSlices_J1 (K : K1) (from1 l0 to2 x18 x31 x32 : Value) (x45 : Value) (w : World) : Prop :=
  sIf x45 (
    sBin Try.prog .eql 27 false true x32 (.int .i64 1) w fun x47 w =>
    sIf x47 (
      sBin Try.prog .eql 26 false true x31 (.pointer none) w fun x50 w =>
      sIf x50 (
        sCall Try.prog 17 [] w fun x53 w =>
        K x53 w) (
        K (.bool false) w)) (
      K (.bool false) w)) (
    sBin Try.prog .eql 27 false true x32 (.int .i64 0) w fun x56 w =>
    sIf x56 (
      sBin Try.prog .neq 26 false true x31 (.pointer none) w fun x59 w =>
      sIf x59 (
        sSlice Try.prog 22 l0 (some from1) (some to2) none w fun x66 w =>
        sCall Try.prog 20 [x66] w fun x67 w =>
        sCall Try.prog 26 [x31, x67] w fun x68 w =>
        sIf x68 (
          sCall Try.prog 20 [l0] w fun x73 w =>
          sCall Try.prog 26 [x18, x73] w fun x74 w =>
          sIf x74 (
            sCall Try.prog 17 [] w fun x77 w =>
            K x77 w) (
            K (.bool false) w)) (
          K (.bool false) w)) (
        K (.bool false) w)) (
      K (.bool false) w))

def bodkinlaw05_TreeSlices (K : K1) (l0 from1 to2 : Value) (w : World) : Prop :=
  sCall Try.prog 16 [l0] w fun x12 w =>
  sUn Try.prog .not x12 w fun x13 w =>
  sIf x13 (
    sCall Try.prog 17 [] w fun x14 w =>
    K x14 w) (
    sCall Try.prog 18 [l0] w fun x17 w =>
    sExtract x17 0 w fun x18 w =>
    sExtract x17 1 w fun x19 w =>
    sBin Try.prog .neq 27 false true x19 (.int .i64 0) w fun x21 w =>
    sIf x21 (
      K (.bool false) w) (
      sBin Try.prog .eql 26 false true x18 (.pointer none) w fun x24 w =>
      sIf x24 (
        K (.bool false) w) (
        sCall Try.prog 34 [x18, from1, to2] w fun x30 w =>
        sExtract x30 0 w fun x31 w =>
        sExtract x30 1 w fun x32 w =>
        JoinS 1 12 (fun M1 =>
          sBin Try.prog .lss 3 false true from1 (.int .i64 0) w fun x34 w =>
          sIf x34 (
            M1 [(.bool true)] w) (
            sBin Try.prog .lss 3 false false to2 from1 w fun x38 w =>
            sIf x38 (
              M1 [(.bool true)] w) (
              sBuiltin Try.prog .len [22] 3 [l0] w fun x43 w =>
              sBin Try.prog .gtr 3 false false to2 x43 w fun x44 w =>
              M1 [x44] w))) fun us _ w =>
          bodkinlaw05_TreeSlices_J1 K from1 l0 to2 x18 x31 x32 (hd us) w)))

def bodkinlaw05_TreeSlices.sc : SC := (.seq (.reg (.op 0 .done)) (.seq (.seq (.reg (.op 0 (.op 1 (.op 2 .done)))) (.cond (.seq (.reg (.op 0 (.op 1 .done))) .nop) .nop)) (.seq (.reg (.op 0 (.op 1 (.op 2 (.op 3 (.op 4 (.op 5 (.op 6 .done)))))))) (.seq (.seq (.reg (.op 0 (.op 1 (.op 2 (.test 2 (.skip 3 (.skip 4 (.op 5 .done))) (.op 3 (.op 4 (.op 5 .done)))))))) (.cond (.seq (.reg (.op 0 .done)) .nop) .nop)) (.seq (.reg (.op 0 (.op 1 (.op 2 (.op 3 (.op 4 (.op 5 (.op 6 (.op 7 (.op 8 .done)))))))))) (.seq (.join [45] [33, 34, 35, 36, 37, 38, 39, 40, 41, 42, 43, 44] (.reg (.op 0 (.op 1 (.op 2 (.test 2 (.skip 3 (.skip 4 (.skip 5 (.op 6 (.op 7 (.know 7 true (.skip 8 (.skip 9 (.skip 10 (.skip 11 (.op 12 .done))))))))))) (.op 3 (.op 4 (.op 5 (.op 6 (.op 7 (.test 7 (.skip 8 (.skip 9 (.skip 10 (.skip 11 (.op 12 .done))))) (.op 8 (.op 9 (.op 10 (.op 11 (.op 12 .done)))))))))))))))) (.cond (.seq (.reg (.op 0 (.op 1 (.op 2 (.test 2 (.op 3 (.op 4 (.op 5 (.op 6 (.test 6 (.op 7 (.op 8 (.op 9 .done))) (.skip 7 (.op 8 (.op 9 .done)))))))) (.skip 3 (.skip 4 (.op 5 (.op 6 (.know 6 false (.skip 7 (.op 8 (.op 9 .done))))))))))))) .nop) .nop)) (.seq (.reg (.op 0 (.op 1 (.op 2 (.test 2 (.op 3 (.op 4 (.op 5 (.op 6 (.test 6 (.op 7 (.op 8 (.op 9 (.op 10 (.op 11 (.op 12 (.op 13 (.op 14 (.op 15 (.test 15 (.op 16 (.op 17 (.op 18 (.op 19 (.op 20 (.op 21 (.test 21 (.op 22 (.op 23 (.op 24 .done))) (.skip 22 (.op 23 (.op 24 .done)))))))))) (.skip 16 (.skip 17 (.skip 18 (.skip 19 (.op 20 (.op 21 (.know 21 false (.skip 22 (.op 23 (.op 24 .done)))))))))))))))))))) (.skip 7 (.skip 8 (.skip 9 (.skip 10 (.skip 11 (.skip 12 (.skip 13 (.op 14 (.op 15 (.know 15 false (.skip 16 (.skip 17 (.skip 18 (.skip 19 (.op 20 (.op 21 (.know 21 false (.skip 22 (.op 23 (.op 24 .done))))))))))))))))))))))))) (.skip 3 (.skip 4 (.op 5 (.op 6 (.know 6 false (.skip 7 (.skip 8 (.skip 9 (.skip 10 (.skip 11 (.skip 12 (.skip 13 (.op 14 (.op 15 (.know 15 false (.skip 16 (.skip 17 (.skip 18 (.skip 19 (.op 20 (.op 21 (.know 21 false (.skip 22 (.op 23 (.op 24 .done)))))))))))))))))))))))))))))) .nop)))))))

theorem bodkinlaw05_TreeSlices.ok : okC Try.f7.ntmps bodkinlaw05_TreeSlices.sc (bodyOf Try.f7) = true := by kernel_rfl

theorem bodkinlaw05_TreeSlices.eq {K : K1} {l0 from1 to2 : Value} {w : World} : bodkinlaw05_TreeSlices K l0 from1 to2 w = codeS Try.prog bodkinlaw05_TreeSlices.sc (bodyOf Try.f7) (argsF 0 [l0, from1, to2]) w (retQ Try.prog Try.f7.results.toList K) := by kernel_rfl

theorem bodkinlaw05_TreeSlices.call {K : K1} {l0 from1 to2 : Value} {w : World} (h : bodkinlaw05_TreeSlices K l0 from1 to2 w) : sCall Try.prog 7 [l0, from1, to2] w K := sCall_code mixed Try.func7 (by kernel_rfl) rfl rfl bodkinlaw05_TreeSlices.ok bodkinlaw05_TreeSlices.eq h

abbrev bodkinlaw05_TreeSlices.n : Nat := 7

/-- 'bodkin bodkinlaw06.SeekAll' -/
def bodkinlaw06_SeekAll_L1 (K : K1) (Nx1 : List Value → World → Prop) (l0 last6 x20 x23 x32 : Value) (x33 : Value) (w : World) : Prop :=
  sBin Try.prog .lss 3 false false x33 x32 w fun x34 w =>
  sIf x34 (
    sIdxA Try.prog 22 l0 x33 w fun x35 w =>
    sLoad Try.prog 51 x35 w fun x36 w =>
    sAlloc Try.prog 51 w fun want8 w =>
    sStore Try.prog 51 want8 x36 w fun w =>
    sCall Try.prog 38 [x23] w fun x39 w =>
    sExtract x39 0 w fun x40 w =>
    sExtract x39 1 w fun x41 w =>
    sAlloc Try.prog 51 w fun i9 w =>
    sStore Try.prog 51 i9 x40 w fun w =>
    DrawS w fun C w =>
    stillS C w (fun w k => sUn Try.prog .not x41 w k) fun x43 =>
    sIf x43 (
      K (.bool false) w) (
      stillS C w (fun w k => sLoad Try.prog 51 i9 w k) fun x45 =>
      stillS C w (fun w k => sLoad Try.prog 51 want8 w k) fun x46 =>
      stillS C w (fun w k => sBin Try.prog .neq 51 false false x45 x46 w k) fun x47 =>
      sIf x47 (
        K (.bool false) w) (
        stillS C w (fun w k => sLoad Try.prog 32 last6 w k) fun x52 =>
        sCall Try.prog 39 [x23] w fun x51 w => C w ∧
        stillS C w (fun w k => sBin Try.prog .neq 32 false false x51 x52 w k) fun x53 =>
        sIf x53 (
          K (.bool false) w) (
          sCall Try.prog 40 [x23] w fun x56 w =>
          sStore Try.prog 32 last6 x56 w fun w =>
          sCall Try.prog 41 [x23] w fun x58 w =>
          sUn Try.prog .not x58 w fun x59 w =>
          sIf x59 (
            K (.bool false) w) (
            sBin Try.prog .add 3 false true x33 (.int .i64 1) w fun x60 w =>
            Nx1 [x60] w))))) (
    sCall Try.prog 38 [x23] w fun x63 w =>
    sExtract x63 0 w fun x64 w =>
    sExtract x63 1 w fun x65 w =>
    sAlloc Try.prog 51 w fun x11 w =>
    sStore Try.prog 51 x11 x64 w fun w =>
    DrawS w fun C w =>
    stillS C w (fun w k => sUn Try.prog .not x65 w k) fun x67 =>
    sIf x67 (
      sCall Try.prog 41 [x23] w fun x70 w => C w ∧
      stillS C w (fun w k => sUn Try.prog .not x70 w k) fun x71 =>
      sIf x71 (
        stillS C w (fun w k => sLoad Try.prog 32 last6 w k) fun x76 =>
        sCall Try.prog 39 [x23] w fun x75 w => C w ∧
        stillS C w (fun w k => sBin Try.prog .eql 32 false false x75 x76 w k) fun x77 =>
        sIf x77 (
          stillS C w (fun w k => sLoad Try.prog 32 last6 w k) fun x80 =>
          sCall Try.prog 42 [x20] w fun x82 w => C w ∧
          stillS C w (fun w k => sBin Try.prog .eql 32 false false x80 x82 w k) fun x83 =>
          sIf x83 (
            sCall Try.prog 36 [] w fun x86 w => C w ∧
            K x86 w) (
            K (.bool false) w)) (
          K (.bool false) w)) (
        K (.bool false) w)) (
      K (.bool false) w))

def bodkinlaw06_SeekAll (K : K1) (l0 : Value) (w : World) : Prop :=
  sCall Try.prog 35 [l0] w fun x14 w =>
  sUn Try.prog .not x14 w fun x15 w =>
  sIf x15 (
    sCall Try.prog 36 [] w fun x16 w =>
    K x16 w) (
    sCall Try.prog 18 [l0] w fun x19 w =>
    sExtract x19 0 w fun x20 w =>
    sExtract x19 1 w fun x21 w =>
    sCall Try.prog 37 [x20] w fun x23 w =>
    sBin Try.prog .neq 27 false true x21 (.int .i64 0) w fun x25 w =>
    sIf x25 (
      K (.bool false) w) (
      sBin Try.prog .eql 73 false true x23 (.pointer none) w fun x28 w =>
      sIf x28 (
        K (.bool false) w) (
        sBuild Try.prog 32 [] w fun x30 w =>
        sAlloc Try.prog 32 w fun last6 w =>
        sStore Try.prog 32 last6 x30 w fun w =>
        sBuiltin Try.prog .len [22] 3 [l0] w fun x32 w =>
        LoopS [(.int .i64 0)] 1 31 w fun us _ w Nx1 =>
          bodkinlaw06_SeekAll_L1 K Nx1 l0 last6 x20 x23 x32 (hd us) w)))

def bodkinlaw06_SeekAll.sc : SC := (.seq (.reg (.op 0 .done)) (.seq (.seq (.reg (.op 0 (.op 1 (.op 2 .done)))) (.cond (.seq (.reg (.op 0 (.op 1 .done))) .nop) .nop)) (.seq (.reg (.op 0 (.op 1 (.op 2 (.op 3 (.op 4 (.op 5 (.op 6 .done)))))))) (.seq (.reg (.op 0 (.op 1 (.op 2 .done)))) (.seq (.seq (.reg (.op 0 (.op 1 (.op 2 (.test 2 (.skip 3 (.skip 4 (.op 5 .done))) (.op 3 (.op 4 (.op 5 .done)))))))) (.cond (.seq (.reg (.op 0 .done)) .nop) .nop)) (.seq (.reg (.op 0 (.op 1 (.op 2 .done)))) (.seq (.seq (.reg (.op 0 (.op 1 (.op 2 .done)))) (.sub (.loop [33] [34, 35, 36, 8, 38, 39, 37, 40, 41, 9, 10, 42, 43, 44, 45, 46, 47, 48, 49, 50, 51, 52, 53, 54, 2, 55, 56, 57, 58, 59, 60] (.seq (.reg (.op 0 .done)) (.seq (.cond .nop .nop) (.seq (.sub (.seq (.reg (.op 0 (.op 1 (.op 2 (.op 3 .done))))) (.seq (.reg (.op 0 (.op 1 (.op 2 (.op 3 (.op 4 (.op 5 (.op 6 (.op 7 .done))))))))) (.seq (.seq (.draw (.op 0 (.op 1 (.op 2 (.test 2 (.skip 3 (.skip 4 (.skip 5 (.op 6 (.op 7 (.know 7 true (.skip 8 (.skip 9 (.skip 10 (.skip 11 (.op 12 .done))))))))))) (.op 3 (.op 4 (.op 5 (.op 6 (.op 7 (.test 7 (.skip 8 (.skip 9 (.skip 10 (.skip 11 (.op 12 .done))))) (.op 8 (.op 10 (.op 9 (.op 11 (.op 12 .done)))))))))))))))) (.cond (.seq (.reg (.op 0 .done)) .nop) .nop)) (.seq (.reg (.op 0 (.op 1 (.op 2 .done)))) (.seq (.reg (.op 0 (.op 1 (.op 2 .done)))) (.cond (.seq (.reg (.op 0 .done)) .nop) .nop))))))) (.reg (.op 0 (.op 1 .done))))))))) (.seq (.reg (.op 0 (.op 1 (.op 2 (.op 3 (.op 4 (.op 5 (.op 6 (.op 7 .done))))))))) (.seq (.draw (.op 0 (.op 1 (.op 2 (.test 2 (.op 3 (.op 4 (.op 5 (.op 6 (.op 7 (.test 7 (.op 8 (.op 10 (.op 9 (.op 11 (.op 12 (.op 13 (.test 13 (.op 14 (.op 15 (.op 16 (.op 17 (.op 18 (.op 19 (.test 19 (.op 20 (.op 21 (.op 22 .done))) (.skip 20 (.op 21 (.op 22 .done)))))))))) (.skip 14 (.skip 15 (.skip 16 (.skip 17 (.op 18 (.op 19 (.know 19 false (.skip 20 (.op 21 (.op 22 .done))))))))))))))))) (.skip 8 (.skip 9 (.skip 10 (.skip 11 (.op 12 (.op 13 (.know 13 false (.skip 14 (.skip 15 (.skip 16 (.skip 17 (.op 18 (.op 19 (.know 19 false (.skip 20 (.op 21 (.op 22 .done))))))))))))))))))))))) (.skip 3 (.skip 4 (.skip 5 (.op 6 (.op 7 (.know 7 false (.skip 8 (.skip 9 (.skip 10 (.skip 11 (.op 12 (.op 13 (.know 13 false (.skip 14 (.skip 15 (.skip 16 (.skip 17 (.op 18 (.op 19 (.know 19 false (.skip 20 (.op 21 (.op 22 .done)))))))))))))))))))))))))))) .nop)))))))))

theorem bodkinlaw06_SeekAll.ok : okC Try.f8.ntmps bodkinlaw06_SeekAll.sc (bodyOf Try.f8) = true := by kernel_rfl

theorem bodkinlaw06_SeekAll.eq {K : K1} {l0 : Value} {w : World} : bodkinlaw06_SeekAll K l0 w = codeS Try.prog bodkinlaw06_SeekAll.sc (bodyOf Try.f8) (argsF 0 [l0]) w (retQ Try.prog Try.f8.results.toList K) := by kernel_rfl

theorem bodkinlaw06_SeekAll.call {K : K1} {l0 : Value} {w : World} (h : bodkinlaw06_SeekAll K l0 w) : sCall Try.prog 8 [l0] w K := sCall_code mixed Try.func8 (by kernel_rfl) rfl rfl bodkinlaw06_SeekAll.ok bodkinlaw06_SeekAll.eq h

abbrev bodkinlaw06_SeekAll.n : Nat := 8

/-- 'bodkin bodkinlaw06.SeekSteps' -/
def bodkinlaw06_SeekSteps_L1 (K : K1) (Nx1 : List Value → World → Prop) (steps1 x26 x36 x38 : Value) (x39 : Value) (w : World) : Prop :=
  sBin Try.prog .lss 3 false false x39 x38 w fun x40 w =>
  sIf x40 (
    sIdxA Try.prog 78 steps1 x39 w fun x41 w =>
    sLoad Try.prog 83 x41 w fun x42 w =>
    sAlloc Try.prog 83 w fun s10 w =>
    sStore Try.prog 83 s10 x42 w fun w =>
    sCall Try.prog 44 [x26, x36] w fun x45 w =>
    sUn Try.prog .not x45 w fun x46 w =>
    sIf x46 (
      K (.bool false) w) (
      sLoad Try.prog 83 s10 w fun x50 w =>
      sCall Try.prog 45 [x26, x36, x50] w fun x51 w =>
      sUn Try.prog .not x51 w fun x52 w =>
      sIf x52 (
        K (.bool false) w) (
        sBin Try.prog .add 3 false true x39 (.int .i64 1) w fun x54 w =>
        Nx1 [x54] w))) (
    sCall Try.prog 44 [x26, x36] w fun x57 w =>
    sIf x57 (
      sCall Try.prog 36 [] w fun x59 w =>
      K x59 w) (
      K (.bool false) w))

def bodkinlaw06_SeekSteps (K : K1) (l0 steps1 : Value) (w : World) : Prop :=
  sCall Try.prog 35 [l0] w fun x12 w =>
  sUn Try.prog .not x12 w fun x13 w =>
  sIf x13 (
    sCall Try.prog 36 [] w fun x19 w =>
    K x19 w) (
    sBuiltin Try.prog .len [78] 3 [steps1] w fun x16 w =>
    sBin Try.prog .gtr 3 false true x16 (.int .i64 40) w fun x17 w =>
    sIf x17 (
      sCall Try.prog 36 [] w fun x19_1 w =>
      K x19_1 w) (
      sCall Try.prog 18 [l0] w fun x22 w =>
      sExtract x22 0 w fun x23 w =>
      sExtract x22 1 w fun x24 w =>
      sCall Try.prog 37 [x23] w fun x26 w =>
      sBin Try.prog .neq 27 false true x24 (.int .i64 0) w fun x28 w =>
      sIf x28 (
        K (.bool false) w) (
        sBin Try.prog .eql 73 false true x26 (.pointer none) w fun x31 w =>
        sIf x31 (
          K (.bool false) w) (
          sCall Try.prog 43 [l0] w fun x34 w =>
          sBuild Try.prog 81 [(0, x34)] w fun x35 w =>
          sBox Try.prog 81 x35 w fun x36 w =>
          sBuiltin Try.prog .len [78] 3 [steps1] w fun x38 w =>
          LoopS [(.int .i64 0)] 1 17 w fun us _ w Nx1 =>
            bodkinlaw06_SeekSteps_L1 K Nx1 steps1 x26 x36 x38 (hd us) w))))

def bodkinlaw06_SeekSteps.sc : SC := (.seq (.reg (.op 0 .done)) (.seq (.seq (.reg (.op 0 (.op 1 (.op 2 (.op 3 (.test 3 (.skip 4 (.skip 5 (.skip 6 (.op 7 .done)))) (.op 4 (.op 5 (.op 6 (.op 7 .done)))))))))) (.cond (.seq (.reg (.op 0 (.op 1 .done))) .nop) .nop)) (.seq (.reg (.op 0 (.op 1 (.op 2 (.op 3 (.op 4 (.op 5 (.op 6 .done)))))))) (.seq (.reg (.op 0 (.op 1 (.op 2 .done)))) (.seq (.seq (.reg (.op 0 (.op 1 (.op 2 (.test 2 (.skip 3 (.skip 4 (.op 5 .done))) (.op 3 (.op 4 (.op 5 .done)))))))) (.cond (.seq (.reg (.op 0 .done)) .nop) .nop)) (.seq (.reg (.op 0 (.op 1 (.op 2 (.op 3 (.op 4 .done)))))) (.seq (.seq (.reg (.op 0 (.op 1 (.op 2 .done)))) (.sub (.loop [39] [40, 41, 42, 10, 43, 44, 45, 46, 47, 48, 49, 50, 51, 52, 53, 4, 54] (.seq (.reg (.op 0 .done)) (.seq (.cond .nop .nop) (.seq (.sub (.seq (.reg (.op 0 (.op 1 (.op 2 (.op 3 .done))))) (.seq (.reg (.op 0 (.op 1 (.op 2 (.op 3 (.op 4 (.test 4 (.skip 5 (.skip 6 (.skip 7 (.skip 8 (.skip 9 (.op 10 .done)))))) (.op 5 (.op 6 (.op 7 (.op 8 (.op 9 (.op 10 .done))))))))))))) (.cond (.seq (.reg (.op 0 .done)) .nop) .nop)))) (.reg (.op 0 (.op 1 .done))))))))) (.seq (.reg (.op 0 (.op 1 (.op 2 (.op 3 (.test 3 (.op 4 (.op 5 (.op 6 .done))) (.skip 4 (.op 5 (.op 6 .done))))))))) .nop))))))))

theorem bodkinlaw06_SeekSteps.ok : okC Try.f9.ntmps bodkinlaw06_SeekSteps.sc (bodyOf Try.f9) = true := by kernel_rfl

theorem bodkinlaw06_SeekSteps.eq {K : K1} {l0 steps1 : Value} {w : World} : bodkinlaw06_SeekSteps K l0 steps1 w = codeS Try.prog bodkinlaw06_SeekSteps.sc (bodyOf Try.f9) (argsF 0 [l0, steps1]) w (retQ Try.prog Try.f9.results.toList K) := by kernel_rfl

theorem bodkinlaw06_SeekSteps.call {K : K1} {l0 steps1 : Value} {w : World} (h : bodkinlaw06_SeekSteps K l0 steps1 w) : sCall Try.prog 9 [l0, steps1] w K := sCall_code mixed Try.func9 (by kernel_rfl) rfl rfl bodkinlaw06_SeekSteps.ok bodkinlaw06_SeekSteps.eq h

abbrev bodkinlaw06_SeekSteps.n : Nat := 9

/-- 'bodkin bodkinlaw06.SeekBack' -/
def bodkinlaw06_SeekBack (K : K1) (l0 n1 : Value) (w : World) : Prop :=
  sCall Try.prog 35 [l0] w fun x15 w =>
  sUn Try.prog .not x15 w fun x16 w =>
  sIf x16 (
    sCall Try.prog 36 [] w fun x27 w =>
    K x27 w) (
    sBin Try.prog .lss 3 false true n1 (.int .i64 0) w fun x19 w =>
    sIf x19 (
      sCall Try.prog 36 [] w fun x27_1 w =>
      K x27_1 w) (
      sBuiltin Try.prog .len [22] 3 [l0] w fun x24 w =>
      sBin Try.prog .gtr 3 false false n1 x24 w fun x25 w =>
      sIf x25 (
        sCall Try.prog 36 [] w fun x27_2 w =>
        K x27_2 w) (
        sCall Try.prog 18 [l0] w fun x30 w =>
        sExtract x30 0 w fun x31 w =>
        sExtract x30 1 w fun x32 w =>
        sCall Try.prog 37 [x31] w fun x34 w =>
        sBin Try.prog .neq 27 false true x32 (.int .i64 0) w fun x36 w =>
        sIf x36 (
          K (.bool false) w) (
          sBin Try.prog .eql 73 false true x34 (.pointer none) w fun x39 w =>
          sIf x39 (
            K (.bool false) w) (
            sCall Try.prog 46 [x34, (.int .i64 3), n1, (.int .i64 1)] w fun x44 w =>
            sBin Try.prog .neq 27 false true x44 (.int .i64 0) w fun x45 w =>
            sIf x45 (
              K (.bool false) w) (
              sCall Try.prog 39 [x34] w fun x48 w =>
              sAlloc Try.prog 32 w fun was8 w =>
              sStore Try.prog 32 was8 x48 w fun w =>
              sCall Try.prog 38 [x34] w fun x51 w =>
              sExtract x51 0 w fun x52 w =>
              sExtract x51 1 w fun x53 w =>
              sAlloc Try.prog 51 w fun i9 w =>
              sStore Try.prog 51 i9 x52 w fun w =>
              sCall Try.prog 41 [x34] w fun x55 w =>
              sBin Try.prog .neq 4 false false x55 x53 w fun x57 w =>
              sIf x57 (
                K (.bool false) w) (
                sUn Try.prog .not x53 w fun x59 w =>
                sIf x59 (
                  sBuiltin Try.prog .len [22] 3 [l0] w fun x62 w =>
                  sBin Try.prog .eql 3 false false n1 x62 w fun x63 w =>
                  sIf x63 (
                    sCall Try.prog 36 [] w fun x65 w =>
                    K x65 w) (
                    K (.bool false) w)) (
                  sCall Try.prog 47 [x34] w fun x68 w =>
                  sCall Try.prog 38 [x34] w fun x71 w =>
                  sExtract x71 0 w fun x72 w =>
                  sExtract x71 1 w fun x73 w =>
                  sAlloc Try.prog 51 w fun j12 w =>
                  sStore Try.prog 51 j12 x72 w fun w =>
                  DrawS w fun C w =>
                  sIf x68 (
                    sIf x73 (
                      stillS C w (fun w k => sLoad Try.prog 51 i9 w k) fun x79 =>
                      stillS C w (fun w k => sLoad Try.prog 51 j12 w k) fun x80 =>
                      stillS C w (fun w k => sBin Try.prog .eql 51 false false x79 x80 w k) fun x81 =>
                      sIf x81 (
                        stillS C w (fun w k => sLoad Try.prog 32 was8 w k) fun x86 =>
                        sCall Try.prog 39 [x34] w fun x85 w => C w ∧
                        stillS C w (fun w k => sBin Try.prog .eql 32 false false x85 x86 w k) fun x87 =>
                        sIf x87 (
                          sCall Try.prog 36 [] w fun x90 w => C w ∧
                          K x90 w) (
                          K (.bool false) w)) (
                        K (.bool false) w)) (
                      K (.bool false) w)) (
                    K (.bool false) w)))))))))

def bodkinlaw06_SeekBack.sc : SC := (.seq (.reg (.op 0 .done)) (.seq (.seq (.reg (.op 0 (.op 1 (.op 2 (.op 3 (.test 3 (.skip 4 (.skip 5 (.op 6 (.op 7 (.know 7 true (.skip 8 (.skip 9 (.skip 10 (.skip 11 (.op 12 .done)))))))))) (.op 4 (.op 5 (.op 6 (.op 7 (.test 7 (.skip 8 (.skip 9 (.skip 10 (.skip 11 (.op 12 .done))))) (.op 8 (.op 9 (.op 10 (.op 11 (.op 12 .done)))))))))))))))) (.cond (.seq (.reg (.op 0 (.op 1 .done))) .nop) .nop)) (.seq (.reg (.op 0 (.op 1 (.op 2 (.op 3 (.op 4 (.op 5 (.op 6 .done)))))))) (.seq (.reg (.op 0 (.op 1 (.op 2 .done)))) (.seq (.seq (.reg (.op 0 (.op 1 (.op 2 (.test 2 (.skip 3 (.skip 4 (.op 5 (.op 6 (.know 6 true (.skip 7 (.skip 8 (.skip 9 (.skip 10 (.op 11 .done)))))))))) (.op 3 (.op 4 (.op 5 (.op 6 (.test 6 (.skip 7 (.skip 8 (.skip 9 (.skip 10 (.op 11 .done))))) (.op 7 (.op 8 (.op 9 (.op 10 (.op 11 .done))))))))))))))) (.cond (.seq (.reg (.op 0 .done)) .nop) .nop)) (.seq (.reg (.op 0 (.op 1 (.op 2 (.op 3 .done))))) (.seq (.reg (.op 0 (.op 1 (.op 2 (.op 3 (.op 4 (.op 5 (.op 6 (.op 7 .done))))))))) (.seq (.seq (.reg (.op 0 (.op 1 (.op 2 (.op 3 .done))))) (.cond (.seq (.reg (.op 0 .done)) .nop) .nop)) (.seq (.seq (.reg (.op 0 (.op 1 .done))) (.cond (.seq (.reg (.op 0 (.op 1 (.op 2 (.op 3 (.op 4 (.test 4 (.op 5 (.op 6 (.op 7 .done))) (.skip 5 (.op 6 (.op 7 .done)))))))))) .nop) .nop)) (.seq (.reg (.op 0 (.op 1 (.op 2 .done)))) (.seq (.reg (.op 0 (.op 1 (.op 2 (.op 3 (.op 4 (.op 5 (.op 6 (.op 7 .done))))))))) (.seq (.draw (.op 0 (.op 1 (.test 1 (.op 2 (.op 3 (.op 4 (.test 4 (.op 5 (.op 6 (.op 7 (.op 8 (.op 9 (.test 9 (.op 10 (.op 12 (.op 11 (.op 13 (.op 14 (.op 15 (.test 15 (.op 16 (.op 17 (.op 18 .done))) (.skip 16 (.op 17 (.op 18 .done)))))))))) (.skip 10 (.skip 11 (.skip 12 (.skip 13 (.op 14 (.op 15 (.know 15 false (.skip 16 (.op 17 (.op 18 .done)))))))))))))))) (.skip 5 (.skip 6 (.skip 7 (.op 8 (.op 9 (.know 9 false (.skip 10 (.skip 11 (.skip 12 (.skip 13 (.op 14 (.op 15 (.know 15 false (.skip 16 (.op 17 (.op 18 .done)))))))))))))))))))) (.skip 2 (.op 3 (.op 4 (.know 4 false (.skip 5 (.skip 6 (.skip 7 (.op 8 (.op 9 (.know 9 false (.skip 10 (.skip 11 (.skip 12 (.skip 13 (.op 14 (.op 15 (.know 15 false (.skip 16 (.op 17 (.op 18 .done)))))))))))))))))))))))) .nop))))))))))))

theorem bodkinlaw06_SeekBack.ok : okC Try.f10.ntmps bodkinlaw06_SeekBack.sc (bodyOf Try.f10) = true := by kernel_rfl

theorem bodkinlaw06_SeekBack.eq {K : K1} {l0 n1 : Value} {w : World} : bodkinlaw06_SeekBack K l0 n1 w = codeS Try.prog bodkinlaw06_SeekBack.sc (bodyOf Try.f10) (argsF 0 [l0, n1]) w (retQ Try.prog Try.f10.results.toList K) := by kernel_rfl

theorem bodkinlaw06_SeekBack.call {K : K1} {l0 n1 : Value} {w : World} (h : bodkinlaw06_SeekBack K l0 n1 w) : sCall Try.prog 10 [l0, n1] w K := sCall_code mixed Try.func10 (by kernel_rfl) rfl rfl bodkinlaw06_SeekBack.ok bodkinlaw06_SeekBack.eq h

abbrev bodkinlaw06_SeekBack.n : Nat := 10

/-- 'bodkin bodkinlaw06.SeekNil' -/
def bodkinlaw06_SeekNil (K : K1) (s0 : Value) (w : World) : Prop :=
  sBox Try.prog 83 s0 w fun s1 w =>
  sCall Try.prog 38 [(.pointer none)] w fun x8 w =>
  sExtract x8 0 w fun x9 w =>
  sExtract x8 1 w fun x10 w =>
  sAlloc Try.prog 51 w fun x4 w =>
  sStore Try.prog 51 x4 x9 w fun w =>
  sFldA Try.prog 83 s1 1 w fun x12 w =>
  sLoad Try.prog 3 x12 w fun x13 w =>
  sFldA Try.prog 83 s1 2 w fun x14 w =>
  sLoad Try.prog 3 x14 w fun x15 w =>
  sFldA Try.prog 83 s1 3 w fun x16 w =>
  sLoad Try.prog 3 x16 w fun x17 w =>
  sCall Try.prog 46 [(.pointer none), x13, x15, x17] w fun x18 w =>
  sBin Try.prog .eql 27 false true x18 (.int .i64 7) w fun x19 w =>
  sIf x19 (
    sUn Try.prog .not x10 w fun x22 w =>
    sIf x22 (
      sCall Try.prog 41 [(.pointer none)] w fun x26 w =>
      sUn Try.prog .not x26 w fun x27 w =>
      sIf x27 (
        sCall Try.prog 47 [(.pointer none)] w fun x31 w =>
        sUn Try.prog .not x31 w fun x32 w =>
        sIf x32 (
          sFldA Try.prog 83 s1 1 w fun x36 w =>
          sLoad Try.prog 3 x36 w fun x37 w =>
          sFldA Try.prog 83 s1 2 w fun x38 w =>
          sLoad Try.prog 3 x38 w fun x39 w =>
          sCall Try.prog 48 [(.pointer none), x37, x39] w fun x40 w =>
          sBuiltin Try.prog .len [22] 3 [x40] w fun x41 w =>
          sBin Try.prog .eql 3 false true x41 (.int .i64 0) w fun x42 w =>
          sIf x42 (
            sCall Try.prog 39 [(.pointer none)] w fun x46 w =>
            sBuild Try.prog 32 [] w fun x47 w =>
            sBin Try.prog .eql 32 false false x46 x47 w fun x48 w =>
            sIf x48 (
              sCall Try.prog 40 [(.pointer none)] w fun x52 w =>
              sBuild Try.prog 32 [] w fun x53 w =>
              sBin Try.prog .eql 32 false false x52 x53 w fun x54 w =>
              sIf x54 (
                sCall Try.prog 36 [] w fun x57 w =>
                K x57 w) (
                K (.bool false) w)) (
              K (.bool false) w)) (
            K (.bool false) w)) (
          K (.bool false) w)) (
        K (.bool false) w)) (
      K (.bool false) w)) (
    K (.bool false) w)

def bodkinlaw06_SeekNil.sc : SC := (.seq (.reg (.op 0 (.op 1 .done))) (.seq (.reg (.op 0 .done)) (.seq (.reg (.op 0 (.op 1 (.op 2 (.op 3 (.op 4 (.op 5 (.op 6 (.op 7 .done))))))))) (.seq (.reg (.op 0 (.op 1 (.op 2 (.op 3 (.op 4 (.op 5 (.op 6 (.op 7 (.op 8 (.op 9 (.test 9 (.op 10 (.op 11 (.op 12 (.op 13 (.test 13 (.op 14 (.op 15 (.op 16 (.op 17 (.op 18 (.test 18 (.op 19 (.op 20 (.op 21 (.op 22 (.op 23 (.test 23 (.op 24 (.op 25 (.op 26 (.op 27 (.op 28 (.op 29 (.op 30 (.op 31 (.op 32 (.op 33 (.test 33 (.op 34 (.op 35 (.op 36 (.op 37 (.op 38 (.op 39 (.test 39 (.op 40 (.op 41 (.op 42 (.op 43 (.op 44 (.op 45 (.test 45 (.op 46 (.op 47 (.op 48 .done))) (.skip 46 (.op 47 (.op 48 .done)))))))))) (.skip 40 (.skip 41 (.skip 42 (.skip 43 (.op 44 (.op 45 (.know 45 false (.skip 46 (.op 47 (.op 48 .done))))))))))))))))) (.skip 34 (.skip 35 (.skip 36 (.skip 37 (.op 38 (.op 39 (.know 39 false (.skip 40 (.skip 41 (.skip 42 (.skip 43 (.op 44 (.op 45 (.know 45 false (.skip 46 (.op 47 (.op 48 .done)))))))))))))))))))))))))))) (.skip 24 (.skip 25 (.skip 26 (.skip 27 (.skip 28 (.skip 29 (.skip 30 (.skip 31 (.op 32 (.op 33 (.know 33 false (.skip 34 (.skip 35 (.skip 36 (.skip 37 (.op 38 (.op 39 (.know 39 false (.skip 40 (.skip 41 (.skip 42 (.skip 43 (.op 44 (.op 45 (.know 45 false (.skip 46 (.op 47 (.op 48 .done)))))))))))))))))))))))))))))))))) (.skip 19 (.skip 20 (.skip 21 (.op 22 (.op 23 (.know 23 false (.skip 24 (.skip 25 (.skip 26 (.skip 27 (.skip 28 (.skip 29 (.skip 30 (.skip 31 (.op 32 (.op 33 (.know 33 false (.skip 34 (.skip 35 (.skip 36 (.skip 37 (.op 38 (.op 39 (.know 39 false (.skip 40 (.skip 41 (.skip 42 (.skip 43 (.op 44 (.op 45 (.know 45 false (.skip 46 (.op 47 (.op 48 .done)))))))))))))))))))))))))))))))))))))))) (.skip 14 (.skip 15 (.skip 16 (.op 17 (.op 18 (.know 18 false (.skip 19 (.skip 20 (.skip 21 (.op 22 (.op 23 (.know 23 false (.skip 24 (.skip 25 (.skip 26 (.skip 27 (.skip 28 (.skip 29 (.skip 30 (.skip 31 (.op 32 (.op 33 (.know 33 false (.skip 34 (.skip 35 (.skip 36 (.skip 37 (.op 38 (.op 39 (.know 39 false (.skip 40 (.skip 41 (.skip 42 (.skip 43 (.op 44 (.op 45 (.know 45 false (.skip 46 (.op 47 (.op 48 .done))))))))))))))))))))))))))))))))))))))))))))) (.skip 10 (.skip 11 (.op 12 (.op 13 (.know 13 false (.skip 14 (.skip 15 (.skip 16 (.op 17 (.op 18 (.know 18 false (.skip 19 (.skip 20 (.skip 21 (.op 22 (.op 23 (.know 23 false (.skip 24 (.skip 25 (.skip 26 (.skip 27 (.skip 28 (.skip 29 (.skip 30 (.skip 31 (.op 32 (.op 33 (.know 33 false (.skip 34 (.skip 35 (.skip 36 (.skip 37 (.op 38 (.op 39 (.know 39 false (.skip 40 (.skip 41 (.skip 42 (.skip 43 (.op 44 (.op 45 (.know 45 false (.skip 46 (.op 47 (.op 48 .done))))))))))))))))))))))))))))))))))))))))))))))))))))))))) .nop))))

theorem bodkinlaw06_SeekNil.ok : okC Try.f11.ntmps bodkinlaw06_SeekNil.sc (bodyOf Try.f11) = true := by kernel_rfl

theorem bodkinlaw06_SeekNil.eq {K : K1} {s0 : Value} {w : World} : bodkinlaw06_SeekNil K s0 w = codeS Try.prog bodkinlaw06_SeekNil.sc (bodyOf Try.f11) (argsF 0 [s0]) w (retQ Try.prog Try.f11.results.toList K) := by kernel_rfl

theorem bodkinlaw06_SeekNil.call {K : K1} {s0 : Value} {w : World} (h : bodkinlaw06_SeekNil K s0 w) : sCall Try.prog 11 [s0] w K := sCall_code mixed Try.func11 (by kernel_rfl) rfl rfl bodkinlaw06_SeekNil.ok bodkinlaw06_SeekNil.eq h

abbrev bodkinlaw06_SeekNil.n : Nat := 11

/-- 'bodkin bodkinlaw05.TreeReplaces' -/
def bodkinlaw05_TreeReplaces_J2 (K : K1) (Nx1 : List Value → World → Prop) (now7 s9 t5 x37 x55 x56 : Value) (x79 : Value) (w : World) : Prop :=
  sIf x79 (
    sBin Try.prog .neq 27 false true x56 (.int .i64 1) w fun x81 w =>
    sIf x81 (
      K (.bool false) w) (
      sBin Try.prog .neq 26 false true x55 (.pointer none) w fun x84 w =>
      sIf x84 (
        K (.bool false) w) (
        sBin Try.prog .add 3 false true x37 (.int .i64 1) w fun x116 w =>
        Nx1 [t5, now7, x116] w))) (
    DrawS w fun C w =>
    stillS C w (fun w k => sFldA Try.prog 92 s9 0 w k) fun x87 =>
    stillS C w (fun w k => sLoad Try.prog 3 x87 w k) fun x88 =>
    stillS C w (fun w k => sFldA Try.prog 92 s9 1 w k) fun x89 =>
    stillS C w (fun w k => sLoad Try.prog 3 x89 w k) fun x90 =>
    stillS C w (fun w k => sBuild Try.prog 23 [(0, x88), (1, x90)] w k) fun x91 =>
    stillS C w (fun w k => sFldA Try.prog 92 s9 2 w k) fun x92 =>
    stillS C w (fun w k => sLoad Try.prog 22 x92 w k) fun x93 =>
    sCall Try.prog 20 [x93] w fun x94 w => C w ∧
    sCall Try.prog 50 [now7, x91, x94] w fun x95 w => C w ∧
    sBin Try.prog .neq 27 false true x56 (.int .i64 0) w fun x97 w =>
    sIf x97 (
      K (.bool false) w) (
      sBin Try.prog .eql 26 false true x55 (.pointer none) w fun x100 w =>
      sIf x100 (
        K (.bool false) w) (
        sCall Try.prog 26 [x55, x95] w fun x105 w =>
        sUn Try.prog .not x105 w fun x106 w =>
        sIf x106 (
          K (.bool false) w) (
          sCall Try.prog 26 [t5, now7] w fun x111 w =>
          sUn Try.prog .not x111 w fun x112 w =>
          sIf x112 (
            K (.bool false) w) (
            sBin Try.prog .add 3 false true x37 (.int .i64 1) w fun x116_1 w =>
            Nx1 [x55, x95, x116_1] w)))))

def bodkinlaw05_TreeReplaces_L1 (K : K1) (Nx1 : List Value → World → Prop) (steps1 x36 : Value) (t5 now7 x37 : Value) (w : World) : Prop :=
  sBin Try.prog .lss 3 false false x37 x36 w fun x38 w =>
  sIf x38 (
    sIdxA Try.prog 90 steps1 x37 w fun x39 w =>
    sLoad Try.prog 92 x39 w fun x40 w =>
    sAlloc Try.prog 92 w fun s9 w =>
    sStore Try.prog 92 s9 x40 w fun w =>
    sFldA Try.prog 92 s9 2 w fun x41 w =>
    sLoad Try.prog 22 x41 w fun x42 w =>
    sBuiltin Try.prog .len [22] 3 [x42] w fun x43 w =>
    sBin Try.prog .gtr 3 false true x43 (.int .i64 100) w fun x44 w =>
    sIf x44 (
      sCall Try.prog 17 [] w fun x45 w =>
      K x45 w) (
      sFldA Try.prog 92 s9 0 w fun x48 w =>
      sLoad Try.prog 3 x48 w fun x49 w =>
      sFldA Try.prog 92 s9 1 w fun x50 w =>
      sLoad Try.prog 3 x50 w fun x51 w =>
      sFldA Try.prog 92 s9 2 w fun x52 w =>
      sLoad Try.prog 22 x52 w fun x53 w =>
      sCall Try.prog 49 [t5, x49, x51, x53] w fun x54 w =>
      sExtract x54 0 w fun x55 w =>
      sExtract x54 1 w fun x56 w =>
      JoinS 1 22 (fun M2 =>
        sFldA Try.prog 92 s9 0 w fun x57 w =>
        sLoad Try.prog 3 x57 w fun x58 w =>
        sBin Try.prog .lss 3 false true x58 (.int .i64 0) w fun x59 w =>
        sIf x59 (
          M2 [(.bool true)] w) (
          sFldA Try.prog 92 s9 1 w fun x61 w =>
          sLoad Try.prog 3 x61 w fun x62 w =>
          sFldA Try.prog 92 s9 0 w fun x63 w =>
          sLoad Try.prog 3 x63 w fun x64 w =>
          sBin Try.prog .lss 3 false false x62 x64 w fun x65 w =>
          sIf x65 (
            M2 [(.bool true)] w) (
            sFldA Try.prog 92 s9 1 w fun x68 w =>
            sLoad Try.prog 3 x68 w fun x69 w =>
            sBuiltin Try.prog .len [37] 3 [now7] w fun x71 w =>
            sBin Try.prog .gtr 3 false false x69 x71 w fun x72 w =>
            sIf x72 (
              M2 [(.bool true)] w) (
              sFldA Try.prog 92 s9 2 w fun x75 w =>
              sLoad Try.prog 22 x75 w fun x76 w =>
              sCall Try.prog 16 [x76] w fun x77 w =>
              sUn Try.prog .not x77 w fun x78 w =>
              M2 [x78] w)))) fun us _ w =>
        bodkinlaw05_TreeReplaces_J2 K Nx1 now7 s9 t5 x37 x55 x56 (hd us) w)) (
    sCall Try.prog 17 [] w fun x117 w =>
    K x117 w)

def bodkinlaw05_TreeReplaces (K : K1) (l0 steps1 : Value) (w : World) : Prop :=
  sCall Try.prog 16 [l0] w fun x14 w =>
  sUn Try.prog .not x14 w fun x15 w =>
  sIf x15 (
    sCall Try.prog 17 [] w fun x21 w =>
    K x21 w) (
    sBuiltin Try.prog .len [90] 3 [steps1] w fun x18 w =>
    sBin Try.prog .gtr 3 false true x18 (.int .i64 20) w fun x19 w =>
    sIf x19 (
      sCall Try.prog 17 [] w fun x21_1 w =>
      K x21_1 w) (
      sCall Try.prog 18 [l0] w fun x24 w =>
      sExtract x24 0 w fun x25 w =>
      sExtract x24 1 w fun x26 w =>
      sBin Try.prog .neq 27 false true x26 (.int .i64 0) w fun x28 w =>
      sIf x28 (
        K (.bool false) w) (
        sBin Try.prog .eql 26 false true x25 (.pointer none) w fun x31 w =>
        sIf x31 (
          K (.bool false) w) (
          sCall Try.prog 20 [l0] w fun x34 w =>
          sBuiltin Try.prog .len [90] 3 [steps1] w fun x36 w =>
          LoopS [x25, x34, (.int .i64 0)] 3 84 w fun us _ w Nx1 =>
            bodkinlaw05_TreeReplaces_L1 K Nx1 steps1 x36 (hd us) (hd (tl us)) (hd (tl (tl us))) w))))

def bodkinlaw05_TreeReplaces.sc : SC := (.seq (.reg (.op 0 .done)) (.seq (.seq (.reg (.op 0 (.op 1 (.op 2 (.op 3 (.test 3 (.skip 4 (.skip 5 (.skip 6 (.op 7 .done)))) (.op 4 (.op 5 (.op 6 (.op 7 .done)))))))))) (.cond (.seq (.reg (.op 0 (.op 1 .done))) .nop) .nop)) (.seq (.reg (.op 0 (.op 1 (.op 2 (.op 3 (.op 4 (.op 5 (.op 6 .done)))))))) (.seq (.seq (.reg (.op 0 (.op 1 (.op 2 (.test 2 (.skip 3 (.skip 4 (.op 5 .done))) (.op 3 (.op 4 (.op 5 .done)))))))) (.cond (.seq (.reg (.op 0 .done)) .nop) .nop)) (.seq (.reg (.op 0 (.op 1 (.op 2 .done)))) (.seq (.seq (.reg (.op 0 (.op 1 (.op 2 .done)))) (.sub (.loop [5, 7, 37] [38, 39, 40, 9, 41, 42, 43, 44, 45, 4, 47, 48, 49, 50, 51, 52, 53, 54, 46, 55, 56, 10, 11, 57, 58, 59, 60, 61, 62, 63, 64, 65, 66, 67, 68, 69, 70, 71, 72, 73, 74, 75, 76, 77, 78, 79, 80, 81, 82, 83, 84, 85, 86, 87, 88, 89, 90, 91, 92, 93, 94, 95, 12, 96, 97, 98, 99, 100, 101, 102, 103, 104, 105, 106, 107, 108, 109, 110, 111, 112, 113, 114, 115, 116] (.seq (.reg (.op 0 .done)) (.seq (.cond .nop .nop) (.seq (.sub (.seq (.reg (.op 0 (.op 1 (.op 2 (.op 3 .done))))) (.seq (.seq (.reg (.op 0 (.op 1 (.op 2 (.op 3 .done))))) (.cond (.seq (.reg (.op 0 (.op 1 .done))) .nop) .nop)) (.seq (.reg (.op 0 (.op 1 (.op 2 (.op 3 (.op 4 (.op 5 (.op 6 (.op 7 (.op 8 (.op 9 (.op 10 (.op 11 (.op 12 .done)))))))))))))) (.seq (.join [79] [57, 58, 59, 60, 61, 62, 63, 64, 65, 66, 67, 68, 69, 70, 71, 72, 73, 74, 75, 76, 77, 78] (.reg (.op 0 (.op 1 (.op 2 (.op 3 (.test 3 (.skip 4 (.skip 5 (.skip 6 (.skip 7 (.skip 8 (.op 9 (.op 10 (.know 10 true (.skip 11 (.skip 12 (.skip 13 (.skip 14 (.skip 15 (.op 16 (.op 17 (.know 17 true (.skip 18 (.skip 19 (.skip 20 (.skip 21 (.op 22 .done))))))))))))))))))))) (.op 4 (.op 5 (.op 6 (.op 7 (.op 8 (.op 9 (.op 10 (.test 10 (.skip 11 (.skip 12 (.skip 13 (.skip 14 (.skip 15 (.op 16 (.op 17 (.know 17 true (.skip 18 (.skip 19 (.skip 20 (.skip 21 (.op 22 .done))))))))))))) (.op 11 (.op 12 (.op 13 (.op 14 (.op 15 (.op 16 (.op 17 (.test 17 (.skip 18 (.skip 19 (.skip 20 (.skip 21 (.op 22 .done))))) (.op 18 (.op 19 (.op 20 (.op 21 (.op 22 .done))))))))))))))))))))))))))) (.cond (.seq (.seq (.reg (.op 0 (.op 1 (.op 2 (.test 2 (.skip 3 (.skip 4 (.op 5 .done))) (.op 3 (.op 4 (.op 5 .done)))))))) (.cond (.seq (.reg (.op 0 .done)) .nop) .nop)) .nop) .nop)) (.seq (.draw (.op 0 (.op 1 (.op 2 (.op 3 (.op 4 (.op 5 (.op 6 (.op 7 (.op 8 (.op 9 (.op 10 .done)))))))))))) (.seq (.seq (.reg (.op 0 (.op 1 (.op 2 (.test 2 (.skip 3 (.skip 4 (.op 5 (.op 6 (.know 6 true (.skip 7 (.skip 8 (.skip 9 (.skip 10 (.op 11 (.op 12 (.know 12 true (.skip 13 (.skip 14 (.skip 15 (.skip 16 (.op 17 .done))))))))))))))))) (.op 3 (.op 4 (.op 5 (.op 6 (.test 6 (.skip 7 (.skip 8 (.skip 9 (.skip 10 (.op 11 (.op 12 (.know 12 true (.skip 13 (.skip 14 (.skip 15 (.skip 16 (.op 17 .done)))))))))))) (.op 7 (.op 8 (.op 9 (.op 10 (.op 11 (.op 12 (.test 12 (.skip 13 (.skip 14 (.skip 15 (.skip 16 (.op 17 .done))))) (.op 13 (.op 14 (.op 15 (.op 16 (.op 17 .done)))))))))))))))))))))) (.cond (.seq (.reg (.op 0 .done)) .nop) .nop)) (.seq (.reg (.op 0 (.op 1 .done))) (.reg (.op 0 (.op 1 .done))))))))))) (.reg (.op 0 (.op 1 .done))))))))) (.seq (.reg (.op 0 (.op 1 .done))) .nop)))))))

theorem bodkinlaw05_TreeReplaces.ok : okC Try.f12.ntmps bodkinlaw05_TreeReplaces.sc (bodyOf Try.f12) = true := by kernel_rfl

theorem bodkinlaw05_TreeReplaces.eq {K : K1} {l0 steps1 : Value} {w : World} : bodkinlaw05_TreeReplaces K l0 steps1 w = codeS Try.prog bodkinlaw05_TreeReplaces.sc (bodyOf Try.f12) (argsF 0 [l0, steps1]) w (retQ Try.prog Try.f12.results.toList K) := by kernel_rfl

theorem bodkinlaw05_TreeReplaces.call {K : K1} {l0 steps1 : Value} {w : World} (h : bodkinlaw05_TreeReplaces K l0 steps1 w) : sCall Try.prog 12 [l0, steps1] w K := sCall_code mixed Try.func12 (by kernel_rfl) rfl rfl bodkinlaw05_TreeReplaces.ok bodkinlaw05_TreeReplaces.eq h

abbrev bodkinlaw05_TreeReplaces.n : Nat := 12

/-- 'bodkin bodkinlaw22.FlowNew' -/
def bodkinlaw22_FlowNew (K : K1) (l0 : Value) (w : World) : Prop :=
  sBuiltin Try.prog .len [55] 3 [l0] w fun x6 w =>
  sBin Try.prog .gtr 3 false true x6 (.int .i64 300) w fun x7 w =>
  sIf x7 (
    sCall Try.prog 31 [] w fun x8 w =>
    K x8 w) (
    sCall Try.prog 32 [l0] w fun x11 w =>
    sExtract x11 0 w fun x12 w =>
    sExtract x11 1 w fun x13 w =>
    sCall Try.prog 29 [l0] w fun x15 w =>
    sCall Try.prog 28 [x15] w fun x16 w =>
    sUn Try.prog .not x16 w fun x17 w =>
    sIf x17 (
      sBin Try.prog .eql 27 false true x13 (.int .i64 1) w fun x19 w =>
      sIf x19 (
        sBin Try.prog .eql 62 false true x12 (.pointer none) w fun x22 w =>
        sIf x22 (
          sCall Try.prog 31 [] w fun x25 w =>
          K x25 w) (
          K (.bool false) w)) (
        K (.bool false) w)) (
      sBin Try.prog .eql 27 false true x13 (.int .i64 0) w fun x28 w =>
      sIf x28 (
        sCall Try.prog 29 [l0] w fun x32 w =>
        sCall Try.prog 51 [x12, x32] w fun x33 w =>
        sIf x33 (
          sCall Try.prog 31 [] w fun x36 w =>
          K x36 w) (
          K (.bool false) w)) (
        K (.bool false) w)))

def bodkinlaw22_FlowNew.sc : SC := (.seq (.reg (.op 0 .done)) (.seq (.seq (.reg (.op 0 (.op 1 (.op 2 .done)))) (.cond (.seq (.reg (.op 0 (.op 1 .done))) .nop) .nop)) (.seq (.reg (.op 0 (.op 1 (.op 2 (.op 3 (.op 4 (.op 5 (.op 6 .done)))))))) (.seq (.seq (.reg (.op 0 (.op 1 (.op 2 (.op 3 .done))))) (.cond (.seq (.reg (.op 0 (.op 1 (.op 2 (.test 2 (.op 3 (.op 4 (.op 5 (.op 6 (.test 6 (.op 7 (.op 8 (.op 9 .done))) (.skip 7 (.op 8 (.op 9 .done)))))))) (.skip 3 (.skip 4 (.op 5 (.op 6 (.know 6 false (.skip 7 (.op 8 (.op 9 .done))))))))))))) .nop) .nop)) (.seq (.reg (.op 0 (.op 1 (.op 2 (.test 2 (.op 3 (.op 4 (.op 5 (.op 6 (.op 7 (.op 8 (.test 8 (.op 9 (.op 10 (.op 11 .done))) (.skip 9 (.op 10 (.op 11 .done)))))))))) (.skip 3 (.skip 4 (.skip 5 (.skip 6 (.op 7 (.op 8 (.know 8 false (.skip 9 (.op 10 (.op 11 .done))))))))))))))) .nop)))))

theorem bodkinlaw22_FlowNew.ok : okC Try.f13.ntmps bodkinlaw22_FlowNew.sc (bodyOf Try.f13) = true := by kernel_rfl

theorem bodkinlaw22_FlowNew.eq {K : K1} {l0 : Value} {w : World} : bodkinlaw22_FlowNew K l0 w = codeS Try.prog bodkinlaw22_FlowNew.sc (bodyOf Try.f13) (argsF 0 [l0]) w (retQ Try.prog Try.f13.results.toList K) := by kernel_rfl

theorem bodkinlaw22_FlowNew.call {K : K1} {l0 : Value} {w : World} (h : bodkinlaw22_FlowNew K l0 w) : sCall Try.prog 13 [l0] w K := sCall_code mixed Try.func13 (by kernel_rfl) rfl rfl bodkinlaw22_FlowNew.ok bodkinlaw22_FlowNew.eq h

abbrev bodkinlaw22_FlowNew.n : Nat := 13

/-- 'bodkin bodkinlaw05.TreeNil' -/
def bodkinlaw05_TreeNil (K : K1) (i0 : Value) (w : World) : Prop :=
  sCall Try.prog 27 [(.pointer none), i0] w fun x15 w =>
  sExtract x15 0 w fun x16 w =>
  sExtract x15 1 w fun x17 w =>
  sAlloc Try.prog 51 w fun x4 w =>
  sStore Try.prog 51 x4 x16 w fun w =>
  sCall Try.prog 34 [(.pointer none), (.int .i64 0), (.int .i64 0)] w fun x20 w =>
  sExtract x20 0 w fun x21 w =>
  sExtract x20 1 w fun x22 w =>
  sCall Try.prog 19 [(.pointer none), (.int .i64 3), (.int .i64 0), (.int .i64 0)] w fun x25 w =>
  sExtract x25 0 w fun x26 w =>
  sExtract x25 1 w fun x27 w =>
  sAlloc Try.prog 34 w fun p8 w =>
  sStore Try.prog 34 p8 x26 w fun w =>
  sCall Try.prog 25 [(.pointer none), (.pointer none)] w fun x30 w =>
  sExtract x30 0 w fun x31 w =>
  sExtract x30 1 w fun x32 w =>
  sBin Try.prog .eql 27 false true x17 (.int .i64 1) w fun x34 w =>
  sIf x34 (
    sBin Try.prog .eql 27 false true x22 (.int .i64 0) w fun x37 w =>
    sIf x37 (
      sBin Try.prog .eql 27 false true x27 (.int .i64 0) w fun x41 w =>
      sIf x41 (
        sBin Try.prog .eql 27 false true x32 (.int .i64 0) w fun x45 w =>
        sIf x45 (
          sBin Try.prog .neq 26 false true x21 (.pointer none) w fun x49 w =>
          sIf x49 (
            sBin Try.prog .neq 26 false true x31 (.pointer none) w fun x53 w =>
            sIf x53 (
              sCall Try.prog 52 [x21] w fun x57 w =>
              sBuiltin Try.prog .len [22] 3 [x57] w fun x58 w =>
              sBin Try.prog .eql 3 false true x58 (.int .i64 0) w fun x59 w =>
              sIf x59 (
                sCall Try.prog 24 [x31] w fun x63 w =>
                sBin Try.prog .eql 3 false true x63 (.int .i64 0) w fun x64 w =>
                sIf x64 (
                  sLoad Try.prog 34 p8 w fun x67 w =>
                  sBuild Try.prog 34 [] w fun x68 w =>
                  sBin Try.prog .eql 34 false false x67 x68 w fun x69 w =>
                  sIf x69 (
                    sCall Try.prog 24 [(.pointer none)] w fun x73 w =>
                    sBin Try.prog .eql 3 false true x73 (.int .i64 0) w fun x74 w =>
                    sIf x74 (
                      sCall Try.prog 42 [(.pointer none)] w fun x78 w =>
                      sBuild Try.prog 32 [] w fun x79 w =>
                      sBin Try.prog .eql 32 false false x78 x79 w fun x80 w =>
                      sIf x80 (
                        sCall Try.prog 53 [(.pointer none)] w fun x84 w =>
                        sIf x84 (
                          sCall Try.prog 17 [] w fun x87 w =>
                          K x87 w) (
                          K (.bool false) w)) (
                        K (.bool false) w)) (
                      K (.bool false) w)) (
                    K (.bool false) w)) (
                  K (.bool false) w)) (
                K (.bool false) w)) (
              K (.bool false) w)) (
            K (.bool false) w)) (
          K (.bool false) w)) (
        K (.bool false) w)) (
      K (.bool false) w)) (
    K (.bool false) w)

def bodkinlaw05_TreeNil.sc : SC := (.seq (.reg (.op 0 .done)) (.seq (.reg (.op 0 .done)) (.seq (.reg (.op 0 (.op 1 (.op 2 (.op 3 (.op 4 (.op 5 (.op 6 (.op 7 (.op 8 .done)))))))))) (.seq (.reg (.op 0 (.op 1 (.op 2 (.op 3 (.op 4 (.op 5 (.op 6 .done)))))))) (.seq (.reg (.op 0 (.op 1 (.op 2 (.op 3 (.op 4 (.op 5 (.op 6 (.op 7 .done))))))))) (.seq (.reg (.op 0 (.op 1 (.op 2 (.op 3 (.op 4 (.op 5 (.op 6 .done)))))))) (.seq (.reg (.op 0 (.op 1 (.op 2 (.test 2 (.op 3 (.op 4 (.op 5 (.op 6 (.test 6 (.op 7 (.op 8 (.op 9 (.op 10 (.test 10 (.op 11 (.op 12 (.op 13 (.op 14 (.test 14 (.op 15 (.op 16 (.op 17 (.op 18 (.test 18 (.op 19 (.op 20 (.op 21 (.op 22 (.test 22 (.op 23 (.op 24 (.op 25 (.op 26 (.op 27 (.op 28 (.test 28 (.op 29 (.op 30 (.op 31 (.op 32 (.op 33 (.test 33 (.op 34 (.op 35 (.op 36 (.op 37 (.op 38 (.test 38 (.op 39 (.op 40 (.op 41 (.op 42 (.op 43 (.test 43 (.op 44 (.op 45 (.op 46 (.op 47 (.op 48 (.op 49 (.test 49 (.op 50 (.op 51 (.op 52 (.op 53 (.test 53 (.op 54 (.op 55 (.op 56 .done))) (.skip 54 (.op 55 (.op 56 .done)))))))) (.skip 50 (.skip 51 (.op 52 (.op 53 (.know 53 false (.skip 54 (.op 55 (.op 56 .done))))))))))))))) (.skip 44 (.skip 45 (.skip 46 (.skip 47 (.op 48 (.op 49 (.know 49 false (.skip 50 (.skip 51 (.op 52 (.op 53 (.know 53 false (.skip 54 (.op 55 (.op 56 .done))))))))))))))))))))) (.skip 39 (.skip 40 (.skip 41 (.op 42 (.op 43 (.know 43 false (.skip 44 (.skip 45 (.skip 46 (.skip 47 (.op 48 (.op 49 (.know 49 false (.skip 50 (.skip 51 (.op 52 (.op 53 (.know 53 false (.skip 54 (.op 55 (.op 56 .done))))))))))))))))))))))))))) (.skip 34 (.skip 35 (.skip 36 (.op 37 (.op 38 (.know 38 false (.skip 39 (.skip 40 (.skip 41 (.op 42 (.op 43 (.know 43 false (.skip 44 (.skip 45 (.skip 46 (.skip 47 (.op 48 (.op 49 (.know 49 false (.skip 50 (.skip 51 (.op 52 (.op 53 (.know 53 false (.skip 54 (.op 55 (.op 56 .done))))))))))))))))))))))))))))))))) (.skip 29 (.skip 30 (.skip 31 (.op 32 (.op 33 (.know 33 false (.skip 34 (.skip 35 (.skip 36 (.op 37 (.op 38 (.know 38 false (.skip 39 (.skip 40 (.skip 41 (.op 42 (.op 43 (.know 43 false (.skip 44 (.skip 45 (.skip 46 (.skip 47 (.op 48 (.op 49 (.know 49 false (.skip 50 (.skip 51 (.op 52 (.op 53 (.know 53 false (.skip 54 (.op 55 (.op 56 .done)))))))))))))))))))))))))))))))))))))))) (.skip 23 (.skip 24 (.skip 25 (.skip 26 (.op 27 (.op 28 (.know 28 false (.skip 29 (.skip 30 (.skip 31 (.op 32 (.op 33 (.know 33 false (.skip 34 (.skip 35 (.skip 36 (.op 37 (.op 38 (.know 38 false (.skip 39 (.skip 40 (.skip 41 (.op 42 (.op 43 (.know 43 false (.skip 44 (.skip 45 (.skip 46 (.skip 47 (.op 48 (.op 49 (.know 49 false (.skip 50 (.skip 51 (.op 52 (.op 53 (.know 53 false (.skip 54 (.op 55 (.op 56 .done))))))))))))))))))))))))))))))))))))))))))))) (.skip 19 (.skip 20 (.op 21 (.op 22 (.know 22 false (.skip 23 (.skip 24 (.skip 25 (.skip 26 (.op 27 (.op 28 (.know 28 false (.skip 29 (.skip 30 (.skip 31 (.op 32 (.op 33 (.know 33 false (.skip 34 (.skip 35 (.skip 36 (.op 37 (.op 38 (.know 38 false (.skip 39 (.skip 40 (.skip 41 (.op 42 (.op 43 (.know 43 false (.skip 44 (.skip 45 (.skip 46 (.skip 47 (.op 48 (.op 49 (.know 49 false (.skip 50 (.skip 51 (.op 52 (.op 53 (.know 53 false (.skip 54 (.op 55 (.op 56 .done)))))))))))))))))))))))))))))))))))))))))))))))))) (.skip 15 (.skip 16 (.op 17 (.op 18 (.know 18 false (.skip 19 (.skip 20 (.op 21 (.op 22 (.know 22 false (.skip 23 (.skip 24 (.skip 25 (.skip 26 (.op 27 (.op 28 (.know 28 false (.skip 29 (.skip 30 (.skip 31 (.op 32 (.op 33 (.know 33 false (.skip 34 (.skip 35 (.skip 36 (.op 37 (.op 38 (.know 38 false (.skip 39 (.skip 40 (.skip 41 (.op 42 (.op 43 (.know 43 false (.skip 44 (.skip 45 (.skip 46 (.skip 47 (.op 48 (.op 49 (.know 49 false (.skip 50 (.skip 51 (.op 52 (.op 53 (.know 53 false (.skip 54 (.op 55 (.op 56 .done))))))))))))))))))))))))))))))))))))))))))))))))))))))) (.skip 11 (.skip 12 (.op 13 (.op 14 (.know 14 false (.skip 15 (.skip 16 (.op 17 (.op 18 (.know 18 false (.skip 19 (.skip 20 (.op 21 (.op 22 (.know 22 false (.skip 23 (.skip 24 (.skip 25 (.skip 26 (.op 27 (.op 28 (.know 28 false (.skip 29 (.skip 30 (.skip 31 (.op 32 (.op 33 (.know 33 false (.skip 34 (.skip 35 (.skip 36 (.op 37 (.op 38 (.know 38 false (.skip 39 (.skip 40 (.skip 41 (.op 42 (.op 43 (.know 43 false (.skip 44 (.skip 45 (.skip 46 (.skip 47 (.op 48 (.op 49 (.know 49 false (.skip 50 (.skip 51 (.op 52 (.op 53 (.know 53 false (.skip 54 (.op 55 (.op 56 .done)))))))))))))))))))))))))))))))))))))))))))))))))))))))))))) (.skip 7 (.skip 8 (.op 9 (.op 10 (.know 10 false (.skip 11 (.skip 12 (.op 13 (.op 14 (.know 14 false (.skip 15 (.skip 16 (.op 17 (.op 18 (.know 18 false (.skip 19 (.skip 20 (.op 21 (.op 22 (.know 22 false (.skip 23 (.skip 24 (.skip 25 (.skip 26 (.op 27 (.op 28 (.know 28 false (.skip 29 (.skip 30 (.skip 31 (.op 32 (.op 33 (.know 33 false (.skip 34 (.skip 35 (.skip 36 (.op 37 (.op 38 (.know 38 false (.skip 39 (.skip 40 (.skip 41 (.op 42 (.op 43 (.know 43 false (.skip 44 (.skip 45 (.skip 46 (.skip 47 (.op 48 (.op 49 (.know 49 false (.skip 50 (.skip 51 (.op 52 (.op 53 (.know 53 false (.skip 54 (.op 55 (.op 56 .done))))))))))))))))))))))))))))))))))))))))))))))))))))))))))))))))) (.skip 3 (.skip 4 (.op 5 (.op 6 (.know 6 false (.skip 7 (.skip 8 (.op 9 (.op 10 (.know 10 false (.skip 11 (.skip 12 (.op 13 (.op 14 (.know 14 false (.skip 15 (.skip 16 (.op 17 (.op 18 (.know 18 false (.skip 19 (.skip 20 (.op 21 (.op 22 (.know 22 false (.skip 23 (.skip 24 (.skip 25 (.skip 26 (.op 27 (.op 28 (.know 28 false (.skip 29 (.skip 30 (.skip 31 (.op 32 (.op 33 (.know 33 false (.skip 34 (.skip 35 (.skip 36 (.op 37 (.op 38 (.know 38 false (.skip 39 (.skip 40 (.skip 41 (.op 42 (.op 43 (.know 43 false (.skip 44 (.skip 45 (.skip 46 (.skip 47 (.op 48 (.op 49 (.know 49 false (.skip 50 (.skip 51 (.op 52 (.op 53 (.know 53 false (.skip 54 (.op 55 (.op 56 .done)))))))))))))))))))))))))))))))))))))))))))))))))))))))))))))))))))))) .nop)))))))

theorem bodkinlaw05_TreeNil.ok : okC Try.f14.ntmps bodkinlaw05_TreeNil.sc (bodyOf Try.f14) = true := by kernel_rfl

theorem bodkinlaw05_TreeNil.eq {K : K1} {i0 : Value} {w : World} : bodkinlaw05_TreeNil K i0 w = codeS Try.prog bodkinlaw05_TreeNil.sc (bodyOf Try.f14) (argsF 0 [i0]) w (retQ Try.prog Try.f14.results.toList K) := by kernel_rfl

theorem bodkinlaw05_TreeNil.call {K : K1} {i0 : Value} {w : World} (h : bodkinlaw05_TreeNil K i0 w) : sCall Try.prog 14 [i0] w K := sCall_code mixed Try.func14 (by kernel_rfl) rfl rfl bodkinlaw05_TreeNil.ok bodkinlaw05_TreeNil.eq h

abbrev bodkinlaw05_TreeNil.n : Nat := 14

/-- 'bodkin bodkinlaw22.FlowReplaces' -/
def bodkinlaw22_FlowReplaces_J2 (K : K1) (Nx1 : List Value → World → Prop) (f5 now7 s9 x43 x61 x62 : Value) (x86 : Value) (w : World) : Prop :=
  sIf x86 (
    sBin Try.prog .neq 27 false true x62 (.int .i64 1) w fun x88 w =>
    sIf x88 (
      K (.bool false) w) (
      sBin Try.prog .neq 62 false true x61 (.pointer none) w fun x91 w =>
      sIf x91 (
        K (.bool false) w) (
        sBin Try.prog .add 3 false true x43 (.int .i64 1) w fun x126 w =>
        Nx1 [f5, now7, x126] w))) (
    sFldA Try.prog 101 s9 0 w fun x95 w =>
    sLoad Try.prog 3 x95 w fun x96 w =>
    sSlice Try.prog 57 now7 none (some x96) none w fun x97 w =>
    sBuiltin Try.prog .append [57, 57] 57 [(.slice none 0 0), x97] w fun x98 w =>
    sFldA Try.prog 101 s9 2 w fun x100 w =>
    sLoad Try.prog 55 x100 w fun x101 w =>
    sCall Try.prog 29 [x101] w fun x102 w =>
    sBuiltin Try.prog .append [57, 57] 57 [x98, x102] w fun x103 w =>
    sFldA Try.prog 101 s9 1 w fun x106 w =>
    sLoad Try.prog 3 x106 w fun x107 w =>
    sSlice Try.prog 57 now7 (some x107) none none w fun x108 w =>
    sBuiltin Try.prog .append [57, 57] 57 [x103, x108] w fun x109 w =>
    sBin Try.prog .neq 27 false true x62 (.int .i64 0) w fun x111 w =>
    sIf x111 (
      K (.bool false) w) (
      sCall Try.prog 51 [x61, x109] w fun x115 w =>
      sUn Try.prog .not x115 w fun x116 w =>
      sIf x116 (
        K (.bool false) w) (
        sCall Try.prog 51 [f5, now7] w fun x121 w =>
        sUn Try.prog .not x121 w fun x122 w =>
        sIf x122 (
          K (.bool false) w) (
          sBin Try.prog .add 3 false true x43 (.int .i64 1) w fun x126_1 w =>
          Nx1 [x61, x109, x126_1] w))))

def bodkinlaw22_FlowReplaces_L1 (K : K1) (Nx1 : List Value → World → Prop) (steps1 x42 : Value) (f5 now7 x43 : Value) (w : World) : Prop :=
  sBin Try.prog .lss 3 false false x43 x42 w fun x44 w =>
  sIf x44 (
    sIdxA Try.prog 99 steps1 x43 w fun x45 w =>
    sLoad Try.prog 101 x45 w fun x46 w =>
    sAlloc Try.prog 101 w fun s9 w =>
    sStore Try.prog 101 s9 x46 w fun w =>
    sFldA Try.prog 101 s9 2 w fun x47 w =>
    sLoad Try.prog 55 x47 w fun x48 w =>
    sBuiltin Try.prog .len [55] 3 [x48] w fun x49 w =>
    sBin Try.prog .gtr 3 false true x49 (.int .i64 50) w fun x50 w =>
    sIf x50 (
      sCall Try.prog 31 [] w fun x51 w =>
      K x51 w) (
      sFldA Try.prog 101 s9 0 w fun x54 w =>
      sLoad Try.prog 3 x54 w fun x55 w =>
      sFldA Try.prog 101 s9 1 w fun x56 w =>
      sLoad Try.prog 3 x56 w fun x57 w =>
      sFldA Try.prog 101 s9 2 w fun x58 w =>
      sLoad Try.prog 55 x58 w fun x59 w =>
      sCall Try.prog 54 [f5, x55, x57, x59] w fun x60 w =>
      sExtract x60 0 w fun x61 w =>
      sExtract x60 1 w fun x62 w =>
      JoinS 1 23 (fun M2 =>
        sFldA Try.prog 101 s9 0 w fun x63 w =>
        sLoad Try.prog 3 x63 w fun x64 w =>
        sBin Try.prog .lss 3 false true x64 (.int .i64 0) w fun x65 w =>
        sIf x65 (
          M2 [(.bool true)] w) (
          sFldA Try.prog 101 s9 1 w fun x67 w =>
          sLoad Try.prog 3 x67 w fun x68 w =>
          sFldA Try.prog 101 s9 0 w fun x69 w =>
          sLoad Try.prog 3 x69 w fun x70 w =>
          sBin Try.prog .lss 3 false false x68 x70 w fun x71 w =>
          sIf x71 (
            M2 [(.bool true)] w) (
            sFldA Try.prog 101 s9 1 w fun x74 w =>
            sLoad Try.prog 3 x74 w fun x75 w =>
            sBuiltin Try.prog .len [57] 3 [now7] w fun x77 w =>
            sBin Try.prog .gtr 3 false false x75 x77 w fun x78 w =>
            sIf x78 (
              M2 [(.bool true)] w) (
              sFldA Try.prog 101 s9 2 w fun x81 w =>
              sLoad Try.prog 55 x81 w fun x82 w =>
              sCall Try.prog 29 [x82] w fun x83 w =>
              sCall Try.prog 28 [x83] w fun x84 w =>
              sUn Try.prog .not x84 w fun x85 w =>
              M2 [x85] w)))) fun us _ w =>
        bodkinlaw22_FlowReplaces_J2 K Nx1 f5 now7 s9 x43 x61 x62 (hd us) w)) (
    sCall Try.prog 31 [] w fun x127 w =>
    K x127 w)

def bodkinlaw22_FlowReplaces (K : K1) (l0 steps1 : Value) (w : World) : Prop :=
  sBuiltin Try.prog .len [55] 3 [l0] w fun x14 w =>
  sBin Try.prog .gtr 3 false true x14 (.int .i64 100) w fun x15 w =>
  sIf x15 (
    sCall Try.prog 31 [] w fun x27 w =>
    K x27 w) (
    sBuiltin Try.prog .len [99] 3 [steps1] w fun x18 w =>
    sBin Try.prog .gtr 3 false true x18 (.int .i64 20) w fun x19 w =>
    sIf x19 (
      sCall Try.prog 31 [] w fun x27_1 w =>
      K x27_1 w) (
      sCall Try.prog 29 [l0] w fun x23 w =>
      sCall Try.prog 28 [x23] w fun x24 w =>
      sUn Try.prog .not x24 w fun x25 w =>
      sIf x25 (
        sCall Try.prog 31 [] w fun x27_2 w =>
        K x27_2 w) (
        sCall Try.prog 32 [l0] w fun x30 w =>
        sExtract x30 0 w fun x31 w =>
        sExtract x30 1 w fun x32 w =>
        sCall Try.prog 29 [l0] w fun x34 w =>
        sBin Try.prog .neq 27 false true x32 (.int .i64 0) w fun x36 w =>
        sIf x36 (
          K (.bool false) w) (
          sBin Try.prog .eql 62 false true x31 (.pointer none) w fun x39 w =>
          sIf x39 (
            K (.bool false) w) (
            sBuiltin Try.prog .len [99] 3 [steps1] w fun x42 w =>
            LoopS [x31, x34, (.int .i64 0)] 3 88 w fun us _ w Nx1 =>
              bodkinlaw22_FlowReplaces_L1 K Nx1 steps1 x42 (hd us) (hd (tl us)) (hd (tl (tl us))) w)))))

def bodkinlaw22_FlowReplaces.sc : SC := (.seq (.reg (.op 0 .done)) (.seq (.seq (.reg (.op 0 (.op 1 (.op 2 (.op 3 (.test 3 (.skip 4 (.skip 5 (.skip 6 (.op 7 (.op 8 (.know 8 true (.skip 9 (.skip 10 (.skip 11 (.skip 12 (.op 13 .done))))))))))) (.op 4 (.op 5 (.op 6 (.op 7 (.op 8 (.test 8 (.skip 9 (.skip 10 (.skip 11 (.skip 12 (.op 13 .done))))) (.op 9 (.op 10 (.op 11 (.op 12 (.op 13 .done))))))))))))))))) (.cond (.seq (.reg (.op 0 (.op 1 .done))) .nop) .nop)) (.seq (.reg (.op 0 (.op 1 (.op 2 (.op 3 (.op 4 (.op 5 (.op 6 .done)))))))) (.seq (.reg (.op 0 (.op 1 (.op 2 .done)))) (.seq (.seq (.reg (.op 0 (.op 1 (.op 2 (.test 2 (.skip 3 (.skip 4 (.op 5 .done))) (.op 3 (.op 4 (.op 5 .done)))))))) (.cond (.seq (.reg (.op 0 .done)) .nop) .nop)) (.seq (.seq (.reg (.op 0 (.op 1 (.op 2 .done)))) (.sub (.loop [5, 7, 43] [44, 45, 46, 9, 47, 48, 49, 50, 51, 4, 53, 54, 55, 56, 57, 58, 59, 60, 52, 61, 62, 10, 11, 63, 64, 65, 66, 67, 68, 69, 70, 71, 72, 73, 74, 75, 76, 77, 78, 79, 80, 81, 82, 83, 84, 85, 86, 87, 88, 89, 90, 91, 92, 12, 93, 94, 95, 96, 97, 98, 99, 100, 101, 102, 103, 104, 105, 106, 107, 108, 109, 110, 111, 112, 113, 114, 115, 116, 117, 118, 119, 120, 121, 122, 123, 124, 125, 126] (.seq (.reg (.op 0 .done)) (.seq (.cond .nop .nop) (.seq (.sub (.seq (.reg (.op 0 (.op 1 (.op 2 (.op 3 .done))))) (.seq (.seq (.reg (.op 0 (.op 1 (.op 2 (.op 3 .done))))) (.cond (.seq (.reg (.op 0 (.op 1 .done))) .nop) .nop)) (.seq (.reg (.op 0 (.op 1 (.op 2 (.op 3 (.op 4 (.op 5 (.op 6 (.op 7 (.op 8 (.op 9 (.op 10 (.op 11 (.op 12 .done)))))))))))))) (.seq (.join [86] [63, 64, 65, 66, 67, 68, 69, 70, 71, 72, 73, 74, 75, 76, 77, 78, 79, 80, 81, 82, 83, 84, 85] (.reg (.op 0 (.op 1 (.op 2 (.op 3 (.test 3 (.skip 4 (.skip 5 (.skip 6 (.skip 7 (.skip 8 (.op 9 (.op 10 (.know 10 true (.skip 11 (.skip 12 (.skip 13 (.skip 14 (.skip 15 (.op 16 (.op 17 (.know 17 true (.skip 18 (.skip 19 (.skip 20 (.skip 21 (.skip 22 (.op 23 .done)))))))))))))))))))))) (.op 4 (.op 5 (.op 6 (.op 7 (.op 8 (.op 9 (.op 10 (.test 10 (.skip 11 (.skip 12 (.skip 13 (.skip 14 (.skip 15 (.op 16 (.op 17 (.know 17 true (.skip 18 (.skip 19 (.skip 20 (.skip 21 (.skip 22 (.op 23 .done)))))))))))))) (.op 11 (.op 12 (.op 13 (.op 14 (.op 15 (.op 16 (.op 17 (.test 17 (.skip 18 (.skip 19 (.skip 20 (.skip 21 (.skip 22 (.op 23 .done)))))) (.op 18 (.op 19 (.op 20 (.op 21 (.op 22 (.op 23 .done)))))))))))))))))))))))))))) (.cond (.seq (.seq (.reg (.op 0 (.op 1 (.op 2 (.test 2 (.skip 3 (.skip 4 (.op 5 .done))) (.op 3 (.op 4 (.op 5 .done)))))))) (.cond (.seq (.reg (.op 0 .done)) .nop) .nop)) .nop) .nop)) (.seq (.reg (.op 0 .done)) (.seq (.reg (.op 0 (.op 1 (.op 2 (.op 3 (.op 4 (.op 5 (.op 6 .done)))))))) (.seq (.reg (.op 0 (.op 1 (.op 2 (.op 3 (.op 4 (.op 5 .done))))))) (.seq (.reg (.op 0 (.op 1 (.op 2 (.op 3 (.op 4 (.op 5 (.op 6 .done)))))))) (.seq (.seq (.reg (.op 0 (.op 1 (.op 2 (.test 2 (.skip 3 (.skip 4 (.skip 5 (.skip 6 (.op 7 (.op 8 (.know 8 true (.skip 9 (.skip 10 (.skip 11 (.skip 12 (.op 13 .done)))))))))))) (.op 3 (.op 4 (.op 5 (.op 6 (.op 7 (.op 8 (.test 8 (.skip 9 (.skip 10 (.skip 11 (.skip 12 (.op 13 .done))))) (.op 9 (.op 10 (.op 11 (.op 12 (.op 13 .done))))))))))))))))) (.cond (.seq (.reg (.op 0 .done)) .nop) .nop)) (.seq (.reg (.op 0 (.op 1 .done))) (.reg (.op 0 (.op 1 .done)))))))))))))) (.reg (.op 0 (.op 1 .done))))))))) (.seq (.reg (.op 0 (.op 1 .done))) .nop)))))))

theorem bodkinlaw22_FlowReplaces.ok : okC Try.f15.ntmps bodkinlaw22_FlowReplaces.sc (bodyOf Try.f15) = true := by kernel_rfl

theorem bodkinlaw22_FlowReplaces.eq {K : K1} {l0 steps1 : Value} {w : World} : bodkinlaw22_FlowReplaces K l0 steps1 w = codeS Try.prog bodkinlaw22_FlowReplaces.sc (bodyOf Try.f15) (argsF 0 [l0, steps1]) w (retQ Try.prog Try.f15.results.toList K) := by kernel_rfl

theorem bodkinlaw22_FlowReplaces.call {K : K1} {l0 steps1 : Value} {w : World} (h : bodkinlaw22_FlowReplaces K l0 steps1 w) : sCall Try.prog 15 [l0, steps1] w K := sCall_code mixed Try.func15 (by kernel_rfl) rfl rfl bodkinlaw22_FlowReplaces.ok bodkinlaw22_FlowReplaces.eq h

abbrev bodkinlaw22_FlowReplaces.n : Nat := 15

/-- 'bodkin bodkinlaw05.right' -/
def bodkinlaw05_right_L1 (K : K1) (Nx1 : List Value → World → Prop) (l0 x9 : Value) (x10 : Value) (w : World) : Prop :=
  sBin Try.prog .lss 3 false false x10 x9 w fun x11 w =>
  sIf x11 (
    sIdxA Try.prog 22 l0 x10 w fun x12 w =>
    sLoad Try.prog 51 x12 w fun x13 w =>
    sAlloc Try.prog 51 w fun i4 w =>
    sStore Try.prog 51 i4 x13 w fun w =>
    sLoad Try.prog 51 i4 w fun x14 w =>
    sCall Try.prog 56 [x14] w fun x15 w =>
    sCall Try.prog 55 [x15] w fun x16 w =>
    sUn Try.prog .not x16 w fun x17 w =>
    sIf x17 (
      K (.bool false) w) (
      sBin Try.prog .add 3 false true x10 (.int .i64 1) w fun x18 w =>
      Nx1 [x18] w)) (
    K (.bool true) w)

def bodkinlaw05_right (K : K1) (l0 : Value) (w : World) : Prop :=
  sBuiltin Try.prog .len [22] 3 [l0] w fun x6 w =>
  sBin Try.prog .gtr 3 false true x6 (.int .i64 600) w fun x7 w =>
  sIf x7 (
    K (.bool false) w) (
    sBuiltin Try.prog .len [22] 3 [l0] w fun x9 w =>
    LoopS [(.int .i64 0)] 1 10 w fun us _ w Nx1 =>
      bodkinlaw05_right_L1 K Nx1 l0 x9 (hd us) w)

def bodkinlaw05_right.sc : SC := (.seq (.reg (.op 0 .done)) (.seq (.seq (.reg (.op 0 (.op 1 (.op 2 .done)))) (.cond (.seq (.reg (.op 0 .done)) .nop) .nop)) (.seq (.seq (.reg (.op 0 (.op 1 (.op 2 .done)))) (.sub (.loop [10] [11, 12, 13, 4, 14, 15, 16, 17, 2, 18] (.seq (.reg (.op 0 .done)) (.seq (.cond .nop .nop) (.seq (.sub (.seq (.reg (.op 0 (.op 1 (.op 2 (.op 3 .done))))) (.seq (.reg (.op 0 (.op 1 (.op 2 (.op 3 .done))))) (.cond (.seq (.reg (.op 0 .done)) .nop) .nop)))) (.reg (.op 0 (.op 1 .done))))))))) (.seq (.reg (.op 0 .done)) .nop))))

theorem bodkinlaw05_right.ok : okC Try.f16.ntmps bodkinlaw05_right.sc (bodyOf Try.f16) = true := by kernel_rfl

theorem bodkinlaw05_right.eq {K : K1} {l0 : Value} {w : World} : bodkinlaw05_right K l0 w = codeS Try.prog bodkinlaw05_right.sc (bodyOf Try.f16) (argsF 0 [l0]) w (retQ Try.prog Try.f16.results.toList K) := by kernel_rfl

theorem bodkinlaw05_right.call {K : K1} {l0 : Value} {w : World} (h : bodkinlaw05_right K l0 w) : sCall Try.prog 16 [l0] w K := sCall_code mixed Try.func16 (by kernel_rfl) rfl rfl bodkinlaw05_right.ok bodkinlaw05_right.eq h

abbrev bodkinlaw05_right.n : Nat := 16

/-- 'bodkin bodkinlaw05.three' -/
def bodkinlaw05_three (K : K1) (w : World) : Prop :=
  sBuild Try.prog 30 [(0, (.int .i64 1)), (1, (.int .i64 0)), (2, (.int .i64 0))] w fun x8 w =>
  sBuild Try.prog 51 [(2, x8)] w fun x9 w =>
  sBuild Try.prog 30 [(0, (.int .i64 2)), (1, (.int .i64 0)), (2, (.int .i64 0))] w fun x10 w =>
  sBuild Try.prog 51 [(2, x10)] w fun x11 w =>
  sBuild Try.prog 30 [(0, (.int .i64 3)), (1, (.int .i64 0)), (2, (.int .i64 0))] w fun x12 w =>
  sBuild Try.prog 51 [(2, x12)] w fun x13 w =>
  sBuildSlice Try.prog 22 3 [(0, x9), (1, x11), (2, x13)] w fun x14 w =>
  sCall Try.prog 18 [x14] w fun x15 w =>
  sExtract x15 0 w fun x16 w =>
  sExtract x15 1 w fun x17 w =>
  sCall Try.prog 19 [x16, (.int .i64 0), (.int .i64 1), (.int .i64 1)] w fun x20 w =>
  sExtract x20 0 w fun x21 w =>
  sExtract x20 1 w fun x22 w =>
  sAlloc Try.prog 34 w fun p3 w =>
  sStore Try.prog 34 p3 x21 w fun w =>
  sCall Try.prog 19 [x16, (.int .i64 0), (.int .i64 1), (.int .i64 0)] w fun x25 w =>
  sExtract x25 0 w fun x26 w =>
  sExtract x25 1 w fun x27 w =>
  sAlloc Try.prog 34 w fun q5 w =>
  sStore Try.prog 34 q5 x26 w fun w =>
  sBin Try.prog .eql 27 false true x17 (.int .i64 0) w fun x29 w =>
  sIf x29 (
    sBin Try.prog .eql 27 false true x22 (.int .i64 0) w fun x32 w =>
    sIf x32 (
      sBin Try.prog .eql 27 false true x27 (.int .i64 0) w fun x36 w =>
      sIf x36 (
        sFldA Try.prog 34 p3 0 w fun x39 w =>
        sLoad Try.prog 3 x39 w fun x40 w =>
        sBin Try.prog .eql 3 false true x40 (.int .i64 1) w fun x41 w =>
        sIf x41 (
          sFldA Try.prog 34 p3 1 w fun x44 w =>
          sFldA Try.prog 32 x44 1 w fun x45 w =>
          sIdxA Try.prog 30 x45 (.int .i64 0) w fun x46 w =>
          sLoad Try.prog 3 x46 w fun x47 w =>
          sBin Try.prog .eql 3 false true x47 (.int .i64 1) w fun x48 w =>
          sIf x48 (
            sFldA Try.prog 34 q5 0 w fun x51 w =>
            sLoad Try.prog 3 x51 w fun x52 w =>
            sBin Try.prog .eql 3 false true x52 (.int .i64 0) w fun x53 w =>
            sIf x53 (
              sCall Try.prog 24 [x16] w fun x57 w =>
              sBin Try.prog .eql 3 false true x57 (.int .i64 1) w fun x58 w =>
              sIf x58 (
                sCall Try.prog 53 [x16] w fun x62 w =>
                K x62 w) (
                K (.bool false) w)) (
              K (.bool false) w)) (
            K (.bool false) w)) (
          K (.bool false) w)) (
        K (.bool false) w)) (
      K (.bool false) w)) (
    K (.bool false) w)

def bodkinlaw05_three.sc : SC := (.seq (.reg (.op 0 .done)) (.seq (.reg (.op 0 (.op 1 (.op 2 (.op 3 (.op 4 (.op 5 (.op 6 (.op 7 (.op 8 (.op 9 (.op 10 (.op 11 (.op 12 .done)))))))))))))) (.seq (.reg (.op 0 (.op 1 (.op 2 (.op 3 (.op 4 (.op 5 (.op 6 (.op 7 .done))))))))) (.seq (.reg (.op 0 (.op 1 (.op 2 (.op 3 (.op 4 (.op 5 (.op 6 (.op 7 .done))))))))) (.seq (.reg (.op 0 (.op 1 (.op 2 (.test 2 (.op 3 (.op 4 (.op 5 (.op 6 (.test 6 (.op 7 (.op 8 (.op 9 (.op 10 (.test 10 (.op 11 (.op 12 (.op 13 (.op 14 (.op 15 (.test 15 (.op 16 (.op 17 (.op 18 (.op 19 (.op 20 (.op 21 (.op 22 (.test 22 (.op 23 (.op 24 (.op 25 (.op 26 (.op 27 (.test 27 (.op 28 (.op 29 (.op 30 (.op 31 (.op 32 (.test 32 (.op 33 (.op 34 (.op 35 (.op 36 .done)))) (.skip 33 (.skip 34 (.op 35 (.op 36 .done)))))))))) (.skip 28 (.skip 29 (.skip 30 (.op 31 (.op 32 (.know 32 false (.skip 33 (.skip 34 (.op 35 (.op 36 .done)))))))))))))))) (.skip 23 (.skip 24 (.skip 25 (.op 26 (.op 27 (.know 27 false (.skip 28 (.skip 29 (.skip 30 (.op 31 (.op 32 (.know 32 false (.skip 33 (.skip 34 (.op 35 (.op 36 .done)))))))))))))))))))))))) (.skip 16 (.skip 17 (.skip 18 (.skip 19 (.skip 20 (.op 21 (.op 22 (.know 22 false (.skip 23 (.skip 24 (.skip 25 (.op 26 (.op 27 (.know 27 false (.skip 28 (.skip 29 (.skip 30 (.op 31 (.op 32 (.know 32 false (.skip 33 (.skip 34 (.op 35 (.op 36 .done)))))))))))))))))))))))))))))) (.skip 11 (.skip 12 (.skip 13 (.op 14 (.op 15 (.know 15 false (.skip 16 (.skip 17 (.skip 18 (.skip 19 (.skip 20 (.op 21 (.op 22 (.know 22 false (.skip 23 (.skip 24 (.skip 25 (.op 26 (.op 27 (.know 27 false (.skip 28 (.skip 29 (.skip 30 (.op 31 (.op 32 (.know 32 false (.skip 33 (.skip 34 (.op 35 (.op 36 .done))))))))))))))))))))))))))))))))))) (.skip 7 (.skip 8 (.op 9 (.op 10 (.know 10 false (.skip 11 (.skip 12 (.skip 13 (.op 14 (.op 15 (.know 15 false (.skip 16 (.skip 17 (.skip 18 (.skip 19 (.skip 20 (.op 21 (.op 22 (.know 22 false (.skip 23 (.skip 24 (.skip 25 (.op 26 (.op 27 (.know 27 false (.skip 28 (.skip 29 (.skip 30 (.op 31 (.op 32 (.know 32 false (.skip 33 (.skip 34 (.op 35 (.op 36 .done)))))))))))))))))))))))))))))))))))))))) (.skip 3 (.skip 4 (.op 5 (.op 6 (.know 6 false (.skip 7 (.skip 8 (.op 9 (.op 10 (.know 10 false (.skip 11 (.skip 12 (.skip 13 (.op 14 (.op 15 (.know 15 false (.skip 16 (.skip 17 (.skip 18 (.skip 19 (.skip 20 (.op 21 (.op 22 (.know 22 false (.skip 23 (.skip 24 (.skip 25 (.op 26 (.op 27 (.know 27 false (.skip 28 (.skip 29 (.skip 30 (.op 31 (.op 32 (.know 32 false (.skip 33 (.skip 34 (.op 35 (.op 36 .done))))))))))))))))))))))))))))))))))))))))))))) .nop)))))

theorem bodkinlaw05_three.ok : okC Try.f17.ntmps bodkinlaw05_three.sc (bodyOf Try.f17) = true := by kernel_rfl

theorem bodkinlaw05_three.eq {K : K1} {w : World} : bodkinlaw05_three K  w = codeS Try.prog bodkinlaw05_three.sc (bodyOf Try.f17) (argsF 0 []) w (retQ Try.prog Try.f17.results.toList K) := by kernel_rfl

theorem bodkinlaw05_three.call {K : K1} {w : World} (h : bodkinlaw05_three K  w) : sCall Try.prog 17 [] w K := sCall_code mixed Try.func17 (by kernel_rfl) rfl rfl bodkinlaw05_three.ok bodkinlaw05_three.eq h

abbrev bodkinlaw05_three.n : Nat := 17

/-- 'bodkin tree.New' -/
def tree_New_L1 (K : K1) (Nx1 : List Value → World → Prop) (l0 x13 : Value) (root4 x14 : Value) (w : World) : Prop :=
  sBin Try.prog .lss 3 false false x14 x13 w fun x15 w =>
  sIf x15 (
    sIdxA Try.prog 22 l0 x14 w fun x17 w =>
    sLoad Try.prog 51 x17 w fun x18 w =>
    sAlloc Try.prog 51 w fun x6 w =>
    sStore Try.prog 51 x6 x18 w fun w =>
    sLoad Try.prog 51 x6 w fun x19 w =>
    sCall Try.prog 57 [x19] w fun x20 w =>
    sBin Try.prog .neq 27 false true x20 (.int .i64 0) w fun x22 w =>
    sIf x22 (
      K (.tuple #[(.pointer none), x20]) w) (
      sBin Try.prog .rem 3 false true x14 (.int .i64 8) w fun x25 w =>
      sBin Try.prog .eql 3 false true x25 (.int .i64 0) w fun x26 w =>
      sIf x26 (
        sBuiltin Try.prog .len [22] 3 [l0] w fun x28 w =>
        sBin Try.prog .sub 3 false false x28 x14 w fun x30 w =>
        sBuiltin Try.prog .min [3, 3] 3 [(.int .i64 8), x30] w fun x31 w =>
        sMake Try.prog 22 x31 x31 w fun x32 w =>
        sSlice Try.prog 22 l0 (some x14) none none w fun x36 w =>
        sBuiltin Try.prog .copy [22, 22] 3 [x32, x36] w fun x37 w =>
        sCall Try.prog 59 [x32] w fun x40 w =>
        sIface Try.prog 110 x40 w fun x41 w =>
        sCall Try.prog 58 [root4, x41] w fun x42 w =>
        sBin Try.prog .add 3 false true x14 (.int .i64 1) w fun x43 w =>
        Nx1 [x42, x43] w) (
        sBin Try.prog .add 3 false true x14 (.int .i64 1) w fun x43_1 w =>
        Nx1 [root4, x43_1] w))) (
    sBuild Try.prog 113 [(0, root4)] w fun x45 w =>
    sBox Try.prog 113 x45 w fun x46 w =>
    K (.tuple #[x46, (.int .i64 0)]) w)

def tree_New (K : K1) (l0 : Value) (w : World) : Prop :=
  sBuiltin Try.prog .len [22] 3 [l0] w fun x10 w =>
  sBin Try.prog .gtr 3 false true x10 (.int .i64 30000) w fun x11 w =>
  sIf x11 (
    K (.tuple #[(.pointer none), (.int .i64 5)]) w) (
    sBuiltin Try.prog .len [22] 3 [l0] w fun x13 w =>
    LoopS [.nilIface, (.int .i64 0)] 2 35 w fun us _ w Nx1 =>
      tree_New_L1 K Nx1 l0 x13 (hd us) (hd (tl us)) w)

def tree_New.sc : SC := (.seq (.reg (.op 0 (.op 1 .done))) (.seq (.seq (.reg (.op 0 (.op 1 (.op 2 .done)))) (.cond (.seq (.reg (.op 0 (.op 1 .done))) .nop) .nop)) (.seq (.reg (.op 0 .done)) (.seq (.seq (.reg (.op 0 (.op 1 (.op 2 .done)))) (.sub (.loop [4, 14] [15, 16, 17, 18, 6, 5, 19, 20, 7, 21, 22, 23, 2, 3, 24, 25, 26, 27, 28, 29, 30, 31, 32, 8, 33, 34, 35, 36, 37, 38, 39, 40, 41, 42, 43] (.seq (.reg (.op 0 .done)) (.seq (.cond .nop .nop) (.seq (.sub (.seq (.reg (.op 0 (.op 1 (.op 2 (.op 3 (.op 4 (.op 5 .done))))))) (.seq (.seq (.reg (.op 0 (.op 1 (.op 2 .done)))) (.seq (.reg (.op 0 (.op 1 .done))) (.cond (.seq (.reg (.op 0 (.op 1 (.op 2 .done)))) .nop) .nop))) (.seq (.reg (.op 0 (.op 1 (.op 2 .done)))) (.cond (.seq (.reg (.op 0 (.op 1 (.op 2 (.op 3 (.op 4 (.op 5 (.op 6 .done)))))))) (.seq (.reg (.op 0 (.op 1 (.op 2 (.op 3 (.op 4 .done)))))) (.reg (.op 0 (.op 1 (.op 2 (.op 3 (.op 4 (.op 5 .done))))))))) .nop))))) (.reg (.op 0 (.op 1 .done))))))))) (.seq (.reg (.op 0 (.op 1 (.op 2 (.op 3 (.op 4 .done)))))) .nop)))))

theorem tree_New.ok : okC Try.f18.ntmps tree_New.sc (bodyOf Try.f18) = true := by kernel_rfl

theorem tree_New.eq {K : K1} {l0 : Value} {w : World} : tree_New K l0 w = codeS Try.prog tree_New.sc (bodyOf Try.f18) (argsF 0 [l0]) w (retQ Try.prog Try.f18.results.toList K) := by kernel_rfl

theorem tree_New.call {K : K1} {l0 : Value} {w : World} (h : tree_New K l0 w) : sCall Try.prog 18 [l0] w K := sCall_code mixed Try.func18 (by kernel_rfl) rfl rfl tree_New.ok tree_New.eq h

abbrev tree_New.n : Nat := 18

/-- '(*bodkin tree.Tree).Find' -/
def tree_Tree_Find_J5 (Nx3 : List Value → World → Prop) (Nx4 : List Value → World → Prop) (dim1 n13_1 p12 x52 x74 x77 : Value) (s18_3 : Value) (w : World) : Prop :=
  sLoad Try.prog 32 s18_3 w fun x84 w =>
  sCall Try.prog 60 [x84, dim1] w fun x86 w =>
  sDyn Try.prog x52 [x86] w fun x87 w =>
  sIf x87 (
    Nx3 [x77] w) (
    sLoad Try.prog 32 s18_3 w fun x89 w =>
    sFldA Try.prog 34 p12 1 w fun x90 w =>
    sStore Try.prog 32 x90 x89 w fun w =>
    sBin Try.prog .add 3 false true x74 (.int .i64 1) w fun x91 w =>
    Nx4 [n13_1, x91] w)

def tree_Tree_Find_L4 (Nx3 : List Value → World → Prop) (Nx4 : List Value → World → Prop) (dim1 p12 x52 x72 x73 : Value) (n13_1 x74 : Value) (w : World) : Prop :=
  sBin Try.prog .lss 3 false false x74 x73 w fun x75 w =>
  sIf x75 (
    sIdxA Try.prog 118 x72 x74 w fun x76 w =>
    sLoad Try.prog 107 x76 w fun x77 w =>
    JoinS 1 5 (fun M5 =>
      DrawS w fun C w =>
      stillS C w (fun w k => sFldA Try.prog 34 p12 1 w k) fun x78 =>
      stillS C w (fun w k => sLoad Try.prog 32 x78 w k) fun x79 =>
      (
        sCall Try.prog 64 [x77] w fun x81 w => C w ∧
        (
          sCall Try.prog 63 [x79, x81] w fun x82 w => C w ∧
          sAlloc Try.prog 32 w fun s18 w => C w ∧
          sStore Try.prog 32 s18 x82 w fun w =>
          M5 [s18] w) ∧ (
          sAlloc Try.prog 32 w fun s18_1 w => C w ∧
          sCall Try.prog 63 [x79, x81] w fun x82_1 w =>
          sStore Try.prog 32 s18_1 x82_1 w fun w =>
          M5 [s18_1] w)) ∧ (
        sAlloc Try.prog 32 w fun s18_2 w => C w ∧
        sCall Try.prog 64 [x77] w fun x81_1 w => C w ∧
        sCall Try.prog 63 [x79, x81_1] w fun x82_2 w =>
        sStore Try.prog 32 s18_2 x82_2 w fun w =>
        M5 [s18_2] w)) fun us _ w =>
      tree_Tree_Find_J5 Nx3 Nx4 dim1 n13_1 p12 x52 x74 x77 (hd us) w) (
    Nx3 [n13_1] w)

def tree_Tree_Find_L3 (M2 : List Value → World → Prop) (Nx3 : List Value → World → Prop) (dim1 p12 x52 : Value) (n13 : Value) (w : World) : Prop :=
  sBin Try.prog .neq 107 false true n13 .nilIface w fun x57 w =>
  sIf x57 (
    sFldA Try.prog 34 p12 2 w fun x58 w =>
    sLoad Try.prog 3 x58 w fun x59 w =>
    sBin Try.prog .add 3 false true x59 (.int .i64 1) w fun x60 w =>
    sFldA Try.prog 34 p12 2 w fun x61 w =>
    sStore Try.prog 3 x61 x60 w fun w =>
    sAssert Try.prog n13 107 116 true w fun x64 w =>
    sExtract x64 0 w fun x65 w =>
    sExtract x64 1 w fun x66 w =>
    sUn Try.prog .not x66 w fun x68 w =>
    sIf x68 (
      M2 [n13] w) (
      sNil x65 w fun x70 w =>
      sFldA Try.prog 120 x70 0 w fun x71 w =>
      sLoad Try.prog 118 x71 w fun x72 w =>
      sBuiltin Try.prog .len [118] 3 [x72] w fun x73 w =>
      LoopS [.nilIface, (.int .i64 0)] 2 19 w fun us _ w Nx4 =>
        tree_Tree_Find_L4 Nx3 Nx4 dim1 p12 x52 x72 x73 (hd us) (hd (tl us)) w)) (
    M2 [n13] w)

def tree_Tree_Find_J8 (M6 : List Value → World → Prop) (Nx7 : List Value → World → Prop) (dim1 p12 x103 x52 : Value) (s23_3 : Value) (w : World) : Prop :=
  sLoad Try.prog 32 s23_3 w fun x113 w =>
  sCall Try.prog 60 [x113, dim1] w fun x115 w =>
  sDyn Try.prog x52 [x115] w fun x116 w =>
  sIf x116 (
    M6 [] w) (
    sLoad Try.prog 32 s23_3 w fun x117 w =>
    sFldA Try.prog 34 p12 1 w fun x118 w =>
    sStore Try.prog 32 x118 x117 w fun w =>
    sBin Try.prog .add 3 false true x103 (.int .i64 1) w fun x119 w =>
    Nx7 [x119] w)

def tree_Tree_Find_L7 (M6 : List Value → World → Prop) (Nx7 : List Value → World → Prop) (dim1 p12 x101 x102 x52 : Value) (x103 : Value) (w : World) : Prop :=
  sBin Try.prog .lss 3 false false x103 x102 w fun x104 w =>
  sIf x104 (
    sIdxA Try.prog 22 x101 x103 w fun x105 w =>
    sLoad Try.prog 51 x105 w fun x106 w =>
    sAlloc Try.prog 51 w fun i22 w =>
    sStore Try.prog 51 i22 x106 w fun w =>
    JoinS 1 5 (fun M8 =>
      DrawS w fun C w =>
      stillS C w (fun w k => sFldA Try.prog 34 p12 1 w k) fun x107 =>
      stillS C w (fun w k => sLoad Try.prog 32 x107 w k) fun x108 =>
      stillS C w (fun w k => sLoad Try.prog 51 i22 w k) fun x109 =>
      (
        sCall Try.prog 65 [x109] w fun x110 w => C w ∧
        (
          sCall Try.prog 63 [x108, x110] w fun x111 w => C w ∧
          sAlloc Try.prog 32 w fun s23 w => C w ∧
          sStore Try.prog 32 s23 x111 w fun w =>
          M8 [s23] w) ∧ (
          sAlloc Try.prog 32 w fun s23_1 w => C w ∧
          sCall Try.prog 63 [x108, x110] w fun x111_1 w =>
          sStore Try.prog 32 s23_1 x111_1 w fun w =>
          M8 [s23_1] w)) ∧ (
        sAlloc Try.prog 32 w fun s23_2 w => C w ∧
        sCall Try.prog 65 [x109] w fun x110_1 w => C w ∧
        sCall Try.prog 63 [x108, x110_1] w fun x111_2 w =>
        sStore Try.prog 32 s23_2 x111_2 w fun w =>
        M8 [s23_2] w)) fun us _ w =>
      tree_Tree_Find_J8 M6 Nx7 dim1 p12 x103 x52 (hd us) w) (
    M6 [] w)

def tree_Tree_Find_J6 (K : K1) (p12 x8 : Value) (w : World) : Prop :=
  sFldA Try.prog 34 p12 1 w fun x120 w =>
  sFldA Try.prog 32 x120 0 w fun x121 w =>
  sLoad Try.prog 3 x121 w fun x122 w =>
  sFldA Try.prog 34 p12 0 w fun x123 w =>
  sStore Try.prog 3 x123 x122 w fun w =>
  sLoad Try.prog 34 p12 w fun x124 w =>
  sStore Try.prog 34 x8 x124 w fun w =>
  sLoad Try.prog 34 x8 w fun v w' => w' = w ∧ K (.tuple #[v, (.int .i64 0)]) w

def tree_Tree_Find_J2 (K : K1) (dim1 p12 x52 x8 : Value) (n13_2 : Value) (w : World) : Prop :=
  JoinS 0 32 (fun M6 =>
    sAssert Try.prog n13_2 107 110 true w fun x94 w =>
    sExtract x94 0 w fun x95 w =>
    sExtract x94 1 w fun x96 w =>
    sIf x96 (
      sNil x95 w fun x99 w =>
      sFldA Try.prog 125 x99 0 w fun x100 w =>
      sLoad Try.prog 22 x100 w fun x101 w =>
      sBuiltin Try.prog .len [22] 3 [x101] w fun x102 w =>
      LoopS [(.int .i64 0)] 1 18 w fun us _ w Nx7 =>
        tree_Tree_Find_L7 M6 Nx7 dim1 p12 x101 x102 x52 (hd us) w) (
      M6 [] w)) fun us _ w =>
    tree_Tree_Find_J6 K p12 x8 w

def tree_Tree_Find_J1 (K : K1) (bias7 dim1 t0 v6 x8 : Value) (x50 : Value) (w : World) : Prop :=
  sIf x50 (
    sBuild Try.prog 34 [] w fun x51 w =>
    sStore Try.prog 34 x8 x51 w fun w =>
    sLoad Try.prog 34 x8 w fun v w' => w' = w ∧ K (.tuple #[v, (.int .i64 1)]) w) (
    sFunc Try.prog (.func 61) [] [v6, bias7] w fun x52 w =>
    sBuild Try.prog 34 [] w fun x53 w =>
    sAlloc Try.prog 34 w fun p12 w =>
    sStore Try.prog 34 p12 x53 w fun w =>
    sCall Try.prog 62 [t0] w fun x55 w =>
    JoinS 1 40 (fun M2 =>
      LoopS [x55] 1 40 w fun us _ w Nx3 =>
        tree_Tree_Find_L3 M2 Nx3 dim1 p12 x52 (hd us) w) fun us _ w =>
      tree_Tree_Find_J2 K dim1 p12 x52 x8 (hd us) w)

def tree_Tree_Find (K : K1) (t0 dim1 v2 bias3 : Value) (w : World) : Prop :=
  sBox Try.prog 3 v2 w fun v6 w =>
  sBox Try.prog 3 bias3 w fun bias7 w =>
  sAlloc Try.prog 34 w fun x8 w =>
  sCall Try.prog 42 [t0] w fun x25 w =>
  sAlloc Try.prog 32 w fun all10 w =>
  sStore Try.prog 32 all10 x25 w fun w =>
  JoinS 1 24 (fun M1 =>
    DrawS w fun C w =>
    stillS C w (fun w k => sBin Try.prog .lss 3 false true dim1 (.int .i64 0) w k) fun x27 =>
    sIf x27 (
      M1 [(.bool true)] w) (
      stillS C w (fun w k => sBin Try.prog .gtr 3 false true dim1 (.int .i64 3) w k) fun x30 =>
      sIf x30 (
        M1 [(.bool true)] w) (
        stillS C w (fun w k => sLoad Try.prog 3 v6 w k) fun x33 =>
        stillS C w (fun w k => sBin Try.prog .lss 3 false true x33 (.int .i64 0) w k) fun x34 =>
        sIf x34 (
          M1 [(.bool true)] w) (
          stillS C w (fun w k => sLoad Try.prog 3 v6 w k) fun x37 =>
          stillS C w (fun w k => sLoad Try.prog 32 all10 w k) fun x38 =>
          sCall Try.prog 60 [x38, dim1] w fun x40 w => C w ∧
          stillS C w (fun w k => sBin Try.prog .gtr 3 false false x37 x40 w k) fun x41 =>
          sIf x41 (
            M1 [(.bool true)] w) (
            stillS C w (fun w k => sLoad Try.prog 3 bias7 w k) fun x44 =>
            stillS C w (fun w k => sBin Try.prog .neq 3 false true x44 (.int .i64 0) w k) fun x45 =>
            sIf x45 (
              stillS C w (fun w k => sLoad Try.prog 3 bias7 w k) fun x47 =>
              stillS C w (fun w k => sBin Try.prog .neq 3 false true x47 (.int .i64 1) w k) fun x48 =>
              M1 [x48] w) (
              M1 [(.bool false)] w)))))) fun us _ w =>
    tree_Tree_Find_J1 K bias7 dim1 t0 v6 x8 (hd us) w

def tree_Tree_Find.sc : SC := (.seq (.reg (.op 0 (.op 1 (.op 2 (.op 3 .done))))) (.seq (.reg (.op 0 (.op 1 (.op 2 (.op 3 .done))))) (.seq (.join [50] [26, 27, 28, 29, 30, 31, 32, 33, 34, 35, 36, 37, 38, 39, 40, 41, 42, 43, 44, 45, 46, 47, 48, 49] (.draw (.op 0 (.op 1 (.op 2 (.test 2 (.skip 3 (.skip 4 (.op 5 (.op 6 (.know 6 true (.skip 7 (.skip 8 (.op 9 (.op 10 (.know 10 true (.skip 11 (.skip 12 (.skip 13 (.skip 14 (.skip 15 (.op 16 (.op 17 (.know 17 true (.skip 18 (.skip 19 (.skip 20 (.skip 21 (.skip 22 (.skip 23 (.op 24 .done))))))))))))))))))))))))) (.op 3 (.op 4 (.op 5 (.op 6 (.test 6 (.skip 7 (.skip 8 (.op 9 (.op 10 (.know 10 true (.skip 11 (.skip 12 (.skip 13 (.skip 14 (.skip 15 (.op 16 (.op 17 (.know 17 true (.skip 18 (.skip 19 (.skip 20 (.skip 21 (.skip 22 (.skip 23 (.op 24 .done)))))))))))))))))))) (.op 7 (.op 8 (.op 9 (.op 10 (.test 10 (.skip 11 (.skip 12 (.skip 13 (.skip 14 (.skip 15 (.op 16 (.op 17 (.know 17 true (.skip 18 (.skip 19 (.skip 20 (.skip 21 (.skip 22 (.skip 23 (.op 24 .done))))))))))))))) (.op 11 (.op 12 (.op 13 (.op 14 (.op 15 (.op 16 (.op 17 (.test 17 (.skip 18 (.skip 19 (.skip 20 (.skip 21 (.skip 22 (.skip 23 (.op 24 .done))))))) (.op 18 (.op 19 (.op 20 (.test 20 (.op 21 (.op 22 (.op 23 (.op 24 .done)))) (.skip 21 (.skip 22 (.op 23 (.op 24 .done))))))))))))))))))))))))))))))) (.cond (.seq (.reg (.op 0 (.op 1 (.op 2 .done)))) .nop) .nop)) (.seq (.reg (.op 0 (.op 1 .done))) (.seq (.reg (.op 0 (.op 1 (.op 2 .done)))) (.seq (.reg (.op 0 (.op 1 (.op 2 .done)))) (.join [13] [56, 57, 58, 59, 60, 61, 63, 64, 62, 65, 66, 14, 15, 67, 68, 69, 70, 71, 72, 73, 74, 75, 76, 77, 17, 78, 79, 80, 81, 82, 18, 83, 84, 85, 86, 87, 88, 89, 90, 91] (.sub (.loop [13] [56, 57, 58, 59, 60, 61, 63, 64, 62, 65, 66, 14, 15, 67, 68, 69, 70, 71, 72, 73, 74, 75, 76, 77, 17, 78, 79, 80, 81, 82, 18, 83, 84, 85, 86, 87, 88, 89, 90, 91] (.seq (.seq (.reg (.op 0 (.op 1 .done))) (.cond .nop .nop)) (.sub (.seq (.reg (.op 0 (.op 1 (.op 2 (.op 3 (.op 4 .done)))))) (.seq (.reg (.op 0 (.op 1 (.op 2 (.op 3 (.op 4 (.op 5 (.op 6 .done)))))))) (.seq (.seq (.reg (.op 0 (.op 1 .done))) (.cond .nop .nop)) (.seq (.reg (.op 0 .done)) (.seq (.reg (.op 0 (.op 1 (.op 2 (.op 3 (.op 4 (.op 5 .done))))))) (.sub (.loop [13, 74] [75, 76, 77, 17, 78, 79, 80, 81, 82, 18, 83, 84, 85, 86, 87, 88, 89, 90, 91] (.seq (.reg (.op 0 .done)) (.seq (.cond .nop .nop) (.seq (.sub (.seq (.reg (.op 0 (.op 1 (.op 2 .done)))) (.join [18] [78, 79, 80, 81, 82] (.draw (.op 0 (.op 1 (.op 2 (.alt 3 (.alt 4 (.op 5 (.fin 6 .done)) 5 (.fin 4 (.fin 6 .done))) 5 (.op 3 (.fin 4 (.fin 6 .done)))))))) (.seq (.seq (.reg (.op 0 (.op 1 (.op 2 (.op 3 (.op 4 .done)))))) (.cond (.seq (.reg (.op 0 (.op 1 .done))) .nop) .nop)) (.reg (.op 0 (.op 1 (.op 2 .done)))))))) (.reg (.op 0 (.op 1 .done))))))))))))))))) (.join [] [93, 94, 92, 95, 96, 19, 20, 97, 98, 99, 100, 101, 102, 103, 104, 105, 106, 22, 107, 108, 109, 110, 111, 23, 112, 113, 114, 115, 116, 117, 118, 119] (.seq (.reg (.op 0 (.op 1 (.op 2 (.op 3 (.op 4 (.op 5 (.op 6 .done)))))))) (.seq (.reg (.op 0 .done)) (.cond (.seq (.reg (.op 0 (.op 1 (.op 2 (.op 3 (.op 4 (.op 5 .done))))))) (.sub (.loop [103] [104, 105, 106, 22, 107, 108, 109, 110, 111, 23, 112, 113, 114, 115, 116, 117, 118, 119] (.seq (.reg (.op 0 .done)) (.seq (.cond .nop .nop) (.seq (.sub (.seq (.reg (.op 0 (.op 1 (.op 2 (.op 3 .done))))) (.join [23] [107, 108, 109, 110, 111] (.draw (.op 0 (.op 1 (.op 2 (.alt 3 (.alt 4 (.op 5 (.fin 6 .done)) 5 (.fin 4 (.fin 6 .done))) 5 (.op 3 (.fin 4 (.fin 6 .done)))))))) (.seq (.seq (.reg (.op 0 (.op 1 (.op 2 (.op 3 (.op 4 .done)))))) (.cond .nop .nop)) (.reg (.op 0 (.op 1 (.op 2 .done)))))))) (.reg (.op 0 (.op 1 .done))))))))) .nop))) (.seq (.reg (.op 0 (.op 1 (.op 2 (.op 3 (.op 4 .done)))))) (.seq (.reg (.op 0 (.op 1 (.op 2 .done)))) .nop))))))))))

theorem tree_Tree_Find.ok : okC Try.f19.ntmps tree_Tree_Find.sc (bodyOf Try.f19) = true := by kernel_rfl

theorem tree_Tree_Find.eq {K : K1} {t0 dim1 v2 bias3 : Value} {w : World} : tree_Tree_Find K t0 dim1 v2 bias3 w = codeS Try.prog tree_Tree_Find.sc (bodyOf Try.f19) (argsF 0 [t0, dim1, v2, bias3]) w (retQ Try.prog Try.f19.results.toList K) := by kernel_rfl

theorem tree_Tree_Find.call {K : K1} {t0 dim1 v2 bias3 : Value} {w : World} (h : tree_Tree_Find K t0 dim1 v2 bias3 w) : sCall Try.prog 19 [t0, dim1, v2, bias3] w K := sCall_code mixed Try.func19 (by kernel_rfl) rfl rfl tree_Tree_Find.ok tree_Tree_Find.eq h

abbrev tree_Tree_Find.n : Nat := 19

/-- 'bodkin bodkinlaw05.refs' -/
def bodkinlaw05_refs_L1 (K : K1) (Nx1 : List Value → World → Prop) (l0 x7 : Value) (out3 x8 : Value) (w : World) : Prop :=
  sBin Try.prog .lss 3 false false x8 x7 w fun x9 w =>
  sIf x9 (
    sIdxA Try.prog 22 l0 x8 w fun x10 w =>
    sLoad Try.prog 51 x10 w fun x11 w =>
    sAlloc Try.prog 51 w fun i5 w =>
    sStore Try.prog 51 i5 x11 w fun w =>
    sLoad Try.prog 51 i5 w fun x13 w =>
    sCall Try.prog 56 [x13] w fun x14 w =>
    sBuildSlice Try.prog 37 1 [(0, x14)] w fun x15 w =>
    sBuiltin Try.prog .append [37, 37] 37 [out3, x15] w fun x16 w =>
    sBin Try.prog .add 3 false true x8 (.int .i64 1) w fun x17 w =>
    Nx1 [x16, x17] w) (
    K out3 w)

def bodkinlaw05_refs (K : K1) (l0 : Value) (w : World) : Prop :=
  sBuiltin Try.prog .len [22] 3 [l0] w fun x7 w =>
  LoopS [(.slice none 0 0), (.int .i64 0)] 2 10 w fun us _ w Nx1 =>
    bodkinlaw05_refs_L1 K Nx1 l0 x7 (hd us) (hd (tl us)) w

def bodkinlaw05_refs.sc : SC := (.seq (.reg (.op 0 .done)) (.seq (.reg (.op 0 .done)) (.seq (.seq (.reg (.op 0 (.op 1 (.op 2 .done)))) (.sub (.loop [3, 8] [9, 10, 11, 5, 12, 13, 14, 15, 16, 17] (.seq (.reg (.op 0 .done)) (.seq (.cond .nop .nop) (.seq (.sub (.seq (.reg (.op 0 (.op 1 (.op 2 (.op 3 .done))))) (.reg (.op 0 (.op 1 (.op 2 (.op 3 (.op 4 (.op 5 .done))))))))) (.reg (.op 0 (.op 1 .done))))))))) (.seq (.reg (.op 0 (.op 1 .done))) .nop))))

theorem bodkinlaw05_refs.ok : okC Try.f20.ntmps bodkinlaw05_refs.sc (bodyOf Try.f20) = true := by kernel_rfl

theorem bodkinlaw05_refs.eq {K : K1} {l0 : Value} {w : World} : bodkinlaw05_refs K l0 w = codeS Try.prog bodkinlaw05_refs.sc (bodyOf Try.f20) (argsF 0 [l0]) w (retQ Try.prog Try.f20.results.toList K) := by kernel_rfl

theorem bodkinlaw05_refs.call {K : K1} {l0 : Value} {w : World} (h : bodkinlaw05_refs K l0 w) : sCall Try.prog 20 [l0] w K := sCall_code mixed Try.func20 (by kernel_rfl) rfl rfl bodkinlaw05_refs.ok bodkinlaw05_refs.eq h

abbrev bodkinlaw05_refs.n : Nat := 20

/-- 'bodkin bodkinref05.Asks' -/
def bodkinref05_Asks (K : K1) (l0 dim1 at2 : Value) (w : World) : Prop :=
  sBox Try.prog 23 at2 w fun at5 w =>
  DrawS w fun C w =>
  stillS C w (fun w k => sBin Try.prog .geq 3 false true dim1 (.int .i64 0) w k) fun x8 =>
  sIf x8 (
    stillS C w (fun w k => sBin Try.prog .lss 3 false true dim1 (.int .i64 4) w k) fun x11 =>
    sIf x11 (
      stillS C w (fun w k => sIdxA Try.prog 23 at5 (.int .i64 0) w k) fun x14 =>
      stillS C w (fun w k => sLoad Try.prog 3 x14 w k) fun x15 =>
      stillS C w (fun w k => sBin Try.prog .geq 3 false true x15 (.int .i64 0) w k) fun x16 =>
      sIf x16 (
        stillS C w (fun w k => sIdxA Try.prog 23 at5 (.int .i64 0) w k) fun x19 =>
        stillS C w (fun w k => sLoad Try.prog 3 x19 w k) fun x20 =>
        sCall Try.prog 66 [l0, dim1] w fun x23 w => C w ∧
        stillS C w (fun w k => sBin Try.prog .leq 3 false false x20 x23 w k) fun x24 =>
        sIf x24 (
          stillS C w (fun w k => sIdxA Try.prog 23 at5 (.int .i64 1) w k) fun x27 =>
          stillS C w (fun w k => sLoad Try.prog 3 x27 w k) fun x28 =>
          stillS C w (fun w k => sBin Try.prog .eql 3 false true x28 (.int .i64 0) w k) fun x29 =>
          sIf x29 (
            K (.bool true) w) (
            stillS C w (fun w k => sIdxA Try.prog 23 at5 (.int .i64 1) w k) fun x31 =>
            stillS C w (fun w k => sLoad Try.prog 3 x31 w k) fun x32 =>
            stillS C w (fun w k => sBin Try.prog .eql 3 false true x32 (.int .i64 1) w k) fun x33 =>
            K x33 w)) (
          K (.bool false) w)) (
        K (.bool false) w)) (
      K (.bool false) w)) (
    K (.bool false) w)

def bodkinref05_Asks.sc : SC := (.seq (.reg (.op 0 (.op 1 .done))) (.seq (.draw (.op 0 (.op 1 (.op 2 (.test 2 (.op 3 (.op 4 (.op 5 (.op 6 (.test 6 (.op 7 (.op 8 (.op 9 (.op 10 (.op 11 (.test 11 (.op 12 (.op 13 (.op 14 (.op 15 (.op 16 (.op 17 (.op 18 (.op 19 (.test 19 (.op 20 (.op 21 (.op 22 (.op 23 (.test 23 (.skip 24 (.skip 25 (.skip 26 (.op 27 (.op 28 (.op 29 .done)))))) (.op 24 (.op 25 (.op 26 (.op 27 (.op 28 (.op 29 .done))))))))))) (.skip 20 (.skip 21 (.skip 22 (.skip 23 (.skip 24 (.skip 25 (.skip 26 (.skip 27 (.op 28 (.op 29 .done))))))))))))))))))) (.skip 12 (.skip 13 (.skip 14 (.skip 15 (.skip 16 (.skip 17 (.op 18 (.op 19 (.know 19 false (.skip 20 (.skip 21 (.skip 22 (.skip 23 (.skip 24 (.skip 25 (.skip 26 (.skip 27 (.op 28 (.op 29 .done))))))))))))))))))))))))) (.skip 7 (.skip 8 (.skip 9 (.op 10 (.op 11 (.know 11 false (.skip 12 (.skip 13 (.skip 14 (.skip 15 (.skip 16 (.skip 17 (.op 18 (.op 19 (.know 19 false (.skip 20 (.skip 21 (.skip 22 (.skip 23 (.skip 24 (.skip 25 (.skip 26 (.skip 27 (.op 28 (.op 29 .done)))))))))))))))))))))))))))))) (.skip 3 (.skip 4 (.op 5 (.op 6 (.know 6 false (.skip 7 (.skip 8 (.skip 9 (.op 10 (.op 11 (.know 11 false (.skip 12 (.skip 13 (.skip 14 (.skip 15 (.skip 16 (.skip 17 (.op 18 (.op 19 (.know 19 false (.skip 20 (.skip 21 (.skip 22 (.skip 23 (.skip 24 (.skip 25 (.skip 26 (.skip 27 (.op 28 (.op 29 .done))))))))))))))))))))))))))))))))))) .nop))

theorem bodkinref05_Asks.ok : okC Try.f21.ntmps bodkinref05_Asks.sc (bodyOf Try.f21) = true := by kernel_rfl

theorem bodkinref05_Asks.eq {K : K1} {l0 dim1 at2 : Value} {w : World} : bodkinref05_Asks K l0 dim1 at2 w = codeS Try.prog bodkinref05_Asks.sc (bodyOf Try.f21) (argsF 0 [l0, dim1, at2]) w (retQ Try.prog Try.f21.results.toList K) := by kernel_rfl

theorem bodkinref05_Asks.call {K : K1} {l0 dim1 at2 : Value} {w : World} (h : bodkinref05_Asks K l0 dim1 at2 w) : sCall Try.prog 21 [l0, dim1, at2] w K := sCall_code mixed Try.func21 (by kernel_rfl) rfl rfl bodkinref05_Asks.ok bodkinref05_Asks.eq h

abbrev bodkinref05_Asks.n : Nat := 21

/-- 'bodkin bodkinref05.Find' -/
def bodkinref05_Find_J3 (Nx2 : List Value → World → Prop) (n7 : Value) (w : World) : Prop :=
  sBin Try.prog .add 3 false true n7 (.int .i64 1) w fun x35 w =>
  Nx2 [x35] w

def bodkinref05_Find_L2 (M1 : List Value → World → Prop) (Nx2 : List Value → World → Prop) (at5 dim1 l0 : Value) (n7 : Value) (w : World) : Prop :=
  sBuiltin Try.prog .len [37] 3 [l0] w fun x11 w =>
  sBin Try.prog .lss 3 false false n7 x11 w fun x12 w =>
  sIf x12 (
    sBin Try.prog .add 3 false true n7 (.int .i64 1) w fun x15 w =>
    sSlice Try.prog 37 l0 none (some x15) none w fun x16 w =>
    sCall Try.prog 66 [x16, dim1] w fun x18 w =>
    JoinS 0 15 (fun M3 =>
      sIdxA Try.prog 23 at5 (.int .i64 0) w fun x20 w =>
      sLoad Try.prog 3 x20 w fun x21 w =>
      sBin Try.prog .gtr 3 false false x18 x21 w fun x22 w =>
      sIf x22 (
        M1 [n7] w) (
        sIdxA Try.prog 23 at5 (.int .i64 1) w fun x24 w =>
        sLoad Try.prog 3 x24 w fun x25 w =>
        sBin Try.prog .eql 3 false true x25 (.int .i64 0) w fun x26 w =>
        sIf x26 (
          sIdxA Try.prog 23 at5 (.int .i64 0) w fun x29 w =>
          sLoad Try.prog 3 x29 w fun x30 w =>
          sBin Try.prog .eql 3 false false x18 x30 w fun x31 w =>
          sIf x31 (
            M1 [n7] w) (
            M3 [] w)) (
          M3 [] w))) fun us _ w =>
      bodkinref05_Find_J3 Nx2 n7 w) (
    M1 [n7] w)

def bodkinref05_Find_J1 (K : K1) (l0 x6 : Value) (n7_1 : Value) (w : World) : Prop :=
  sSlice Try.prog 37 l0 none (some n7_1) none w fun x39 w =>
  sCall Try.prog 67 [x39] w fun x40 w =>
  sBuild Try.prog 42 [(0, n7_1), (1, x40)] w fun x41 w =>
  sStore Try.prog 42 x6 x41 w fun w =>
  sLoad Try.prog 42 x6 w fun v w' => w' = w ∧ K v w

def bodkinref05_Find (K : K1) (l0 dim1 at2 : Value) (w : World) : Prop :=
  sBox Try.prog 23 at2 w fun at5 w =>
  sAlloc Try.prog 42 w fun x6 w =>
  JoinS 1 28 (fun M1 =>
    LoopS [(.int .i64 0)] 1 28 w fun us _ w Nx2 =>
      bodkinref05_Find_L2 M1 Nx2 at5 dim1 l0 (hd us) w) fun us _ w =>
    bodkinref05_Find_J1 K l0 x6 (hd us) w

def bodkinref05_Find.sc : SC := (.seq (.reg (.op 0 (.op 1 .done))) (.seq (.reg (.op 0 .done)) (.join [7] [9, 10, 11, 12, 13, 14, 15, 16, 17, 18, 8, 19, 20, 21, 22, 23, 24, 25, 26, 27, 28, 29, 30, 31, 32, 33, 34, 35] (.sub (.loop [7] [9, 10, 11, 12, 13, 14, 15, 16, 17, 18, 8, 19, 20, 21, 22, 23, 24, 25, 26, 27, 28, 29, 30, 31, 32, 33, 34, 35] (.seq (.seq (.reg (.op 0 (.op 1 (.op 2 (.op 3 .done))))) (.cond .nop .nop)) (.sub (.seq (.reg (.op 0 (.op 1 (.op 2 (.op 3 (.op 4 (.op 5 (.op 6 .done)))))))) (.join [] [19, 20, 21, 22, 23, 24, 25, 26, 27, 28, 29, 30, 31, 32, 33] (.seq (.reg (.op 0 (.op 1 (.op 2 (.op 3 (.op 4 (.test 4 (.skip 5 (.skip 6 (.skip 7 (.skip 8 (.skip 9 (.skip 10 (.skip 11 (.skip 12 (.skip 13 (.op 14 .done)))))))))) (.op 5 (.op 6 (.op 7 (.op 8 (.test 8 (.op 9 (.op 10 (.op 11 (.op 12 (.op 13 (.op 14 .done)))))) (.skip 9 (.skip 10 (.skip 11 (.skip 12 (.op 13 (.op 14 .done)))))))))))))))))) (.cond .nop .nop)) (.reg (.op 0 (.op 1 (.op 2 .done)))))))))) (.seq (.reg (.op 0 (.op 1 (.op 2 (.op 3 (.op 4 (.op 5 (.op 6 .done)))))))) .nop))))

theorem bodkinref05_Find.ok : okC Try.f22.ntmps bodkinref05_Find.sc (bodyOf Try.f22) = true := by kernel_rfl

theorem bodkinref05_Find.eq {K : K1} {l0 dim1 at2 : Value} {w : World} : bodkinref05_Find K l0 dim1 at2 w = codeS Try.prog bodkinref05_Find.sc (bodyOf Try.f22) (argsF 0 [l0, dim1, at2]) w (retQ Try.prog Try.f22.results.toList K) := by kernel_rfl

theorem bodkinref05_Find.call {K : K1} {l0 dim1 at2 : Value} {w : World} (h : bodkinref05_Find K l0 dim1 at2 w) : sCall Try.prog 22 [l0, dim1, at2] w K := sCall_code mixed Try.func22 (by kernel_rfl) rfl rfl bodkinref05_Find.ok bodkinref05_Find.eq h

abbrev bodkinref05_Find.n : Nat := 22

/-- 'bodkin bodkinlaw05.refSum' -/
def bodkinlaw05_refSum (K : K1) (s0 : Value) (w : World) : Prop :=
  sBox Try.prog 32 s0 w fun s1 w =>
  sAlloc Try.prog 40 w fun x2 w =>
  sFldA Try.prog 32 s1 0 w fun x3 w =>
  sLoad Try.prog 3 x3 w fun x4 w =>
  sFldA Try.prog 32 s1 1 w fun x5 w =>
  sLoad Try.prog 30 x5 w fun x6 w =>
  sFldA Try.prog 32 s1 2 w fun x7 w =>
  sLoad Try.prog 3 x7 w fun x8 w =>
  sFldA Try.prog 32 s1 3 w fun x9 w =>
  sLoad Try.prog 3 x9 w fun x10 w =>
  sBuild Try.prog 40 [(0, x4), (1, x6), (2, x8), (3, x10)] w fun x11 w =>
  sStore Try.prog 40 x2 x11 w fun w =>
  sLoad Try.prog 40 x2 w fun v w' => w' = w ∧ K v w

def bodkinlaw05_refSum.sc : SC := (.seq (.reg (.op 0 (.op 1 .done))) (.seq (.reg (.op 0 (.op 1 (.op 2 (.op 3 (.op 4 (.op 5 (.op 6 (.op 7 (.op 8 (.op 9 .done))))))))))) .nop))

theorem bodkinlaw05_refSum.ok : okC Try.f23.ntmps bodkinlaw05_refSum.sc (bodyOf Try.f23) = true := by kernel_rfl

theorem bodkinlaw05_refSum.eq {K : K1} {s0 : Value} {w : World} : bodkinlaw05_refSum K s0 w = codeS Try.prog bodkinlaw05_refSum.sc (bodyOf Try.f23) (argsF 0 [s0]) w (retQ Try.prog Try.f23.results.toList K) := by kernel_rfl

theorem bodkinlaw05_refSum.call {K : K1} {s0 : Value} {w : World} (h : bodkinlaw05_refSum K s0 w) : sCall Try.prog 23 [s0] w K := sCall_code mixed Try.func23 (by kernel_rfl) rfl rfl bodkinlaw05_refSum.ok bodkinlaw05_refSum.eq h

abbrev bodkinlaw05_refSum.n : Nat := 23

/-- '(*bodkin tree.Tree).Height' -/
def tree_Tree_Height (K : K1) (t0 : Value) (w : World) : Prop :=
  sCall Try.prog 62 [t0] w fun x4 w =>
  sCall Try.prog 68 [x4] w fun x5 w =>
  K x5 w

def tree_Tree_Height.sc : SC := (.seq (.reg (.op 0 .done)) (.seq (.reg (.op 0 (.op 1 (.op 2 (.op 3 .done))))) .nop))

theorem tree_Tree_Height.ok : okC Try.f24.ntmps tree_Tree_Height.sc (bodyOf Try.f24) = true := by kernel_rfl

theorem tree_Tree_Height.eq {K : K1} {t0 : Value} {w : World} : tree_Tree_Height K t0 w = codeS Try.prog tree_Tree_Height.sc (bodyOf Try.f24) (argsF 0 [t0]) w (retQ Try.prog Try.f24.results.toList K) := by kernel_rfl

theorem tree_Tree_Height.call {K : K1} {t0 : Value} {w : World} (h : tree_Tree_Height K t0 w) : sCall Try.prog 24 [t0] w K := sCall_code mixed Try.func24 (by kernel_rfl) rfl rfl tree_Tree_Height.ok tree_Tree_Height.eq h

abbrev tree_Tree_Height.n : Nat := 24

/-- 'bodkin tree.Join' -/
def tree_Join (K : K1) (a0 b1 : Value) (w : World) : Prop :=
  sCall Try.prog 42 [a0] w fun x7 w =>
  sFld Try.prog 32 x7 0 w fun x8 w =>
  sCall Try.prog 42 [b1] w fun x10 w =>
  sFld Try.prog 32 x10 0 w fun x11 w =>
  sBin Try.prog .add 3 false false x8 x11 w fun x12 w =>
  sBin Try.prog .gtr 3 false true x12 (.int .i64 30000) w fun x13 w =>
  sIf x13 (
    K (.tuple #[(.pointer none), (.int .i64 5)]) w) (
    sCall Try.prog 62 [a0] w fun x15 w =>
    sCall Try.prog 62 [b1] w fun x17 w =>
    sCall Try.prog 58 [x15, x17] w fun x18 w =>
    sBuild Try.prog 113 [(0, x18)] w fun x19 w =>
    sBox Try.prog 113 x19 w fun x20 w =>
    K (.tuple #[x20, (.int .i64 0)]) w)

def tree_Join.sc : SC := (.seq (.reg (.op 0 (.op 1 .done))) (.seq (.seq (.reg (.op 0 (.op 1 (.op 2 (.op 3 (.op 4 (.op 5 (.op 6 (.op 7 .done))))))))) (.cond (.seq (.reg (.op 0 (.op 1 .done))) .nop) .nop)) (.seq (.reg (.op 0 (.op 1 (.op 2 (.op 3 (.op 4 (.op 5 (.op 6 (.op 7 (.op 8 .done)))))))))) .nop)))

theorem tree_Join.ok : okC Try.f25.ntmps tree_Join.sc (bodyOf Try.f25) = true := by kernel_rfl

theorem tree_Join.eq {K : K1} {a0 b1 : Value} {w : World} : tree_Join K a0 b1 w = codeS Try.prog tree_Join.sc (bodyOf Try.f25) (argsF 0 [a0, b1]) w (retQ Try.prog Try.f25.results.toList K) := by kernel_rfl

theorem tree_Join.call {K : K1} {a0 b1 : Value} {w : World} (h : tree_Join K a0 b1 w) : sCall Try.prog 25 [a0, b1] w K := sCall_code mixed Try.func25 (by kernel_rfl) rfl rfl tree_Join.ok tree_Join.eq h

abbrev tree_Join.n : Nat := 25

/-- 'bodkin bodkinlaw05.is' -/
def bodkinlaw05_is (K : K1) (t0 l1 : Value) (w : World) : Prop :=
  sCall Try.prog 52 [t0] w fun x6 w =>
  sCall Try.prog 20 [x6] w fun x7 w =>
  sCall Try.prog 69 [x7, l1] w fun x9 w =>
  sIf x9 (
    sCall Try.prog 42 [t0] w fun x12 w =>
    sCall Try.prog 23 [x12] w fun x13 w =>
    sCall Try.prog 67 [l1] w fun x15 w =>
    sBin Try.prog .eql 40 false false x13 x15 w fun x16 w =>
    sIf x16 (
      sCall Try.prog 24 [t0] w fun x20 w =>
      sBuiltin Try.prog .len [37] 3 [l1] w fun x22 w =>
      sCall Try.prog 70 [x20, x22] w fun x23 w =>
      sIf x23 (
        sCall Try.prog 53 [t0] w fun x27 w =>
        K x27 w) (
        K (.bool false) w)) (
      K (.bool false) w)) (
    K (.bool false) w)

def bodkinlaw05_is.sc : SC := (.seq (.reg (.op 0 .done)) (.seq (.reg (.op 0 (.op 1 (.op 2 (.op 3 (.op 4 (.op 5 (.test 5 (.op 6 (.op 7 (.op 8 (.op 9 (.op 10 (.op 11 (.op 12 (.op 13 (.test 13 (.op 14 (.op 15 (.op 16 (.op 17 (.op 18 (.op 19 (.op 20 (.test 20 (.op 21 (.op 22 (.op 23 (.op 24 .done)))) (.skip 21 (.skip 22 (.op 23 (.op 24 .done)))))))))))) (.skip 14 (.skip 15 (.skip 16 (.skip 17 (.skip 18 (.op 19 (.op 20 (.know 20 false (.skip 21 (.skip 22 (.op 23 (.op 24 .done))))))))))))))))))))) (.skip 6 (.skip 7 (.skip 8 (.skip 9 (.skip 10 (.skip 11 (.op 12 (.op 13 (.know 13 false (.skip 14 (.skip 15 (.skip 16 (.skip 17 (.skip 18 (.op 19 (.op 20 (.know 20 false (.skip 21 (.skip 22 (.op 23 (.op 24 .done))))))))))))))))))))))))))))) .nop))

theorem bodkinlaw05_is.ok : okC Try.f26.ntmps bodkinlaw05_is.sc (bodyOf Try.f26) = true := by kernel_rfl

theorem bodkinlaw05_is.eq {K : K1} {t0 l1 : Value} {w : World} : bodkinlaw05_is K t0 l1 w = codeS Try.prog bodkinlaw05_is.sc (bodyOf Try.f26) (argsF 0 [t0, l1]) w (retQ Try.prog Try.f26.results.toList K) := by kernel_rfl

theorem bodkinlaw05_is.call {K : K1} {t0 l1 : Value} {w : World} (h : bodkinlaw05_is K t0 l1 w) : sCall Try.prog 26 [t0, l1] w K := sCall_code mixed Try.func26 (by kernel_rfl) rfl rfl bodkinlaw05_is.ok bodkinlaw05_is.eq h

abbrev bodkinlaw05_is.n : Nat := 26

/-- '(*bodkin tree.Tree).At' -/
def tree_Tree_At_L3 (Nx2 : List Value → World → Prop) (Nx3 : List Value → World → Prop) (x34 x35 : Value) (i1_2 n6_1 x36 : Value) (w : World) : Prop :=
  sBin Try.prog .lss 3 false false x36 x35 w fun x37 w =>
  sIf x37 (
    sIdxA Try.prog 118 x34 x36 w fun x38 w =>
    sLoad Try.prog 107 x38 w fun x39 w =>
    sCall Try.prog 64 [x39] w fun x41 w =>
    sFld Try.prog 32 x41 0 w fun x42 w =>
    sBin Try.prog .geq 3 false false i1_2 x42 w fun x45 w =>
    sIf x45 (
      sBin Try.prog .sub 3 false false i1_2 x42 w fun x48 w =>
      sBin Try.prog .add 3 false true x36 (.int .i64 1) w fun x50 w =>
      Nx3 [x48, n6_1, x50] w) (
      Nx2 [i1_2, x39] w)) (
    Nx2 [i1_2, n6_1] w)

def tree_Tree_At_L2 (K : K1) (Nx2 : List Value → World → Prop) (x4 : Value) (i1_1 n6 : Value) (w : World) : Prop :=
  sAssert Try.prog n6 107 116 true w fun x26 w =>
  sExtract x26 0 w fun x27 w =>
  sExtract x26 1 w fun x28 w =>
  sUn Try.prog .not x28 w fun x30 w =>
  sIf x30 (
    sAssert Try.prog n6 107 110 false w fun x52 w =>
    sNil x52 w fun x53 w =>
    sFldA Try.prog 125 x53 0 w fun x54 w =>
    sLoad Try.prog 22 x54 w fun x55 w =>
    sIdxA Try.prog 22 x55 i1_1 w fun x57 w =>
    sLoad Try.prog 51 x57 w fun x58 w =>
    sStore Try.prog 51 x4 x58 w fun w =>
    sLoad Try.prog 51 x4 w fun v w' => w' = w ∧ K (.tuple #[v, (.int .i64 0)]) w) (
    sNil x27 w fun x32 w =>
    sFldA Try.prog 120 x32 0 w fun x33 w =>
    sLoad Try.prog 118 x33 w fun x34 w =>
    sBuiltin Try.prog .len [118] 3 [x34] w fun x35 w =>
    LoopS [i1_1, n6, (.int .i64 0)] 3 16 w fun us _ w Nx3 =>
      tree_Tree_At_L3 Nx2 Nx3 x34 x35 (hd us) (hd (tl us)) (hd (tl (tl us))) w)

def tree_Tree_At_J1 (K : K1) (i1 t0 x4 : Value) (x20 : Value) (w : World) : Prop :=
  sIf x20 (
    sBuild Try.prog 51 [] w fun x21 w =>
    sStore Try.prog 51 x4 x21 w fun w =>
    sLoad Try.prog 51 x4 w fun v w' => w' = w ∧ K (.tuple #[v, (.int .i64 1)]) w) (
    sCall Try.prog 62 [t0] w fun x23 w =>
    LoopS [i1, x23] 2 31 w fun us _ w Nx2 =>
      tree_Tree_At_L2 K Nx2 x4 (hd us) (hd (tl us)) w)

def tree_Tree_At (K : K1) (t0 i1 : Value) (w : World) : Prop :=
  sAlloc Try.prog 51 w fun x4 w =>
  JoinS 1 8 (fun M1 =>
    sBin Try.prog .lss 3 false true i1 (.int .i64 0) w fun x13 w =>
    sIf x13 (
      M1 [(.bool true)] w) (
      sCall Try.prog 42 [t0] w fun x17 w =>
      sFld Try.prog 32 x17 0 w fun x18 w =>
      sBin Try.prog .geq 3 false false i1 x18 w fun x19 w =>
      M1 [x19] w)) fun us _ w =>
    tree_Tree_At_J1 K i1 t0 x4 (hd us) w

def tree_Tree_At.sc : SC := (.seq (.reg (.op 0 (.op 1 .done))) (.sub (.seq (.join [20] [12, 13, 14, 15, 16, 17, 18, 19] (.reg (.op 0 (.op 1 (.op 2 (.test 2 (.skip 3 (.skip 4 (.skip 5 (.skip 6 (.skip 7 (.op 8 .done)))))) (.op 3 (.op 4 (.op 5 (.op 6 (.op 7 (.op 8 .done))))))))))) (.cond (.seq (.reg (.op 0 (.op 1 (.op 2 .done)))) .nop) .nop)) (.seq (.reg (.op 0 (.op 1 (.op 2 .done)))) (.seq .nop (.seq (.sub (.loop [1, 6] [25, 26, 24, 27, 28, 7, 8, 29, 30, 31, 32, 33, 34, 35, 36, 37, 38, 39, 10, 40, 41, 42, 11, 43, 44, 45, 46, 47, 48, 49, 50] (.sub (.seq (.reg (.op 0 (.op 1 (.op 2 (.op 3 (.op 4 (.op 5 (.op 6 .done)))))))) (.seq (.seq (.reg (.op 0 (.op 1 .done))) (.cond .nop .nop)) (.seq (.reg (.op 0 (.op 1 (.op 2 (.op 3 (.op 4 (.op 5 .done))))))) (.sub (.loop [1, 6, 36] [37, 38, 39, 10, 40, 41, 42, 11, 43, 44, 45, 46, 47, 48, 49, 50] (.seq (.reg (.op 0 .done)) (.seq (.cond .nop .nop) (.seq (.sub (.seq (.reg (.op 0 (.op 1 (.op 2 .done)))) (.seq (.seq (.reg (.op 0 (.op 1 (.op 2 (.op 3 .done))))) (.seq (.reg (.op 0 (.op 1 (.op 2 .done)))) (.cond (.seq (.reg (.op 0 (.op 1 (.op 2 (.op 3 .done))))) .nop) .nop))) (.seq (.reg (.op 0 (.op 1 .done))) .nop)))) (.reg (.op 0 (.op 1 .done)))))))))))))) (.seq (.reg (.op 0 (.op 1 (.op 2 (.op 3 (.op 4 (.op 5 (.op 6 (.op 7 (.op 8 (.op 9 .done))))))))))) .nop)))))))

theorem tree_Tree_At.ok : okC Try.f27.ntmps tree_Tree_At.sc (bodyOf Try.f27) = true := by kernel_rfl

theorem tree_Tree_At.eq {K : K1} {t0 i1 : Value} {w : World} : tree_Tree_At K t0 i1 w = codeS Try.prog tree_Tree_At.sc (bodyOf Try.f27) (argsF 0 [t0, i1]) w (retQ Try.prog Try.f27.results.toList K) := by kernel_rfl

theorem tree_Tree_At.call {K : K1} {t0 i1 : Value} {w : World} (h : tree_Tree_At K t0 i1 w) : sCall Try.prog 27 [t0, i1] w K := sCall_code mixed Try.func27 (by kernel_rfl) rfl rfl tree_Tree_At.ok tree_Tree_At.eq h

abbrev tree_Tree_At.n : Nat := 27

/-- 'bodkin bodkinref22.Right' -/
def bodkinref22_Right_L1 (K : K1) (Nx1 : List Value → World → Prop) (l0 x6 : Value) (x7 : Value) (w : World) : Prop :=
  sBin Try.prog .lss 3 false false x7 x6 w fun x8 w =>
  sIf x8 (
    sIdxA Try.prog 57 l0 x7 w fun x9 w =>
    sLoad Try.prog 60 x9 w fun x10 w =>
    sAlloc Try.prog 60 w fun x4 w =>
    sStore Try.prog 60 x4 x10 w fun w =>
    sFldA Try.prog 60 x4 0 w fun x11 w =>
    sLoad Try.prog 3 x11 w fun x12 w =>
    sCall Try.prog 71 [x12] w fun x13 w =>
    sUn Try.prog .not x13 w fun x14 w =>
    sIf x14 (
      K (.bool false) w) (
      sFldA Try.prog 60 x4 1 w fun x16 w =>
      sLoad Try.prog 3 x16 w fun x17 w =>
      sCall Try.prog 71 [x17] w fun x18 w =>
      sUn Try.prog .not x18 w fun x19 w =>
      sIf x19 (
        K (.bool false) w) (
        sFldA Try.prog 60 x4 2 w fun x22 w =>
        sLoad Try.prog 3 x22 w fun x23 w =>
        sCall Try.prog 71 [x23] w fun x24 w =>
        sUn Try.prog .not x24 w fun x25 w =>
        sIf x25 (
          K (.bool false) w) (
          sFldA Try.prog 60 x4 3 w fun x28 w =>
          sLoad Try.prog 3 x28 w fun x29 w =>
          sCall Try.prog 71 [x29] w fun x30 w =>
          sUn Try.prog .not x30 w fun x31 w =>
          sIf x31 (
            K (.bool false) w) (
            sFldA Try.prog 60 x4 2 w fun x34 w =>
            sLoad Try.prog 3 x34 w fun x35 w =>
            sBin Try.prog .eql 3 false true x35 (.int .i64 0) w fun x36 w =>
            sIf x36 (
              K (.bool false) w) (
              sBin Try.prog .add 3 false true x7 (.int .i64 1) w fun x38 w =>
              Nx1 [x38] w)))))) (
    K (.bool true) w)

def bodkinref22_Right (K : K1) (l0 : Value) (w : World) : Prop :=
  sBuiltin Try.prog .len [57] 3 [l0] w fun x6 w =>
  LoopS [(.int .i64 0)] 1 33 w fun us _ w Nx1 =>
    bodkinref22_Right_L1 K Nx1 l0 x6 (hd us) w

def bodkinref22_Right.sc : SC := (.seq (.reg (.op 0 .done)) (.seq (.seq (.reg (.op 0 (.op 1 (.op 2 .done)))) (.sub (.loop [7] [8, 9, 10, 4, 11, 12, 13, 14, 15, 16, 17, 18, 19, 20, 21, 22, 23, 24, 25, 26, 27, 28, 29, 30, 31, 32, 33, 34, 35, 36, 37, 2, 38] (.seq (.reg (.op 0 .done)) (.seq (.cond .nop .nop) (.seq (.sub (.seq (.reg (.op 0 (.op 1 (.op 2 (.op 3 .done))))) (.seq (.reg (.op 0 (.op 1 (.op 2 (.op 3 (.op 4 (.test 4 (.skip 5 (.skip 6 (.skip 7 (.skip 8 (.op 9 (.op 10 (.know 10 true (.skip 11 (.skip 12 (.skip 13 (.skip 14 (.op 15 (.op 16 (.know 16 true (.skip 17 (.skip 18 (.skip 19 (.skip 20 (.op 21 (.op 22 (.know 22 true (.skip 23 (.skip 24 (.skip 25 (.op 26 .done))))))))))))))))))))))))) (.op 5 (.op 6 (.op 7 (.op 8 (.op 9 (.op 10 (.test 10 (.skip 11 (.skip 12 (.skip 13 (.skip 14 (.op 15 (.op 16 (.know 16 true (.skip 17 (.skip 18 (.skip 19 (.skip 20 (.op 21 (.op 22 (.know 22 true (.skip 23 (.skip 24 (.skip 25 (.op 26 .done)))))))))))))))))) (.op 11 (.op 12 (.op 13 (.op 14 (.op 15 (.op 16 (.test 16 (.skip 17 (.skip 18 (.skip 19 (.skip 20 (.op 21 (.op 22 (.know 22 true (.skip 23 (.skip 24 (.skip 25 (.op 26 .done))))))))))) (.op 17 (.op 18 (.op 19 (.op 20 (.op 21 (.op 22 (.test 22 (.skip 23 (.skip 24 (.skip 25 (.op 26 .done)))) (.op 23 (.op 24 (.op 25 (.op 26 .done)))))))))))))))))))))))))))))))) (.cond (.seq (.reg (.op 0 .done)) .nop) .nop)))) (.reg (.op 0 (.op 1 .done))))))))) (.seq (.reg (.op 0 .done)) .nop)))

theorem bodkinref22_Right.ok : okC Try.f28.ntmps bodkinref22_Right.sc (bodyOf Try.f28) = true := by kernel_rfl

theorem bodkinref22_Right.eq {K : K1} {l0 : Value} {w : World} : bodkinref22_Right K l0 w = codeS Try.prog bodkinref22_Right.sc (bodyOf Try.f28) (argsF 0 [l0]) w (retQ Try.prog Try.f28.results.toList K) := by kernel_rfl

theorem bodkinref22_Right.call {K : K1} {l0 : Value} {w : World} (h : bodkinref22_Right K l0 w) : sCall Try.prog 28 [l0] w K := sCall_code mixed Try.func28 (by kernel_rfl) rfl rfl bodkinref22_Right.ok bodkinref22_Right.eq h

abbrev bodkinref22_Right.n : Nat := 28

/-- 'bodkin bodkinlaw22.refs' -/
def bodkinlaw22_refs_L1 (K : K1) (Nx1 : List Value → World → Prop) (l0 x7 : Value) (out3 x8 : Value) (w : World) : Prop :=
  sBin Try.prog .lss 3 false false x8 x7 w fun x9 w =>
  sIf x9 (
    sIdxA Try.prog 55 l0 x8 w fun x10 w =>
    sLoad Try.prog 69 x10 w fun x11 w =>
    sAlloc Try.prog 69 w fun x5 w =>
    sStore Try.prog 69 x5 x11 w fun w =>
    sFldA Try.prog 69 x5 0 w fun x13 w =>
    sLoad Try.prog 3 x13 w fun x14 w =>
    sFldA Try.prog 69 x5 1 w fun x15 w =>
    sLoad Try.prog 3 x15 w fun x16 w =>
    sFldA Try.prog 69 x5 2 w fun x17 w =>
    sLoad Try.prog 3 x17 w fun x18 w =>
    sFldA Try.prog 69 x5 3 w fun x19 w =>
    sLoad Try.prog 3 x19 w fun x20 w =>
    sBuild Try.prog 60 [(0, x14), (1, x16), (2, x18), (3, x20)] w fun x21 w =>
    sBuildSlice Try.prog 57 1 [(0, x21)] w fun x22 w =>
    sBuiltin Try.prog .append [57, 57] 57 [out3, x22] w fun x23 w =>
    sBin Try.prog .add 3 false true x8 (.int .i64 1) w fun x24 w =>
    Nx1 [x23, x24] w) (
    K out3 w)

def bodkinlaw22_refs (K : K1) (l0 : Value) (w : World) : Prop :=
  sBuiltin Try.prog .len [55] 3 [l0] w fun x7 w =>
  LoopS [(.slice none 0 0), (.int .i64 0)] 2 17 w fun us _ w Nx1 =>
    bodkinlaw22_refs_L1 K Nx1 l0 x7 (hd us) (hd (tl us)) w

def bodkinlaw22_refs.sc : SC := (.seq (.reg (.op 0 .done)) (.seq (.reg (.op 0 .done)) (.seq (.seq (.reg (.op 0 (.op 1 (.op 2 .done)))) (.sub (.loop [3, 8] [9, 10, 11, 5, 12, 13, 14, 15, 16, 17, 18, 19, 20, 21, 22, 23, 24] (.seq (.reg (.op 0 .done)) (.seq (.cond .nop .nop) (.seq (.sub (.seq (.reg (.op 0 (.op 1 (.op 2 (.op 3 .done))))) (.reg (.op 0 (.op 1 (.op 2 (.op 3 (.op 4 (.op 5 (.op 6 (.op 7 (.op 8 (.op 9 (.op 10 (.op 11 (.op 12 .done)))))))))))))))) (.reg (.op 0 (.op 1 .done))))))))) (.seq (.reg (.op 0 (.op 1 .done))) .nop))))

theorem bodkinlaw22_refs.ok : okC Try.f29.ntmps bodkinlaw22_refs.sc (bodyOf Try.f29) = true := by kernel_rfl

theorem bodkinlaw22_refs.eq {K : K1} {l0 : Value} {w : World} : bodkinlaw22_refs K l0 w = codeS Try.prog bodkinlaw22_refs.sc (bodyOf Try.f29) (argsF 0 [l0]) w (retQ Try.prog Try.f29.results.toList K) := by kernel_rfl

theorem bodkinlaw22_refs.call {K : K1} {l0 : Value} {w : World} (h : bodkinlaw22_refs K l0 w) : sCall Try.prog 29 [l0] w K := sCall_code mixed Try.func29 (by kernel_rfl) rfl rfl bodkinlaw22_refs.ok bodkinlaw22_refs.eq h

abbrev bodkinlaw22_refs.n : Nat := 29

/-- 'bodkin bodkinref22.Sum' -/
def bodkinref22_Sum_L1 (K : K1) (Nx1 : List Value → World → Prop) (l0 s3 x2 x8 : Value) (x9 : Value) (w : World) : Prop :=
  sBin Try.prog .lss 3 false false x9 x8 w fun x10 w =>
  sIf x10 (
    sIdxA Try.prog 57 l0 x9 w fun x11 w =>
    sLoad Try.prog 60 x11 w fun x12 w =>
    sAlloc Try.prog 60 w fun x5 w =>
    sStore Try.prog 60 x5 x12 w fun w =>
    sFldA Try.prog 60 s3 0 w fun x13 w =>
    sLoad Try.prog 3 x13 w fun x14 w =>
    sFldA Try.prog 60 x5 0 w fun x15 w =>
    sLoad Try.prog 3 x15 w fun x16 w =>
    sBin Try.prog .add 3 false false x14 x16 w fun x17 w =>
    sFldA Try.prog 60 s3 0 w fun x18 w =>
    sStore Try.prog 3 x18 x17 w fun w =>
    sFldA Try.prog 60 s3 1 w fun x19 w =>
    sLoad Try.prog 3 x19 w fun x20 w =>
    sFldA Try.prog 60 x5 1 w fun x21 w =>
    sLoad Try.prog 3 x21 w fun x22 w =>
    sBin Try.prog .add 3 false false x20 x22 w fun x23 w =>
    sFldA Try.prog 60 s3 1 w fun x24 w =>
    sStore Try.prog 3 x24 x23 w fun w =>
    sFldA Try.prog 60 s3 2 w fun x25 w =>
    sLoad Try.prog 3 x25 w fun x26 w =>
    sFldA Try.prog 60 x5 2 w fun x27 w =>
    sLoad Try.prog 3 x27 w fun x28 w =>
    sBin Try.prog .add 3 false false x26 x28 w fun x29 w =>
    sFldA Try.prog 60 s3 2 w fun x30 w =>
    sStore Try.prog 3 x30 x29 w fun w =>
    sFldA Try.prog 60 x5 3 w fun x31 w =>
    sLoad Try.prog 3 x31 w fun x32 w =>
    sFldA Try.prog 60 s3 3 w fun x33 w =>
    sLoad Try.prog 3 x33 w fun x34 w =>
    sBin Try.prog .gtr 3 false false x32 x34 w fun x35 w =>
    sIf x35 (
      sFldA Try.prog 60 x5 3 w fun x36 w =>
      sLoad Try.prog 3 x36 w fun x37 w =>
      sFldA Try.prog 60 s3 3 w fun x38 w =>
      sStore Try.prog 3 x38 x37 w fun w =>
      sBin Try.prog .add 3 false true x9 (.int .i64 1) w fun x39 w =>
      Nx1 [x39] w) (
      sBin Try.prog .add 3 false true x9 (.int .i64 1) w fun x39_1 w =>
      Nx1 [x39_1] w)) (
    sLoad Try.prog 60 s3 w fun x40 w =>
    sStore Try.prog 60 x2 x40 w fun w =>
    sLoad Try.prog 60 x2 w fun v w' => w' = w ∧ K v w)

def bodkinref22_Sum (K : K1) (l0 : Value) (w : World) : Prop :=
  sAlloc Try.prog 60 w fun x2 w =>
  sBuild Try.prog 60 [] w fun x6 w =>
  sAlloc Try.prog 60 w fun s3 w =>
  sStore Try.prog 60 s3 x6 w fun w =>
  sBuiltin Try.prog .len [57] 3 [l0] w fun x8 w =>
  LoopS [(.int .i64 0)] 1 31 w fun us _ w Nx1 =>
    bodkinref22_Sum_L1 K Nx1 l0 s3 x2 x8 (hd us) w

def bodkinref22_Sum.sc : SC := (.seq (.reg (.op 0 .done)) (.seq (.reg (.op 0 (.op 1 (.op 2 .done)))) (.seq (.seq (.reg (.op 0 (.op 1 (.op 2 .done)))) (.sub (.loop [9] [10, 11, 12, 5, 13, 14, 15, 16, 17, 18, 19, 20, 21, 22, 23, 24, 25, 26, 27, 28, 29, 30, 31, 32, 33, 34, 35, 36, 37, 38, 39] (.seq (.reg (.op 0 .done)) (.seq (.cond .nop .nop) (.seq (.sub (.seq (.reg (.op 0 (.op 1 (.op 2 (.op 3 .done))))) (.seq (.reg (.op 0 (.op 1 (.op 2 (.op 3 (.op 4 (.op 5 (.op 6 .done)))))))) (.seq (.reg (.op 0 (.op 1 (.op 2 (.op 3 (.op 4 (.op 5 (.op 6 .done)))))))) (.seq (.reg (.op 0 (.op 1 (.op 2 (.op 3 (.op 4 (.op 5 (.op 6 .done)))))))) (.seq (.reg (.op 0 (.op 1 (.op 2 (.op 3 (.op 4 .done)))))) (.cond (.reg (.op 0 (.op 1 (.op 2 (.op 3 .done))))) .nop))))))) (.reg (.op 0 (.op 1 .done))))))))) (.seq (.reg (.op 0 (.op 1 .done))) .nop))))

theorem bodkinref22_Sum.ok : okC Try.f30.ntmps bodkinref22_Sum.sc (bodyOf Try.f30) = true := by kernel_rfl

theorem bodkinref22_Sum.eq {K : K1} {l0 : Value} {w : World} : bodkinref22_Sum K l0 w = codeS Try.prog bodkinref22_Sum.sc (bodyOf Try.f30) (argsF 0 [l0]) w (retQ Try.prog Try.f30.results.toList K) := by kernel_rfl

theorem bodkinref22_Sum.call {K : K1} {l0 : Value} {w : World} (h : bodkinref22_Sum K l0 w) : sCall Try.prog 30 [l0] w K := sCall_code mixed Try.func30 (by kernel_rfl) rfl rfl bodkinref22_Sum.ok bodkinref22_Sum.eq h

abbrev bodkinref22_Sum.n : Nat := 30

/-- 'bodkin bodkinlaw22.six' -/
def bodkinlaw22_six (K : K1) (w : World) : Prop :=
  sBuild Try.prog 69 [(2, (.int .i64 3)), (3, (.int .i64 4))] w fun x8 w =>
  sBuild Try.prog 69 [(2, (.int .i64 1)), (3, (.int .i64 5))] w fun x9 w =>
  sBuild Try.prog 69 [(2, (.int .i64 2)), (3, (.int .i64 5))] w fun x10 w =>
  sBuildSlice Try.prog 55 3 [(0, x8), (1, x9), (2, x10)] w fun x11 w =>
  sCall Try.prog 32 [x11] w fun x12 w =>
  sExtract x12 0 w fun x13 w =>
  sExtract x12 1 w fun x14 w =>
  sCall Try.prog 33 [x13, (.int .i64 4)] w fun x17 w =>
  sExtract x17 0 w fun x18 w =>
  sExtract x17 1 w fun x19 w =>
  sAlloc Try.prog 66 w fun s3 w =>
  sStore Try.prog 66 s3 x18 w fun w =>
  sCall Try.prog 72 [x13] w fun x22 w =>
  sExtract x22 0 w fun x23 w =>
  sExtract x22 1 w fun x24 w =>
  sBin Try.prog .eql 27 false true x14 (.int .i64 0) w fun x26 w =>
  sIf x26 (
    sBin Try.prog .eql 27 false true x19 (.int .i64 0) w fun x29 w =>
    sIf x29 (
      sLoad Try.prog 66 s3 w fun x32 w =>
      sBuild Try.prog 66 [(0, (.int .i64 2)), (2, (.int .i64 4))] w fun x33 w =>
      sBin Try.prog .eql 66 false false x32 x33 w fun x34 w =>
      sIf x34 (
        sBin Try.prog .eql 3 false true x23 (.int .i64 1) w fun x38 w =>
        sIf x38 (
          sBin Try.prog .eql 3 false true x24 (.int .i64 5) w fun x42 w =>
          sIf x42 (
            sCall Try.prog 73 [x13] w fun x46 w =>
            sBin Try.prog .eql 3 false true x46 (.int .i64 3) w fun x47 w =>
            sIf x47 (
              sCall Try.prog 74 [x13] w fun x51 w =>
              sBin Try.prog .eql 3 false true x51 (.int .i64 1) w fun x52 w =>
              K x52 w) (
              K (.bool false) w)) (
            K (.bool false) w)) (
          K (.bool false) w)) (
        K (.bool false) w)) (
      K (.bool false) w)) (
    K (.bool false) w)

def bodkinlaw22_six.sc : SC := (.seq (.reg (.op 0 .done)) (.seq (.reg (.op 0 (.op 1 (.op 2 (.op 3 (.op 4 (.op 5 (.op 6 (.op 7 (.op 8 (.op 9 .done))))))))))) (.seq (.reg (.op 0 (.op 1 (.op 2 (.op 3 (.op 4 (.op 5 (.op 6 (.op 7 .done))))))))) (.seq (.reg (.op 0 (.op 1 (.op 2 (.op 3 (.op 4 (.op 5 (.op 6 .done)))))))) (.seq (.reg (.op 0 (.op 1 (.op 2 (.test 2 (.op 3 (.op 4 (.op 5 (.op 6 (.test 6 (.op 7 (.op 8 (.op 9 (.op 10 (.op 11 (.test 11 (.op 12 (.op 13 (.op 14 (.op 15 (.test 15 (.op 16 (.op 17 (.op 18 (.op 19 (.test 19 (.op 20 (.op 21 (.op 22 (.op 23 (.op 24 (.test 24 (.op 25 (.op 26 (.op 27 (.op 28 (.op 29 .done))))) (.skip 25 (.skip 26 (.skip 27 (.op 28 (.op 29 .done))))))))))) (.skip 20 (.skip 21 (.skip 22 (.op 23 (.op 24 (.know 24 false (.skip 25 (.skip 26 (.skip 27 (.op 28 (.op 29 .done)))))))))))))))) (.skip 16 (.skip 17 (.op 18 (.op 19 (.know 19 false (.skip 20 (.skip 21 (.skip 22 (.op 23 (.op 24 (.know 24 false (.skip 25 (.skip 26 (.skip 27 (.op 28 (.op 29 .done))))))))))))))))))))) (.skip 12 (.skip 13 (.op 14 (.op 15 (.know 15 false (.skip 16 (.skip 17 (.op 18 (.op 19 (.know 19 false (.skip 20 (.skip 21 (.skip 22 (.op 23 (.op 24 (.know 24 false (.skip 25 (.skip 26 (.skip 27 (.op 28 (.op 29 .done))))))))))))))))))))))))))) (.skip 7 (.skip 8 (.skip 9 (.op 10 (.op 11 (.know 11 false (.skip 12 (.skip 13 (.op 14 (.op 15 (.know 15 false (.skip 16 (.skip 17 (.op 18 (.op 19 (.know 19 false (.skip 20 (.skip 21 (.skip 22 (.op 23 (.op 24 (.know 24 false (.skip 25 (.skip 26 (.skip 27 (.op 28 (.op 29 .done)))))))))))))))))))))))))))))))) (.skip 3 (.skip 4 (.op 5 (.op 6 (.know 6 false (.skip 7 (.skip 8 (.skip 9 (.op 10 (.op 11 (.know 11 false (.skip 12 (.skip 13 (.op 14 (.op 15 (.know 15 false (.skip 16 (.skip 17 (.op 18 (.op 19 (.know 19 false (.skip 20 (.skip 21 (.skip 22 (.op 23 (.op 24 (.know 24 false (.skip 25 (.skip 26 (.skip 27 (.op 28 (.op 29 .done))))))))))))))))))))))))))))))))))))) .nop)))))

theorem bodkinlaw22_six.ok : okC Try.f31.ntmps bodkinlaw22_six.sc (bodyOf Try.f31) = true := by kernel_rfl

theorem bodkinlaw22_six.eq {K : K1} {w : World} : bodkinlaw22_six K  w = codeS Try.prog bodkinlaw22_six.sc (bodyOf Try.f31) (argsF 0 []) w (retQ Try.prog Try.f31.results.toList K) := by kernel_rfl

theorem bodkinlaw22_six.call {K : K1} {w : World} (h : bodkinlaw22_six K  w) : sCall Try.prog 31 [] w K := sCall_code mixed Try.func31 (by kernel_rfl) rfl rfl bodkinlaw22_six.ok bodkinlaw22_six.eq h

abbrev bodkinlaw22_six.n : Nat := 31

/-- 'bodkin flow.New' -/
def flow_New (K : K1) (l0 : Value) (w : World) : Prop :=
  sCall Try.prog 75 [l0] w fun x10 w =>
  sExtract x10 0 w fun x11 w =>
  sExtract x10 1 w fun x12 w =>
  sCall Try.prog 18 [x11] w fun x15 w =>
  sExtract x15 0 w fun x16 w =>
  sExtract x15 1 w fun x17 w =>
  sCall Try.prog 76 [x16, x17, x12] w fun x21 w =>
  sExtract x21 0 w fun x22 w =>
  sExtract x21 1 w fun x23 w =>
  K (.tuple #[x22, x23]) w

def flow_New.sc : SC := (.seq (.reg (.op 0 (.op 1 .done))) (.seq (.reg (.op 0 (.op 1 (.op 2 (.op 3 (.op 4 (.op 5 (.op 6 .done)))))))) (.seq (.reg (.op 0 (.op 1 (.op 2 (.op 3 (.op 4 (.op 5 (.op 6 .done)))))))) (.seq (.reg (.op 0 (.op 1 (.op 2 (.op 3 (.op 4 (.op 5 (.op 6 (.op 7 .done))))))))) .nop))))

theorem flow_New.ok : okC Try.f32.ntmps flow_New.sc (bodyOf Try.f32) = true := by kernel_rfl

theorem flow_New.eq {K : K1} {l0 : Value} {w : World} : flow_New K l0 w = codeS Try.prog flow_New.sc (bodyOf Try.f32) (argsF 0 [l0]) w (retQ Try.prog Try.f32.results.toList K) := by kernel_rfl

theorem flow_New.call {K : K1} {l0 : Value} {w : World} (h : flow_New K l0 w) : sCall Try.prog 32 [l0] w K := sCall_code mixed Try.func32 (by kernel_rfl) rfl rfl flow_New.ok flow_New.eq h

abbrev flow_New.n : Nat := 32

/-- '(*bodkin flow.Flow).ByRow' -/
def flow_Flow_ByRow (K : K1) (f0 row1 : Value) (w : World) : Prop :=
  sAlloc Try.prog 66 w fun x4 w =>
  sCall Try.prog 77 [f0] w fun x8 w =>
  sFld Try.prog 69 x8 2 w fun x9 w =>
  sBin Try.prog .geq 3 false false row1 x9 w fun x10 w =>
  sIf x10 (
    sBuild Try.prog 66 [] w fun x11 w =>
    sStore Try.prog 66 x4 x11 w fun w =>
    sLoad Try.prog 66 x4 w fun v w' => w' = w ∧ K (.tuple #[v, (.int .i64 1)]) w) (
    sCall Try.prog 79 [f0] w fun x13 w =>
    sFunc Try.prog (.func 19) [x13] [] w fun x14 w =>
    sCall Try.prog 78 [x14, (.int .i64 2), row1] w fun x16 w =>
    sExtract x16 0 w fun x17 w =>
    sExtract x16 1 w fun x18 w =>
    sStore Try.prog 66 x4 x17 w fun w =>
    sLoad Try.prog 66 x4 w fun v w' => w' = w ∧ K (.tuple #[v, x18]) w)

def flow_Flow_ByRow.sc : SC := (.seq (.reg (.op 0 (.op 1 .done))) (.seq (.seq (.reg (.op 0 (.op 1 (.op 2 (.op 3 (.op 4 .done)))))) (.cond (.seq (.reg (.op 0 (.op 1 (.op 2 .done)))) .nop) .nop)) (.seq (.reg (.op 0 (.op 1 (.op 2 (.op 3 (.op 4 (.op 5 (.op 6 (.op 7 (.op 8 .done)))))))))) .nop)))

theorem flow_Flow_ByRow.ok : okC Try.f33.ntmps flow_Flow_ByRow.sc (bodyOf Try.f33) = true := by kernel_rfl

theorem flow_Flow_ByRow.eq {K : K1} {f0 row1 : Value} {w : World} : flow_Flow_ByRow K f0 row1 w = codeS Try.prog flow_Flow_ByRow.sc (bodyOf Try.f33) (argsF 0 [f0, row1]) w (retQ Try.prog Try.f33.results.toList K) := by kernel_rfl

theorem flow_Flow_ByRow.call {K : K1} {f0 row1 : Value} {w : World} (h : flow_Flow_ByRow K f0 row1 w) : sCall Try.prog 33 [f0, row1] w K := sCall_code mixed Try.func33 (by kernel_rfl) rfl rfl flow_Flow_ByRow.ok flow_Flow_ByRow.eq h

abbrev flow_Flow_ByRow.n : Nat := 33

/-- '(*bodkin tree.Tree).Slice' -/
def tree_Tree_Slice (K : K1) (t0 from1 to2 : Value) (w : World) : Prop :=
  sBin Try.prog .lss 3 false true from1 (.int .i64 0) w fun x11 w =>
  sIf x11 (
    K (.tuple #[(.pointer none), (.int .i64 1)]) w) (
    sBin Try.prog .lss 3 false false to2 from1 w fun x15 w =>
    sIf x15 (
      K (.tuple #[(.pointer none), (.int .i64 1)]) w) (
      sCall Try.prog 42 [t0] w fun x20 w =>
      sFld Try.prog 32 x20 0 w fun x21 w =>
      sBin Try.prog .gtr 3 false false to2 x21 w fun x22 w =>
      sIf x22 (
        K (.tuple #[(.pointer none), (.int .i64 1)]) w) (
        sCall Try.prog 62 [t0] w fun x26 w =>
        sCall Try.prog 80 [x26, from1] w fun x28 w =>
        sExtract x28 0 w fun x29 w =>
        sExtract x28 1 w fun x30 w =>
        sBin Try.prog .sub 3 false false to2 from1 w fun x35 w =>
        sCall Try.prog 80 [x30, x35] w fun x36 w =>
        sExtract x36 0 w fun x37 w =>
        sExtract x36 1 w fun x38 w =>
        sBuild Try.prog 113 [(0, x37)] w fun x40 w =>
        sBox Try.prog 113 x40 w fun x41 w =>
        K (.tuple #[x41, (.int .i64 0)]) w)))

def tree_Tree_Slice.sc : SC := (.seq (.reg (.op 0 (.op 1 .done))) (.seq (.seq (.reg (.op 0 (.op 1 (.op 2 (.test 2 (.skip 3 (.skip 4 (.skip 5 (.op 6 (.op 7 (.know 7 true (.skip 8 (.skip 9 (.skip 10 (.skip 11 (.skip 12 (.op 13 .done)))))))))))) (.op 3 (.op 4 (.op 5 (.op 6 (.op 7 (.test 7 (.skip 8 (.skip 9 (.skip 10 (.skip 11 (.skip 12 (.op 13 .done)))))) (.op 8 (.op 9 (.op 10 (.op 11 (.op 12 (.op 13 .done))))))))))))))))) (.cond (.seq (.reg (.op 0 (.op 1 .done))) .nop) .nop)) (.seq (.reg (.op 0 (.op 1 (.op 2 (.op 3 (.op 4 (.op 5 (.op 6 (.op 7 (.op 8 .done)))))))))) (.seq (.reg (.op 0 (.op 1 (.op 2 (.op 3 (.op 4 (.op 5 (.op 6 (.op 7 (.op 8 .done)))))))))) (.seq (.reg (.op 0 (.op 1 (.op 2 (.op 3 (.op 4 .done)))))) .nop)))))

theorem tree_Tree_Slice.ok : okC Try.f34.ntmps tree_Tree_Slice.sc (bodyOf Try.f34) = true := by kernel_rfl

theorem tree_Tree_Slice.eq {K : K1} {t0 from1 to2 : Value} {w : World} : tree_Tree_Slice K t0 from1 to2 w = codeS Try.prog tree_Tree_Slice.sc (bodyOf Try.f34) (argsF 0 [t0, from1, to2]) w (retQ Try.prog Try.f34.results.toList K) := by kernel_rfl

theorem tree_Tree_Slice.call {K : K1} {t0 from1 to2 : Value} {w : World} (h : tree_Tree_Slice K t0 from1 to2 w) : sCall Try.prog 34 [t0, from1, to2] w K := sCall_code mixed Try.func34 (by kernel_rfl) rfl rfl tree_Tree_Slice.ok tree_Tree_Slice.eq h

abbrev tree_Tree_Slice.n : Nat := 34

/-- 'bodkin bodkinlaw06.right' -/
def bodkinlaw06_right_L1 (K : K1) (Nx1 : List Value → World → Prop) (l0 x9 : Value) (x10 : Value) (w : World) : Prop :=
  sBin Try.prog .lss 3 false false x10 x9 w fun x11 w =>
  sIf x11 (
    sIdxA Try.prog 22 l0 x10 w fun x12 w =>
    sLoad Try.prog 51 x12 w fun x13 w =>
    sAlloc Try.prog 51 w fun i4 w =>
    sStore Try.prog 51 i4 x13 w fun w =>
    sLoad Try.prog 51 i4 w fun x14 w =>
    sCall Try.prog 81 [x14] w fun x15 w =>
    sCall Try.prog 55 [x15] w fun x16 w =>
    sUn Try.prog .not x16 w fun x17 w =>
    sIf x17 (
      K (.bool false) w) (
      sBin Try.prog .add 3 false true x10 (.int .i64 1) w fun x18 w =>
      Nx1 [x18] w)) (
    K (.bool true) w)

def bodkinlaw06_right (K : K1) (l0 : Value) (w : World) : Prop :=
  sBuiltin Try.prog .len [22] 3 [l0] w fun x6 w =>
  sBin Try.prog .gtr 3 false true x6 (.int .i64 300) w fun x7 w =>
  sIf x7 (
    K (.bool false) w) (
    sBuiltin Try.prog .len [22] 3 [l0] w fun x9 w =>
    LoopS [(.int .i64 0)] 1 10 w fun us _ w Nx1 =>
      bodkinlaw06_right_L1 K Nx1 l0 x9 (hd us) w)

def bodkinlaw06_right.sc : SC := (.seq (.reg (.op 0 .done)) (.seq (.seq (.reg (.op 0 (.op 1 (.op 2 .done)))) (.cond (.seq (.reg (.op 0 .done)) .nop) .nop)) (.seq (.seq (.reg (.op 0 (.op 1 (.op 2 .done)))) (.sub (.loop [10] [11, 12, 13, 4, 14, 15, 16, 17, 2, 18] (.seq (.reg (.op 0 .done)) (.seq (.cond .nop .nop) (.seq (.sub (.seq (.reg (.op 0 (.op 1 (.op 2 (.op 3 .done))))) (.seq (.reg (.op 0 (.op 1 (.op 2 (.op 3 .done))))) (.cond (.seq (.reg (.op 0 .done)) .nop) .nop)))) (.reg (.op 0 (.op 1 .done))))))))) (.seq (.reg (.op 0 .done)) .nop))))

theorem bodkinlaw06_right.ok : okC Try.f35.ntmps bodkinlaw06_right.sc (bodyOf Try.f35) = true := by kernel_rfl

theorem bodkinlaw06_right.eq {K : K1} {l0 : Value} {w : World} : bodkinlaw06_right K l0 w = codeS Try.prog bodkinlaw06_right.sc (bodyOf Try.f35) (argsF 0 [l0]) w (retQ Try.prog Try.f35.results.toList K) := by kernel_rfl

theorem bodkinlaw06_right.call {K : K1} {l0 : Value} {w : World} (h : bodkinlaw06_right K l0 w) : sCall Try.prog 35 [l0] w K := sCall_code mixed Try.func35 (by kernel_rfl) rfl rfl bodkinlaw06_right.ok bodkinlaw06_right.eq h

abbrev bodkinlaw06_right.n : Nat := 35

/-- 'bodkin bodkinlaw06.third' -/
def bodkinlaw06_third (K : K1) (w : World) : Prop :=
  sBuild Try.prog 30 [(0, (.int .i64 1)), (1, (.int .i64 0)), (2, (.int .i64 0))] w fun x9 w =>
  sBuild Try.prog 51 [(2, x9)] w fun x10 w =>
  sBuild Try.prog 30 [(0, (.int .i64 2)), (1, (.int .i64 0)), (2, (.int .i64 0))] w fun x11 w =>
  sBuild Try.prog 51 [(2, x11)] w fun x12 w =>
  sBuild Try.prog 30 [(0, (.int .i64 3)), (1, (.int .i64 0)), (2, (.int .i64 0))] w fun x13 w =>
  sBuild Try.prog 51 [(1, (.int .i64 7)), (2, x13)] w fun x14 w =>
  sBuildSlice Try.prog 22 3 [(0, x10), (1, x12), (2, x14)] w fun x15 w =>
  sCall Try.prog 18 [x15] w fun x16 w =>
  sExtract x16 0 w fun x17 w =>
  sExtract x16 1 w fun x18 w =>
  sCall Try.prog 37 [x17] w fun x20 w =>
  sCall Try.prog 46 [x20, (.int .i64 0), (.int .i64 1), (.int .i64 1)] w fun x22 w =>
  sCall Try.prog 48 [x20, (.int .i64 0), (.int .i64 3)] w fun x24 w =>
  sCall Try.prog 38 [x20] w fun x27 w =>
  sExtract x27 0 w fun x28 w =>
  sExtract x27 1 w fun x29 w =>
  sAlloc Try.prog 51 w fun i6 w =>
  sStore Try.prog 51 i6 x28 w fun w =>
  sBin Try.prog .eql 27 false true x18 (.int .i64 0) w fun x31 w =>
  sIf x31 (
    sBin Try.prog .eql 27 false true x22 (.int .i64 0) w fun x34 w =>
    sIf x34 (
      sBuiltin Try.prog .len [22] 3 [x24] w fun x38 w =>
      sBin Try.prog .eql 3 false true x38 (.int .i64 1) w fun x39 w =>
      sIf x39 (
        sIf x29 (
          sFldA Try.prog 51 i6 1 w fun x45 w =>
          sLoad Try.prog 3 x45 w fun x46 w =>
          sBin Try.prog .eql 3 false true x46 (.int .i64 7) w fun x47 w =>
          sIf x47 (
            sCall Try.prog 39 [x20] w fun x51 w =>
            sFld Try.prog 32 x51 1 w fun x52 w =>
            sIdx Try.prog 30 x52 (.int .i64 0) w fun x53 w =>
            sBin Try.prog .eql 3 false true x53 (.int .i64 3) w fun x54 w =>
            sIf x54 (
              sCall Try.prog 40 [x20] w fun x58 w =>
              sFld Try.prog 32 x58 1 w fun x59 w =>
              sIdx Try.prog 30 x59 (.int .i64 0) w fun x60 w =>
              sBin Try.prog .eql 3 false true x60 (.int .i64 6) w fun x61 w =>
              K x61 w) (
              K (.bool false) w)) (
            K (.bool false) w)) (
          K (.bool false) w)) (
        K (.bool false) w)) (
      K (.bool false) w)) (
    K (.bool false) w)

def bodkinlaw06_third.sc : SC := (.seq (.reg (.op 0 .done)) (.seq (.reg (.op 0 (.op 1 (.op 2 (.op 3 (.op 4 (.op 5 (.op 6 (.op 7 (.op 8 (.op 9 (.op 10 (.op 11 (.op 12 .done)))))))))))))) (.seq (.reg (.op 0 (.op 1 (.op 2 .done)))) (.seq (.reg (.op 0 (.op 1 (.op 2 .done)))) (.seq (.reg (.op 0 (.op 1 (.op 2 .done)))) (.seq (.reg (.op 0 (.op 1 (.op 2 (.op 3 (.op 4 (.op 5 (.op 6 (.op 7 .done))))))))) (.seq (.reg (.op 0 (.op 1 (.op 2 (.test 2 (.op 3 (.op 4 (.op 5 (.op 6 (.test 6 (.op 7 (.op 8 (.op 9 (.op 10 (.op 11 (.test 11 (.op 12 (.op 13 (.op 14 (.test 14 (.op 15 (.op 16 (.op 17 (.op 18 (.op 19 (.test 19 (.op 20 (.op 21 (.op 22 (.op 23 (.op 24 (.op 25 (.op 26 (.test 26 (.op 27 (.op 28 (.op 29 (.op 30 (.op 31 (.op 32 (.op 33 .done))))))) (.skip 27 (.skip 28 (.skip 29 (.skip 30 (.skip 31 (.op 32 (.op 33 .done))))))))))))))) (.skip 20 (.skip 21 (.skip 22 (.skip 23 (.skip 24 (.op 25 (.op 26 (.know 26 false (.skip 27 (.skip 28 (.skip 29 (.skip 30 (.skip 31 (.op 32 (.op 33 .done))))))))))))))))))))) (.skip 15 (.skip 16 (.skip 17 (.op 18 (.op 19 (.know 19 false (.skip 20 (.skip 21 (.skip 22 (.skip 23 (.skip 24 (.op 25 (.op 26 (.know 26 false (.skip 27 (.skip 28 (.skip 29 (.skip 30 (.skip 31 (.op 32 (.op 33 .done))))))))))))))))))))))))) (.skip 12 (.op 13 (.op 14 (.know 14 false (.skip 15 (.skip 16 (.skip 17 (.op 18 (.op 19 (.know 19 false (.skip 20 (.skip 21 (.skip 22 (.skip 23 (.skip 24 (.op 25 (.op 26 (.know 26 false (.skip 27 (.skip 28 (.skip 29 (.skip 30 (.skip 31 (.op 32 (.op 33 .done))))))))))))))))))))))))))))))) (.skip 7 (.skip 8 (.skip 9 (.op 10 (.op 11 (.know 11 false (.skip 12 (.op 13 (.op 14 (.know 14 false (.skip 15 (.skip 16 (.skip 17 (.op 18 (.op 19 (.know 19 false (.skip 20 (.skip 21 (.skip 22 (.skip 23 (.skip 24 (.op 25 (.op 26 (.know 26 false (.skip 27 (.skip 28 (.skip 29 (.skip 30 (.skip 31 (.op 32 (.op 33 .done)))))))))))))))))))))))))))))))))))) (.skip 3 (.skip 4 (.op 5 (.op 6 (.know 6 false (.skip 7 (.skip 8 (.skip 9 (.op 10 (.op 11 (.know 11 false (.skip 12 (.op 13 (.op 14 (.know 14 false (.skip 15 (.skip 16 (.skip 17 (.op 18 (.op 19 (.know 19 false (.skip 20 (.skip 21 (.skip 22 (.skip 23 (.skip 24 (.op 25 (.op 26 (.know 26 false (.skip 27 (.skip 28 (.skip 29 (.skip 30 (.skip 31 (.op 32 (.op 33 .done))))))))))))))))))))))))))))))))))))))))) .nop)))))))

theorem bodkinlaw06_third.ok : okC Try.f36.ntmps bodkinlaw06_third.sc (bodyOf Try.f36) = true := by kernel_rfl

theorem bodkinlaw06_third.eq {K : K1} {w : World} : bodkinlaw06_third K  w = codeS Try.prog bodkinlaw06_third.sc (bodyOf Try.f36) (argsF 0 []) w (retQ Try.prog Try.f36.results.toList K) := by kernel_rfl

theorem bodkinlaw06_third.call {K : K1} {w : World} (h : bodkinlaw06_third K  w) : sCall Try.prog 36 [] w K := sCall_code mixed Try.func36 (by kernel_rfl) rfl rfl bodkinlaw06_third.ok bodkinlaw06_third.eq h

abbrev bodkinlaw06_third.n : Nat := 36

/-- 'bodkin seek.New' -/
def seek_New (K : K1) (t0 : Value) (w : World) : Prop :=
  sBuild Try.prog 143 [(0, t0)] w fun x4 w =>
  sBox Try.prog 143 x4 w fun x5 w =>
  K x5 w

def seek_New.sc : SC := (.seq (.reg (.op 0 .done)) (.seq (.reg (.op 0 (.op 1 (.op 2 (.op 3 .done))))) .nop))

theorem seek_New.ok : okC Try.f37.ntmps seek_New.sc (bodyOf Try.f37) = true := by kernel_rfl

theorem seek_New.eq {K : K1} {t0 : Value} {w : World} : seek_New K t0 w = codeS Try.prog seek_New.sc (bodyOf Try.f37) (argsF 0 [t0]) w (retQ Try.prog Try.f37.results.toList K) := by kernel_rfl

theorem seek_New.call {K : K1} {t0 : Value} {w : World} (h : seek_New K t0 w) : sCall Try.prog 37 [t0] w K := sCall_code mixed Try.func37 (by kernel_rfl) rfl rfl seek_New.ok seek_New.eq h

abbrev seek_New.n : Nat := 37

/-- '(*bodkin seek.Cursor).Item' -/
def seek_Cursor_Item_J1 (K : K1) (x2 : Value) (i4_2 e5 : Value) (w : World) : Prop :=
  sLoad Try.prog 51 i4_2 w fun x22 w =>
  sBin Try.prog .eql 27 false true e5 (.int .i64 0) w fun x24 w =>
  sStore Try.prog 51 x2 x22 w fun w =>
  sLoad Try.prog 51 x2 w fun v w' => w' = w ∧ K (.tuple #[v, x24]) w

def seek_Cursor_Item (K : K1) (c0 : Value) (w : World) : Prop :=
  sAlloc Try.prog 51 w fun x2 w =>
  sBin Try.prog .eql 73 false true c0 (.pointer none) w fun x7 w =>
  sIf x7 (
    sBuild Try.prog 51 [] w fun x8 w =>
    sStore Try.prog 51 x2 x8 w fun w =>
    sLoad Try.prog 51 x2 w fun v w' => w' = w ∧ K (.tuple #[v, (.bool false)]) w) (
    JoinS 2 13 (fun M1 =>
      DrawS w fun C w =>
      sNil c0 w fun x11 w =>
      stillS C w (fun w k => sFldA Try.prog 143 x11 0 w k) fun x12 =>
      stillS C w (fun w k => sLoad Try.prog 26 x12 w k) fun x13 =>
      sNil c0 w fun x15 w =>
      stillS C w (fun w k => sFldA Try.prog 143 x15 1 w k) fun x16 =>
      stillS C w (fun w k => sFldA Try.prog 34 x16 0 w k) fun x17 =>
      stillS C w (fun w k => sLoad Try.prog 3 x17 w k) fun x18 =>
      (
        sCall Try.prog 27 [x13, x18] w fun x19 w => C w ∧
        sExtract x19 0 w fun x20 w =>
        sExtract x19 1 w fun x21 w =>
        sAlloc Try.prog 51 w fun i4 w => C w ∧
        sStore Try.prog 51 i4 x20 w fun w => C w ∧
        M1 [i4, x21] w) ∧ (
        sAlloc Try.prog 51 w fun i4_1 w => C w ∧
        sCall Try.prog 27 [x13, x18] w fun x19_1 w => C w ∧
        sExtract x19_1 0 w fun x20_1 w =>
        sExtract x19_1 1 w fun x21_1 w =>
        sStore Try.prog 51 i4_1 x20_1 w fun w => C w ∧
        M1 [i4_1, x21_1] w)) fun us _ w =>
      seek_Cursor_Item_J1 K x2 (hd us) (hd (tl us)) w)

def seek_Cursor_Item.sc : SC := (.seq (.reg (.op 0 (.op 1 .done))) (.seq (.seq (.reg (.op 0 (.op 1 .done))) (.cond (.seq (.reg (.op 0 (.op 1 (.op 2 .done)))) .nop) .nop)) (.join [4, 5] [10, 11, 12, 13, 14, 15, 16, 17, 18, 19, 9, 20, 21] (.draw (.op 0 (.op 1 (.op 2 (.op 3 (.op 4 (.op 5 (.op 6 (.op 7 (.op 8 (.alt 9 (.op 10 (.op 11 (.op 12 (.op 13 (.op 14 (.op 15 .done)))))) 13 (.op 9 (.op 10 (.op 11 (.op 12 (.op 14 (.op 15 .done))))))))))))))))) (.seq (.reg (.op 0 (.op 1 (.op 2 (.op 3 (.op 4 .done)))))) .nop))))

theorem seek_Cursor_Item.ok : okC Try.f38.ntmps seek_Cursor_Item.sc (bodyOf Try.f38) = true := by kernel_rfl

theorem seek_Cursor_Item.eq {K : K1} {c0 : Value} {w : World} : seek_Cursor_Item K c0 w = codeS Try.prog seek_Cursor_Item.sc (bodyOf Try.f38) (argsF 0 [c0]) w (retQ Try.prog Try.f38.results.toList K) := by kernel_rfl

theorem seek_Cursor_Item.call {K : K1} {c0 : Value} {w : World} (h : seek_Cursor_Item K c0 w) : sCall Try.prog 38 [c0] w K := sCall_code mixed Try.func38 (by kernel_rfl) rfl rfl seek_Cursor_Item.ok seek_Cursor_Item.eq h

abbrev seek_Cursor_Item.n : Nat := 38

/-- '(*bodkin seek.Cursor).Start' -/
def seek_Cursor_Start (K : K1) (c0 : Value) (w : World) : Prop :=
  sAlloc Try.prog 32 w fun x2 w =>
  sBin Try.prog .eql 73 false true c0 (.pointer none) w fun x4 w =>
  sIf x4 (
    sBuild Try.prog 32 [] w fun x5 w =>
    sStore Try.prog 32 x2 x5 w fun w =>
    sLoad Try.prog 32 x2 w fun v w' => w' = w ∧ K v w) (
    sNil c0 w fun x7 w =>
    sFldA Try.prog 143 x7 1 w fun x8 w =>
    sFldA Try.prog 34 x8 1 w fun x9 w =>
    sLoad Try.prog 32 x9 w fun x10 w =>
    sStore Try.prog 32 x2 x10 w fun w =>
    sLoad Try.prog 32 x2 w fun v w' => w' = w ∧ K v w)

def seek_Cursor_Start.sc : SC := (.seq (.reg (.op 0 .done)) (.seq (.seq (.reg (.op 0 (.op 1 .done))) (.cond (.seq (.reg (.op 0 (.op 1 .done))) .nop) .nop)) (.seq (.reg (.op 0 (.op 1 (.op 2 (.op 3 (.op 4 (.op 5 .done))))))) .nop)))

theorem seek_Cursor_Start.ok : okC Try.f39.ntmps seek_Cursor_Start.sc (bodyOf Try.f39) = true := by kernel_rfl

theorem seek_Cursor_Start.eq {K : K1} {c0 : Value} {w : World} : seek_Cursor_Start K c0 w = codeS Try.prog seek_Cursor_Start.sc (bodyOf Try.f39) (argsF 0 [c0]) w (retQ Try.prog Try.f39.results.toList K) := by kernel_rfl

theorem seek_Cursor_Start.call {K : K1} {c0 : Value} {w : World} (h : seek_Cursor_Start K c0 w) : sCall Try.prog 39 [c0] w K := sCall_code mixed Try.func39 (by kernel_rfl) rfl rfl seek_Cursor_Start.ok seek_Cursor_Start.eq h

abbrev seek_Cursor_Start.n : Nat := 39

/-- '(*bodkin seek.Cursor).End' -/
def seek_Cursor_End (K : K1) (c0 : Value) (w : World) : Prop :=
  sAlloc Try.prog 32 w fun x2 w =>
  sCall Try.prog 38 [c0] w fun x7 w =>
  sExtract x7 0 w fun x8 w =>
  sExtract x7 1 w fun x9 w =>
  sAlloc Try.prog 51 w fun i3 w =>
  sStore Try.prog 51 i3 x8 w fun w =>
  sUn Try.prog .not x9 w fun x11 w =>
  sIf x11 (
    sCall Try.prog 39 [c0] w fun x13 w =>
    sStore Try.prog 32 x2 x13 w fun w =>
    sLoad Try.prog 32 x2 w fun v w' => w' = w ∧ K v w) (
    DrawS w fun C w =>
    stillS C w (fun w k => sLoad Try.prog 51 i3 w k) fun x16 =>
    sCall Try.prog 39 [c0] w fun x15 w => C w ∧
    sCall Try.prog 65 [x16] w fun x17 w =>
    sCall Try.prog 63 [x15, x17] w fun x18 w =>
    sStore Try.prog 32 x2 x18 w fun w =>
    sLoad Try.prog 32 x2 w fun v w' => w' = w ∧ K v w)

def seek_Cursor_End.sc : SC := (.seq (.reg (.op 0 .done)) (.seq (.reg (.op 0 (.op 1 (.op 2 (.op 3 (.op 4 (.op 5 (.op 6 (.op 7 .done))))))))) (.seq (.seq (.reg (.op 0 (.op 1 .done))) (.cond (.seq (.reg (.op 0 (.op 1 (.op 2 .done)))) .nop) .nop)) (.seq (.draw (.op 0 (.op 2 (.op 1 (.fin 3 (.fin 4 (.fin 5 .done))))))) .nop))))

theorem seek_Cursor_End.ok : okC Try.f40.ntmps seek_Cursor_End.sc (bodyOf Try.f40) = true := by kernel_rfl

theorem seek_Cursor_End.eq {K : K1} {c0 : Value} {w : World} : seek_Cursor_End K c0 w = codeS Try.prog seek_Cursor_End.sc (bodyOf Try.f40) (argsF 0 [c0]) w (retQ Try.prog Try.f40.results.toList K) := by kernel_rfl

theorem seek_Cursor_End.call {K : K1} {c0 : Value} {w : World} (h : seek_Cursor_End K c0 w) : sCall Try.prog 40 [c0] w K := sCall_code mixed Try.func40 (by kernel_rfl) rfl rfl seek_Cursor_End.ok seek_Cursor_End.eq h

abbrev seek_Cursor_End.n : Nat := 40

/-- '(*bodkin seek.Cursor).Next' -/
def seek_Cursor_Next (K : K1) (c0 : Value) (w : World) : Prop :=
  sCall Try.prog 38 [c0] w fun x7 w =>
  sExtract x7 0 w fun x8 w =>
  sExtract x7 1 w fun x9 w =>
  sAlloc Try.prog 51 w fun x3 w =>
  sStore Try.prog 51 x3 x8 w fun w =>
  sUn Try.prog .not x9 w fun x11 w =>
  sIf x11 (
    K (.bool false) w) (
    sCall Try.prog 40 [c0] w fun x14 w =>
    sNil c0 w fun x15 w =>
    sFldA Try.prog 143 x15 1 w fun x16 w =>
    sFldA Try.prog 34 x16 1 w fun x17 w =>
    sStore Try.prog 32 x17 x14 w fun w =>
    sNil c0 w fun x19 w =>
    sFldA Try.prog 143 x19 1 w fun x20 w =>
    sFldA Try.prog 34 x20 0 w fun x21 w =>
    sLoad Try.prog 3 x21 w fun x22 w =>
    sBin Try.prog .add 3 false true x22 (.int .i64 1) w fun x23 w =>
    sNil c0 w fun x24 w =>
    sFldA Try.prog 143 x24 1 w fun x25 w =>
    sFldA Try.prog 34 x25 0 w fun x26 w =>
    sStore Try.prog 3 x26 x23 w fun w =>
    K (.bool true) w)

def seek_Cursor_Next.sc : SC := (.seq (.reg (.op 0 .done)) (.seq (.seq (.reg (.op 0 (.op 1 (.op 2 (.op 3 (.op 4 (.op 5 (.op 6 (.op 7 .done))))))))) (.seq (.reg (.op 0 (.op 1 .done))) (.cond (.seq (.reg (.op 0 .done)) .nop) .nop))) (.seq (.reg (.op 0 (.op 1 (.op 2 (.op 3 (.op 4 (.op 5 (.op 6 .done)))))))) (.seq (.reg (.op 0 (.op 1 (.op 2 (.op 3 (.op 4 (.op 5 (.op 6 (.op 7 (.op 8 (.op 9 .done))))))))))) (.seq (.reg (.op 0 .done)) .nop)))))

theorem seek_Cursor_Next.ok : okC Try.f41.ntmps seek_Cursor_Next.sc (bodyOf Try.f41) = true := by kernel_rfl

theorem seek_Cursor_Next.eq {K : K1} {c0 : Value} {w : World} : seek_Cursor_Next K c0 w = codeS Try.prog seek_Cursor_Next.sc (bodyOf Try.f41) (argsF 0 [c0]) w (retQ Try.prog Try.f41.results.toList K) := by kernel_rfl

theorem seek_Cursor_Next.call {K : K1} {c0 : Value} {w : World} (h : seek_Cursor_Next K c0 w) : sCall Try.prog 41 [c0] w K := sCall_code mixed Try.func41 (by kernel_rfl) rfl rfl seek_Cursor_Next.ok seek_Cursor_Next.eq h

abbrev seek_Cursor_Next.n : Nat := 41

/-- '(*bodkin tree.Tree).Sum' -/
def tree_Tree_Sum (K : K1) (t0 : Value) (w : World) : Prop :=
  sAlloc Try.prog 32 w fun x2 w =>
  sCall Try.prog 62 [t0] w fun x4 w =>
  sCall Try.prog 64 [x4] w fun x5 w =>
  sStore Try.prog 32 x2 x5 w fun w =>
  sLoad Try.prog 32 x2 w fun v w' => w' = w ∧ K v w

def tree_Tree_Sum.sc : SC := (.seq (.reg (.op 0 .done)) (.seq (.reg (.op 0 (.op 1 (.op 2 (.op 3 .done))))) .nop))

theorem tree_Tree_Sum.ok : okC Try.f42.ntmps tree_Tree_Sum.sc (bodyOf Try.f42) = true := by kernel_rfl

theorem tree_Tree_Sum.eq {K : K1} {t0 : Value} {w : World} : tree_Tree_Sum K t0 w = codeS Try.prog tree_Tree_Sum.sc (bodyOf Try.f42) (argsF 0 [t0]) w (retQ Try.prog Try.f42.results.toList K) := by kernel_rfl

theorem tree_Tree_Sum.call {K : K1} {t0 : Value} {w : World} (h : tree_Tree_Sum K t0 w) : sCall Try.prog 42 [t0] w K := sCall_code mixed Try.func42 (by kernel_rfl) rfl rfl tree_Tree_Sum.ok tree_Tree_Sum.eq h

abbrev tree_Tree_Sum.n : Nat := 42

/-- 'bodkin bodkinlaw06.refs' -/
def bodkinlaw06_refs_L1 (K : K1) (Nx1 : List Value → World → Prop) (l0 x7 : Value) (out3 x8 : Value) (w : World) : Prop :=
  sBin Try.prog .lss 3 false false x8 x7 w fun x9 w =>
  sIf x9 (
    sIdxA Try.prog 22 l0 x8 w fun x10 w =>
    sLoad Try.prog 51 x10 w fun x11 w =>
    sAlloc Try.prog 51 w fun i5 w =>
    sStore Try.prog 51 i5 x11 w fun w =>
    sLoad Try.prog 51 i5 w fun x13 w =>
    sCall Try.prog 81 [x13] w fun x14 w =>
    sBuildSlice Try.prog 37 1 [(0, x14)] w fun x15 w =>
    sBuiltin Try.prog .append [37, 37] 37 [out3, x15] w fun x16 w =>
    sBin Try.prog .add 3 false true x8 (.int .i64 1) w fun x17 w =>
    Nx1 [x16, x17] w) (
    K out3 w)

def bodkinlaw06_refs (K : K1) (l0 : Value) (w : World) : Prop :=
  sBuiltin Try.prog .len [22] 3 [l0] w fun x7 w =>
  LoopS [(.slice none 0 0), (.int .i64 0)] 2 10 w fun us _ w Nx1 =>
    bodkinlaw06_refs_L1 K Nx1 l0 x7 (hd us) (hd (tl us)) w

def bodkinlaw06_refs.sc : SC := (.seq (.reg (.op 0 .done)) (.seq (.reg (.op 0 .done)) (.seq (.seq (.reg (.op 0 (.op 1 (.op 2 .done)))) (.sub (.loop [3, 8] [9, 10, 11, 5, 12, 13, 14, 15, 16, 17] (.seq (.reg (.op 0 .done)) (.seq (.cond .nop .nop) (.seq (.sub (.seq (.reg (.op 0 (.op 1 (.op 2 (.op 3 .done))))) (.reg (.op 0 (.op 1 (.op 2 (.op 3 (.op 4 (.op 5 .done))))))))) (.reg (.op 0 (.op 1 .done))))))))) (.seq (.reg (.op 0 (.op 1 .done))) .nop))))

theorem bodkinlaw06_refs.ok : okC Try.f43.ntmps bodkinlaw06_refs.sc (bodyOf Try.f43) = true := by kernel_rfl

theorem bodkinlaw06_refs.eq {K : K1} {l0 : Value} {w : World} : bodkinlaw06_refs K l0 w = codeS Try.prog bodkinlaw06_refs.sc (bodyOf Try.f43) (argsF 0 [l0]) w (retQ Try.prog Try.f43.results.toList K) := by kernel_rfl

theorem bodkinlaw06_refs.call {K : K1} {l0 : Value} {w : World} (h : bodkinlaw06_refs K l0 w) : sCall Try.prog 43 [l0] w K := sCall_code mixed Try.func43 (by kernel_rfl) rfl rfl bodkinlaw06_refs.ok bodkinlaw06_refs.eq h

abbrev bodkinlaw06_refs.n : Nat := 43

/-- 'bodkin bodkinlaw06.agrees' -/
def bodkinlaw06_agrees_J1 (K : K1) (c0 w1 : Value) (w : World) : Prop :=
  sCall Try.prog 39 [c0] w fun x52 w =>
  sCall Try.prog 82 [x52] w fun x53 w =>
  sCall Try.prog 83 [w1] w fun x55 w =>
  sBin Try.prog .eql 40 false false x53 x55 w fun x56 w =>
  sIf x56 (
    sCall Try.prog 40 [c0] w fun x59 w =>
    sCall Try.prog 82 [x59] w fun x60 w =>
    sCall Try.prog 84 [w1] w fun x62 w =>
    sBin Try.prog .eql 40 false false x60 x62 w fun x63 w =>
    K x63 w) (
    K (.bool false) w)

def bodkinlaw06_agrees (K : K1) (c0 w1 : Value) (w : World) : Prop :=
  sCall Try.prog 38 [c0] w fun x9 w =>
  sExtract x9 0 w fun x10 w =>
  sExtract x9 1 w fun x11 w =>
  sAlloc Try.prog 51 w fun i5 w =>
  sStore Try.prog 51 i5 x10 w fun w =>
  JoinS 0 40 (fun M1 =>
    DrawS w fun C w =>
    sNil w1 w fun x14 w =>
    stillS C w (fun w k => sFldA Try.prog 81 x14 1 w k) fun x15 =>
    stillS C w (fun w k => sLoad Try.prog 3 x15 w k) fun x16 =>
    sNil w1 w fun x18 w =>
    stillS C w (fun w k => sFldA Try.prog 81 x18 0 w k) fun x19 =>
    stillS C w (fun w k => sLoad Try.prog 37 x19 w k) fun x20 =>
    stillS C w (fun w k => sBuiltin Try.prog .len [37] 3 [x20] w k) fun x21 =>
    stillS C w (fun w k => sBin Try.prog .lss 3 false false x16 x21 w k) fun x22 =>
    stillS C w (fun w k => sBin Try.prog .neq 4 false false x11 x22 w k) fun x23 =>
    sIf x23 (
      K (.bool false) w) (
      sIf x11 (
        stillS C w (fun w k => sLoad Try.prog 51 i5 w k) fun x27 =>
        sNil w1 w fun x30 w =>
        stillS C w (fun w k => sFldA Try.prog 81 x30 0 w k) fun x31 =>
        stillS C w (fun w k => sLoad Try.prog 37 x31 w k) fun x32 =>
        sNil w1 w fun x34 w =>
        stillS C w (fun w k => sFldA Try.prog 81 x34 1 w k) fun x35 =>
        stillS C w (fun w k => sLoad Try.prog 3 x35 w k) fun x36 =>
        stillS C w (fun w k => sIdxA Try.prog 37 x32 x36 w k) fun x37 =>
        stillS C w (fun w k => sLoad Try.prog 105 x37 w k) fun x38 =>
        sCall Try.prog 81 [x27] w fun x28 w => C w ∧
        stillS C w (fun w k => sBin Try.prog .neq 105 false false x28 x38 w k) fun x39 =>
        sIf x39 (
          K (.bool false) w) (
          stillS C w (fun w k => sUn Try.prog .not x11 w k) fun x44 =>
          sIf x44 (
            stillS C w (fun w k => sLoad Try.prog 51 i5 w k) fun x46 =>
            stillS C w (fun w k => sBuild Try.prog 51 [] w k) fun x47 =>
            stillS C w (fun w k => sBin Try.prog .neq 51 false false x46 x47 w k) fun x48 =>
            sIf x48 (
              K (.bool false) w) (
              M1 [] w)) (
            M1 [] w))) (
        stillS C w (fun w k => sUn Try.prog .not x11 w k) fun x44_1 =>
        sIf x44_1 (
          stillS C w (fun w k => sLoad Try.prog 51 i5 w k) fun x46_1 =>
          stillS C w (fun w k => sBuild Try.prog 51 [] w k) fun x47_1 =>
          stillS C w (fun w k => sBin Try.prog .neq 51 false false x46_1 x47_1 w k) fun x48_1 =>
          sIf x48_1 (
            K (.bool false) w) (
            M1 [] w)) (
          M1 [] w)))) fun us _ w =>
    bodkinlaw06_agrees_J1 K c0 w1 w

def bodkinlaw06_agrees.sc : SC := (.seq (.reg (.op 0 .done)) (.seq (.reg (.op 0 (.op 1 (.op 2 (.op 3 (.op 4 (.op 5 (.op 6 (.op 7 .done))))))))) (.join [] [12, 13, 14, 15, 16, 17, 18, 19, 20, 21, 22, 23, 24, 25, 26, 27, 28, 29, 30, 31, 32, 33, 34, 35, 36, 37, 38, 39, 40, 41, 42, 43, 44, 45, 46, 47, 48, 49, 50, 4] (.seq (.draw (.op 0 (.op 1 (.op 2 (.op 3 (.op 4 (.op 5 (.op 6 (.op 7 (.op 8 (.op 9 (.op 10 (.op 11 (.op 12 (.test 12 (.skip 13 (.skip 14 (.skip 15 (.skip 16 (.skip 17 (.skip 18 (.skip 19 (.skip 20 (.skip 21 (.skip 22 (.skip 23 (.skip 24 (.skip 25 (.skip 26 (.skip 27 (.skip 28 (.op 29 (.op 30 (.know 30 true (.skip 31 (.skip 32 (.skip 33 (.skip 34 (.skip 35 (.skip 36 (.skip 37 (.op 38 .done))))))))))))))))))))))))))) (.op 13 (.op 14 (.test 14 (.op 15 (.op 17 (.op 18 (.op 19 (.op 20 (.op 21 (.op 22 (.op 23 (.op 24 (.op 25 (.op 26 (.op 16 (.op 27 (.op 28 (.op 29 (.op 30 (.test 30 (.skip 31 (.skip 32 (.skip 33 (.skip 34 (.skip 35 (.skip 36 (.skip 37 (.op 38 .done)))))))) (.op 31 (.op 32 (.op 33 (.test 33 (.op 34 (.op 35 (.op 36 (.op 37 (.op 38 .done))))) (.skip 34 (.skip 35 (.skip 36 (.op 37 (.op 38 .done)))))))))))))))))))))))))) (.skip 15 (.skip 16 (.skip 17 (.skip 18 (.skip 19 (.skip 20 (.skip 21 (.skip 22 (.skip 23 (.skip 24 (.skip 25 (.skip 26 (.skip 27 (.op 28 (.op 29 (.op 30 (.know 30 false (.op 31 (.op 32 (.op 33 (.test 33 (.op 34 (.op 35 (.op 36 (.op 37 (.op 38 .done))))) (.skip 34 (.skip 35 (.skip 36 (.op 37 (.op 38 .done)))))))))))))))))))))))))))))))))))))))))))) (.cond (.seq (.reg (.op 0 .done)) .nop) .nop)) (.seq (.reg (.op 0 (.op 1 (.op 2 (.op 3 (.op 4 (.op 5 (.op 6 (.test 6 (.op 7 (.op 8 (.op 9 (.op 10 (.op 11 (.op 12 (.op 13 (.op 14 .done)))))))) (.skip 7 (.skip 8 (.skip 9 (.skip 10 (.skip 11 (.skip 12 (.op 13 (.op 14 .done))))))))))))))))) .nop))))

theorem bodkinlaw06_agrees.ok : okC Try.f44.ntmps bodkinlaw06_agrees.sc (bodyOf Try.f44) = true := by kernel_rfl

theorem bodkinlaw06_agrees.eq {K : K1} {c0 w1 : Value} {w : World} : bodkinlaw06_agrees K c0 w1 w = codeS Try.prog bodkinlaw06_agrees.sc (bodyOf Try.f44) (argsF 0 [c0, w1]) w (retQ Try.prog Try.f44.results.toList K) := by kernel_rfl

theorem bodkinlaw06_agrees.call {K : K1} {c0 w1 : Value} {w : World} (h : bodkinlaw06_agrees K c0 w1 w) : sCall Try.prog 44 [c0, w1] w K := sCall_code mixed Try.func44 (by kernel_rfl) rfl rfl bodkinlaw06_agrees.ok bodkinlaw06_agrees.eq h

abbrev bodkinlaw06_agrees.n : Nat := 44

/-- 'bodkin bodkinlaw06.does' -/
def bodkinlaw06_does_J3 (K : K1) (c0 x56 : Value) (w : World) : Prop :=
  sCall Try.prog 41 [c0] w fun x66 w =>
  sBin Try.prog .eql 4 false false x66 x56 w fun x68 w =>
  K x68 w

def bodkinlaw06_does_J4 (K : K1) (c0 x75 : Value) (w : World) : Prop :=
  sCall Try.prog 47 [c0] w fun x85 w =>
  sBin Try.prog .eql 4 false false x85 x75 w fun x87 w =>
  K x87 w

def bodkinlaw06_does_J2 (K : K1) (c0 s5 w1 x12 : Value) (x44 : Value) (w : World) : Prop :=
  sIf x44 (
    DrawS w fun C w =>
    sNil w1 w fun x48 w =>
    stillS C w (fun w k => sFldA Try.prog 81 x48 1 w k) fun x49 =>
    stillS C w (fun w k => sLoad Try.prog 3 x49 w k) fun x50 =>
    sNil w1 w fun x52 w =>
    stillS C w (fun w k => sFldA Try.prog 81 x52 0 w k) fun x53 =>
    stillS C w (fun w k => sLoad Try.prog 37 x53 w k) fun x54 =>
    stillS C w (fun w k => sBuiltin Try.prog .len [37] 3 [x54] w k) fun x55 =>
    stillS C w (fun w k => sBin Try.prog .lss 3 false false x50 x55 w k) fun x56 =>
    JoinS 0 8 (fun M3 =>
      sIf x56 (
        sNil w1 w fun x59 w =>
        sFldA Try.prog 81 x59 1 w fun x60 w =>
        sLoad Try.prog 3 x60 w fun x61 w =>
        sBin Try.prog .add 3 false true x61 (.int .i64 1) w fun x62 w =>
        sNil w1 w fun x63 w =>
        sFldA Try.prog 81 x63 1 w fun x64 w =>
        sStore Try.prog 3 x64 x62 w fun w =>
        M3 [] w) (
        M3 [] w)) fun us _ w =>
      bodkinlaw06_does_J3 K c0 x56 w) (
    sBin Try.prog .eql 3 false true x12 (.int .i64 4) w fun x70 w =>
    sIf x70 (
      sNil w1 w fun x72 w =>
      sFldA Try.prog 81 x72 1 w fun x73 w =>
      sLoad Try.prog 3 x73 w fun x74 w =>
      sBin Try.prog .gtr 3 false true x74 (.int .i64 0) w fun x75 w =>
      JoinS 0 8 (fun M4 =>
        sIf x75 (
          sNil w1 w fun x78 w =>
          sFldA Try.prog 81 x78 1 w fun x79 w =>
          sLoad Try.prog 3 x79 w fun x80 w =>
          sBin Try.prog .sub 3 false true x80 (.int .i64 1) w fun x81 w =>
          sNil w1 w fun x82 w =>
          sFldA Try.prog 81 x82 1 w fun x83 w =>
          sStore Try.prog 3 x83 x81 w fun w =>
          M4 [] w) (
          M4 [] w)) fun us _ w =>
        bodkinlaw06_does_J4 K c0 x75 w) (
      sBin Try.prog .eql 3 false true x12 (.int .i64 5) w fun x89 w =>
      sIf x89 (
        DrawS w fun C w =>
        stillS C w (fun w k => sFldA Try.prog 83 s5 1 w k) fun x91 =>
        stillS C w (fun w k => sLoad Try.prog 3 x91 w k) fun x92 =>
        stillS C w (fun w k => sFldA Try.prog 83 s5 2 w k) fun x93 =>
        stillS C w (fun w k => sLoad Try.prog 3 x93 w k) fun x94 =>
        stillS C w (fun w k => sFldA Try.prog 83 s5 1 w k) fun x98 =>
        stillS C w (fun w k => sLoad Try.prog 3 x98 w k) fun x99 =>
        stillS C w (fun w k => sFldA Try.prog 83 s5 2 w k) fun x100 =>
        stillS C w (fun w k => sLoad Try.prog 3 x100 w k) fun x101 =>
        sCall Try.prog 48 [c0, x92, x94] w fun x95 w => C w ∧
        sCall Try.prog 43 [x95] w fun x96 w => C w ∧
        sCall Try.prog 86 [w1, x99, x101] w fun x102 w => C w ∧
        sCall Try.prog 69 [x96, x102] w fun x103 w => C w ∧
        K x103 w) (
        K (.bool true) w)))

def bodkinlaw06_does_J1 (K : K1) (c0 s5 w1 x12 : Value) (x13 : Value) (w : World) : Prop :=
  sIf x13 (
    sFldA Try.prog 83 s5 1 w fun x17 w =>
    sLoad Try.prog 3 x17 w fun x18 w =>
    sFldA Try.prog 83 s5 2 w fun x19 w =>
    sLoad Try.prog 3 x19 w fun x20 w =>
    sFldA Try.prog 83 s5 3 w fun x21 w =>
    sLoad Try.prog 3 x21 w fun x22 w =>
    sCall Try.prog 46 [c0, x18, x20, x22] w fun x23 w =>
    sFldA Try.prog 83 s5 1 w fun x25 w =>
    sLoad Try.prog 3 x25 w fun x26 w =>
    sFldA Try.prog 83 s5 2 w fun x27 w =>
    sLoad Try.prog 3 x27 w fun x28 w =>
    sFldA Try.prog 83 s5 3 w fun x29 w =>
    sLoad Try.prog 3 x29 w fun x30 w =>
    sBuild Try.prog 23 [(0, x28), (1, x30)] w fun x31 w =>
    sCall Try.prog 85 [w1, x26, x31] w fun x32 w =>
    sBin Try.prog .eql 27 false true x23 (.int .i64 0) w fun x34 w =>
    sBin Try.prog .eql 4 false false x34 x32 w fun x36 w =>
    sIf x36 (
      sBin Try.prog .eql 27 false true x23 (.int .i64 1) w fun x39 w =>
      sUn Try.prog .not x32 w fun x41 w =>
      sBin Try.prog .eql 4 false false x39 x41 w fun x42 w =>
      K x42 w) (
      K (.bool false) w)) (
    JoinS 1 2 (fun M2 =>
      sBin Try.prog .eql 3 false true x12 (.int .i64 2) w fun x45 w =>
      sIf x45 (
        M2 [x45] w) (
        sBin Try.prog .eql 3 false true x12 (.int .i64 3) w fun x46 w =>
        M2 [x46] w)) fun us _ w =>
      bodkinlaw06_does_J2 K c0 s5 w1 x12 (hd us) w)

def bodkinlaw06_does (K : K1) (c0 w1 s2 : Value) (w : World) : Prop :=
  sBox Try.prog 83 s2 w fun s5 w =>
  sFldA Try.prog 83 s5 0 w fun x11 w =>
  sLoad Try.prog 3 x11 w fun x12 w =>
  JoinS 1 2 (fun M1 =>
    sBin Try.prog .eql 3 false true x12 (.int .i64 0) w fun x14 w =>
    sIf x14 (
      M1 [x14] w) (
      sBin Try.prog .eql 3 false true x12 (.int .i64 1) w fun x15 w =>
      M1 [x15] w)) fun us _ w =>
    bodkinlaw06_does_J1 K c0 s5 w1 x12 (hd us) w

def bodkinlaw06_does.sc : SC := (.seq (.reg (.op 0 (.op 1 .done))) (.seq (.seq (.reg (.op 0 (.op 1 .done))) (.sub (.join [13] [14, 15] (.seq (.reg (.op 0 (.op 1 .done))) (.cond .nop (.reg (.op 0 (.op 1 .done))))) (.cond (.seq (.reg (.op 0 (.op 1 (.op 2 (.op 3 (.op 4 (.op 5 (.op 6 (.op 7 (.op 8 .done)))))))))) (.seq (.reg (.op 0 (.op 1 (.op 2 (.op 3 (.op 4 (.op 5 (.op 6 (.op 7 (.op 8 (.op 9 .done))))))))))) (.seq (.reg (.op 0 (.op 1 (.op 2 (.op 3 (.op 4 (.test 4 (.op 5 (.op 6 (.op 7 (.op 8 (.op 9 (.op 10 (.op 11 .done))))))) (.skip 5 (.skip 6 (.skip 7 (.skip 8 (.skip 9 (.op 10 (.op 11 .done)))))))))))))) .nop))) (.join [44] [45, 46] (.seq (.reg (.op 0 (.op 1 .done))) (.cond .nop (.reg (.op 0 (.op 1 .done))))) (.cond (.seq (.draw (.op 0 (.op 1 (.op 2 (.op 3 (.op 4 (.op 5 (.op 6 (.op 7 (.op 8 (.op 9 (.op 10 .done)))))))))))) (.join [] [57, 58, 59, 60, 61, 62, 63, 64] (.seq (.reg (.op 0 .done)) (.cond (.reg (.op 0 (.op 1 (.op 2 (.op 3 (.op 4 (.op 5 (.op 6 (.op 7 .done))))))))) .nop)) (.seq (.reg (.op 0 (.op 1 (.op 2 (.op 3 (.op 4 .done)))))) .nop))) (.seq (.reg (.op 0 (.op 1 .done))) (.cond (.seq (.reg (.op 0 (.op 1 (.op 2 (.op 3 (.op 4 (.op 5 .done))))))) (.join [] [76, 77, 78, 79, 80, 81, 82, 83] (.seq (.reg (.op 0 .done)) (.cond (.reg (.op 0 (.op 1 (.op 2 (.op 3 (.op 4 (.op 5 (.op 6 (.op 7 .done))))))))) .nop)) (.seq (.reg (.op 0 (.op 1 (.op 2 (.op 3 (.op 4 .done)))))) .nop))) (.seq (.reg (.op 0 (.op 1 .done))) (.cond (.seq (.draw (.op 0 (.op 1 (.op 2 (.op 3 (.op 4 (.op 7 (.op 8 (.op 9 (.op 10 (.op 11 (.op 5 (.op 6 (.op 12 (.op 13 (.op 14 .done)))))))))))))))) .nop) .nop)))))))))) (.seq (.reg (.op 0 .done)) .nop)))

theorem bodkinlaw06_does.ok : okC Try.f45.ntmps bodkinlaw06_does.sc (bodyOf Try.f45) = true := by kernel_rfl

theorem bodkinlaw06_does.eq {K : K1} {c0 w1 s2 : Value} {w : World} : bodkinlaw06_does K c0 w1 s2 w = codeS Try.prog bodkinlaw06_does.sc (bodyOf Try.f45) (argsF 0 [c0, w1, s2]) w (retQ Try.prog Try.f45.results.toList K) := by kernel_rfl

theorem bodkinlaw06_does.call {K : K1} {c0 w1 s2 : Value} {w : World} (h : bodkinlaw06_does K c0 w1 s2 w) : sCall Try.prog 45 [c0, w1, s2] w K := sCall_code mixed Try.func45 (by kernel_rfl) rfl rfl bodkinlaw06_does.ok bodkinlaw06_does.eq h

abbrev bodkinlaw06_does.n : Nat := 45

/-- '(*bodkin seek.Cursor).To' -/
def seek_Cursor_To (K : K1) (c0 dim1 v2 bias3 : Value) (w : World) : Prop :=
  sBin Try.prog .eql 73 false true c0 (.pointer none) w fun x12 w =>
  sIf x12 (
    K (.int .i64 7) w) (
    sNil c0 w fun x15 w =>
    sFldA Try.prog 143 x15 0 w fun x16 w =>
    sLoad Try.prog 26 x16 w fun x17 w =>
    sCall Try.prog 19 [x17, dim1, v2, bias3] w fun x21 w =>
    sExtract x21 0 w fun x22 w =>
    sExtract x21 1 w fun x23 w =>
    sAlloc Try.prog 34 w fun p9 w =>
    sStore Try.prog 34 p9 x22 w fun w =>
    sBin Try.prog .eql 27 false true x23 (.int .i64 0) w fun x25 w =>
    sIf x25 (
      sLoad Try.prog 34 p9 w fun x27 w =>
      sNil c0 w fun x28 w =>
      sFldA Try.prog 143 x28 1 w fun x29 w =>
      sStore Try.prog 34 x29 x27 w fun w =>
      K x23 w) (
      K x23 w))

def seek_Cursor_To.sc : SC := (.seq (.reg (.op 0 .done)) (.seq (.seq (.reg (.op 0 (.op 1 .done))) (.cond (.seq (.reg (.op 0 .done)) .nop) .nop)) (.seq (.reg (.op 0 (.op 1 (.op 2 (.op 3 (.op 4 (.op 5 (.op 6 (.op 7 (.op 8 (.op 9 (.op 10 (.op 11 (.op 12 (.op 13 .done))))))))))))))) (.seq (.seq (.reg (.op 0 (.op 1 .done))) (.cond (.reg (.op 0 (.op 1 (.op 2 (.op 3 (.op 4 .done)))))) .nop)) (.seq (.reg (.op 0 (.op 1 .done))) .nop)))))

theorem seek_Cursor_To.ok : okC Try.f46.ntmps seek_Cursor_To.sc (bodyOf Try.f46) = true := by kernel_rfl

theorem seek_Cursor_To.eq {K : K1} {c0 dim1 v2 bias3 : Value} {w : World} : seek_Cursor_To K c0 dim1 v2 bias3 w = codeS Try.prog seek_Cursor_To.sc (bodyOf Try.f46) (argsF 0 [c0, dim1, v2, bias3]) w (retQ Try.prog Try.f46.results.toList K) := by kernel_rfl

theorem seek_Cursor_To.call {K : K1} {c0 dim1 v2 bias3 : Value} {w : World} (h : seek_Cursor_To K c0 dim1 v2 bias3 w) : sCall Try.prog 46 [c0, dim1, v2, bias3] w K := sCall_code mixed Try.func46 (by kernel_rfl) rfl rfl seek_Cursor_To.ok seek_Cursor_To.eq h

abbrev seek_Cursor_To.n : Nat := 46

/-- '(*bodkin seek.Cursor).Back' -/
def seek_Cursor_Back (K : K1) (c0 : Value) (w : World) : Prop :=
  sBin Try.prog .eql 73 false true c0 (.pointer none) w fun x4 w =>
  sIf x4 (
    K (.bool false) w) (
    sNil c0 w fun x7 w =>
    sFldA Try.prog 143 x7 1 w fun x8 w =>
    sFldA Try.prog 34 x8 0 w fun x9 w =>
    sLoad Try.prog 3 x9 w fun x10 w =>
    sBin Try.prog .eql 3 false true x10 (.int .i64 0) w fun x11 w =>
    sIf x11 (
      K (.bool false) w) (
      sNil c0 w fun x15 w =>
      sFldA Try.prog 143 x15 1 w fun x16 w =>
      sFldA Try.prog 34 x16 0 w fun x17 w =>
      sLoad Try.prog 3 x17 w fun x18 w =>
      sBin Try.prog .sub 3 false true x18 (.int .i64 1) w fun x19 w =>
      sCall Try.prog 46 [c0, (.int .i64 3), x19, (.int .i64 1)] w fun x20 w =>
      sBin Try.prog .eql 27 false true x20 (.int .i64 0) w fun x21 w =>
      K x21 w))

def seek_Cursor_Back.sc : SC := (.seq (.reg (.op 0 .done)) (.seq (.seq (.reg (.op 0 (.op 1 (.op 2 (.test 2 (.skip 3 (.skip 4 (.skip 5 (.skip 6 (.skip 7 (.skip 8 (.op 9 .done))))))) (.op 3 (.op 4 (.op 5 (.op 6 (.op 7 (.op 8 (.op 9 .done)))))))))))) (.cond (.seq (.reg (.op 0 .done)) .nop) .nop)) (.seq (.reg (.op 0 (.op 1 (.op 2 (.op 3 (.op 4 (.op 5 (.op 6 (.op 7 (.op 8 (.op 9 .done))))))))))) .nop)))

theorem seek_Cursor_Back.ok : okC Try.f47.ntmps seek_Cursor_Back.sc (bodyOf Try.f47) = true := by kernel_rfl

theorem seek_Cursor_Back.eq {K : K1} {c0 : Value} {w : World} : seek_Cursor_Back K c0 w = codeS Try.prog seek_Cursor_Back.sc (bodyOf Try.f47) (argsF 0 [c0]) w (retQ Try.prog Try.f47.results.toList K) := by kernel_rfl

theorem seek_Cursor_Back.call {K : K1} {c0 : Value} {w : World} (h : seek_Cursor_Back K c0 w) : sCall Try.prog 47 [c0] w K := sCall_code mixed Try.func47 (by kernel_rfl) rfl rfl seek_Cursor_Back.ok seek_Cursor_Back.eq h

abbrev seek_Cursor_Back.n : Nat := 47

/-- '(*bodkin seek.Cursor).Take' -/
def seek_Cursor_Take_L1 (K : K1) (Nx1 : List Value → World → Prop) (c0 dim1 v2 : Value) (out7 : Value) (w : World) : Prop :=
  sCall Try.prog 38 [c0] w fun x19 w =>
  sExtract x19 0 w fun x20 w =>
  sExtract x19 1 w fun x21 w =>
  sAlloc Try.prog 51 w fun i8 w =>
  sStore Try.prog 51 i8 x20 w fun w =>
  sUn Try.prog .not x21 w fun x23 w =>
  sIf x23 (
    K out7 w) (
    sCall Try.prog 40 [c0] w fun x26 w =>
    sCall Try.prog 87 [x26, dim1] w fun x28 w =>
    sBin Try.prog .gtr 3 false false x28 v2 w fun x30 w =>
    sIf x30 (
      K out7 w) (
      sLoad Try.prog 51 i8 w fun x33 w =>
      sBuildSlice Try.prog 22 1 [(0, x33)] w fun x34 w =>
      sBuiltin Try.prog .append [22, 22] 22 [out7, x34] w fun x35 w =>
      sCall Try.prog 41 [c0] w fun x37 w =>
      Nx1 [x35] w))

def seek_Cursor_Take (K : K1) (c0 dim1 v2 : Value) (w : World) : Prop :=
  sBin Try.prog .lss 3 false true dim1 (.int .i64 0) w fun x11 w =>
  sIf x11 (
    K (.slice none 0 0) w) (
    sBin Try.prog .gtr 3 false true dim1 (.int .i64 3) w fun x14 w =>
    sIf x14 (
      K (.slice none 0 0) w) (
      LoopS [(.slice none 0 0)] 1 23 w fun us _ w Nx1 =>
        seek_Cursor_Take_L1 K Nx1 c0 dim1 v2 (hd us) w))

def seek_Cursor_Take.sc : SC := (.seq (.reg (.op 0 .done)) (.sub (.seq (.reg (.op 0 .done)) (.seq (.seq (.reg (.op 0 (.op 1 (.op 2 (.test 2 (.skip 3 (.skip 4 (.op 5 .done))) (.op 3 (.op 4 (.op 5 .done)))))))) (.cond (.seq (.reg (.op 0 (.op 1 .done))) .nop) .nop)) (.seq .nop (.seq (.sub (.loop [7] [18, 19, 17, 20, 21, 8, 9, 22, 23, 24, 25, 26, 27, 28, 29, 30, 31, 32, 33, 34, 35, 36, 37] (.sub (.seq (.reg (.op 0 (.op 1 (.op 2 (.op 3 (.op 4 (.op 5 (.op 6 (.op 7 .done))))))))) (.seq (.seq (.reg (.op 0 (.op 1 (.op 2 (.test 2 (.skip 3 (.skip 4 (.skip 5 (.skip 6 (.skip 7 (.skip 8 (.op 9 .done))))))) (.op 3 (.op 4 (.op 5 (.op 6 (.op 7 (.op 8 (.op 9 .done)))))))))))) (.cond .nop .nop)) (.seq (.reg (.op 0 (.op 1 (.op 2 (.op 3 (.op 4 .done)))))) (.reg (.op 0 (.op 1 .done))))))))) (.seq (.reg (.op 0 (.op 1 .done))) .nop)))))))

theorem seek_Cursor_Take.ok : okC Try.f48.ntmps seek_Cursor_Take.sc (bodyOf Try.f48) = true := by kernel_rfl

theorem seek_Cursor_Take.eq {K : K1} {c0 dim1 v2 : Value} {w : World} : seek_Cursor_Take K c0 dim1 v2 w = codeS Try.prog seek_Cursor_Take.sc (bodyOf Try.f48) (argsF 0 [c0, dim1, v2]) w (retQ Try.prog Try.f48.results.toList K) := by kernel_rfl

theorem seek_Cursor_Take.call {K : K1} {c0 dim1 v2 : Value} {w : World} (h : seek_Cursor_Take K c0 dim1 v2 w) : sCall Try.prog 48 [c0, dim1, v2] w K := sCall_code mixed Try.func48 (by kernel_rfl) rfl rfl seek_Cursor_Take.ok seek_Cursor_Take.eq h

abbrev seek_Cursor_Take.n : Nat := 48

/-- '(*bodkin tree.Tree).Replace' -/
def tree_Tree_Replace (K : K1) (t0 from1 to2 l3 : Value) (w : World) : Prop :=
  sCall Try.prog 42 [t0] w fun x18 w =>
  sFld Try.prog 32 x18 0 w fun x19 w =>
  sBin Try.prog .lss 3 false true from1 (.int .i64 0) w fun x21 w =>
  sIf x21 (
    K (.tuple #[(.pointer none), (.int .i64 1)]) w) (
    sBin Try.prog .lss 3 false false to2 from1 w fun x25 w =>
    sIf x25 (
      K (.tuple #[(.pointer none), (.int .i64 1)]) w) (
      sBin Try.prog .gtr 3 false false to2 x19 w fun x30 w =>
      sIf x30 (
        K (.tuple #[(.pointer none), (.int .i64 1)]) w) (
        sCall Try.prog 18 [l3] w fun x34 w =>
        sExtract x34 0 w fun x35 w =>
        sExtract x34 1 w fun x36 w =>
        sBin Try.prog .neq 27 false true x36 (.int .i64 0) w fun x39 w =>
        sIf x39 (
          K (.tuple #[(.pointer none), x36]) w) (
          sBin Try.prog .sub 3 false false to2 from1 w fun x45 w =>
          sBin Try.prog .sub 3 false false x19 x45 w fun x46 w =>
          sBuiltin Try.prog .len [22] 3 [l3] w fun x48 w =>
          sBin Try.prog .add 3 false false x46 x48 w fun x49 w =>
          sBin Try.prog .gtr 3 false true x49 (.int .i64 30000) w fun x50 w =>
          sIf x50 (
            K (.tuple #[(.pointer none), (.int .i64 5)]) w) (
            sCall Try.prog 62 [t0] w fun x53 w =>
            sCall Try.prog 80 [x53, from1] w fun x55 w =>
            sExtract x55 0 w fun x56 w =>
            sExtract x55 1 w fun x57 w =>
            sBin Try.prog .sub 3 false false to2 from1 w fun x62 w =>
            sCall Try.prog 80 [x57, x62] w fun x63 w =>
            sExtract x63 0 w fun x64 w =>
            sExtract x63 1 w fun x65 w =>
            sNil x35 w fun x68 w =>
            sFldA Try.prog 113 x68 0 w fun x69 w =>
            sLoad Try.prog 107 x69 w fun x70 w =>
            sCall Try.prog 58 [x56, x70] w fun x71 w =>
            sCall Try.prog 58 [x71, x65] w fun x73 w =>
            sBuild Try.prog 113 [(0, x73)] w fun x74 w =>
            sBox Try.prog 113 x74 w fun x75 w =>
            K (.tuple #[x75, (.int .i64 0)]) w)))))

def tree_Tree_Replace.sc : SC := (.seq (.reg (.op 0 (.op 1 .done))) (.seq (.reg (.op 0 (.op 1 (.op 2 (.op 3 .done))))) (.seq (.seq (.reg (.op 0 (.op 1 (.op 2 (.test 2 (.skip 3 (.skip 4 (.skip 5 (.op 6 (.op 7 (.know 7 true (.skip 8 (.skip 9 (.skip 10 (.op 11 .done)))))))))) (.op 3 (.op 4 (.op 5 (.op 6 (.op 7 (.test 7 (.skip 8 (.skip 9 (.skip 10 (.op 11 .done)))) (.op 8 (.op 9 (.op 10 (.op 11 .done))))))))))))))) (.cond (.seq (.reg (.op 0 (.op 1 .done))) .nop) .nop)) (.seq (.reg (.op 0 (.op 1 (.op 2 (.op 3 (.op 4 (.op 5 (.op 6 .done)))))))) (.seq (.sub (.seq (.reg (.op 0 (.op 1 (.op 2 .done)))) (.cond (.seq (.reg (.op 0 (.op 1 (.op 2 .done)))) .nop) (.seq (.reg (.op 0 (.op 1 (.op 2 (.op 3 (.op 4 (.op 5 (.op 6 (.op 7 (.op 8 (.op 9 .done))))))))))) (.cond (.seq (.reg (.op 0 (.op 1 .done))) .nop) .nop))))) (.seq (.reg (.op 0 (.op 1 (.op 2 (.op 3 (.op 4 (.op 5 (.op 6 (.op 7 (.op 8 .done)))))))))) (.seq (.reg (.op 0 (.op 1 (.op 2 (.op 3 (.op 4 (.op 5 (.op 6 (.op 7 (.op 8 (.op 9 .done))))))))))) (.seq (.reg (.op 0 (.op 1 (.op 2 (.op 3 (.op 4 (.op 5 (.op 6 (.op 7 (.op 8 (.op 9 (.op 10 (.op 11 .done))))))))))))) .nop))))))))

theorem tree_Tree_Replace.ok : okC Try.f49.ntmps tree_Tree_Replace.sc (bodyOf Try.f49) = true := by kernel_rfl

theorem tree_Tree_Replace.eq {K : K1} {t0 from1 to2 l3 : Value} {w : World} : tree_Tree_Replace K t0 from1 to2 l3 w = codeS Try.prog tree_Tree_Replace.sc (bodyOf Try.f49) (argsF 0 [t0, from1, to2, l3]) w (retQ Try.prog Try.f49.results.toList K) := by kernel_rfl

theorem tree_Tree_Replace.call {K : K1} {t0 from1 to2 l3 : Value} {w : World} (h : tree_Tree_Replace K t0 from1 to2 l3 w) : sCall Try.prog 49 [t0, from1, to2, l3] w K := sCall_code mixed Try.func49 (by kernel_rfl) rfl rfl tree_Tree_Replace.ok tree_Tree_Replace.eq h

abbrev tree_Tree_Replace.n : Nat := 49

/-- 'bodkin bodkinref05.Replace' -/
def bodkinref05_Replace (K : K1) (l0 at1 more2 : Value) (w : World) : Prop :=
  sBox Try.prog 23 at1 w fun at4 w =>
  sIdxA Try.prog 23 at4 (.int .i64 0) w fun x10 w =>
  sLoad Try.prog 3 x10 w fun x11 w =>
  sSlice Try.prog 37 l0 none (some x11) none w fun x12 w =>
  sBuiltin Try.prog .append [37, 37] 37 [(.slice none 0 0), x12] w fun x13 w =>
  sBuiltin Try.prog .append [37, 37] 37 [x13, more2] w fun x16 w =>
  sIdxA Try.prog 23 at4 (.int .i64 1) w fun x19 w =>
  sLoad Try.prog 3 x19 w fun x20 w =>
  sSlice Try.prog 37 l0 (some x20) none none w fun x21 w =>
  sBuiltin Try.prog .append [37, 37] 37 [x16, x21] w fun x22 w =>
  K x22 w

def bodkinref05_Replace.sc : SC := (.seq (.reg (.op 0 (.op 1 .done))) (.seq (.reg (.op 0 .done)) (.seq (.reg (.op 0 (.op 1 (.op 2 (.op 3 (.op 4 (.op 5 (.op 6 .done)))))))) (.seq (.reg (.op 0 (.op 1 (.op 2 (.op 3 .done))))) (.seq (.reg (.op 0 (.op 1 (.op 2 (.op 3 (.op 4 (.op 5 (.op 6 .done)))))))) (.seq (.reg (.op 0 (.op 1 .done))) .nop))))))

theorem bodkinref05_Replace.ok : okC Try.f50.ntmps bodkinref05_Replace.sc (bodyOf Try.f50) = true := by kernel_rfl

theorem bodkinref05_Replace.eq {K : K1} {l0 at1 more2 : Value} {w : World} : bodkinref05_Replace K l0 at1 more2 w = codeS Try.prog bodkinref05_Replace.sc (bodyOf Try.f50) (argsF 0 [l0, at1, more2]) w (retQ Try.prog Try.f50.results.toList K) := by kernel_rfl

theorem bodkinref05_Replace.call {K : K1} {l0 at1 more2 : Value} {w : World} (h : bodkinref05_Replace K l0 at1 more2 w) : sCall Try.prog 50 [l0, at1, more2] w K := sCall_code mixed Try.func50 (by kernel_rfl) rfl rfl bodkinref05_Replace.ok bodkinref05_Replace.eq h

abbrev bodkinref05_Replace.n : Nat := 50

/-- 'bodkin bodkinlaw22.is' -/
def bodkinlaw22_is_L1 (K : K1) (Nx1 : List Value → World → Prop) (f0 l1 x15 x17 : Value) (x18 : Value) (w : World) : Prop :=
  sBin Try.prog .lss 3 false false x18 x17 w fun x19 w =>
  sIf x19 (
    sIdxA Try.prog 57 x15 x18 w fun x21 w =>
    sLoad Try.prog 60 x21 w fun x22 w =>
    sAlloc Try.prog 60 w fun a7 w =>
    sStore Try.prog 60 a7 x22 w fun w =>
    DrawS w fun C w =>
    stillS C w (fun w k => sBuiltin Try.prog .len [57] 3 [l1] w k) fun x25 =>
    stillS C w (fun w k => sBin Try.prog .geq 3 false false x18 x25 w k) fun x26 =>
    sIf x26 (
      K (.bool false) w) (
      stillS C w (fun w k => sLoad Try.prog 60 a7 w k) fun x28 =>
      stillS C w (fun w k => sIdxA Try.prog 57 l1 x18 w k) fun x31 =>
      stillS C w (fun w k => sLoad Try.prog 60 x31 w k) fun x32 =>
      stillS C w (fun w k => sBin Try.prog .neq 60 false false x28 x32 w k) fun x33 =>
      sIf x33 (
        K (.bool false) w) (
        sBin Try.prog .add 3 false true x18 (.int .i64 1) w fun x35 w =>
        Nx1 [x35] w))) (
    sCall Try.prog 72 [f0] w fun x38 w =>
    sExtract x38 0 w fun x39 w =>
    sExtract x38 1 w fun x40 w =>
    sCall Try.prog 30 [l1] w fun x42 w =>
    sAlloc Try.prog 60 w fun s10 w =>
    sStore Try.prog 60 s10 x42 w fun w =>
    DrawS w fun C w =>
    stillS C w (fun w k => sBuiltin Try.prog .len [57] 3 [x15] w k) fun x44 =>
    stillS C w (fun w k => sBuiltin Try.prog .len [57] 3 [l1] w k) fun x46 =>
    stillS C w (fun w k => sBin Try.prog .eql 3 false false x44 x46 w k) fun x47 =>
    sIf x47 (
      stillS C w (fun w k => sLoad Try.prog 60 s10 w k) fun x55 =>
      sCall Try.prog 77 [f0] w fun x50 w => C w ∧
      sBuildSlice Try.prog 55 1 [(0, x50)] w fun x51 w => C w ∧
      sCall Try.prog 29 [x51] w fun x52 w =>
        SubS C w fun C =>
      stillS C w (fun w k => sIdxA Try.prog 57 x52 (.int .i64 0) w k) fun x53 =>
      stillS C w (fun w k => sLoad Try.prog 60 x53 w k) fun x54 =>
      stillS C w (fun w k => sBin Try.prog .eql 60 false false x54 x55 w k) fun x56 =>
      sIf x56 (
        stillS C w (fun w k => sBuiltin Try.prog .len [57] 3 [l1] w k) fun x62 =>
        sCall Try.prog 73 [f0] w fun x60 w => C w ∧
        stillS C w (fun w k => sBin Try.prog .eql 3 false false x60 x62 w k) fun x63 =>
        sIf x63 (
          sCall Try.prog 89 [l1] w fun x68 w => C w ∧
          stillS C w (fun w k => sBin Try.prog .eql 3 false false x39 x68 w k) fun x69 =>
          sIf x69 (
            stillS C w (fun w k => sFldA Try.prog 60 s10 3 w k) fun x73 =>
            stillS C w (fun w k => sLoad Try.prog 3 x73 w k) fun x74 =>
            stillS C w (fun w k => sBin Try.prog .eql 3 false false x40 x74 w k) fun x75 =>
            sIf x75 (
              stillS C w (fun w k => sBuiltin Try.prog .len [57] 3 [l1] w k) fun x81 =>
              sCall Try.prog 74 [f0] w fun x79 w => C w ∧
              sCall Try.prog 70 [x79, x81] w fun x82 w => C w ∧
              K x82 w) (
              K (.bool false) w)) (
            K (.bool false) w)) (
          K (.bool false) w)) (
        K (.bool false) w)) (
      K (.bool false) w))

def bodkinlaw22_is (K : K1) (f0 l1 : Value) (w : World) : Prop :=
  sBin Try.prog .eql 62 false true f0 (.pointer none) w fun x12 w =>
  sIf x12 (
    K (.bool false) w) (
    sCall Try.prog 88 [f0] w fun x14 w =>
    sCall Try.prog 29 [x14] w fun x15 w =>
    sBuiltin Try.prog .len [57] 3 [x15] w fun x17 w =>
    LoopS [(.int .i64 0)] 1 20 w fun us _ w Nx1 =>
      bodkinlaw22_is_L1 K Nx1 f0 l1 x15 x17 (hd us) w)

def bodkinlaw22_is.sc : SC := (.seq (.reg (.op 0 .done)) (.seq (.seq (.reg (.op 0 (.op 1 .done))) (.cond (.seq (.reg (.op 0 .done)) .nop) .nop)) (.seq (.reg (.op 0 (.op 1 (.op 2 (.op 3 .done))))) (.seq (.seq (.reg (.op 0 (.op 1 (.op 2 .done)))) (.sub (.loop [18] [19, 20, 21, 22, 7, 6, 23, 24, 25, 26, 27, 28, 29, 30, 31, 32, 33, 34, 4, 35] (.seq (.reg (.op 0 .done)) (.seq (.cond .nop .nop) (.seq (.sub (.seq (.reg (.op 0 (.op 1 (.op 2 (.op 3 (.op 4 (.op 5 .done))))))) (.seq (.draw (.op 0 (.op 1 (.op 2 (.op 3 (.op 4 (.test 4 (.skip 5 (.skip 6 (.skip 7 (.skip 8 (.skip 9 (.skip 10 (.op 11 .done))))))) (.op 5 (.op 6 (.op 7 (.op 8 (.op 9 (.op 10 (.op 11 .done)))))))))))))) (.cond (.seq (.reg (.op 0 .done)) .nop) .nop)))) (.reg (.op 0 (.op 1 .done))))))))) (.seq (.reg (.op 0 (.op 1 (.op 2 (.op 3 (.op 4 (.op 5 (.op 6 .done)))))))) (.seq (.reg (.op 0 (.op 1 (.op 2 (.op 3 .done))))) (.seq (.draw (.op 0 (.op 1 (.op 2 (.op 3 (.op 4 (.op 5 (.test 5 (.op 6 (.op 12 (.op 7 (.op 8 (.opc 9 (.op 10 (.op 11 (.op 13 (.op 14 (.op 15 (.test 15 (.op 16 (.op 18 (.op 19 (.op 17 (.op 20 (.op 21 (.op 22 (.test 22 (.op 23 (.op 24 (.op 25 (.op 26 (.op 27 (.op 28 (.test 28 (.op 29 (.op 30 (.op 31 (.op 32 (.op 33 (.op 34 (.test 34 (.op 35 (.op 37 (.op 38 (.op 36 (.op 39 (.op 40 (.op 41 .done))))))) (.skip 35 (.skip 36 (.skip 37 (.skip 38 (.skip 39 (.op 40 (.op 41 .done)))))))))))))) (.skip 29 (.skip 30 (.skip 31 (.skip 32 (.op 33 (.op 34 (.know 34 false (.skip 35 (.skip 36 (.skip 37 (.skip 38 (.skip 39 (.op 40 (.op 41 .done))))))))))))))))))))) (.skip 23 (.skip 24 (.skip 25 (.skip 26 (.op 27 (.op 28 (.know 28 false (.skip 29 (.skip 30 (.skip 31 (.skip 32 (.op 33 (.op 34 (.know 34 false (.skip 35 (.skip 36 (.skip 37 (.skip 38 (.skip 39 (.op 40 (.op 41 .done))))))))))))))))))))))))))))) (.skip 16 (.skip 17 (.skip 18 (.skip 19 (.skip 20 (.op 21 (.op 22 (.know 22 false (.skip 23 (.skip 24 (.skip 25 (.skip 26 (.op 27 (.op 28 (.know 28 false (.skip 29 (.skip 30 (.skip 31 (.skip 32 (.op 33 (.op 34 (.know 34 false (.skip 35 (.skip 36 (.skip 37 (.skip 38 (.skip 39 (.op 40 (.op 41 .done)))))))))))))))))))))))))))))))))))))))) (.skip 6 (.skip 7 (.skip 8 (.skip 9 (.skip 10 (.skip 11 (.skip 12 (.skip 13 (.op 14 (.op 15 (.know 15 false (.skip 16 (.skip 17 (.skip 18 (.skip 19 (.skip 20 (.op 21 (.op 22 (.know 22 false (.skip 23 (.skip 24 (.skip 25 (.skip 26 (.op 27 (.op 28 (.know 28 false (.skip 29 (.skip 30 (.skip 31 (.skip 32 (.op 33 (.op 34 (.know 34 false (.skip 35 (.skip 36 (.skip 37 (.skip 38 (.skip 39 (.op 40 (.op 41 .done)))))))))))))))))))))))))))))))))))))))))))))))) .nop)))))))

theorem bodkinlaw22_is.ok : okC Try.f51.ntmps bodkinlaw22_is.sc (bodyOf Try.f51) = true := by kernel_rfl

theorem bodkinlaw22_is.eq {K : K1} {f0 l1 : Value} {w : World} : bodkinlaw22_is K f0 l1 w = codeS Try.prog bodkinlaw22_is.sc (bodyOf Try.f51) (argsF 0 [f0, l1]) w (retQ Try.prog Try.f51.results.toList K) := by kernel_rfl

theorem bodkinlaw22_is.call {K : K1} {f0 l1 : Value} {w : World} (h : bodkinlaw22_is K f0 l1 w) : sCall Try.prog 51 [f0, l1] w K := sCall_code mixed Try.func51 (by kernel_rfl) rfl rfl bodkinlaw22_is.ok bodkinlaw22_is.eq h

abbrev bodkinlaw22_is.n : Nat := 51

/-- '(*bodkin tree.Tree).Items' -/
def tree_Tree_Items (K : K1) (t0 : Value) (w : World) : Prop :=
  sAlloc Try.prog 22 w fun out3 w =>
  sCall Try.prog 62 [t0] w fun x5 w =>
  sFunc Try.prog (.func 91) [] [out3] w fun x6 w =>
  sCall Try.prog 90 [x5, x6] w fun x7 w =>
  sLoad Try.prog 22 out3 w fun x8 w =>
  K x8 w

def tree_Tree_Items.sc : SC := (.seq (.reg (.op 0 .done)) (.seq (.reg (.op 0 .done)) (.seq (.reg (.op 0 (.op 1 (.op 2 (.op 3 .done))))) (.seq (.reg (.op 0 (.op 1 .done))) .nop))))

theorem tree_Tree_Items.ok : okC Try.f52.ntmps tree_Tree_Items.sc (bodyOf Try.f52) = true := by kernel_rfl

theorem tree_Tree_Items.eq {K : K1} {t0 : Value} {w : World} : tree_Tree_Items K t0 w = codeS Try.prog tree_Tree_Items.sc (bodyOf Try.f52) (argsF 0 [t0]) w (retQ Try.prog Try.f52.results.toList K) := by kernel_rfl

theorem tree_Tree_Items.call {K : K1} {t0 : Value} {w : World} (h : tree_Tree_Items K t0 w) : sCall Try.prog 52 [t0] w K := sCall_code mixed Try.func52 (by kernel_rfl) rfl rfl tree_Tree_Items.ok tree_Tree_Items.eq h

abbrev tree_Tree_Items.n : Nat := 52

/-- '(*bodkin tree.Tree).Sound' -/
def tree_Tree_Sound (K : K1) (t0 : Value) (w : World) : Prop :=
  sCall Try.prog 62 [t0] w fun x4 w =>
  sCall Try.prog 92 [x4, (.bool true)] w fun x5 w =>
  K x5 w

def tree_Tree_Sound.sc : SC := (.seq (.reg (.op 0 .done)) (.seq (.reg (.op 0 (.op 1 (.op 2 (.op 3 .done))))) .nop))

theorem tree_Tree_Sound.ok : okC Try.f53.ntmps tree_Tree_Sound.sc (bodyOf Try.f53) = true := by kernel_rfl

theorem tree_Tree_Sound.eq {K : K1} {t0 : Value} {w : World} : tree_Tree_Sound K t0 w = codeS Try.prog tree_Tree_Sound.sc (bodyOf Try.f53) (argsF 0 [t0]) w (retQ Try.prog Try.f53.results.toList K) := by kernel_rfl

theorem tree_Tree_Sound.call {K : K1} {t0 : Value} {w : World} (h : tree_Tree_Sound K t0 w) : sCall Try.prog 53 [t0] w K := sCall_code mixed Try.func53 (by kernel_rfl) rfl rfl tree_Tree_Sound.ok tree_Tree_Sound.eq h

abbrev tree_Tree_Sound.n : Nat := 53

/-- '(*bodkin flow.Flow).Replace' -/
def flow_Flow_Replace (K : K1) (f0 from1 to2 l3 : Value) (w : World) : Prop :=
  sCall Try.prog 75 [l3] w fun x16 w =>
  sExtract x16 0 w fun x17 w =>
  sExtract x16 1 w fun x18 w =>
  sCall Try.prog 79 [f0] w fun x21 w =>
  sCall Try.prog 49 [x21, from1, to2, x17] w fun x25 w =>
  sExtract x25 0 w fun x26 w =>
  sExtract x25 1 w fun x27 w =>
  sCall Try.prog 76 [x26, x27, x18] w fun x31 w =>
  sExtract x31 0 w fun x32 w =>
  sExtract x31 1 w fun x33 w =>
  K (.tuple #[x32, x33]) w

def flow_Flow_Replace.sc : SC := (.seq (.reg (.op 0 (.op 1 .done))) (.seq (.reg (.op 0 (.op 1 (.op 2 (.op 3 (.op 4 (.op 5 (.op 6 .done)))))))) (.seq (.reg (.op 0 (.op 1 (.op 2 (.op 3 (.op 4 (.op 5 (.op 6 (.op 7 (.op 8 (.op 9 (.op 10 .done)))))))))))) (.seq (.reg (.op 0 (.op 1 (.op 2 (.op 3 (.op 4 (.op 5 (.op 6 (.op 7 .done))))))))) .nop))))

theorem flow_Flow_Replace.ok : okC Try.f54.ntmps flow_Flow_Replace.sc (bodyOf Try.f54) = true := by kernel_rfl

theorem flow_Flow_Replace.eq {K : K1} {f0 from1 to2 l3 : Value} {w : World} : flow_Flow_Replace K f0 from1 to2 l3 w = codeS Try.prog flow_Flow_Replace.sc (bodyOf Try.f54) (argsF 0 [f0, from1, to2, l3]) w (retQ Try.prog Try.f54.results.toList K) := by kernel_rfl

theorem flow_Flow_Replace.call {K : K1} {f0 from1 to2 l3 : Value} {w : World} (h : flow_Flow_Replace K f0 from1 to2 l3 w) : sCall Try.prog 54 [f0, from1, to2, l3] w K := sCall_code mixed Try.func54 (by kernel_rfl) rfl rfl flow_Flow_Replace.ok flow_Flow_Replace.eq h

abbrev flow_Flow_Replace.n : Nat := 54

/-- 'bodkin bodkinref04.Right' -/
def bodkinref04_Right_L1 (K : K1) (Nx1 : List Value → World → Prop) (i1 : Value) (k3 : Value) (w : World) : Prop :=
  sBin Try.prog .lss 3 false true k3 (.int .i64 3) w fun x5 w =>
  sIf x5 (
    sFldA Try.prog 105 i1 2 w fun x9 w =>
    sIdxA Try.prog 30 x9 k3 w fun x10 w =>
    sLoad Try.prog 3 x10 w fun x11 w =>
    sBin Try.prog .lss 3 false true x11 (.int .i64 0) w fun x12 w =>
    sIf x12 (
      K (.bool false) w) (
      sFldA Try.prog 105 i1 2 w fun x15 w =>
      sIdxA Try.prog 30 x15 k3 w fun x16 w =>
      sLoad Try.prog 3 x16 w fun x17 w =>
      sBin Try.prog .gtr 3 false true x17 (.int .i64 1099511627776) w fun x18 w =>
      sIf x18 (
        K (.bool false) w) (
        sBin Try.prog .add 3 false true k3 (.int .i64 1) w fun x7 w =>
        Nx1 [x7] w))) (
    sFldA Try.prog 105 i1 3 w fun x20 w =>
    sLoad Try.prog 3 x20 w fun x21 w =>
    sBin Try.prog .geq 3 false true x21 (.int .i64 0) w fun x22 w =>
    sIf x22 (
      sFldA Try.prog 105 i1 3 w fun x24 w =>
      sLoad Try.prog 3 x24 w fun x25 w =>
      sBin Try.prog .leq 3 false true x25 (.int .i64 1099511627776) w fun x26 w =>
      K x26 w) (
      K (.bool false) w))

def bodkinref04_Right (K : K1) (i0 : Value) (w : World) : Prop :=
  sBox Try.prog 105 i0 w fun i1 w =>
  LoopS [(.int .i64 0)] 1 17 w fun us _ w Nx1 =>
    bodkinref04_Right_L1 K Nx1 i1 (hd us) w

def bodkinref04_Right.sc : SC := (.seq (.reg (.op 0 (.op 1 .done))) (.seq (.seq (.reg (.op 0 .done)) (.sub (.loop [3] [4, 5, 8, 9, 10, 11, 12, 13, 14, 15, 16, 17, 18, 19, 2, 6, 7] (.seq (.seq (.reg (.op 0 (.op 1 .done))) (.cond .nop .nop)) (.seq (.sub (.seq (.reg (.op 0 (.op 1 (.op 2 (.op 3 (.op 4 (.op 5 (.test 5 (.skip 6 (.skip 7 (.skip 8 (.skip 9 (.skip 10 (.op 11 .done)))))) (.op 6 (.op 7 (.op 8 (.op 9 (.op 10 (.op 11 .done)))))))))))))) (.cond (.seq (.reg (.op 0 .done)) .nop) .nop))) (.reg (.op 0 (.op 1 (.op 2 .done))))))))) (.seq (.reg (.op 0 (.op 1 (.op 2 (.op 3 (.test 3 (.op 4 (.op 5 (.op 6 (.op 7 (.op 8 .done))))) (.skip 4 (.skip 5 (.skip 6 (.op 7 (.op 8 .done))))))))))) .nop)))

theorem bodkinref04_Right.ok : okC Try.f55.ntmps bodkinref04_Right.sc (bodyOf Try.f55) = true := by kernel_rfl

theorem bodkinref04_Right.eq {K : K1} {i0 : Value} {w : World} : bodkinref04_Right K i0 w = codeS Try.prog bodkinref04_Right.sc (bodyOf Try.f55) (argsF 0 [i0]) w (retQ Try.prog Try.f55.results.toList K) := by kernel_rfl

theorem bodkinref04_Right.call {K : K1} {i0 : Value} {w : World} (h : bodkinref04_Right K i0 w) : sCall Try.prog 55 [i0] w K := sCall_code mixed Try.func55 (by kernel_rfl) rfl rfl bodkinref04_Right.ok bodkinref04_Right.eq h

abbrev bodkinref04_Right.n : Nat := 55

end S
end Go.Proofs.Ytmlbaimdphillaa

/- The functions of this seat, their code without slots, and that a call of each is what its code says: by program (lift.py). No conditions. -/
import Derived.Test.YtpjmmhbdondknaaDoorRs4
import Derived.Test.YtpjmmhbdondknaaDoorRows
import Derived.KernelRfl
namespace Go.Proofs.YtpjmmhbdondknaaDoor
open Go Go.Lift
namespace S
set_option maxRecDepth 10000
set_option linter.unusedVariables false
theorem mixed : Tryd.prog.follows .mixedOrders = true := by kernel_rfl
abbrev T.int64 : Nat := 2
theorem tcell_int64 : cellQ Tryd.prog 2 = true := by kernel_rfl
theorem tsz_int64 : szQ Tryd.prog 2 = 1 := by kernel_rfl
theorem tby_int64 : byQ Tryd.prog 2 = 8 := by kernel_rfl
theorem tze_int64 : zeroQ Tryd.prog 2 = some [(.int .i64 0)] := by kernel_rfl
abbrev T.int : Nat := 3
theorem tcell_int : cellQ Tryd.prog 3 = true := by kernel_rfl
theorem tsz_int : szQ Tryd.prog 3 = 1 := by kernel_rfl
theorem tby_int : byQ Tryd.prog 3 = 8 := by kernel_rfl
theorem tze_int : zeroQ Tryd.prog 3 = some [(.int .i64 0)] := by kernel_rfl
abbrev T.bool : Nat := 4
theorem tcell_bool : cellQ Tryd.prog 4 = true := by kernel_rfl
theorem tsz_bool : szQ Tryd.prog 4 = 1 := by kernel_rfl
theorem tby_bool : byQ Tryd.prog 4 = 1 := by kernel_rfl
theorem tze_bool : zeroQ Tryd.prog 4 = some [(.bool false)] := by kernel_rfl
abbrev T.uint8 : Nat := 5
theorem tcell_uint8 : cellQ Tryd.prog 5 = true := by kernel_rfl
theorem tsz_uint8 : szQ Tryd.prog 5 = 1 := by kernel_rfl
theorem tby_uint8 : byQ Tryd.prog 5 = 1 := by kernel_rfl
theorem tze_uint8 : zeroQ Tryd.prog 5 = some [(.int .u8 0)] := by kernel_rfl
abbrev T.string : Nat := 9
theorem tcell_string : cellQ Tryd.prog 9 = true := by kernel_rfl
theorem tsz_string : szQ Tryd.prog 9 = 1 := by kernel_rfl
theorem tby_string : byQ Tryd.prog 9 = 16 := by kernel_rfl
theorem tze_string : zeroQ Tryd.prog 9 = some [(.string ⟨#[]⟩)] := by kernel_rfl
abbrev T.interface___ : Nat := 20
theorem tcell_interface___ : cellQ Tryd.prog 20 = true := by kernel_rfl
theorem tsz_interface___ : szQ Tryd.prog 20 = 1 := by kernel_rfl
theorem tby_interface___ : byQ Tryd.prog 20 = 16 := by kernel_rfl
theorem tze_interface___ : zeroQ Tryd.prog 20 = some [.nilIface] := by kernel_rfl
theorem tif_interface___ : ifcQ Tryd.prog 20 = true := by kernel_rfl
abbrev T.int32 : Nat := 21
theorem tcell_int32 : cellQ Tryd.prog 21 = true := by kernel_rfl
theorem tsz_int32 : szQ Tryd.prog 21 = 1 := by kernel_rfl
theorem tby_int32 : byQ Tryd.prog 21 = 4 := by kernel_rfl
theorem tze_int32 : zeroQ Tryd.prog 21 = some [(.int .i32 0)] := by kernel_rfl
abbrev T.L_api_Edit : Nat := 22
theorem tcell_L_api_Edit : cellQ Tryd.prog 22 = true := by kernel_rfl
theorem tsz_L_api_Edit : szQ Tryd.prog 22 = 1 := by kernel_rfl
theorem tby_L_api_Edit : byQ Tryd.prog 22 = 24 := by kernel_rfl
theorem tze_L_api_Edit : zeroQ Tryd.prog 22 = some [(.slice none 0 0)] := by kernel_rfl
theorem tel_L_api_Edit : elQ Tryd.prog 22 = some 45 := by kernel_rfl
abbrev T.api_Errno : Nat := 24
theorem tcell_api_Errno : cellQ Tryd.prog 24 = true := by kernel_rfl
theorem tsz_api_Errno : szQ Tryd.prog 24 = 1 := by kernel_rfl
theorem tby_api_Errno : byQ Tryd.prog 24 = 8 := by kernel_rfl
theorem tze_api_Errno : zeroQ Tryd.prog 24 = some [(.int .i64 0)] := by kernel_rfl
abbrev T.P_rope_Rope : Nat := 29
theorem tcell_P_rope_Rope : cellQ Tryd.prog 29 = true := by kernel_rfl
theorem tsz_P_rope_Rope : szQ Tryd.prog 29 = 1 := by kernel_rfl
theorem tby_P_rope_Rope : byQ Tryd.prog 29 = 8 := by kernel_rfl
theorem tze_P_rope_Rope : zeroQ Tryd.prog 29 = some [(.pointer none)] := by kernel_rfl
theorem tpt_P_rope_Rope : ptQ Tryd.prog 29 = true := by kernel_rfl
theorem tcq_P_rope_Rope : concQ Tryd.prog 29 = true := by kernel_rfl
abbrev T.L_int32 : Nat := 32
theorem tcell_L_int32 : cellQ Tryd.prog 32 = true := by kernel_rfl
theorem tsz_L_int32 : szQ Tryd.prog 32 = 1 := by kernel_rfl
theorem tby_L_int32 : byQ Tryd.prog 32 = 24 := by kernel_rfl
theorem tze_L_int32 : zeroQ Tryd.prog 32 = some [(.slice none 0 0)] := by kernel_rfl
theorem tel_L_int32 : elQ Tryd.prog 32 = some 21 := by kernel_rfl
abbrev T.api_Edit : Nat := 45
theorem tagg_api_Edit : aggN Tryd.prog 45 = some 3 := by kernel_rfl
theorem tsz_api_Edit : szQ Tryd.prog 45 = 3 := by kernel_rfl
theorem tby_api_Edit : byQ Tryd.prog 45 = 32 := by kernel_rfl
theorem tze_api_Edit : zeroQ Tryd.prog 45 = some [(.int .i64 0), (.int .i64 0), (.string ⟨#[]⟩)] := by kernel_rfl
theorem tfl_api_Edit_From : flQ Tryd.prog 45 0 = some 0 := by kernel_rfl
theorem tfl_api_Edit_To : flQ Tryd.prog 45 1 = some 1 := by kernel_rfl
theorem tfl_api_Edit_Text : flQ Tryd.prog 45 2 = some 2 := by kernel_rfl
theorem tpl_api_Edit : plQ Tryd.prog 45 = some [(0, 1), (1, 1), (2, 1)] := by kernel_rfl
theorem tfd_api_Edit_From : fdT Tryd.prog 45 0 = some (3, 0) := by kernel_rfl
theorem tfd_api_Edit_To : fdT Tryd.prog 45 1 = some (3, 1) := by kernel_rfl
theorem tfd_api_Edit_Text : fdT Tryd.prog 45 2 = some (9, 2) := by kernel_rfl
abbrev T.dl_api_Edit : List Nat := [3, 3, 9]
theorem tdq_api_Edit : deepQ Tryd.prog 20 45 = some T.dl_api_Edit := by kernel_rfl
theorem taq_api_Edit : aggQ Tryd.prog 45 = true := by kernel_rfl
theorem tgq_api_Edit : Tryd.prog.eqGuardType Tryd.prog.depth 45 = false := by kernel_rfl
abbrev T.L_L_api_Edit : Nat := 47
theorem tcell_L_L_api_Edit : cellQ Tryd.prog 47 = true := by kernel_rfl
theorem tsz_L_L_api_Edit : szQ Tryd.prog 47 = 1 := by kernel_rfl
theorem tby_L_L_api_Edit : byQ Tryd.prog 47 = 24 := by kernel_rfl
theorem tze_L_L_api_Edit : zeroQ Tryd.prog 47 = some [(.slice none 0 0)] := by kernel_rfl
theorem tel_L_L_api_Edit : elQ Tryd.prog 47 = some 22 := by kernel_rfl
abbrev T.P_history_History : Nat := 48
theorem tcell_P_history_History : cellQ Tryd.prog 48 = true := by kernel_rfl
theorem tsz_P_history_History : szQ Tryd.prog 48 = 1 := by kernel_rfl
theorem tby_P_history_History : byQ Tryd.prog 48 = 8 := by kernel_rfl
theorem tze_P_history_History : zeroQ Tryd.prog 48 = some [(.pointer none)] := by kernel_rfl
theorem tpt_P_history_History : ptQ Tryd.prog 48 = true := by kernel_rfl
theorem tcq_P_history_History : concQ Tryd.prog 48 = true := by kernel_rfl
abbrev T.L_string : Nat := 50
theorem tcell_L_string : cellQ Tryd.prog 50 = true := by kernel_rfl
theorem tsz_L_string : szQ Tryd.prog 50 = 1 := by kernel_rfl
theorem tby_L_string : byQ Tryd.prog 50 = 24 := by kernel_rfl
theorem tze_L_string : zeroQ Tryd.prog 50 = some [(.slice none 0 0)] := by kernel_rfl
theorem tel_L_string : elQ Tryd.prog 50 = some 9 := by kernel_rfl
abbrev T.history_Step : Nat := 53
theorem tagg_history_Step : aggN Tryd.prog 53 = some 2 := by kernel_rfl
theorem tsz_history_Step : szQ Tryd.prog 53 = 2 := by kernel_rfl
theorem tby_history_Step : byQ Tryd.prog 53 = 48 := by kernel_rfl
theorem tze_history_Step : zeroQ Tryd.prog 53 = some [(.slice none 0 0), (.slice none 0 0)] := by kernel_rfl
theorem tfl_history_Step_Back : flQ Tryd.prog 53 0 = some 0 := by kernel_rfl
theorem tfl_history_Step_Forth : flQ Tryd.prog 53 1 = some 1 := by kernel_rfl
theorem tpl_history_Step : plQ Tryd.prog 53 = some [(0, 1), (1, 1)] := by kernel_rfl
theorem tfd_history_Step_Back : fdT Tryd.prog 53 0 = some (22, 0) := by kernel_rfl
theorem tfd_history_Step_Forth : fdT Tryd.prog 53 1 = some (22, 1) := by kernel_rfl
abbrev T.P_tree_Tree : Nat := 57
theorem tcell_P_tree_Tree : cellQ Tryd.prog 57 = true := by kernel_rfl
theorem tsz_P_tree_Tree : szQ Tryd.prog 57 = 1 := by kernel_rfl
theorem tby_P_tree_Tree : byQ Tryd.prog 57 = 8 := by kernel_rfl
theorem tze_P_tree_Tree : zeroQ Tryd.prog 57 = some [(.pointer none)] := by kernel_rfl
theorem tpt_P_tree_Tree : ptQ Tryd.prog 57 = true := by kernel_rfl
theorem tcq_P_tree_Tree : concQ Tryd.prog 57 = true := by kernel_rfl
abbrev T.L_item_Item : Nat := 60
theorem tcell_L_item_Item : cellQ Tryd.prog 60 = true := by kernel_rfl
theorem tsz_L_item_Item : szQ Tryd.prog 60 = 1 := by kernel_rfl
theorem tby_L_item_Item : byQ Tryd.prog 60 = 24 := by kernel_rfl
theorem tze_L_item_Item : zeroQ Tryd.prog 60 = some [(.slice none 0 0)] := by kernel_rfl
theorem tel_L_item_Item : elQ Tryd.prog 60 = some 93 := by kernel_rfl
abbrev T.rope_Rope : Nat := 63
theorem tagg_rope_Rope : aggN Tryd.prog 63 = some 1 := by kernel_rfl
theorem tsz_rope_Rope : szQ Tryd.prog 63 = 1 := by kernel_rfl
theorem tby_rope_Rope : byQ Tryd.prog 63 = 8 := by kernel_rfl
theorem tze_rope_Rope : zeroQ Tryd.prog 63 = some [(.pointer none)] := by kernel_rfl
theorem tfl_rope_Rope_t : flQ Tryd.prog 63 0 = some 0 := by kernel_rfl
theorem tpl_rope_Rope : plQ Tryd.prog 63 = some [(0, 1)] := by kernel_rfl
theorem tfd_rope_Rope_t : fdT Tryd.prog 63 0 = some (57, 0) := by kernel_rfl
abbrev T.bodkinref01_Rune : Nat := 65
theorem tagg_bodkinref01_Rune : aggN Tryd.prog 65 = some 2 := by kernel_rfl
theorem tsz_bodkinref01_Rune : szQ Tryd.prog 65 = 2 := by kernel_rfl
theorem tby_bodkinref01_Rune : byQ Tryd.prog 65 = 16 := by kernel_rfl
theorem tze_bodkinref01_Rune : zeroQ Tryd.prog 65 = some [(.int .i32 0), (.int .i64 0)] := by kernel_rfl
theorem tfl_bodkinref01_Rune_R : flQ Tryd.prog 65 0 = some 0 := by kernel_rfl
theorem tfl_bodkinref01_Rune_N : flQ Tryd.prog 65 1 = some 1 := by kernel_rfl
theorem tpl_bodkinref01_Rune : plQ Tryd.prog 65 = some [(0, 1), (1, 1)] := by kernel_rfl
theorem tfd_bodkinref01_Rune_R : fdT Tryd.prog 65 0 = some (21, 0) := by kernel_rfl
theorem tfd_bodkinref01_Rune_N : fdT Tryd.prog 65 1 = some (3, 1) := by kernel_rfl
abbrev T.dl_bodkinref01_Rune : List Nat := [21, 3]
theorem tdq_bodkinref01_Rune : deepQ Tryd.prog 20 65 = some T.dl_bodkinref01_Rune := by kernel_rfl
theorem taq_bodkinref01_Rune : aggQ Tryd.prog 65 = true := by kernel_rfl
theorem tgq_bodkinref01_Rune : Tryd.prog.eqGuardType Tryd.prog.depth 65 = false := by kernel_rfl
abbrev T.A2_int : Nat := 75
theorem tagg_A2_int : aggN Tryd.prog 75 = some 2 := by kernel_rfl
theorem tsz_A2_int : szQ Tryd.prog 75 = 2 := by kernel_rfl
theorem tby_A2_int : byQ Tryd.prog 75 = 16 := by kernel_rfl
theorem tze_A2_int : zeroQ Tryd.prog 75 = some [(.int .i64 0), (.int .i64 0)] := by kernel_rfl
theorem tpl_A2_int : plQ Tryd.prog 75 = some [(0, 1), (1, 1)] := by kernel_rfl
theorem tar_A2_int : arQ Tryd.prog 75 = some (2, 3) := by kernel_rfl
abbrev T.dl_A2_int : List Nat := [3, 3]
theorem tdq_A2_int : deepQ Tryd.prog 20 75 = some T.dl_A2_int := by kernel_rfl
theorem taq_A2_int : aggQ Tryd.prog 75 = true := by kernel_rfl
theorem tgq_A2_int : Tryd.prog.eqGuardType Tryd.prog.depth 75 = false := by kernel_rfl
abbrev T.L_history_Step : Nat := 83
theorem tcell_L_history_Step : cellQ Tryd.prog 83 = true := by kernel_rfl
theorem tsz_L_history_Step : szQ Tryd.prog 83 = 1 := by kernel_rfl
theorem tby_L_history_Step : byQ Tryd.prog 83 = 24 := by kernel_rfl
theorem tze_L_history_Step : zeroQ Tryd.prog 83 = some [(.slice none 0 0)] := by kernel_rfl
theorem tel_L_history_Step : elQ Tryd.prog 83 = some 53 := by kernel_rfl
abbrev T.A2_L_history_Step : Nat := 84
theorem tagg_A2_L_history_Step : aggN Tryd.prog 84 = some 2 := by kernel_rfl
theorem tsz_A2_L_history_Step : szQ Tryd.prog 84 = 2 := by kernel_rfl
theorem tby_A2_L_history_Step : byQ Tryd.prog 84 = 48 := by kernel_rfl
theorem tze_A2_L_history_Step : zeroQ Tryd.prog 84 = some [(.slice none 0 0), (.slice none 0 0)] := by kernel_rfl
theorem tpl_A2_L_history_Step : plQ Tryd.prog 84 = some [(0, 1), (1, 1)] := by kernel_rfl
theorem tar_A2_L_history_Step : arQ Tryd.prog 84 = some (2, 83) := by kernel_rfl
abbrev T.history_History : Nat := 86
theorem tagg_history_History : aggN Tryd.prog 86 = some 2 := by kernel_rfl
theorem tsz_history_History : szQ Tryd.prog 86 = 2 := by kernel_rfl
theorem tby_history_History : byQ Tryd.prog 86 = 48 := by kernel_rfl
theorem tze_history_History : zeroQ Tryd.prog 86 = some [(.slice none 0 0), (.slice none 0 0)] := by kernel_rfl
theorem tfl_history_History_rows : flQ Tryd.prog 86 0 = some 0 := by kernel_rfl
theorem tpl_history_History : plQ Tryd.prog 86 = some [(0, 2)] := by kernel_rfl
theorem tfd_history_History_rows : fdT Tryd.prog 86 0 = some (84, 0) := by kernel_rfl
abbrev T.tree_node : Nat := 90
theorem tcell_tree_node : cellQ Tryd.prog 90 = true := by kernel_rfl
theorem tsz_tree_node : szQ Tryd.prog 90 = 1 := by kernel_rfl
theorem tby_tree_node : byQ Tryd.prog 90 = 16 := by kernel_rfl
theorem tze_tree_node : zeroQ Tryd.prog 90 = some [.nilIface] := by kernel_rfl
theorem tif_tree_node : ifcQ Tryd.prog 90 = true := by kernel_rfl
abbrev T.A3_int : Nat := 91
theorem tagg_A3_int : aggN Tryd.prog 91 = some 3 := by kernel_rfl
theorem tsz_A3_int : szQ Tryd.prog 91 = 3 := by kernel_rfl
theorem tby_A3_int : byQ Tryd.prog 91 = 24 := by kernel_rfl
theorem tze_A3_int : zeroQ Tryd.prog 91 = some [(.int .i64 0), (.int .i64 0), (.int .i64 0)] := by kernel_rfl
theorem tpl_A3_int : plQ Tryd.prog 91 = some [(0, 1), (1, 1), (2, 1)] := by kernel_rfl
theorem tar_A3_int : arQ Tryd.prog 91 = some (3, 3) := by kernel_rfl
abbrev T.dl_A3_int : List Nat := [3, 3, 3]
theorem tdq_A3_int : deepQ Tryd.prog 20 91 = some T.dl_A3_int := by kernel_rfl
theorem taq_A3_int : aggQ Tryd.prog 91 = true := by kernel_rfl
theorem tgq_A3_int : Tryd.prog.eqGuardType Tryd.prog.depth 91 = false := by kernel_rfl
abbrev T.item_Item : Nat := 93
theorem tagg_item_Item : aggN Tryd.prog 93 = some 7 := by kernel_rfl
theorem tsz_item_Item : szQ Tryd.prog 93 = 7 := by kernel_rfl
theorem tby_item_Item : byQ Tryd.prog 93 = 64 := by kernel_rfl
theorem tze_item_Item : zeroQ Tryd.prog 93 = some [(.int .i64 0), (.int .i64 0), (.int .i64 0), (.int .i64 0), (.int .i64 0), (.int .i64 0), (.string ⟨#[]⟩)] := by kernel_rfl
theorem tfl_item_Item_Tag : flQ Tryd.prog 93 0 = some 0 := by kernel_rfl
theorem tfl_item_Item_ID : flQ Tryd.prog 93 1 = some 1 := by kernel_rfl
theorem tfl_item_Item_D : flQ Tryd.prog 93 2 = some 2 := by kernel_rfl
theorem tfl_item_Item_Max : flQ Tryd.prog 93 3 = some 5 := by kernel_rfl
theorem tfl_item_Item_Text : flQ Tryd.prog 93 4 = some 6 := by kernel_rfl
theorem tpl_item_Item : plQ Tryd.prog 93 = some [(0, 1), (1, 1), (2, 3), (5, 1), (6, 1)] := by kernel_rfl
theorem tfd_item_Item_Tag : fdT Tryd.prog 93 0 = some (3, 0) := by kernel_rfl
theorem tfd_item_Item_ID : fdT Tryd.prog 93 1 = some (3, 1) := by kernel_rfl
theorem tfd_item_Item_D : fdT Tryd.prog 93 2 = some (91, 2) := by kernel_rfl
theorem tfd_item_Item_Max : fdT Tryd.prog 93 3 = some (3, 5) := by kernel_rfl
theorem tfd_item_Item_Text : fdT Tryd.prog 93 4 = some (9, 6) := by kernel_rfl
abbrev T.dl_item_Item : List Nat := [3, 3, 3, 3, 3, 3, 9]
theorem tdq_item_Item : deepQ Tryd.prog 20 93 = some T.dl_item_Item := by kernel_rfl
theorem taq_item_Item : aggQ Tryd.prog 93 = true := by kernel_rfl
theorem tgq_item_Item : Tryd.prog.eqGuardType Tryd.prog.depth 93 = false := by kernel_rfl
abbrev T.P_tree_leaf : Nat := 96
theorem tcell_P_tree_leaf : cellQ Tryd.prog 96 = true := by kernel_rfl
theorem tsz_P_tree_leaf : szQ Tryd.prog 96 = 1 := by kernel_rfl
theorem tby_P_tree_leaf : byQ Tryd.prog 96 = 8 := by kernel_rfl
theorem tze_P_tree_leaf : zeroQ Tryd.prog 96 = some [(.pointer none)] := by kernel_rfl
theorem tpt_P_tree_leaf : ptQ Tryd.prog 96 = true := by kernel_rfl
theorem tcq_P_tree_leaf : concQ Tryd.prog 96 = true := by kernel_rfl
abbrev T.tree_Tree : Nat := 99
theorem tagg_tree_Tree : aggN Tryd.prog 99 = some 1 := by kernel_rfl
theorem tsz_tree_Tree : szQ Tryd.prog 99 = 1 := by kernel_rfl
theorem tby_tree_Tree : byQ Tryd.prog 99 = 16 := by kernel_rfl
theorem tze_tree_Tree : zeroQ Tryd.prog 99 = some [.nilIface] := by kernel_rfl
theorem tfl_tree_Tree_root : flQ Tryd.prog 99 0 = some 0 := by kernel_rfl
theorem tpl_tree_Tree : plQ Tryd.prog 99 = some [(0, 1)] := by kernel_rfl
theorem tfd_tree_Tree_root : fdT Tryd.prog 99 0 = some (90, 0) := by kernel_rfl
abbrev T.item_Sum : Nat := 103
theorem tagg_item_Sum : aggN Tryd.prog 103 = some 6 := by kernel_rfl
theorem tsz_item_Sum : szQ Tryd.prog 103 = 6 := by kernel_rfl
theorem tby_item_Sum : byQ Tryd.prog 103 = 48 := by kernel_rfl
theorem tze_item_Sum : zeroQ Tryd.prog 103 = some [(.int .i64 0), (.int .i64 0), (.int .i64 0), (.int .i64 0), (.int .i64 0), (.int .i64 0)] := by kernel_rfl
theorem tfl_item_Sum_N : flQ Tryd.prog 103 0 = some 0 := by kernel_rfl
theorem tfl_item_Sum_D : flQ Tryd.prog 103 1 = some 1 := by kernel_rfl
theorem tfl_item_Sum_Max : flQ Tryd.prog 103 2 = some 4 := by kernel_rfl
theorem tfl_item_Sum_At : flQ Tryd.prog 103 3 = some 5 := by kernel_rfl
theorem tpl_item_Sum : plQ Tryd.prog 103 = some [(0, 1), (1, 3), (4, 1), (5, 1)] := by kernel_rfl
theorem tfd_item_Sum_N : fdT Tryd.prog 103 0 = some (3, 0) := by kernel_rfl
theorem tfd_item_Sum_D : fdT Tryd.prog 103 1 = some (91, 1) := by kernel_rfl
theorem tfd_item_Sum_Max : fdT Tryd.prog 103 2 = some (3, 4) := by kernel_rfl
theorem tfd_item_Sum_At : fdT Tryd.prog 103 3 = some (3, 5) := by kernel_rfl
abbrev T.dl_item_Sum : List Nat := [3, 3, 3, 3, 3, 3]
theorem tdq_item_Sum : deepQ Tryd.prog 20 103 = some T.dl_item_Sum := by kernel_rfl
theorem taq_item_Sum : aggQ Tryd.prog 103 = true := by kernel_rfl
theorem tgq_item_Sum : Tryd.prog.eqGuardType Tryd.prog.depth 103 = false := by kernel_rfl
abbrev T.rope_spot : Nat := 105
theorem tagg_rope_spot : aggN Tryd.prog 105 = some 14 := by kernel_rfl
theorem tsz_rope_spot : szQ Tryd.prog 105 = 14 := by kernel_rfl
theorem tby_rope_spot : byQ Tryd.prog 105 = 120 := by kernel_rfl
theorem tze_rope_spot : zeroQ Tryd.prog 105 = some [(.int .i64 0), (.int .i64 0), (.int .i64 0), (.int .i64 0), (.int .i64 0), (.int .i64 0), (.int .i64 0), (.int .i64 0), (.int .i64 0), (.int .i64 0), (.int .i64 0), (.int .i64 0), (.string ⟨#[]⟩), (.int .i64 0)] := by kernel_rfl
theorem tfl_rope_spot_before : flQ Tryd.prog 105 0 = some 0 := by kernel_rfl
theorem tfl_rope_spot_piece : flQ Tryd.prog 105 1 = some 6 := by kernel_rfl
theorem tfl_rope_spot_bytes : flQ Tryd.prog 105 2 = some 13 := by kernel_rfl
theorem tpl_rope_spot : plQ Tryd.prog 105 = some [(0, 6), (6, 7), (13, 1)] := by kernel_rfl
theorem tfd_rope_spot_before : fdT Tryd.prog 105 0 = some (103, 0) := by kernel_rfl
theorem tfd_rope_spot_piece : fdT Tryd.prog 105 1 = some (93, 6) := by kernel_rfl
theorem tfd_rope_spot_bytes : fdT Tryd.prog 105 2 = some (3, 13) := by kernel_rfl
abbrev T.dl_rope_spot : List Nat := [3, 3, 3, 3, 3, 3, 3, 3, 3, 3, 3, 3, 9, 3]
theorem tdq_rope_spot : deepQ Tryd.prog 20 105 = some T.dl_rope_spot := by kernel_rfl
theorem taq_rope_spot : aggQ Tryd.prog 105 = true := by kernel_rfl
theorem tgq_rope_spot : Tryd.prog.eqGuardType Tryd.prog.depth 105 = false := by kernel_rfl
abbrev T.P_seek_Cursor : Nat := 106
theorem tcell_P_seek_Cursor : cellQ Tryd.prog 106 = true := by kernel_rfl
theorem tsz_P_seek_Cursor : szQ Tryd.prog 106 = 1 := by kernel_rfl
theorem tby_P_seek_Cursor : byQ Tryd.prog 106 = 8 := by kernel_rfl
theorem tze_P_seek_Cursor : zeroQ Tryd.prog 106 = some [(.pointer none)] := by kernel_rfl
theorem tpt_P_seek_Cursor : ptQ Tryd.prog 106 = true := by kernel_rfl
theorem tcq_P_seek_Cursor : concQ Tryd.prog 106 = true := by kernel_rfl
abbrev T.P_strings_Builder : Nat := 115
theorem tcell_P_strings_Builder : cellQ Tryd.prog 115 = true := by kernel_rfl
theorem tsz_P_strings_Builder : szQ Tryd.prog 115 = 1 := by kernel_rfl
theorem tby_P_strings_Builder : byQ Tryd.prog 115 = 8 := by kernel_rfl
theorem tze_P_strings_Builder : zeroQ Tryd.prog 115 = some [(.pointer none)] := by kernel_rfl
theorem tpt_P_strings_Builder : ptQ Tryd.prog 115 = true := by kernel_rfl
theorem tcq_P_strings_Builder : concQ Tryd.prog 115 = true := by kernel_rfl
abbrev T.L_uint8 : Nat := 116
theorem tcell_L_uint8 : cellQ Tryd.prog 116 = true := by kernel_rfl
theorem tsz_L_uint8 : szQ Tryd.prog 116 = 1 := by kernel_rfl
theorem tby_L_uint8 : byQ Tryd.prog 116 = 24 := by kernel_rfl
theorem tze_L_uint8 : zeroQ Tryd.prog 116 = some [(.slice none 0 0)] := by kernel_rfl
theorem tel_L_uint8 : elQ Tryd.prog 116 = some 5 := by kernel_rfl
abbrev T.strings_Builder : Nat := 118
theorem tagg_strings_Builder : aggN Tryd.prog 118 = some 2 := by kernel_rfl
theorem tsz_strings_Builder : szQ Tryd.prog 118 = 2 := by kernel_rfl
theorem tby_strings_Builder : byQ Tryd.prog 118 = 32 := by kernel_rfl
theorem tze_strings_Builder : zeroQ Tryd.prog 118 = some [(.pointer none), (.slice none 0 0)] := by kernel_rfl
theorem tfl_strings_Builder_addr : flQ Tryd.prog 118 0 = some 0 := by kernel_rfl
theorem tfl_strings_Builder_buf : flQ Tryd.prog 118 1 = some 1 := by kernel_rfl
theorem tpl_strings_Builder : plQ Tryd.prog 118 = some [(0, 1), (1, 1)] := by kernel_rfl
theorem tfd_strings_Builder_addr : fdT Tryd.prog 118 0 = some (115, 0) := by kernel_rfl
theorem tfd_strings_Builder_buf : fdT Tryd.prog 118 1 = some (116, 1) := by kernel_rfl
abbrev T.interface___Error___string__ : Nat := 121
theorem tcell_interface___Error___string__ : cellQ Tryd.prog 121 = true := by kernel_rfl
theorem tsz_interface___Error___string__ : szQ Tryd.prog 121 = 1 := by kernel_rfl
theorem tby_interface___Error___string__ : byQ Tryd.prog 121 = 16 := by kernel_rfl
theorem tze_interface___Error___string__ : zeroQ Tryd.prog 121 = some [.nilIface] := by kernel_rfl
abbrev T.error : Nat := 122
theorem tcell_error : cellQ Tryd.prog 122 = true := by kernel_rfl
theorem tsz_error : szQ Tryd.prog 122 = 1 := by kernel_rfl
theorem tby_error : byQ Tryd.prog 122 = 16 := by kernel_rfl
theorem tze_error : zeroQ Tryd.prog 122 = some [.nilIface] := by kernel_rfl
abbrev T.L_tree_node : Nat := 128
theorem tcell_L_tree_node : cellQ Tryd.prog 128 = true := by kernel_rfl
theorem tsz_L_tree_node : szQ Tryd.prog 128 = 1 := by kernel_rfl
theorem tby_L_tree_node : byQ Tryd.prog 128 = 24 := by kernel_rfl
theorem tze_L_tree_node : zeroQ Tryd.prog 128 = some [(.slice none 0 0)] := by kernel_rfl
theorem tel_L_tree_node : elQ Tryd.prog 128 = some 90 := by kernel_rfl
abbrev T.P_tree_inner : Nat := 130
theorem tcell_P_tree_inner : cellQ Tryd.prog 130 = true := by kernel_rfl
theorem tsz_P_tree_inner : szQ Tryd.prog 130 = 1 := by kernel_rfl
theorem tby_P_tree_inner : byQ Tryd.prog 130 = 8 := by kernel_rfl
theorem tze_P_tree_inner : zeroQ Tryd.prog 130 = some [(.pointer none)] := by kernel_rfl
theorem tpt_P_tree_inner : ptQ Tryd.prog 130 = true := by kernel_rfl
theorem tcq_P_tree_inner : concQ Tryd.prog 130 = true := by kernel_rfl
abbrev T.tree_leaf : Nat := 134
theorem tagg_tree_leaf : aggN Tryd.prog 134 = some 7 := by kernel_rfl
theorem tsz_tree_leaf : szQ Tryd.prog 134 = 7 := by kernel_rfl
theorem tby_tree_leaf : byQ Tryd.prog 134 = 72 := by kernel_rfl
theorem tze_tree_leaf : zeroQ Tryd.prog 134 = some [(.slice none 0 0), (.int .i64 0), (.int .i64 0), (.int .i64 0), (.int .i64 0), (.int .i64 0), (.int .i64 0)] := by kernel_rfl
theorem tfl_tree_leaf_items : flQ Tryd.prog 134 0 = some 0 := by kernel_rfl
theorem tfl_tree_leaf_sum : flQ Tryd.prog 134 1 = some 1 := by kernel_rfl
theorem tpl_tree_leaf : plQ Tryd.prog 134 = some [(0, 1), (1, 6)] := by kernel_rfl
theorem tfd_tree_leaf_items : fdT Tryd.prog 134 0 = some (60, 0) := by kernel_rfl
theorem tfd_tree_leaf_sum : fdT Tryd.prog 134 1 = some (103, 1) := by kernel_rfl
abbrev T.tree_Place : Nat := 138
theorem tagg_tree_Place : aggN Tryd.prog 138 = some 8 := by kernel_rfl
theorem tsz_tree_Place : szQ Tryd.prog 138 = 8 := by kernel_rfl
theorem tby_tree_Place : byQ Tryd.prog 138 = 64 := by kernel_rfl
theorem tze_tree_Place : zeroQ Tryd.prog 138 = some [(.int .i64 0), (.int .i64 0), (.int .i64 0), (.int .i64 0), (.int .i64 0), (.int .i64 0), (.int .i64 0), (.int .i64 0)] := by kernel_rfl
theorem tfl_tree_Place_Index : flQ Tryd.prog 138 0 = some 0 := by kernel_rfl
theorem tfl_tree_Place_Before : flQ Tryd.prog 138 1 = some 1 := by kernel_rfl
theorem tfl_tree_Place_Visits : flQ Tryd.prog 138 2 = some 7 := by kernel_rfl
theorem tpl_tree_Place : plQ Tryd.prog 138 = some [(0, 1), (1, 6), (7, 1)] := by kernel_rfl
theorem tfd_tree_Place_Index : fdT Tryd.prog 138 0 = some (3, 0) := by kernel_rfl
theorem tfd_tree_Place_Before : fdT Tryd.prog 138 1 = some (103, 1) := by kernel_rfl
theorem tfd_tree_Place_Visits : fdT Tryd.prog 138 2 = some (3, 7) := by kernel_rfl
abbrev T.dl_tree_Place : List Nat := [3, 3, 3, 3, 3, 3, 3, 3]
theorem tdq_tree_Place : deepQ Tryd.prog 20 138 = some T.dl_tree_Place := by kernel_rfl
theorem taq_tree_Place : aggQ Tryd.prog 138 = true := by kernel_rfl
theorem tgq_tree_Place : Tryd.prog.eqGuardType Tryd.prog.depth 138 = false := by kernel_rfl
abbrev T.seek_Cursor : Nat := 140
theorem tagg_seek_Cursor : aggN Tryd.prog 140 = some 9 := by kernel_rfl
theorem tsz_seek_Cursor : szQ Tryd.prog 140 = 9 := by kernel_rfl
theorem tby_seek_Cursor : byQ Tryd.prog 140 = 72 := by kernel_rfl
theorem tze_seek_Cursor : zeroQ Tryd.prog 140 = some [(.pointer none), (.int .i64 0), (.int .i64 0), (.int .i64 0), (.int .i64 0), (.int .i64 0), (.int .i64 0), (.int .i64 0), (.int .i64 0)] := by kernel_rfl
theorem tfl_seek_Cursor_t : flQ Tryd.prog 140 0 = some 0 := by kernel_rfl
theorem tfl_seek_Cursor_at : flQ Tryd.prog 140 1 = some 1 := by kernel_rfl
theorem tpl_seek_Cursor : plQ Tryd.prog 140 = some [(0, 1), (1, 8)] := by kernel_rfl
theorem tfd_seek_Cursor_t : fdT Tryd.prog 140 0 = some (57, 0) := by kernel_rfl
theorem tfd_seek_Cursor_at : fdT Tryd.prog 140 1 = some (138, 1) := by kernel_rfl
abbrev T.tree_inner : Nat := 159
theorem tagg_tree_inner : aggN Tryd.prog 159 = some 8 := by kernel_rfl
theorem tsz_tree_inner : szQ Tryd.prog 159 = 8 := by kernel_rfl
theorem tby_tree_inner : byQ Tryd.prog 159 = 80 := by kernel_rfl
theorem tze_tree_inner : zeroQ Tryd.prog 159 = some [(.slice none 0 0), (.int .i64 0), (.int .i64 0), (.int .i64 0), (.int .i64 0), (.int .i64 0), (.int .i64 0), (.int .i64 0)] := by kernel_rfl
theorem tfl_tree_inner_kids : flQ Tryd.prog 159 0 = some 0 := by kernel_rfl
theorem tfl_tree_inner_height : flQ Tryd.prog 159 1 = some 1 := by kernel_rfl
theorem tfl_tree_inner_sum : flQ Tryd.prog 159 2 = some 2 := by kernel_rfl
theorem tpl_tree_inner : plQ Tryd.prog 159 = some [(0, 1), (1, 1), (2, 6)] := by kernel_rfl
theorem tfd_tree_inner_kids : fdT Tryd.prog 159 0 = some (128, 0) := by kernel_rfl
theorem tfd_tree_inner_height : fdT Tryd.prog 159 1 = some (3, 1) := by kernel_rfl
theorem tfd_tree_inner_sum : fdT Tryd.prog 159 2 = some (103, 2) := by kernel_rfl
abbrev T.A4_int32 : Nat := 169
theorem tagg_A4_int32 : aggN Tryd.prog 169 = some 4 := by kernel_rfl
theorem tsz_A4_int32 : szQ Tryd.prog 169 = 4 := by kernel_rfl
theorem tby_A4_int32 : byQ Tryd.prog 169 = 16 := by kernel_rfl
theorem tze_A4_int32 : zeroQ Tryd.prog 169 = some [(.int .i32 0), (.int .i32 0), (.int .i32 0), (.int .i32 0)] := by kernel_rfl
theorem tpl_A4_int32 : plQ Tryd.prog 169 = some [(0, 1), (1, 1), (2, 1), (3, 1)] := by kernel_rfl
theorem tar_A4_int32 : arQ Tryd.prog 169 = some (4, 21) := by kernel_rfl
abbrev T.dl_A4_int32 : List Nat := [21, 21, 21, 21]
theorem tdq_A4_int32 : deepQ Tryd.prog 20 169 = some T.dl_A4_int32 := by kernel_rfl
theorem taq_A4_int32 : aggQ Tryd.prog 169 = true := by kernel_rfl
theorem tgq_A4_int32 : Tryd.prog.eqGuardType Tryd.prog.depth 169 = false := by kernel_rfl
/-- 'bodkin bodkinlaw09.BatchChecks' -/
def bodkinlaw09_BatchChecks (K : K1) (n0 l1 : Value) (w : World) : Prop :=
  sBuiltin Tryd.prog .len [22] 3 [l1] w fun x6 w =>
  sBin Tryd.prog .gtr 3 false true x6 (.int .i64 200) w fun x7 w =>
  sIf x7 (
    sCall Tryd.prog 9 [] w fun x8 w =>
    K x8 w) (
    sCall Tryd.prog 10 [n0, l1] w fun x11 w =>
    sCall Tryd.prog 11 [n0, l1] w fun x14 w =>
    sBin Tryd.prog .eql 3 false false x11 x14 w fun x15 w =>
    sIf x15 (
      sCall Tryd.prog 9 [] w fun x17 w =>
      K x17 w) (
      K (.bool false) w))

def bodkinlaw09_BatchChecks.sc : SC := (.seq (.reg (.op 0 .done)) (.seq (.seq (.reg (.op 0 (.op 1 (.op 2 .done)))) (.cond (.seq (.reg (.op 0 (.op 1 .done))) .nop) .nop)) (.seq (.reg (.op 0 (.op 1 (.op 2 (.op 3 (.op 4 (.op 5 (.op 6 (.op 7 (.test 7 (.op 8 (.op 9 (.op 10 .done))) (.skip 8 (.op 9 (.op 10 .done))))))))))))) .nop)))

theorem bodkinlaw09_BatchChecks.ok : okC Tryd.f3.ntmps bodkinlaw09_BatchChecks.sc (bodyOf Tryd.f3) = true := by kernel_rfl

theorem bodkinlaw09_BatchChecks.eq {K : K1} {n0 l1 : Value} {w : World} : bodkinlaw09_BatchChecks K n0 l1 w = codeS Tryd.prog bodkinlaw09_BatchChecks.sc (bodyOf Tryd.f3) (argsF 0 [n0, l1]) w (retQ Tryd.prog Tryd.f3.results.toList K) := by kernel_rfl

theorem bodkinlaw09_BatchChecks.call {K : K1} {n0 l1 : Value} {w : World} (h : bodkinlaw09_BatchChecks K n0 l1 w) : sCall Tryd.prog 3 [n0, l1] w K := sCall_code mixed Tryd.func3 (by kernel_rfl) rfl rfl bodkinlaw09_BatchChecks.ok bodkinlaw09_BatchChecks.eq h

abbrev bodkinlaw09_BatchChecks.n : Nat := 3

/-- 'bodkin bodkinlaw09.BatchApplies' -/
def bodkinlaw09_BatchApplies (K : K1) (s0 l1 : Value) (w : World) : Prop :=
  sCall Tryd.prog 12 [s0, l1] w fun x16 w =>
  sIf x16 (
    sCall Tryd.prog 9 [] w fun x17 w =>
    K x17 w) (
    sCall Tryd.prog 13 [s0] w fun x20 w =>
    sExtract x20 0 w fun x21 w =>
    sExtract x20 1 w fun x22 w =>
    sBin Tryd.prog .neq 24 false true x22 (.int .i64 0) w fun x24 w =>
    sIf x24 (
      K (.bool false) w) (
      sBin Tryd.prog .eql 29 false true x21 (.pointer none) w fun x27 w =>
      sIf x27 (
        K (.bool false) w) (
        sCall Tryd.prog 14 [s0] w fun x30 w =>
        sCall Tryd.prog 15 [x21, l1] w fun x34 w =>
        sExtract x34 0 w fun x35 w =>
        sExtract x34 1 w fun x36 w =>
        sCall Tryd.prog 16 [x21, l1] w fun x40 w =>
        sExtract x40 0 w fun x41 w =>
        sExtract x40 1 w fun x42 w =>
        sCall Tryd.prog 17 [x30, l1] w fun x46 w =>
        sExtract x46 0 w fun x47 w =>
        sExtract x46 1 w fun x48 w =>
        sBin Tryd.prog .neq 3 false false x36 x48 w fun x51 w =>
        sIf x51 (
          K (.bool false) w) (
          sBin Tryd.prog .neq 3 false false x42 x48 w fun x55 w =>
          sIf x55 (
            K (.bool false) w) (
            sBin Tryd.prog .eql 29 false true x35 (.pointer none) w fun x59 w =>
            sBin Tryd.prog .neq 3 false true x48 (.int .i64 0) w fun x61 w =>
            sBin Tryd.prog .neq 4 false false x59 x61 w fun x62 w =>
            sIf x62 (
              K (.bool false) w) (
              sCall Tryd.prog 18 [x21] w fun x66 w =>
              sCall Tryd.prog 19 [x30] w fun x68 w =>
              sBin Tryd.prog .neq 9 false false x66 x68 w fun x69 w =>
              sIf x69 (
                K (.bool false) w) (
                sBin Tryd.prog .neq 3 false true x48 (.int .i64 0) w fun x72 w =>
                sIf x72 (
                  sBuiltin Tryd.prog .len [22] 3 [x41] w fun x74 w =>
                  sBin Tryd.prog .eql 3 false true x74 (.int .i64 0) w fun x75 w =>
                  sIf x75 (
                    sCall Tryd.prog 9 [] w fun x77 w =>
                    K x77 w) (
                    K (.bool false) w)) (
                  sCall Tryd.prog 18 [x35] w fun x80 w =>
                  sCall Tryd.prog 19 [x47] w fun x82 w =>
                  sBin Tryd.prog .eql 9 false false x80 x82 w fun x83 w =>
                  sIf x83 (
                    sCall Tryd.prog 21 [x30, l1] w fun x88 w =>
                    sCall Tryd.prog 20 [x41, x88] w fun x89 w =>
                    sIf x89 (
                      sCall Tryd.prog 22 [l1] w fun x93 w =>
                      sBuiltin Tryd.prog .len [32] 3 [x47] w fun x95 w =>
                      sBuiltin Tryd.prog .len [32] 3 [x30] w fun x97 w =>
                      sBin Tryd.prog .sub 3 false false x95 x97 w fun x98 w =>
                      sBin Tryd.prog .eql 3 false false x93 x98 w fun x99 w =>
                      sIf x99 (
                        sCall Tryd.prog 9 [] w fun x102 w =>
                        K x102 w) (
                        K (.bool false) w)) (
                      K (.bool false) w)) (
                    K (.bool false) w)))))))))

def bodkinlaw09_BatchApplies.sc : SC := (.seq (.reg (.op 0 .done)) (.seq (.seq (.reg (.op 0 (.op 1 (.op 2 .done)))) (.cond (.seq (.reg (.op 0 (.op 1 .done))) .nop) .nop)) (.seq (.reg (.op 0 (.op 1 (.op 2 (.op 3 (.op 4 (.op 5 (.op 6 .done)))))))) (.seq (.seq (.reg (.op 0 (.op 1 (.op 2 (.test 2 (.skip 3 (.skip 4 (.op 5 .done))) (.op 3 (.op 4 (.op 5 .done)))))))) (.cond (.seq (.reg (.op 0 .done)) .nop) .nop)) (.seq (.reg (.op 0 (.op 1 (.op 2 .done)))) (.seq (.reg (.op 0 (.op 1 (.op 2 (.op 3 (.op 4 (.op 5 (.op 6 (.op 7 .done))))))))) (.seq (.reg (.op 0 (.op 1 (.op 2 (.op 3 (.op 4 (.op 5 (.op 6 (.op 7 .done))))))))) (.seq (.reg (.op 0 (.op 1 (.op 2 (.op 3 (.op 4 (.op 5 (.op 6 (.op 7 .done))))))))) (.seq (.seq (.reg (.op 0 (.op 1 (.op 2 (.op 3 (.test 3 (.skip 4 (.skip 5 (.skip 6 (.op 7 (.op 8 (.know 8 true (.skip 9 (.skip 10 (.skip 11 (.skip 12 (.skip 13 (.op 14 (.op 15 (.know 15 true (.skip 16 (.skip 17 (.skip 18 (.skip 19 (.skip 20 (.op 21 .done)))))))))))))))))))) (.op 4 (.op 5 (.op 6 (.op 7 (.op 8 (.test 8 (.skip 9 (.skip 10 (.skip 11 (.skip 12 (.skip 13 (.op 14 (.op 15 (.know 15 true (.skip 16 (.skip 17 (.skip 18 (.skip 19 (.skip 20 (.op 21 .done)))))))))))))) (.op 9 (.op 10 (.op 11 (.op 12 (.op 13 (.op 14 (.op 15 (.test 15 (.skip 16 (.skip 17 (.skip 18 (.skip 19 (.skip 20 (.op 21 .done)))))) (.op 16 (.op 17 (.op 18 (.op 19 (.op 20 (.op 21 .done)))))))))))))))))))))))))) (.cond (.seq (.reg (.op 0 .done)) .nop) .nop)) (.seq (.seq (.reg (.op 0 (.op 1 .done))) (.cond (.seq (.reg (.op 0 (.op 1 (.op 2 (.op 3 (.test 3 (.op 4 (.op 5 (.op 6 .done))) (.skip 4 (.op 5 (.op 6 .done))))))))) .nop) .nop)) (.seq (.reg (.op 0 (.op 1 (.op 2 (.op 3 (.op 4 (.op 5 (.test 5 (.op 6 (.op 7 (.op 8 (.op 9 (.op 10 (.op 11 (.op 12 (.test 12 (.op 13 (.op 14 (.op 15 (.op 16 (.op 17 (.op 18 (.op 19 (.op 20 (.op 21 (.op 22 (.test 22 (.op 23 (.op 24 (.op 25 .done))) (.skip 23 (.op 24 (.op 25 .done)))))))))))))) (.skip 13 (.skip 14 (.skip 15 (.skip 16 (.skip 17 (.skip 18 (.skip 19 (.skip 20 (.op 21 (.op 22 (.know 22 false (.skip 23 (.op 24 (.op 25 .done)))))))))))))))))))))) (.skip 6 (.skip 7 (.skip 8 (.skip 9 (.skip 10 (.op 11 (.op 12 (.know 12 false (.skip 13 (.skip 14 (.skip 15 (.skip 16 (.skip 17 (.skip 18 (.skip 19 (.skip 20 (.op 21 (.op 22 (.know 22 false (.skip 23 (.op 24 (.op 25 .done)))))))))))))))))))))))))))))) .nop)))))))))))

theorem bodkinlaw09_BatchApplies.ok : okC Tryd.f4.ntmps bodkinlaw09_BatchApplies.sc (bodyOf Tryd.f4) = true := by kernel_rfl

theorem bodkinlaw09_BatchApplies.eq {K : K1} {s0 l1 : Value} {w : World} : bodkinlaw09_BatchApplies K s0 l1 w = codeS Tryd.prog bodkinlaw09_BatchApplies.sc (bodyOf Tryd.f4) (argsF 0 [s0, l1]) w (retQ Tryd.prog Tryd.f4.results.toList K) := by kernel_rfl

theorem bodkinlaw09_BatchApplies.call {K : K1} {s0 l1 : Value} {w : World} (h : bodkinlaw09_BatchApplies K s0 l1 w) : sCall Tryd.prog 4 [s0, l1] w K := sCall_code mixed Tryd.func4 (by kernel_rfl) rfl rfl bodkinlaw09_BatchApplies.ok bodkinlaw09_BatchApplies.eq h

abbrev bodkinlaw09_BatchApplies.n : Nat := 4

/-- 'bodkin bodkinlaw09.BatchUndoes' -/
def bodkinlaw09_BatchUndoes_L2 (K : K1) (Nx2 : List Value → World → Prop) (l1 x67 x98 : Value) (x99 : Value) (w : World) : Prop :=
  sBin Tryd.prog .lss 3 false false x99 x98 w fun x100 w =>
  sIf x100 (
    sIdxA Tryd.prog 22 l1 x99 w fun x102 w =>
    sLoad Tryd.prog 45 x102 w fun x103 w =>
    sAlloc Tryd.prog 45 w fun x16 w =>
    sStore Tryd.prog 45 x16 x103 w fun w =>
    DrawS w fun C w =>
    stillS C w (fun w k => sIdxA Tryd.prog 22 x67 x99 w k) fun x106 =>
    stillS C w (fun w k => sFldA Tryd.prog 45 x106 0 w k) fun x107 =>
    stillS C w (fun w k => sLoad Tryd.prog 3 x107 w k) fun x108 =>
    stillS C w (fun w k => sFldA Tryd.prog 45 x16 0 w k) fun x109 =>
    stillS C w (fun w k => sLoad Tryd.prog 3 x109 w k) fun x110 =>
    stillS C w (fun w k => sBin Tryd.prog .neq 3 false false x108 x110 w k) fun x111 =>
    sIf x111 (
      K (.bool false) w) (
      stillS C w (fun w k => sIdxA Tryd.prog 22 x67 x99 w k) fun x115 =>
      stillS C w (fun w k => sFldA Tryd.prog 45 x115 1 w k) fun x116 =>
      stillS C w (fun w k => sLoad Tryd.prog 3 x116 w k) fun x117 =>
      stillS C w (fun w k => sFldA Tryd.prog 45 x16 1 w k) fun x118 =>
      stillS C w (fun w k => sLoad Tryd.prog 3 x118 w k) fun x119 =>
      stillS C w (fun w k => sBin Tryd.prog .neq 3 false false x117 x119 w k) fun x120 =>
      sIf x120 (
        K (.bool false) w) (
        stillS C w (fun w k => sIdxA Tryd.prog 22 x67 x99 w k) fun x125 =>
        stillS C w (fun w k => sFldA Tryd.prog 45 x125 2 w k) fun x126 =>
        stillS C w (fun w k => sLoad Tryd.prog 9 x126 w k) fun x127 =>
        stillS C w (fun w k => sFldA Tryd.prog 45 x16 2 w k) fun x128 =>
        stillS C w (fun w k => sLoad Tryd.prog 9 x128 w k) fun x129 =>
        sCall Tryd.prog 14 [x129] w fun x130 w => C w ∧
        sCall Tryd.prog 19 [x130] w fun x131 w => C w ∧
        stillS C w (fun w k => sBin Tryd.prog .neq 9 false false x127 x131 w k) fun x132 =>
        sIf x132 (
          K (.bool false) w) (
          sBin Tryd.prog .add 3 false true x99 (.int .i64 1) w fun x134 w =>
          Nx2 [x134] w)))) (
    sCall Tryd.prog 9 [] w fun x135 w =>
    K x135 w)

def bodkinlaw09_BatchUndoes_J1 (K : K1) (l1 x24 x25 x30 : Value) (x41 : Value) (w : World) : Prop :=
  sIf x41 (
    sBin Tryd.prog .eql 24 false true x25 (.int .i64 0) w fun x43 w =>
    sIf x43 (
      sBin Tryd.prog .neq 29 false true x24 (.pointer none) w fun x46 w =>
      sIf x46 (
        sCall Tryd.prog 9 [] w fun x49 w =>
        K x49 w) (
        K (.bool false) w)) (
      K (.bool false) w)) (
    sCall Tryd.prog 16 [x24, l1] w fun x54 w =>
    sExtract x54 0 w fun x55 w =>
    sExtract x54 1 w fun x56 w =>
    sCall Tryd.prog 15 [x30, x55] w fun x60 w =>
    sExtract x60 0 w fun x61 w =>
    sExtract x60 1 w fun x62 w =>
    sCall Tryd.prog 16 [x30, x55] w fun x66 w =>
    sExtract x66 0 w fun x67 w =>
    sExtract x66 1 w fun x68 w =>
    sBin Tryd.prog .neq 24 false true x56 (.int .i64 0) w fun x70 w =>
    sIf x70 (
      K (.bool false) w) (
      sBin Tryd.prog .neq 24 false true x62 (.int .i64 0) w fun x73 w =>
      sIf x73 (
        K (.bool false) w) (
        sBin Tryd.prog .neq 24 false true x68 (.int .i64 0) w fun x77 w =>
        sIf x77 (
          K (.bool false) w) (
          sBin Tryd.prog .eql 29 false true x61 (.pointer none) w fun x81 w =>
          sIf x81 (
            K (.bool false) w) (
            sCall Tryd.prog 18 [x61] w fun x85 w =>
            sCall Tryd.prog 18 [x24] w fun x87 w =>
            sBin Tryd.prog .neq 9 false false x85 x87 w fun x88 w =>
            sIf x88 (
              K (.bool false) w) (
              sBuiltin Tryd.prog .len [22] 3 [x67] w fun x92 w =>
              sBuiltin Tryd.prog .len [22] 3 [l1] w fun x94 w =>
              sBin Tryd.prog .neq 3 false false x92 x94 w fun x95 w =>
              sIf x95 (
                K (.bool false) w) (
                sBuiltin Tryd.prog .len [22] 3 [l1] w fun x98 w =>
                LoopS [(.int .i64 0)] 1 38 w fun us _ w Nx2 =>
                  bodkinlaw09_BatchUndoes_L2 K Nx2 l1 x67 x98 (hd us) w)))))))

def bodkinlaw09_BatchUndoes (K : K1) (s0 l1 : Value) (w : World) : Prop :=
  sCall Tryd.prog 12 [s0, l1] w fun x19 w =>
  sIf x19 (
    sCall Tryd.prog 9 [] w fun x20 w =>
    K x20 w) (
    sCall Tryd.prog 13 [s0] w fun x23 w =>
    sExtract x23 0 w fun x24 w =>
    sExtract x23 1 w fun x25 w =>
    sCall Tryd.prog 15 [x24, l1] w fun x29 w =>
    sExtract x29 0 w fun x30 w =>
    sExtract x29 1 w fun x31 w =>
    JoinS 1 9 (fun M1 =>
      sBin Tryd.prog .neq 24 false true x25 (.int .i64 0) w fun x33 w =>
      sIf x33 (
        M1 [(.bool true)] w) (
        sBin Tryd.prog .eql 29 false true x24 (.pointer none) w fun x36 w =>
        sIf x36 (
          M1 [(.bool true)] w) (
          sBin Tryd.prog .neq 24 false true x31 (.int .i64 0) w fun x40 w =>
          M1 [x40] w))) fun us _ w =>
      bodkinlaw09_BatchUndoes_J1 K l1 x24 x25 x30 (hd us) w)

def bodkinlaw09_BatchUndoes.sc : SC := (.seq (.reg (.op 0 .done)) (.seq (.seq (.reg (.op 0 (.op 1 (.op 2 .done)))) (.cond (.seq (.reg (.op 0 (.op 1 .done))) .nop) .nop)) (.seq (.reg (.op 0 (.op 1 (.op 2 (.op 3 (.op 4 (.op 5 (.op 6 .done)))))))) (.seq (.reg (.op 0 (.op 1 (.op 2 (.op 3 (.op 4 (.op 5 (.op 6 (.op 7 .done))))))))) (.seq (.join [41] [32, 33, 34, 35, 36, 37, 38, 39, 40] (.reg (.op 0 (.op 1 (.op 2 (.test 2 (.skip 3 (.skip 4 (.op 5 (.op 6 (.know 6 true (.skip 7 (.skip 8 (.op 9 .done)))))))) (.op 3 (.op 4 (.op 5 (.op 6 (.test 6 (.skip 7 (.skip 8 (.op 9 .done))) (.op 7 (.op 8 (.op 9 .done))))))))))))) (.cond (.seq (.reg (.op 0 (.op 1 (.op 2 (.test 2 (.op 3 (.op 4 (.op 5 (.op 6 (.test 6 (.op 7 (.op 8 (.op 9 .done))) (.skip 7 (.op 8 (.op 9 .done)))))))) (.skip 3 (.skip 4 (.op 5 (.op 6 (.know 6 false (.skip 7 (.op 8 (.op 9 .done))))))))))))) .nop) .nop)) (.seq (.reg (.op 0 (.op 1 (.op 2 (.op 3 (.op 4 (.op 5 (.op 6 (.op 7 .done))))))))) (.seq (.reg (.op 0 (.op 1 (.op 2 (.op 3 (.op 4 (.op 5 (.op 6 (.op 7 .done))))))))) (.seq (.reg (.op 0 (.op 1 (.op 2 (.op 3 (.op 4 (.op 5 (.op 6 (.op 7 .done))))))))) (.seq (.seq (.reg (.op 0 (.op 1 (.op 2 (.test 2 (.skip 3 (.skip 4 (.op 5 (.op 6 (.know 6 true (.skip 7 (.skip 8 (.op 9 (.op 10 (.know 10 true (.skip 11 (.skip 12 (.op 13 (.op 14 (.know 14 true (.skip 15 (.skip 16 (.skip 17 (.skip 18 (.skip 19 (.op 20 (.op 21 (.know 21 true (.skip 22 (.skip 23 (.skip 24 (.skip 25 (.skip 26 (.op 27 .done))))))))))))))))))))))))))))) (.op 3 (.op 4 (.op 5 (.op 6 (.test 6 (.skip 7 (.skip 8 (.op 9 (.op 10 (.know 10 true (.skip 11 (.skip 12 (.op 13 (.op 14 (.know 14 true (.skip 15 (.skip 16 (.skip 17 (.skip 18 (.skip 19 (.op 20 (.op 21 (.know 21 true (.skip 22 (.skip 23 (.skip 24 (.skip 25 (.skip 26 (.op 27 .done)))))))))))))))))))))))) (.op 7 (.op 8 (.op 9 (.op 10 (.test 10 (.skip 11 (.skip 12 (.op 13 (.op 14 (.know 14 true (.skip 15 (.skip 16 (.skip 17 (.skip 18 (.skip 19 (.op 20 (.op 21 (.know 21 true (.skip 22 (.skip 23 (.skip 24 (.skip 25 (.skip 26 (.op 27 .done))))))))))))))))))) (.op 11 (.op 12 (.op 13 (.op 14 (.test 14 (.skip 15 (.skip 16 (.skip 17 (.skip 18 (.skip 19 (.op 20 (.op 21 (.know 21 true (.skip 22 (.skip 23 (.skip 24 (.skip 25 (.skip 26 (.op 27 .done)))))))))))))) (.op 15 (.op 16 (.op 17 (.op 18 (.op 19 (.op 20 (.op 21 (.test 21 (.skip 22 (.skip 23 (.skip 24 (.skip 25 (.skip 26 (.op 27 .done)))))) (.op 22 (.op 23 (.op 24 (.op 25 (.op 26 (.op 27 .done)))))))))))))))))))))))))))))))))) (.cond (.seq (.reg (.op 0 .done)) .nop) .nop)) (.seq (.seq (.reg (.op 0 (.op 1 (.op 2 .done)))) (.sub (.loop [99] [100, 101, 102, 103, 16, 15, 104, 105, 106, 107, 108, 109, 110, 111, 112, 113, 114, 115, 116, 117, 118, 119, 120, 121, 122, 123, 124, 125, 126, 127, 128, 129, 130, 131, 132, 133, 4, 134] (.seq (.reg (.op 0 .done)) (.seq (.cond .nop .nop) (.seq (.sub (.seq (.reg (.op 0 (.op 1 (.op 2 (.op 3 (.op 4 (.op 5 .done))))))) (.seq (.draw (.op 0 (.op 1 (.op 2 (.op 3 (.op 4 (.op 5 (.op 6 (.op 7 (.op 8 (.test 8 (.skip 9 (.skip 10 (.skip 11 (.skip 12 (.skip 13 (.skip 14 (.skip 15 (.skip 16 (.op 17 (.op 18 (.know 18 true (.skip 19 (.skip 20 (.skip 21 (.skip 22 (.skip 23 (.skip 24 (.skip 25 (.skip 26 (.skip 27 (.skip 28 (.op 29 .done)))))))))))))))))))))) (.op 9 (.op 10 (.op 11 (.op 12 (.op 13 (.op 14 (.op 15 (.op 16 (.op 17 (.op 18 (.test 18 (.skip 19 (.skip 20 (.skip 21 (.skip 22 (.skip 23 (.skip 24 (.skip 25 (.skip 26 (.skip 27 (.skip 28 (.op 29 .done))))))))))) (.op 19 (.op 20 (.op 21 (.op 22 (.op 23 (.op 24 (.op 25 (.op 26 (.op 27 (.op 28 (.op 29 .done))))))))))))))))))))))))))))))))) (.cond (.seq (.reg (.op 0 .done)) .nop) .nop)))) (.reg (.op 0 (.op 1 .done))))))))) (.seq (.reg (.op 0 (.op 1 .done))) .nop)))))))))))

theorem bodkinlaw09_BatchUndoes.ok : okC Tryd.f5.ntmps bodkinlaw09_BatchUndoes.sc (bodyOf Tryd.f5) = true := by kernel_rfl

theorem bodkinlaw09_BatchUndoes.eq {K : K1} {s0 l1 : Value} {w : World} : bodkinlaw09_BatchUndoes K s0 l1 w = codeS Tryd.prog bodkinlaw09_BatchUndoes.sc (bodyOf Tryd.f5) (argsF 0 [s0, l1]) w (retQ Tryd.prog Tryd.f5.results.toList K) := by kernel_rfl

theorem bodkinlaw09_BatchUndoes.call {K : K1} {s0 l1 : Value} {w : World} (h : bodkinlaw09_BatchUndoes K s0 l1 w) : sCall Tryd.prog 5 [s0, l1] w K := sCall_code mixed Tryd.func5 (by kernel_rfl) rfl rfl bodkinlaw09_BatchUndoes.ok bodkinlaw09_BatchUndoes.eq h

abbrev bodkinlaw09_BatchUndoes.n : Nat := 5

/-- 'bodkin bodkinlaw09.BatchOnes' -/
def bodkinlaw09_BatchOnes_L2 (K : K1) (Nx2 : List Value → World → Prop) (l1 x26 : Value) (u9 i10 : Value) (w : World) : Prop :=
  sBin Tryd.prog .geq 3 false true i10 (.int .i64 0) w fun x52 w =>
  sIf x52 (
    sIdxA Tryd.prog 22 l1 i10 w fun x59 w =>
    sLoad Tryd.prog 45 x59 w fun x60 w =>
    sBuildSlice Tryd.prog 22 1 [(0, x60)] w fun x61 w =>
    sCall Tryd.prog 15 [u9, x61] w fun x62 w =>
    sExtract x62 0 w fun x63 w =>
    sExtract x62 1 w fun x64 w =>
    sBin Tryd.prog .neq 24 false true x64 (.int .i64 0) w fun x66 w =>
    sIf x66 (
      K (.bool false) w) (
      sBin Tryd.prog .eql 29 false true x63 (.pointer none) w fun x69 w =>
      sIf x69 (
        K (.bool false) w) (
        sBin Tryd.prog .sub 3 false true i10 (.int .i64 1) w fun x54 w =>
        Nx2 [x63, x54] w))) (
    sCall Tryd.prog 18 [u9] w fun x73 w =>
    sCall Tryd.prog 18 [x26] w fun x75 w =>
    sBin Tryd.prog .eql 9 false false x73 x75 w fun x76 w =>
    sIf x76 (
      sCall Tryd.prog 9 [] w fun x78 w =>
      K x78 w) (
      K (.bool false) w))

def bodkinlaw09_BatchOnes_J1 (K : K1) (l1 x20 x21 x26 : Value) (x37 : Value) (w : World) : Prop :=
  sIf x37 (
    sBin Tryd.prog .eql 24 false true x21 (.int .i64 0) w fun x39 w =>
    sIf x39 (
      sBin Tryd.prog .neq 29 false true x20 (.pointer none) w fun x42 w =>
      sIf x42 (
        sCall Tryd.prog 9 [] w fun x45 w =>
        K x45 w) (
        K (.bool false) w)) (
      K (.bool false) w)) (
    sBuiltin Tryd.prog .len [22] 3 [l1] w fun x49 w =>
    sBin Tryd.prog .sub 3 false true x49 (.int .i64 1) w fun x50 w =>
    LoopS [x20, x50] 2 24 w fun us _ w Nx2 =>
      bodkinlaw09_BatchOnes_L2 K Nx2 l1 x26 (hd us) (hd (tl us)) w)

def bodkinlaw09_BatchOnes (K : K1) (s0 l1 : Value) (w : World) : Prop :=
  sCall Tryd.prog 12 [s0, l1] w fun x15 w =>
  sIf x15 (
    sCall Tryd.prog 9 [] w fun x16 w =>
    K x16 w) (
    sCall Tryd.prog 13 [s0] w fun x19 w =>
    sExtract x19 0 w fun x20 w =>
    sExtract x19 1 w fun x21 w =>
    sCall Tryd.prog 15 [x20, l1] w fun x25 w =>
    sExtract x25 0 w fun x26 w =>
    sExtract x25 1 w fun x27 w =>
    JoinS 1 9 (fun M1 =>
      sBin Tryd.prog .neq 24 false true x21 (.int .i64 0) w fun x29 w =>
      sIf x29 (
        M1 [(.bool true)] w) (
        sBin Tryd.prog .eql 29 false true x20 (.pointer none) w fun x32 w =>
        sIf x32 (
          M1 [(.bool true)] w) (
          sBin Tryd.prog .neq 24 false true x27 (.int .i64 0) w fun x36 w =>
          M1 [x36] w))) fun us _ w =>
      bodkinlaw09_BatchOnes_J1 K l1 x20 x21 x26 (hd us) w)

def bodkinlaw09_BatchOnes.sc : SC := (.seq (.reg (.op 0 .done)) (.seq (.seq (.reg (.op 0 (.op 1 (.op 2 .done)))) (.cond (.seq (.reg (.op 0 (.op 1 .done))) .nop) .nop)) (.seq (.reg (.op 0 (.op 1 (.op 2 (.op 3 (.op 4 (.op 5 (.op 6 .done)))))))) (.seq (.reg (.op 0 (.op 1 (.op 2 (.op 3 (.op 4 (.op 5 (.op 6 (.op 7 .done))))))))) (.seq (.join [37] [28, 29, 30, 31, 32, 33, 34, 35, 36] (.reg (.op 0 (.op 1 (.op 2 (.test 2 (.skip 3 (.skip 4 (.op 5 (.op 6 (.know 6 true (.skip 7 (.skip 8 (.op 9 .done)))))))) (.op 3 (.op 4 (.op 5 (.op 6 (.test 6 (.skip 7 (.skip 8 (.op 9 .done))) (.op 7 (.op 8 (.op 9 .done))))))))))))) (.cond (.seq (.reg (.op 0 (.op 1 (.op 2 (.test 2 (.op 3 (.op 4 (.op 5 (.op 6 (.test 6 (.op 7 (.op 8 (.op 9 .done))) (.skip 7 (.op 8 (.op 9 .done)))))))) (.skip 3 (.skip 4 (.op 5 (.op 6 (.know 6 false (.skip 7 (.op 8 (.op 9 .done))))))))))))) .nop) .nop)) (.seq (.reg (.op 0 (.op 1 .done))) (.seq (.seq (.reg (.op 0 (.op 1 (.op 2 (.op 3 .done))))) (.sub (.loop [9, 10] [51, 52, 56, 57, 58, 59, 60, 61, 62, 55, 63, 64, 11, 12, 65, 66, 67, 68, 69, 70, 4, 71, 53, 54] (.seq (.seq (.reg (.op 0 (.op 1 .done))) (.cond .nop .nop)) (.seq (.sub (.seq (.reg (.op 0 (.op 1 (.op 2 (.op 3 (.op 4 (.op 5 (.op 6 (.op 7 (.op 8 (.op 9 (.op 10 (.op 11 .done))))))))))))) (.seq (.seq (.reg (.op 0 (.op 1 (.op 2 (.test 2 (.skip 3 (.skip 4 (.op 5 .done))) (.op 3 (.op 4 (.op 5 .done)))))))) (.cond (.seq (.reg (.op 0 .done)) .nop) .nop)) (.reg (.op 0 (.op 1 .done)))))) (.reg (.op 0 (.op 1 (.op 2 .done))))))))) (.seq (.reg (.op 0 (.op 1 (.op 2 (.op 3 (.op 4 (.op 5 (.test 5 (.op 6 (.op 7 (.op 8 .done))) (.skip 6 (.op 7 (.op 8 .done))))))))))) .nop))))))))

theorem bodkinlaw09_BatchOnes.ok : okC Tryd.f6.ntmps bodkinlaw09_BatchOnes.sc (bodyOf Tryd.f6) = true := by kernel_rfl

theorem bodkinlaw09_BatchOnes.eq {K : K1} {s0 l1 : Value} {w : World} : bodkinlaw09_BatchOnes K s0 l1 w = codeS Tryd.prog bodkinlaw09_BatchOnes.sc (bodyOf Tryd.f6) (argsF 0 [s0, l1]) w (retQ Tryd.prog Tryd.f6.results.toList K) := by kernel_rfl

theorem bodkinlaw09_BatchOnes.call {K : K1} {s0 l1 : Value} {w : World} (h : bodkinlaw09_BatchOnes K s0 l1 w) : sCall Tryd.prog 6 [s0, l1] w K := sCall_code mixed Tryd.func6 (by kernel_rfl) rfl rfl bodkinlaw09_BatchOnes.ok bodkinlaw09_BatchOnes.eq h

abbrev bodkinlaw09_BatchOnes.n : Nat := 6

/-- 'bodkin bodkinlaw09.BatchNil' -/
def bodkinlaw09_BatchNil (K : K1) (l0 : Value) (w : World) : Prop :=
  sCall Tryd.prog 12 [(.string ⟨#[]⟩), l0] w fun x9 w =>
  sIf x9 (
    sCall Tryd.prog 9 [] w fun x10 w =>
    K x10 w) (
    sCall Tryd.prog 15 [(.pointer none), l0] w fun x14 w =>
    sExtract x14 0 w fun x15 w =>
    sExtract x14 1 w fun x16 w =>
    sCall Tryd.prog 17 [(.slice none 0 0), l0] w fun x19 w =>
    sExtract x19 0 w fun x20 w =>
    sExtract x19 1 w fun x21 w =>
    sBin Tryd.prog .eql 3 false false x16 x21 w fun x24 w =>
    sIf x24 (
      sBin Tryd.prog .eql 29 false true x15 (.pointer none) w fun x27 w =>
      sBin Tryd.prog .neq 3 false true x21 (.int .i64 0) w fun x29 w =>
      sBin Tryd.prog .eql 4 false false x27 x29 w fun x30 w =>
      sIf x30 (
        sBin Tryd.prog .neq 3 false true x21 (.int .i64 0) w fun x34 w =>
        sIf x34 (
          sCall Tryd.prog 9 [] w fun x44 w =>
          K x44 w) (
          sCall Tryd.prog 18 [x15] w fun x37 w =>
          sCall Tryd.prog 19 [x20] w fun x39 w =>
          sBin Tryd.prog .eql 9 false false x37 x39 w fun x40 w =>
          sIf x40 (
            sCall Tryd.prog 9 [] w fun x44_1 w =>
            K x44_1 w) (
            K (.bool false) w))) (
        K (.bool false) w)) (
      K (.bool false) w))

def bodkinlaw09_BatchNil.sc : SC := (.seq (.reg (.op 0 .done)) (.seq (.reg (.op 0 .done)) (.seq (.seq (.reg (.op 0 (.op 1 .done))) (.cond (.seq (.reg (.op 0 (.op 1 .done))) .nop) .nop)) (.seq (.reg (.op 0 (.op 1 (.op 2 (.op 3 (.op 4 (.op 5 (.op 6 (.op 7 .done))))))))) (.seq (.reg (.op 0 (.op 1 (.op 2 (.op 3 (.op 4 (.op 5 (.op 6 .done)))))))) (.seq (.reg (.op 0 (.op 1 (.op 2 (.op 3 (.test 3 (.op 4 (.op 5 (.op 6 (.op 7 (.op 8 (.op 9 (.op 10 (.test 10 (.op 11 (.op 12 (.op 13 (.test 13 (.skip 14 (.skip 15 (.skip 16 (.skip 17 (.skip 18 (.op 19 (.op 20 (.op 21 (.know 21 true (.op 22 (.op 23 (.op 24 .done)))))))))))) (.op 14 (.op 15 (.op 16 (.op 17 (.op 18 (.op 19 (.op 20 (.op 21 (.test 21 (.op 22 (.op 23 (.op 24 .done))) (.skip 22 (.op 23 (.op 24 .done)))))))))))))))) (.skip 11 (.skip 12 (.skip 13 (.skip 14 (.skip 15 (.skip 16 (.skip 17 (.skip 18 (.skip 19 (.op 20 (.op 21 (.know 21 false (.skip 22 (.op 23 (.op 24 .done))))))))))))))))))))))) (.skip 4 (.skip 5 (.skip 6 (.skip 7 (.skip 8 (.op 9 (.op 10 (.know 10 false (.skip 11 (.skip 12 (.skip 13 (.skip 14 (.skip 15 (.skip 16 (.skip 17 (.skip 18 (.skip 19 (.op 20 (.op 21 (.know 21 false (.skip 22 (.op 23 (.op 24 .done))))))))))))))))))))))))))))) .nop))))))

theorem bodkinlaw09_BatchNil.ok : okC Tryd.f7.ntmps bodkinlaw09_BatchNil.sc (bodyOf Tryd.f7) = true := by kernel_rfl

theorem bodkinlaw09_BatchNil.eq {K : K1} {l0 : Value} {w : World} : bodkinlaw09_BatchNil K l0 w = codeS Tryd.prog bodkinlaw09_BatchNil.sc (bodyOf Tryd.f7) (argsF 0 [l0]) w (retQ Tryd.prog Tryd.f7.results.toList K) := by kernel_rfl

theorem bodkinlaw09_BatchNil.call {K : K1} {l0 : Value} {w : World} (h : bodkinlaw09_BatchNil K l0 w) : sCall Tryd.prog 7 [l0] w K := sCall_code mixed Tryd.func7 (by kernel_rfl) rfl rfl bodkinlaw09_BatchNil.ok bodkinlaw09_BatchNil.eq h

abbrev bodkinlaw09_BatchNil.n : Nat := 7

/-- 'bodkin bodkinlaw12.HistoryTexts' -/
def bodkinlaw12_HistoryTexts_J2 (K : K1) (Nx1 : List Value → World → Prop) (r5 texts8 x41 x57 x60 x65 x66 x71 x72 : Value) (x78 : Value) (w : World) : Prop :=
  sIf x78 (
    sBin Tryd.prog .neq 24 false false x66 x72 w fun x81 w =>
    sIf x81 (
      K (.bool false) w) (
      sCall Tryd.prog 18 [r5] w fun x84 w =>
      sCall Tryd.prog 14 [x84] w fun x85 w =>
      sBuiltin Tryd.prog .len [32] 3 [x85] w fun x86 w =>
      sCall Tryd.prog 11 [x86, x60] w fun x88 w =>
      sBin Tryd.prog .eql 3 false true x88 (.int .i64 0) w fun x89 w =>
      sIf x89 (
        sBin Tryd.prog .neq 24 false true x66 (.int .i64 5) w fun x92 w =>
        sIf x92 (
          K (.bool false) w) (
          sBin Tryd.prog .add 3 false true x57 (.int .i64 1) w fun x106 w =>
          Nx1 [r5, texts8, x106] w)) (
        sBin Tryd.prog .add 3 false true x57 (.int .i64 1) w fun x106_1 w =>
        Nx1 [r5, texts8, x106_1] w))) (
    sBuild Tryd.prog 53 [(0, x71), (1, x60)] w fun x98 w =>
    sCall Tryd.prog 25 [x41, x98] w fun x99 w =>
    sCall Tryd.prog 18 [x65] w fun x103 w =>
    sBuildSlice Tryd.prog 50 1 [(0, x103)] w fun x104 w =>
    sBuiltin Tryd.prog .append [50, 50] 50 [texts8, x104] w fun x105 w =>
    sBin Tryd.prog .add 3 false true x57 (.int .i64 1) w fun x106_2 w =>
    Nx1 [x65, x105, x106_2] w)

def bodkinlaw12_HistoryTexts_L4 (K : K1) (Nx4 : List Value → World → Prop) (texts8 x41 : Value) (r5_2 i20 : Value) (w : World) : Prop :=
  sBuiltin Tryd.prog .len [50] 3 [texts8] w fun x147 w =>
  sBin Tryd.prog .lss 3 false false i20 x147 w fun x148 w =>
  sIf x148 (
    sCall Tryd.prog 27 [x41] w fun x153 w =>
    sExtract x153 0 w fun x154 w =>
    sExtract x153 1 w fun x155 w =>
    sCall Tryd.prog 15 [r5_2, x154] w fun x159 w =>
    sExtract x159 0 w fun x160 w =>
    sExtract x159 1 w fun x161 w =>
    DrawS w fun C w =>
    stillS C w (fun w k => sBin Tryd.prog .neq 24 false true x155 (.int .i64 0) w k) fun x163 =>
    sIf x163 (
      K (.bool false) w) (
      stillS C w (fun w k => sBin Tryd.prog .neq 24 false true x161 (.int .i64 0) w k) fun x166 =>
      sIf x166 (
        K (.bool false) w) (
        stillS C w (fun w k => sBin Tryd.prog .eql 29 false true x160 (.pointer none) w k) fun x170 =>
        sIf x170 (
          K (.bool false) w) (
          stillS C w (fun w k => sIdxA Tryd.prog 50 texts8 i20 w k) fun x177 =>
          stillS C w (fun w k => sLoad Tryd.prog 9 x177 w k) fun x178 =>
          sCall Tryd.prog 18 [x160] w fun x174 w => C w ∧
          stillS C w (fun w k => sBin Tryd.prog .neq 9 false false x174 x178 w k) fun x179 =>
          sIf x179 (
            K (.bool false) w) (
            sBin Tryd.prog .add 3 false true i20 (.int .i64 1) w fun x150 w =>
            Nx4 [x160, x150] w))))) (
    sCall Tryd.prog 27 [x41] w fun x184 w =>
    sExtract x184 0 w fun x185 w =>
    sExtract x184 1 w fun x186 w =>
    sBin Tryd.prog .eql 24 false true x186 (.int .i64 6) w fun x188 w =>
    sIf x188 (
      sCall Tryd.prog 23 [] w fun x190 w =>
      K x190 w) (
      K (.bool false) w))

def bodkinlaw12_HistoryTexts_L3 (K : K1) (Nx3 : List Value → World → Prop) (texts8 x41 : Value) (r5_1 i15 : Value) (w : World) : Prop :=
  sBin Tryd.prog .geq 3 false true i15 (.int .i64 0) w fun x111 w =>
  sIf x111 (
    sCall Tryd.prog 26 [x41] w fun x116 w =>
    sExtract x116 0 w fun x117 w =>
    sExtract x116 1 w fun x118 w =>
    sCall Tryd.prog 15 [r5_1, x117] w fun x122 w =>
    sExtract x122 0 w fun x123 w =>
    sExtract x122 1 w fun x124 w =>
    DrawS w fun C w =>
    stillS C w (fun w k => sBin Tryd.prog .neq 24 false true x118 (.int .i64 0) w k) fun x126 =>
    sIf x126 (
      K (.bool false) w) (
      stillS C w (fun w k => sBin Tryd.prog .neq 24 false true x124 (.int .i64 0) w k) fun x129 =>
      sIf x129 (
        K (.bool false) w) (
        stillS C w (fun w k => sBin Tryd.prog .eql 29 false true x123 (.pointer none) w k) fun x133 =>
        sIf x133 (
          K (.bool false) w) (
          stillS C w (fun w k => sIdxA Tryd.prog 50 texts8 i15 w k) fun x140 =>
          stillS C w (fun w k => sLoad Tryd.prog 9 x140 w k) fun x141 =>
          sCall Tryd.prog 18 [x123] w fun x137 w => C w ∧
          stillS C w (fun w k => sBin Tryd.prog .neq 9 false false x137 x141 w k) fun x142 =>
          sIf x142 (
            K (.bool false) w) (
            sBin Tryd.prog .sub 3 false true i15 (.int .i64 1) w fun x113 w =>
            Nx3 [x123, x113] w))))) (
    LoopS [r5_1, (.int .i64 1)] 2 42 w fun us _ w Nx4 =>
      bodkinlaw12_HistoryTexts_L4 K Nx4 texts8 x41 (hd us) (hd (tl us)) w)

def bodkinlaw12_HistoryTexts_L1 (K : K1) (Nx1 : List Value → World → Prop) (l1 x41 x56 : Value) (r5 texts8 x57 : Value) (w : World) : Prop :=
  sBin Tryd.prog .lss 3 false false x57 x56 w fun x58 w =>
  sIf x58 (
    sIdxA Tryd.prog 47 l1 x57 w fun x59 w =>
    sLoad Tryd.prog 22 x59 w fun x60 w =>
    sCall Tryd.prog 15 [r5, x60] w fun x64 w =>
    sExtract x64 0 w fun x65 w =>
    sExtract x64 1 w fun x66 w =>
    sCall Tryd.prog 16 [r5, x60] w fun x70 w =>
    sExtract x70 0 w fun x71 w =>
    sExtract x70 1 w fun x72 w =>
    JoinS 1 5 (fun M2 =>
      sBin Tryd.prog .neq 24 false true x66 (.int .i64 0) w fun x74 w =>
      sIf x74 (
        M2 [(.bool true)] w) (
        sBin Tryd.prog .neq 24 false true x72 (.int .i64 0) w fun x77 w =>
        M2 [x77] w)) fun us _ w =>
      bodkinlaw12_HistoryTexts_J2 K Nx1 r5 texts8 x41 x57 x60 x65 x66 x71 x72 (hd us) w) (
    sBuiltin Tryd.prog .len [50] 3 [texts8] w fun x108 w =>
    sBin Tryd.prog .sub 3 false true x108 (.int .i64 2) w fun x109 w =>
    LoopS [r5, x109] 2 40 w fun us _ w Nx3 =>
      bodkinlaw12_HistoryTexts_L3 K Nx3 texts8 x41 (hd us) (hd (tl us)) w)

def bodkinlaw12_HistoryTexts (K : K1) (s0 l1 : Value) (w : World) : Prop :=
  sBuiltin Tryd.prog .len [9] 3 [s0] w fun x28 w =>
  sBin Tryd.prog .gtr 3 false true x28 (.int .i64 300) w fun x29 w =>
  sIf x29 (
    sCall Tryd.prog 23 [] w fun x35 w =>
    K x35 w) (
    sBuiltin Tryd.prog .len [47] 3 [l1] w fun x32 w =>
    sBin Tryd.prog .gtr 3 false true x32 (.int .i64 20) w fun x33 w =>
    sIf x33 (
      sCall Tryd.prog 23 [] w fun x35_1 w =>
      K x35_1 w) (
      sCall Tryd.prog 13 [s0] w fun x38 w =>
      sExtract x38 0 w fun x39 w =>
      sExtract x38 1 w fun x40 w =>
      sCall Tryd.prog 24 [] w fun x41 w =>
      sBin Tryd.prog .neq 24 false true x40 (.int .i64 0) w fun x43 w =>
      sIf x43 (
        K (.bool false) w) (
        sBin Tryd.prog .eql 29 false true x39 (.pointer none) w fun x46 w =>
        sIf x46 (
          K (.bool false) w) (
          sBin Tryd.prog .eql 48 false true x41 (.pointer none) w fun x50 w =>
          sIf x50 (
            K (.bool false) w) (
            sCall Tryd.prog 18 [x39] w fun x53 w =>
            sBuildSlice Tryd.prog 50 1 [(0, x53)] w fun x54 w =>
            sBuiltin Tryd.prog .len [47] 3 [l1] w fun x56 w =>
            LoopS [x39, x54, (.int .i64 0)] 3 55 w fun us _ w Nx1 =>
              bodkinlaw12_HistoryTexts_L1 K Nx1 l1 x41 x56 (hd us) (hd (tl us)) (hd (tl (tl us))) w)))))

def bodkinlaw12_HistoryTexts.sc : SC := (.seq (.reg (.op 0 .done)) (.seq (.seq (.reg (.op 0 (.op 1 (.op 2 (.op 3 (.test 3 (.skip 4 (.skip 5 (.skip 6 (.op 7 .done)))) (.op 4 (.op 5 (.op 6 (.op 7 .done)))))))))) (.cond (.seq (.reg (.op 0 (.op 1 .done))) .nop) .nop)) (.seq (.reg (.op 0 (.op 1 (.op 2 (.op 3 (.op 4 (.op 5 (.op 6 .done)))))))) (.seq (.reg (.op 0 (.op 1 .done))) (.seq (.seq (.reg (.op 0 (.op 1 (.op 2 (.test 2 (.skip 3 (.skip 4 (.op 5 (.op 6 (.know 6 true (.skip 7 (.skip 8 (.op 9 .done)))))))) (.op 3 (.op 4 (.op 5 (.op 6 (.test 6 (.skip 7 (.skip 8 (.op 9 .done))) (.op 7 (.op 8 (.op 9 .done))))))))))))) (.cond (.seq (.reg (.op 0 .done)) .nop) .nop)) (.seq (.reg (.op 0 (.op 1 (.op 2 (.op 3 .done))))) (.seq (.seq (.reg (.op 0 (.op 1 (.op 2 .done)))) (.sub (.loop [5, 8, 57] [58, 59, 60, 10, 62, 63, 64, 61, 65, 66, 11, 12, 68, 69, 70, 67, 71, 72, 13, 14, 73, 74, 75, 76, 77, 78, 79, 80, 81, 82, 83, 84, 85, 86, 87, 88, 89, 90, 91, 92, 93, 94, 4, 95, 96, 97, 98, 99, 100, 101, 102, 103, 104, 105, 106] (.seq (.reg (.op 0 .done)) (.seq (.cond .nop .nop) (.seq (.sub (.seq (.reg (.op 0 (.op 1 (.op 2 .done)))) (.seq (.reg (.op 0 (.op 1 (.op 2 (.op 3 (.op 4 (.op 5 (.op 6 (.op 7 .done))))))))) (.seq (.reg (.op 0 (.op 1 (.op 2 (.op 3 (.op 4 (.op 5 (.op 6 (.op 7 .done))))))))) (.seq (.join [78] [73, 74, 75, 76, 77] (.reg (.op 0 (.op 1 (.op 2 (.test 2 (.skip 3 (.skip 4 (.op 5 .done))) (.op 3 (.op 4 (.op 5 .done)))))))) (.cond (.seq (.seq (.reg (.op 0 (.op 1 (.op 2 (.op 3 (.test 3 (.skip 4 (.skip 5 (.skip 6 (.skip 7 (.skip 8 (.skip 9 (.skip 10 (.skip 11 (.skip 12 (.skip 13 (.skip 14 (.op 15 .done)))))))))))) (.op 4 (.op 5 (.op 6 (.op 7 (.op 8 (.op 9 (.op 10 (.op 11 (.test 11 (.op 12 (.op 13 (.op 14 (.op 15 .done)))) (.skip 12 (.skip 13 (.op 14 (.op 15 .done))))))))))))))))))) (.cond (.seq (.reg (.op 0 .done)) .nop) .nop)) .nop) .nop)) (.seq (.reg (.op 0 (.op 1 (.op 2 (.op 3 (.op 4 .done)))))) (.seq (.reg (.op 0 (.op 1 .done))) (.reg (.op 0 (.op 1 (.op 2 (.op 3 (.op 4 (.op 5 .done)))))))))))))) (.reg (.op 0 (.op 1 .done))))))))) (.seq (.seq (.reg (.op 0 (.op 1 (.op 2 (.op 3 .done))))) (.sub (.loop [5, 15] [110, 111, 115, 116, 114, 117, 118, 16, 17, 120, 121, 122, 119, 123, 124, 18, 19, 125, 126, 127, 128, 129, 130, 131, 132, 133, 134, 135, 136, 137, 138, 139, 140, 141, 142, 143, 4, 144, 112, 113] (.seq (.seq (.reg (.op 0 (.op 1 .done))) (.cond .nop .nop)) (.seq (.sub (.seq (.reg (.op 0 (.op 1 (.op 2 (.op 3 (.op 4 (.op 5 (.op 6 .done)))))))) (.seq (.reg (.op 0 (.op 1 (.op 2 (.op 3 (.op 4 (.op 5 (.op 6 (.op 7 .done))))))))) (.seq (.seq (.draw (.op 0 (.op 1 (.op 2 (.test 2 (.skip 3 (.skip 4 (.op 5 (.op 6 (.know 6 true (.skip 7 (.skip 8 (.op 9 (.op 10 (.know 10 true (.skip 11 (.skip 12 (.skip 13 (.skip 14 (.skip 15 (.skip 16 (.skip 17 (.op 18 .done)))))))))))))))))) (.op 3 (.op 4 (.op 5 (.op 6 (.test 6 (.skip 7 (.skip 8 (.op 9 (.op 10 (.know 10 true (.skip 11 (.skip 12 (.skip 13 (.skip 14 (.skip 15 (.skip 16 (.skip 17 (.op 18 .done))))))))))))) (.op 7 (.op 8 (.op 9 (.op 10 (.test 10 (.skip 11 (.skip 12 (.skip 13 (.skip 14 (.skip 15 (.skip 16 (.skip 17 (.op 18 .done)))))))) (.op 11 (.op 13 (.op 14 (.op 15 (.op 16 (.op 12 (.op 17 (.op 18 .done))))))))))))))))))))))) (.cond (.seq (.reg (.op 0 .done)) .nop) .nop)) (.reg (.op 0 (.op 1 .done))))))) (.reg (.op 0 (.op 1 (.op 2 .done))))))))) (.seq (.seq (.reg (.op 0 .done)) (.sub (.loop [5, 20] [145, 146, 147, 148, 152, 153, 151, 154, 155, 21, 22, 157, 158, 159, 156, 160, 161, 23, 24, 162, 163, 164, 165, 166, 167, 168, 169, 170, 171, 172, 173, 174, 175, 176, 177, 178, 179, 180, 4, 181, 149, 150] (.seq (.seq (.reg (.op 0 (.op 1 (.op 2 (.op 3 .done))))) (.cond .nop .nop)) (.seq (.sub (.seq (.reg (.op 0 (.op 1 (.op 2 (.op 3 (.op 4 (.op 5 (.op 6 .done)))))))) (.seq (.reg (.op 0 (.op 1 (.op 2 (.op 3 (.op 4 (.op 5 (.op 6 (.op 7 .done))))))))) (.seq (.seq (.draw (.op 0 (.op 1 (.op 2 (.test 2 (.skip 3 (.skip 4 (.op 5 (.op 6 (.know 6 true (.skip 7 (.skip 8 (.op 9 (.op 10 (.know 10 true (.skip 11 (.skip 12 (.skip 13 (.skip 14 (.skip 15 (.skip 16 (.skip 17 (.op 18 .done)))))))))))))))))) (.op 3 (.op 4 (.op 5 (.op 6 (.test 6 (.skip 7 (.skip 8 (.op 9 (.op 10 (.know 10 true (.skip 11 (.skip 12 (.skip 13 (.skip 14 (.skip 15 (.skip 16 (.skip 17 (.op 18 .done))))))))))))) (.op 7 (.op 8 (.op 9 (.op 10 (.test 10 (.skip 11 (.skip 12 (.skip 13 (.skip 14 (.skip 15 (.skip 16 (.skip 17 (.op 18 .done)))))))) (.op 11 (.op 13 (.op 14 (.op 15 (.op 16 (.op 12 (.op 17 (.op 18 .done))))))))))))))))))))))) (.cond (.seq (.reg (.op 0 .done)) .nop) .nop)) (.reg (.op 0 (.op 1 .done))))))) (.reg (.op 0 (.op 1 (.op 2 .done))))))))) (.seq (.reg (.op 0 (.op 1 (.op 2 (.op 3 (.op 4 (.op 5 (.op 6 .done)))))))) (.seq (.reg (.op 0 (.op 1 (.op 2 (.test 2 (.op 3 (.op 4 (.op 5 .done))) (.skip 3 (.op 4 (.op 5 .done)))))))) .nop)))))))))))

theorem bodkinlaw12_HistoryTexts.ok : okC Tryd.f8.ntmps bodkinlaw12_HistoryTexts.sc (bodyOf Tryd.f8) = true := by kernel_rfl

theorem bodkinlaw12_HistoryTexts.eq {K : K1} {s0 l1 : Value} {w : World} : bodkinlaw12_HistoryTexts K s0 l1 w = codeS Tryd.prog bodkinlaw12_HistoryTexts.sc (bodyOf Tryd.f8) (argsF 0 [s0, l1]) w (retQ Tryd.prog Tryd.f8.results.toList K) := by kernel_rfl

theorem bodkinlaw12_HistoryTexts.call {K : K1} {s0 l1 : Value} {w : World} (h : bodkinlaw12_HistoryTexts K s0 l1 w) : sCall Tryd.prog 8 [s0, l1] w K := sCall_code mixed Tryd.func8 (by kernel_rfl) rfl rfl bodkinlaw12_HistoryTexts.ok bodkinlaw12_HistoryTexts.eq h

abbrev bodkinlaw12_HistoryTexts.n : Nat := 8

/-- 'bodkin bodkinlaw09.axyczd' -/
def bodkinlaw09_axyczd (K : K1) (w : World) : Prop :=
  sCall Tryd.prog 13 [(.string ⟨#[97, 98, 99, 100]⟩)] w fun x9 w =>
  sExtract x9 0 w fun x10 w =>
  sExtract x9 1 w fun x11 w =>
  sBuild Tryd.prog 45 [(0, (.int .i64 1)), (1, (.int .i64 2)), (2, (.string ⟨#[120, 121]⟩))] w fun x12 w =>
  sBuild Tryd.prog 45 [(0, (.int .i64 3)), (1, (.int .i64 3)), (2, (.string ⟨#[122]⟩))] w fun x13 w =>
  sBuildSlice Tryd.prog 22 2 [(0, x12), (1, x13)] w fun x14 w =>
  sCall Tryd.prog 15 [x10, x14] w fun x18 w =>
  sExtract x18 0 w fun x19 w =>
  sExtract x18 1 w fun x20 w =>
  sCall Tryd.prog 16 [x10, x14] w fun x24 w =>
  sExtract x24 0 w fun x25 w =>
  sExtract x24 1 w fun x26 w =>
  sBin Tryd.prog .eql 24 false true x11 (.int .i64 0) w fun x28 w =>
  sIf x28 (
    sBin Tryd.prog .eql 24 false true x20 (.int .i64 0) w fun x31 w =>
    sIf x31 (
      sBin Tryd.prog .eql 24 false true x26 (.int .i64 0) w fun x35 w =>
      sIf x35 (
        sCall Tryd.prog 18 [x19] w fun x39 w =>
        sBin Tryd.prog .eql 9 false true x39 (.string ⟨#[97, 120, 121, 99, 122, 100]⟩) w fun x40 w =>
        sIf x40 (
          sBuiltin Tryd.prog .len [22] 3 [x25] w fun x44 w =>
          sBin Tryd.prog .eql 3 false true x44 (.int .i64 2) w fun x45 w =>
          sIf x45 (
            sIdxA Tryd.prog 22 x25 (.int .i64 1) w fun x49 w =>
            sLoad Tryd.prog 45 x49 w fun x50 w =>
            sBuild Tryd.prog 45 [(0, (.int .i64 4)), (1, (.int .i64 5))] w fun x51 w =>
            sBin Tryd.prog .eql 45 false false x50 x51 w fun x52 w =>
            sIf x52 (
              sCall Tryd.prog 22 [x14] w fun x56 w =>
              sBin Tryd.prog .eql 3 false true x56 (.int .i64 2) w fun x57 w =>
              K x57 w) (
              K (.bool false) w)) (
            K (.bool false) w)) (
          K (.bool false) w)) (
        K (.bool false) w)) (
      K (.bool false) w)) (
    K (.bool false) w)

def bodkinlaw09_axyczd.sc : SC := (.seq (.reg (.op 0 .done)) (.seq (.reg (.op 0 (.op 1 (.op 2 (.op 3 (.op 4 (.op 5 .done))))))) (.seq (.reg (.op 0 (.op 1 (.op 2 (.op 3 .done))))) (.seq (.reg (.op 0 (.op 1 (.op 2 (.op 3 (.op 4 (.op 5 (.op 6 (.op 7 .done))))))))) (.seq (.reg (.op 0 (.op 1 (.op 2 (.op 3 (.op 4 (.op 5 (.op 6 (.op 7 .done))))))))) (.seq (.reg (.op 0 (.op 1 (.op 2 (.test 2 (.op 3 (.op 4 (.op 5 (.op 6 (.test 6 (.op 7 (.op 8 (.op 9 (.op 10 (.test 10 (.op 11 (.op 12 (.op 13 (.op 14 (.op 15 (.test 15 (.op 16 (.op 17 (.op 18 (.op 19 (.op 20 (.test 20 (.op 21 (.op 22 (.op 23 (.op 24 (.op 25 (.op 26 (.op 27 (.test 27 (.op 28 (.op 29 (.op 30 (.op 31 (.op 32 .done))))) (.skip 28 (.skip 29 (.skip 30 (.op 31 (.op 32 .done))))))))))))) (.skip 21 (.skip 22 (.skip 23 (.skip 24 (.skip 25 (.op 26 (.op 27 (.know 27 false (.skip 28 (.skip 29 (.skip 30 (.op 31 (.op 32 .done))))))))))))))))))) (.skip 16 (.skip 17 (.skip 18 (.op 19 (.op 20 (.know 20 false (.skip 21 (.skip 22 (.skip 23 (.skip 24 (.skip 25 (.op 26 (.op 27 (.know 27 false (.skip 28 (.skip 29 (.skip 30 (.op 31 (.op 32 .done))))))))))))))))))))))))) (.skip 11 (.skip 12 (.skip 13 (.op 14 (.op 15 (.know 15 false (.skip 16 (.skip 17 (.skip 18 (.op 19 (.op 20 (.know 20 false (.skip 21 (.skip 22 (.skip 23 (.skip 24 (.skip 25 (.op 26 (.op 27 (.know 27 false (.skip 28 (.skip 29 (.skip 30 (.op 31 (.op 32 .done)))))))))))))))))))))))))))))) (.skip 7 (.skip 8 (.op 9 (.op 10 (.know 10 false (.skip 11 (.skip 12 (.skip 13 (.op 14 (.op 15 (.know 15 false (.skip 16 (.skip 17 (.skip 18 (.op 19 (.op 20 (.know 20 false (.skip 21 (.skip 22 (.skip 23 (.skip 24 (.skip 25 (.op 26 (.op 27 (.know 27 false (.skip 28 (.skip 29 (.skip 30 (.op 31 (.op 32 .done))))))))))))))))))))))))))))))))))) (.skip 3 (.skip 4 (.op 5 (.op 6 (.know 6 false (.skip 7 (.skip 8 (.op 9 (.op 10 (.know 10 false (.skip 11 (.skip 12 (.skip 13 (.op 14 (.op 15 (.know 15 false (.skip 16 (.skip 17 (.skip 18 (.op 19 (.op 20 (.know 20 false (.skip 21 (.skip 22 (.skip 23 (.skip 24 (.skip 25 (.op 26 (.op 27 (.know 27 false (.skip 28 (.skip 29 (.skip 30 (.op 31 (.op 32 .done)))))))))))))))))))))))))))))))))))))))) .nop))))))

theorem bodkinlaw09_axyczd.ok : okC Tryd.f9.ntmps bodkinlaw09_axyczd.sc (bodyOf Tryd.f9) = true := by kernel_rfl

theorem bodkinlaw09_axyczd.eq {K : K1} {w : World} : bodkinlaw09_axyczd K  w = codeS Tryd.prog bodkinlaw09_axyczd.sc (bodyOf Tryd.f9) (argsF 0 []) w (retQ Tryd.prog Tryd.f9.results.toList K) := by kernel_rfl

theorem bodkinlaw09_axyczd.call {K : K1} {w : World} (h : bodkinlaw09_axyczd K  w) : sCall Tryd.prog 9 [] w K := sCall_code mixed Tryd.func9 (by kernel_rfl) rfl rfl bodkinlaw09_axyczd.ok bodkinlaw09_axyczd.eq h

abbrev bodkinlaw09_axyczd.n : Nat := 9

/-- 'bodkin batch.Check' -/
def batch_Check_J2 (K : K1) (Nx1 : List Value → World → Prop) (last5 x13 x7 : Value) (x17 : Value) (w : World) : Prop :=
  sIf x17 (
    K (.int .i64 1) w) (
    sFldA Tryd.prog 45 x7 0 w fun x35 w =>
    sLoad Tryd.prog 3 x35 w fun x36 w =>
    sBin Tryd.prog .lss 3 false false x36 last5 w fun x38 w =>
    sIf x38 (
      K (.int .i64 90) w) (
      sFldA Tryd.prog 45 x7 1 w fun x39 w =>
      sLoad Tryd.prog 3 x39 w fun x40 w =>
      sBin Tryd.prog .add 3 false true x13 (.int .i64 1) w fun x41 w =>
      Nx1 [x40, x41] w))

def batch_Check_L1 (K : K1) (Nx1 : List Value → World → Prop) (l1 n0 x12 : Value) (last5 x13 : Value) (w : World) : Prop :=
  sBin Tryd.prog .lss 3 false false x13 x12 w fun x14 w =>
  sIf x14 (
    sIdxA Tryd.prog 22 l1 x13 w fun x15 w =>
    sLoad Tryd.prog 45 x15 w fun x16 w =>
    sAlloc Tryd.prog 45 w fun x7 w =>
    sStore Tryd.prog 45 x7 x16 w fun w =>
    JoinS 1 16 (fun M2 =>
      sFldA Tryd.prog 45 x7 0 w fun x18 w =>
      sLoad Tryd.prog 3 x18 w fun x19 w =>
      sBin Tryd.prog .lss 3 false true x19 (.int .i64 0) w fun x20 w =>
      sIf x20 (
        M2 [(.bool true)] w) (
        sFldA Tryd.prog 45 x7 1 w fun x22 w =>
        sLoad Tryd.prog 3 x22 w fun x23 w =>
        sFldA Tryd.prog 45 x7 0 w fun x24 w =>
        sLoad Tryd.prog 3 x24 w fun x25 w =>
        sBin Tryd.prog .lss 3 false false x23 x25 w fun x26 w =>
        sIf x26 (
          M2 [(.bool true)] w) (
          sFldA Tryd.prog 45 x7 1 w fun x29 w =>
          sLoad Tryd.prog 3 x29 w fun x30 w =>
          sBin Tryd.prog .gtr 3 false false x30 n0 w fun x32 w =>
          M2 [x32] w))) fun us _ w =>
      batch_Check_J2 K Nx1 last5 x13 x7 (hd us) w) (
    K (.int .i64 0) w)

def batch_Check (K : K1) (n0 l1 : Value) (w : World) : Prop :=
  sBuiltin Tryd.prog .len [22] 3 [l1] w fun x9 w =>
  sBin Tryd.prog .gtr 3 false true x9 (.int .i64 64) w fun x10 w =>
  sIf x10 (
    K (.int .i64 2) w) (
    sBuiltin Tryd.prog .len [22] 3 [l1] w fun x12 w =>
    LoopS [(.int .i64 0), (.int .i64 0)] 2 30 w fun us _ w Nx1 =>
      batch_Check_L1 K Nx1 l1 n0 x12 (hd us) (hd (tl us)) w)

def batch_Check.sc : SC := (.seq (.reg (.op 0 .done)) (.seq (.seq (.reg (.op 0 (.op 1 (.op 2 .done)))) (.cond (.seq (.reg (.op 0 .done)) .nop) .nop)) (.seq (.reg (.op 0 .done)) (.seq (.seq (.reg (.op 0 (.op 1 (.op 2 .done)))) (.sub (.loop [5, 13] [14, 15, 16, 7, 18, 19, 20, 21, 22, 23, 24, 25, 26, 27, 28, 29, 30, 31, 32, 33, 17, 4, 35, 36, 37, 38, 34, 39, 40, 41] (.seq (.reg (.op 0 .done)) (.seq (.cond .nop .nop) (.seq (.sub (.seq (.reg (.op 0 (.op 1 (.op 2 (.op 3 .done))))) (.seq (.sub (.join [17] [18, 19, 20, 21, 22, 23, 24, 25, 26, 27, 28, 29, 30, 31, 32, 33] (.reg (.op 0 (.op 1 (.op 2 (.op 3 (.test 3 (.skip 4 (.skip 5 (.skip 6 (.skip 7 (.skip 8 (.op 9 (.op 10 (.know 10 true (.skip 11 (.skip 12 (.skip 13 (.skip 14 (.op 15 (.op 16 .done)))))))))))))) (.op 4 (.op 5 (.op 6 (.op 7 (.op 8 (.op 9 (.op 10 (.test 10 (.skip 11 (.skip 12 (.skip 13 (.skip 14 (.op 15 (.op 16 .done)))))) (.op 11 (.op 12 (.op 13 (.op 14 (.op 15 (.op 16 .done)))))))))))))))))))) (.cond (.seq (.reg (.op 0 .done)) .nop) (.seq (.reg (.op 0 (.op 1 (.op 2 (.op 3 (.op 4 .done)))))) (.cond (.seq (.reg (.op 0 .done)) .nop) .nop))))) (.reg (.op 0 (.op 1 (.op 2 .done))))))) (.reg (.op 0 (.op 1 .done))))))))) (.seq (.reg (.op 0 .done)) .nop)))))

theorem batch_Check.ok : okC Tryd.f10.ntmps batch_Check.sc (bodyOf Tryd.f10) = true := by kernel_rfl

theorem batch_Check.eq {K : K1} {n0 l1 : Value} {w : World} : batch_Check K n0 l1 w = codeS Tryd.prog batch_Check.sc (bodyOf Tryd.f10) (argsF 0 [n0, l1]) w (retQ Tryd.prog Tryd.f10.results.toList K) := by kernel_rfl

theorem batch_Check.call {K : K1} {n0 l1 : Value} {w : World} (h : batch_Check K n0 l1 w) : sCall Tryd.prog 10 [n0, l1] w K := sCall_code mixed Tryd.func10 (by kernel_rfl) rfl rfl batch_Check.ok batch_Check.eq h

abbrev batch_Check.n : Nat := 10

/-- 'bodkin bodkinref09.Check' -/
def bodkinref09_Check_L1 (K : K1) (Nx1 : List Value → World → Prop) (l1 n0 x12 : Value) (last5 x13 : Value) (w : World) : Prop :=
  sBin Tryd.prog .lss 3 false false x13 x12 w fun x14 w =>
  sIf x14 (
    sIdxA Tryd.prog 22 l1 x13 w fun x15 w =>
    sLoad Tryd.prog 45 x15 w fun x16 w =>
    sAlloc Tryd.prog 45 w fun x7 w =>
    sStore Tryd.prog 45 x7 x16 w fun w =>
    sFldA Tryd.prog 45 x7 0 w fun x18 w =>
    sLoad Tryd.prog 3 x18 w fun x19 w =>
    sFldA Tryd.prog 45 x7 1 w fun x20 w =>
    sLoad Tryd.prog 3 x20 w fun x21 w =>
    sCall Tryd.prog 28 [n0, x19, x21] w fun x22 w =>
    sUn Tryd.prog .not x22 w fun x23 w =>
    sIf x23 (
      K (.int .i64 1) w) (
      sFldA Tryd.prog 45 x7 0 w fun x24 w =>
      sLoad Tryd.prog 3 x24 w fun x25 w =>
      sBin Tryd.prog .lss 3 false false x25 last5 w fun x27 w =>
      sIf x27 (
        K (.int .i64 90) w) (
        sFldA Tryd.prog 45 x7 1 w fun x28 w =>
        sLoad Tryd.prog 3 x28 w fun x29 w =>
        sBin Tryd.prog .add 3 false true x13 (.int .i64 1) w fun x30 w =>
        Nx1 [x29, x30] w))) (
    K (.int .i64 0) w)

def bodkinref09_Check (K : K1) (n0 l1 : Value) (w : World) : Prop :=
  sBuiltin Tryd.prog .len [22] 3 [l1] w fun x9 w =>
  sBin Tryd.prog .gtr 3 false true x9 (.int .i64 64) w fun x10 w =>
  sIf x10 (
    K (.int .i64 2) w) (
    sBuiltin Tryd.prog .len [22] 3 [l1] w fun x12 w =>
    LoopS [(.int .i64 0), (.int .i64 0)] 2 19 w fun us _ w Nx1 =>
      bodkinref09_Check_L1 K Nx1 l1 n0 x12 (hd us) (hd (tl us)) w)

def bodkinref09_Check.sc : SC := (.seq (.reg (.op 0 .done)) (.seq (.seq (.reg (.op 0 (.op 1 (.op 2 .done)))) (.cond (.seq (.reg (.op 0 .done)) .nop) .nop)) (.seq (.reg (.op 0 .done)) (.seq (.seq (.reg (.op 0 (.op 1 (.op 2 .done)))) (.sub (.loop [5, 13] [14, 15, 16, 7, 17, 18, 19, 20, 21, 22, 23, 4, 24, 25, 26, 27, 28, 29, 30] (.seq (.reg (.op 0 .done)) (.seq (.cond .nop .nop) (.seq (.sub (.seq (.reg (.op 0 (.op 1 (.op 2 (.op 3 .done))))) (.seq (.seq (.reg (.op 0 (.op 1 (.op 2 (.op 3 (.op 4 (.op 5 (.op 6 .done)))))))) (.cond (.seq (.reg (.op 0 .done)) .nop) .nop)) (.seq (.seq (.reg (.op 0 (.op 1 (.op 2 (.op 3 .done))))) (.cond (.seq (.reg (.op 0 .done)) .nop) .nop)) (.reg (.op 0 (.op 1 (.op 2 .done)))))))) (.reg (.op 0 (.op 1 .done))))))))) (.seq (.reg (.op 0 .done)) .nop)))))

theorem bodkinref09_Check.ok : okC Tryd.f11.ntmps bodkinref09_Check.sc (bodyOf Tryd.f11) = true := by kernel_rfl

theorem bodkinref09_Check.eq {K : K1} {n0 l1 : Value} {w : World} : bodkinref09_Check K n0 l1 w = codeS Tryd.prog bodkinref09_Check.sc (bodyOf Tryd.f11) (argsF 0 [n0, l1]) w (retQ Tryd.prog Tryd.f11.results.toList K) := by kernel_rfl

theorem bodkinref09_Check.call {K : K1} {n0 l1 : Value} {w : World} (h : bodkinref09_Check K n0 l1 w) : sCall Tryd.prog 11 [n0, l1] w K := sCall_code mixed Tryd.func11 (by kernel_rfl) rfl rfl bodkinref09_Check.ok bodkinref09_Check.eq h

abbrev bodkinref09_Check.n : Nat := 11

/-- 'bodkin bodkinlaw09.long' -/
def bodkinlaw09_long_L1 (K : K1) (Nx1 : List Value → World → Prop) (l1 x17 : Value) (n5 x18 : Value) (w : World) : Prop :=
  sBin Tryd.prog .lss 3 false false x18 x17 w fun x19 w =>
  sIf x19 (
    sIdxA Tryd.prog 22 l1 x18 w fun x20 w =>
    sLoad Tryd.prog 45 x20 w fun x21 w =>
    sAlloc Tryd.prog 45 w fun x7 w =>
    sStore Tryd.prog 45 x7 x21 w fun w =>
    sFldA Tryd.prog 45 x7 2 w fun x22 w =>
    sLoad Tryd.prog 9 x22 w fun x23 w =>
    sBuiltin Tryd.prog .len [9] 3 [x23] w fun x24 w =>
    sBin Tryd.prog .gtr 3 false true x24 (.int .i64 1000) w fun x25 w =>
    sIf x25 (
      K (.bool true) w) (
      sFldA Tryd.prog 45 x7 2 w fun x27 w =>
      sLoad Tryd.prog 9 x27 w fun x28 w =>
      sBuiltin Tryd.prog .len [9] 3 [x28] w fun x29 w =>
      sBin Tryd.prog .add 3 false false n5 x29 w fun x30 w =>
      sBin Tryd.prog .add 3 false true x18 (.int .i64 1) w fun x31 w =>
      Nx1 [x30, x31] w)) (
    sBin Tryd.prog .gtr 3 false true n5 (.int .i64 3000) w fun x33 w =>
    K x33 w)

def bodkinlaw09_long (K : K1) (s0 l1 : Value) (w : World) : Prop :=
  sBuiltin Tryd.prog .len [9] 3 [s0] w fun x9 w =>
  sBin Tryd.prog .gtr 3 false true x9 (.int .i64 1000) w fun x10 w =>
  sIf x10 (
    K (.bool true) w) (
    sBuiltin Tryd.prog .len [22] 3 [l1] w fun x13 w =>
    sBin Tryd.prog .gtr 3 false true x13 (.int .i64 100) w fun x14 w =>
    sIf x14 (
      K (.bool true) w) (
      sBuiltin Tryd.prog .len [22] 3 [l1] w fun x17 w =>
      LoopS [(.int .i64 0), (.int .i64 0)] 2 15 w fun us _ w Nx1 =>
        bodkinlaw09_long_L1 K Nx1 l1 x17 (hd us) (hd (tl us)) w))

def bodkinlaw09_long.sc : SC := (.seq (.reg (.op 0 .done)) (.seq (.seq (.reg (.op 0 (.op 1 (.op 2 (.op 3 (.test 3 (.skip 4 (.skip 5 (.skip 6 (.op 7 .done)))) (.op 4 (.op 5 (.op 6 (.op 7 .done)))))))))) (.cond (.seq (.reg (.op 0 .done)) .nop) .nop)) (.seq (.reg (.op 0 .done)) (.seq (.seq (.reg (.op 0 (.op 1 (.op 2 .done)))) (.sub (.loop [5, 18] [19, 20, 21, 7, 22, 23, 24, 25, 4, 26, 27, 28, 29, 30, 31] (.seq (.reg (.op 0 .done)) (.seq (.cond .nop .nop) (.seq (.sub (.seq (.reg (.op 0 (.op 1 (.op 2 (.op 3 .done))))) (.seq (.seq (.reg (.op 0 (.op 1 (.op 2 (.op 3 .done))))) (.cond (.seq (.reg (.op 0 .done)) .nop) .nop)) (.reg (.op 0 (.op 1 (.op 2 (.op 3 (.op 4 (.op 5 .done)))))))))) (.reg (.op 0 (.op 1 .done))))))))) (.seq (.reg (.op 0 (.op 1 (.op 2 .done)))) .nop)))))

theorem bodkinlaw09_long.ok : okC Tryd.f12.ntmps bodkinlaw09_long.sc (bodyOf Tryd.f12) = true := by kernel_rfl

theorem bodkinlaw09_long.eq {K : K1} {s0 l1 : Value} {w : World} : bodkinlaw09_long K s0 l1 w = codeS Tryd.prog bodkinlaw09_long.sc (bodyOf Tryd.f12) (argsF 0 [s0, l1]) w (retQ Tryd.prog Tryd.f12.results.toList K) := by kernel_rfl

theorem bodkinlaw09_long.call {K : K1} {s0 l1 : Value} {w : World} (h : bodkinlaw09_long K s0 l1 w) : sCall Tryd.prog 12 [s0, l1] w K := sCall_code mixed Tryd.func12 (by kernel_rfl) rfl rfl bodkinlaw09_long.ok bodkinlaw09_long.eq h

abbrev bodkinlaw09_long.n : Nat := 12

/-- 'bodkin rope.New' -/
def rope_New (K : K1) (s0 : Value) (w : World) : Prop :=
  sCall Tryd.prog 29 [s0] w fun x8 w =>
  sBuiltin Tryd.prog .len [32] 3 [x8] w fun x10 w =>
  sBin Tryd.prog .gtr 3 false true x10 (.int .i64 20000) w fun x11 w =>
  sIf x11 (
    K (.tuple #[(.pointer none), (.int .i64 5)]) w) (
    sCall Tryd.prog 31 [x8] w fun x14 w =>
    sCall Tryd.prog 30 [x14] w fun x15 w =>
    sExtract x15 0 w fun x16 w =>
    sExtract x15 1 w fun x17 w =>
    sBin Tryd.prog .neq 24 false true x17 (.int .i64 0) w fun x19 w =>
    sIf x19 (
      K (.tuple #[(.pointer none), x17]) w) (
      sBuild Tryd.prog 63 [(0, x16)] w fun x22 w =>
      sBox Tryd.prog 63 x22 w fun x23 w =>
      K (.tuple #[x23, (.int .i64 0)]) w))

def rope_New.sc : SC := (.seq (.reg (.op 0 (.op 1 .done))) (.seq (.reg (.op 0 (.op 1 (.op 2 .done)))) (.seq (.seq (.reg (.op 0 (.op 1 (.op 2 .done)))) (.cond (.seq (.reg (.op 0 (.op 1 .done))) .nop) .nop)) (.seq (.reg (.op 0 (.op 1 (.op 2 (.op 3 (.op 4 (.op 5 (.op 6 (.op 7 .done))))))))) (.seq (.seq (.reg (.op 0 (.op 1 .done))) (.cond (.seq (.reg (.op 0 (.op 1 (.op 2 .done)))) .nop) .nop)) (.seq (.reg (.op 0 (.op 1 (.op 2 (.op 3 (.op 4 .done)))))) .nop))))))

theorem rope_New.ok : okC Tryd.f13.ntmps rope_New.sc (bodyOf Tryd.f13) = true := by kernel_rfl

theorem rope_New.eq {K : K1} {s0 : Value} {w : World} : rope_New K s0 w = codeS Tryd.prog rope_New.sc (bodyOf Tryd.f13) (argsF 0 [s0]) w (retQ Tryd.prog Tryd.f13.results.toList K) := by kernel_rfl

theorem rope_New.call {K : K1} {s0 : Value} {w : World} (h : rope_New K s0 w) : sCall Tryd.prog 13 [s0] w K := sCall_code mixed Tryd.func13 (by kernel_rfl) rfl rfl rope_New.ok rope_New.eq h

abbrev rope_New.n : Nat := 13

/-- 'bodkin bodkinref01.Decode' -/
def bodkinref01_Decode_L1 (K : K1) (Nx1 : List Value → World → Prop) (s0 : Value) (out3 at4 : Value) (w : World) : Prop :=
  sBuiltin Tryd.prog .len [9] 3 [s0] w fun x8 w =>
  sBin Tryd.prog .lss 3 false false at4 x8 w fun x9 w =>
  sIf x9 (
    sCall Tryd.prog 32 [s0, at4] w fun x12 w =>
    sAlloc Tryd.prog 65 w fun x5 w =>
    sStore Tryd.prog 65 x5 x12 w fun w =>
    sFldA Tryd.prog 65 x5 0 w fun x14 w =>
    sLoad Tryd.prog 21 x14 w fun x15 w =>
    sBuildSlice Tryd.prog 32 1 [(0, x15)] w fun x16 w =>
    sBuiltin Tryd.prog .append [32, 32] 32 [out3, x16] w fun x17 w =>
    sFldA Tryd.prog 65 x5 1 w fun x19 w =>
    sLoad Tryd.prog 3 x19 w fun x20 w =>
    sBin Tryd.prog .add 3 false false at4 x20 w fun x21 w =>
    Nx1 [x17, x21] w) (
    K out3 w)

def bodkinref01_Decode (K : K1) (s0 : Value) (w : World) : Prop :=
  LoopS [(.slice none 0 0), (.int .i64 0)] 2 17 w fun us _ w Nx1 =>
    bodkinref01_Decode_L1 K Nx1 s0 (hd us) (hd (tl us)) w

def bodkinref01_Decode.sc : SC := (.seq (.reg (.op 0 .done)) (.seq (.reg (.op 0 .done)) (.seq (.reg (.op 0 .done)) (.seq (.sub (.loop [3, 4] [6, 7, 8, 9, 10, 11, 12, 5, 13, 14, 15, 16, 17, 18, 19, 20, 21] (.seq (.seq (.reg (.op 0 (.op 1 (.op 2 (.op 3 .done))))) (.cond .nop .nop)) (.sub (.seq (.reg (.op 0 (.op 1 (.op 2 (.op 3 (.op 4 .done)))))) (.seq (.reg (.op 0 (.op 1 (.op 2 (.op 3 (.op 4 (.op 5 .done))))))) (.reg (.op 0 (.op 1 (.op 2 (.op 3 (.op 4 .done)))))))))))) (.seq (.reg (.op 0 (.op 1 .done))) .nop)))))

theorem bodkinref01_Decode.ok : okC Tryd.f14.ntmps bodkinref01_Decode.sc (bodyOf Tryd.f14) = true := by kernel_rfl

theorem bodkinref01_Decode.eq {K : K1} {s0 : Value} {w : World} : bodkinref01_Decode K s0 w = codeS Tryd.prog bodkinref01_Decode.sc (bodyOf Tryd.f14) (argsF 0 [s0]) w (retQ Tryd.prog Tryd.f14.results.toList K) := by kernel_rfl

theorem bodkinref01_Decode.call {K : K1} {s0 : Value} {w : World} (h : bodkinref01_Decode K s0 w) : sCall Tryd.prog 14 [s0] w K := sCall_code mixed Tryd.func14 (by kernel_rfl) rfl rfl bodkinref01_Decode.ok bodkinref01_Decode.eq h

abbrev bodkinref01_Decode.n : Nat := 14

/-- 'bodkin batch.Apply' -/
def batch_Apply_L1 (K : K1) (Nx1 : List Value → World → Prop) (l1 r2 x26 x30 x33 : Value) (whole9 at10 x34 : Value) (w : World) : Prop :=
  sBin Tryd.prog .lss 3 false false x34 x33 w fun x35 w =>
  sIf x35 (
    sIdxA Tryd.prog 22 l1 x34 w fun x36 w =>
    sLoad Tryd.prog 45 x36 w fun x37 w =>
    sAlloc Tryd.prog 45 w fun x12 w =>
    sStore Tryd.prog 45 x12 x37 w fun w =>
    DrawS w fun C w =>
    stillS C w (fun w k => sFldA Tryd.prog 45 x12 0 w k) fun x41 =>
    stillS C w (fun w k => sLoad Tryd.prog 3 x41 w k) fun x42 =>
    stillS C w (fun w k => sFldA Tryd.prog 45 x12 2 w k) fun x44 =>
    stillS C w (fun w k => sLoad Tryd.prog 9 x44 w k) fun x45 =>
    sDyn Tryd.prog x26 [at10, x42] w fun x43 w => C w ∧
    sCall Tryd.prog 37 [x45] w fun x46 w => C w ∧
    stillS C w (fun w k => sBin Tryd.prog .add 9 false false x43 x46 w k) fun x47 =>
    stillS C w (fun w k => sBin Tryd.prog .add 9 false false whole9 x47 w k) fun x48 =>
    sFldA Tryd.prog 45 x12 1 w fun x49 w =>
    sLoad Tryd.prog 3 x49 w fun x50 w =>
    sBin Tryd.prog .add 3 false true x34 (.int .i64 1) w fun x51 w =>
    Nx1 [x48, x50, x51] w) (
    sLoad Tryd.prog 29 r2 w fun x52 w =>
    sCall Tryd.prog 34 [x52, x30, at10, whole9] w fun x56 w =>
    sExtract x56 0 w fun x57 w =>
    sExtract x56 1 w fun x58 w =>
    K (.tuple #[x57, x58]) w)

def batch_Apply (K : K1) (r0 l1 : Value) (w : World) : Prop :=
  sBox Tryd.prog 29 r0 w fun r2 w =>
  sLoad Tryd.prog 29 r2 w fun x13 w =>
  sCall Tryd.prog 33 [x13, l1] w fun x15 w =>
  sBin Tryd.prog .neq 24 false true x15 (.int .i64 0) w fun x17 w =>
  sIf x17 (
    K (.tuple #[(.pointer none), x15]) w) (
    sBuiltin Tryd.prog .len [22] 3 [l1] w fun x20 w =>
    sBin Tryd.prog .eql 3 false true x20 (.int .i64 0) w fun x21 w =>
    sIf x21 (
      sLoad Tryd.prog 29 r2 w fun x22 w =>
      sCall Tryd.prog 34 [x22, (.int .i64 0), (.int .i64 0), (.string ⟨#[]⟩)] w fun x23 w =>
      sExtract x23 0 w fun x24 w =>
      sExtract x23 1 w fun x25 w =>
      K (.tuple #[x24, x25]) w) (
      sFunc Tryd.prog (.func 35) [] [r2] w fun x26 w =>
      sIdxA Tryd.prog 22 l1 (.int .i64 0) w fun x28 w =>
      sFldA Tryd.prog 45 x28 0 w fun x29 w =>
      sLoad Tryd.prog 3 x29 w fun x30 w =>
      sBuiltin Tryd.prog .len [22] 3 [l1] w fun x33 w =>
      LoopS [(.string ⟨#[]⟩), x30, (.int .i64 0)] 3 18 w fun us _ w Nx1 =>
        batch_Apply_L1 K Nx1 l1 r2 x26 x30 x33 (hd us) (hd (tl us)) (hd (tl (tl us))) w))

def batch_Apply.sc : SC := (.seq (.reg (.op 0 (.op 1 (.op 2 .done)))) (.seq (.seq (.reg (.op 0 (.op 1 (.op 2 (.op 3 .done))))) (.seq (.reg (.op 0 (.op 1 .done))) (.cond (.seq (.reg (.op 0 (.op 1 (.op 2 .done)))) .nop) .nop))) (.seq (.seq (.reg (.op 0 (.op 1 (.op 2 .done)))) (.cond (.seq (.reg (.op 0 (.op 1 (.op 2 (.op 3 (.op 4 (.op 5 .done))))))) .nop) .nop)) (.seq (.reg (.op 0 (.op 1 .done))) (.seq (.reg (.op 0 (.op 1 (.op 2 (.op 3 (.op 4 .done)))))) (.seq (.reg (.op 0 (.op 1 (.op 2 .done)))) (.seq (.seq (.reg (.op 0 (.op 1 (.op 2 .done)))) (.sub (.loop [9, 10, 34] [35, 36, 37, 12, 38, 39, 40, 41, 42, 43, 44, 45, 46, 47, 48, 49, 50, 51] (.seq (.reg (.op 0 .done)) (.seq (.cond .nop .nop) (.seq (.sub (.seq (.reg (.op 0 (.op 1 (.op 2 (.op 3 .done))))) (.seq (.draw (.op 0 (.op 1 (.op 2 (.op 3 (.op 4 (.op 6 (.op 7 (.op 5 (.op 8 (.op 9 (.op 10 (.op 11 .done))))))))))))) (.reg (.op 0 (.op 1 (.op 2 .done))))))) (.reg (.op 0 (.op 1 .done))))))))) (.seq (.reg (.op 0 (.op 1 (.op 2 (.op 3 (.op 4 (.op 5 (.op 6 (.op 7 (.op 8 .done)))))))))) .nop))))))))

theorem batch_Apply.ok : okC Tryd.f15.ntmps batch_Apply.sc (bodyOf Tryd.f15) = true := by kernel_rfl

theorem batch_Apply.eq {K : K1} {r0 l1 : Value} {w : World} : batch_Apply K r0 l1 w = codeS Tryd.prog batch_Apply.sc (bodyOf Tryd.f15) (argsF 0 [r0, l1]) w (retQ Tryd.prog Tryd.f15.results.toList K) := by kernel_rfl

theorem batch_Apply.call {K : K1} {r0 l1 : Value} {w : World} (h : batch_Apply K r0 l1 w) : sCall Tryd.prog 15 [r0, l1] w K := sCall_code mixed Tryd.func15 (by kernel_rfl) rfl rfl batch_Apply.ok batch_Apply.eq h

abbrev batch_Apply.n : Nat := 15

/-- 'bodkin batch.Invert' -/
def batch_Invert_L1 (K : K1) (Nx1 : List Value → World → Prop) (l1 r0 x21 : Value) (out7 shift8 x22 : Value) (w : World) : Prop :=
  sBin Tryd.prog .lss 3 false false x22 x21 w fun x23 w =>
  sIf x23 (
    sIdxA Tryd.prog 22 l1 x22 w fun x24 w =>
    sLoad Tryd.prog 45 x24 w fun x25 w =>
    sAlloc Tryd.prog 45 w fun x10 w =>
    sStore Tryd.prog 45 x10 x25 w fun w =>
    sFldA Tryd.prog 45 x10 0 w fun x28 w =>
    sLoad Tryd.prog 3 x28 w fun x29 w =>
    sFldA Tryd.prog 45 x10 1 w fun x30 w =>
    sLoad Tryd.prog 3 x30 w fun x31 w =>
    sCall Tryd.prog 36 [r0, x29, x31] w fun x32 w =>
    sExtract x32 0 w fun x33 w =>
    sExtract x32 1 w fun x34 w =>
    sFldA Tryd.prog 45 x10 2 w fun x35 w =>
    sLoad Tryd.prog 9 x35 w fun x36 w =>
    sCall Tryd.prog 38 [x36] w fun x37 w =>
    sFldA Tryd.prog 45 x10 0 w fun x39 w =>
    sLoad Tryd.prog 3 x39 w fun x40 w =>
    sBin Tryd.prog .add 3 false false x40 shift8 w fun x42 w =>
    sFldA Tryd.prog 45 x10 0 w fun x43 w =>
    sLoad Tryd.prog 3 x43 w fun x44 w =>
    sBin Tryd.prog .add 3 false false x44 shift8 w fun x46 w =>
    sBin Tryd.prog .add 3 false false x46 x37 w fun x48 w =>
    sBuild Tryd.prog 45 [(0, x42), (1, x48), (2, x33)] w fun x50 w =>
    sBuildSlice Tryd.prog 22 1 [(0, x50)] w fun x51 w =>
    sBuiltin Tryd.prog .append [22, 22] 22 [out7, x51] w fun x52 w =>
    sFldA Tryd.prog 45 x10 1 w fun x55 w =>
    sLoad Tryd.prog 3 x55 w fun x56 w =>
    sFldA Tryd.prog 45 x10 0 w fun x57 w =>
    sLoad Tryd.prog 3 x57 w fun x58 w =>
    sBin Tryd.prog .sub 3 false false x56 x58 w fun x59 w =>
    sBin Tryd.prog .sub 3 false false x37 x59 w fun x60 w =>
    sBin Tryd.prog .add 3 false false shift8 x60 w fun x61 w =>
    sBin Tryd.prog .add 3 false true x22 (.int .i64 1) w fun x62 w =>
    Nx1 [x52, x61, x62] w) (
    K (.tuple #[out7, (.int .i64 0)]) w)

def batch_Invert (K : K1) (r0 l1 : Value) (w : World) : Prop :=
  sCall Tryd.prog 33 [r0, l1] w fun x16 w =>
  sBin Tryd.prog .neq 24 false true x16 (.int .i64 0) w fun x18 w =>
  sIf x18 (
    K (.tuple #[(.slice none 0 0), x16]) w) (
    sBuiltin Tryd.prog .len [22] 3 [l1] w fun x21 w =>
    LoopS [(.slice none 0 0), (.int .i64 0), (.int .i64 0)] 3 44 w fun us _ w Nx1 =>
      batch_Invert_L1 K Nx1 l1 r0 x21 (hd us) (hd (tl us)) (hd (tl (tl us))) w)

def batch_Invert.sc : SC := (.seq (.reg (.op 0 (.op 1 .done))) (.seq (.seq (.reg (.op 0 (.op 1 (.op 2 (.op 3 .done))))) (.seq (.reg (.op 0 (.op 1 .done))) (.cond (.seq (.reg (.op 0 (.op 1 (.op 2 .done)))) .nop) .nop))) (.seq (.reg (.op 0 .done)) (.seq (.reg (.op 0 .done)) (.seq (.seq (.reg (.op 0 (.op 1 (.op 2 .done)))) (.sub (.loop [7, 8, 22] [23, 24, 25, 10, 27, 28, 29, 30, 31, 32, 26, 33, 34, 11, 12, 35, 36, 37, 13, 38, 39, 40, 41, 42, 43, 44, 45, 46, 47, 48, 49, 50, 51, 52, 53, 54, 55, 56, 57, 58, 59, 60, 61, 62] (.seq (.reg (.op 0 .done)) (.seq (.cond .nop .nop) (.seq (.sub (.seq (.reg (.op 0 (.op 1 (.op 2 (.op 3 .done))))) (.seq (.reg (.op 0 (.op 1 (.op 2 (.op 3 (.op 4 (.op 5 (.op 6 (.op 7 (.op 8 (.op 9 (.op 10 .done)))))))))))) (.seq (.reg (.op 0 (.op 1 (.op 2 (.op 3 .done))))) (.seq (.reg (.op 0 (.op 1 (.op 2 (.op 3 (.op 4 (.op 5 (.op 6 (.op 7 (.op 8 (.op 9 (.op 10 (.op 11 (.op 12 (.op 13 (.op 14 (.op 15 .done))))))))))))))))) (.reg (.op 0 (.op 1 (.op 2 (.op 3 (.op 4 (.op 5 (.op 6 (.op 7 (.op 8 (.op 9 .done)))))))))))))))) (.reg (.op 0 (.op 1 .done))))))))) (.seq (.reg (.op 0 (.op 1 (.op 2 .done)))) .nop))))))

theorem batch_Invert.ok : okC Tryd.f16.ntmps batch_Invert.sc (bodyOf Tryd.f16) = true := by kernel_rfl

theorem batch_Invert.eq {K : K1} {r0 l1 : Value} {w : World} : batch_Invert K r0 l1 w = codeS Tryd.prog batch_Invert.sc (bodyOf Tryd.f16) (argsF 0 [r0, l1]) w (retQ Tryd.prog Tryd.f16.results.toList K) := by kernel_rfl

theorem batch_Invert.call {K : K1} {r0 l1 : Value} {w : World} (h : batch_Invert K r0 l1 w) : sCall Tryd.prog 16 [r0, l1] w K := sCall_code mixed Tryd.func16 (by kernel_rfl) rfl rfl batch_Invert.ok batch_Invert.eq h

abbrev batch_Invert.n : Nat := 16

/-- 'bodkin bodkinref09.Apply' -/
def bodkinref09_Apply_L1 (K : K1) (Nx1 : List Value → World → Prop) (l1 : Value) (out7 i8 : Value) (w : World) : Prop :=
  sBin Tryd.prog .geq 3 false true i8 (.int .i64 0) w fun x23 w =>
  sIf x23 (
    DrawS w fun C w =>
    stillS C w (fun w k => sIdxA Tryd.prog 22 l1 i8 w k) fun x29 =>
    stillS C w (fun w k => sFldA Tryd.prog 45 x29 0 w k) fun x30 =>
    stillS C w (fun w k => sLoad Tryd.prog 3 x30 w k) fun x31 =>
    stillS C w (fun w k => sIdxA Tryd.prog 22 l1 i8 w k) fun x34 =>
    stillS C w (fun w k => sFldA Tryd.prog 45 x34 1 w k) fun x35 =>
    stillS C w (fun w k => sLoad Tryd.prog 3 x35 w k) fun x36 =>
    stillS C w (fun w k => sBuild Tryd.prog 75 [(0, x31), (1, x36)] w k) fun x37 =>
    stillS C w (fun w k => sIdxA Tryd.prog 22 l1 i8 w k) fun x40 =>
    stillS C w (fun w k => sFldA Tryd.prog 45 x40 2 w k) fun x41 =>
    stillS C w (fun w k => sLoad Tryd.prog 9 x41 w k) fun x42 =>
    sCall Tryd.prog 14 [x42] w fun x43 w => C w ∧
    sCall Tryd.prog 39 [out7, x37, x43] w fun x44 w => C w ∧
    sBin Tryd.prog .sub 3 false true i8 (.int .i64 1) w fun x25 w =>
    Nx1 [x44, x25] w) (
    sBuiltin Tryd.prog .len [32] 3 [out7] w fun x46 w =>
    sCall Tryd.prog 40 [] w fun x47 w =>
    sBin Tryd.prog .gtr 3 false false x46 x47 w fun x48 w =>
    sIf x48 (
      K (.tuple #[(.slice none 0 0), (.int .i64 5)]) w) (
      K (.tuple #[out7, (.int .i64 0)]) w))

def bodkinref09_Apply (K : K1) (r0 l1 : Value) (w : World) : Prop :=
  sBuiltin Tryd.prog .len [32] 3 [r0] w fun x10 w =>
  sCall Tryd.prog 11 [x10, l1] w fun x12 w =>
  sBin Tryd.prog .neq 3 false true x12 (.int .i64 0) w fun x14 w =>
  sIf x14 (
    K (.tuple #[(.slice none 0 0), x12]) w) (
    sBuiltin Tryd.prog .append [32, 32] 32 [(.slice none 0 0), r0] w fun x18 w =>
    sBuiltin Tryd.prog .len [22] 3 [l1] w fun x20 w =>
    sBin Tryd.prog .sub 3 false true x20 (.int .i64 1) w fun x21 w =>
    LoopS [x18, x21] 2 23 w fun us _ w Nx1 =>
      bodkinref09_Apply_L1 K Nx1 l1 (hd us) (hd (tl us)) w)

def bodkinref09_Apply.sc : SC := (.seq (.reg (.op 0 (.op 1 .done))) (.seq (.reg (.op 0 (.op 1 (.op 2 (.op 3 (.op 4 .done)))))) (.seq (.seq (.reg (.op 0 (.op 1 .done))) (.cond (.seq (.reg (.op 0 (.op 1 (.op 2 .done)))) .nop) .nop)) (.seq (.reg (.op 0 .done)) (.seq (.reg (.op 0 (.op 1 (.op 2 (.op 3 .done))))) (.seq (.seq (.reg (.op 0 (.op 1 (.op 2 (.op 3 .done))))) (.sub (.loop [7, 8] [22, 23, 26, 27, 28, 29, 30, 31, 32, 33, 34, 35, 36, 37, 38, 39, 40, 41, 42, 43, 44, 24, 25] (.seq (.seq (.reg (.op 0 (.op 1 .done))) (.cond .nop .nop)) (.seq (.sub (.draw (.op 0 (.op 1 (.op 2 (.op 3 (.op 4 (.op 5 (.op 6 (.op 7 (.op 8 (.op 9 (.op 10 (.op 11 (.op 12 (.op 13 (.op 14 (.op 15 (.op 16 (.op 17 (.op 18 (.op 19 .done)))))))))))))))))))))) (.reg (.op 0 (.op 1 (.op 2 .done))))))))) (.seq (.seq (.reg (.op 0 (.op 1 (.op 2 (.op 3 .done))))) (.cond (.seq (.reg (.op 0 (.op 1 .done))) .nop) .nop)) (.seq (.reg (.op 0 (.op 1 (.op 2 .done)))) .nop))))))))

theorem bodkinref09_Apply.ok : okC Tryd.f17.ntmps bodkinref09_Apply.sc (bodyOf Tryd.f17) = true := by kernel_rfl

theorem bodkinref09_Apply.eq {K : K1} {r0 l1 : Value} {w : World} : bodkinref09_Apply K r0 l1 w = codeS Tryd.prog bodkinref09_Apply.sc (bodyOf Tryd.f17) (argsF 0 [r0, l1]) w (retQ Tryd.prog Tryd.f17.results.toList K) := by kernel_rfl

theorem bodkinref09_Apply.call {K : K1} {r0 l1 : Value} {w : World} (h : bodkinref09_Apply K r0 l1 w) : sCall Tryd.prog 17 [r0, l1] w K := sCall_code mixed Tryd.func17 (by kernel_rfl) rfl rfl bodkinref09_Apply.ok bodkinref09_Apply.eq h

abbrev bodkinref09_Apply.n : Nat := 17

/-- '(*bodkin rope.Rope).Text' -/
def rope_Rope_Text (K : K1) (r0 : Value) (w : World) : Prop :=
  sCall Tryd.prog 42 [r0] w fun x4 w =>
  sCall Tryd.prog 41 [x4, (.string ⟨#[]⟩)] w fun x5 w =>
  K x5 w

def rope_Rope_Text.sc : SC := (.seq (.reg (.op 0 .done)) (.seq (.reg (.op 0 (.op 1 (.op 2 (.op 3 .done))))) .nop))

theorem rope_Rope_Text.ok : okC Tryd.f18.ntmps rope_Rope_Text.sc (bodyOf Tryd.f18) = true := by kernel_rfl

theorem rope_Rope_Text.eq {K : K1} {r0 : Value} {w : World} : rope_Rope_Text K r0 w = codeS Tryd.prog rope_Rope_Text.sc (bodyOf Tryd.f18) (argsF 0 [r0]) w (retQ Tryd.prog Tryd.f18.results.toList K) := by kernel_rfl

theorem rope_Rope_Text.call {K : K1} {r0 : Value} {w : World} (h : rope_Rope_Text K r0 w) : sCall Tryd.prog 18 [r0] w K := sCall_code mixed Tryd.func18 (by kernel_rfl) rfl rfl rope_Rope_Text.ok rope_Rope_Text.eq h

abbrev rope_Rope_Text.n : Nat := 18

/-- 'bodkin bodkinref01.Encode' -/
def bodkinref01_Encode_L1 (K : K1) (Nx1 : List Value → World → Prop) (l0 x8 : Value) (out3 x9 : Value) (w : World) : Prop :=
  sBin Tryd.prog .lss 3 false false x9 x8 w fun x10 w =>
  sIf x10 (
    sIdxA Tryd.prog 32 l0 x9 w fun x11 w =>
    sLoad Tryd.prog 21 x11 w fun x12 w =>
    sCall Tryd.prog 43 [x12] w fun x14 w =>
    sBin Tryd.prog .eql 3 false true x14 (.int .i64 0) w fun x16 w =>
    sIf x16 (
      sCall Tryd.prog 44 [(.int .i32 65533), (.int .i64 3)] w fun x18 w =>
      sBin Tryd.prog .add 9 false false out3 x18 w fun x19 w =>
      sBin Tryd.prog .add 3 false true x9 (.int .i64 1) w fun x25 w =>
      Nx1 [x19, x25] w) (
      sCall Tryd.prog 44 [x12, x14] w fun x23 w =>
      sBin Tryd.prog .add 9 false false out3 x23 w fun x24 w =>
      sBin Tryd.prog .add 3 false true x9 (.int .i64 1) w fun x25_1 w =>
      Nx1 [x24, x25_1] w)) (
    K out3 w)

def bodkinref01_Encode (K : K1) (l0 : Value) (w : World) : Prop :=
  sBuiltin Tryd.prog .len [32] 3 [l0] w fun x8 w =>
  LoopS [(.string ⟨#[]⟩), (.int .i64 0)] 2 18 w fun us _ w Nx1 =>
    bodkinref01_Encode_L1 K Nx1 l0 x8 (hd us) (hd (tl us)) w

def bodkinref01_Encode.sc : SC := (.seq (.reg (.op 0 .done)) (.seq (.reg (.op 0 .done)) (.seq (.seq (.reg (.op 0 (.op 1 (.op 2 .done)))) (.sub (.loop [3, 9] [10, 11, 12, 5, 13, 14, 6, 15, 16, 17, 18, 19, 20, 21, 22, 23, 24, 25] (.seq (.reg (.op 0 .done)) (.seq (.cond .nop .nop) (.seq (.sub (.seq (.reg (.op 0 (.op 1 (.op 2 .done)))) (.seq (.reg (.op 0 (.op 1 (.op 2 .done)))) (.seq (.reg (.op 0 (.op 1 .done))) (.cond (.reg (.op 0 (.op 1 (.op 2 (.op 3 .done))))) (.reg (.op 0 (.op 1 (.op 2 (.op 3 (.op 4 (.op 5 .done)))))))))))) (.reg (.op 0 (.op 1 .done))))))))) (.seq (.reg (.op 0 (.op 1 .done))) .nop))))

theorem bodkinref01_Encode.ok : okC Tryd.f19.ntmps bodkinref01_Encode.sc (bodyOf Tryd.f19) = true := by kernel_rfl

theorem bodkinref01_Encode.eq {K : K1} {l0 : Value} {w : World} : bodkinref01_Encode K l0 w = codeS Tryd.prog bodkinref01_Encode.sc (bodyOf Tryd.f19) (argsF 0 [l0]) w (retQ Tryd.prog Tryd.f19.results.toList K) := by kernel_rfl

theorem bodkinref01_Encode.call {K : K1} {l0 : Value} {w : World} (h : bodkinref01_Encode K l0 w) : sCall Tryd.prog 19 [l0] w K := sCall_code mixed Tryd.func19 (by kernel_rfl) rfl rfl bodkinref01_Encode.ok bodkinref01_Encode.eq h

abbrev bodkinref01_Encode.n : Nat := 19

/-- 'bodkin bodkinplain.Edits' -/
def bodkinplain_Edits_L1 (K : K1) (Nx1 : List Value → World → Prop) (a0 b1 x7 : Value) (x8 : Value) (w : World) : Prop :=
  sBin Tryd.prog .lss 3 false false x8 x7 w fun x9 w =>
  sIf x9 (
    DrawS w fun C w =>
    stillS C w (fun w k => sBuiltin Tryd.prog .len [22] 3 [b1] w k) fun x13 =>
    stillS C w (fun w k => sBin Tryd.prog .geq 3 false false x8 x13 w k) fun x14 =>
    sIf x14 (
      K (.bool false) w) (
      stillS C w (fun w k => sIdxA Tryd.prog 22 a0 x8 w k) fun x18 =>
      stillS C w (fun w k => sLoad Tryd.prog 45 x18 w k) fun x19 =>
      stillS C w (fun w k => sIdxA Tryd.prog 22 b1 x8 w k) fun x22 =>
      stillS C w (fun w k => sLoad Tryd.prog 45 x22 w k) fun x23 =>
      stillS C w (fun w k => sBin Tryd.prog .neq 45 false false x19 x23 w k) fun x24 =>
      sIf x24 (
        K (.bool false) w) (
        sBin Tryd.prog .add 3 false true x8 (.int .i64 1) w fun x26 w =>
        Nx1 [x26] w))) (
    sBuiltin Tryd.prog .len [22] 3 [a0] w fun x28 w =>
    sBuiltin Tryd.prog .len [22] 3 [b1] w fun x30 w =>
    sBin Tryd.prog .eql 3 false false x28 x30 w fun x31 w =>
    K x31 w)

def bodkinplain_Edits (K : K1) (a0 b1 : Value) (w : World) : Prop :=
  sBuiltin Tryd.prog .len [22] 3 [a0] w fun x7 w =>
  LoopS [(.int .i64 0)] 1 20 w fun us _ w Nx1 =>
    bodkinplain_Edits_L1 K Nx1 a0 b1 x7 (hd us) w

def bodkinplain_Edits.sc : SC := (.seq (.reg (.op 0 .done)) (.seq (.seq (.reg (.op 0 (.op 1 (.op 2 .done)))) (.sub (.loop [8] [9, 10, 5, 11, 12, 13, 14, 15, 16, 17, 18, 19, 20, 21, 22, 23, 24, 25, 4, 26] (.seq (.reg (.op 0 .done)) (.seq (.cond .nop .nop) (.seq (.sub (.seq (.reg (.op 0 (.op 1 .done))) (.seq (.draw (.op 0 (.op 1 (.op 2 (.op 3 (.op 4 (.test 4 (.skip 5 (.skip 6 (.skip 7 (.skip 8 (.skip 9 (.skip 10 (.skip 11 (.skip 12 (.skip 13 (.op 14 .done)))))))))) (.op 5 (.op 6 (.op 7 (.op 8 (.op 9 (.op 10 (.op 11 (.op 12 (.op 13 (.op 14 .done))))))))))))))))) (.cond (.seq (.reg (.op 0 .done)) .nop) .nop)))) (.reg (.op 0 (.op 1 .done))))))))) (.seq (.reg (.op 0 (.op 1 (.op 2 (.op 3 (.op 4 (.op 5 .done))))))) .nop)))

theorem bodkinplain_Edits.ok : okC Tryd.f20.ntmps bodkinplain_Edits.sc (bodyOf Tryd.f20) = true := by kernel_rfl

theorem bodkinplain_Edits.eq {K : K1} {a0 b1 : Value} {w : World} : bodkinplain_Edits K a0 b1 w = codeS Tryd.prog bodkinplain_Edits.sc (bodyOf Tryd.f20) (argsF 0 [a0, b1]) w (retQ Tryd.prog Tryd.f20.results.toList K) := by kernel_rfl

theorem bodkinplain_Edits.call {K : K1} {a0 b1 : Value} {w : World} (h : bodkinplain_Edits K a0 b1 w) : sCall Tryd.prog 20 [a0, b1] w K := sCall_code mixed Tryd.func20 (by kernel_rfl) rfl rfl bodkinplain_Edits.ok bodkinplain_Edits.eq h

abbrev bodkinplain_Edits.n : Nat := 20

/-- 'bodkin bodkinref09.Invert' -/
def bodkinref09_Invert_L2 (Nx1 : List Value → World → Prop) (Nx2 : List Value → World → Prop) (out5 r0 x13 x22 x23 x7 : Value) (at8 x24 : Value) (w : World) : Prop :=
  sBin Tryd.prog .lss 3 false false x24 x23 w fun x25 w =>
  sIf x25 (
    sIdxA Tryd.prog 22 x22 x24 w fun x26 w =>
    sLoad Tryd.prog 45 x26 w fun x27 w =>
    sAlloc Tryd.prog 45 w fun y10 w =>
    sStore Tryd.prog 45 y10 x27 w fun w =>
    DrawS w fun C w =>
    stillS C w (fun w k => sFldA Tryd.prog 45 y10 2 w k) fun x29 =>
    stillS C w (fun w k => sLoad Tryd.prog 9 x29 w k) fun x30 =>
    stillS C w (fun w k => sFldA Tryd.prog 45 y10 1 w k) fun x34 =>
    stillS C w (fun w k => sLoad Tryd.prog 3 x34 w k) fun x35 =>
    stillS C w (fun w k => sFldA Tryd.prog 45 y10 0 w k) fun x36 =>
    stillS C w (fun w k => sLoad Tryd.prog 3 x36 w k) fun x37 =>
    stillS C w (fun w k => sBin Tryd.prog .sub 3 false false x35 x37 w k) fun x38 =>
    sCall Tryd.prog 14 [x30] w fun x31 w => C w ∧
    stillS C w (fun w k => sBuiltin Tryd.prog .len [32] 3 [x31] w k) fun x32 =>
    stillS C w (fun w k => sBin Tryd.prog .add 3 false false at8 x32 w k) fun x33 =>
    stillS C w (fun w k => sBin Tryd.prog .sub 3 false false x33 x38 w k) fun x39 =>
    sBin Tryd.prog .add 3 false true x24 (.int .i64 1) w fun x40 w =>
    Nx2 [x39, x40] w) (
    DrawS w fun C w =>
    stillS C w (fun w k => sFldA Tryd.prog 45 x7 2 w k) fun x44 =>
    stillS C w (fun w k => sLoad Tryd.prog 9 x44 w k) fun x45 =>
    stillS C w (fun w k => sFldA Tryd.prog 45 x7 0 w k) fun x50 =>
    stillS C w (fun w k => sLoad Tryd.prog 3 x50 w k) fun x51 =>
    stillS C w (fun w k => sFldA Tryd.prog 45 x7 1 w k) fun x52 =>
    stillS C w (fun w k => sLoad Tryd.prog 3 x52 w k) fun x53 =>
    stillS C w (fun w k => sSlice Tryd.prog 32 r0 (some x51) (some x53) none w k) fun x54 =>
    sCall Tryd.prog 14 [x45] w fun x46 w => C w ∧
    stillS C w (fun w k => sBuiltin Tryd.prog .len [32] 3 [x46] w k) fun x47 =>
    stillS C w (fun w k => sBin Tryd.prog .add 3 false false at8 x47 w k) fun x48 =>
    sCall Tryd.prog 19 [x54] w fun x55 w => C w ∧
    stillS C w (fun w k => sBuild Tryd.prog 45 [(0, at8), (1, x48), (2, x55)] w k) fun x56 =>
    sBuildSlice Tryd.prog 22 1 [(0, x56)] w fun x57 w => C w ∧
    sBuiltin Tryd.prog .append [22, 22] 22 [out5, x57] w fun x58 w => C w ∧
    sBin Tryd.prog .add 3 false true x13 (.int .i64 1) w fun x59 w =>
    Nx1 [x58, x59] w)

def bodkinref09_Invert_L1 (K : K1) (Nx1 : List Value → World → Prop) (l1 r0 x12 : Value) (out5 x13 : Value) (w : World) : Prop :=
  sBin Tryd.prog .lss 3 false false x13 x12 w fun x14 w =>
  sIf x14 (
    sIdxA Tryd.prog 22 l1 x13 w fun x16 w =>
    sLoad Tryd.prog 45 x16 w fun x17 w =>
    sAlloc Tryd.prog 45 w fun x7 w =>
    sStore Tryd.prog 45 x7 x17 w fun w =>
    sFldA Tryd.prog 45 x7 0 w fun x18 w =>
    sLoad Tryd.prog 3 x18 w fun x19 w =>
    sSlice Tryd.prog 22 l1 none (some x13) none w fun x22 w =>
    sBuiltin Tryd.prog .len [22] 3 [x22] w fun x23 w =>
    LoopS [x19, (.int .i64 0)] 2 17 w fun us _ w Nx2 =>
      bodkinref09_Invert_L2 Nx1 Nx2 out5 r0 x13 x22 x23 x7 (hd us) (hd (tl us)) w) (
    K out5 w)

def bodkinref09_Invert (K : K1) (r0 l1 : Value) (w : World) : Prop :=
  sBuiltin Tryd.prog .len [22] 3 [l1] w fun x12 w =>
  LoopS [(.slice none 0 0), (.int .i64 0)] 2 50 w fun us _ w Nx1 =>
    bodkinref09_Invert_L1 K Nx1 l1 r0 x12 (hd us) (hd (tl us)) w

def bodkinref09_Invert.sc : SC := (.seq (.reg (.op 0 .done)) (.seq (.reg (.op 0 .done)) (.seq (.seq (.reg (.op 0 (.op 1 (.op 2 .done)))) (.sub (.loop [5, 13] [14, 15, 16, 17, 7, 6, 18, 19, 8, 20, 21, 22, 23, 24, 25, 26, 27, 10, 28, 29, 30, 31, 32, 33, 34, 35, 36, 37, 38, 39, 40, 41, 42, 43, 44, 45, 46, 47, 48, 49, 50, 51, 52, 53, 54, 55, 56, 57, 58, 59] (.seq (.reg (.op 0 .done)) (.seq (.cond .nop .nop) (.seq (.sub (.seq (.reg (.op 0 (.op 1 (.op 2 (.op 3 (.op 4 (.op 5 .done))))))) (.seq (.reg (.op 0 (.op 1 (.op 2 .done)))) (.seq (.seq (.reg (.op 0 (.op 1 (.op 2 (.op 3 (.op 4 .done)))))) (.sub (.loop [8, 24] [25, 26, 27, 10, 28, 29, 30, 31, 32, 33, 34, 35, 36, 37, 38, 39, 40] (.seq (.reg (.op 0 .done)) (.seq (.cond .nop .nop) (.seq (.sub (.seq (.reg (.op 0 (.op 1 (.op 2 (.op 3 .done))))) (.draw (.op 0 (.op 1 (.op 2 (.op 6 (.op 7 (.op 8 (.op 9 (.op 10 (.op 3 (.op 4 (.op 5 (.op 11 (.op 12 .done)))))))))))))))) (.reg (.op 0 (.op 1 .done))))))))) (.draw (.op 0 (.op 1 (.op 2 (.op 3 (.op 4 (.op 8 (.op 9 (.op 10 (.op 11 (.op 12 (.op 13 (.op 5 (.op 6 (.op 7 (.op 14 (.op 15 (.op 16 (.op 17 (.op 18 .done)))))))))))))))))))))))) (.reg (.op 0 (.op 1 .done))))))))) (.seq (.reg (.op 0 (.op 1 .done))) .nop))))

theorem bodkinref09_Invert.ok : okC Tryd.f21.ntmps bodkinref09_Invert.sc (bodyOf Tryd.f21) = true := by kernel_rfl

theorem bodkinref09_Invert.eq {K : K1} {r0 l1 : Value} {w : World} : bodkinref09_Invert K r0 l1 w = codeS Tryd.prog bodkinref09_Invert.sc (bodyOf Tryd.f21) (argsF 0 [r0, l1]) w (retQ Tryd.prog Tryd.f21.results.toList K) := by kernel_rfl

theorem bodkinref09_Invert.call {K : K1} {r0 l1 : Value} {w : World} (h : bodkinref09_Invert K r0 l1 w) : sCall Tryd.prog 21 [r0, l1] w K := sCall_code mixed Tryd.func21 (by kernel_rfl) rfl rfl bodkinref09_Invert.ok bodkinref09_Invert.eq h

abbrev bodkinref09_Invert.n : Nat := 21

/-- 'bodkin batch.Size' -/
def batch_Size_L1 (K : K1) (Nx1 : List Value → World → Prop) (l0 x7 : Value) (n3 x8 : Value) (w : World) : Prop :=
  sBin Tryd.prog .lss 3 false false x8 x7 w fun x9 w =>
  sIf x9 (
    sIdxA Tryd.prog 22 l0 x8 w fun x10 w =>
    sLoad Tryd.prog 45 x10 w fun x11 w =>
    sAlloc Tryd.prog 45 w fun x5 w =>
    sStore Tryd.prog 45 x5 x11 w fun w =>
    DrawS w fun C w =>
    stillS C w (fun w k => sFldA Tryd.prog 45 x5 2 w k) fun x13 =>
    stillS C w (fun w k => sLoad Tryd.prog 9 x13 w k) fun x14 =>
    stillS C w (fun w k => sFldA Tryd.prog 45 x5 1 w k) fun x16 =>
    stillS C w (fun w k => sLoad Tryd.prog 3 x16 w k) fun x17 =>
    stillS C w (fun w k => sFldA Tryd.prog 45 x5 0 w k) fun x18 =>
    stillS C w (fun w k => sLoad Tryd.prog 3 x18 w k) fun x19 =>
    stillS C w (fun w k => sBin Tryd.prog .sub 3 false false x17 x19 w k) fun x20 =>
    sCall Tryd.prog 38 [x14] w fun x15 w => C w ∧
    stillS C w (fun w k => sBin Tryd.prog .sub 3 false false x15 x20 w k) fun x21 =>
    stillS C w (fun w k => sBin Tryd.prog .add 3 false false n3 x21 w k) fun x22 =>
    sBin Tryd.prog .add 3 false true x8 (.int .i64 1) w fun x23 w =>
    Nx1 [x22, x23] w) (
    K n3 w)

def batch_Size (K : K1) (l0 : Value) (w : World) : Prop :=
  sBuiltin Tryd.prog .len [22] 3 [l0] w fun x7 w =>
  LoopS [(.int .i64 0), (.int .i64 0)] 2 16 w fun us _ w Nx1 =>
    batch_Size_L1 K Nx1 l0 x7 (hd us) (hd (tl us)) w

def batch_Size.sc : SC := (.seq (.reg (.op 0 .done)) (.seq (.reg (.op 0 .done)) (.seq (.seq (.reg (.op 0 (.op 1 (.op 2 .done)))) (.sub (.loop [3, 8] [9, 10, 11, 5, 12, 13, 14, 15, 16, 17, 18, 19, 20, 21, 22, 23] (.seq (.reg (.op 0 .done)) (.seq (.cond .nop .nop) (.seq (.sub (.seq (.reg (.op 0 (.op 1 (.op 2 (.op 3 .done))))) (.draw (.op 0 (.op 1 (.op 2 (.op 4 (.op 5 (.op 6 (.op 7 (.op 8 (.op 3 (.op 9 (.op 10 (.op 11 .done))))))))))))))) (.reg (.op 0 (.op 1 .done))))))))) (.seq (.reg (.op 0 (.op 1 .done))) .nop))))

theorem batch_Size.ok : okC Tryd.f22.ntmps batch_Size.sc (bodyOf Tryd.f22) = true := by kernel_rfl

theorem batch_Size.eq {K : K1} {l0 : Value} {w : World} : batch_Size K l0 w = codeS Tryd.prog batch_Size.sc (bodyOf Tryd.f22) (argsF 0 [l0]) w (retQ Tryd.prog Tryd.f22.results.toList K) := by kernel_rfl

theorem batch_Size.call {K : K1} {l0 : Value} {w : World} (h : batch_Size K l0 w) : sCall Tryd.prog 22 [l0] w K := sCall_code mixed Tryd.func22 (by kernel_rfl) rfl rfl batch_Size.ok batch_Size.eq h

abbrev batch_Size.n : Nat := 22

/-- 'bodkin bodkinlaw12.again' -/
def bodkinlaw12_again (K : K1) (w : World) : Prop :=
  sCall Tryd.prog 24 [] w fun x10 w =>
  sBuild Tryd.prog 45 [(0, (.int .i64 1))] w fun x12 w =>
  sBuildSlice Tryd.prog 22 1 [(0, x12)] w fun x13 w =>
  sBuild Tryd.prog 45 [(0, (.int .i64 2))] w fun x14 w =>
  sBuildSlice Tryd.prog 22 1 [(0, x14)] w fun x15 w =>
  sBuild Tryd.prog 53 [(0, x13), (1, x15)] w fun x16 w =>
  sCall Tryd.prog 25 [x10, x16] w fun x17 w =>
  sBuild Tryd.prog 45 [(0, (.int .i64 3))] w fun x19 w =>
  sBuildSlice Tryd.prog 22 1 [(0, x19)] w fun x20 w =>
  sBuild Tryd.prog 45 [(0, (.int .i64 4))] w fun x21 w =>
  sBuildSlice Tryd.prog 22 1 [(0, x21)] w fun x22 w =>
  sBuild Tryd.prog 53 [(0, x20), (1, x22)] w fun x23 w =>
  sCall Tryd.prog 25 [x10, x23] w fun x24 w =>
  sCall Tryd.prog 26 [x10] w fun x27 w =>
  sExtract x27 0 w fun x28 w =>
  sExtract x27 1 w fun x29 w =>
  sCall Tryd.prog 26 [x10] w fun x32 w =>
  sExtract x32 0 w fun x33 w =>
  sExtract x32 1 w fun x34 w =>
  sCall Tryd.prog 27 [x10] w fun x37 w =>
  sExtract x37 0 w fun x38 w =>
  sExtract x37 1 w fun x39 w =>
  sCall Tryd.prog 45 [x10] w fun x42 w =>
  sExtract x42 0 w fun x43 w =>
  sExtract x42 1 w fun x44 w =>
  sBin Tryd.prog .eql 24 false true x29 (.int .i64 0) w fun x46 w =>
  sIf x46 (
    sBin Tryd.prog .eql 24 false true x34 (.int .i64 0) w fun x49 w =>
    sIf x49 (
      sBin Tryd.prog .eql 24 false true x39 (.int .i64 0) w fun x53 w =>
      sIf x53 (
        sBuiltin Tryd.prog .len [22] 3 [x28] w fun x57 w =>
        sBin Tryd.prog .eql 3 false true x57 (.int .i64 1) w fun x58 w =>
        sIf x58 (
          sIdxA Tryd.prog 22 x28 (.int .i64 0) w fun x62 w =>
          sFldA Tryd.prog 45 x62 0 w fun x63 w =>
          sLoad Tryd.prog 3 x63 w fun x64 w =>
          sBin Tryd.prog .eql 3 false true x64 (.int .i64 3) w fun x65 w =>
          sIf x65 (
            sBuiltin Tryd.prog .len [22] 3 [x33] w fun x69 w =>
            sBin Tryd.prog .eql 3 false true x69 (.int .i64 1) w fun x70 w =>
            sIf x70 (
              sIdxA Tryd.prog 22 x33 (.int .i64 0) w fun x74 w =>
              sFldA Tryd.prog 45 x74 0 w fun x75 w =>
              sLoad Tryd.prog 3 x75 w fun x76 w =>
              sBin Tryd.prog .eql 3 false true x76 (.int .i64 1) w fun x77 w =>
              sIf x77 (
                sBuiltin Tryd.prog .len [22] 3 [x38] w fun x81 w =>
                sBin Tryd.prog .eql 3 false true x81 (.int .i64 1) w fun x82 w =>
                sIf x82 (
                  sIdxA Tryd.prog 22 x38 (.int .i64 0) w fun x86 w =>
                  sFldA Tryd.prog 45 x86 0 w fun x87 w =>
                  sLoad Tryd.prog 3 x87 w fun x88 w =>
                  sBin Tryd.prog .eql 3 false true x88 (.int .i64 2) w fun x89 w =>
                  sIf x89 (
                    sBin Tryd.prog .eql 3 false true x43 (.int .i64 1) w fun x93 w =>
                    sIf x93 (
                      sBin Tryd.prog .eql 3 false true x44 (.int .i64 1) w fun x97 w =>
                      K x97 w) (
                      K (.bool false) w)) (
                    K (.bool false) w)) (
                  K (.bool false) w)) (
                K (.bool false) w)) (
              K (.bool false) w)) (
            K (.bool false) w)) (
          K (.bool false) w)) (
        K (.bool false) w)) (
      K (.bool false) w)) (
    K (.bool false) w)

def bodkinlaw12_again.sc : SC := (.seq (.reg (.op 0 .done)) (.seq (.reg (.op 0 (.op 1 .done))) (.seq (.reg (.op 0 (.op 1 (.op 2 (.op 3 (.op 4 (.op 5 (.op 6 .done)))))))) (.seq (.reg (.op 0 (.op 1 (.op 2 (.op 3 (.op 4 (.op 5 (.op 6 .done)))))))) (.seq (.reg (.op 0 (.op 1 (.op 2 (.op 3 (.op 4 (.op 5 (.op 6 .done)))))))) (.seq (.reg (.op 0 (.op 1 (.op 2 (.op 3 (.op 4 (.op 5 (.op 6 .done)))))))) (.seq (.reg (.op 0 (.op 1 (.op 2 (.op 3 (.op 4 (.op 5 (.op 6 .done)))))))) (.seq (.reg (.op 0 (.op 1 (.op 2 (.op 3 (.op 4 (.op 5 (.op 6 .done)))))))) (.seq (.reg (.op 0 (.op 1 (.op 2 (.test 2 (.op 3 (.op 4 (.op 5 (.op 6 (.test 6 (.op 7 (.op 8 (.op 9 (.op 10 (.test 10 (.op 11 (.op 12 (.op 13 (.op 14 (.op 15 (.test 15 (.op 16 (.op 17 (.op 18 (.op 19 (.op 20 (.op 21 (.op 22 (.test 22 (.op 23 (.op 24 (.op 25 (.op 26 (.op 27 (.test 27 (.op 28 (.op 29 (.op 30 (.op 31 (.op 32 (.op 33 (.op 34 (.test 34 (.op 35 (.op 36 (.op 37 (.op 38 (.op 39 (.test 39 (.op 40 (.op 41 (.op 42 (.op 43 (.op 44 (.op 45 (.op 46 (.test 46 (.op 47 (.op 48 (.op 49 (.op 50 (.test 50 (.op 51 (.op 52 (.op 53 (.op 54 .done)))) (.skip 51 (.skip 52 (.op 53 (.op 54 .done))))))))) (.skip 47 (.skip 48 (.op 49 (.op 50 (.know 50 false (.skip 51 (.skip 52 (.op 53 (.op 54 .done))))))))))))))))) (.skip 40 (.skip 41 (.skip 42 (.skip 43 (.skip 44 (.op 45 (.op 46 (.know 46 false (.skip 47 (.skip 48 (.op 49 (.op 50 (.know 50 false (.skip 51 (.skip 52 (.op 53 (.op 54 .done))))))))))))))))))))))) (.skip 35 (.skip 36 (.skip 37 (.op 38 (.op 39 (.know 39 false (.skip 40 (.skip 41 (.skip 42 (.skip 43 (.skip 44 (.op 45 (.op 46 (.know 46 false (.skip 47 (.skip 48 (.op 49 (.op 50 (.know 50 false (.skip 51 (.skip 52 (.op 53 (.op 54 .done))))))))))))))))))))))))))))))) (.skip 28 (.skip 29 (.skip 30 (.skip 31 (.skip 32 (.op 33 (.op 34 (.know 34 false (.skip 35 (.skip 36 (.skip 37 (.op 38 (.op 39 (.know 39 false (.skip 40 (.skip 41 (.skip 42 (.skip 43 (.skip 44 (.op 45 (.op 46 (.know 46 false (.skip 47 (.skip 48 (.op 49 (.op 50 (.know 50 false (.skip 51 (.skip 52 (.op 53 (.op 54 .done))))))))))))))))))))))))))))))))))))) (.skip 23 (.skip 24 (.skip 25 (.op 26 (.op 27 (.know 27 false (.skip 28 (.skip 29 (.skip 30 (.skip 31 (.skip 32 (.op 33 (.op 34 (.know 34 false (.skip 35 (.skip 36 (.skip 37 (.op 38 (.op 39 (.know 39 false (.skip 40 (.skip 41 (.skip 42 (.skip 43 (.skip 44 (.op 45 (.op 46 (.know 46 false (.skip 47 (.skip 48 (.op 49 (.op 50 (.know 50 false (.skip 51 (.skip 52 (.op 53 (.op 54 .done))))))))))))))))))))))))))))))))))))))))))))) (.skip 16 (.skip 17 (.skip 18 (.skip 19 (.skip 20 (.op 21 (.op 22 (.know 22 false (.skip 23 (.skip 24 (.skip 25 (.op 26 (.op 27 (.know 27 false (.skip 28 (.skip 29 (.skip 30 (.skip 31 (.skip 32 (.op 33 (.op 34 (.know 34 false (.skip 35 (.skip 36 (.skip 37 (.op 38 (.op 39 (.know 39 false (.skip 40 (.skip 41 (.skip 42 (.skip 43 (.skip 44 (.op 45 (.op 46 (.know 46 false (.skip 47 (.skip 48 (.op 49 (.op 50 (.know 50 false (.skip 51 (.skip 52 (.op 53 (.op 54 .done))))))))))))))))))))))))))))))))))))))))))))))))))) (.skip 11 (.skip 12 (.skip 13 (.op 14 (.op 15 (.know 15 false (.skip 16 (.skip 17 (.skip 18 (.skip 19 (.skip 20 (.op 21 (.op 22 (.know 22 false (.skip 23 (.skip 24 (.skip 25 (.op 26 (.op 27 (.know 27 false (.skip 28 (.skip 29 (.skip 30 (.skip 31 (.skip 32 (.op 33 (.op 34 (.know 34 false (.skip 35 (.skip 36 (.skip 37 (.op 38 (.op 39 (.know 39 false (.skip 40 (.skip 41 (.skip 42 (.skip 43 (.skip 44 (.op 45 (.op 46 (.know 46 false (.skip 47 (.skip 48 (.op 49 (.op 50 (.know 50 false (.skip 51 (.skip 52 (.op 53 (.op 54 .done)))))))))))))))))))))))))))))))))))))))))))))))))))))))) (.skip 7 (.skip 8 (.op 9 (.op 10 (.know 10 false (.skip 11 (.skip 12 (.skip 13 (.op 14 (.op 15 (.know 15 false (.skip 16 (.skip 17 (.skip 18 (.skip 19 (.skip 20 (.op 21 (.op 22 (.know 22 false (.skip 23 (.skip 24 (.skip 25 (.op 26 (.op 27 (.know 27 false (.skip 28 (.skip 29 (.skip 30 (.skip 31 (.skip 32 (.op 33 (.op 34 (.know 34 false (.skip 35 (.skip 36 (.skip 37 (.op 38 (.op 39 (.know 39 false (.skip 40 (.skip 41 (.skip 42 (.skip 43 (.skip 44 (.op 45 (.op 46 (.know 46 false (.skip 47 (.skip 48 (.op 49 (.op 50 (.know 50 false (.skip 51 (.skip 52 (.op 53 (.op 54 .done))))))))))))))))))))))))))))))))))))))))))))))))))))))))))))) (.skip 3 (.skip 4 (.op 5 (.op 6 (.know 6 false (.skip 7 (.skip 8 (.op 9 (.op 10 (.know 10 false (.skip 11 (.skip 12 (.skip 13 (.op 14 (.op 15 (.know 15 false (.skip 16 (.skip 17 (.skip 18 (.skip 19 (.skip 20 (.op 21 (.op 22 (.know 22 false (.skip 23 (.skip 24 (.skip 25 (.op 26 (.op 27 (.know 27 false (.skip 28 (.skip 29 (.skip 30 (.skip 31 (.skip 32 (.op 33 (.op 34 (.know 34 false (.skip 35 (.skip 36 (.skip 37 (.op 38 (.op 39 (.know 39 false (.skip 40 (.skip 41 (.skip 42 (.skip 43 (.skip 44 (.op 45 (.op 46 (.know 46 false (.skip 47 (.skip 48 (.op 49 (.op 50 (.know 50 false (.skip 51 (.skip 52 (.op 53 (.op 54 .done)))))))))))))))))))))))))))))))))))))))))))))))))))))))))))))))))) .nop)))))))))

theorem bodkinlaw12_again.ok : okC Tryd.f23.ntmps bodkinlaw12_again.sc (bodyOf Tryd.f23) = true := by kernel_rfl

theorem bodkinlaw12_again.eq {K : K1} {w : World} : bodkinlaw12_again K  w = codeS Tryd.prog bodkinlaw12_again.sc (bodyOf Tryd.f23) (argsF 0 []) w (retQ Tryd.prog Tryd.f23.results.toList K) := by kernel_rfl

theorem bodkinlaw12_again.call {K : K1} {w : World} (h : bodkinlaw12_again K  w) : sCall Tryd.prog 23 [] w K := sCall_code mixed Tryd.func23 (by kernel_rfl) rfl rfl bodkinlaw12_again.ok bodkinlaw12_again.eq h

abbrev bodkinlaw12_again.n : Nat := 23

/-- 'bodkin history.New' -/
def history_New (K : K1) (w : World) : Prop :=
  sBuild Tryd.prog 86 [] w fun x1 w =>
  sBox Tryd.prog 86 x1 w fun x2 w =>
  K x2 w

def history_New.sc : SC := (.seq (.reg (.op 0 .done)) (.seq (.reg (.op 0 (.op 1 (.op 2 .done)))) .nop))

theorem history_New.ok : okC Tryd.f24.ntmps history_New.sc (bodyOf Tryd.f24) = true := by kernel_rfl

theorem history_New.eq {K : K1} {w : World} : history_New K  w = codeS Tryd.prog history_New.sc (bodyOf Tryd.f24) (argsF 0 []) w (retQ Tryd.prog Tryd.f24.results.toList K) := by kernel_rfl

theorem history_New.call {K : K1} {w : World} (h : history_New K  w) : sCall Tryd.prog 24 [] w K := sCall_code mixed Tryd.func24 (by kernel_rfl) rfl rfl history_New.ok history_New.eq h

abbrev history_New.n : Nat := 24

/-- '(*bodkin history.History).Push' -/
def history_History_Push (K : K1) (h0 s1 : Value) (w : World) : Prop :=
  sBox Tryd.prog 53 s1 w fun s3 w =>
  sBin Tryd.prog .eql 48 false true h0 (.pointer none) w fun x7 w =>
  sIf x7 (
    K (.int .i64 7) w) (
    sNil h0 w fun x9 w =>
    sFldA Tryd.prog 86 x9 0 w fun x10 w =>
    sIdxA Tryd.prog 84 x10 (.int .i64 1) w fun x11 w =>
    sStore Tryd.prog 83 x11 (.slice none 0 0) w fun w =>
    DrawS w fun C w =>
    sNil h0 w fun x14 w =>
    stillS C w (fun w k => sFldA Tryd.prog 86 x14 0 w k) fun x15 =>
    stillS C w (fun w k => sIdxA Tryd.prog 84 x15 (.int .i64 0) w k) fun x16 =>
    stillS C w (fun w k => sLoad Tryd.prog 83 x16 w k) fun x17 =>
    stillS C w (fun w k => sFldA Tryd.prog 53 s3 0 w k) fun x18 =>
    stillS C w (fun w k => sLoad Tryd.prog 22 x18 w k) fun x19 =>
    stillS C w (fun w k => sFldA Tryd.prog 53 s3 1 w k) fun x21 =>
    stillS C w (fun w k => sLoad Tryd.prog 22 x21 w k) fun x22 =>
    sNil h0 w fun x27 w =>
    stillS C w (fun w k => sFldA Tryd.prog 86 x27 0 w k) fun x28 =>
    sCall Tryd.prog 46 [x19] w fun x20 w => C w ∧
    sCall Tryd.prog 46 [x22] w fun x23 w => C w ∧
    stillS C w (fun w k => sBuild Tryd.prog 53 [(0, x20), (1, x23)] w k) fun x24 =>
    sBuildSlice Tryd.prog 83 1 [(0, x24)] w fun x25 w => C w ∧
    sBuiltin Tryd.prog .append [83, 83] 83 [x17, x25] w fun x26 w => C w ∧
    stillS C w (fun w k => sIdxA Tryd.prog 84 x28 (.int .i64 0) w k) fun x29 =>
    sStore Tryd.prog 83 x29 x26 w fun w =>
    sNil h0 w fun x31 w =>
    sFldA Tryd.prog 86 x31 0 w fun x32 w =>
    sIdxA Tryd.prog 84 x32 (.int .i64 0) w fun x33 w =>
    sLoad Tryd.prog 83 x33 w fun x34 w =>
    sBuiltin Tryd.prog .len [83] 3 [x34] w fun x35 w =>
    sBin Tryd.prog .sub 3 false true x35 (.int .i64 100) w fun x36 w =>
    sBin Tryd.prog .gtr 3 false true x36 (.int .i64 0) w fun x38 w =>
    sIf x38 (
      DrawS w fun C w =>
      sNil h0 w fun x41 w =>
      stillS C w (fun w k => sFldA Tryd.prog 86 x41 0 w k) fun x42 =>
      stillS C w (fun w k => sIdxA Tryd.prog 84 x42 (.int .i64 0) w k) fun x43 =>
      stillS C w (fun w k => sLoad Tryd.prog 83 x43 w k) fun x44 =>
      stillS C w (fun w k => sSlice Tryd.prog 83 x44 (some x36) none none w k) fun x46 =>
      sNil h0 w fun x47 w =>
      stillS C w (fun w k => sFldA Tryd.prog 86 x47 0 w k) fun x48 =>
      stillS C w (fun w k => sIdxA Tryd.prog 84 x48 (.int .i64 0) w k) fun x49 =>
      sStore Tryd.prog 83 x49 x46 w fun w =>
      K (.int .i64 0) w) (
      K (.int .i64 0) w))

def history_History_Push.sc : SC := (.seq (.reg (.op 0 (.op 1 .done))) (.seq (.seq (.reg (.op 0 (.op 1 .done))) (.cond (.seq (.reg (.op 0 .done)) .nop) .nop)) (.seq (.reg (.op 0 (.op 1 (.op 2 (.op 3 (.op 4 .done)))))) (.seq (.draw (.op 0 (.op 1 (.op 2 (.op 3 (.op 4 (.op 5 (.op 6 (.op 7 (.op 9 (.op 10 (.op 15 (.op 16 (.op 8 (.op 11 (.op 12 (.op 13 (.op 14 (.op 17 (.fin 18 .done)))))))))))))))))))) (.seq (.seq (.reg (.op 0 (.op 1 (.op 2 (.op 3 (.op 4 (.op 5 (.op 6 (.op 7 .done))))))))) (.seq (.reg (.op 0 (.op 1 .done))) (.cond (.draw (.op 0 (.op 1 (.op 2 (.op 3 (.op 4 (.op 5 (.op 6 (.op 7 (.op 8 (.op 9 (.op 10 (.fin 11 .done))))))))))))) .nop))) (.seq (.reg (.op 0 .done)) .nop))))))

theorem history_History_Push.ok : okC Tryd.f25.ntmps history_History_Push.sc (bodyOf Tryd.f25) = true := by kernel_rfl

theorem history_History_Push.eq {K : K1} {h0 s1 : Value} {w : World} : history_History_Push K h0 s1 w = codeS Tryd.prog history_History_Push.sc (bodyOf Tryd.f25) (argsF 0 [h0, s1]) w (retQ Tryd.prog Tryd.f25.results.toList K) := by kernel_rfl

theorem history_History_Push.call {K : K1} {h0 s1 : Value} {w : World} (h : history_History_Push K h0 s1 w) : sCall Tryd.prog 25 [h0, s1] w K := sCall_code mixed Tryd.func25 (by kernel_rfl) rfl rfl history_History_Push.ok history_History_Push.eq h

abbrev history_History_Push.n : Nat := 25

/-- '(*bodkin history.History).Undo' -/
def history_History_Undo (K : K1) (h0 : Value) (w : World) : Prop :=
  sCall Tryd.prog 47 [h0, (.int .i64 0)] w fun x8 w =>
  sExtract x8 0 w fun x9 w =>
  sExtract x8 1 w fun x10 w =>
  sAlloc Tryd.prog 53 w fun s4 w =>
  sStore Tryd.prog 53 s4 x9 w fun w =>
  sFldA Tryd.prog 53 s4 0 w fun x11 w =>
  sLoad Tryd.prog 22 x11 w fun x12 w =>
  sCall Tryd.prog 46 [x12] w fun x13 w =>
  K (.tuple #[x13, x10]) w

def history_History_Undo.sc : SC := (.seq (.reg (.op 0 (.op 1 .done))) (.seq (.reg (.op 0 (.op 1 (.op 2 (.op 3 (.op 4 (.op 5 (.op 6 (.op 7 .done))))))))) (.seq (.reg (.op 0 (.op 1 (.op 2 (.op 3 (.op 4 (.op 5 .done))))))) .nop)))

theorem history_History_Undo.ok : okC Tryd.f26.ntmps history_History_Undo.sc (bodyOf Tryd.f26) = true := by kernel_rfl

theorem history_History_Undo.eq {K : K1} {h0 : Value} {w : World} : history_History_Undo K h0 w = codeS Tryd.prog history_History_Undo.sc (bodyOf Tryd.f26) (argsF 0 [h0]) w (retQ Tryd.prog Tryd.f26.results.toList K) := by kernel_rfl

theorem history_History_Undo.call {K : K1} {h0 : Value} {w : World} (h : history_History_Undo K h0 w) : sCall Tryd.prog 26 [h0] w K := sCall_code mixed Tryd.func26 (by kernel_rfl) rfl rfl history_History_Undo.ok history_History_Undo.eq h

abbrev history_History_Undo.n : Nat := 26

/-- '(*bodkin history.History).Redo' -/
def history_History_Redo (K : K1) (h0 : Value) (w : World) : Prop :=
  sCall Tryd.prog 47 [h0, (.int .i64 1)] w fun x8 w =>
  sExtract x8 0 w fun x9 w =>
  sExtract x8 1 w fun x10 w =>
  sAlloc Tryd.prog 53 w fun s4 w =>
  sStore Tryd.prog 53 s4 x9 w fun w =>
  sFldA Tryd.prog 53 s4 1 w fun x11 w =>
  sLoad Tryd.prog 22 x11 w fun x12 w =>
  sCall Tryd.prog 46 [x12] w fun x13 w =>
  K (.tuple #[x13, x10]) w

def history_History_Redo.sc : SC := (.seq (.reg (.op 0 (.op 1 .done))) (.seq (.reg (.op 0 (.op 1 (.op 2 (.op 3 (.op 4 (.op 5 (.op 6 (.op 7 .done))))))))) (.seq (.reg (.op 0 (.op 1 (.op 2 (.op 3 (.op 4 (.op 5 .done))))))) .nop)))

theorem history_History_Redo.ok : okC Tryd.f27.ntmps history_History_Redo.sc (bodyOf Tryd.f27) = true := by kernel_rfl

theorem history_History_Redo.eq {K : K1} {h0 : Value} {w : World} : history_History_Redo K h0 w = codeS Tryd.prog history_History_Redo.sc (bodyOf Tryd.f27) (argsF 0 [h0]) w (retQ Tryd.prog Tryd.f27.results.toList K) := by kernel_rfl

theorem history_History_Redo.call {K : K1} {h0 : Value} {w : World} (h : history_History_Redo K h0 w) : sCall Tryd.prog 27 [h0] w K := sCall_code mixed Tryd.func27 (by kernel_rfl) rfl rfl history_History_Redo.ok history_History_Redo.eq h

abbrev history_History_Redo.n : Nat := 27

/-- 'bodkin bodkinref07.Inside' -/
def bodkinref07_Inside (K : K1) (n0 from1 to2 : Value) (w : World) : Prop :=
  sBin Tryd.prog .geq 3 false true from1 (.int .i64 0) w fun x8 w =>
  sIf x8 (
    sBin Tryd.prog .geq 3 false false to2 from1 w fun x12 w =>
    sIf x12 (
      sBin Tryd.prog .leq 3 false false to2 n0 w fun x17 w =>
      K x17 w) (
      K (.bool false) w)) (
    K (.bool false) w)

def bodkinref07_Inside.sc : SC := (.seq (.reg (.op 0 .done)) (.seq (.reg (.op 0 (.op 1 (.op 2 (.test 2 (.op 3 (.op 4 (.op 5 (.op 6 (.op 7 (.test 7 (.op 8 (.op 9 (.op 10 (.op 11 (.op 12 .done))))) (.skip 8 (.skip 9 (.skip 10 (.op 11 (.op 12 .done))))))))))) (.skip 3 (.skip 4 (.skip 5 (.op 6 (.op 7 (.know 7 false (.skip 8 (.skip 9 (.skip 10 (.op 11 (.op 12 .done)))))))))))))))) .nop))

theorem bodkinref07_Inside.ok : okC Tryd.f28.ntmps bodkinref07_Inside.sc (bodyOf Tryd.f28) = true := by kernel_rfl

theorem bodkinref07_Inside.eq {K : K1} {n0 from1 to2 : Value} {w : World} : bodkinref07_Inside K n0 from1 to2 w = codeS Tryd.prog bodkinref07_Inside.sc (bodyOf Tryd.f28) (argsF 0 [n0, from1, to2]) w (retQ Tryd.prog Tryd.f28.results.toList K) := by kernel_rfl

theorem bodkinref07_Inside.call {K : K1} {n0 from1 to2 : Value} {w : World} (h : bodkinref07_Inside K n0 from1 to2 w) : sCall Tryd.prog 28 [n0, from1, to2] w K := sCall_code mixed Tryd.func28 (by kernel_rfl) rfl rfl bodkinref07_Inside.ok bodkinref07_Inside.eq h

abbrev bodkinref07_Inside.n : Nat := 28

/-- 'bodkin utf.Decode' -/
def utf_Decode_L1 (K : K1) (Nx1 : List Value → World → Prop) (x7 : Value) (out3 : Value) (w : World) : Prop :=
  sNext Tryd.prog x7 true 0 w fun x8 w =>
  sExtract x8 0 w fun x9 w =>
  sIf x9 (
    sExtract x8 2 w fun x10 w =>
    sBuildSlice Tryd.prog 32 1 [(0, x10)] w fun x13 w =>
    sBuiltin Tryd.prog .append [32, 32] 32 [out3, x13] w fun x14 w =>
    Nx1 [x14] w) (
    K out3 w)

def utf_Decode (K : K1) (s0 : Value) (w : World) : Prop :=
  sRange Tryd.prog 9 s0 w fun x7 w =>
  LoopS [(.slice none 0 0)] 1 8 w fun us _ w Nx1 =>
    utf_Decode_L1 K Nx1 x7 (hd us) w

def utf_Decode.sc : SC := (.seq (.reg (.op 0 .done)) (.seq (.reg (.op 0 .done)) (.seq (.seq (.reg (.op 0 (.op 1 .done))) (.sub (.loop [3] [8, 9, 10, 5, 11, 12, 13, 14] (.seq (.reg (.op 0 (.op 1 .done))) (.seq (.cond .nop .nop) (.sub (.seq (.reg (.op 0 (.op 1 .done))) (.reg (.op 0 (.op 1 (.op 2 (.op 3 (.op 4 .done))))))))))))) (.seq (.reg (.op 0 (.op 1 .done))) .nop))))

theorem utf_Decode.ok : okC Tryd.f29.ntmps utf_Decode.sc (bodyOf Tryd.f29) = true := by kernel_rfl

theorem utf_Decode.eq {K : K1} {s0 : Value} {w : World} : utf_Decode K s0 w = codeS Tryd.prog utf_Decode.sc (bodyOf Tryd.f29) (argsF 0 [s0]) w (retQ Tryd.prog Tryd.f29.results.toList K) := by kernel_rfl

theorem utf_Decode.call {K : K1} {s0 : Value} {w : World} (h : utf_Decode K s0 w) : sCall Tryd.prog 29 [s0] w K := sCall_code mixed Tryd.func29 (by kernel_rfl) rfl rfl utf_Decode.ok utf_Decode.eq h

abbrev utf_Decode.n : Nat := 29

/-- 'bodkin tree.New' -/
def tree_New_L1 (K : K1) (Nx1 : List Value → World → Prop) (l0 x13 : Value) (root4 x14 : Value) (w : World) : Prop :=
  sBin Tryd.prog .lss 3 false false x14 x13 w fun x15 w =>
  sIf x15 (
    sIdxA Tryd.prog 60 l0 x14 w fun x17 w =>
    sLoad Tryd.prog 93 x17 w fun x18 w =>
    sAlloc Tryd.prog 93 w fun x6 w =>
    sStore Tryd.prog 93 x6 x18 w fun w =>
    sLoad Tryd.prog 93 x6 w fun x19 w =>
    sCall Tryd.prog 48 [x19] w fun x20 w =>
    sBin Tryd.prog .neq 24 false true x20 (.int .i64 0) w fun x22 w =>
    sIf x22 (
      K (.tuple #[(.pointer none), x20]) w) (
      sBin Tryd.prog .rem 3 false true x14 (.int .i64 8) w fun x25 w =>
      sBin Tryd.prog .eql 3 false true x25 (.int .i64 0) w fun x26 w =>
      sIf x26 (
        sBuiltin Tryd.prog .len [60] 3 [l0] w fun x28 w =>
        sBin Tryd.prog .sub 3 false false x28 x14 w fun x30 w =>
        sBuiltin Tryd.prog .min [3, 3] 3 [(.int .i64 8), x30] w fun x31 w =>
        sMake Tryd.prog 60 x31 x31 w fun x32 w =>
        sSlice Tryd.prog 60 l0 (some x14) none none w fun x36 w =>
        sBuiltin Tryd.prog .copy [60, 60] 3 [x32, x36] w fun x37 w =>
        sCall Tryd.prog 50 [x32] w fun x40 w =>
        sIface Tryd.prog 96 x40 w fun x41 w =>
        sCall Tryd.prog 49 [root4, x41] w fun x42 w =>
        sBin Tryd.prog .add 3 false true x14 (.int .i64 1) w fun x43 w =>
        Nx1 [x42, x43] w) (
        sBin Tryd.prog .add 3 false true x14 (.int .i64 1) w fun x43_1 w =>
        Nx1 [root4, x43_1] w))) (
    sBuild Tryd.prog 99 [(0, root4)] w fun x45 w =>
    sBox Tryd.prog 99 x45 w fun x46 w =>
    K (.tuple #[x46, (.int .i64 0)]) w)

def tree_New (K : K1) (l0 : Value) (w : World) : Prop :=
  sBuiltin Tryd.prog .len [60] 3 [l0] w fun x10 w =>
  sBin Tryd.prog .gtr 3 false true x10 (.int .i64 30000) w fun x11 w =>
  sIf x11 (
    K (.tuple #[(.pointer none), (.int .i64 5)]) w) (
    sBuiltin Tryd.prog .len [60] 3 [l0] w fun x13 w =>
    LoopS [.nilIface, (.int .i64 0)] 2 35 w fun us _ w Nx1 =>
      tree_New_L1 K Nx1 l0 x13 (hd us) (hd (tl us)) w)

def tree_New.sc : SC := (.seq (.reg (.op 0 (.op 1 .done))) (.seq (.seq (.reg (.op 0 (.op 1 (.op 2 .done)))) (.cond (.seq (.reg (.op 0 (.op 1 .done))) .nop) .nop)) (.seq (.reg (.op 0 .done)) (.seq (.seq (.reg (.op 0 (.op 1 (.op 2 .done)))) (.sub (.loop [4, 14] [15, 16, 17, 18, 6, 5, 19, 20, 7, 21, 22, 23, 2, 3, 24, 25, 26, 27, 28, 29, 30, 31, 32, 8, 33, 34, 35, 36, 37, 38, 39, 40, 41, 42, 43] (.seq (.reg (.op 0 .done)) (.seq (.cond .nop .nop) (.seq (.sub (.seq (.reg (.op 0 (.op 1 (.op 2 (.op 3 (.op 4 (.op 5 .done))))))) (.seq (.seq (.reg (.op 0 (.op 1 (.op 2 .done)))) (.seq (.reg (.op 0 (.op 1 .done))) (.cond (.seq (.reg (.op 0 (.op 1 (.op 2 .done)))) .nop) .nop))) (.seq (.reg (.op 0 (.op 1 (.op 2 .done)))) (.cond (.seq (.reg (.op 0 (.op 1 (.op 2 (.op 3 (.op 4 (.op 5 (.op 6 .done)))))))) (.seq (.reg (.op 0 (.op 1 (.op 2 (.op 3 (.op 4 .done)))))) (.reg (.op 0 (.op 1 (.op 2 (.op 3 (.op 4 (.op 5 .done))))))))) .nop))))) (.reg (.op 0 (.op 1 .done))))))))) (.seq (.reg (.op 0 (.op 1 (.op 2 (.op 3 (.op 4 .done)))))) .nop)))))

theorem tree_New.ok : okC Tryd.f30.ntmps tree_New.sc (bodyOf Tryd.f30) = true := by kernel_rfl

theorem tree_New.eq {K : K1} {l0 : Value} {w : World} : tree_New K l0 w = codeS Tryd.prog tree_New.sc (bodyOf Tryd.f30) (argsF 0 [l0]) w (retQ Tryd.prog Tryd.f30.results.toList K) := by kernel_rfl

theorem tree_New.call {K : K1} {l0 : Value} {w : World} (h : tree_New K l0 w) : sCall Tryd.prog 30 [l0] w K := sCall_code mixed Tryd.func30 (by kernel_rfl) rfl rfl tree_New.ok tree_New.eq h

abbrev tree_New.n : Nat := 30

/-- 'bodkin rope.cut' -/
def rope_cut_L1 (K : K1) (Nx1 : List Value → World → Prop) (out3 l0_1 k4 : Value) (w : World) : Prop :=
  sBin Tryd.prog .gtr 3 false true k4 (.int .i64 0) w fun x12 w =>
  sIf x12 (
    sBuiltin Tryd.prog .len [32] 3 [l0_1] w fun x16 w =>
    sBin Tryd.prog .quo 3 false false x16 k4 w fun x18 w =>
    sSlice Tryd.prog 32 l0_1 none (some x18) none w fun x22 w =>
    sCall Tryd.prog 51 [x22] w fun x23 w =>
    sBuildSlice Tryd.prog 60 1 [(0, x23)] w fun x24 w =>
    sBuiltin Tryd.prog .append [60, 60] 60 [out3, x24] w fun x25 w =>
    sSlice Tryd.prog 32 l0_1 (some x18) none none w fun x28 w =>
    sBin Tryd.prog .sub 3 false true k4 (.int .i64 1) w fun x14 w =>
    Nx1 [x25, x28, x14] w) (
    K out3 w)

def rope_cut (K : K1) (l0 : Value) (w : World) : Prop :=
  sBuiltin Tryd.prog .len [32] 3 [l0] w fun x7 w =>
  sBin Tryd.prog .add 3 false true x7 (.int .i64 16) w fun x8 w =>
  sBin Tryd.prog .sub 3 false true x8 (.int .i64 1) w fun x9 w =>
  sBin Tryd.prog .quo 3 false true x9 (.int .i64 16) w fun x10 w =>
  LoopS [(.slice none 0 0), l0, x10] 3 19 w fun us _ w Nx1 =>
    rope_cut_L1 K Nx1 (hd us) (hd (tl us)) (hd (tl (tl us))) w

def rope_cut.sc : SC := (.seq (.reg (.op 0 .done)) (.seq (.reg (.op 0 .done)) (.seq (.seq (.reg (.op 0 (.op 1 (.op 2 (.op 3 (.op 4 (.op 5 .done))))))) (.sub (.loop [3, 0, 4] [11, 12, 15, 16, 17, 18, 5, 19, 20, 21, 22, 23, 24, 25, 26, 27, 28, 13, 14] (.seq (.seq (.reg (.op 0 (.op 1 .done))) (.cond .nop .nop)) (.seq (.sub (.seq (.reg (.op 0 (.op 1 (.op 2 (.op 3 (.op 4 .done)))))) (.seq (.reg (.op 0 (.op 1 (.op 2 (.op 3 (.op 4 (.op 5 (.op 6 (.op 7 .done))))))))) (.reg (.op 0 (.op 1 (.op 2 (.op 3 .done)))))))) (.reg (.op 0 (.op 1 (.op 2 .done))))))))) (.seq (.reg (.op 0 (.op 1 .done))) .nop))))

theorem rope_cut.ok : okC Tryd.f31.ntmps rope_cut.sc (bodyOf Tryd.f31) = true := by kernel_rfl

theorem rope_cut.eq {K : K1} {l0 : Value} {w : World} : rope_cut K l0 w = codeS Tryd.prog rope_cut.sc (bodyOf Tryd.f31) (argsF 0 [l0]) w (retQ Tryd.prog Tryd.f31.results.toList K) := by kernel_rfl

theorem rope_cut.call {K : K1} {l0 : Value} {w : World} (h : rope_cut K l0 w) : sCall Tryd.prog 31 [l0] w K := sCall_code mixed Tryd.func31 (by kernel_rfl) rfl rfl rope_cut.ok rope_cut.eq h

abbrev rope_cut.n : Nat := 31

/-- 'bodkin bodkinref01.Step' -/
def bodkinref01_Step_J2 (K : K1) (Nx1 : List Value → World → Prop) (n5 x36 x4 : Value) (x47 : Value) (w : World) : Prop :=
  sIf x47 (
    sBuild Tryd.prog 65 [(0, x36), (1, n5)] w fun x50 w =>
    sStore Tryd.prog 65 x4 x50 w fun w =>
    sLoad Tryd.prog 65 x4 w fun v w' => w' = w ∧ K v w) (
    sBin Tryd.prog .add 3 false true n5 (.int .i64 1) w fun x28 w =>
    Nx1 [x28] w)

def bodkinref01_Step_L1 (K : K1) (Nx1 : List Value → World → Prop) (at1 s0 x4 : Value) (n5 : Value) (w : World) : Prop :=
  sBin Tryd.prog .leq 3 false true n5 (.int .i64 4) w fun x18 w =>
  sIf x18 (
    sBuiltin Tryd.prog .len [9] 3 [s0] w fun x22 w =>
    sBin Tryd.prog .sub 3 false false x22 at1 w fun x24 w =>
    sBin Tryd.prog .leq 3 false false n5 x24 w fun x25 w =>
    sIf x25 (
      sBin Tryd.prog .add 3 false false at1 n5 w fun x33 w =>
      sSlice Tryd.prog 9 s0 (some at1) (some x33) none w fun x34 w =>
      sCall Tryd.prog 52 [x34] w fun x36 w =>
      JoinS 1 10 (fun M2 =>
        sCall Tryd.prog 43 [x36] w fun x38 w =>
        sBin Tryd.prog .eql 3 false false x38 n5 w fun x40 w =>
        sIf x40 (
          sCall Tryd.prog 44 [x36, n5] w fun x44 w =>
          sBin Tryd.prog .eql 9 false false x44 x34 w fun x46 w =>
          M2 [x46] w) (
          M2 [(.bool false)] w)) fun us _ w =>
        bodkinref01_Step_J2 K Nx1 n5 x36 x4 (hd us) w) (
      sBuild Tryd.prog 65 [(0, (.int .i32 65533)), (1, (.int .i64 1))] w fun x51 w =>
      sStore Tryd.prog 65 x4 x51 w fun w =>
      sLoad Tryd.prog 65 x4 w fun v w' => w' = w ∧ K v w)) (
    sBuild Tryd.prog 65 [(0, (.int .i32 65533)), (1, (.int .i64 1))] w fun x51_1 w =>
    sStore Tryd.prog 65 x4 x51_1 w fun w =>
    sLoad Tryd.prog 65 x4 w fun v w' => w' = w ∧ K v w)

def bodkinref01_Step (K : K1) (s0 at1 : Value) (w : World) : Prop :=
  sAlloc Tryd.prog 65 w fun x4 w =>
  sBin Tryd.prog .lss 3 false true at1 (.int .i64 0) w fun x9 w =>
  sIf x9 (
    sBuild Tryd.prog 65 [] w fun x16 w =>
    sStore Tryd.prog 65 x4 x16 w fun w =>
    sLoad Tryd.prog 65 x4 w fun v w' => w' = w ∧ K v w) (
    sBuiltin Tryd.prog .len [9] 3 [s0] w fun x13 w =>
    sBin Tryd.prog .geq 3 false false at1 x13 w fun x14 w =>
    sIf x14 (
      sBuild Tryd.prog 65 [] w fun x16_1 w =>
      sStore Tryd.prog 65 x4 x16_1 w fun w =>
      sLoad Tryd.prog 65 x4 w fun v w' => w' = w ∧ K v w) (
      LoopS [(.int .i64 1)] 1 36 w fun us _ w Nx1 =>
        bodkinref01_Step_L1 K Nx1 at1 s0 x4 (hd us) w))

def bodkinref01_Step.sc : SC := (.seq (.reg (.op 0 .done)) (.seq (.seq (.reg (.op 0 (.op 1 (.op 2 (.test 2 (.skip 3 (.skip 4 (.skip 5 (.skip 6 (.op 7 .done))))) (.op 3 (.op 4 (.op 5 (.op 6 (.op 7 .done)))))))))) (.cond (.seq (.reg (.op 0 (.op 1 .done))) .nop) .nop)) (.seq (.seq (.reg (.op 0 .done)) (.sub (.loop [5] [17, 18, 19, 20, 21, 22, 23, 24, 25, 26, 29, 30, 31, 32, 33, 34, 6, 35, 36, 7, 37, 38, 39, 40, 41, 42, 43, 44, 45, 46, 47, 48, 49, 50, 27, 28] (.seq (.seq (.reg (.op 0 (.op 1 (.op 2 (.test 2 (.op 3 (.op 4 (.op 5 (.op 6 (.op 7 (.op 8 (.op 9 .done))))))) (.skip 3 (.skip 4 (.skip 5 (.skip 6 (.skip 7 (.skip 8 (.op 9 .done)))))))))))) (.cond .nop .nop)) (.seq (.sub (.seq (.reg (.op 0 (.op 1 (.op 2 (.op 3 (.op 4 (.op 5 (.op 6 .done)))))))) (.seq (.reg (.op 0 (.op 1 (.op 2 .done)))) (.join [47] [37, 38, 39, 40, 41, 42, 43, 44, 45, 46] (.reg (.op 0 (.op 1 (.op 2 (.op 3 (.op 4 (.test 4 (.op 5 (.op 6 (.op 7 (.op 8 (.op 9 (.op 10 .done)))))) (.skip 5 (.skip 6 (.skip 7 (.skip 8 (.skip 9 (.op 10 .done))))))))))))) (.cond (.seq (.reg (.op 0 (.op 1 (.op 2 (.op 3 .done))))) .nop) .nop))))) (.reg (.op 0 (.op 1 (.op 2 .done))))))))) (.seq (.reg (.op 0 (.op 1 .done))) .nop))))

theorem bodkinref01_Step.ok : okC Tryd.f32.ntmps bodkinref01_Step.sc (bodyOf Tryd.f32) = true := by kernel_rfl

theorem bodkinref01_Step.eq {K : K1} {s0 at1 : Value} {w : World} : bodkinref01_Step K s0 at1 w = codeS Tryd.prog bodkinref01_Step.sc (bodyOf Tryd.f32) (argsF 0 [s0, at1]) w (retQ Tryd.prog Tryd.f32.results.toList K) := by kernel_rfl

theorem bodkinref01_Step.call {K : K1} {s0 at1 : Value} {w : World} (h : bodkinref01_Step K s0 at1 w) : sCall Tryd.prog 32 [s0, at1] w K := sCall_code mixed Tryd.func32 (by kernel_rfl) rfl rfl bodkinref01_Step.ok bodkinref01_Step.eq h

abbrev bodkinref01_Step.n : Nat := 32

/-- 'bodkin batch.wrong' -/
def batch_wrong (K : K1) (r0 l1 : Value) (w : World) : Prop :=
  sCall Tryd.prog 53 [r0] w fun x7 w =>
  sCall Tryd.prog 10 [x7, l1] w fun x9 w =>
  sBin Tryd.prog .neq 24 false true x9 (.int .i64 0) w fun x12 w =>
  sIf x12 (
    K x9 w) (
    sCall Tryd.prog 53 [r0] w fun x16 w =>
    sCall Tryd.prog 22 [l1] w fun x18 w =>
    sBin Tryd.prog .add 3 false false x16 x18 w fun x19 w =>
    sBin Tryd.prog .gtr 3 false true x19 (.int .i64 20000) w fun x20 w =>
    sIf x20 (
      K (.int .i64 5) w) (
      K (.int .i64 0) w))

def batch_wrong.sc : SC := (.seq (.reg (.op 0 .done)) (.seq (.reg (.op 0 (.op 1 (.op 2 (.op 3 (.op 4 .done)))))) (.seq (.sub (.seq (.reg (.op 0 (.op 1 (.op 2 .done)))) (.cond (.seq (.reg (.op 0 (.op 1 .done))) .nop) (.seq (.reg (.op 0 (.op 1 (.op 2 (.op 3 (.op 4 (.op 5 (.op 6 .done)))))))) (.cond (.seq (.reg (.op 0 .done)) .nop) .nop))))) (.seq (.reg (.op 0 .done)) .nop))))

theorem batch_wrong.ok : okC Tryd.f33.ntmps batch_wrong.sc (bodyOf Tryd.f33) = true := by kernel_rfl

theorem batch_wrong.eq {K : K1} {r0 l1 : Value} {w : World} : batch_wrong K r0 l1 w = codeS Tryd.prog batch_wrong.sc (bodyOf Tryd.f33) (argsF 0 [r0, l1]) w (retQ Tryd.prog Tryd.f33.results.toList K) := by kernel_rfl

theorem batch_wrong.call {K : K1} {r0 l1 : Value} {w : World} (h : batch_wrong K r0 l1 w) : sCall Tryd.prog 33 [r0, l1] w K := sCall_code mixed Tryd.func33 (by kernel_rfl) rfl rfl batch_wrong.ok batch_wrong.eq h

abbrev batch_wrong.n : Nat := 33

/-- '(*bodkin rope.Rope).Replace' -/
def rope_Rope_Replace_J4 (Nx3 : List Value → World → Prop) (end17 first14 last16 start15 x56 x83 : Value) (w : World) : Prop :=
  sBin Tryd.prog .lss 3 false false last16 x83 w fun x106 w =>
  sIf x106 (
    sCall Tryd.prog 60 [x56, (.int .i64 3), last16, (.int .i64 1)] w fun x109 w =>
    sCall Tryd.prog 56 [x56] w fun x111 w =>
    sFld Tryd.prog 103 x111 0 w fun x112 w =>
    sCall Tryd.prog 56 [x56] w fun x114 w =>
    sFld Tryd.prog 103 x114 1 w fun x115 w =>
    sIdx Tryd.prog 91 x115 (.int .i64 1) w fun x116 w =>
    Nx3 [x112, x116, first14, start15] w) (
    sBin Tryd.prog .sub 3 false true first14 (.int .i64 1) w fun x119 w =>
    sCall Tryd.prog 60 [x56, (.int .i64 3), x119, (.int .i64 1)] w fun x120 w =>
    sCall Tryd.prog 55 [x56] w fun x122 w =>
    sFld Tryd.prog 103 x122 0 w fun x123 w =>
    sCall Tryd.prog 55 [x56] w fun x125 w =>
    sFld Tryd.prog 103 x125 1 w fun x126 w =>
    sIdx Tryd.prog 91 x126 (.int .i64 1) w fun x127 w =>
    Nx3 [last16, end17, x123, x127] w)

def rope_Rope_Replace_L3 (M2 : List Value → World → Prop) (Nx3 : List Value → World → Prop) (from1 to2 x40 x56 x83 : Value) (last16 end17 first14 start15 : Value) (w : World) : Prop :=
  JoinS 0 20 (fun M4 =>
    sBin Tryd.prog .sub 3 false false end17 start15 w fun x86 w =>
    sBin Tryd.prog .sub 3 false false to2 from1 w fun x89 w =>
    sBin Tryd.prog .sub 3 false false x86 x89 w fun x90 w =>
    sBuiltin Tryd.prog .len [32] 3 [x40] w fun x92 w =>
    sBin Tryd.prog .add 3 false false x90 x92 w fun x93 w =>
    sBin Tryd.prog .lss 3 false true x93 (.int .i64 8) w fun x94 w =>
    sIf x94 (
      sBin Tryd.prog .gtr 3 false true first14 (.int .i64 0) w fun x97 w =>
      sIf x97 (
        M4 [] w) (
        sBin Tryd.prog .lss 3 false false last16 x83 w fun x101 w =>
        sIf x101 (
          M4 [] w) (
          M2 [last16, end17, first14, start15] w))) (
      M2 [last16, end17, first14, start15] w)) fun us _ w =>
    rope_Rope_Replace_J4 Nx3 end17 first14 last16 start15 x56 x83 w

def rope_Rope_Replace_J2 (K : K1) (from1 r0 to2 x40 : Value) (last16_1 end17_1 first14_1 start15_1 : Value) (w : World) : Prop :=
  sCall Tryd.prog 36 [r0, start15_1, from1] w fun x132 w =>
  sExtract x132 0 w fun x133 w =>
  sExtract x132 1 w fun x134 w =>
  sCall Tryd.prog 36 [r0, to2, end17_1] w fun x139 w =>
  sExtract x139 0 w fun x140 w =>
  sExtract x139 1 w fun x141 w =>
  sCall Tryd.prog 29 [x133] w fun x143 w =>
  sBuiltin Tryd.prog .append [32, 32] 32 [x143, x40] w fun x145 w =>
  sCall Tryd.prog 58 [r0] w fun x148 w =>
  sCall Tryd.prog 29 [x140] w fun x153 w =>
  sBuiltin Tryd.prog .append [32, 32] 32 [x145, x153] w fun x154 w =>
  sCall Tryd.prog 31 [x154] w fun x155 w =>
  sCall Tryd.prog 61 [x148, first14_1, last16_1, x155] w fun x156 w =>
  sExtract x156 0 w fun x157 w =>
  sExtract x156 1 w fun x158 w =>
  sBin Tryd.prog .neq 24 false true x158 (.int .i64 0) w fun x160 w =>
  sIf x160 (
    K (.tuple #[(.pointer none), x158]) w) (
    sBuild Tryd.prog 63 [(0, x157)] w fun x163 w =>
    sBox Tryd.prog 63 x163 w fun x164 w =>
    K (.tuple #[x164, (.int .i64 0)]) w)

def rope_Rope_Replace_L1 (K : K1) (Nx1 : List Value → World → Prop) (from1 r0 to2 x40 x56 x60 x64 : Value) (w : World) : Prop :=
  sCall Tryd.prog 56 [x56] w fun x66 w =>
  sFld Tryd.prog 103 x66 1 w fun x67 w =>
  sIdx Tryd.prog 91 x67 (.int .i64 1) w fun x68 w =>
  sBin Tryd.prog .lss 3 false false x68 to2 w fun x70 w =>
  sIf x70 (
    sCall Tryd.prog 57 [x56] w fun x72 w =>
    Nx1 [] w) (
    sCall Tryd.prog 56 [x56] w fun x74 w =>
    sFld Tryd.prog 103 x74 0 w fun x75 w =>
    sCall Tryd.prog 56 [x56] w fun x77 w =>
    sFld Tryd.prog 103 x77 1 w fun x78 w =>
    sIdx Tryd.prog 91 x78 (.int .i64 1) w fun x79 w =>
    sCall Tryd.prog 58 [r0] w fun x81 w =>
    sCall Tryd.prog 59 [x81] w fun x82 w =>
    sFld Tryd.prog 103 x82 0 w fun x83 w =>
    JoinS 4 44 (fun M2 =>
      LoopS [x75, x79, x60, x64] 4 44 w fun us _ w Nx3 =>
        rope_Rope_Replace_L3 M2 Nx3 from1 to2 x40 x56 x83 (hd us) (hd (tl us)) (hd (tl (tl us))) (hd (tl (tl (tl us)))) w) fun us _ w =>
      rope_Rope_Replace_J2 K from1 r0 to2 x40 (hd us) (hd (tl us)) (hd (tl (tl us))) (hd (tl (tl (tl us)))) w)

def rope_Rope_Replace (K : K1) (r0 from1 to2 s3 : Value) (w : World) : Prop :=
  sBin Tryd.prog .lss 3 false true from1 (.int .i64 0) w fun x27 w =>
  sIf x27 (
    K (.tuple #[(.pointer none), (.int .i64 1)]) w) (
    sBin Tryd.prog .lss 3 false false to2 from1 w fun x31 w =>
    sIf x31 (
      K (.tuple #[(.pointer none), (.int .i64 1)]) w) (
      sCall Tryd.prog 53 [r0] w fun x36 w =>
      sBin Tryd.prog .gtr 3 false false to2 x36 w fun x37 w =>
      sIf x37 (
        K (.tuple #[(.pointer none), (.int .i64 1)]) w) (
        sCall Tryd.prog 29 [s3] w fun x40 w =>
        sCall Tryd.prog 53 [r0] w fun x42 w =>
        sBin Tryd.prog .sub 3 false false to2 from1 w fun x45 w =>
        sBin Tryd.prog .sub 3 false false x42 x45 w fun x46 w =>
        sBuiltin Tryd.prog .len [32] 3 [x40] w fun x48 w =>
        sBin Tryd.prog .add 3 false false x46 x48 w fun x49 w =>
        sBin Tryd.prog .gtr 3 false true x49 (.int .i64 20000) w fun x50 w =>
        sIf x50 (
          K (.tuple #[(.pointer none), (.int .i64 5)]) w) (
          sCall Tryd.prog 54 [r0, (.int .i64 1), from1, (.int .i64 0)] w fun x54 w =>
          sExtract x54 0 w fun x55 w =>
          sExtract x54 1 w fun x56 w =>
          sExtract x54 2 w fun x57 w =>
          sAlloc Tryd.prog 105 w fun x11 w =>
          sStore Tryd.prog 105 x11 x55 w fun w =>
          sCall Tryd.prog 55 [x56] w fun x59 w =>
          sFld Tryd.prog 103 x59 0 w fun x60 w =>
          sCall Tryd.prog 55 [x56] w fun x62 w =>
          sFld Tryd.prog 103 x62 1 w fun x63 w =>
          sIdx Tryd.prog 91 x63 (.int .i64 1) w fun x64 w =>
          LoopS [] 0 8 w fun us _ w Nx1 =>
            rope_Rope_Replace_L1 K Nx1 from1 r0 to2 x40 x56 x60 x64 w))))

def rope_Rope_Replace.sc : SC := (.seq (.reg (.op 0 (.op 1 .done))) (.seq (.seq (.reg (.op 0 (.op 1 (.op 2 (.test 2 (.skip 3 (.skip 4 (.skip 5 (.op 6 (.op 7 (.know 7 true (.skip 8 (.skip 9 (.skip 10 (.skip 11 (.op 12 .done))))))))))) (.op 3 (.op 4 (.op 5 (.op 6 (.op 7 (.test 7 (.skip 8 (.skip 9 (.skip 10 (.skip 11 (.op 12 .done))))) (.op 8 (.op 9 (.op 10 (.op 11 (.op 12 .done)))))))))))))))) (.cond (.seq (.reg (.op 0 (.op 1 .done))) .nop) .nop)) (.seq (.reg (.op 0 (.op 1 (.op 2 .done)))) (.seq (.seq (.reg (.op 0 (.op 1 (.op 2 (.op 3 (.op 4 (.op 5 (.op 6 (.op 7 (.op 8 (.op 9 .done))))))))))) (.cond (.seq (.reg (.op 0 (.op 1 .done))) .nop) .nop)) (.seq (.reg (.op 0 (.op 1 (.op 2 (.op 3 (.op 4 (.op 5 (.op 6 (.op 7 (.op 8 (.op 9 (.op 10 .done)))))))))))) (.seq (.reg (.op 0 (.op 1 (.op 2 (.op 3 (.op 4 (.op 5 (.op 6 (.op 7 (.op 8 .done)))))))))) (.seq (.sub (.loop [] [65, 66, 67, 68, 69, 70, 71, 72] (.seq (.seq (.reg (.op 0 (.op 1 (.op 2 (.op 3 (.op 4 (.op 5 .done))))))) (.cond .nop .nop)) (.sub (.reg (.op 0 (.op 1 .done))))))) (.seq (.reg (.op 0 (.op 1 (.op 2 (.op 3 (.op 4 (.op 5 (.op 6 (.op 7 (.op 8 .done)))))))))) (.seq (.reg (.op 0 (.op 1 (.op 2 (.op 3 (.op 4 .done)))))) (.join [16, 17, 14, 15] [84, 85, 86, 87, 88, 89, 90, 91, 92, 93, 94, 95, 96, 97, 98, 99, 100, 101, 102, 103, 104, 105, 106, 107, 108, 109, 110, 111, 112, 113, 114, 115, 116, 117, 118, 119, 120, 121, 122, 123, 124, 125, 126, 127] (.sub (.loop [16, 17, 14, 15] [84, 85, 86, 87, 88, 89, 90, 91, 92, 93, 94, 95, 96, 97, 98, 99, 100, 101, 102, 103, 104, 105, 106, 107, 108, 109, 110, 111, 112, 113, 114, 115, 116, 117, 118, 119, 120, 121, 122, 123, 124, 125, 126, 127] (.join [] [84, 85, 86, 87, 88, 89, 90, 91, 92, 93, 94, 95, 96, 97, 98, 99, 100, 101, 102, 103] (.seq (.reg (.op 0 (.op 1 (.op 2 (.op 3 (.op 4 (.op 5 (.op 6 (.op 7 (.op 8 (.op 9 (.op 10 (.op 11 (.test 11 (.op 12 (.op 13 (.op 14 (.test 14 (.skip 15 (.skip 16 (.skip 17 (.op 18 (.op 19 .done))))) (.op 15 (.op 16 (.op 17 (.op 18 (.op 19 .done))))))))) (.skip 12 (.skip 13 (.skip 14 (.skip 15 (.skip 16 (.skip 17 (.skip 18 (.op 19 .done)))))))))))))))))))))) (.cond .nop .nop)) (.sub (.seq (.seq (.reg (.op 0 (.op 1 (.op 2 .done)))) (.cond (.seq (.reg (.op 0 (.op 1 (.op 2 .done)))) (.seq (.reg (.op 0 (.op 1 (.op 2 (.op 3 (.op 4 (.op 5 (.op 6 (.op 7 (.op 8 .done)))))))))) .nop)) .nop)) (.seq (.reg (.op 0 (.op 1 (.op 2 (.op 3 .done))))) (.reg (.op 0 (.op 1 (.op 2 (.op 3 (.op 4 (.op 5 (.op 6 (.op 7 (.op 8 .done)))))))))))))))) (.seq (.reg (.op 0 (.op 1 (.op 2 (.op 3 (.op 4 (.op 5 (.op 6 (.op 7 (.op 8 .done)))))))))) (.seq (.reg (.op 0 (.op 1 (.op 2 (.op 3 (.op 4 (.op 5 (.op 6 (.op 7 (.op 8 .done)))))))))) (.seq (.reg (.op 0 (.op 1 (.op 2 (.op 3 (.op 4 .done)))))) (.seq (.reg (.op 0 (.op 1 (.op 2 (.op 3 (.op 4 (.op 5 (.op 6 (.op 7 (.op 8 (.op 9 (.op 10 (.op 11 (.op 12 (.op 13 (.op 14 .done)))))))))))))))) (.seq (.seq (.reg (.op 0 (.op 1 .done))) (.cond (.seq (.reg (.op 0 (.op 1 (.op 2 .done)))) .nop) .nop)) (.seq (.reg (.op 0 (.op 1 (.op 2 (.op 3 (.op 4 .done)))))) .nop))))))))))))))))

theorem rope_Rope_Replace.ok : okC Tryd.f34.ntmps rope_Rope_Replace.sc (bodyOf Tryd.f34) = true := by kernel_rfl

theorem rope_Rope_Replace.eq {K : K1} {r0 from1 to2 s3 : Value} {w : World} : rope_Rope_Replace K r0 from1 to2 s3 w = codeS Tryd.prog rope_Rope_Replace.sc (bodyOf Tryd.f34) (argsF 0 [r0, from1, to2, s3]) w (retQ Tryd.prog Tryd.f34.results.toList K) := by kernel_rfl

theorem rope_Rope_Replace.call {K : K1} {r0 from1 to2 s3 : Value} {w : World} (h : rope_Rope_Replace K r0 from1 to2 s3 w) : sCall Tryd.prog 34 [r0, from1, to2, s3] w K := sCall_code mixed Tryd.func34 (by kernel_rfl) rfl rfl rope_Rope_Replace.ok rope_Rope_Replace.eq h

abbrev rope_Rope_Replace.n : Nat := 34

/-- 'bodkin batch.Apply$1' -/
def batch_Apply_1 (K : K1) (from0 to1 x2 : Value) (w : World) : Prop :=
  sLoad Tryd.prog 29 x2 w fun x9 w =>
  sCall Tryd.prog 36 [x9, from0, to1] w fun x12 w =>
  sExtract x12 0 w fun x13 w =>
  sExtract x12 1 w fun x14 w =>
  K x13 w

def batch_Apply_1.sc : SC := (.seq (.reg (.op 0 .done)) (.seq (.reg (.op 0 (.op 1 (.op 2 (.op 3 (.op 4 (.op 5 (.op 6 (.op 7 (.op 8 .done)))))))))) (.seq (.reg (.op 0 (.op 1 .done))) .nop)))

theorem batch_Apply_1.ok : okC Tryd.f35.ntmps batch_Apply_1.sc (bodyOf Tryd.f35) = true := by kernel_rfl

theorem batch_Apply_1.eq {K : K1} {from0 to1 x2 : Value} {w : World} : batch_Apply_1 K from0 to1 x2 w = codeS Tryd.prog batch_Apply_1.sc (bodyOf Tryd.f35) (argsF 0 [from0, to1, x2]) w (retQ Tryd.prog Tryd.f35.results.toList K) := by kernel_rfl

theorem batch_Apply_1.call {K : K1} {from0 to1 x2 : Value} {w : World} (h : batch_Apply_1 K from0 to1 x2 w) : sCall Tryd.prog 35 [from0, to1, x2] w K := sCall_code mixed Tryd.func35 (by kernel_rfl) rfl rfl batch_Apply_1.ok batch_Apply_1.eq h

abbrev batch_Apply_1.n : Nat := 35

/-- '(*bodkin rope.Rope).Slice' -/
def rope_Rope_Slice_L1 (K : K1) (Nx1 : List Value → World → Prop) (out14 x22 x35 x45 x50 : Value) (w : World) : Prop :=
  sCall Tryd.prog 63 [out14] w fun x52 w =>
  sBin Tryd.prog .add 3 false false x50 x52 w fun x53 w =>
  sBin Tryd.prog .lss 3 false false x53 x35 w fun x55 w =>
  sIf x55 (
    sCall Tryd.prog 64 [x45] w fun x58 w =>
    sExtract x58 0 w fun x59 w =>
    sExtract x58 1 w fun x60 w =>
    sAlloc Tryd.prog 93 w fun i16 w =>
    sStore Tryd.prog 93 i16 x59 w fun w =>
    sFldA Tryd.prog 93 i16 4 w fun x61 w =>
    sLoad Tryd.prog 9 x61 w fun x62 w =>
    sCall Tryd.prog 65 [out14, x62] w fun x63 w =>
    sCall Tryd.prog 57 [x45] w fun x65 w =>
    Nx1 [] w) (
    sCall Tryd.prog 63 [out14] w fun x66 w =>
    sBin Tryd.prog .eql 3 false true x66 (.int .i64 0) w fun x67 w =>
    sIf x67 (
      K (.tuple #[(.string ⟨#[]⟩), (.int .i64 0)]) w) (
      sCall Tryd.prog 66 [out14] w fun x68 w =>
      sBin Tryd.prog .sub 3 false false x22 x50 w fun x71 w =>
      sBin Tryd.prog .sub 3 false false x35 x50 w fun x74 w =>
      sSlice Tryd.prog 9 x68 (some x71) (some x74) none w fun x75 w =>
      K (.tuple #[x75, (.int .i64 0)]) w))

def rope_Rope_Slice (K : K1) (r0 from1 to2 : Value) (w : World) : Prop :=
  sCall Tryd.prog 62 [r0, from1] w fun x21 w =>
  sExtract x21 0 w fun x22 w =>
  sExtract x21 1 w fun x23 w =>
  sBin Tryd.prog .neq 24 false true x23 (.int .i64 0) w fun x25 w =>
  sIf x25 (
    K (.tuple #[(.string ⟨#[]⟩), (.int .i64 1)]) w) (
    sBin Tryd.prog .lss 3 false false to2 from1 w fun x29 w =>
    sIf x29 (
      K (.tuple #[(.string ⟨#[]⟩), (.int .i64 1)]) w) (
      sCall Tryd.prog 62 [r0, to2] w fun x34 w =>
      sExtract x34 0 w fun x35 w =>
      sExtract x34 1 w fun x36 w =>
      sBin Tryd.prog .neq 24 false true x36 (.int .i64 0) w fun x38 w =>
      sIf x38 (
        K (.tuple #[(.string ⟨#[]⟩), x36]) w) (
        sCall Tryd.prog 54 [r0, (.int .i64 1), from1, (.int .i64 1)] w fun x43 w =>
        sExtract x43 0 w fun x44 w =>
        sExtract x43 1 w fun x45 w =>
        sExtract x43 2 w fun x46 w =>
        sAlloc Tryd.prog 105 w fun x11 w =>
        sStore Tryd.prog 105 x11 x44 w fun w =>
        sAlloc Tryd.prog 118 w fun out14 w =>
        sCall Tryd.prog 55 [x45] w fun x48 w =>
        sFld Tryd.prog 103 x48 1 w fun x49 w =>
        sIdx Tryd.prog 91 x49 (.int .i64 0) w fun x50 w =>
        LoopS [] 0 17 w fun us _ w Nx1 =>
          rope_Rope_Slice_L1 K Nx1 out14 x22 x35 x45 x50 w)))

def rope_Rope_Slice.sc : SC := (.seq (.reg (.op 0 (.op 1 .done))) (.seq (.reg (.op 0 (.op 1 (.op 2 (.op 3 (.op 4 (.op 5 (.op 6 (.op 7 .done))))))))) (.seq (.seq (.reg (.op 0 (.op 1 (.op 2 (.test 2 (.skip 3 (.skip 4 (.skip 5 (.op 6 .done)))) (.op 3 (.op 4 (.op 5 (.op 6 .done))))))))) (.cond (.seq (.reg (.op 0 (.op 1 .done))) .nop) .nop)) (.seq (.reg (.op 0 (.op 1 (.op 2 (.op 3 (.op 4 (.op 5 (.op 6 (.op 7 .done))))))))) (.seq (.seq (.reg (.op 0 (.op 1 .done))) (.cond (.seq (.reg (.op 0 (.op 1 (.op 2 .done)))) .nop) .nop)) (.seq (.reg (.op 0 (.op 1 (.op 2 (.op 3 (.op 4 (.op 5 (.op 6 (.op 7 (.op 8 (.op 9 (.op 10 .done)))))))))))) (.seq (.reg (.op 0 .done)) (.seq (.reg (.op 0 (.op 1 (.op 2 (.op 3 (.op 4 .done)))))) (.seq (.sub (.loop [] [51, 52, 53, 54, 55, 57, 58, 56, 59, 60, 16, 17, 61, 62, 63, 64, 65] (.seq (.seq (.reg (.op 0 (.op 1 (.op 2 (.op 3 (.op 4 .done)))))) (.cond .nop .nop)) (.sub (.seq (.reg (.op 0 (.op 1 (.op 2 (.op 3 (.op 4 (.op 5 (.op 6 (.op 7 .done))))))))) (.seq (.reg (.op 0 (.op 1 (.op 2 .done)))) (.reg (.op 0 (.op 1 .done))))))))) (.seq (.seq (.reg (.op 0 (.op 1 .done))) (.cond (.seq (.reg (.op 0 (.op 1 .done))) .nop) .nop)) (.seq (.reg (.op 0 (.op 1 (.op 2 (.op 3 (.op 4 (.op 5 (.op 6 (.op 7 (.op 8 (.op 9 .done))))))))))) .nop)))))))))))

theorem rope_Rope_Slice.ok : okC Tryd.f36.ntmps rope_Rope_Slice.sc (bodyOf Tryd.f36) = true := by kernel_rfl

theorem rope_Rope_Slice.eq {K : K1} {r0 from1 to2 : Value} {w : World} : rope_Rope_Slice K r0 from1 to2 w = codeS Tryd.prog rope_Rope_Slice.sc (bodyOf Tryd.f36) (argsF 0 [r0, from1, to2]) w (retQ Tryd.prog Tryd.f36.results.toList K) := by kernel_rfl

theorem rope_Rope_Slice.call {K : K1} {r0 from1 to2 : Value} {w : World} (h : rope_Rope_Slice K r0 from1 to2 w) : sCall Tryd.prog 36 [r0, from1, to2] w K := sCall_code mixed Tryd.func36 (by kernel_rfl) rfl rfl rope_Rope_Slice.ok rope_Rope_Slice.eq h

abbrev rope_Rope_Slice.n : Nat := 36

/-- 'bodkin utf.Clean' -/
def utf_Clean (K : K1) (s0 : Value) (w : World) : Prop :=
  sCall Tryd.prog 29 [s0] w fun x4 w =>
  sCall Tryd.prog 67 [x4] w fun x5 w =>
  K x5 w

def utf_Clean.sc : SC := (.seq (.reg (.op 0 .done)) (.seq (.reg (.op 0 (.op 1 (.op 2 (.op 3 .done))))) .nop))

theorem utf_Clean.ok : okC Tryd.f37.ntmps utf_Clean.sc (bodyOf Tryd.f37) = true := by kernel_rfl

theorem utf_Clean.eq {K : K1} {s0 : Value} {w : World} : utf_Clean K s0 w = codeS Tryd.prog utf_Clean.sc (bodyOf Tryd.f37) (argsF 0 [s0]) w (retQ Tryd.prog Tryd.f37.results.toList K) := by kernel_rfl

theorem utf_Clean.call {K : K1} {s0 : Value} {w : World} (h : utf_Clean K s0 w) : sCall Tryd.prog 37 [s0] w K := sCall_code mixed Tryd.func37 (by kernel_rfl) rfl rfl utf_Clean.ok utf_Clean.eq h

abbrev utf_Clean.n : Nat := 37

/-- 'bodkin utf.Count' -/
def utf_Count_L1 (K : K1) (Nx1 : List Value → World → Prop) (x5 : Value) (n3 : Value) (w : World) : Prop :=
  sNext Tryd.prog x5 true 0 w fun x6 w =>
  sExtract x6 0 w fun x7 w =>
  sIf x7 (
    sBin Tryd.prog .add 3 false true n3 (.int .i64 1) w fun x9 w =>
    Nx1 [x9] w) (
    K n3 w)

def utf_Count (K : K1) (s0 : Value) (w : World) : Prop :=
  sRange Tryd.prog 9 s0 w fun x5 w =>
  LoopS [(.int .i64 0)] 1 4 w fun us _ w Nx1 =>
    utf_Count_L1 K Nx1 x5 (hd us) w

def utf_Count.sc : SC := (.seq (.reg (.op 0 .done)) (.seq (.reg (.op 0 .done)) (.seq (.seq (.reg (.op 0 (.op 1 .done))) (.sub (.loop [3] [6, 7, 8, 9] (.seq (.reg (.op 0 (.op 1 .done))) (.seq (.cond .nop .nop) (.sub (.reg (.op 0 (.op 1 (.op 2 .done)))))))))) (.seq (.reg (.op 0 (.op 1 .done))) .nop))))

theorem utf_Count.ok : okC Tryd.f38.ntmps utf_Count.sc (bodyOf Tryd.f38) = true := by kernel_rfl

theorem utf_Count.eq {K : K1} {s0 : Value} {w : World} : utf_Count K s0 w = codeS Tryd.prog utf_Count.sc (bodyOf Tryd.f38) (argsF 0 [s0]) w (retQ Tryd.prog Tryd.f38.results.toList K) := by kernel_rfl

theorem utf_Count.call {K : K1} {s0 : Value} {w : World} (h : utf_Count K s0 w) : sCall Tryd.prog 38 [s0] w K := sCall_code mixed Tryd.func38 (by kernel_rfl) rfl rfl utf_Count.ok utf_Count.eq h

abbrev utf_Count.n : Nat := 38

/-- 'bodkin bodkinref07.Put' -/
def bodkinref07_Put (K : K1) (l0 at1 more2 : Value) (w : World) : Prop :=
  sBox Tryd.prog 75 at1 w fun at4 w =>
  sIdxA Tryd.prog 75 at4 (.int .i64 0) w fun x10 w =>
  sLoad Tryd.prog 3 x10 w fun x11 w =>
  sSlice Tryd.prog 32 l0 none (some x11) none w fun x12 w =>
  sBuiltin Tryd.prog .append [32, 32] 32 [(.slice none 0 0), x12] w fun x13 w =>
  sBuiltin Tryd.prog .append [32, 32] 32 [x13, more2] w fun x16 w =>
  sIdxA Tryd.prog 75 at4 (.int .i64 1) w fun x19 w =>
  sLoad Tryd.prog 3 x19 w fun x20 w =>
  sSlice Tryd.prog 32 l0 (some x20) none none w fun x21 w =>
  sBuiltin Tryd.prog .append [32, 32] 32 [x16, x21] w fun x22 w =>
  K x22 w

def bodkinref07_Put.sc : SC := (.seq (.reg (.op 0 (.op 1 .done))) (.seq (.reg (.op 0 .done)) (.seq (.reg (.op 0 (.op 1 (.op 2 (.op 3 (.op 4 (.op 5 (.op 6 .done)))))))) (.seq (.reg (.op 0 (.op 1 (.op 2 (.op 3 .done))))) (.seq (.reg (.op 0 (.op 1 (.op 2 (.op 3 (.op 4 (.op 5 (.op 6 .done)))))))) (.seq (.reg (.op 0 (.op 1 .done))) .nop))))))

theorem bodkinref07_Put.ok : okC Tryd.f39.ntmps bodkinref07_Put.sc (bodyOf Tryd.f39) = true := by kernel_rfl

theorem bodkinref07_Put.eq {K : K1} {l0 at1 more2 : Value} {w : World} : bodkinref07_Put K l0 at1 more2 w = codeS Tryd.prog bodkinref07_Put.sc (bodyOf Tryd.f39) (argsF 0 [l0, at1, more2]) w (retQ Tryd.prog Tryd.f39.results.toList K) := by kernel_rfl

theorem bodkinref07_Put.call {K : K1} {l0 at1 more2 : Value} {w : World} (h : bodkinref07_Put K l0 at1 more2 w) : sCall Tryd.prog 39 [l0, at1, more2] w K := sCall_code mixed Tryd.func39 (by kernel_rfl) rfl rfl bodkinref07_Put.ok bodkinref07_Put.eq h

abbrev bodkinref07_Put.n : Nat := 39

/-- 'bodkin bodkinref07.Most' -/
def bodkinref07_Most (K : K1) (w : World) : Prop :=
  K (.int .i64 20000) w

def bodkinref07_Most.sc : SC := (.seq (.reg (.op 0 .done)) (.seq (.reg (.op 0 .done)) .nop))

theorem bodkinref07_Most.ok : okC Tryd.f40.ntmps bodkinref07_Most.sc (bodyOf Tryd.f40) = true := by kernel_rfl

theorem bodkinref07_Most.eq {K : K1} {w : World} : bodkinref07_Most K  w = codeS Tryd.prog bodkinref07_Most.sc (bodyOf Tryd.f40) (argsF 0 []) w (retQ Tryd.prog Tryd.f40.results.toList K) := by kernel_rfl

theorem bodkinref07_Most.call {K : K1} {w : World} (h : bodkinref07_Most K  w) : sCall Tryd.prog 40 [] w K := sCall_code mixed Tryd.func40 (by kernel_rfl) rfl rfl bodkinref07_Most.ok bodkinref07_Most.eq h

abbrev bodkinref07_Most.n : Nat := 40

/-- '(*bodkin rope.Rope).Pieces' -/
def rope_Rope_Pieces_L1 (K : K1) (Nx1 : List Value → World → Prop) (x8 x9 : Value) (out3 x10 : Value) (w : World) : Prop :=
  sBin Tryd.prog .lss 3 false false x10 x9 w fun x11 w =>
  sIf x11 (
    sIdxA Tryd.prog 60 x8 x10 w fun x12 w =>
    sLoad Tryd.prog 93 x12 w fun x13 w =>
    sAlloc Tryd.prog 93 w fun i5 w =>
    sStore Tryd.prog 93 i5 x13 w fun w =>
    sFldA Tryd.prog 93 i5 4 w fun x15 w =>
    sLoad Tryd.prog 9 x15 w fun x16 w =>
    sBuildSlice Tryd.prog 50 1 [(0, x16)] w fun x17 w =>
    sBuiltin Tryd.prog .append [50, 50] 50 [out3, x17] w fun x18 w =>
    sBin Tryd.prog .add 3 false true x10 (.int .i64 1) w fun x19 w =>
    Nx1 [x18, x19] w) (
    K out3 w)

def rope_Rope_Pieces (K : K1) (r0 : Value) (w : World) : Prop :=
  sCall Tryd.prog 58 [r0] w fun x7 w =>
  sCall Tryd.prog 69 [x7] w fun x8 w =>
  sBuiltin Tryd.prog .len [60] 3 [x8] w fun x9 w =>
  LoopS [(.slice none 0 0), (.int .i64 0)] 2 10 w fun us _ w Nx1 =>
    rope_Rope_Pieces_L1 K Nx1 x8 x9 (hd us) (hd (tl us)) w

def rope_Rope_Pieces.sc : SC := (.seq (.reg (.op 0 .done)) (.seq (.reg (.op 0 .done)) (.seq (.seq (.reg (.op 0 (.op 1 (.op 2 (.op 3 (.op 4 .done)))))) (.sub (.loop [3, 10] [11, 12, 13, 5, 14, 15, 16, 17, 18, 19] (.seq (.reg (.op 0 .done)) (.seq (.cond .nop .nop) (.seq (.sub (.seq (.reg (.op 0 (.op 1 (.op 2 (.op 3 .done))))) (.reg (.op 0 (.op 1 (.op 2 (.op 3 (.op 4 (.op 5 .done))))))))) (.reg (.op 0 (.op 1 .done))))))))) (.seq (.reg (.op 0 (.op 1 .done))) .nop))))

theorem rope_Rope_Pieces.ok : okC Tryd.f42.ntmps rope_Rope_Pieces.sc (bodyOf Tryd.f42) = true := by kernel_rfl

theorem rope_Rope_Pieces.eq {K : K1} {r0 : Value} {w : World} : rope_Rope_Pieces K r0 w = codeS Tryd.prog rope_Rope_Pieces.sc (bodyOf Tryd.f42) (argsF 0 [r0]) w (retQ Tryd.prog Tryd.f42.results.toList K) := by kernel_rfl

theorem rope_Rope_Pieces.call {K : K1} {r0 : Value} {w : World} (h : rope_Rope_Pieces K r0 w) : sCall Tryd.prog 42 [r0] w K := sCall_code mixed Tryd.func42 (by kernel_rfl) rfl rfl rope_Rope_Pieces.ok rope_Rope_Pieces.eq h

abbrev rope_Rope_Pieces.n : Nat := 42

/-- 'bodkin bodkinref01.size' -/
def bodkinref01_size_J1 (K : K1) (r0 : Value) (w : World) : Prop :=
  sBin Tryd.prog .lss 21 false true r0 (.int .i32 128) w fun x18 w =>
  sIf x18 (
    K (.int .i64 1) w) (
    sBin Tryd.prog .lss 21 false true r0 (.int .i32 2048) w fun x20 w =>
    sIf x20 (
      K (.int .i64 2) w) (
      sBin Tryd.prog .lss 21 false true r0 (.int .i32 65536) w fun x22 w =>
      sIf x22 (
        K (.int .i64 3) w) (
        K (.int .i64 4) w)))

def bodkinref01_size (K : K1) (r0 : Value) (w : World) : Prop :=
  JoinS 0 15 (fun M1 =>
    sBin Tryd.prog .lss 21 false true r0 (.int .i32 0) w fun x4 w =>
    sIf x4 (
      K (.int .i64 0) w) (
      sBin Tryd.prog .gtr 21 false true r0 (.int .i32 1114111) w fun x7 w =>
      sIf x7 (
        K (.int .i64 0) w) (
        sBin Tryd.prog .geq 21 false true r0 (.int .i32 55296) w fun x11 w =>
        sIf x11 (
          sBin Tryd.prog .leq 21 false true r0 (.int .i32 57343) w fun x14 w =>
          sIf x14 (
            K (.int .i64 0) w) (
            M1 [] w)) (
          M1 [] w)))) fun us _ w =>
    bodkinref01_size_J1 K r0 w

def bodkinref01_size.sc : SC := (.seq (.reg (.op 0 .done)) (.join [] [3, 4, 5, 6, 7, 8, 9, 10, 11, 12, 13, 14, 15, 16, 2] (.seq (.reg (.op 0 (.op 1 (.op 2 (.test 2 (.skip 3 (.skip 4 (.op 5 (.op 6 (.know 6 true (.skip 7 (.skip 8 (.skip 9 (.skip 10 (.skip 11 (.skip 12 (.op 13 .done)))))))))))) (.op 3 (.op 4 (.op 5 (.op 6 (.test 6 (.skip 7 (.skip 8 (.skip 9 (.skip 10 (.skip 11 (.skip 12 (.op 13 .done))))))) (.op 7 (.op 8 (.op 9 (.test 9 (.op 10 (.op 11 (.op 12 (.op 13 .done)))) (.skip 10 (.skip 11 (.op 12 (.op 13 .done)))))))))))))))))) (.cond (.seq (.reg (.op 0 .done)) .nop) .nop)) (.seq (.seq (.reg (.op 0 (.op 1 .done))) (.cond (.seq (.reg (.op 0 .done)) .nop) .nop)) (.seq (.seq (.reg (.op 0 (.op 1 .done))) (.cond (.seq (.reg (.op 0 .done)) .nop) .nop)) (.seq (.seq (.reg (.op 0 (.op 1 .done))) (.cond (.seq (.reg (.op 0 .done)) .nop) .nop)) (.seq (.reg (.op 0 .done)) .nop))))))

theorem bodkinref01_size.ok : okC Tryd.f43.ntmps bodkinref01_size.sc (bodyOf Tryd.f43) = true := by kernel_rfl

theorem bodkinref01_size.eq {K : K1} {r0 : Value} {w : World} : bodkinref01_size K r0 w = codeS Tryd.prog bodkinref01_size.sc (bodyOf Tryd.f43) (argsF 0 [r0]) w (retQ Tryd.prog Tryd.f43.results.toList K) := by kernel_rfl

theorem bodkinref01_size.call {K : K1} {r0 : Value} {w : World} (h : bodkinref01_size K r0 w) : sCall Tryd.prog 43 [r0] w K := sCall_code mixed Tryd.func43 (by kernel_rfl) rfl rfl bodkinref01_size.ok bodkinref01_size.eq h

abbrev bodkinref01_size.n : Nat := 43

/-- 'bodkin bodkinref01.one' -/
def bodkinref01_one (K : K1) (r0 n1 : Value) (w : World) : Prop :=
  sBin Tryd.prog .eql 3 false true n1 (.int .i64 1) w fun x7 w =>
  sIf x7 (
    sConv Tryd.prog 21 5 r0 w fun x9 w =>
    sBuildSlice Tryd.prog 116 1 [(0, x9)] w fun x10 w =>
    sConv Tryd.prog 116 9 x10 w fun x11 w =>
    K x11 w) (
    sBin Tryd.prog .eql 3 false true n1 (.int .i64 2) w fun x13 w =>
    sIf x13 (
      sBin Tryd.prog .quo 21 false true r0 (.int .i32 64) w fun x15 w =>
      sBin Tryd.prog .add 21 true false (.int .i32 192) x15 w fun x16 w =>
      sConv Tryd.prog 21 5 x16 w fun x17 w =>
      sBin Tryd.prog .rem 21 false true r0 (.int .i32 64) w fun x19 w =>
      sBin Tryd.prog .add 21 true false (.int .i32 128) x19 w fun x20 w =>
      sConv Tryd.prog 21 5 x20 w fun x21 w =>
      sBuildSlice Tryd.prog 116 2 [(0, x17), (1, x21)] w fun x22 w =>
      sConv Tryd.prog 116 9 x22 w fun x23 w =>
      K x23 w) (
      sBin Tryd.prog .eql 3 false true n1 (.int .i64 3) w fun x25 w =>
      sIf x25 (
        sBin Tryd.prog .quo 21 false true r0 (.int .i32 4096) w fun x27 w =>
        sBin Tryd.prog .add 21 true false (.int .i32 224) x27 w fun x28 w =>
        sConv Tryd.prog 21 5 x28 w fun x29 w =>
        sBin Tryd.prog .quo 21 false true r0 (.int .i32 64) w fun x31 w =>
        sBin Tryd.prog .rem 21 false true x31 (.int .i32 64) w fun x32 w =>
        sBin Tryd.prog .add 21 true false (.int .i32 128) x32 w fun x33 w =>
        sConv Tryd.prog 21 5 x33 w fun x34 w =>
        sBin Tryd.prog .rem 21 false true r0 (.int .i32 64) w fun x36 w =>
        sBin Tryd.prog .add 21 true false (.int .i32 128) x36 w fun x37 w =>
        sConv Tryd.prog 21 5 x37 w fun x38 w =>
        sBuildSlice Tryd.prog 116 3 [(0, x29), (1, x34), (2, x38)] w fun x39 w =>
        sConv Tryd.prog 116 9 x39 w fun x40 w =>
        K x40 w) (
        sBin Tryd.prog .quo 21 false true r0 (.int .i32 262144) w fun x42 w =>
        sBin Tryd.prog .add 21 true false (.int .i32 240) x42 w fun x43 w =>
        sConv Tryd.prog 21 5 x43 w fun x44 w =>
        sBin Tryd.prog .quo 21 false true r0 (.int .i32 4096) w fun x46 w =>
        sBin Tryd.prog .rem 21 false true x46 (.int .i32 64) w fun x47 w =>
        sBin Tryd.prog .add 21 true false (.int .i32 128) x47 w fun x48 w =>
        sConv Tryd.prog 21 5 x48 w fun x49 w =>
        sBin Tryd.prog .quo 21 false true r0 (.int .i32 64) w fun x51 w =>
        sBin Tryd.prog .rem 21 false true x51 (.int .i32 64) w fun x52 w =>
        sBin Tryd.prog .add 21 true false (.int .i32 128) x52 w fun x53 w =>
        sConv Tryd.prog 21 5 x53 w fun x54 w =>
        sBin Tryd.prog .rem 21 false true r0 (.int .i32 64) w fun x56 w =>
        sBin Tryd.prog .add 21 true false (.int .i32 128) x56 w fun x57 w =>
        sConv Tryd.prog 21 5 x57 w fun x58 w =>
        sBuildSlice Tryd.prog 116 4 [(0, x44), (1, x49), (2, x54), (3, x58)] w fun x59 w =>
        sConv Tryd.prog 116 9 x59 w fun x60 w =>
        K x60 w)))

def bodkinref01_one.sc : SC := (.seq (.reg (.op 0 .done)) (.seq (.seq (.reg (.op 0 .done)) (.sub (.seq (.reg (.op 0 (.op 1 .done))) (.cond (.seq (.reg (.op 0 (.op 1 (.op 2 (.op 3 (.op 4 .done)))))) .nop) (.seq (.reg (.op 0 (.op 1 .done))) (.cond (.seq (.reg (.op 0 (.op 1 (.op 2 (.op 3 (.op 4 (.op 5 (.op 6 (.op 7 (.op 8 (.op 9 (.op 10 .done)))))))))))) .nop) (.seq (.reg (.op 0 (.op 1 .done))) (.cond (.seq (.reg (.op 0 (.op 1 (.op 2 (.op 3 (.op 4 (.op 5 (.op 6 (.op 7 (.op 8 (.op 9 (.op 10 (.op 11 (.op 12 (.op 13 (.op 14 (.op 15 .done))))))))))))))))) .nop) .nop)))))))) (.seq (.reg (.op 0 (.op 1 (.op 2 (.op 3 (.op 4 (.op 5 (.op 6 (.op 7 (.op 8 (.op 9 (.op 10 (.op 11 (.op 12 (.op 13 (.op 14 (.op 15 (.op 16 (.op 17 (.op 18 (.op 19 (.op 20 .done)))))))))))))))))))))) .nop)))

theorem bodkinref01_one.ok : okC Tryd.f44.ntmps bodkinref01_one.sc (bodyOf Tryd.f44) = true := by kernel_rfl

theorem bodkinref01_one.eq {K : K1} {r0 n1 : Value} {w : World} : bodkinref01_one K r0 n1 w = codeS Tryd.prog bodkinref01_one.sc (bodyOf Tryd.f44) (argsF 0 [r0, n1]) w (retQ Tryd.prog Tryd.f44.results.toList K) := by kernel_rfl

theorem bodkinref01_one.call {K : K1} {r0 n1 : Value} {w : World} (h : bodkinref01_one K r0 n1 w) : sCall Tryd.prog 44 [r0, n1] w K := sCall_code mixed Tryd.func44 (by kernel_rfl) rfl rfl bodkinref01_one.ok bodkinref01_one.eq h

abbrev bodkinref01_one.n : Nat := 44

/-- '(*bodkin history.History).Sizes' -/
def history_History_Sizes (K : K1) (h0 : Value) (w : World) : Prop :=
  sBin Tryd.prog .eql 48 false true h0 (.pointer none) w fun x5 w =>
  sIf x5 (
    K (.tuple #[(.int .i64 0), (.int .i64 0)]) w) (
    DrawS w fun C w =>
    sNil h0 w fun x7 w =>
    stillS C w (fun w k => sFldA Tryd.prog 86 x7 0 w k) fun x8 =>
    stillS C w (fun w k => sIdxA Tryd.prog 84 x8 (.int .i64 0) w k) fun x9 =>
    stillS C w (fun w k => sLoad Tryd.prog 83 x9 w k) fun x10 =>
    stillS C w (fun w k => sBuiltin Tryd.prog .len [83] 3 [x10] w k) fun x11 =>
    sNil h0 w fun x13 w =>
    stillS C w (fun w k => sFldA Tryd.prog 86 x13 0 w k) fun x14 =>
    stillS C w (fun w k => sIdxA Tryd.prog 84 x14 (.int .i64 1) w k) fun x15 =>
    stillS C w (fun w k => sLoad Tryd.prog 83 x15 w k) fun x16 =>
    stillS C w (fun w k => sBuiltin Tryd.prog .len [83] 3 [x16] w k) fun x17 =>
    K (.tuple #[x11, x17]) w)

def history_History_Sizes.sc : SC := (.seq (.reg (.op 0 (.op 1 .done))) (.seq (.seq (.reg (.op 0 (.op 1 .done))) (.cond (.seq (.reg (.op 0 (.op 1 .done))) .nop) .nop)) (.seq (.draw (.op 0 (.op 1 (.op 2 (.op 3 (.op 4 (.op 5 (.op 6 (.op 7 (.op 8 (.op 9 (.op 10 (.op 11 (.op 12 (.op 13 .done))))))))))))))) .nop)))

theorem history_History_Sizes.ok : okC Tryd.f45.ntmps history_History_Sizes.sc (bodyOf Tryd.f45) = true := by kernel_rfl

theorem history_History_Sizes.eq {K : K1} {h0 : Value} {w : World} : history_History_Sizes K h0 w = codeS Tryd.prog history_History_Sizes.sc (bodyOf Tryd.f45) (argsF 0 [h0]) w (retQ Tryd.prog Tryd.f45.results.toList K) := by kernel_rfl

theorem history_History_Sizes.call {K : K1} {h0 : Value} {w : World} (h : history_History_Sizes K h0 w) : sCall Tryd.prog 45 [h0] w K := sCall_code mixed Tryd.func45 (by kernel_rfl) rfl rfl history_History_Sizes.ok history_History_Sizes.eq h

abbrev history_History_Sizes.n : Nat := 45

/-- 'slices.Clone[[]bodkin api.Edit,bodkin api.Edit]' -/
def slices_Clone (K : K1) (s0 : Value) (w : World) : Prop :=
  sBin Tryd.prog .eql 22 false true s0 (.slice none 0 0) w fun x4 w =>
  sIf x4 (
    K (.slice none 0 0) w) (
    sBuildSlice Tryd.prog 22 0 [] w fun x5 w =>
    sBuiltin Tryd.prog .append [22, 22] 22 [x5, s0] w fun x7 w =>
    K x7 w)

def slices_Clone.sc : SC := (.seq (.reg (.op 0 .done)) (.seq (.seq (.reg (.op 0 (.op 1 .done))) (.cond (.seq (.reg (.op 0 .done)) .nop) .nop)) (.seq (.reg (.op 0 (.op 1 (.op 2 (.op 3 .done))))) .nop)))

theorem slices_Clone.ok : okC Tryd.f46.ntmps slices_Clone.sc (bodyOf Tryd.f46) = true := by kernel_rfl

theorem slices_Clone.eq {K : K1} {s0 : Value} {w : World} : slices_Clone K s0 w = codeS Tryd.prog slices_Clone.sc (bodyOf Tryd.f46) (argsF 0 [s0]) w (retQ Tryd.prog Tryd.f46.results.toList K) := by kernel_rfl

theorem slices_Clone.call {K : K1} {s0 : Value} {w : World} (h : slices_Clone K s0 w) : sCall Tryd.prog 46 [s0] w K := sCall_code mixed Tryd.func46 (by kernel_rfl) rfl rfl slices_Clone.ok slices_Clone.eq h

abbrev slices_Clone.n : Nat := 46

/-- '(*bodkin history.History).move' -/
def history_History_move_J1 (K : K1) (from1 h0 x4 : Value) (x19 : Value) (w : World) : Prop :=
  sIf x19 (
    sBuild Tryd.prog 53 [] w fun x20 w =>
    sStore Tryd.prog 53 x4 x20 w fun w =>
    sLoad Tryd.prog 53 x4 w fun v w' => w' = w ∧ K (.tuple #[v, (.int .i64 6)]) w) (
    sNil h0 w fun x23 w =>
    sFldA Tryd.prog 86 x23 0 w fun x24 w =>
    sIdxA Tryd.prog 84 x24 from1 w fun x25 w =>
    sLoad Tryd.prog 83 x25 w fun x26 w =>
    sBuiltin Tryd.prog .len [83] 3 [x26] w fun x27 w =>
    sBin Tryd.prog .sub 3 false true x27 (.int .i64 1) w fun x28 w =>
    sNil h0 w fun x31 w =>
    sFldA Tryd.prog 86 x31 0 w fun x32 w =>
    sIdxA Tryd.prog 84 x32 from1 w fun x33 w =>
    sLoad Tryd.prog 83 x33 w fun x34 w =>
    sIdxA Tryd.prog 83 x34 x28 w fun x36 w =>
    sLoad Tryd.prog 53 x36 w fun x37 w =>
    sAlloc Tryd.prog 53 w fun s7 w =>
    sStore Tryd.prog 53 s7 x37 w fun w =>
    DrawS w fun C w =>
    sNil h0 w fun x42 w =>
    stillS C w (fun w k => sFldA Tryd.prog 86 x42 0 w k) fun x43 =>
    stillS C w (fun w k => sIdxA Tryd.prog 84 x43 from1 w k) fun x44 =>
    stillS C w (fun w k => sLoad Tryd.prog 83 x44 w k) fun x45 =>
    stillS C w (fun w k => sSlice Tryd.prog 83 x45 none (some x28) none w k) fun x47 =>
    sNil h0 w fun x48 w =>
    stillS C w (fun w k => sFldA Tryd.prog 86 x48 0 w k) fun x49 =>
    stillS C w (fun w k => sIdxA Tryd.prog 84 x49 from1 w k) fun x50 =>
    sStore Tryd.prog 83 x50 x47 w fun w =>
    DrawS w fun C w =>
    stillS C w (fun w k => sBin Tryd.prog .sub 3 true false (.int .i64 1) from1 w k) fun x53 =>
    stillS C w (fun w k => sBin Tryd.prog .sub 3 true false (.int .i64 1) from1 w k) fun x56 =>
    sNil h0 w fun x57 w =>
    stillS C w (fun w k => sFldA Tryd.prog 86 x57 0 w k) fun x58 =>
    stillS C w (fun w k => sIdxA Tryd.prog 84 x58 x56 w k) fun x59 =>
    stillS C w (fun w k => sLoad Tryd.prog 83 x59 w k) fun x60 =>
    stillS C w (fun w k => sLoad Tryd.prog 53 s7 w k) fun x61 =>
    sNil h0 w fun x64 w =>
    stillS C w (fun w k => sFldA Tryd.prog 86 x64 0 w k) fun x65 =>
    sBuildSlice Tryd.prog 83 1 [(0, x61)] w fun x62 w => C w ∧
    sBuiltin Tryd.prog .append [83, 83] 83 [x60, x62] w fun x63 w => C w ∧
    stillS C w (fun w k => sIdxA Tryd.prog 84 x65 x53 w k) fun x66 =>
    sStore Tryd.prog 83 x66 x63 w fun w =>
    sLoad Tryd.prog 53 s7 w fun x67 w =>
    sStore Tryd.prog 53 x4 x67 w fun w =>
    sLoad Tryd.prog 53 x4 w fun v w' => w' = w ∧ K (.tuple #[v, (.int .i64 0)]) w)

def history_History_move (K : K1) (h0 from1 : Value) (w : World) : Prop :=
  sAlloc Tryd.prog 53 w fun x4 w =>
  JoinS 1 11 (fun M1 =>
    sBin Tryd.prog .eql 48 false true h0 (.pointer none) w fun x9 w =>
    sIf x9 (
      M1 [(.bool true)] w) (
      sNil h0 w fun x13 w =>
      sFldA Tryd.prog 86 x13 0 w fun x14 w =>
      sIdxA Tryd.prog 84 x14 from1 w fun x15 w =>
      sLoad Tryd.prog 83 x15 w fun x16 w =>
      sBuiltin Tryd.prog .len [83] 3 [x16] w fun x17 w =>
      sBin Tryd.prog .eql 3 false true x17 (.int .i64 0) w fun x18 w =>
      M1 [x18] w)) fun us _ w =>
    history_History_move_J1 K from1 h0 x4 (hd us) w

def history_History_move.sc : SC := (.seq (.reg (.op 0 (.op 1 .done))) (.seq (.join [19] [8, 9, 10, 11, 12, 13, 14, 15, 16, 17, 18] (.reg (.op 0 (.op 1 (.op 2 (.test 2 (.skip 3 (.skip 4 (.skip 5 (.skip 6 (.skip 7 (.skip 8 (.skip 9 (.skip 10 (.op 11 .done))))))))) (.op 3 (.op 4 (.op 5 (.op 6 (.op 7 (.op 8 (.op 9 (.op 10 (.op 11 .done)))))))))))))) (.cond (.seq (.reg (.op 0 (.op 1 (.op 2 .done)))) .nop) .nop)) (.seq (.reg (.op 0 (.op 1 (.op 2 (.op 3 (.op 4 (.op 5 (.op 6 (.op 7 (.op 8 .done)))))))))) (.seq (.reg (.op 0 (.op 1 (.op 2 (.op 3 (.op 4 (.op 5 (.op 6 (.op 7 (.op 8 (.op 9 (.op 10 .done)))))))))))) (.seq (.draw (.op 0 (.op 1 (.op 2 (.op 3 (.op 4 (.op 5 (.op 6 (.op 7 (.op 8 (.op 9 (.op 10 (.op 11 (.op 12 (.fin 13 .done))))))))))))))) (.seq (.draw (.op 0 (.op 1 (.op 2 (.op 3 (.op 4 (.op 5 (.op 6 (.op 7 (.op 8 (.op 9 (.op 10 (.op 13 (.op 14 (.op 11 (.op 12 (.op 15 (.fin 16 .done)))))))))))))))))) (.seq (.reg (.op 0 (.op 1 (.op 2 .done)))) .nop)))))))

theorem history_History_move.ok : okC Tryd.f47.ntmps history_History_move.sc (bodyOf Tryd.f47) = true := by kernel_rfl

theorem history_History_move.eq {K : K1} {h0 from1 : Value} {w : World} : history_History_move K h0 from1 w = codeS Tryd.prog history_History_move.sc (bodyOf Tryd.f47) (argsF 0 [h0, from1]) w (retQ Tryd.prog Tryd.f47.results.toList K) := by kernel_rfl

theorem history_History_move.call {K : K1} {h0 from1 : Value} {w : World} (h : history_History_move K h0 from1 w) : sCall Tryd.prog 47 [h0, from1] w K := sCall_code mixed Tryd.func47 (by kernel_rfl) rfl rfl history_History_move.ok history_History_move.eq h

abbrev history_History_move.n : Nat := 47

/-- 'bodkin item.Check' -/
def item_Check_L1 (K : K1) (Nx1 : List Value → World → Prop) (x10 : Value) (ok3 x11 : Value) (w : World) : Prop :=
  sBin Tryd.prog .lss 3 false true x11 (.int .i64 3) w fun x12 w =>
  sIf x12 (
    sIdx Tryd.prog 91 x10 x11 w fun x13 w =>
    sIf ok3 (
      sCall Tryd.prog 70 [x13] w fun x17 w =>
      sBin Tryd.prog .add 3 false true x11 (.int .i64 1) w fun x19 w =>
      Nx1 [x17, x19] w) (
      sBin Tryd.prog .add 3 false true x11 (.int .i64 1) w fun x19_1 w =>
      Nx1 [(.bool false), x19_1] w)) (
    sUn Tryd.prog .not ok3 w fun x21 w =>
    sIf x21 (
      K (.int .i64 1) w) (
      K (.int .i64 0) w))

def item_Check (K : K1) (i0 : Value) (w : World) : Prop :=
  sBox Tryd.prog 93 i0 w fun i1 w =>
  sFldA Tryd.prog 93 i1 3 w fun x6 w =>
  sLoad Tryd.prog 3 x6 w fun x7 w =>
  sCall Tryd.prog 70 [x7] w fun x8 w =>
  sFldA Tryd.prog 93 i1 2 w fun x9 w =>
  sLoad Tryd.prog 91 x9 w fun x10 w =>
  LoopS [x8, (.int .i64 0)] 2 9 w fun us _ w Nx1 =>
    item_Check_L1 K Nx1 x10 (hd us) (hd (tl us)) w

def item_Check.sc : SC := (.seq (.reg (.op 0 (.op 1 .done))) (.seq (.reg (.op 0 (.op 1 (.op 2 (.op 3 .done))))) (.seq (.seq (.reg (.op 0 (.op 1 (.op 2 .done)))) (.sub (.loop [3, 11] [12, 13, 5, 14, 15, 16, 17, 18, 19] (.seq (.reg (.op 0 .done)) (.seq (.cond .nop .nop) (.seq (.sub (.seq (.reg (.op 0 (.op 1 .done))) (.reg (.op 0 (.op 1 (.test 1 (.op 2 (.op 3 (.op 4 (.op 5 .done)))) (.skip 2 (.skip 3 (.op 4 (.op 5 .done)))))))))) (.reg (.op 0 (.op 1 .done))))))))) (.seq (.seq (.reg (.op 0 (.op 1 .done))) (.cond (.seq (.reg (.op 0 .done)) .nop) .nop)) (.seq (.reg (.op 0 .done)) .nop)))))

theorem item_Check.ok : okC Tryd.f48.ntmps item_Check.sc (bodyOf Tryd.f48) = true := by kernel_rfl

theorem item_Check.eq {K : K1} {i0 : Value} {w : World} : item_Check K i0 w = codeS Tryd.prog item_Check.sc (bodyOf Tryd.f48) (argsF 0 [i0]) w (retQ Tryd.prog Tryd.f48.results.toList K) := by kernel_rfl

theorem item_Check.call {K : K1} {i0 : Value} {w : World} (h : item_Check K i0 w) : sCall Tryd.prog 48 [i0] w K := sCall_code mixed Tryd.func48 (by kernel_rfl) rfl rfl item_Check.ok item_Check.eq h

abbrev item_Check.n : Nat := 48

/-- 'bodkin tree.join' -/
def tree_join (K : K1) (a0 b1 : Value) (w : World) : Prop :=
  sBin Tryd.prog .eql 90 false true a0 .nilIface w fun x8 w =>
  sIf x8 (
    K b1 w) (
    sBin Tryd.prog .eql 90 false true b1 .nilIface w fun x12 w =>
    sIf x12 (
      K a0 w) (
      sCall Tryd.prog 71 [a0, b1] w fun x16 w =>
      sBuiltin Tryd.prog .len [128] 3 [x16] w fun x18 w =>
      sBin Tryd.prog .eql 3 false true x18 (.int .i64 1) w fun x19 w =>
      sIf x19 (
        sIdxA Tryd.prog 128 x16 (.int .i64 0) w fun x21 w =>
        sLoad Tryd.prog 90 x21 w fun x22 w =>
        K x22 w) (
        sCall Tryd.prog 72 [x16] w fun x24 w =>
        sIface Tryd.prog 130 x24 w fun x25 w =>
        K x25 w)))

def tree_join.sc : SC := (.seq (.reg (.op 0 .done)) (.seq (.sub (.seq (.reg (.op 0 (.op 1 (.op 2 .done)))) (.cond (.seq (.reg (.op 0 (.op 1 .done))) .nop) (.seq (.reg (.op 0 (.op 1 (.op 2 .done)))) (.cond (.seq (.reg (.op 0 (.op 1 .done))) .nop) .nop))))) (.seq (.reg (.op 0 (.op 1 (.op 2 (.op 3 .done))))) (.seq (.seq (.reg (.op 0 (.op 1 (.op 2 .done)))) (.cond (.seq (.reg (.op 0 (.op 1 (.op 2 (.op 3 .done))))) .nop) .nop)) (.seq (.reg (.op 0 (.op 1 (.op 2 (.op 3 .done))))) .nop)))))

theorem tree_join.ok : okC Tryd.f49.ntmps tree_join.sc (bodyOf Tryd.f49) = true := by kernel_rfl

theorem tree_join.eq {K : K1} {a0 b1 : Value} {w : World} : tree_join K a0 b1 w = codeS Tryd.prog tree_join.sc (bodyOf Tryd.f49) (argsF 0 [a0, b1]) w (retQ Tryd.prog Tryd.f49.results.toList K) := by kernel_rfl

theorem tree_join.call {K : K1} {a0 b1 : Value} {w : World} (h : tree_join K a0 b1 w) : sCall Tryd.prog 49 [a0, b1] w K := sCall_code mixed Tryd.func49 (by kernel_rfl) rfl rfl tree_join.ok tree_join.eq h

abbrev tree_join.n : Nat := 49

/-- 'bodkin tree.leafOf' -/
def tree_leafOf (K : K1) (l0 : Value) (w : World) : Prop :=
  sCall Tryd.prog 73 [l0] w fun x5 w =>
  sBuild Tryd.prog 134 [(0, l0), (1, x5)] w fun x6 w =>
  sBox Tryd.prog 134 x6 w fun x7 w =>
  K x7 w

def tree_leafOf.sc : SC := (.seq (.reg (.op 0 .done)) (.seq (.reg (.op 0 (.op 1 (.op 2 (.op 3 (.op 4 (.op 5 .done))))))) .nop))

theorem tree_leafOf.ok : okC Tryd.f50.ntmps tree_leafOf.sc (bodyOf Tryd.f50) = true := by kernel_rfl

theorem tree_leafOf.eq {K : K1} {l0 : Value} {w : World} : tree_leafOf K l0 w = codeS Tryd.prog tree_leafOf.sc (bodyOf Tryd.f50) (argsF 0 [l0]) w (retQ Tryd.prog Tryd.f50.results.toList K) := by kernel_rfl

theorem tree_leafOf.call {K : K1} {l0 : Value} {w : World} (h : tree_leafOf K l0 w) : sCall Tryd.prog 50 [l0] w K := sCall_code mixed Tryd.func50 (by kernel_rfl) rfl rfl tree_leafOf.ok tree_leafOf.eq h

abbrev tree_leafOf.n : Nat := 50

/-- 'bodkin rope.pieceOf' -/
def rope_pieceOf_L1 (K : K1) (Nx1 : List Value → World → Prop) (i3 l0 x19 x2 : Value) (x20 : Value) (w : World) : Prop :=
  sBin Tryd.prog .lss 3 false false x20 x19 w fun x21 w =>
  sIf x21 (
    sIdxA Tryd.prog 32 l0 x20 w fun x22 w =>
    sLoad Tryd.prog 21 x22 w fun x23 w =>
    sBin Tryd.prog .eql 21 false true x23 (.int .i32 10) w fun x25 w =>
    sIf x25 (
      sFldA Tryd.prog 93 i3 2 w fun x26 w =>
      sIdxA Tryd.prog 91 x26 (.int .i64 2) w fun x27 w =>
      sLoad Tryd.prog 3 x27 w fun x28 w =>
      sBin Tryd.prog .add 3 false true x28 (.int .i64 1) w fun x29 w =>
      sFldA Tryd.prog 93 i3 2 w fun x30 w =>
      sIdxA Tryd.prog 91 x30 (.int .i64 2) w fun x31 w =>
      sStore Tryd.prog 3 x31 x29 w fun w =>
      sBin Tryd.prog .add 3 false true x20 (.int .i64 1) w fun x32 w =>
      Nx1 [x32] w) (
      sBin Tryd.prog .add 3 false true x20 (.int .i64 1) w fun x32_1 w =>
      Nx1 [x32_1] w)) (
    sLoad Tryd.prog 93 i3 w fun x33 w =>
    sStore Tryd.prog 93 x2 x33 w fun w =>
    sLoad Tryd.prog 93 x2 w fun v w' => w' = w ∧ K v w)

def rope_pieceOf (K : K1) (l0 : Value) (w : World) : Prop :=
  sAlloc Tryd.prog 93 w fun x2 w =>
  sCall Tryd.prog 67 [l0] w fun x7 w =>
  sBuild Tryd.prog 93 [(4, x7)] w fun x8 w =>
  sAlloc Tryd.prog 93 w fun i3 w =>
  sStore Tryd.prog 93 i3 x8 w fun w =>
  sFldA Tryd.prog 93 i3 4 w fun x9 w =>
  sLoad Tryd.prog 9 x9 w fun x10 w =>
  sBuiltin Tryd.prog .len [9] 3 [x10] w fun x11 w =>
  sBuiltin Tryd.prog .len [32] 3 [l0] w fun x13 w =>
  sFldA Tryd.prog 93 i3 2 w fun x14 w =>
  sIdxA Tryd.prog 91 x14 (.int .i64 0) w fun x15 w =>
  sStore Tryd.prog 3 x15 x11 w fun w =>
  sFldA Tryd.prog 93 i3 2 w fun x16 w =>
  sIdxA Tryd.prog 91 x16 (.int .i64 1) w fun x17 w =>
  sStore Tryd.prog 3 x17 x13 w fun w =>
  sBuiltin Tryd.prog .len [32] 3 [l0] w fun x19 w =>
  LoopS [(.int .i64 0)] 1 13 w fun us _ w Nx1 =>
    rope_pieceOf_L1 K Nx1 i3 l0 x19 x2 (hd us) w

def rope_pieceOf.sc : SC := (.seq (.reg (.op 0 .done)) (.seq (.reg (.op 0 (.op 1 (.op 2 (.op 3 (.op 4 .done)))))) (.seq (.reg (.op 0 (.op 1 (.op 2 (.op 3 (.op 4 (.op 5 (.op 6 (.op 7 (.op 8 (.op 9 (.op 10 .done)))))))))))) (.seq (.seq (.reg (.op 0 (.op 1 (.op 2 .done)))) (.sub (.loop [20] [21, 22, 23, 5, 24, 25, 26, 27, 28, 29, 30, 31, 32] (.seq (.reg (.op 0 .done)) (.seq (.cond .nop .nop) (.seq (.sub (.seq (.reg (.op 0 (.op 1 (.op 2 .done)))) (.seq (.reg (.op 0 (.op 1 .done))) (.cond (.reg (.op 0 (.op 1 (.op 2 (.op 3 (.op 4 (.op 5 (.op 6 .done)))))))) .nop)))) (.reg (.op 0 (.op 1 .done))))))))) (.seq (.reg (.op 0 (.op 1 .done))) .nop)))))

theorem rope_pieceOf.ok : okC Tryd.f51.ntmps rope_pieceOf.sc (bodyOf Tryd.f51) = true := by kernel_rfl

theorem rope_pieceOf.eq {K : K1} {l0 : Value} {w : World} : rope_pieceOf K l0 w = codeS Tryd.prog rope_pieceOf.sc (bodyOf Tryd.f51) (argsF 0 [l0]) w (retQ Tryd.prog Tryd.f51.results.toList K) := by kernel_rfl

theorem rope_pieceOf.call {K : K1} {l0 : Value} {w : World} (h : rope_pieceOf K l0 w) : sCall Tryd.prog 51 [l0] w K := sCall_code mixed Tryd.func51 (by kernel_rfl) rfl rfl rope_pieceOf.ok rope_pieceOf.eq h

abbrev rope_pieceOf.n : Nat := 51

/-- 'bodkin bodkinref01.number' -/
def bodkinref01_number_L2 (K : K1) (Nx2 : List Value → World → Prop) (s0 : Value) (first3_1 i4 : Value) (w : World) : Prop :=
  sBuiltin Tryd.prog .len [9] 3 [s0] w fun x25 w =>
  sBin Tryd.prog .lss 3 false false i4 x25 w fun x26 w =>
  sIf x26 (
    sBin Tryd.prog .mul 21 true false (.int .i32 64) first3_1 w fun x30 w =>
    sIdx Tryd.prog 9 s0 i4 w fun x33 w =>
    sConv Tryd.prog 5 21 x33 w fun x34 w =>
    sBin Tryd.prog .add 21 false false x30 x34 w fun x35 w =>
    sBin Tryd.prog .sub 21 false true x35 (.int .i32 128) w fun x36 w =>
    sBin Tryd.prog .add 3 false true i4 (.int .i64 1) w fun x28 w =>
    Nx2 [x36, x28] w) (
    K first3_1 w)

def bodkinref01_number_J1 (K : K1) (s0 : Value) (first3 : Value) (w : World) : Prop :=
  LoopS [first3, (.int .i64 1)] 2 14 w fun us _ w Nx2 =>
    bodkinref01_number_L2 K Nx2 s0 (hd us) (hd (tl us)) w

def bodkinref01_number (K : K1) (s0 : Value) (w : World) : Prop :=
  sIdx Tryd.prog 9 s0 (.int .i64 0) w fun x6 w =>
  sConv Tryd.prog 5 21 x6 w fun x7 w =>
  JoinS 1 16 (fun M1 =>
    sBuiltin Tryd.prog .len [9] 3 [s0] w fun x9 w =>
    sBin Tryd.prog .eql 3 false true x9 (.int .i64 1) w fun x13 w =>
    sIf x13 (
      K x7 w) (
      sBin Tryd.prog .eql 3 false true x9 (.int .i64 2) w fun x16 w =>
      sIf x16 (
        sBin Tryd.prog .sub 21 false true x7 (.int .i32 192) w fun x18 w =>
        M1 [x18] w) (
        sBin Tryd.prog .eql 3 false true x9 (.int .i64 3) w fun x20 w =>
        sIf x20 (
          sBin Tryd.prog .sub 21 false true x7 (.int .i32 224) w fun x22 w =>
          M1 [x22] w) (
          sBin Tryd.prog .sub 21 false true x7 (.int .i32 240) w fun x11 w =>
          M1 [x11] w)))) fun us _ w =>
    bodkinref01_number_J1 K s0 (hd us) w

def bodkinref01_number.sc : SC := (.seq (.reg (.op 0 .done)) (.seq (.reg (.op 0 (.op 1 (.op 2 (.op 3 .done))))) (.join [3] [8, 9, 13, 12, 14, 2, 16, 15, 17, 18, 20, 19, 21, 22, 10, 11] (.seq (.reg (.op 0 (.op 1 .done))) (.sub (.seq (.reg (.op 0 (.op 1 .done))) (.cond (.seq (.reg (.op 0 (.op 1 .done))) .nop) (.seq (.reg (.op 0 (.op 1 .done))) (.cond (.reg (.op 0 (.op 1 (.op 2 .done)))) (.seq (.reg (.op 0 (.op 1 .done))) (.cond (.reg (.op 0 (.op 1 (.op 2 .done)))) (.reg (.op 0 (.op 1 (.op 2 .done)))))))))))) (.seq (.seq (.reg (.op 0 .done)) (.sub (.loop [3, 4] [23, 24, 25, 26, 29, 30, 31, 32, 33, 34, 35, 36, 27, 28] (.seq (.seq (.reg (.op 0 (.op 1 (.op 2 (.op 3 .done))))) (.cond .nop .nop)) (.seq (.sub (.reg (.op 0 (.op 1 (.op 2 (.op 3 (.op 4 (.op 5 (.op 6 (.op 7 (.op 8 .done))))))))))) (.reg (.op 0 (.op 1 (.op 2 .done))))))))) (.seq (.reg (.op 0 (.op 1 .done))) .nop)))))

theorem bodkinref01_number.ok : okC Tryd.f52.ntmps bodkinref01_number.sc (bodyOf Tryd.f52) = true := by kernel_rfl

theorem bodkinref01_number.eq {K : K1} {s0 : Value} {w : World} : bodkinref01_number K s0 w = codeS Tryd.prog bodkinref01_number.sc (bodyOf Tryd.f52) (argsF 0 [s0]) w (retQ Tryd.prog Tryd.f52.results.toList K) := by kernel_rfl

theorem bodkinref01_number.call {K : K1} {s0 : Value} {w : World} (h : bodkinref01_number K s0 w) : sCall Tryd.prog 52 [s0] w K := sCall_code mixed Tryd.func52 (by kernel_rfl) rfl rfl bodkinref01_number.ok bodkinref01_number.eq h

abbrev bodkinref01_number.n : Nat := 52

/-- '(*bodkin rope.Rope).Runes' -/
def rope_Rope_Runes (K : K1) (r0 : Value) (w : World) : Prop :=
  sCall Tryd.prog 74 [r0, (.int .i64 1)] w fun x4 w =>
  K x4 w

def rope_Rope_Runes.sc : SC := (.seq (.reg (.op 0 .done)) (.seq (.reg (.op 0 (.op 1 (.op 2 .done)))) .nop))

theorem rope_Rope_Runes.ok : okC Tryd.f53.ntmps rope_Rope_Runes.sc (bodyOf Tryd.f53) = true := by kernel_rfl

theorem rope_Rope_Runes.eq {K : K1} {r0 : Value} {w : World} : rope_Rope_Runes K r0 w = codeS Tryd.prog rope_Rope_Runes.sc (bodyOf Tryd.f53) (argsF 0 [r0]) w (retQ Tryd.prog Tryd.f53.results.toList K) := by kernel_rfl

theorem rope_Rope_Runes.call {K : K1} {r0 : Value} {w : World} (h : rope_Rope_Runes K r0 w) : sCall Tryd.prog 53 [r0] w K := sCall_code mixed Tryd.func53 (by kernel_rfl) rfl rfl rope_Rope_Runes.ok rope_Rope_Runes.eq h

abbrev rope_Rope_Runes.n : Nat := 53

/-- '(*bodkin rope.Rope).find' -/
def rope_Rope_find (K : K1) (r0 dim1 at2 bias3 : Value) (w : World) : Prop :=
  sAlloc Tryd.prog 105 w fun x8 w =>
  sCall Tryd.prog 58 [r0] w fun x16 w =>
  sCall Tryd.prog 75 [x16] w fun x17 w =>
  sCall Tryd.prog 60 [x17, dim1, at2, bias3] w fun x22 w =>
  sBin Tryd.prog .neq 24 false true x22 (.int .i64 0) w fun x24 w =>
  sIf x24 (
    sBuild Tryd.prog 105 [] w fun x25 w =>
    sStore Tryd.prog 105 x8 x25 w fun w =>
    sLoad Tryd.prog 105 x8 w fun v w' => w' = w ∧ K (.tuple #[v, (.pointer none), x22]) w) (
    sCall Tryd.prog 64 [x17] w fun x29 w =>
    sExtract x29 0 w fun x30 w =>
    sExtract x29 1 w fun x31 w =>
    sAlloc Tryd.prog 93 w fun i13 w =>
    sStore Tryd.prog 93 i13 x30 w fun w =>
    DrawS w fun C w =>
    stillS C w (fun w k => sLoad Tryd.prog 93 i13 w k) fun x34 =>
    sCall Tryd.prog 55 [x17] w fun x33 w => C w ∧
    stillS C w (fun w k => sBuild Tryd.prog 105 [(0, x33), (1, x34)] w k) fun x35 =>
    sStore Tryd.prog 105 x8 x35 w fun w => C w ∧
    sLoad Tryd.prog 105 x8 w fun v w' => w' = w ∧ K (.tuple #[v, x17, (.int .i64 0)]) w)

def rope_Rope_find.sc : SC := (.seq (.reg (.op 0 (.op 1 (.op 2 .done)))) (.seq (.reg (.op 0 (.op 1 (.op 2 (.op 3 .done))))) (.seq (.seq (.reg (.op 0 (.op 1 (.op 2 (.op 3 (.op 4 (.op 5 .done))))))) (.seq (.reg (.op 0 (.op 1 .done))) (.cond (.seq (.reg (.op 0 (.op 1 (.op 2 (.op 3 (.op 4 .done)))))) .nop) .nop))) (.seq (.reg (.op 0 (.op 1 (.op 2 (.op 3 (.op 4 (.op 5 (.op 6 (.op 7 .done))))))))) (.seq (.draw (.op 0 (.op 2 (.op 4 (.op 1 (.op 3 (.op 5 (.op 6 (.op 7 .done))))))))) .nop)))))

theorem rope_Rope_find.ok : okC Tryd.f54.ntmps rope_Rope_find.sc (bodyOf Tryd.f54) = true := by kernel_rfl

theorem rope_Rope_find.eq {K : K1} {r0 dim1 at2 bias3 : Value} {w : World} : rope_Rope_find K r0 dim1 at2 bias3 w = codeS Tryd.prog rope_Rope_find.sc (bodyOf Tryd.f54) (argsF 0 [r0, dim1, at2, bias3]) w (retQ Tryd.prog Tryd.f54.results.toList K) := by kernel_rfl

theorem rope_Rope_find.call {K : K1} {r0 dim1 at2 bias3 : Value} {w : World} (h : rope_Rope_find K r0 dim1 at2 bias3 w) : sCall Tryd.prog 54 [r0, dim1, at2, bias3] w K := sCall_code mixed Tryd.func54 (by kernel_rfl) rfl rfl rope_Rope_find.ok rope_Rope_find.eq h

abbrev rope_Rope_find.n : Nat := 54

/-- '(*bodkin seek.Cursor).Start' -/
def seek_Cursor_Start (K : K1) (c0 : Value) (w : World) : Prop :=
  sAlloc Tryd.prog 103 w fun x2 w =>
  sBin Tryd.prog .eql 106 false true c0 (.pointer none) w fun x4 w =>
  sIf x4 (
    sBuild Tryd.prog 103 [] w fun x5 w =>
    sStore Tryd.prog 103 x2 x5 w fun w =>
    sLoad Tryd.prog 103 x2 w fun v w' => w' = w ∧ K v w) (
    sNil c0 w fun x7 w =>
    sFldA Tryd.prog 140 x7 1 w fun x8 w =>
    sFldA Tryd.prog 138 x8 1 w fun x9 w =>
    sLoad Tryd.prog 103 x9 w fun x10 w =>
    sStore Tryd.prog 103 x2 x10 w fun w =>
    sLoad Tryd.prog 103 x2 w fun v w' => w' = w ∧ K v w)

def seek_Cursor_Start.sc : SC := (.seq (.reg (.op 0 .done)) (.seq (.seq (.reg (.op 0 (.op 1 .done))) (.cond (.seq (.reg (.op 0 (.op 1 .done))) .nop) .nop)) (.seq (.reg (.op 0 (.op 1 (.op 2 (.op 3 (.op 4 (.op 5 .done))))))) .nop)))

theorem seek_Cursor_Start.ok : okC Tryd.f55.ntmps seek_Cursor_Start.sc (bodyOf Tryd.f55) = true := by kernel_rfl

theorem seek_Cursor_Start.eq {K : K1} {c0 : Value} {w : World} : seek_Cursor_Start K c0 w = codeS Tryd.prog seek_Cursor_Start.sc (bodyOf Tryd.f55) (argsF 0 [c0]) w (retQ Tryd.prog Tryd.f55.results.toList K) := by kernel_rfl

theorem seek_Cursor_Start.call {K : K1} {c0 : Value} {w : World} (h : seek_Cursor_Start K c0 w) : sCall Tryd.prog 55 [c0] w K := sCall_code mixed Tryd.func55 (by kernel_rfl) rfl rfl seek_Cursor_Start.ok seek_Cursor_Start.eq h

abbrev seek_Cursor_Start.n : Nat := 55

/-- '(*bodkin seek.Cursor).End' -/
def seek_Cursor_End (K : K1) (c0 : Value) (w : World) : Prop :=
  sAlloc Tryd.prog 103 w fun x2 w =>
  sCall Tryd.prog 64 [c0] w fun x7 w =>
  sExtract x7 0 w fun x8 w =>
  sExtract x7 1 w fun x9 w =>
  sAlloc Tryd.prog 93 w fun i3 w =>
  sStore Tryd.prog 93 i3 x8 w fun w =>
  sUn Tryd.prog .not x9 w fun x11 w =>
  sIf x11 (
    sCall Tryd.prog 55 [c0] w fun x13 w =>
    sStore Tryd.prog 103 x2 x13 w fun w =>
    sLoad Tryd.prog 103 x2 w fun v w' => w' = w ∧ K v w) (
    DrawS w fun C w =>
    stillS C w (fun w k => sLoad Tryd.prog 93 i3 w k) fun x16 =>
    sCall Tryd.prog 55 [c0] w fun x15 w => C w ∧
    sCall Tryd.prog 77 [x16] w fun x17 w =>
    sCall Tryd.prog 76 [x15, x17] w fun x18 w =>
    sStore Tryd.prog 103 x2 x18 w fun w =>
    sLoad Tryd.prog 103 x2 w fun v w' => w' = w ∧ K v w)

def seek_Cursor_End.sc : SC := (.seq (.reg (.op 0 .done)) (.seq (.reg (.op 0 (.op 1 (.op 2 (.op 3 (.op 4 (.op 5 (.op 6 (.op 7 .done))))))))) (.seq (.seq (.reg (.op 0 (.op 1 .done))) (.cond (.seq (.reg (.op 0 (.op 1 (.op 2 .done)))) .nop) .nop)) (.seq (.draw (.op 0 (.op 2 (.op 1 (.fin 3 (.fin 4 (.fin 5 .done))))))) .nop))))

theorem seek_Cursor_End.ok : okC Tryd.f56.ntmps seek_Cursor_End.sc (bodyOf Tryd.f56) = true := by kernel_rfl

theorem seek_Cursor_End.eq {K : K1} {c0 : Value} {w : World} : seek_Cursor_End K c0 w = codeS Tryd.prog seek_Cursor_End.sc (bodyOf Tryd.f56) (argsF 0 [c0]) w (retQ Tryd.prog Tryd.f56.results.toList K) := by kernel_rfl

theorem seek_Cursor_End.call {K : K1} {c0 : Value} {w : World} (h : seek_Cursor_End K c0 w) : sCall Tryd.prog 56 [c0] w K := sCall_code mixed Tryd.func56 (by kernel_rfl) rfl rfl seek_Cursor_End.ok seek_Cursor_End.eq h

abbrev seek_Cursor_End.n : Nat := 56

/-- '(*bodkin seek.Cursor).Next' -/
def seek_Cursor_Next (K : K1) (c0 : Value) (w : World) : Prop :=
  sCall Tryd.prog 64 [c0] w fun x7 w =>
  sExtract x7 0 w fun x8 w =>
  sExtract x7 1 w fun x9 w =>
  sAlloc Tryd.prog 93 w fun x3 w =>
  sStore Tryd.prog 93 x3 x8 w fun w =>
  sUn Tryd.prog .not x9 w fun x11 w =>
  sIf x11 (
    K (.bool false) w) (
    sCall Tryd.prog 56 [c0] w fun x14 w =>
    sNil c0 w fun x15 w =>
    sFldA Tryd.prog 140 x15 1 w fun x16 w =>
    sFldA Tryd.prog 138 x16 1 w fun x17 w =>
    sStore Tryd.prog 103 x17 x14 w fun w =>
    sNil c0 w fun x19 w =>
    sFldA Tryd.prog 140 x19 1 w fun x20 w =>
    sFldA Tryd.prog 138 x20 0 w fun x21 w =>
    sLoad Tryd.prog 3 x21 w fun x22 w =>
    sBin Tryd.prog .add 3 false true x22 (.int .i64 1) w fun x23 w =>
    sNil c0 w fun x24 w =>
    sFldA Tryd.prog 140 x24 1 w fun x25 w =>
    sFldA Tryd.prog 138 x25 0 w fun x26 w =>
    sStore Tryd.prog 3 x26 x23 w fun w =>
    K (.bool true) w)

def seek_Cursor_Next.sc : SC := (.seq (.reg (.op 0 .done)) (.seq (.seq (.reg (.op 0 (.op 1 (.op 2 (.op 3 (.op 4 (.op 5 (.op 6 (.op 7 .done))))))))) (.seq (.reg (.op 0 (.op 1 .done))) (.cond (.seq (.reg (.op 0 .done)) .nop) .nop))) (.seq (.reg (.op 0 (.op 1 (.op 2 (.op 3 (.op 4 (.op 5 (.op 6 .done)))))))) (.seq (.reg (.op 0 (.op 1 (.op 2 (.op 3 (.op 4 (.op 5 (.op 6 (.op 7 (.op 8 (.op 9 .done))))))))))) (.seq (.reg (.op 0 .done)) .nop)))))

theorem seek_Cursor_Next.ok : okC Tryd.f57.ntmps seek_Cursor_Next.sc (bodyOf Tryd.f57) = true := by kernel_rfl

theorem seek_Cursor_Next.eq {K : K1} {c0 : Value} {w : World} : seek_Cursor_Next K c0 w = codeS Tryd.prog seek_Cursor_Next.sc (bodyOf Tryd.f57) (argsF 0 [c0]) w (retQ Tryd.prog Tryd.f57.results.toList K) := by kernel_rfl

theorem seek_Cursor_Next.call {K : K1} {c0 : Value} {w : World} (h : seek_Cursor_Next K c0 w) : sCall Tryd.prog 57 [c0] w K := sCall_code mixed Tryd.func57 (by kernel_rfl) rfl rfl seek_Cursor_Next.ok seek_Cursor_Next.eq h

abbrev seek_Cursor_Next.n : Nat := 57

/-- '(*bodkin rope.Rope).tree' -/
def rope_Rope_tree (K : K1) (r0 : Value) (w : World) : Prop :=
  sBin Tryd.prog .eql 29 false true r0 (.pointer none) w fun x4 w =>
  sIf x4 (
    K (.pointer none) w) (
    sNil r0 w fun x6 w =>
    sFldA Tryd.prog 63 x6 0 w fun x7 w =>
    sLoad Tryd.prog 57 x7 w fun x8 w =>
    K x8 w)

def rope_Rope_tree.sc : SC := (.seq (.reg (.op 0 .done)) (.seq (.seq (.reg (.op 0 (.op 1 .done))) (.cond (.seq (.reg (.op 0 .done)) .nop) .nop)) (.seq (.reg (.op 0 (.op 1 (.op 2 (.op 3 (.op 4 .done)))))) .nop)))

theorem rope_Rope_tree.ok : okC Tryd.f58.ntmps rope_Rope_tree.sc (bodyOf Tryd.f58) = true := by kernel_rfl

theorem rope_Rope_tree.eq {K : K1} {r0 : Value} {w : World} : rope_Rope_tree K r0 w = codeS Tryd.prog rope_Rope_tree.sc (bodyOf Tryd.f58) (argsF 0 [r0]) w (retQ Tryd.prog Tryd.f58.results.toList K) := by kernel_rfl

theorem rope_Rope_tree.call {K : K1} {r0 : Value} {w : World} (h : rope_Rope_tree K r0 w) : sCall Tryd.prog 58 [r0] w K := sCall_code mixed Tryd.func58 (by kernel_rfl) rfl rfl rope_Rope_tree.ok rope_Rope_tree.eq h

abbrev rope_Rope_tree.n : Nat := 58

/-- '(*bodkin tree.Tree).Sum' -/
def tree_Tree_Sum (K : K1) (t0 : Value) (w : World) : Prop :=
  sAlloc Tryd.prog 103 w fun x2 w =>
  sCall Tryd.prog 79 [t0] w fun x4 w =>
  sCall Tryd.prog 78 [x4] w fun x5 w =>
  sStore Tryd.prog 103 x2 x5 w fun w =>
  sLoad Tryd.prog 103 x2 w fun v w' => w' = w ∧ K v w

def tree_Tree_Sum.sc : SC := (.seq (.reg (.op 0 .done)) (.seq (.reg (.op 0 (.op 1 (.op 2 (.op 3 .done))))) .nop))

theorem tree_Tree_Sum.ok : okC Tryd.f59.ntmps tree_Tree_Sum.sc (bodyOf Tryd.f59) = true := by kernel_rfl

theorem tree_Tree_Sum.eq {K : K1} {t0 : Value} {w : World} : tree_Tree_Sum K t0 w = codeS Tryd.prog tree_Tree_Sum.sc (bodyOf Tryd.f59) (argsF 0 [t0]) w (retQ Tryd.prog Tryd.f59.results.toList K) := by kernel_rfl

theorem tree_Tree_Sum.call {K : K1} {t0 : Value} {w : World} (h : tree_Tree_Sum K t0 w) : sCall Tryd.prog 59 [t0] w K := sCall_code mixed Tryd.func59 (by kernel_rfl) rfl rfl tree_Tree_Sum.ok tree_Tree_Sum.eq h

abbrev tree_Tree_Sum.n : Nat := 59

/-- '(*bodkin seek.Cursor).To' -/
def seek_Cursor_To (K : K1) (c0 dim1 v2 bias3 : Value) (w : World) : Prop :=
  sBin Tryd.prog .eql 106 false true c0 (.pointer none) w fun x12 w =>
  sIf x12 (
    K (.int .i64 7) w) (
    sNil c0 w fun x15 w =>
    sFldA Tryd.prog 140 x15 0 w fun x16 w =>
    sLoad Tryd.prog 57 x16 w fun x17 w =>
    sCall Tryd.prog 80 [x17, dim1, v2, bias3] w fun x21 w =>
    sExtract x21 0 w fun x22 w =>
    sExtract x21 1 w fun x23 w =>
    sAlloc Tryd.prog 138 w fun p9 w =>
    sStore Tryd.prog 138 p9 x22 w fun w =>
    sBin Tryd.prog .eql 24 false true x23 (.int .i64 0) w fun x25 w =>
    sIf x25 (
      sLoad Tryd.prog 138 p9 w fun x27 w =>
      sNil c0 w fun x28 w =>
      sFldA Tryd.prog 140 x28 1 w fun x29 w =>
      sStore Tryd.prog 138 x29 x27 w fun w =>
      K x23 w) (
      K x23 w))

def seek_Cursor_To.sc : SC := (.seq (.reg (.op 0 .done)) (.seq (.seq (.reg (.op 0 (.op 1 .done))) (.cond (.seq (.reg (.op 0 .done)) .nop) .nop)) (.seq (.reg (.op 0 (.op 1 (.op 2 (.op 3 (.op 4 (.op 5 (.op 6 (.op 7 (.op 8 (.op 9 (.op 10 (.op 11 (.op 12 (.op 13 .done))))))))))))))) (.seq (.seq (.reg (.op 0 (.op 1 .done))) (.cond (.reg (.op 0 (.op 1 (.op 2 (.op 3 (.op 4 .done)))))) .nop)) (.seq (.reg (.op 0 (.op 1 .done))) .nop)))))

theorem seek_Cursor_To.ok : okC Tryd.f60.ntmps seek_Cursor_To.sc (bodyOf Tryd.f60) = true := by kernel_rfl

theorem seek_Cursor_To.eq {K : K1} {c0 dim1 v2 bias3 : Value} {w : World} : seek_Cursor_To K c0 dim1 v2 bias3 w = codeS Tryd.prog seek_Cursor_To.sc (bodyOf Tryd.f60) (argsF 0 [c0, dim1, v2, bias3]) w (retQ Tryd.prog Tryd.f60.results.toList K) := by kernel_rfl

theorem seek_Cursor_To.call {K : K1} {c0 dim1 v2 bias3 : Value} {w : World} (h : seek_Cursor_To K c0 dim1 v2 bias3 w) : sCall Tryd.prog 60 [c0, dim1, v2, bias3] w K := sCall_code mixed Tryd.func60 (by kernel_rfl) rfl rfl seek_Cursor_To.ok seek_Cursor_To.eq h

abbrev seek_Cursor_To.n : Nat := 60

/-- '(*bodkin tree.Tree).Replace' -/
def tree_Tree_Replace (K : K1) (t0 from1 to2 l3 : Value) (w : World) : Prop :=
  sCall Tryd.prog 59 [t0] w fun x18 w =>
  sFld Tryd.prog 103 x18 0 w fun x19 w =>
  sBin Tryd.prog .lss 3 false true from1 (.int .i64 0) w fun x21 w =>
  sIf x21 (
    K (.tuple #[(.pointer none), (.int .i64 1)]) w) (
    sBin Tryd.prog .lss 3 false false to2 from1 w fun x25 w =>
    sIf x25 (
      K (.tuple #[(.pointer none), (.int .i64 1)]) w) (
      sBin Tryd.prog .gtr 3 false false to2 x19 w fun x30 w =>
      sIf x30 (
        K (.tuple #[(.pointer none), (.int .i64 1)]) w) (
        sCall Tryd.prog 30 [l3] w fun x34 w =>
        sExtract x34 0 w fun x35 w =>
        sExtract x34 1 w fun x36 w =>
        sBin Tryd.prog .neq 24 false true x36 (.int .i64 0) w fun x39 w =>
        sIf x39 (
          K (.tuple #[(.pointer none), x36]) w) (
          sBin Tryd.prog .sub 3 false false to2 from1 w fun x45 w =>
          sBin Tryd.prog .sub 3 false false x19 x45 w fun x46 w =>
          sBuiltin Tryd.prog .len [60] 3 [l3] w fun x48 w =>
          sBin Tryd.prog .add 3 false false x46 x48 w fun x49 w =>
          sBin Tryd.prog .gtr 3 false true x49 (.int .i64 30000) w fun x50 w =>
          sIf x50 (
            K (.tuple #[(.pointer none), (.int .i64 5)]) w) (
            sCall Tryd.prog 79 [t0] w fun x53 w =>
            sCall Tryd.prog 81 [x53, from1] w fun x55 w =>
            sExtract x55 0 w fun x56 w =>
            sExtract x55 1 w fun x57 w =>
            sBin Tryd.prog .sub 3 false false to2 from1 w fun x62 w =>
            sCall Tryd.prog 81 [x57, x62] w fun x63 w =>
            sExtract x63 0 w fun x64 w =>
            sExtract x63 1 w fun x65 w =>
            sNil x35 w fun x68 w =>
            sFldA Tryd.prog 99 x68 0 w fun x69 w =>
            sLoad Tryd.prog 90 x69 w fun x70 w =>
            sCall Tryd.prog 49 [x56, x70] w fun x71 w =>
            sCall Tryd.prog 49 [x71, x65] w fun x73 w =>
            sBuild Tryd.prog 99 [(0, x73)] w fun x74 w =>
            sBox Tryd.prog 99 x74 w fun x75 w =>
            K (.tuple #[x75, (.int .i64 0)]) w)))))

def tree_Tree_Replace.sc : SC := (.seq (.reg (.op 0 (.op 1 .done))) (.seq (.reg (.op 0 (.op 1 (.op 2 (.op 3 .done))))) (.seq (.seq (.reg (.op 0 (.op 1 (.op 2 (.test 2 (.skip 3 (.skip 4 (.skip 5 (.op 6 (.op 7 (.know 7 true (.skip 8 (.skip 9 (.skip 10 (.op 11 .done)))))))))) (.op 3 (.op 4 (.op 5 (.op 6 (.op 7 (.test 7 (.skip 8 (.skip 9 (.skip 10 (.op 11 .done)))) (.op 8 (.op 9 (.op 10 (.op 11 .done))))))))))))))) (.cond (.seq (.reg (.op 0 (.op 1 .done))) .nop) .nop)) (.seq (.reg (.op 0 (.op 1 (.op 2 (.op 3 (.op 4 (.op 5 (.op 6 .done)))))))) (.seq (.sub (.seq (.reg (.op 0 (.op 1 (.op 2 .done)))) (.cond (.seq (.reg (.op 0 (.op 1 (.op 2 .done)))) .nop) (.seq (.reg (.op 0 (.op 1 (.op 2 (.op 3 (.op 4 (.op 5 (.op 6 (.op 7 (.op 8 (.op 9 .done))))))))))) (.cond (.seq (.reg (.op 0 (.op 1 .done))) .nop) .nop))))) (.seq (.reg (.op 0 (.op 1 (.op 2 (.op 3 (.op 4 (.op 5 (.op 6 (.op 7 (.op 8 .done)))))))))) (.seq (.reg (.op 0 (.op 1 (.op 2 (.op 3 (.op 4 (.op 5 (.op 6 (.op 7 (.op 8 (.op 9 .done))))))))))) (.seq (.reg (.op 0 (.op 1 (.op 2 (.op 3 (.op 4 (.op 5 (.op 6 (.op 7 (.op 8 (.op 9 (.op 10 (.op 11 .done))))))))))))) .nop))))))))

theorem tree_Tree_Replace.ok : okC Tryd.f61.ntmps tree_Tree_Replace.sc (bodyOf Tryd.f61) = true := by kernel_rfl

theorem tree_Tree_Replace.eq {K : K1} {t0 from1 to2 l3 : Value} {w : World} : tree_Tree_Replace K t0 from1 to2 l3 w = codeS Tryd.prog tree_Tree_Replace.sc (bodyOf Tryd.f61) (argsF 0 [t0, from1, to2, l3]) w (retQ Tryd.prog Tryd.f61.results.toList K) := by kernel_rfl

theorem tree_Tree_Replace.call {K : K1} {t0 from1 to2 l3 : Value} {w : World} (h : tree_Tree_Replace K t0 from1 to2 l3 w) : sCall Tryd.prog 61 [t0, from1, to2, l3] w K := sCall_code mixed Tryd.func61 (by kernel_rfl) rfl rfl tree_Tree_Replace.ok tree_Tree_Replace.eq h

abbrev tree_Tree_Replace.n : Nat := 61

/-- '(*bodkin rope.Rope).ByteAt' -/
def rope_Rope_ByteAt (K : K1) (r0 at1 : Value) (w : World) : Prop :=
  sCall Tryd.prog 82 [r0, at1] w fun x11 w =>
  sExtract x11 0 w fun x12 w =>
  sExtract x11 1 w fun x13 w =>
  sAlloc Tryd.prog 105 w fun s6 w =>
  sStore Tryd.prog 105 s6 x12 w fun w =>
  sBin Tryd.prog .neq 24 false true x13 (.int .i64 0) w fun x15 w =>
  sIf x15 (
    K (.tuple #[(.int .i64 0), x13]) w) (
    sFldA Tryd.prog 105 s6 0 w fun x17 w =>
    sFldA Tryd.prog 103 x17 1 w fun x18 w =>
    sIdxA Tryd.prog 91 x18 (.int .i64 0) w fun x19 w =>
    sLoad Tryd.prog 3 x19 w fun x20 w =>
    sFldA Tryd.prog 105 s6 2 w fun x21 w =>
    sLoad Tryd.prog 3 x21 w fun x22 w =>
    sBin Tryd.prog .add 3 false false x20 x22 w fun x23 w =>
    K (.tuple #[x23, (.int .i64 0)]) w)

def rope_Rope_ByteAt.sc : SC := (.seq (.reg (.op 0 (.op 1 .done))) (.seq (.reg (.op 0 (.op 1 (.op 2 (.op 3 (.op 4 (.op 5 (.op 6 (.op 7 (.op 8 .done)))))))))) (.seq (.seq (.reg (.op 0 (.op 1 .done))) (.cond (.seq (.reg (.op 0 (.op 1 (.op 2 .done)))) .nop) .nop)) (.seq (.reg (.op 0 (.op 1 (.op 2 (.op 3 (.op 4 (.op 5 (.op 6 (.op 7 (.op 8 .done)))))))))) .nop))))

theorem rope_Rope_ByteAt.ok : okC Tryd.f62.ntmps rope_Rope_ByteAt.sc (bodyOf Tryd.f62) = true := by kernel_rfl

theorem rope_Rope_ByteAt.eq {K : K1} {r0 at1 : Value} {w : World} : rope_Rope_ByteAt K r0 at1 w = codeS Tryd.prog rope_Rope_ByteAt.sc (bodyOf Tryd.f62) (argsF 0 [r0, at1]) w (retQ Tryd.prog Tryd.f62.results.toList K) := by kernel_rfl

theorem rope_Rope_ByteAt.call {K : K1} {r0 at1 : Value} {w : World} (h : rope_Rope_ByteAt K r0 at1 w) : sCall Tryd.prog 62 [r0, at1] w K := sCall_code mixed Tryd.func62 (by kernel_rfl) rfl rfl rope_Rope_ByteAt.ok rope_Rope_ByteAt.eq h

abbrev rope_Rope_ByteAt.n : Nat := 62

/-- '(*bodkin seek.Cursor).Item' -/
def seek_Cursor_Item_J1 (K : K1) (x2 : Value) (i4_2 e5 : Value) (w : World) : Prop :=
  sLoad Tryd.prog 93 i4_2 w fun x22 w =>
  sBin Tryd.prog .eql 24 false true e5 (.int .i64 0) w fun x24 w =>
  sStore Tryd.prog 93 x2 x22 w fun w =>
  sLoad Tryd.prog 93 x2 w fun v w' => w' = w ∧ K (.tuple #[v, x24]) w

def seek_Cursor_Item (K : K1) (c0 : Value) (w : World) : Prop :=
  sAlloc Tryd.prog 93 w fun x2 w =>
  sBin Tryd.prog .eql 106 false true c0 (.pointer none) w fun x7 w =>
  sIf x7 (
    sBuild Tryd.prog 93 [] w fun x8 w =>
    sStore Tryd.prog 93 x2 x8 w fun w =>
    sLoad Tryd.prog 93 x2 w fun v w' => w' = w ∧ K (.tuple #[v, (.bool false)]) w) (
    JoinS 2 13 (fun M1 =>
      DrawS w fun C w =>
      sNil c0 w fun x11 w =>
      stillS C w (fun w k => sFldA Tryd.prog 140 x11 0 w k) fun x12 =>
      stillS C w (fun w k => sLoad Tryd.prog 57 x12 w k) fun x13 =>
      sNil c0 w fun x15 w =>
      stillS C w (fun w k => sFldA Tryd.prog 140 x15 1 w k) fun x16 =>
      stillS C w (fun w k => sFldA Tryd.prog 138 x16 0 w k) fun x17 =>
      stillS C w (fun w k => sLoad Tryd.prog 3 x17 w k) fun x18 =>
      (
        sCall Tryd.prog 83 [x13, x18] w fun x19 w => C w ∧
        sExtract x19 0 w fun x20 w =>
        sExtract x19 1 w fun x21 w =>
        sAlloc Tryd.prog 93 w fun i4 w => C w ∧
        sStore Tryd.prog 93 i4 x20 w fun w => C w ∧
        M1 [i4, x21] w) ∧ (
        sAlloc Tryd.prog 93 w fun i4_1 w => C w ∧
        sCall Tryd.prog 83 [x13, x18] w fun x19_1 w => C w ∧
        sExtract x19_1 0 w fun x20_1 w =>
        sExtract x19_1 1 w fun x21_1 w =>
        sStore Tryd.prog 93 i4_1 x20_1 w fun w => C w ∧
        M1 [i4_1, x21_1] w)) fun us _ w =>
      seek_Cursor_Item_J1 K x2 (hd us) (hd (tl us)) w)

def seek_Cursor_Item.sc : SC := (.seq (.reg (.op 0 (.op 1 .done))) (.seq (.seq (.reg (.op 0 (.op 1 .done))) (.cond (.seq (.reg (.op 0 (.op 1 (.op 2 .done)))) .nop) .nop)) (.join [4, 5] [10, 11, 12, 13, 14, 15, 16, 17, 18, 19, 9, 20, 21] (.draw (.op 0 (.op 1 (.op 2 (.op 3 (.op 4 (.op 5 (.op 6 (.op 7 (.op 8 (.alt 9 (.op 10 (.op 11 (.op 12 (.op 13 (.op 14 (.op 15 .done)))))) 13 (.op 9 (.op 10 (.op 11 (.op 12 (.op 14 (.op 15 .done))))))))))))))))) (.seq (.reg (.op 0 (.op 1 (.op 2 (.op 3 (.op 4 .done)))))) .nop))))

theorem seek_Cursor_Item.ok : okC Tryd.f64.ntmps seek_Cursor_Item.sc (bodyOf Tryd.f64) = true := by kernel_rfl

theorem seek_Cursor_Item.eq {K : K1} {c0 : Value} {w : World} : seek_Cursor_Item K c0 w = codeS Tryd.prog seek_Cursor_Item.sc (bodyOf Tryd.f64) (argsF 0 [c0]) w (retQ Tryd.prog Tryd.f64.results.toList K) := by kernel_rfl

theorem seek_Cursor_Item.call {K : K1} {c0 : Value} {w : World} (h : seek_Cursor_Item K c0 w) : sCall Tryd.prog 64 [c0] w K := sCall_code mixed Tryd.func64 (by kernel_rfl) rfl rfl seek_Cursor_Item.ok seek_Cursor_Item.eq h

abbrev seek_Cursor_Item.n : Nat := 64

/-- '(*strings.Builder).WriteString' -/
def strings_Builder_WriteString (K : K1) (b0 s1 : Value) (w : World) : Prop :=
  sCall Tryd.prog 84 [b0] w fun x7 w =>
  sNil b0 w fun x10 w =>
  sFldA Tryd.prog 118 x10 1 w fun x11 w =>
  sLoad Tryd.prog 116 x11 w fun x12 w =>
  sBuiltin Tryd.prog .append [116, 9] 116 [x12, s1] w fun x14 w =>
  sNil b0 w fun x15 w =>
  sFldA Tryd.prog 118 x15 1 w fun x16 w =>
  sStore Tryd.prog 116 x16 x14 w fun w =>
  sBuiltin Tryd.prog .len [9] 3 [s1] w fun x18 w =>
  K (.tuple #[x18, .nilIface]) w

def strings_Builder_WriteString.sc : SC := (.seq (.reg (.op 0 (.op 1 .done))) (.seq (.reg (.op 0 (.op 1 .done))) (.seq (.reg (.op 0 (.op 1 (.op 2 (.op 3 (.op 4 (.op 5 (.op 6 (.op 7 (.op 8 (.op 9 .done))))))))))) (.seq (.reg (.op 0 (.op 1 (.op 2 (.op 3 .done))))) .nop))))

theorem strings_Builder_WriteString.ok : okC Tryd.f65.ntmps strings_Builder_WriteString.sc (bodyOf Tryd.f65) = true := by kernel_rfl

theorem strings_Builder_WriteString.eq {K : K1} {b0 s1 : Value} {w : World} : strings_Builder_WriteString K b0 s1 w = codeS Tryd.prog strings_Builder_WriteString.sc (bodyOf Tryd.f65) (argsF 0 [b0, s1]) w (retQ Tryd.prog Tryd.f65.results.toList K) := by kernel_rfl

theorem strings_Builder_WriteString.call {K : K1} {b0 s1 : Value} {w : World} (h : strings_Builder_WriteString K b0 s1 w) : sCall Tryd.prog 65 [b0, s1] w K := sCall_code mixed Tryd.func65 (by kernel_rfl) rfl rfl strings_Builder_WriteString.ok strings_Builder_WriteString.eq h

abbrev strings_Builder_WriteString.n : Nat := 65

/-- 'bodkin utf.Encode' -/
def utf_Encode_J2 (Nx1 : List Value → World → Prop) (out3 x8 : Value) (r5 : Value) (w : World) : Prop :=
  sConv Tryd.prog 21 9 r5 w fun x17 w =>
  sBuiltin Tryd.prog .append [116, 9] 116 [out3, x17] w fun x18 w =>
  sBin Tryd.prog .add 3 false true x8 (.int .i64 1) w fun x19 w =>
  Nx1 [x18, x19] w

def utf_Encode_L1 (K : K1) (Nx1 : List Value → World → Prop) (l0 x7 : Value) (out3 x8 : Value) (w : World) : Prop :=
  sBin Tryd.prog .lss 3 false false x8 x7 w fun x9 w =>
  sIf x9 (
    sIdxA Tryd.prog 32 l0 x8 w fun x10 w =>
    sLoad Tryd.prog 21 x10 w fun x11 w =>
    JoinS 1 3 (fun M2 =>
      sCall Tryd.prog 85 [x11] w fun x13 w =>
      sUn Tryd.prog .not x13 w fun x14 w =>
      sIf x14 (
        M2 [(.int .i32 65533)] w) (
        M2 [x11] w)) fun us _ w =>
      utf_Encode_J2 Nx1 out3 x8 (hd us) w) (
    sConv Tryd.prog 116 9 out3 w fun x21 w =>
    K x21 w)

def utf_Encode (K : K1) (l0 : Value) (w : World) : Prop :=
  sBuiltin Tryd.prog .len [32] 3 [l0] w fun x7 w =>
  LoopS [(.slice none 0 0), (.int .i64 0)] 2 12 w fun us _ w Nx1 =>
    utf_Encode_L1 K Nx1 l0 x7 (hd us) (hd (tl us)) w

def utf_Encode.sc : SC := (.seq (.reg (.op 0 .done)) (.seq (.reg (.op 0 .done)) (.seq (.seq (.reg (.op 0 (.op 1 (.op 2 .done)))) (.sub (.loop [3, 8] [9, 10, 11, 5, 12, 13, 14, 15, 16, 17, 18, 19] (.seq (.reg (.op 0 .done)) (.seq (.cond .nop .nop) (.seq (.sub (.seq (.reg (.op 0 (.op 1 (.op 2 .done)))) (.join [5] [12, 13, 14] (.seq (.reg (.op 0 (.op 1 (.op 2 .done)))) (.cond (.reg (.op 0 .done)) .nop)) (.reg (.op 0 (.op 1 (.op 2 (.op 3 (.op 4 .done))))))))) (.reg (.op 0 (.op 1 .done))))))))) (.seq (.reg (.op 0 (.op 1 (.op 2 .done)))) .nop))))

theorem utf_Encode.ok : okC Tryd.f67.ntmps utf_Encode.sc (bodyOf Tryd.f67) = true := by kernel_rfl

theorem utf_Encode.eq {K : K1} {l0 : Value} {w : World} : utf_Encode K l0 w = codeS Tryd.prog utf_Encode.sc (bodyOf Tryd.f67) (argsF 0 [l0]) w (retQ Tryd.prog Tryd.f67.results.toList K) := by kernel_rfl

theorem utf_Encode.call {K : K1} {l0 : Value} {w : World} (h : utf_Encode K l0 w) : sCall Tryd.prog 67 [l0] w K := sCall_code mixed Tryd.func67 (by kernel_rfl) rfl rfl utf_Encode.ok utf_Encode.eq h

abbrev utf_Encode.n : Nat := 67

/-- '(*bodkin tree.Tree).Items' -/
def tree_Tree_Items (K : K1) (t0 : Value) (w : World) : Prop :=
  sAlloc Tryd.prog 60 w fun out3 w =>
  sCall Tryd.prog 79 [t0] w fun x5 w =>
  sFunc Tryd.prog (.func 88) [] [out3] w fun x6 w =>
  sCall Tryd.prog 87 [x5, x6] w fun x7 w =>
  sLoad Tryd.prog 60 out3 w fun x8 w =>
  K x8 w

def tree_Tree_Items.sc : SC := (.seq (.reg (.op 0 .done)) (.seq (.reg (.op 0 .done)) (.seq (.reg (.op 0 (.op 1 (.op 2 (.op 3 .done))))) (.seq (.reg (.op 0 (.op 1 .done))) .nop))))

theorem tree_Tree_Items.ok : okC Tryd.f69.ntmps tree_Tree_Items.sc (bodyOf Tryd.f69) = true := by kernel_rfl

theorem tree_Tree_Items.eq {K : K1} {t0 : Value} {w : World} : tree_Tree_Items K t0 w = codeS Tryd.prog tree_Tree_Items.sc (bodyOf Tryd.f69) (argsF 0 [t0]) w (retQ Tryd.prog Tryd.f69.results.toList K) := by kernel_rfl

theorem tree_Tree_Items.call {K : K1} {t0 : Value} {w : World} (h : tree_Tree_Items K t0 w) : sCall Tryd.prog 69 [t0] w K := sCall_code mixed Tryd.func69 (by kernel_rfl) rfl rfl tree_Tree_Items.ok tree_Tree_Items.eq h

abbrev tree_Tree_Items.n : Nat := 69

/-- 'bodkin item.within' -/
def item_within (K : K1) (n0 : Value) (w : World) : Prop :=
  sBin Tryd.prog .geq 3 false true n0 (.int .i64 0) w fun x4 w =>
  sIf x4 (
    sBin Tryd.prog .leq 3 false true n0 (.int .i64 1099511627776) w fun x7 w =>
    K x7 w) (
    K (.bool false) w)

def item_within.sc : SC := (.seq (.reg (.op 0 .done)) (.seq (.reg (.op 0 (.op 1 (.op 2 (.test 2 (.op 3 (.op 4 (.op 5 (.op 6 .done)))) (.skip 3 (.skip 4 (.op 5 (.op 6 .done))))))))) .nop))

theorem item_within.ok : okC Tryd.f70.ntmps item_within.sc (bodyOf Tryd.f70) = true := by kernel_rfl

theorem item_within.eq {K : K1} {n0 : Value} {w : World} : item_within K n0 w = codeS Tryd.prog item_within.sc (bodyOf Tryd.f70) (argsF 0 [n0]) w (retQ Tryd.prog Tryd.f70.results.toList K) := by kernel_rfl

theorem item_within.call {K : K1} {n0 : Value} {w : World} (h : item_within K n0 w) : sCall Tryd.prog 70 [n0] w K := sCall_code mixed Tryd.func70 (by kernel_rfl) rfl rfl item_within.ok item_within.eq h

abbrev item_within.n : Nat := 70

/-- 'bodkin tree.meld' -/
def tree_meld (K : K1) (a0 b1 : Value) (w : World) : Prop :=
  sCall Tryd.prog 89 [a0] w fun x15 w =>
  sCall Tryd.prog 89 [b1] w fun x17 w =>
  sBin Tryd.prog .gtr 3 false false x15 x17 w fun x21 w =>
  sIf x21 (
    sAssert Tryd.prog a0 90 130 false w fun x23 w =>
    sNil x23 w fun x25 w =>
    sFldA Tryd.prog 159 x25 0 w fun x26 w =>
    sLoad Tryd.prog 128 x26 w fun x27 w =>
    sBuiltin Tryd.prog .len [128] 3 [x27] w fun x28 w =>
    sBin Tryd.prog .sub 3 false true x28 (.int .i64 1) w fun x29 w =>
    DrawS w fun C w =>
    sNil x23 w fun x31 w =>
    stillS C w (fun w k => sFldA Tryd.prog 159 x31 0 w k) fun x32 =>
    stillS C w (fun w k => sLoad Tryd.prog 128 x32 w k) fun x33 =>
    stillS C w (fun w k => sSlice Tryd.prog 128 x33 none (some x29) none w k) fun x35 =>
    sNil x23 w fun x37 w =>
    stillS C w (fun w k => sFldA Tryd.prog 159 x37 0 w k) fun x38 =>
    stillS C w (fun w k => sLoad Tryd.prog 128 x38 w k) fun x39 =>
    stillS C w (fun w k => sIdxA Tryd.prog 128 x39 x29 w k) fun x41 =>
    stillS C w (fun w k => sLoad Tryd.prog 90 x41 w k) fun x42 =>
    sCall Tryd.prog 71 [x42, b1] w fun x44 w => C w ∧
    sCall Tryd.prog 91 [x35, x44] w fun x45 w => C w ∧
    sCall Tryd.prog 90 [x45] w fun x46 w => C w ∧
    K x46 w) (
    sBin Tryd.prog .lss 3 false false x15 x17 w fun x50 w =>
    sIf x50 (
      sAssert Tryd.prog b1 90 130 false w fun x52 w =>
      DrawS w fun C w =>
      sNil x52 w fun x55 w =>
      stillS C w (fun w k => sFldA Tryd.prog 159 x55 0 w k) fun x56 =>
      stillS C w (fun w k => sLoad Tryd.prog 128 x56 w k) fun x57 =>
      stillS C w (fun w k => sIdxA Tryd.prog 128 x57 (.int .i64 0) w k) fun x58 =>
      stillS C w (fun w k => sLoad Tryd.prog 90 x58 w k) fun x59 =>
      sNil x52 w fun x62 w =>
      stillS C w (fun w k => sFldA Tryd.prog 159 x62 0 w k) fun x63 =>
      stillS C w (fun w k => sLoad Tryd.prog 128 x63 w k) fun x64 =>
      stillS C w (fun w k => sSlice Tryd.prog 128 x64 (some (.int .i64 1)) none none w k) fun x65 =>
      sCall Tryd.prog 71 [a0, x59] w fun x60 w => C w ∧
      sCall Tryd.prog 91 [x60, x65] w fun x66 w => C w ∧
      sCall Tryd.prog 90 [x66] w fun x67 w => C w ∧
      K x67 w) (
      sAssert Tryd.prog a0 90 96 true w fun x70 w =>
      sExtract x70 0 w fun x71 w =>
      sExtract x70 1 w fun x72 w =>
      sIf x72 (
        sAssert Tryd.prog b1 90 96 false w fun x75 w =>
        DrawS w fun C w =>
        sNil x71 w fun x77 w =>
        stillS C w (fun w k => sFldA Tryd.prog 134 x77 0 w k) fun x78 =>
        stillS C w (fun w k => sLoad Tryd.prog 60 x78 w k) fun x79 =>
        stillS C w (fun w k => sBuiltin Tryd.prog .len [60] 3 [x79] w k) fun x80 =>
        sNil x75 w fun x82 w =>
        stillS C w (fun w k => sFldA Tryd.prog 134 x82 0 w k) fun x83 =>
        stillS C w (fun w k => sLoad Tryd.prog 60 x83 w k) fun x84 =>
        stillS C w (fun w k => sBuiltin Tryd.prog .len [60] 3 [x84] w k) fun x85 =>
        stillS C w (fun w k => sBin Tryd.prog .add 3 false false x80 x85 w k) fun x86 =>
        sMake Tryd.prog 60 (.int .i64 0) x86 w fun x87 w => C w ∧
        sNil x71 w fun x90 w =>
        sFldA Tryd.prog 134 x90 0 w fun x91 w =>
        sLoad Tryd.prog 60 x91 w fun x92 w =>
        sBuiltin Tryd.prog .append [60, 60] 60 [x87, x92] w fun x93 w =>
        sNil x75 w fun x96 w =>
        sFldA Tryd.prog 134 x96 0 w fun x97 w =>
        sLoad Tryd.prog 60 x97 w fun x98 w =>
        sBuiltin Tryd.prog .append [60, 60] 60 [x93, x98] w fun x99 w =>
        sCall Tryd.prog 92 [x99] w fun x100 w =>
        K x100 w) (
        DrawS w fun C w =>
        stillS C w (fun w k => sAssert Tryd.prog a0 90 130 false w k) fun x102 =>
        sNil x102 w fun x103 w =>
        stillS C w (fun w k => sFldA Tryd.prog 159 x103 0 w k) fun x104 =>
        stillS C w (fun w k => sLoad Tryd.prog 128 x104 w k) fun x105 =>
        stillS C w (fun w k => sAssert Tryd.prog b1 90 130 false w k) fun x107 =>
        sNil x107 w fun x108 w =>
        stillS C w (fun w k => sFldA Tryd.prog 159 x108 0 w k) fun x109 =>
        stillS C w (fun w k => sLoad Tryd.prog 128 x109 w k) fun x110 =>
        sCall Tryd.prog 91 [x105, x110] w fun x111 w => C w ∧
        sCall Tryd.prog 90 [x111] w fun x112 w => C w ∧
        K x112 w)))

def tree_meld.sc : SC := (.seq (.reg (.op 0 .done)) (.seq (.reg (.op 0 (.op 1 (.op 2 (.op 3 (.op 4 (.op 5 .done))))))) (.seq (.sub (.seq (.reg (.op 0 (.op 1 (.op 2 (.op 3 .done))))) (.cond (.seq (.reg (.op 0 (.op 1 (.op 2 .done)))) (.seq (.reg (.op 0 (.op 1 (.op 2 (.op 3 (.op 4 (.op 5 (.op 6 .done)))))))) (.seq (.draw (.op 0 (.op 1 (.op 2 (.op 3 (.op 4 (.op 5 (.op 6 (.op 7 (.op 8 (.op 9 (.op 10 (.op 11 (.op 12 (.op 13 (.op 14 (.op 15 (.op 16 (.op 17 .done))))))))))))))))))) .nop))) (.seq (.reg (.op 0 (.op 1 (.op 2 (.op 3 .done))))) (.cond (.seq (.reg (.op 0 (.op 1 (.op 2 .done)))) (.seq (.draw (.op 0 (.op 1 (.op 2 (.op 3 (.op 4 (.op 5 (.op 6 (.op 8 (.op 9 (.op 10 (.op 11 (.op 12 (.op 7 (.op 13 (.op 14 (.op 15 .done))))))))))))))))) .nop)) .nop))))) (.seq (.seq (.reg (.op 0 (.op 1 (.op 2 (.op 3 (.op 4 (.op 5 (.op 6 .done)))))))) (.seq (.reg (.op 0 .done)) (.cond (.seq (.reg (.op 0 (.op 1 (.op 2 .done)))) (.seq (.draw (.op 0 (.op 1 (.op 2 (.op 3 (.op 4 (.op 5 (.op 6 (.op 7 (.op 8 (.op 9 (.op 10 (.op 11 (.op 12 .done)))))))))))))) (.seq (.reg (.op 0 (.op 1 (.op 2 (.op 3 (.op 4 (.op 5 (.op 6 .done)))))))) (.seq (.reg (.op 0 (.op 1 (.op 2 (.op 3 (.op 4 (.op 5 (.op 6 (.op 7 .done))))))))) .nop)))) .nop))) (.seq (.draw (.op 0 (.op 1 (.op 2 (.op 3 (.op 4 (.op 5 (.op 6 (.op 7 (.op 8 (.op 9 (.op 10 (.op 11 (.op 12 .done)))))))))))))) .nop)))))

theorem tree_meld.ok : okC Tryd.f71.ntmps tree_meld.sc (bodyOf Tryd.f71) = true := by kernel_rfl

theorem tree_meld.eq {K : K1} {a0 b1 : Value} {w : World} : tree_meld K a0 b1 w = codeS Tryd.prog tree_meld.sc (bodyOf Tryd.f71) (argsF 0 [a0, b1]) w (retQ Tryd.prog Tryd.f71.results.toList K) := by kernel_rfl

theorem tree_meld.call {K : K1} {a0 b1 : Value} {w : World} (h : tree_meld K a0 b1 w) : sCall Tryd.prog 71 [a0, b1] w K := sCall_code mixed Tryd.func71 (by kernel_rfl) rfl rfl tree_meld.ok tree_meld.eq h

abbrev tree_meld.n : Nat := 71

/-- 'bodkin tree.innerOf' -/
def tree_innerOf_L1 (K : K1) (Nx1 : List Value → World → Prop) (kids0 x13 x15 : Value) (x16 : Value) (w : World) : Prop :=
  sBin Tryd.prog .lss 3 false false x16 x15 w fun x17 w =>
  sIf x17 (
    sIdxA Tryd.prog 128 kids0 x16 w fun x18 w =>
    sLoad Tryd.prog 90 x18 w fun x19 w =>
    DrawS w fun C w =>
    sNil x13 w fun x22 w =>
    stillS C w (fun w k => sFldA Tryd.prog 159 x22 2 w k) fun x23 =>
    stillS C w (fun w k => sLoad Tryd.prog 103 x23 w k) fun x24 =>
    sCall Tryd.prog 78 [x19] w fun x26 w => C w ∧
    sCall Tryd.prog 76 [x24, x26] w fun x27 w => C w ∧
    sNil x13 w fun x28 w =>
    stillS C w (fun w k => sFldA Tryd.prog 159 x28 2 w k) fun x29 =>
    sStore Tryd.prog 103 x29 x27 w fun w =>
    sBin Tryd.prog .add 3 false true x16 (.int .i64 1) w fun x30 w =>
    Nx1 [x30] w) (
    K x13 w)

def tree_innerOf (K : K1) (kids0 : Value) (w : World) : Prop :=
  sIdxA Tryd.prog 128 kids0 (.int .i64 0) w fun x8 w =>
  sLoad Tryd.prog 90 x8 w fun x9 w =>
  sCall Tryd.prog 89 [x9] w fun x10 w =>
  sBin Tryd.prog .add 3 false true x10 (.int .i64 1) w fun x11 w =>
  sBuild Tryd.prog 159 [(0, kids0), (1, x11)] w fun x12 w =>
  sBox Tryd.prog 159 x12 w fun x13 w =>
  sBuiltin Tryd.prog .len [128] 3 [kids0] w fun x15 w =>
  LoopS [(.int .i64 0)] 1 15 w fun us _ w Nx1 =>
    tree_innerOf_L1 K Nx1 kids0 x13 x15 (hd us) w

def tree_innerOf.sc : SC := (.seq (.reg (.op 0 .done)) (.seq (.reg (.op 0 (.op 1 (.op 2 (.op 3 (.op 4 (.op 5 (.op 6 (.op 7 (.op 8 .done)))))))))) (.seq (.seq (.reg (.op 0 (.op 1 (.op 2 .done)))) (.sub (.loop [16] [17, 18, 19, 5, 20, 21, 22, 23, 24, 25, 26, 27, 28, 29, 30] (.seq (.reg (.op 0 .done)) (.seq (.cond .nop .nop) (.seq (.sub (.seq (.reg (.op 0 (.op 1 (.op 2 .done)))) (.draw (.op 0 (.op 1 (.op 2 (.op 3 (.op 4 (.op 5 (.op 6 (.op 7 (.op 8 (.op 9 (.fin 10 .done)))))))))))))) (.reg (.op 0 (.op 1 .done))))))))) (.seq (.reg (.op 0 (.op 1 .done))) .nop))))

theorem tree_innerOf.ok : okC Tryd.f72.ntmps tree_innerOf.sc (bodyOf Tryd.f72) = true := by kernel_rfl

theorem tree_innerOf.eq {K : K1} {kids0 : Value} {w : World} : tree_innerOf K kids0 w = codeS Tryd.prog tree_innerOf.sc (bodyOf Tryd.f72) (argsF 0 [kids0]) w (retQ Tryd.prog Tryd.f72.results.toList K) := by kernel_rfl

theorem tree_innerOf.call {K : K1} {kids0 : Value} {w : World} (h : tree_innerOf K kids0 w) : sCall Tryd.prog 72 [kids0] w K := sCall_code mixed Tryd.func72 (by kernel_rfl) rfl rfl tree_innerOf.ok tree_innerOf.eq h

abbrev tree_innerOf.n : Nat := 72

/-- 'bodkin item.All' -/
def item_All_L1 (K : K1) (Nx1 : List Value → World → Prop) (l0 s3 x2 x7 : Value) (x8 : Value) (w : World) : Prop :=
  sBin Tryd.prog .lss 3 false false x8 x7 w fun x9 w =>
  sIf x9 (
    sIdxA Tryd.prog 60 l0 x8 w fun x10 w =>
    sLoad Tryd.prog 93 x10 w fun x11 w =>
    sAlloc Tryd.prog 93 w fun i5 w =>
    sStore Tryd.prog 93 i5 x11 w fun w =>
    DrawS w fun C w =>
    stillS C w (fun w k => sLoad Tryd.prog 103 s3 w k) fun x12 =>
    stillS C w (fun w k => sLoad Tryd.prog 93 i5 w k) fun x13 =>
    sCall Tryd.prog 77 [x13] w fun x14 w => C w ∧
    sCall Tryd.prog 76 [x12, x14] w fun x15 w =>
    sStore Tryd.prog 103 s3 x15 w fun w =>
    sBin Tryd.prog .add 3 false true x8 (.int .i64 1) w fun x16 w =>
    Nx1 [x16] w) (
    sLoad Tryd.prog 103 s3 w fun x17 w =>
    sStore Tryd.prog 103 x2 x17 w fun w =>
    sLoad Tryd.prog 103 x2 w fun v w' => w' = w ∧ K v w)

def item_All (K : K1) (l0 : Value) (w : World) : Prop :=
  sAlloc Tryd.prog 103 w fun x2 w =>
  sAlloc Tryd.prog 103 w fun s3 w =>
  sBuiltin Tryd.prog .len [60] 3 [l0] w fun x7 w =>
  LoopS [(.int .i64 0)] 1 9 w fun us _ w Nx1 =>
    item_All_L1 K Nx1 l0 s3 x2 x7 (hd us) w

def item_All.sc : SC := (.seq (.reg (.op 0 .done)) (.seq (.reg (.op 0 .done)) (.seq (.seq (.reg (.op 0 (.op 1 (.op 2 .done)))) (.sub (.loop [8] [9, 10, 11, 5, 12, 13, 14, 15, 16] (.seq (.reg (.op 0 .done)) (.seq (.cond .nop .nop) (.seq (.sub (.seq (.reg (.op 0 (.op 1 (.op 2 (.op 3 .done))))) (.draw (.op 0 (.op 1 (.op 2 (.fin 3 (.fin 4 .done)))))))) (.reg (.op 0 (.op 1 .done))))))))) (.seq (.reg (.op 0 (.op 1 .done))) .nop))))

theorem item_All.ok : okC Tryd.f73.ntmps item_All.sc (bodyOf Tryd.f73) = true := by kernel_rfl

theorem item_All.eq {K : K1} {l0 : Value} {w : World} : item_All K l0 w = codeS Tryd.prog item_All.sc (bodyOf Tryd.f73) (argsF 0 [l0]) w (retQ Tryd.prog Tryd.f73.results.toList K) := by kernel_rfl

theorem item_All.call {K : K1} {l0 : Value} {w : World} (h : item_All K l0 w) : sCall Tryd.prog 73 [l0] w K := sCall_code mixed Tryd.func73 (by kernel_rfl) rfl rfl item_All.ok item_All.eq h

abbrev item_All.n : Nat := 73

/-- '(*bodkin rope.Rope).size' -/
def rope_Rope_size (K : K1) (r0 dim1 : Value) (w : World) : Prop :=
  sCall Tryd.prog 58 [r0] w fun x6 w =>
  sCall Tryd.prog 59 [x6] w fun x7 w =>
  sFld Tryd.prog 103 x7 1 w fun x8 w =>
  sIdx Tryd.prog 91 x8 dim1 w fun x10 w =>
  K x10 w

def rope_Rope_size.sc : SC := (.seq (.reg (.op 0 .done)) (.seq (.reg (.op 0 (.op 1 (.op 2 (.op 3 (.op 4 (.op 5 (.op 6 .done)))))))) .nop))

theorem rope_Rope_size.ok : okC Tryd.f74.ntmps rope_Rope_size.sc (bodyOf Tryd.f74) = true := by kernel_rfl

theorem rope_Rope_size.eq {K : K1} {r0 dim1 : Value} {w : World} : rope_Rope_size K r0 dim1 w = codeS Tryd.prog rope_Rope_size.sc (bodyOf Tryd.f74) (argsF 0 [r0, dim1]) w (retQ Tryd.prog Tryd.f74.results.toList K) := by kernel_rfl

theorem rope_Rope_size.call {K : K1} {r0 dim1 : Value} {w : World} (h : rope_Rope_size K r0 dim1 w) : sCall Tryd.prog 74 [r0, dim1] w K := sCall_code mixed Tryd.func74 (by kernel_rfl) rfl rfl rope_Rope_size.ok rope_Rope_size.eq h

abbrev rope_Rope_size.n : Nat := 74

/-- 'bodkin seek.New' -/
def seek_New (K : K1) (t0 : Value) (w : World) : Prop :=
  sBuild Tryd.prog 140 [(0, t0)] w fun x4 w =>
  sBox Tryd.prog 140 x4 w fun x5 w =>
  K x5 w

def seek_New.sc : SC := (.seq (.reg (.op 0 .done)) (.seq (.reg (.op 0 (.op 1 (.op 2 (.op 3 .done))))) .nop))

theorem seek_New.ok : okC Tryd.f75.ntmps seek_New.sc (bodyOf Tryd.f75) = true := by kernel_rfl

theorem seek_New.eq {K : K1} {t0 : Value} {w : World} : seek_New K t0 w = codeS Tryd.prog seek_New.sc (bodyOf Tryd.f75) (argsF 0 [t0]) w (retQ Tryd.prog Tryd.f75.results.toList K) := by kernel_rfl

theorem seek_New.call {K : K1} {t0 : Value} {w : World} (h : seek_New K t0 w) : sCall Tryd.prog 75 [t0] w K := sCall_code mixed Tryd.func75 (by kernel_rfl) rfl rfl seek_New.ok seek_New.eq h

abbrev seek_New.n : Nat := 75

/-- 'bodkin item.Add' -/
def item_Add_J2 (K : K1) (a2 b3 s5 x4 : Value) (x47 : Value) (w : World) : Prop :=
  sIf x47 (
    DrawS w fun C w =>
    stillS C w (fun w k => sFldA Tryd.prog 103 b3 2 w k) fun x48 =>
    stillS C w (fun w k => sLoad Tryd.prog 3 x48 w k) fun x49 =>
    stillS C w (fun w k => sFldA Tryd.prog 103 a2 0 w k) fun x50 =>
    stillS C w (fun w k => sLoad Tryd.prog 3 x50 w k) fun x51 =>
    stillS C w (fun w k => sFldA Tryd.prog 103 b3 3 w k) fun x52 =>
    stillS C w (fun w k => sLoad Tryd.prog 3 x52 w k) fun x53 =>
    stillS C w (fun w k => sBin Tryd.prog .add 3 false false x51 x53 w k) fun x54 =>
    stillS C w (fun w k => sFldA Tryd.prog 103 s5 2 w k) fun x55 =>
    sStore Tryd.prog 3 x55 x49 w fun w => C w ∧
    stillS C w (fun w k => sFldA Tryd.prog 103 s5 3 w k) fun x56 =>
    sStore Tryd.prog 3 x56 x54 w fun w =>
    sLoad Tryd.prog 103 s5 w fun x57 w =>
    sStore Tryd.prog 103 x4 x57 w fun w =>
    sLoad Tryd.prog 103 x4 w fun v w' => w' = w ∧ K v w) (
    sLoad Tryd.prog 103 s5 w fun x57_1 w =>
    sStore Tryd.prog 103 x4 x57_1 w fun w =>
    sLoad Tryd.prog 103 x4 w fun v w' => w' = w ∧ K v w)

def item_Add_L1 (K : K1) (Nx1 : List Value → World → Prop) (a2 b3 s5 x4 : Value) (x17 : Value) (w : World) : Prop :=
  sBin Tryd.prog .lss 3 false true x17 (.int .i64 3) w fun x18 w =>
  sIf x18 (
    DrawS w fun C w =>
    stillS C w (fun w k => sFldA Tryd.prog 103 a2 1 w k) fun x22 =>
    stillS C w (fun w k => sIdxA Tryd.prog 91 x22 x17 w k) fun x23 =>
    stillS C w (fun w k => sLoad Tryd.prog 3 x23 w k) fun x24 =>
    stillS C w (fun w k => sFldA Tryd.prog 103 b3 1 w k) fun x26 =>
    stillS C w (fun w k => sIdxA Tryd.prog 91 x26 x17 w k) fun x27 =>
    stillS C w (fun w k => sLoad Tryd.prog 3 x27 w k) fun x28 =>
    stillS C w (fun w k => sBin Tryd.prog .add 3 false false x24 x28 w k) fun x29 =>
    stillS C w (fun w k => sFldA Tryd.prog 103 s5 1 w k) fun x30 =>
    stillS C w (fun w k => sIdxA Tryd.prog 91 x30 x17 w k) fun x31 =>
    sStore Tryd.prog 3 x31 x29 w fun w =>
    sBin Tryd.prog .add 3 false true x17 (.int .i64 1) w fun x32 w =>
    Nx1 [x32] w) (
    JoinS 1 14 (fun M2 =>
      sFldA Tryd.prog 103 b3 0 w fun x33 w =>
      sLoad Tryd.prog 3 x33 w fun x34 w =>
      sBin Tryd.prog .gtr 3 false true x34 (.int .i64 0) w fun x35 w =>
      sIf x35 (
        sFldA Tryd.prog 103 a2 0 w fun x37 w =>
        sLoad Tryd.prog 3 x37 w fun x38 w =>
        sBin Tryd.prog .eql 3 false true x38 (.int .i64 0) w fun x39 w =>
        sIf x39 (
          M2 [(.bool true)] w) (
          sFldA Tryd.prog 103 b3 2 w fun x41 w =>
          sLoad Tryd.prog 3 x41 w fun x42 w =>
          sFldA Tryd.prog 103 a2 2 w fun x43 w =>
          sLoad Tryd.prog 3 x43 w fun x44 w =>
          sBin Tryd.prog .gtr 3 false false x42 x44 w fun x45 w =>
          M2 [x45] w)) (
        M2 [(.bool false)] w)) fun us _ w =>
      item_Add_J2 K a2 b3 s5 x4 (hd us) w)

def item_Add (K : K1) (a0 b1 : Value) (w : World) : Prop :=
  sBox Tryd.prog 103 a0 w fun a2 w =>
  sBox Tryd.prog 103 b1 w fun b3 w =>
  sAlloc Tryd.prog 103 w fun x4 w =>
  sFldA Tryd.prog 103 a2 0 w fun x7 w =>
  sLoad Tryd.prog 3 x7 w fun x8 w =>
  sFldA Tryd.prog 103 b3 0 w fun x9 w =>
  sLoad Tryd.prog 3 x9 w fun x10 w =>
  sBin Tryd.prog .add 3 false false x8 x10 w fun x11 w =>
  sFldA Tryd.prog 103 a2 2 w fun x12 w =>
  sLoad Tryd.prog 3 x12 w fun x13 w =>
  sFldA Tryd.prog 103 a2 3 w fun x14 w =>
  sLoad Tryd.prog 3 x14 w fun x15 w =>
  sBuild Tryd.prog 103 [(0, x11), (2, x13), (3, x15)] w fun x16 w =>
  sAlloc Tryd.prog 103 w fun s5 w =>
  sStore Tryd.prog 103 s5 x16 w fun w =>
  LoopS [(.int .i64 0)] 1 16 w fun us _ w Nx1 =>
    item_Add_L1 K Nx1 a2 b3 s5 x4 (hd us) w

def item_Add.sc : SC := (.seq (.reg (.op 0 (.op 1 (.op 2 .done)))) (.seq (.reg (.op 0 (.op 1 (.op 2 (.op 3 (.op 4 (.op 5 (.op 6 (.op 7 (.op 8 (.op 9 (.op 10 (.op 11 .done))))))))))))) (.seq (.seq (.reg (.op 0 .done)) (.sub (.loop [17] [18, 19, 6, 20, 21, 22, 23, 24, 25, 26, 27, 28, 29, 30, 31, 32] (.seq (.reg (.op 0 .done)) (.seq (.cond .nop .nop) (.seq (.sub (.seq (.reg (.op 0 (.op 1 .done))) (.draw (.op 0 (.op 1 (.op 2 (.op 3 (.op 4 (.op 5 (.op 6 (.op 7 (.op 8 (.op 9 (.op 10 (.op 11 (.fin 12 .done)))))))))))))))) (.reg (.op 0 (.op 1 .done))))))))) (.seq (.join [47] [33, 34, 35, 36, 37, 38, 39, 40, 41, 42, 43, 44, 45, 46] (.reg (.op 0 (.op 1 (.op 2 (.op 3 (.test 3 (.op 4 (.op 5 (.op 6 (.op 7 (.test 7 (.skip 8 (.skip 9 (.skip 10 (.skip 11 (.skip 12 (.op 13 (.op 14 .done))))))) (.op 8 (.op 9 (.op 10 (.op 11 (.op 12 (.op 13 (.op 14 .done)))))))))))) (.skip 4 (.skip 5 (.skip 6 (.skip 7 (.skip 8 (.skip 9 (.skip 10 (.skip 11 (.skip 12 (.skip 13 (.op 14 .done))))))))))))))))) (.cond (.draw (.op 0 (.op 1 (.op 2 (.op 3 (.op 4 (.op 5 (.op 6 (.op 7 (.op 8 (.op 9 (.fin 10 .done)))))))))))) .nop)) (.seq (.reg (.op 0 (.op 1 .done))) .nop)))))

theorem item_Add.ok : okC Tryd.f76.ntmps item_Add.sc (bodyOf Tryd.f76) = true := by kernel_rfl

theorem item_Add.eq {K : K1} {a0 b1 : Value} {w : World} : item_Add K a0 b1 w = codeS Tryd.prog item_Add.sc (bodyOf Tryd.f76) (argsF 0 [a0, b1]) w (retQ Tryd.prog Tryd.f76.results.toList K) := by kernel_rfl

theorem item_Add.call {K : K1} {a0 b1 : Value} {w : World} (h : item_Add K a0 b1 w) : sCall Tryd.prog 76 [a0, b1] w K := sCall_code mixed Tryd.func76 (by kernel_rfl) rfl rfl item_Add.ok item_Add.eq h

abbrev item_Add.n : Nat := 76

/-- 'bodkin item.Of' -/
def item_Of (K : K1) (i0 : Value) (w : World) : Prop :=
  sBox Tryd.prog 93 i0 w fun i1 w =>
  sAlloc Tryd.prog 103 w fun x2 w =>
  sFldA Tryd.prog 93 i1 2 w fun x3 w =>
  sLoad Tryd.prog 91 x3 w fun x4 w =>
  sFldA Tryd.prog 93 i1 3 w fun x5 w =>
  sLoad Tryd.prog 3 x5 w fun x6 w =>
  sBuild Tryd.prog 103 [(0, (.int .i64 1)), (1, x4), (2, x6)] w fun x7 w =>
  sStore Tryd.prog 103 x2 x7 w fun w =>
  sLoad Tryd.prog 103 x2 w fun v w' => w' = w ∧ K v w

def item_Of.sc : SC := (.seq (.reg (.op 0 (.op 1 .done))) (.seq (.reg (.op 0 (.op 1 (.op 2 (.op 3 (.op 4 (.op 5 .done))))))) .nop))

theorem item_Of.ok : okC Tryd.f77.ntmps item_Of.sc (bodyOf Tryd.f77) = true := by kernel_rfl

theorem item_Of.eq {K : K1} {i0 : Value} {w : World} : item_Of K i0 w = codeS Tryd.prog item_Of.sc (bodyOf Tryd.f77) (argsF 0 [i0]) w (retQ Tryd.prog Tryd.f77.results.toList K) := by kernel_rfl

theorem item_Of.call {K : K1} {i0 : Value} {w : World} (h : item_Of K i0 w) : sCall Tryd.prog 77 [i0] w K := sCall_code mixed Tryd.func77 (by kernel_rfl) rfl rfl item_Of.ok item_Of.eq h

abbrev item_Of.n : Nat := 77

/-- 'bodkin tree.sumOf' -/
def tree_sumOf (K : K1) (n0 : Value) (w : World) : Prop :=
  sAlloc Tryd.prog 103 w fun x2 w =>
  sAssert Tryd.prog n0 90 96 true w fun x6 w =>
  sExtract x6 1 w fun x7 w =>
  sExtract x6 0 w fun x8 w =>
  sIf x7 (
    sNil x8 w fun x10 w =>
    sFldA Tryd.prog 134 x10 1 w fun x11 w =>
    sLoad Tryd.prog 103 x11 w fun x12 w =>
    sStore Tryd.prog 103 x2 x12 w fun w =>
    sLoad Tryd.prog 103 x2 w fun v w' => w' = w ∧ K v w) (
    sAssert Tryd.prog n0 90 130 true w fun x13 w =>
    sExtract x13 1 w fun x14 w =>
    sExtract x13 0 w fun x15 w =>
    sIf x14 (
      sNil x15 w fun x17 w =>
      sFldA Tryd.prog 159 x17 2 w fun x18 w =>
      sLoad Tryd.prog 103 x18 w fun x19 w =>
      sStore Tryd.prog 103 x2 x19 w fun w =>
      sLoad Tryd.prog 103 x2 w fun v w' => w' = w ∧ K v w) (
      sBuild Tryd.prog 103 [] w fun x20 w =>
      sStore Tryd.prog 103 x2 x20 w fun w =>
      sLoad Tryd.prog 103 x2 w fun v w' => w' = w ∧ K v w))

def tree_sumOf.sc : SC := (.seq (.reg (.op 0 .done)) (.seq (.seq (.reg (.op 0 .done)) (.sub (.seq (.reg (.op 0 (.op 1 (.op 2 .done)))) (.cond (.seq (.reg (.op 0 .done)) (.seq (.reg (.op 0 (.op 1 (.op 2 (.op 3 (.op 4 .done)))))) .nop)) (.seq (.reg (.op 0 (.op 1 (.op 2 .done)))) (.cond (.seq (.reg (.op 0 .done)) (.seq (.reg (.op 0 (.op 1 (.op 2 (.op 3 (.op 4 .done)))))) .nop)) .nop)))))) (.seq (.reg (.op 0 (.op 1 .done))) .nop)))

theorem tree_sumOf.ok : okC Tryd.f78.ntmps tree_sumOf.sc (bodyOf Tryd.f78) = true := by kernel_rfl

theorem tree_sumOf.eq {K : K1} {n0 : Value} {w : World} : tree_sumOf K n0 w = codeS Tryd.prog tree_sumOf.sc (bodyOf Tryd.f78) (argsF 0 [n0]) w (retQ Tryd.prog Tryd.f78.results.toList K) := by kernel_rfl

theorem tree_sumOf.call {K : K1} {n0 : Value} {w : World} (h : tree_sumOf K n0 w) : sCall Tryd.prog 78 [n0] w K := sCall_code mixed Tryd.func78 (by kernel_rfl) rfl rfl tree_sumOf.ok tree_sumOf.eq h

abbrev tree_sumOf.n : Nat := 78

/-- '(*bodkin tree.Tree).top' -/
def tree_Tree_top (K : K1) (t0 : Value) (w : World) : Prop :=
  sBin Tryd.prog .eql 57 false true t0 (.pointer none) w fun x4 w =>
  sIf x4 (
    K .nilIface w) (
    sNil t0 w fun x6 w =>
    sFldA Tryd.prog 99 x6 0 w fun x7 w =>
    sLoad Tryd.prog 90 x7 w fun x8 w =>
    K x8 w)

def tree_Tree_top.sc : SC := (.seq (.reg (.op 0 .done)) (.seq (.seq (.reg (.op 0 (.op 1 .done))) (.cond (.seq (.reg (.op 0 .done)) .nop) .nop)) (.seq (.reg (.op 0 (.op 1 (.op 2 (.op 3 (.op 4 .done)))))) .nop)))

theorem tree_Tree_top.ok : okC Tryd.f79.ntmps tree_Tree_top.sc (bodyOf Tryd.f79) = true := by kernel_rfl

theorem tree_Tree_top.eq {K : K1} {t0 : Value} {w : World} : tree_Tree_top K t0 w = codeS Tryd.prog tree_Tree_top.sc (bodyOf Tryd.f79) (argsF 0 [t0]) w (retQ Tryd.prog Tryd.f79.results.toList K) := by kernel_rfl

theorem tree_Tree_top.call {K : K1} {t0 : Value} {w : World} (h : tree_Tree_top K t0 w) : sCall Tryd.prog 79 [t0] w K := sCall_code mixed Tryd.func79 (by kernel_rfl) rfl rfl tree_Tree_top.ok tree_Tree_top.eq h

abbrev tree_Tree_top.n : Nat := 79

end S
end Go.Proofs.YtpjmmhbdondknaaDoor

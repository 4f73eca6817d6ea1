/- The functions of this seat, their code without slots, and that a call of each is what its code says: by program (lift.py). No conditions. -/
import Derived.Test.YtjolodlmnffkeaaDoorRs4
import Derived.Test.YtjolodlmnffkeaaDoorRows
import Derived.KernelRfl
namespace Go.Proofs.YtjolodlmnffkeaaDoor
open Go Go.Lift
namespace S
set_option maxRecDepth 10000
set_option linter.unusedVariables false
theorem mixed : Tryd.prog.follows .mixedOrders = true := by kernel_rfl
abbrev T.int64 : Nat := 2
theorem tcell_int64 : cellQ Tryd.prog 2 = true := by kernel_rfl
theorem tsz_int64 : szQ Tryd.prog 2 = 1 := by kernel_rfl
theorem tby_int64 : byQ Tryd.prog 2 = 8 := by kernel_rfl
theorem tze_int64 : zeroQ Tryd.prog 2 = some [(.int .i64 0)] := by kernel_rfl
abbrev T.int : Nat := 3
theorem tcell_int : cellQ Tryd.prog 3 = true := by kernel_rfl
theorem tsz_int : szQ Tryd.prog 3 = 1 := by kernel_rfl
theorem tby_int : byQ Tryd.prog 3 = 8 := by kernel_rfl
theorem tze_int : zeroQ Tryd.prog 3 = some [(.int .i64 0)] := by kernel_rfl
abbrev T.bool : Nat := 4
theorem tcell_bool : cellQ Tryd.prog 4 = true := by kernel_rfl
theorem tsz_bool : szQ Tryd.prog 4 = 1 := by kernel_rfl
theorem tby_bool : byQ Tryd.prog 4 = 1 := by kernel_rfl
theorem tze_bool : zeroQ Tryd.prog 4 = some [(.bool false)] := by kernel_rfl
abbrev T.uint8 : Nat := 5
theorem tcell_uint8 : cellQ Tryd.prog 5 = true := by kernel_rfl
theorem tsz_uint8 : szQ Tryd.prog 5 = 1 := by kernel_rfl
theorem tby_uint8 : byQ Tryd.prog 5 = 1 := by kernel_rfl
theorem tze_uint8 : zeroQ Tryd.prog 5 = some [(.int .u8 0)] := by kernel_rfl
abbrev T.string : Nat := 9
theorem tcell_string : cellQ Tryd.prog 9 = true := by kernel_rfl
theorem tsz_string : szQ Tryd.prog 9 = 1 := by kernel_rfl
theorem tby_string : byQ Tryd.prog 9 = 16 := by kernel_rfl
theorem tze_string : zeroQ Tryd.prog 9 = some [(.string ⟨#[]⟩)] := by kernel_rfl
abbrev T.interface___ : Nat := 20
theorem tcell_interface___ : cellQ Tryd.prog 20 = true := by kernel_rfl
theorem tsz_interface___ : szQ Tryd.prog 20 = 1 := by kernel_rfl
theorem tby_interface___ : byQ Tryd.prog 20 = 16 := by kernel_rfl
theorem tze_interface___ : zeroQ Tryd.prog 20 = some [.nilIface] := by kernel_rfl
theorem tif_interface___ : ifcQ Tryd.prog 20 = true := by kernel_rfl
abbrev T.int32 : Nat := 21
theorem tcell_int32 : cellQ Tryd.prog 21 = true := by kernel_rfl
theorem tsz_int32 : szQ Tryd.prog 21 = 1 := by kernel_rfl
theorem tby_int32 : byQ Tryd.prog 21 = 4 := by kernel_rfl
theorem tze_int32 : zeroQ Tryd.prog 21 = some [(.int .i32 0)] := by kernel_rfl
abbrev T.P_rope_Rope : Nat := 23
theorem tcell_P_rope_Rope : cellQ Tryd.prog 23 = true := by kernel_rfl
theorem tsz_P_rope_Rope : szQ Tryd.prog 23 = 1 := by kernel_rfl
theorem tby_P_rope_Rope : byQ Tryd.prog 23 = 8 := by kernel_rfl
theorem tze_P_rope_Rope : zeroQ Tryd.prog 23 = some [(.pointer none)] := by kernel_rfl
theorem tpt_P_rope_Rope : ptQ Tryd.prog 23 = true := by kernel_rfl
theorem tcq_P_rope_Rope : concQ Tryd.prog 23 = true := by kernel_rfl
abbrev T.api_Errno : Nat := 24
theorem tcell_api_Errno : cellQ Tryd.prog 24 = true := by kernel_rfl
theorem tsz_api_Errno : szQ Tryd.prog 24 = 1 := by kernel_rfl
theorem tby_api_Errno : byQ Tryd.prog 24 = 8 := by kernel_rfl
theorem tze_api_Errno : zeroQ Tryd.prog 24 = some [(.int .i64 0)] := by kernel_rfl
abbrev T.L_int32 : Nat := 27
theorem tcell_L_int32 : cellQ Tryd.prog 27 = true := by kernel_rfl
theorem tsz_L_int32 : szQ Tryd.prog 27 = 1 := by kernel_rfl
theorem tby_L_int32 : byQ Tryd.prog 27 = 24 := by kernel_rfl
theorem tze_L_int32 : zeroQ Tryd.prog 27 = some [(.slice none 0 0)] := by kernel_rfl
theorem tel_L_int32 : elQ Tryd.prog 27 = some 21 := by kernel_rfl
abbrev T.L_bodkinlaw07_Step : Nat := 39
theorem tcell_L_bodkinlaw07_Step : cellQ Tryd.prog 39 = true := by kernel_rfl
theorem tsz_L_bodkinlaw07_Step : szQ Tryd.prog 39 = 1 := by kernel_rfl
theorem tby_L_bodkinlaw07_Step : byQ Tryd.prog 39 = 24 := by kernel_rfl
theorem tze_L_bodkinlaw07_Step : zeroQ Tryd.prog 39 = some [(.slice none 0 0)] := by kernel_rfl
theorem tel_L_bodkinlaw07_Step : elQ Tryd.prog 39 = some 41 := by kernel_rfl
abbrev T.bodkinlaw07_Step : Nat := 41
theorem tagg_bodkinlaw07_Step : aggN Tryd.prog 41 = some 3 := by kernel_rfl
theorem tsz_bodkinlaw07_Step : szQ Tryd.prog 41 = 3 := by kernel_rfl
theorem tby_bodkinlaw07_Step : byQ Tryd.prog 41 = 32 := by kernel_rfl
theorem tze_bodkinlaw07_Step : zeroQ Tryd.prog 41 = some [(.int .i64 0), (.int .i64 0), (.string ⟨#[]⟩)] := by kernel_rfl
theorem tfl_bodkinlaw07_Step_From : flQ Tryd.prog 41 0 = some 0 := by kernel_rfl
theorem tfl_bodkinlaw07_Step_To : flQ Tryd.prog 41 1 = some 1 := by kernel_rfl
theorem tfl_bodkinlaw07_Step_S : flQ Tryd.prog 41 2 = some 2 := by kernel_rfl
theorem tpl_bodkinlaw07_Step : plQ Tryd.prog 41 = some [(0, 1), (1, 1), (2, 1)] := by kernel_rfl
theorem tfd_bodkinlaw07_Step_From : fdT Tryd.prog 41 0 = some (3, 0) := by kernel_rfl
theorem tfd_bodkinlaw07_Step_To : fdT Tryd.prog 41 1 = some (3, 1) := by kernel_rfl
theorem tfd_bodkinlaw07_Step_S : fdT Tryd.prog 41 2 = some (9, 2) := by kernel_rfl
abbrev T.dl_bodkinlaw07_Step : List Nat := [3, 3, 9]
theorem tdq_bodkinlaw07_Step : deepQ Tryd.prog 20 41 = some T.dl_bodkinlaw07_Step := by kernel_rfl
theorem taq_bodkinlaw07_Step : aggQ Tryd.prog 41 = true := by kernel_rfl
theorem tgq_bodkinlaw07_Step : Tryd.prog.eqGuardType Tryd.prog.depth 41 = false := by kernel_rfl
abbrev T.A2_int : Nat := 44
theorem tagg_A2_int : aggN Tryd.prog 44 = some 2 := by kernel_rfl
theorem tsz_A2_int : szQ Tryd.prog 44 = 2 := by kernel_rfl
theorem tby_A2_int : byQ Tryd.prog 44 = 16 := by kernel_rfl
theorem tze_A2_int : zeroQ Tryd.prog 44 = some [(.int .i64 0), (.int .i64 0)] := by kernel_rfl
theorem tpl_A2_int : plQ Tryd.prog 44 = some [(0, 1), (1, 1)] := by kernel_rfl
theorem tar_A2_int : arQ Tryd.prog 44 = some (2, 3) := by kernel_rfl
abbrev T.dl_A2_int : List Nat := [3, 3]
theorem tdq_A2_int : deepQ Tryd.prog 20 44 = some T.dl_A2_int := by kernel_rfl
theorem taq_A2_int : aggQ Tryd.prog 44 = true := by kernel_rfl
theorem tgq_A2_int : Tryd.prog.eqGuardType Tryd.prog.depth 44 = false := by kernel_rfl
abbrev T.L_int : Nat := 55
theorem tcell_L_int : cellQ Tryd.prog 55 = true := by kernel_rfl
theorem tsz_L_int : szQ Tryd.prog 55 = 1 := by kernel_rfl
theorem tby_L_int : byQ Tryd.prog 55 = 24 := by kernel_rfl
theorem tze_L_int : zeroQ Tryd.prog 55 = some [(.slice none 0 0)] := by kernel_rfl
theorem tel_L_int : elQ Tryd.prog 55 = some 3 := by kernel_rfl
abbrev T.P_tree_Tree : Nat := 57
theorem tcell_P_tree_Tree : cellQ Tryd.prog 57 = true := by kernel_rfl
theorem tsz_P_tree_Tree : szQ Tryd.prog 57 = 1 := by kernel_rfl
theorem tby_P_tree_Tree : byQ Tryd.prog 57 = 8 := by kernel_rfl
theorem tze_P_tree_Tree : zeroQ Tryd.prog 57 = some [(.pointer none)] := by kernel_rfl
theorem tpt_P_tree_Tree : ptQ Tryd.prog 57 = true := by kernel_rfl
theorem tcq_P_tree_Tree : concQ Tryd.prog 57 = true := by kernel_rfl
abbrev T.L_item_Item : Nat := 60
theorem tcell_L_item_Item : cellQ Tryd.prog 60 = true := by kernel_rfl
theorem tsz_L_item_Item : szQ Tryd.prog 60 = 1 := by kernel_rfl
theorem tby_L_item_Item : byQ Tryd.prog 60 = 24 := by kernel_rfl
theorem tze_L_item_Item : zeroQ Tryd.prog 60 = some [(.slice none 0 0)] := by kernel_rfl
theorem tel_L_item_Item : elQ Tryd.prog 60 = some 71 := by kernel_rfl
abbrev T.rope_Rope : Nat := 63
theorem tagg_rope_Rope : aggN Tryd.prog 63 = some 1 := by kernel_rfl
theorem tsz_rope_Rope : szQ Tryd.prog 63 = 1 := by kernel_rfl
theorem tby_rope_Rope : byQ Tryd.prog 63 = 8 := by kernel_rfl
theorem tze_rope_Rope : zeroQ Tryd.prog 63 = some [(.pointer none)] := by kernel_rfl
theorem tfl_rope_Rope_t : flQ Tryd.prog 63 0 = some 0 := by kernel_rfl
theorem tpl_rope_Rope : plQ Tryd.prog 63 = some [(0, 1)] := by kernel_rfl
theorem tfd_rope_Rope_t : fdT Tryd.prog 63 0 = some (57, 0) := by kernel_rfl
abbrev T.bodkinref01_Rune : Nat := 65
theorem tagg_bodkinref01_Rune : aggN Tryd.prog 65 = some 2 := by kernel_rfl
theorem tsz_bodkinref01_Rune : szQ Tryd.prog 65 = 2 := by kernel_rfl
theorem tby_bodkinref01_Rune : byQ Tryd.prog 65 = 16 := by kernel_rfl
theorem tze_bodkinref01_Rune : zeroQ Tryd.prog 65 = some [(.int .i32 0), (.int .i64 0)] := by kernel_rfl
theorem tfl_bodkinref01_Rune_R : flQ Tryd.prog 65 0 = some 0 := by kernel_rfl
theorem tfl_bodkinref01_Rune_N : flQ Tryd.prog 65 1 = some 1 := by kernel_rfl
theorem tpl_bodkinref01_Rune : plQ Tryd.prog 65 = some [(0, 1), (1, 1)] := by kernel_rfl
theorem tfd_bodkinref01_Rune_R : fdT Tryd.prog 65 0 = some (21, 0) := by kernel_rfl
theorem tfd_bodkinref01_Rune_N : fdT Tryd.prog 65 1 = some (3, 1) := by kernel_rfl
abbrev T.dl_bodkinref01_Rune : List Nat := [21, 3]
theorem tdq_bodkinref01_Rune : deepQ Tryd.prog 20 65 = some T.dl_bodkinref01_Rune := by kernel_rfl
theorem taq_bodkinref01_Rune : aggQ Tryd.prog 65 = true := by kernel_rfl
theorem tgq_bodkinref01_Rune : Tryd.prog.eqGuardType Tryd.prog.depth 65 = false := by kernel_rfl
abbrev T.A3_int : Nat := 67
theorem tagg_A3_int : aggN Tryd.prog 67 = some 3 := by kernel_rfl
theorem tsz_A3_int : szQ Tryd.prog 67 = 3 := by kernel_rfl
theorem tby_A3_int : byQ Tryd.prog 67 = 24 := by kernel_rfl
theorem tze_A3_int : zeroQ Tryd.prog 67 = some [(.int .i64 0), (.int .i64 0), (.int .i64 0)] := by kernel_rfl
theorem tpl_A3_int : plQ Tryd.prog 67 = some [(0, 1), (1, 1), (2, 1)] := by kernel_rfl
theorem tar_A3_int : arQ Tryd.prog 67 = some (3, 3) := by kernel_rfl
abbrev T.dl_A3_int : List Nat := [3, 3, 3]
theorem tdq_A3_int : deepQ Tryd.prog 20 67 = some T.dl_A3_int := by kernel_rfl
theorem taq_A3_int : aggQ Tryd.prog 67 = true := by kernel_rfl
theorem tgq_A3_int : Tryd.prog.eqGuardType Tryd.prog.depth 67 = false := by kernel_rfl
abbrev T.item_Sum : Nat := 69
theorem tagg_item_Sum : aggN Tryd.prog 69 = some 6 := by kernel_rfl
theorem tsz_item_Sum : szQ Tryd.prog 69 = 6 := by kernel_rfl
theorem tby_item_Sum : byQ Tryd.prog 69 = 48 := by kernel_rfl
theorem tze_item_Sum : zeroQ Tryd.prog 69 = some [(.int .i64 0), (.int .i64 0), (.int .i64 0), (.int .i64 0), (.int .i64 0), (.int .i64 0)] := by kernel_rfl
theorem tfl_item_Sum_N : flQ Tryd.prog 69 0 = some 0 := by kernel_rfl
theorem tfl_item_Sum_D : flQ Tryd.prog 69 1 = some 1 := by kernel_rfl
theorem tfl_item_Sum_Max : flQ Tryd.prog 69 2 = some 4 := by kernel_rfl
theorem tfl_item_Sum_At : flQ Tryd.prog 69 3 = some 5 := by kernel_rfl
theorem tpl_item_Sum : plQ Tryd.prog 69 = some [(0, 1), (1, 3), (4, 1), (5, 1)] := by kernel_rfl
theorem tfd_item_Sum_N : fdT Tryd.prog 69 0 = some (3, 0) := by kernel_rfl
theorem tfd_item_Sum_D : fdT Tryd.prog 69 1 = some (67, 1) := by kernel_rfl
theorem tfd_item_Sum_Max : fdT Tryd.prog 69 2 = some (3, 4) := by kernel_rfl
theorem tfd_item_Sum_At : fdT Tryd.prog 69 3 = some (3, 5) := by kernel_rfl
abbrev T.dl_item_Sum : List Nat := [3, 3, 3, 3, 3, 3]
theorem tdq_item_Sum : deepQ Tryd.prog 20 69 = some T.dl_item_Sum := by kernel_rfl
theorem taq_item_Sum : aggQ Tryd.prog 69 = true := by kernel_rfl
theorem tgq_item_Sum : Tryd.prog.eqGuardType Tryd.prog.depth 69 = false := by kernel_rfl
abbrev T.item_Item : Nat := 71
theorem tagg_item_Item : aggN Tryd.prog 71 = some 7 := by kernel_rfl
theorem tsz_item_Item : szQ Tryd.prog 71 = 7 := by kernel_rfl
theorem tby_item_Item : byQ Tryd.prog 71 = 64 := by kernel_rfl
theorem tze_item_Item : zeroQ Tryd.prog 71 = some [(.int .i64 0), (.int .i64 0), (.int .i64 0), (.int .i64 0), (.int .i64 0), (.int .i64 0), (.string ⟨#[]⟩)] := by kernel_rfl
theorem tfl_item_Item_Tag : flQ Tryd.prog 71 0 = some 0 := by kernel_rfl
theorem tfl_item_Item_ID : flQ Tryd.prog 71 1 = some 1 := by kernel_rfl
theorem tfl_item_Item_D : flQ Tryd.prog 71 2 = some 2 := by kernel_rfl
theorem tfl_item_Item_Max : flQ Tryd.prog 71 3 = some 5 := by kernel_rfl
theorem tfl_item_Item_Text : flQ Tryd.prog 71 4 = some 6 := by kernel_rfl
theorem tpl_item_Item : plQ Tryd.prog 71 = some [(0, 1), (1, 1), (2, 3), (5, 1), (6, 1)] := by kernel_rfl
theorem tfd_item_Item_Tag : fdT Tryd.prog 71 0 = some (3, 0) := by kernel_rfl
theorem tfd_item_Item_ID : fdT Tryd.prog 71 1 = some (3, 1) := by kernel_rfl
theorem tfd_item_Item_D : fdT Tryd.prog 71 2 = some (67, 2) := by kernel_rfl
theorem tfd_item_Item_Max : fdT Tryd.prog 71 3 = some (3, 5) := by kernel_rfl
theorem tfd_item_Item_Text : fdT Tryd.prog 71 4 = some (9, 6) := by kernel_rfl
abbrev T.dl_item_Item : List Nat := [3, 3, 3, 3, 3, 3, 9]
theorem tdq_item_Item : deepQ Tryd.prog 20 71 = some T.dl_item_Item := by kernel_rfl
theorem taq_item_Item : aggQ Tryd.prog 71 = true := by kernel_rfl
theorem tgq_item_Item : Tryd.prog.eqGuardType Tryd.prog.depth 71 = false := by kernel_rfl
abbrev T.rope_spot : Nat := 73
theorem tagg_rope_spot : aggN Tryd.prog 73 = some 14 := by kernel_rfl
theorem tsz_rope_spot : szQ Tryd.prog 73 = 14 := by kernel_rfl
theorem tby_rope_spot : byQ Tryd.prog 73 = 120 := by kernel_rfl
theorem tze_rope_spot : zeroQ Tryd.prog 73 = some [(.int .i64 0), (.int .i64 0), (.int .i64 0), (.int .i64 0), (.int .i64 0), (.int .i64 0), (.int .i64 0), (.int .i64 0), (.int .i64 0), (.int .i64 0), (.int .i64 0), (.int .i64 0), (.string ⟨#[]⟩), (.int .i64 0)] := by kernel_rfl
theorem tfl_rope_spot_before : flQ Tryd.prog 73 0 = some 0 := by kernel_rfl
theorem tfl_rope_spot_piece : flQ Tryd.prog 73 1 = some 6 := by kernel_rfl
theorem tfl_rope_spot_bytes : flQ Tryd.prog 73 2 = some 13 := by kernel_rfl
theorem tpl_rope_spot : plQ Tryd.prog 73 = some [(0, 6), (6, 7), (13, 1)] := by kernel_rfl
theorem tfd_rope_spot_before : fdT Tryd.prog 73 0 = some (69, 0) := by kernel_rfl
theorem tfd_rope_spot_piece : fdT Tryd.prog 73 1 = some (71, 6) := by kernel_rfl
theorem tfd_rope_spot_bytes : fdT Tryd.prog 73 2 = some (3, 13) := by kernel_rfl
abbrev T.dl_rope_spot : List Nat := [3, 3, 3, 3, 3, 3, 3, 3, 3, 3, 3, 3, 9, 3]
theorem tdq_rope_spot : deepQ Tryd.prog 20 73 = some T.dl_rope_spot := by kernel_rfl
theorem taq_rope_spot : aggQ Tryd.prog 73 = true := by kernel_rfl
theorem tgq_rope_spot : Tryd.prog.eqGuardType Tryd.prog.depth 73 = false := by kernel_rfl
abbrev T.P_seek_Cursor : Nat := 74
theorem tcell_P_seek_Cursor : cellQ Tryd.prog 74 = true := by kernel_rfl
theorem tsz_P_seek_Cursor : szQ Tryd.prog 74 = 1 := by kernel_rfl
theorem tby_P_seek_Cursor : byQ Tryd.prog 74 = 8 := by kernel_rfl
theorem tze_P_seek_Cursor : zeroQ Tryd.prog 74 = some [(.pointer none)] := by kernel_rfl
theorem tpt_P_seek_Cursor : ptQ Tryd.prog 74 = true := by kernel_rfl
theorem tcq_P_seek_Cursor : concQ Tryd.prog 74 = true := by kernel_rfl
abbrev T.L_string : Nat := 85
theorem tcell_L_string : cellQ Tryd.prog 85 = true := by kernel_rfl
theorem tsz_L_string : szQ Tryd.prog 85 = 1 := by kernel_rfl
theorem tby_L_string : byQ Tryd.prog 85 = 24 := by kernel_rfl
theorem tze_L_string : zeroQ Tryd.prog 85 = some [(.slice none 0 0)] := by kernel_rfl
theorem tel_L_string : elQ Tryd.prog 85 = some 9 := by kernel_rfl
abbrev T.P_strings_Builder : Nat := 89
theorem tcell_P_strings_Builder : cellQ Tryd.prog 89 = true := by kernel_rfl
theorem tsz_P_strings_Builder : szQ Tryd.prog 89 = 1 := by kernel_rfl
theorem tby_P_strings_Builder : byQ Tryd.prog 89 = 8 := by kernel_rfl
theorem tze_P_strings_Builder : zeroQ Tryd.prog 89 = some [(.pointer none)] := by kernel_rfl
theorem tpt_P_strings_Builder : ptQ Tryd.prog 89 = true := by kernel_rfl
theorem tcq_P_strings_Builder : concQ Tryd.prog 89 = true := by kernel_rfl
abbrev T.L_uint8 : Nat := 90
theorem tcell_L_uint8 : cellQ Tryd.prog 90 = true := by kernel_rfl
theorem tsz_L_uint8 : szQ Tryd.prog 90 = 1 := by kernel_rfl
theorem tby_L_uint8 : byQ Tryd.prog 90 = 24 := by kernel_rfl
theorem tze_L_uint8 : zeroQ Tryd.prog 90 = some [(.slice none 0 0)] := by kernel_rfl
theorem tel_L_uint8 : elQ Tryd.prog 90 = some 5 := by kernel_rfl
abbrev T.strings_Builder : Nat := 92
theorem tagg_strings_Builder : aggN Tryd.prog 92 = some 2 := by kernel_rfl
theorem tsz_strings_Builder : szQ Tryd.prog 92 = 2 := by kernel_rfl
theorem tby_strings_Builder : byQ Tryd.prog 92 = 32 := by kernel_rfl
theorem tze_strings_Builder : zeroQ Tryd.prog 92 = some [(.pointer none), (.slice none 0 0)] := by kernel_rfl
theorem tfl_strings_Builder_addr : flQ Tryd.prog 92 0 = some 0 := by kernel_rfl
theorem tfl_strings_Builder_buf : flQ Tryd.prog 92 1 = some 1 := by kernel_rfl
theorem tpl_strings_Builder : plQ Tryd.prog 92 = some [(0, 1), (1, 1)] := by kernel_rfl
theorem tfd_strings_Builder_addr : fdT Tryd.prog 92 0 = some (89, 0) := by kernel_rfl
theorem tfd_strings_Builder_buf : fdT Tryd.prog 92 1 = some (90, 1) := by kernel_rfl
abbrev T.interface___Error___string__ : Nat := 95
theorem tcell_interface___Error___string__ : cellQ Tryd.prog 95 = true := by kernel_rfl
theorem tsz_interface___Error___string__ : szQ Tryd.prog 95 = 1 := by kernel_rfl
theorem tby_interface___Error___string__ : byQ Tryd.prog 95 = 16 := by kernel_rfl
theorem tze_interface___Error___string__ : zeroQ Tryd.prog 95 = some [.nilIface] := by kernel_rfl
abbrev T.error : Nat := 96
theorem tcell_error : cellQ Tryd.prog 96 = true := by kernel_rfl
theorem tsz_error : szQ Tryd.prog 96 = 1 := by kernel_rfl
theorem tby_error : byQ Tryd.prog 96 = 16 := by kernel_rfl
theorem tze_error : zeroQ Tryd.prog 96 = some [.nilIface] := by kernel_rfl
abbrev T.tree_node : Nat := 104
theorem tcell_tree_node : cellQ Tryd.prog 104 = true := by kernel_rfl
theorem tsz_tree_node : szQ Tryd.prog 104 = 1 := by kernel_rfl
theorem tby_tree_node : byQ Tryd.prog 104 = 16 := by kernel_rfl
theorem tze_tree_node : zeroQ Tryd.prog 104 = some [.nilIface] := by kernel_rfl
theorem tif_tree_node : ifcQ Tryd.prog 104 = true := by kernel_rfl
abbrev T.P_tree_leaf : Nat := 107
theorem tcell_P_tree_leaf : cellQ Tryd.prog 107 = true := by kernel_rfl
theorem tsz_P_tree_leaf : szQ Tryd.prog 107 = 1 := by kernel_rfl
theorem tby_P_tree_leaf : byQ Tryd.prog 107 = 8 := by kernel_rfl
theorem tze_P_tree_leaf : zeroQ Tryd.prog 107 = some [(.pointer none)] := by kernel_rfl
theorem tpt_P_tree_leaf : ptQ Tryd.prog 107 = true := by kernel_rfl
theorem tcq_P_tree_leaf : concQ Tryd.prog 107 = true := by kernel_rfl
abbrev T.tree_Tree : Nat := 110
theorem tagg_tree_Tree : aggN Tryd.prog 110 = some 1 := by kernel_rfl
theorem tsz_tree_Tree : szQ Tryd.prog 110 = 1 := by kernel_rfl
theorem tby_tree_Tree : byQ Tryd.prog 110 = 16 := by kernel_rfl
theorem tze_tree_Tree : zeroQ Tryd.prog 110 = some [.nilIface] := by kernel_rfl
theorem tfl_tree_Tree_root : flQ Tryd.prog 110 0 = some 0 := by kernel_rfl
theorem tpl_tree_Tree : plQ Tryd.prog 110 = some [(0, 1)] := by kernel_rfl
theorem tfd_tree_Tree_root : fdT Tryd.prog 110 0 = some (104, 0) := by kernel_rfl
abbrev T.tree_Place : Nat := 115
theorem tagg_tree_Place : aggN Tryd.prog 115 = some 8 := by kernel_rfl
theorem tsz_tree_Place : szQ Tryd.prog 115 = 8 := by kernel_rfl
theorem tby_tree_Place : byQ Tryd.prog 115 = 64 := by kernel_rfl
theorem tze_tree_Place : zeroQ Tryd.prog 115 = some [(.int .i64 0), (.int .i64 0), (.int .i64 0), (.int .i64 0), (.int .i64 0), (.int .i64 0), (.int .i64 0), (.int .i64 0)] := by kernel_rfl
theorem tfl_tree_Place_Index : flQ Tryd.prog 115 0 = some 0 := by kernel_rfl
theorem tfl_tree_Place_Before : flQ Tryd.prog 115 1 = some 1 := by kernel_rfl
theorem tfl_tree_Place_Visits : flQ Tryd.prog 115 2 = some 7 := by kernel_rfl
theorem tpl_tree_Place : plQ Tryd.prog 115 = some [(0, 1), (1, 6), (7, 1)] := by kernel_rfl
theorem tfd_tree_Place_Index : fdT Tryd.prog 115 0 = some (3, 0) := by kernel_rfl
theorem tfd_tree_Place_Before : fdT Tryd.prog 115 1 = some (69, 1) := by kernel_rfl
theorem tfd_tree_Place_Visits : fdT Tryd.prog 115 2 = some (3, 7) := by kernel_rfl
abbrev T.dl_tree_Place : List Nat := [3, 3, 3, 3, 3, 3, 3, 3]
theorem tdq_tree_Place : deepQ Tryd.prog 20 115 = some T.dl_tree_Place := by kernel_rfl
theorem taq_tree_Place : aggQ Tryd.prog 115 = true := by kernel_rfl
theorem tgq_tree_Place : Tryd.prog.eqGuardType Tryd.prog.depth 115 = false := by kernel_rfl
abbrev T.seek_Cursor : Nat := 117
theorem tagg_seek_Cursor : aggN Tryd.prog 117 = some 9 := by kernel_rfl
theorem tsz_seek_Cursor : szQ Tryd.prog 117 = 9 := by kernel_rfl
theorem tby_seek_Cursor : byQ Tryd.prog 117 = 72 := by kernel_rfl
theorem tze_seek_Cursor : zeroQ Tryd.prog 117 = some [(.pointer none), (.int .i64 0), (.int .i64 0), (.int .i64 0), (.int .i64 0), (.int .i64 0), (.int .i64 0), (.int .i64 0), (.int .i64 0)] := by kernel_rfl
theorem tfl_seek_Cursor_t : flQ Tryd.prog 117 0 = some 0 := by kernel_rfl
theorem tfl_seek_Cursor_at : flQ Tryd.prog 117 1 = some 1 := by kernel_rfl
theorem tpl_seek_Cursor : plQ Tryd.prog 117 = some [(0, 1), (1, 8)] := by kernel_rfl
theorem tfd_seek_Cursor_t : fdT Tryd.prog 117 0 = some (57, 0) := by kernel_rfl
theorem tfd_seek_Cursor_at : fdT Tryd.prog 117 1 = some (115, 1) := by kernel_rfl
abbrev T.L_tree_node : Nat := 134
theorem tcell_L_tree_node : cellQ Tryd.prog 134 = true := by kernel_rfl
theorem tsz_L_tree_node : szQ Tryd.prog 134 = 1 := by kernel_rfl
theorem tby_L_tree_node : byQ Tryd.prog 134 = 24 := by kernel_rfl
theorem tze_L_tree_node : zeroQ Tryd.prog 134 = some [(.slice none 0 0)] := by kernel_rfl
theorem tel_L_tree_node : elQ Tryd.prog 134 = some 104 := by kernel_rfl
abbrev T.P_tree_inner : Nat := 136
theorem tcell_P_tree_inner : cellQ Tryd.prog 136 = true := by kernel_rfl
theorem tsz_P_tree_inner : szQ Tryd.prog 136 = 1 := by kernel_rfl
theorem tby_P_tree_inner : byQ Tryd.prog 136 = 8 := by kernel_rfl
theorem tze_P_tree_inner : zeroQ Tryd.prog 136 = some [(.pointer none)] := by kernel_rfl
theorem tpt_P_tree_inner : ptQ Tryd.prog 136 = true := by kernel_rfl
theorem tcq_P_tree_inner : concQ Tryd.prog 136 = true := by kernel_rfl
abbrev T.tree_leaf : Nat := 140
theorem tagg_tree_leaf : aggN Tryd.prog 140 = some 7 := by kernel_rfl
theorem tsz_tree_leaf : szQ Tryd.prog 140 = 7 := by kernel_rfl
theorem tby_tree_leaf : byQ Tryd.prog 140 = 72 := by kernel_rfl
theorem tze_tree_leaf : zeroQ Tryd.prog 140 = some [(.slice none 0 0), (.int .i64 0), (.int .i64 0), (.int .i64 0), (.int .i64 0), (.int .i64 0), (.int .i64 0)] := by kernel_rfl
theorem tfl_tree_leaf_items : flQ Tryd.prog 140 0 = some 0 := by kernel_rfl
theorem tfl_tree_leaf_sum : flQ Tryd.prog 140 1 = some 1 := by kernel_rfl
theorem tpl_tree_leaf : plQ Tryd.prog 140 = some [(0, 1), (1, 6)] := by kernel_rfl
theorem tfd_tree_leaf_items : fdT Tryd.prog 140 0 = some (60, 0) := by kernel_rfl
theorem tfd_tree_leaf_sum : fdT Tryd.prog 140 1 = some (69, 1) := by kernel_rfl
abbrev T.tree_inner : Nat := 142
theorem tagg_tree_inner : aggN Tryd.prog 142 = some 8 := by kernel_rfl
theorem tsz_tree_inner : szQ Tryd.prog 142 = 8 := by kernel_rfl
theorem tby_tree_inner : byQ Tryd.prog 142 = 80 := by kernel_rfl
theorem tze_tree_inner : zeroQ Tryd.prog 142 = some [(.slice none 0 0), (.int .i64 0), (.int .i64 0), (.int .i64 0), (.int .i64 0), (.int .i64 0), (.int .i64 0), (.int .i64 0)] := by kernel_rfl
theorem tfl_tree_inner_kids : flQ Tryd.prog 142 0 = some 0 := by kernel_rfl
theorem tfl_tree_inner_height : flQ Tryd.prog 142 1 = some 1 := by kernel_rfl
theorem tfl_tree_inner_sum : flQ Tryd.prog 142 2 = some 2 := by kernel_rfl
theorem tpl_tree_inner : plQ Tryd.prog 142 = some [(0, 1), (1, 1), (2, 6)] := by kernel_rfl
theorem tfd_tree_inner_kids : fdT Tryd.prog 142 0 = some (134, 0) := by kernel_rfl
theorem tfd_tree_inner_height : fdT Tryd.prog 142 1 = some (3, 1) := by kernel_rfl
theorem tfd_tree_inner_sum : fdT Tryd.prog 142 2 = some (69, 2) := by kernel_rfl
abbrev T.A4_int32 : Nat := 157
theorem tagg_A4_int32 : aggN Tryd.prog 157 = some 4 := by kernel_rfl
theorem tsz_A4_int32 : szQ Tryd.prog 157 = 4 := by kernel_rfl
theorem tby_A4_int32 : byQ Tryd.prog 157 = 16 := by kernel_rfl
theorem tze_A4_int32 : zeroQ Tryd.prog 157 = some [(.int .i32 0), (.int .i32 0), (.int .i32 0), (.int .i32 0)] := by kernel_rfl
theorem tpl_A4_int32 : plQ Tryd.prog 157 = some [(0, 1), (1, 1), (2, 1), (3, 1)] := by kernel_rfl
theorem tar_A4_int32 : arQ Tryd.prog 157 = some (4, 21) := by kernel_rfl
abbrev T.dl_A4_int32 : List Nat := [21, 21, 21, 21]
theorem tdq_A4_int32 : deepQ Tryd.prog 20 157 = some T.dl_A4_int32 := by kernel_rfl
theorem taq_A4_int32 : aggQ Tryd.prog 157 = true := by kernel_rfl
theorem tgq_A4_int32 : Tryd.prog.eqGuardType Tryd.prog.depth 157 = false := by kernel_rfl
/-- 'bodkin bodkinlaw07.RopeBytes' -/
def bodkinlaw07_RopeBytes (K : K1) (s0 at1 : Value) (w : World) : Prop :=
  sBuiltin Tryd.prog .len [9] 3 [s0] w fun x17 w =>
  sBin Tryd.prog .gtr 3 false true x17 (.int .i64 2000) w fun x18 w =>
  sIf x18 (
    sCall Tryd.prog 11 [] w fun x19 w =>
    K x19 w) (
    sCall Tryd.prog 12 [s0] w fun x22 w =>
    sExtract x22 0 w fun x23 w =>
    sExtract x22 1 w fun x24 w =>
    sCall Tryd.prog 13 [s0] w fun x26 w =>
    sBin Tryd.prog .neq 24 false true x24 (.int .i64 0) w fun x28 w =>
    sIf x28 (
      K (.bool false) w) (
      sBin Tryd.prog .eql 23 false true x23 (.pointer none) w fun x31 w =>
      sIf x31 (
        K (.bool false) w) (
        sCall Tryd.prog 14 [x23, at1] w fun x36 w =>
        sExtract x36 0 w fun x37 w =>
        sExtract x36 1 w fun x38 w =>
        sCall Tryd.prog 15 [x26, at1] w fun x42 w =>
        sExtract x42 0 w fun x43 w =>
        sExtract x42 1 w fun x44 w =>
        sCall Tryd.prog 16 [x23, at1] w fun x48 w =>
        sExtract x48 0 w fun x49 w =>
        sExtract x48 1 w fun x50 w =>
        sCall Tryd.prog 17 [x26, at1] w fun x54 w =>
        sExtract x54 0 w fun x55 w =>
        sExtract x54 1 w fun x56 w =>
        sBin Tryd.prog .eql 3 false false x37 x43 w fun x59 w =>
        sIf x59 (
          sBin Tryd.prog .eql 3 false false x38 x44 w fun x63 w =>
          sIf x63 (
            sBin Tryd.prog .eql 3 false false x49 x55 w fun x68 w =>
            sIf x68 (
              sBin Tryd.prog .eql 3 false false x50 x56 w fun x73 w =>
              sIf x73 (
                sCall Tryd.prog 11 [] w fun x76 w =>
                K x76 w) (
                K (.bool false) w)) (
              K (.bool false) w)) (
            K (.bool false) w)) (
          K (.bool false) w))))

def bodkinlaw07_RopeBytes.sc : SC := (.seq (.reg (.op 0 .done)) (.seq (.seq (.reg (.op 0 (.op 1 (.op 2 .done)))) (.cond (.seq (.reg (.op 0 (.op 1 .done))) .nop) .nop)) (.seq (.reg (.op 0 (.op 1 (.op 2 (.op 3 (.op 4 (.op 5 (.op 6 .done)))))))) (.seq (.reg (.op 0 (.op 1 (.op 2 .done)))) (.seq (.seq (.reg (.op 0 (.op 1 (.op 2 (.test 2 (.skip 3 (.skip 4 (.op 5 .done))) (.op 3 (.op 4 (.op 5 .done)))))))) (.cond (.seq (.reg (.op 0 .done)) .nop) .nop)) (.seq (.reg (.op 0 (.op 1 (.op 2 (.op 3 (.op 4 (.op 5 (.op 6 (.op 7 .done))))))))) (.seq (.reg (.op 0 (.op 1 (.op 2 (.op 3 (.op 4 (.op 5 (.op 6 (.op 7 .done))))))))) (.seq (.reg (.op 0 (.op 1 (.op 2 (.op 3 (.op 4 (.op 5 (.op 6 (.op 7 .done))))))))) (.seq (.reg (.op 0 (.op 1 (.op 2 (.op 3 (.op 4 (.op 5 (.op 6 (.op 7 .done))))))))) (.seq (.reg (.op 0 (.op 1 (.op 2 (.op 3 (.test 3 (.op 4 (.op 5 (.op 6 (.op 7 (.op 8 (.test 8 (.op 9 (.op 10 (.op 11 (.op 12 (.op 13 (.test 13 (.op 14 (.op 15 (.op 16 (.op 17 (.op 18 (.test 18 (.op 19 (.op 20 (.op 21 .done))) (.skip 19 (.op 20 (.op 21 .done))))))))) (.skip 14 (.skip 15 (.skip 16 (.op 17 (.op 18 (.know 18 false (.skip 19 (.op 20 (.op 21 .done))))))))))))))) (.skip 9 (.skip 10 (.skip 11 (.op 12 (.op 13 (.know 13 false (.skip 14 (.skip 15 (.skip 16 (.op 17 (.op 18 (.know 18 false (.skip 19 (.op 20 (.op 21 .done))))))))))))))))))))) (.skip 4 (.skip 5 (.skip 6 (.op 7 (.op 8 (.know 8 false (.skip 9 (.skip 10 (.skip 11 (.op 12 (.op 13 (.know 13 false (.skip 14 (.skip 15 (.skip 16 (.op 17 (.op 18 (.know 18 false (.skip 19 (.op 20 (.op 21 .done))))))))))))))))))))))))))) .nop))))))))))

theorem bodkinlaw07_RopeBytes.ok : okC Tryd.f3.ntmps bodkinlaw07_RopeBytes.sc (bodyOf Tryd.f3) = true := by kernel_rfl

theorem bodkinlaw07_RopeBytes.eq {K : K1} {s0 at1 : Value} {w : World} : bodkinlaw07_RopeBytes K s0 at1 w = codeS Tryd.prog bodkinlaw07_RopeBytes.sc (bodyOf Tryd.f3) (argsF 0 [s0, at1]) w (retQ Tryd.prog Tryd.f3.results.toList K) := by kernel_rfl

theorem bodkinlaw07_RopeBytes.call {K : K1} {s0 at1 : Value} {w : World} (h : bodkinlaw07_RopeBytes K s0 at1 w) : sCall Tryd.prog 3 [s0, at1] w K := sCall_code mixed Tryd.func3 (by kernel_rfl) rfl rfl bodkinlaw07_RopeBytes.ok bodkinlaw07_RopeBytes.eq h

abbrev bodkinlaw07_RopeBytes.n : Nat := 3

/-- 'bodkin bodkinlaw07.RopeThere' -/
def bodkinlaw07_RopeThere_L1 (K : K1) (Nx1 : List Value → World → Prop) (x18 : Value) (last5 at6 : Value) (w : World) : Prop :=
  sCall Tryd.prog 18 [x18] w fun x28 w =>
  sBin Tryd.prog .leq 3 false false at6 x28 w fun x29 w =>
  sIf x29 (
    sCall Tryd.prog 16 [x18, at6] w fun x35 w =>
    sExtract x35 0 w fun x36 w =>
    sExtract x35 1 w fun x37 w =>
    sCall Tryd.prog 14 [x18, x36] w fun x41 w =>
    sExtract x41 0 w fun x42 w =>
    sExtract x41 1 w fun x43 w =>
    sBin Tryd.prog .neq 24 false true x37 (.int .i64 0) w fun x45 w =>
    sIf x45 (
      K (.bool false) w) (
      sBin Tryd.prog .neq 24 false true x43 (.int .i64 0) w fun x48 w =>
      sIf x48 (
        K (.bool false) w) (
        sBin Tryd.prog .neq 3 false false x42 at6 w fun x53 w =>
        sIf x53 (
          K (.bool false) w) (
          sBin Tryd.prog .leq 3 false false x36 last5 w fun x58 w =>
          sIf x58 (
            K (.bool false) w) (
            sBin Tryd.prog .add 3 false true at6 (.int .i64 1) w fun x31 w =>
            Nx1 [x36, x31] w))))) (
    sCall Tryd.prog 19 [x18] w fun x63 w =>
    sBin Tryd.prog .eql 3 false false last5 x63 w fun x64 w =>
    sIf x64 (
      sCall Tryd.prog 11 [] w fun x66 w =>
      K x66 w) (
      K (.bool false) w))

def bodkinlaw07_RopeThere (K : K1) (s0 : Value) (w : World) : Prop :=
  sBuiltin Tryd.prog .len [9] 3 [s0] w fun x12 w =>
  sBin Tryd.prog .gtr 3 false true x12 (.int .i64 600) w fun x13 w =>
  sIf x13 (
    sCall Tryd.prog 11 [] w fun x14 w =>
    K x14 w) (
    sCall Tryd.prog 12 [s0] w fun x17 w =>
    sExtract x17 0 w fun x18 w =>
    sExtract x17 1 w fun x19 w =>
    sBin Tryd.prog .neq 24 false true x19 (.int .i64 0) w fun x21 w =>
    sIf x21 (
      K (.bool false) w) (
      sBin Tryd.prog .eql 23 false true x18 (.pointer none) w fun x24 w =>
      sIf x24 (
        K (.bool false) w) (
        LoopS [(.int .i64 (-1)), (.int .i64 0)] 2 40 w fun us _ w Nx1 =>
          bodkinlaw07_RopeThere_L1 K Nx1 x18 (hd us) (hd (tl us)) w)))

def bodkinlaw07_RopeThere.sc : SC := (.seq (.reg (.op 0 .done)) (.seq (.seq (.reg (.op 0 (.op 1 (.op 2 .done)))) (.cond (.seq (.reg (.op 0 (.op 1 .done))) .nop) .nop)) (.seq (.reg (.op 0 (.op 1 (.op 2 (.op 3 (.op 4 (.op 5 (.op 6 .done)))))))) (.seq (.seq (.reg (.op 0 (.op 1 (.op 2 (.test 2 (.skip 3 (.skip 4 (.op 5 .done))) (.op 3 (.op 4 (.op 5 .done)))))))) (.cond (.seq (.reg (.op 0 .done)) .nop) .nop)) (.seq (.reg (.op 0 .done)) (.seq (.seq (.reg (.op 0 .done)) (.sub (.loop [5, 6] [26, 27, 28, 29, 33, 34, 35, 32, 36, 37, 7, 8, 39, 40, 41, 38, 42, 43, 9, 10, 44, 45, 46, 47, 48, 49, 50, 51, 52, 53, 54, 55, 56, 57, 58, 59, 2, 60, 30, 31] (.seq (.seq (.reg (.op 0 (.op 1 (.op 2 (.op 3 .done))))) (.cond .nop .nop)) (.seq (.sub (.seq (.reg (.op 0 (.op 1 (.op 2 (.op 3 (.op 4 (.op 5 (.op 6 (.op 7 .done))))))))) (.seq (.reg (.op 0 (.op 1 (.op 2 (.op 3 (.op 4 (.op 5 (.op 6 (.op 7 .done))))))))) (.seq (.seq (.reg (.op 0 (.op 1 (.op 2 (.test 2 (.skip 3 (.skip 4 (.op 5 (.op 6 (.know 6 true (.skip 7 (.skip 8 (.skip 9 (.op 10 (.op 11 (.know 11 true (.skip 12 (.skip 13 (.skip 14 (.op 15 .done))))))))))))))) (.op 3 (.op 4 (.op 5 (.op 6 (.test 6 (.skip 7 (.skip 8 (.skip 9 (.op 10 (.op 11 (.know 11 true (.skip 12 (.skip 13 (.skip 14 (.op 15 .done)))))))))) (.op 7 (.op 8 (.op 9 (.op 10 (.op 11 (.test 11 (.skip 12 (.skip 13 (.skip 14 (.op 15 .done)))) (.op 12 (.op 13 (.op 14 (.op 15 .done)))))))))))))))))))) (.cond (.seq (.reg (.op 0 .done)) .nop) .nop)) (.reg (.op 0 (.op 1 .done))))))) (.reg (.op 0 (.op 1 (.op 2 .done))))))))) (.seq (.reg (.op 0 (.op 1 (.op 2 (.op 3 (.op 4 (.test 4 (.op 5 (.op 6 (.op 7 .done))) (.skip 5 (.op 6 (.op 7 .done)))))))))) .nop)))))))

theorem bodkinlaw07_RopeThere.ok : okC Tryd.f4.ntmps bodkinlaw07_RopeThere.sc (bodyOf Tryd.f4) = true := by kernel_rfl

theorem bodkinlaw07_RopeThere.eq {K : K1} {s0 : Value} {w : World} : bodkinlaw07_RopeThere K s0 w = codeS Tryd.prog bodkinlaw07_RopeThere.sc (bodyOf Tryd.f4) (argsF 0 [s0]) w (retQ Tryd.prog Tryd.f4.results.toList K) := by kernel_rfl

theorem bodkinlaw07_RopeThere.call {K : K1} {s0 : Value} {w : World} (h : bodkinlaw07_RopeThere K s0 w) : sCall Tryd.prog 4 [s0] w K := sCall_code mixed Tryd.func4 (by kernel_rfl) rfl rfl bodkinlaw07_RopeThere.ok bodkinlaw07_RopeThere.eq h

abbrev bodkinlaw07_RopeThere.n : Nat := 4

/-- 'bodkin bodkinlaw07.RopeLong' -/
def bodkinlaw07_RopeLong_L1 (K : K1) (Nx1 : List Value → World → Prop) (n0 s1 : Value) (t5 : Value) (w : World) : Prop :=
  sBuiltin Tryd.prog .len [9] 3 [t5] w fun x24 w =>
  sBin Tryd.prog .lss 3 false true x24 (.int .i64 20004) w fun x25 w =>
  sIf x25 (
    sBin Tryd.prog .add 9 false false t5 t5 w fun x28 w =>
    Nx1 [x28] w) (
    sBin Tryd.prog .add 3 true false (.int .i64 19997) n0 w fun x31 w =>
    sSlice Tryd.prog 9 t5 none (some x31) none w fun x32 w =>
    sCall Tryd.prog 12 [x32] w fun x35 w =>
    sExtract x35 0 w fun x36 w =>
    sExtract x35 1 w fun x37 w =>
    sBin Tryd.prog .gtr 3 false true n0 (.int .i64 3) w fun x39 w =>
    sIf x39 (
      sBin Tryd.prog .eql 24 false true x37 (.int .i64 5) w fun x41 w =>
      sIf x41 (
        sBin Tryd.prog .eql 23 false true x36 (.pointer none) w fun x44 w =>
        sIf x44 (
          sCall Tryd.prog 11 [] w fun x47 w =>
          K x47 w) (
          K (.bool false) w)) (
        K (.bool false) w)) (
      sBin Tryd.prog .neq 24 false true x37 (.int .i64 0) w fun x50 w =>
      sIf x50 (
        K (.bool false) w) (
        sBin Tryd.prog .eql 23 false true x36 (.pointer none) w fun x53 w =>
        sIf x53 (
          K (.bool false) w) (
          sCall Tryd.prog 13 [s1] w fun x56 w =>
          sBuiltin Tryd.prog .len [27] 3 [x56] w fun x57 w =>
          sCall Tryd.prog 20 [x36, (.int .i64 5), (.int .i64 5), s1] w fun x61 w =>
          sExtract x61 0 w fun x62 w =>
          sExtract x61 1 w fun x63 w =>
          sBin Tryd.prog .add 3 true false (.int .i64 19997) n0 w fun x65 w =>
          sBin Tryd.prog .add 3 false false x65 x57 w fun x67 w =>
          sBin Tryd.prog .gtr 3 false true x67 (.int .i64 20000) w fun x68 w =>
          sIf x68 (
            sBin Tryd.prog .eql 24 false true x63 (.int .i64 5) w fun x70 w =>
            sIf x70 (
              sBin Tryd.prog .eql 23 false true x62 (.pointer none) w fun x73 w =>
              sIf x73 (
                sCall Tryd.prog 11 [] w fun x76 w =>
                K x76 w) (
                K (.bool false) w)) (
              K (.bool false) w)) (
            sBin Tryd.prog .eql 24 false true x63 (.int .i64 0) w fun x79 w =>
            sIf x79 (
              sBin Tryd.prog .neq 23 false true x62 (.pointer none) w fun x82 w =>
              sIf x82 (
                sCall Tryd.prog 18 [x62] w fun x86 w =>
                sBin Tryd.prog .add 3 true false (.int .i64 19997) n0 w fun x88 w =>
                sBin Tryd.prog .add 3 false false x88 x57 w fun x90 w =>
                sBin Tryd.prog .eql 3 false false x86 x90 w fun x91 w =>
                sIf x91 (
                  sCall Tryd.prog 11 [] w fun x94 w =>
                  K x94 w) (
                  K (.bool false) w)) (
                K (.bool false) w)) (
              K (.bool false) w))))))

def bodkinlaw07_RopeLong (K : K1) (n0 s1 : Value) (w : World) : Prop :=
  sBin Tryd.prog .lss 3 false true n0 (.int .i64 0) w fun x12 w =>
  sIf x12 (
    sCall Tryd.prog 11 [] w fun x22 w =>
    K x22 w) (
    sBin Tryd.prog .gtr 3 false true n0 (.int .i64 6) w fun x15 w =>
    sIf x15 (
      sCall Tryd.prog 11 [] w fun x22_1 w =>
      K x22_1 w) (
      sBuiltin Tryd.prog .len [9] 3 [s1] w fun x19 w =>
      sBin Tryd.prog .gtr 3 false true x19 (.int .i64 100) w fun x20 w =>
      sIf x20 (
        sCall Tryd.prog 11 [] w fun x22_2 w =>
        K x22_2 w) (
        LoopS [(.string ⟨#[97]⟩)] 1 6 w fun us _ w Nx1 =>
          bodkinlaw07_RopeLong_L1 K Nx1 n0 s1 (hd us) w)))

def bodkinlaw07_RopeLong.sc : SC := (.seq (.reg (.op 0 .done)) (.seq (.seq (.reg (.op 0 (.op 1 (.op 2 (.test 2 (.skip 3 (.skip 4 (.op 5 (.op 6 (.know 6 true (.skip 7 (.skip 8 (.skip 9 (.op 10 .done))))))))) (.op 3 (.op 4 (.op 5 (.op 6 (.test 6 (.skip 7 (.skip 8 (.skip 9 (.op 10 .done)))) (.op 7 (.op 8 (.op 9 (.op 10 .done)))))))))))))) (.cond (.seq (.reg (.op 0 (.op 1 .done))) .nop) .nop)) (.seq (.reg (.op 0 .done)) (.seq (.sub (.loop [5] [23, 24, 25, 26, 27, 28] (.seq (.seq (.reg (.op 0 (.op 1 (.op 2 .done)))) (.cond .nop .nop)) (.sub (.reg (.op 0 (.op 1 (.op 2 (.op 3 .done))))))))) (.seq (.reg (.op 0 (.op 1 (.op 2 (.op 3 (.op 4 .done)))))) (.seq (.reg (.op 0 (.op 1 (.op 2 (.op 3 (.op 4 (.op 5 (.op 6 .done)))))))) (.seq (.seq (.reg (.op 0 (.op 1 .done))) (.cond (.seq (.reg (.op 0 (.op 1 (.op 2 (.test 2 (.op 3 (.op 4 (.op 5 (.op 6 (.test 6 (.op 7 (.op 8 (.op 9 .done))) (.skip 7 (.op 8 (.op 9 .done)))))))) (.skip 3 (.skip 4 (.op 5 (.op 6 (.know 6 false (.skip 7 (.op 8 (.op 9 .done))))))))))))) .nop) .nop)) (.seq (.seq (.reg (.op 0 (.op 1 (.op 2 (.test 2 (.skip 3 (.skip 4 (.op 5 .done))) (.op 3 (.op 4 (.op 5 .done)))))))) (.cond (.seq (.reg (.op 0 .done)) .nop) .nop)) (.seq (.reg (.op 0 (.op 1 (.op 2 (.op 3 .done))))) (.seq (.reg (.op 0 (.op 1 (.op 2 (.op 3 (.op 4 (.op 5 (.op 6 (.op 7 .done))))))))) (.seq (.seq (.reg (.op 0 (.op 1 (.op 2 (.op 3 (.op 4 .done)))))) (.cond (.seq (.reg (.op 0 (.op 1 (.op 2 (.test 2 (.op 3 (.op 4 (.op 5 (.op 6 (.test 6 (.op 7 (.op 8 (.op 9 .done))) (.skip 7 (.op 8 (.op 9 .done)))))))) (.skip 3 (.skip 4 (.op 5 (.op 6 (.know 6 false (.skip 7 (.op 8 (.op 9 .done))))))))))))) .nop) .nop)) (.seq (.reg (.op 0 (.op 1 (.op 2 (.test 2 (.op 3 (.op 4 (.op 5 (.op 6 (.test 6 (.op 7 (.op 8 (.op 9 (.op 10 (.op 11 (.op 12 (.op 13 (.op 14 (.op 15 (.test 15 (.op 16 (.op 17 (.op 18 .done))) (.skip 16 (.op 17 (.op 18 .done))))))))))))) (.skip 7 (.skip 8 (.skip 9 (.skip 10 (.skip 11 (.skip 12 (.skip 13 (.op 14 (.op 15 (.know 15 false (.skip 16 (.op 17 (.op 18 .done)))))))))))))))))) (.skip 3 (.skip 4 (.op 5 (.op 6 (.know 6 false (.skip 7 (.skip 8 (.skip 9 (.skip 10 (.skip 11 (.skip 12 (.skip 13 (.op 14 (.op 15 (.know 15 false (.skip 16 (.op 17 (.op 18 .done))))))))))))))))))))))) .nop))))))))))))

theorem bodkinlaw07_RopeLong.ok : okC Tryd.f5.ntmps bodkinlaw07_RopeLong.sc (bodyOf Tryd.f5) = true := by kernel_rfl

theorem bodkinlaw07_RopeLong.eq {K : K1} {n0 s1 : Value} {w : World} : bodkinlaw07_RopeLong K n0 s1 w = codeS Tryd.prog bodkinlaw07_RopeLong.sc (bodyOf Tryd.f5) (argsF 0 [n0, s1]) w (retQ Tryd.prog Tryd.f5.results.toList K) := by kernel_rfl

theorem bodkinlaw07_RopeLong.call {K : K1} {n0 s1 : Value} {w : World} (h : bodkinlaw07_RopeLong K n0 s1 w) : sCall Tryd.prog 5 [n0, s1] w K := sCall_code mixed Tryd.func5 (by kernel_rfl) rfl rfl bodkinlaw07_RopeLong.ok bodkinlaw07_RopeLong.eq h

abbrev bodkinlaw07_RopeLong.n : Nat := 5

/-- 'bodkin bodkinlaw07.RopeNew' -/
def bodkinlaw07_RopeNew (K : K1) (s0 : Value) (w : World) : Prop :=
  sBuiltin Tryd.prog .len [9] 3 [s0] w fun x6 w =>
  sBin Tryd.prog .gtr 3 false true x6 (.int .i64 2000) w fun x7 w =>
  sIf x7 (
    sCall Tryd.prog 11 [] w fun x8 w =>
    K x8 w) (
    sCall Tryd.prog 12 [s0] w fun x11 w =>
    sExtract x11 0 w fun x12 w =>
    sExtract x11 1 w fun x13 w =>
    sBin Tryd.prog .eql 24 false true x13 (.int .i64 0) w fun x15 w =>
    sIf x15 (
      sCall Tryd.prog 13 [s0] w fun x19 w =>
      sCall Tryd.prog 21 [x12, x19] w fun x20 w =>
      sIf x20 (
        sCall Tryd.prog 11 [] w fun x23 w =>
        K x23 w) (
        K (.bool false) w)) (
      K (.bool false) w))

def bodkinlaw07_RopeNew.sc : SC := (.seq (.reg (.op 0 .done)) (.seq (.seq (.reg (.op 0 (.op 1 (.op 2 .done)))) (.cond (.seq (.reg (.op 0 (.op 1 .done))) .nop) .nop)) (.seq (.reg (.op 0 (.op 1 (.op 2 (.op 3 (.op 4 (.op 5 (.op 6 .done)))))))) (.seq (.reg (.op 0 (.op 1 (.op 2 (.test 2 (.op 3 (.op 4 (.op 5 (.op 6 (.op 7 (.op 8 (.test 8 (.op 9 (.op 10 (.op 11 .done))) (.skip 9 (.op 10 (.op 11 .done)))))))))) (.skip 3 (.skip 4 (.skip 5 (.skip 6 (.op 7 (.op 8 (.know 8 false (.skip 9 (.op 10 (.op 11 .done))))))))))))))) .nop))))

theorem bodkinlaw07_RopeNew.ok : okC Tryd.f6.ntmps bodkinlaw07_RopeNew.sc (bodyOf Tryd.f6) = true := by kernel_rfl

theorem bodkinlaw07_RopeNew.eq {K : K1} {s0 : Value} {w : World} : bodkinlaw07_RopeNew K s0 w = codeS Tryd.prog bodkinlaw07_RopeNew.sc (bodyOf Tryd.f6) (argsF 0 [s0]) w (retQ Tryd.prog Tryd.f6.results.toList K) := by kernel_rfl

theorem bodkinlaw07_RopeNew.call {K : K1} {s0 : Value} {w : World} (h : bodkinlaw07_RopeNew K s0 w) : sCall Tryd.prog 6 [s0] w K := sCall_code mixed Tryd.func6 (by kernel_rfl) rfl rfl bodkinlaw07_RopeNew.ok bodkinlaw07_RopeNew.eq h

abbrev bodkinlaw07_RopeNew.n : Nat := 6

/-- 'bodkin bodkinlaw07.RopeReplaces' -/
def bodkinlaw07_RopeReplaces_L1 (K : K1) (Nx1 : List Value → World → Prop) (l1 x37 : Value) (r5 now7 x38 : Value) (w : World) : Prop :=
  sBin Tryd.prog .lss 3 false false x38 x37 w fun x39 w =>
  sIf x39 (
    sIdxA Tryd.prog 39 l1 x38 w fun x40 w =>
    sLoad Tryd.prog 41 x40 w fun x41 w =>
    sAlloc Tryd.prog 41 w fun x9 w =>
    sStore Tryd.prog 41 x9 x41 w fun w =>
    sFldA Tryd.prog 41 x9 2 w fun x42 w =>
    sLoad Tryd.prog 9 x42 w fun x43 w =>
    sBuiltin Tryd.prog .len [9] 3 [x43] w fun x44 w =>
    sBin Tryd.prog .gtr 3 false true x44 (.int .i64 300) w fun x45 w =>
    sIf x45 (
      sCall Tryd.prog 11 [] w fun x46 w =>
      K x46 w) (
      sFldA Tryd.prog 41 x9 0 w fun x49 w =>
      sLoad Tryd.prog 3 x49 w fun x50 w =>
      sFldA Tryd.prog 41 x9 1 w fun x51 w =>
      sLoad Tryd.prog 3 x51 w fun x52 w =>
      sFldA Tryd.prog 41 x9 2 w fun x53 w =>
      sLoad Tryd.prog 9 x53 w fun x54 w =>
      sCall Tryd.prog 20 [r5, x50, x52, x54] w fun x55 w =>
      sExtract x55 0 w fun x56 w =>
      sExtract x55 1 w fun x57 w =>
      sFldA Tryd.prog 41 x9 0 w fun x60 w =>
      sLoad Tryd.prog 3 x60 w fun x61 w =>
      sFldA Tryd.prog 41 x9 1 w fun x62 w =>
      sLoad Tryd.prog 3 x62 w fun x63 w =>
      sBuild Tryd.prog 44 [(0, x61), (1, x63)] w fun x64 w =>
      sFldA Tryd.prog 41 x9 2 w fun x65 w =>
      sLoad Tryd.prog 9 x65 w fun x66 w =>
      sCall Tryd.prog 22 [now7, x64, x66] w fun x67 w =>
      sExtract x67 0 w fun x68 w =>
      sExtract x67 1 w fun x69 w =>
      sBin Tryd.prog .neq 3 false false x57 x69 w fun x72 w =>
      sIf x72 (
        K (.bool false) w) (
        sBin Tryd.prog .eql 23 false true x56 (.pointer none) w fun x75 w =>
        sBin Tryd.prog .neq 3 false true x69 (.int .i64 0) w fun x77 w =>
        sBin Tryd.prog .neq 4 false false x75 x77 w fun x78 w =>
        sIf x78 (
          K (.bool false) w) (
          sCall Tryd.prog 21 [r5, now7] w fun x83 w =>
          sUn Tryd.prog .not x83 w fun x84 w =>
          sIf x84 (
            K (.bool false) w) (
            sBin Tryd.prog .neq 3 false true x69 (.int .i64 0) w fun x87 w =>
            sIf x87 (
              sBin Tryd.prog .add 3 false true x38 (.int .i64 1) w fun x94 w =>
              Nx1 [r5, now7, x94] w) (
              sCall Tryd.prog 21 [x56, x68] w fun x90 w =>
              sUn Tryd.prog .not x90 w fun x91 w =>
              sIf x91 (
                K (.bool false) w) (
                sBin Tryd.prog .add 3 false true x38 (.int .i64 1) w fun x94_1 w =>
                Nx1 [x56, x68, x94_1] w))))))) (
    sCall Tryd.prog 11 [] w fun x95 w =>
    K x95 w)

def bodkinlaw07_RopeReplaces (K : K1) (s0 l1 : Value) (w : World) : Prop :=
  sBuiltin Tryd.prog .len [9] 3 [s0] w fun x15 w =>
  sBin Tryd.prog .gtr 3 false true x15 (.int .i64 1000) w fun x16 w =>
  sIf x16 (
    sCall Tryd.prog 11 [] w fun x22 w =>
    K x22 w) (
    sBuiltin Tryd.prog .len [39] 3 [l1] w fun x19 w =>
    sBin Tryd.prog .gtr 3 false true x19 (.int .i64 30) w fun x20 w =>
    sIf x20 (
      sCall Tryd.prog 11 [] w fun x22_1 w =>
      K x22_1 w) (
      sCall Tryd.prog 12 [s0] w fun x25 w =>
      sExtract x25 0 w fun x26 w =>
      sExtract x25 1 w fun x27 w =>
      sBin Tryd.prog .neq 24 false true x27 (.int .i64 0) w fun x29 w =>
      sIf x29 (
        K (.bool false) w) (
        sBin Tryd.prog .eql 23 false true x26 (.pointer none) w fun x32 w =>
        sIf x32 (
          K (.bool false) w) (
          sCall Tryd.prog 13 [s0] w fun x35 w =>
          sBuiltin Tryd.prog .len [39] 3 [l1] w fun x37 w =>
          LoopS [x26, x35, (.int .i64 0)] 3 62 w fun us _ w Nx1 =>
            bodkinlaw07_RopeReplaces_L1 K Nx1 l1 x37 (hd us) (hd (tl us)) (hd (tl (tl us))) w))))

def bodkinlaw07_RopeReplaces.sc : SC := (.seq (.reg (.op 0 .done)) (.seq (.seq (.reg (.op 0 (.op 1 (.op 2 (.op 3 (.test 3 (.skip 4 (.skip 5 (.skip 6 (.op 7 .done)))) (.op 4 (.op 5 (.op 6 (.op 7 .done)))))))))) (.cond (.seq (.reg (.op 0 (.op 1 .done))) .nop) .nop)) (.seq (.reg (.op 0 (.op 1 (.op 2 (.op 3 (.op 4 (.op 5 (.op 6 .done)))))))) (.seq (.seq (.reg (.op 0 (.op 1 (.op 2 (.test 2 (.skip 3 (.skip 4 (.op 5 .done))) (.op 3 (.op 4 (.op 5 .done)))))))) (.cond (.seq (.reg (.op 0 .done)) .nop) .nop)) (.seq (.reg (.op 0 (.op 1 (.op 2 .done)))) (.seq (.seq (.reg (.op 0 (.op 1 (.op 2 .done)))) (.sub (.loop [5, 7, 38] [39, 40, 41, 9, 42, 43, 44, 45, 46, 4, 48, 49, 50, 51, 52, 53, 54, 55, 47, 56, 57, 10, 11, 59, 60, 61, 62, 63, 64, 65, 66, 67, 58, 68, 69, 12, 13, 70, 71, 72, 73, 74, 75, 76, 77, 78, 79, 80, 81, 82, 83, 84, 85, 86, 87, 88, 89, 90, 91, 92, 93, 94] (.seq (.reg (.op 0 .done)) (.seq (.cond .nop .nop) (.seq (.sub (.seq (.reg (.op 0 (.op 1 (.op 2 (.op 3 .done))))) (.seq (.seq (.reg (.op 0 (.op 1 (.op 2 (.op 3 .done))))) (.cond (.seq (.reg (.op 0 (.op 1 .done))) .nop) .nop)) (.seq (.reg (.op 0 (.op 1 (.op 2 (.op 3 (.op 4 (.op 5 (.op 6 (.op 7 (.op 8 (.op 9 (.op 10 (.op 11 (.op 12 .done)))))))))))))) (.seq (.reg (.op 0 (.op 1 (.op 2 (.op 3 (.op 4 (.op 5 (.op 6 (.op 7 (.op 8 (.op 9 (.op 10 (.op 11 (.op 12 (.op 13 .done))))))))))))))) (.seq (.seq (.reg (.op 0 (.op 1 (.op 2 (.op 3 (.test 3 (.skip 4 (.skip 5 (.skip 6 (.skip 7 (.skip 8 (.op 9 (.op 10 (.know 10 true (.skip 11 (.skip 12 (.skip 13 (.skip 14 (.op 15 .done))))))))))))) (.op 4 (.op 5 (.op 6 (.op 7 (.op 8 (.op 9 (.op 10 (.test 10 (.skip 11 (.skip 12 (.skip 13 (.skip 14 (.op 15 .done))))) (.op 11 (.op 12 (.op 13 (.op 14 (.op 15 .done))))))))))))))))))) (.cond (.seq (.reg (.op 0 .done)) .nop) .nop)) (.seq (.seq (.reg (.op 0 (.op 1 .done))) (.cond .nop .nop)) (.seq (.seq (.reg (.op 0 (.op 1 (.op 2 (.op 3 .done))))) (.cond (.seq (.reg (.op 0 .done)) .nop) .nop)) (.seq (.reg (.op 0 (.op 1 .done))) (.reg (.op 0 (.op 1 .done)))))))))))) (.reg (.op 0 (.op 1 .done))))))))) (.seq (.reg (.op 0 (.op 1 .done))) .nop)))))))

theorem bodkinlaw07_RopeReplaces.ok : okC Tryd.f7.ntmps bodkinlaw07_RopeReplaces.sc (bodyOf Tryd.f7) = true := by kernel_rfl

theorem bodkinlaw07_RopeReplaces.eq {K : K1} {s0 l1 : Value} {w : World} : bodkinlaw07_RopeReplaces K s0 l1 w = codeS Tryd.prog bodkinlaw07_RopeReplaces.sc (bodyOf Tryd.f7) (argsF 0 [s0, l1]) w (retQ Tryd.prog Tryd.f7.results.toList K) := by kernel_rfl

theorem bodkinlaw07_RopeReplaces.call {K : K1} {s0 l1 : Value} {w : World} (h : bodkinlaw07_RopeReplaces K s0 l1 w) : sCall Tryd.prog 7 [s0, l1] w K := sCall_code mixed Tryd.func7 (by kernel_rfl) rfl rfl bodkinlaw07_RopeReplaces.ok bodkinlaw07_RopeReplaces.eq h

abbrev bodkinlaw07_RopeReplaces.n : Nat := 7

/-- 'bodkin bodkinlaw07.RopeSlices' -/
def bodkinlaw07_RopeSlices_J2 (K : K1) (M1 : List Value → World → Prop) (from1 x24 x42 x43 : Value) (x51 : Value) (w : World) : Prop :=
  sIf x51 (
    sBin Tryd.prog .neq 24 false true x43 (.int .i64 1) w fun x53 w =>
    sIf x53 (
      K (.bool false) w) (
      sBin Tryd.prog .neq 21 false true x42 (.int .i32 0) w fun x56 w =>
      sIf x56 (
        K (.bool false) w) (
        M1 [] w))) (
    sBin Tryd.prog .neq 24 false true x43 (.int .i64 0) w fun x59 w =>
    sIf x59 (
      K (.bool false) w) (
      sIdxA Tryd.prog 27 x24 from1 w fun x64 w =>
      sLoad Tryd.prog 21 x64 w fun x65 w =>
      sBin Tryd.prog .neq 21 false false x42 x65 w fun x66 w =>
      sIf x66 (
        K (.bool false) w) (
        M1 [] w)))

def bodkinlaw07_RopeSlices_J1 (K : K1) (from1 to2 x24 x36 x37 : Value) (w : World) : Prop :=
  sBuiltin Tryd.prog .len [27] 3 [x24] w fun x69 w =>
  sCall Tryd.prog 25 [x69, from1, to2] w fun x72 w =>
  sUn Tryd.prog .not x72 w fun x73 w =>
  sIf x73 (
    sBin Tryd.prog .eql 24 false true x37 (.int .i64 1) w fun x75 w =>
    sIf x75 (
      sBin Tryd.prog .eql 9 false true x36 (.string ⟨#[]⟩) w fun x78 w =>
      sIf x78 (
        sCall Tryd.prog 11 [] w fun x81 w =>
        K x81 w) (
        K (.bool false) w)) (
      K (.bool false) w)) (
    sBin Tryd.prog .eql 24 false true x37 (.int .i64 0) w fun x84 w =>
    sIf x84 (
      sSlice Tryd.prog 27 x24 (some from1) (some to2) none w fun x90 w =>
      sCall Tryd.prog 26 [x90] w fun x91 w =>
      sBin Tryd.prog .eql 9 false false x36 x91 w fun x92 w =>
      sIf x92 (
        sCall Tryd.prog 11 [] w fun x95 w =>
        K x95 w) (
        K (.bool false) w)) (
      K (.bool false) w))

def bodkinlaw07_RopeSlices (K : K1) (s0 from1 to2 : Value) (w : World) : Prop :=
  sBuiltin Tryd.prog .len [9] 3 [s0] w fun x15 w =>
  sBin Tryd.prog .gtr 3 false true x15 (.int .i64 2000) w fun x16 w =>
  sIf x16 (
    sCall Tryd.prog 11 [] w fun x17 w =>
    K x17 w) (
    sCall Tryd.prog 12 [s0] w fun x20 w =>
    sExtract x20 0 w fun x21 w =>
    sExtract x20 1 w fun x22 w =>
    sCall Tryd.prog 13 [s0] w fun x24 w =>
    sBin Tryd.prog .neq 24 false true x22 (.int .i64 0) w fun x26 w =>
    sIf x26 (
      K (.bool false) w) (
      sBin Tryd.prog .eql 23 false true x21 (.pointer none) w fun x29 w =>
      sIf x29 (
        K (.bool false) w) (
        sCall Tryd.prog 23 [x21, from1, to2] w fun x35 w =>
        sExtract x35 0 w fun x36 w =>
        sExtract x35 1 w fun x37 w =>
        sCall Tryd.prog 24 [x21, from1] w fun x41 w =>
        sExtract x41 0 w fun x42 w =>
        sExtract x41 1 w fun x43 w =>
        JoinS 0 25 (fun M1 =>
          JoinS 1 7 (fun M2 =>
            sBin Tryd.prog .lss 3 false true from1 (.int .i64 0) w fun x45 w =>
            sIf x45 (
              M2 [(.bool true)] w) (
              sBuiltin Tryd.prog .len [27] 3 [x24] w fun x49 w =>
              sBin Tryd.prog .geq 3 false false from1 x49 w fun x50 w =>
              M2 [x50] w)) fun us _ w =>
            bodkinlaw07_RopeSlices_J2 K M1 from1 x24 x42 x43 (hd us) w) fun us _ w =>
          bodkinlaw07_RopeSlices_J1 K from1 to2 x24 x36 x37 w)))

def bodkinlaw07_RopeSlices.sc : SC := (.seq (.reg (.op 0 .done)) (.seq (.seq (.reg (.op 0 (.op 1 (.op 2 .done)))) (.cond (.seq (.reg (.op 0 (.op 1 .done))) .nop) .nop)) (.seq (.reg (.op 0 (.op 1 (.op 2 (.op 3 (.op 4 (.op 5 (.op 6 .done)))))))) (.seq (.reg (.op 0 (.op 1 (.op 2 .done)))) (.seq (.seq (.reg (.op 0 (.op 1 (.op 2 (.test 2 (.skip 3 (.skip 4 (.op 5 .done))) (.op 3 (.op 4 (.op 5 .done)))))))) (.cond (.seq (.reg (.op 0 .done)) .nop) .nop)) (.seq (.reg (.op 0 (.op 1 (.op 2 (.op 3 (.op 4 (.op 5 (.op 6 (.op 7 (.op 8 .done)))))))))) (.seq (.reg (.op 0 (.op 1 (.op 2 (.op 3 (.op 4 (.op 5 (.op 6 (.op 7 .done))))))))) (.join [] [44, 45, 46, 47, 48, 49, 50, 51, 52, 53, 54, 55, 56, 57, 6, 58, 59, 60, 61, 62, 63, 64, 65, 66, 67] (.join [51] [44, 45, 46, 47, 48, 49, 50] (.reg (.op 0 (.op 1 (.op 2 (.test 2 (.skip 3 (.skip 4 (.skip 5 (.skip 6 (.op 7 .done))))) (.op 3 (.op 4 (.op 5 (.op 6 (.op 7 .done)))))))))) (.cond (.seq (.reg (.op 0 (.op 1 (.op 2 (.test 2 (.skip 3 (.skip 4 (.op 5 .done))) (.op 3 (.op 4 (.op 5 .done)))))))) (.cond (.seq (.reg (.op 0 .done)) .nop) .nop)) (.seq (.reg (.op 0 (.op 1 (.op 2 (.test 2 (.skip 3 (.skip 4 (.skip 5 (.skip 6 (.skip 7 (.skip 8 (.op 9 .done))))))) (.op 3 (.op 4 (.op 5 (.op 6 (.op 7 (.op 8 (.op 9 .done)))))))))))) (.cond (.seq (.reg (.op 0 .done)) .nop) .nop)))) (.seq (.seq (.reg (.op 0 (.op 1 (.op 2 (.op 3 (.op 4 (.op 5 .done))))))) (.cond (.seq (.reg (.op 0 (.op 1 (.op 2 (.test 2 (.op 3 (.op 4 (.op 5 (.op 6 (.test 6 (.op 7 (.op 8 (.op 9 .done))) (.skip 7 (.op 8 (.op 9 .done)))))))) (.skip 3 (.skip 4 (.op 5 (.op 6 (.know 6 false (.skip 7 (.op 8 (.op 9 .done))))))))))))) .nop) .nop)) (.seq (.reg (.op 0 (.op 1 (.op 2 (.test 2 (.op 3 (.op 4 (.op 5 (.op 6 (.op 7 (.op 8 (.op 9 (.op 10 (.op 11 (.test 11 (.op 12 (.op 13 (.op 14 .done))) (.skip 12 (.op 13 (.op 14 .done))))))))))))) (.skip 3 (.skip 4 (.skip 5 (.skip 6 (.skip 7 (.skip 8 (.skip 9 (.op 10 (.op 11 (.know 11 false (.skip 12 (.op 13 (.op 14 .done)))))))))))))))))) .nop))))))))))

theorem bodkinlaw07_RopeSlices.ok : okC Tryd.f8.ntmps bodkinlaw07_RopeSlices.sc (bodyOf Tryd.f8) = true := by kernel_rfl

theorem bodkinlaw07_RopeSlices.eq {K : K1} {s0 from1 to2 : Value} {w : World} : bodkinlaw07_RopeSlices K s0 from1 to2 w = codeS Tryd.prog bodkinlaw07_RopeSlices.sc (bodyOf Tryd.f8) (argsF 0 [s0, from1, to2]) w (retQ Tryd.prog Tryd.f8.results.toList K) := by kernel_rfl

theorem bodkinlaw07_RopeSlices.call {K : K1} {s0 from1 to2 : Value} {w : World} (h : bodkinlaw07_RopeSlices K s0 from1 to2 w) : sCall Tryd.prog 8 [s0, from1, to2] w K := sCall_code mixed Tryd.func8 (by kernel_rfl) rfl rfl bodkinlaw07_RopeSlices.ok bodkinlaw07_RopeSlices.eq h

abbrev bodkinlaw07_RopeSlices.n : Nat := 8

/-- 'bodkin bodkinlaw07.RopeNil' -/
def bodkinlaw07_RopeNil (K : K1) (at0 : Value) (w : World) : Prop :=
  sCall Tryd.prog 14 [(.pointer none), at0] w fun x17 w =>
  sExtract x17 0 w fun x18 w =>
  sExtract x17 1 w fun x19 w =>
  sCall Tryd.prog 16 [(.pointer none), at0] w fun x23 w =>
  sExtract x23 0 w fun x24 w =>
  sExtract x23 1 w fun x25 w =>
  sCall Tryd.prog 24 [(.pointer none), at0] w fun x29 w =>
  sExtract x29 0 w fun x30 w =>
  sExtract x29 1 w fun x31 w =>
  sCall Tryd.prog 20 [(.pointer none), (.int .i64 0), (.int .i64 0), (.string ⟨#[97, 98]⟩)] w fun x34 w =>
  sExtract x34 0 w fun x35 w =>
  sExtract x34 1 w fun x36 w =>
  sCall Tryd.prog 27 [(.pointer none), (.int .i64 0)] w fun x39 w =>
  sExtract x39 0 w fun x40 w =>
  sExtract x39 1 w fun x41 w =>
  sBin Tryd.prog .eql 3 false true x18 (.int .i64 0) w fun x43 w =>
  sIf x43 (
    sBin Tryd.prog .eql 3 false true x24 (.int .i64 0) w fun x46 w =>
    sIf x46 (
      sBin Tryd.prog .eql 3 false true x40 (.int .i64 0) w fun x50 w =>
      sIf x50 (
        sBin Tryd.prog .eql 24 false true x19 (.int .i64 0) w fun x54 w =>
        sBin Tryd.prog .eql 3 false true at0 (.int .i64 0) w fun x56 w =>
        sBin Tryd.prog .eql 4 false false x54 x56 w fun x57 w =>
        sIf x57 (
          sBin Tryd.prog .eql 24 false true x25 (.int .i64 0) w fun x61 w =>
          sBin Tryd.prog .eql 3 false true at0 (.int .i64 0) w fun x63 w =>
          sBin Tryd.prog .eql 4 false false x61 x63 w fun x64 w =>
          sIf x64 (
            sBin Tryd.prog .eql 24 false true x31 (.int .i64 1) w fun x68 w =>
            sIf x68 (
              sBin Tryd.prog .eql 24 false true x36 (.int .i64 0) w fun x72 w =>
              sIf x72 (
                sBin Tryd.prog .eql 24 false true x41 (.int .i64 0) w fun x76 w =>
                sIf x76 (
                  sBin Tryd.prog .neq 23 false true x35 (.pointer none) w fun x80 w =>
                  sIf x80 (
                    sCall Tryd.prog 28 [x35] w fun x84 w =>
                    sBin Tryd.prog .eql 9 false true x84 (.string ⟨#[97, 98]⟩) w fun x85 w =>
                    sIf x85 (
                      sCall Tryd.prog 28 [(.pointer none)] w fun x89 w =>
                      sBin Tryd.prog .eql 9 false true x89 (.string ⟨#[]⟩) w fun x90 w =>
                      sIf x90 (
                        sCall Tryd.prog 18 [(.pointer none)] w fun x94 w =>
                        sCall Tryd.prog 19 [(.pointer none)] w fun x96 w =>
                        sCall Tryd.prog 30 [(.pointer none)] w fun x98 w =>
                        sCall Tryd.prog 31 [(.pointer none)] w fun x100 w =>
                        sBuildSlice Tryd.prog 55 4 [(0, x94), (1, x96), (2, x98), (3, x100)] w fun x101 w =>
                        sBuildSlice Tryd.prog 55 4 [(0, (.int .i64 0)), (1, (.int .i64 0)), (2, (.int .i64 0)), (3, (.int .i64 0))] w fun x102 w =>
                        sCall Tryd.prog 29 [x101, x102] w fun x103 w =>
                        sIf x103 (
                          sCall Tryd.prog 11 [] w fun x106 w =>
                          K x106 w) (
                          K (.bool false) w)) (
                        K (.bool false) w)) (
                      K (.bool false) w)) (
                    K (.bool false) w)) (
                  K (.bool false) w)) (
                K (.bool false) w)) (
              K (.bool false) w)) (
            K (.bool false) w)) (
          K (.bool false) w)) (
        K (.bool false) w)) (
      K (.bool false) w)) (
    K (.bool false) w)

def bodkinlaw07_RopeNil.sc : SC := (.seq (.reg (.op 0 .done)) (.seq (.reg (.op 0 .done)) (.seq (.reg (.op 0 (.op 1 (.op 2 (.op 3 (.op 4 (.op 5 (.op 6 (.op 7 .done))))))))) (.seq (.reg (.op 0 (.op 1 (.op 2 (.op 3 (.op 4 (.op 5 (.op 6 (.op 7 .done))))))))) (.seq (.reg (.op 0 (.op 1 (.op 2 (.op 3 (.op 4 (.op 5 (.op 6 (.op 7 .done))))))))) (.seq (.reg (.op 0 (.op 1 (.op 2 (.op 3 (.op 4 (.op 5 (.op 6 .done)))))))) (.seq (.reg (.op 0 (.op 1 (.op 2 (.op 3 (.op 4 (.op 5 (.op 6 .done)))))))) (.seq (.reg (.op 0 (.op 1 (.op 2 (.test 2 (.op 3 (.op 4 (.op 5 (.op 6 (.test 6 (.op 7 (.op 8 (.op 9 (.op 10 (.test 10 (.op 11 (.op 12 (.op 13 (.op 14 (.op 15 (.op 16 (.op 17 (.test 17 (.op 18 (.op 19 (.op 20 (.op 21 (.op 22 (.op 23 (.op 24 (.test 24 (.op 25 (.op 26 (.op 27 (.op 28 (.test 28 (.op 29 (.op 30 (.op 31 (.op 32 (.test 32 (.op 33 (.op 34 (.op 35 (.op 36 (.test 36 (.op 37 (.op 38 (.op 39 (.op 40 (.test 40 (.op 41 (.op 42 (.op 43 (.op 44 (.op 45 (.test 45 (.op 46 (.op 47 (.op 48 (.op 49 (.op 50 (.test 50 (.op 51 (.op 52 (.op 53 (.op 54 (.op 55 (.op 56 (.op 57 (.op 58 (.op 59 (.op 60 (.op 61 (.op 62 (.op 63 (.test 63 (.op 64 (.op 65 (.op 66 .done))) (.skip 64 (.op 65 (.op 66 .done))))))))))))))))) (.skip 51 (.skip 52 (.skip 53 (.skip 54 (.skip 55 (.skip 56 (.skip 57 (.skip 58 (.skip 59 (.skip 60 (.skip 61 (.op 62 (.op 63 (.know 63 false (.skip 64 (.op 65 (.op 66 .done))))))))))))))))))))))) (.skip 46 (.skip 47 (.skip 48 (.op 49 (.op 50 (.know 50 false (.skip 51 (.skip 52 (.skip 53 (.skip 54 (.skip 55 (.skip 56 (.skip 57 (.skip 58 (.skip 59 (.skip 60 (.skip 61 (.op 62 (.op 63 (.know 63 false (.skip 64 (.op 65 (.op 66 .done))))))))))))))))))))))))))))) (.skip 41 (.skip 42 (.skip 43 (.op 44 (.op 45 (.know 45 false (.skip 46 (.skip 47 (.skip 48 (.op 49 (.op 50 (.know 50 false (.skip 51 (.skip 52 (.skip 53 (.skip 54 (.skip 55 (.skip 56 (.skip 57 (.skip 58 (.skip 59 (.skip 60 (.skip 61 (.op 62 (.op 63 (.know 63 false (.skip 64 (.op 65 (.op 66 .done)))))))))))))))))))))))))))))))))) (.skip 37 (.skip 38 (.op 39 (.op 40 (.know 40 false (.skip 41 (.skip 42 (.skip 43 (.op 44 (.op 45 (.know 45 false (.skip 46 (.skip 47 (.skip 48 (.op 49 (.op 50 (.know 50 false (.skip 51 (.skip 52 (.skip 53 (.skip 54 (.skip 55 (.skip 56 (.skip 57 (.skip 58 (.skip 59 (.skip 60 (.skip 61 (.op 62 (.op 63 (.know 63 false (.skip 64 (.op 65 (.op 66 .done))))))))))))))))))))))))))))))))))))))) (.skip 33 (.skip 34 (.op 35 (.op 36 (.know 36 false (.skip 37 (.skip 38 (.op 39 (.op 40 (.know 40 false (.skip 41 (.skip 42 (.skip 43 (.op 44 (.op 45 (.know 45 false (.skip 46 (.skip 47 (.skip 48 (.op 49 (.op 50 (.know 50 false (.skip 51 (.skip 52 (.skip 53 (.skip 54 (.skip 55 (.skip 56 (.skip 57 (.skip 58 (.skip 59 (.skip 60 (.skip 61 (.op 62 (.op 63 (.know 63 false (.skip 64 (.op 65 (.op 66 .done)))))))))))))))))))))))))))))))))))))))))))) (.skip 29 (.skip 30 (.op 31 (.op 32 (.know 32 false (.skip 33 (.skip 34 (.op 35 (.op 36 (.know 36 false (.skip 37 (.skip 38 (.op 39 (.op 40 (.know 40 false (.skip 41 (.skip 42 (.skip 43 (.op 44 (.op 45 (.know 45 false (.skip 46 (.skip 47 (.skip 48 (.op 49 (.op 50 (.know 50 false (.skip 51 (.skip 52 (.skip 53 (.skip 54 (.skip 55 (.skip 56 (.skip 57 (.skip 58 (.skip 59 (.skip 60 (.skip 61 (.op 62 (.op 63 (.know 63 false (.skip 64 (.op 65 (.op 66 .done))))))))))))))))))))))))))))))))))))))))))))))))) (.skip 25 (.skip 26 (.op 27 (.op 28 (.know 28 false (.skip 29 (.skip 30 (.op 31 (.op 32 (.know 32 false (.skip 33 (.skip 34 (.op 35 (.op 36 (.know 36 false (.skip 37 (.skip 38 (.op 39 (.op 40 (.know 40 false (.skip 41 (.skip 42 (.skip 43 (.op 44 (.op 45 (.know 45 false (.skip 46 (.skip 47 (.skip 48 (.op 49 (.op 50 (.know 50 false (.skip 51 (.skip 52 (.skip 53 (.skip 54 (.skip 55 (.skip 56 (.skip 57 (.skip 58 (.skip 59 (.skip 60 (.skip 61 (.op 62 (.op 63 (.know 63 false (.skip 64 (.op 65 (.op 66 .done))))))))))))))))))))))))))))))))))))))))))))))))))))))))) (.skip 18 (.skip 19 (.skip 20 (.skip 21 (.skip 22 (.op 23 (.op 24 (.know 24 false (.skip 25 (.skip 26 (.op 27 (.op 28 (.know 28 false (.skip 29 (.skip 30 (.op 31 (.op 32 (.know 32 false (.skip 33 (.skip 34 (.op 35 (.op 36 (.know 36 false (.skip 37 (.skip 38 (.op 39 (.op 40 (.know 40 false (.skip 41 (.skip 42 (.skip 43 (.op 44 (.op 45 (.know 45 false (.skip 46 (.skip 47 (.skip 48 (.op 49 (.op 50 (.know 50 false (.skip 51 (.skip 52 (.skip 53 (.skip 54 (.skip 55 (.skip 56 (.skip 57 (.skip 58 (.skip 59 (.skip 60 (.skip 61 (.op 62 (.op 63 (.know 63 false (.skip 64 (.op 65 (.op 66 .done))))))))))))))))))))))))))))))))))))))))))))))))))))))))))))))))) (.skip 11 (.skip 12 (.skip 13 (.skip 14 (.skip 15 (.op 16 (.op 17 (.know 17 false (.skip 18 (.skip 19 (.skip 20 (.skip 21 (.skip 22 (.op 23 (.op 24 (.know 24 false (.skip 25 (.skip 26 (.op 27 (.op 28 (.know 28 false (.skip 29 (.skip 30 (.op 31 (.op 32 (.know 32 false (.skip 33 (.skip 34 (.op 35 (.op 36 (.know 36 false (.skip 37 (.skip 38 (.op 39 (.op 40 (.know 40 false (.skip 41 (.skip 42 (.skip 43 (.op 44 (.op 45 (.know 45 false (.skip 46 (.skip 47 (.skip 48 (.op 49 (.op 50 (.know 50 false (.skip 51 (.skip 52 (.skip 53 (.skip 54 (.skip 55 (.skip 56 (.skip 57 (.skip 58 (.skip 59 (.skip 60 (.skip 61 (.op 62 (.op 63 (.know 63 false (.skip 64 (.op 65 (.op 66 .done)))))))))))))))))))))))))))))))))))))))))))))))))))))))))))))))))))))) (.skip 7 (.skip 8 (.op 9 (.op 10 (.know 10 false (.skip 11 (.skip 12 (.skip 13 (.skip 14 (.skip 15 (.op 16 (.op 17 (.know 17 false (.skip 18 (.skip 19 (.skip 20 (.skip 21 (.skip 22 (.op 23 (.op 24 (.know 24 false (.skip 25 (.skip 26 (.op 27 (.op 28 (.know 28 false (.skip 29 (.skip 30 (.op 31 (.op 32 (.know 32 false (.skip 33 (.skip 34 (.op 35 (.op 36 (.know 36 false (.skip 37 (.skip 38 (.op 39 (.op 40 (.know 40 false (.skip 41 (.skip 42 (.skip 43 (.op 44 (.op 45 (.know 45 false (.skip 46 (.skip 47 (.skip 48 (.op 49 (.op 50 (.know 50 false (.skip 51 (.skip 52 (.skip 53 (.skip 54 (.skip 55 (.skip 56 (.skip 57 (.skip 58 (.skip 59 (.skip 60 (.skip 61 (.op 62 (.op 63 (.know 63 false (.skip 64 (.op 65 (.op 66 .done))))))))))))))))))))))))))))))))))))))))))))))))))))))))))))))))))))))))))) (.skip 3 (.skip 4 (.op 5 (.op 6 (.know 6 false (.skip 7 (.skip 8 (.op 9 (.op 10 (.know 10 false (.skip 11 (.skip 12 (.skip 13 (.skip 14 (.skip 15 (.op 16 (.op 17 (.know 17 false (.skip 18 (.skip 19 (.skip 20 (.skip 21 (.skip 22 (.op 23 (.op 24 (.know 24 false (.skip 25 (.skip 26 (.op 27 (.op 28 (.know 28 false (.skip 29 (.skip 30 (.op 31 (.op 32 (.know 32 false (.skip 33 (.skip 34 (.op 35 (.op 36 (.know 36 false (.skip 37 (.skip 38 (.op 39 (.op 40 (.know 40 false (.skip 41 (.skip 42 (.skip 43 (.op 44 (.op 45 (.know 45 false (.skip 46 (.skip 47 (.skip 48 (.op 49 (.op 50 (.know 50 false (.skip 51 (.skip 52 (.skip 53 (.skip 54 (.skip 55 (.skip 56 (.skip 57 (.skip 58 (.skip 59 (.skip 60 (.skip 61 (.op 62 (.op 63 (.know 63 false (.skip 64 (.op 65 (.op 66 .done)))))))))))))))))))))))))))))))))))))))))))))))))))))))))))))))))))))))))))))))) .nop))))))))

theorem bodkinlaw07_RopeNil.ok : okC Tryd.f9.ntmps bodkinlaw07_RopeNil.sc (bodyOf Tryd.f9) = true := by kernel_rfl

theorem bodkinlaw07_RopeNil.eq {K : K1} {at0 : Value} {w : World} : bodkinlaw07_RopeNil K at0 w = codeS Tryd.prog bodkinlaw07_RopeNil.sc (bodyOf Tryd.f9) (argsF 0 [at0]) w (retQ Tryd.prog Tryd.f9.results.toList K) := by kernel_rfl

theorem bodkinlaw07_RopeNil.call {K : K1} {at0 : Value} {w : World} (h : bodkinlaw07_RopeNil K at0 w) : sCall Tryd.prog 9 [at0] w K := sCall_code mixed Tryd.func9 (by kernel_rfl) rfl rfl bodkinlaw07_RopeNil.ok bodkinlaw07_RopeNil.eq h

abbrev bodkinlaw07_RopeNil.n : Nat := 9

/-- 'bodkin bodkinlaw07.RopeBreaks' -/
def bodkinlaw07_RopeBreaks (K : K1) (s0 k1 : Value) (w : World) : Prop :=
  sBuiltin Tryd.prog .len [9] 3 [s0] w fun x17 w =>
  sBin Tryd.prog .gtr 3 false true x17 (.int .i64 2000) w fun x18 w =>
  sIf x18 (
    sCall Tryd.prog 11 [] w fun x19 w =>
    K x19 w) (
    sCall Tryd.prog 12 [s0] w fun x22 w =>
    sExtract x22 0 w fun x23 w =>
    sExtract x22 1 w fun x24 w =>
    sCall Tryd.prog 13 [s0] w fun x26 w =>
    sBin Tryd.prog .neq 24 false true x24 (.int .i64 0) w fun x28 w =>
    sIf x28 (
      K (.bool false) w) (
      sBin Tryd.prog .eql 23 false true x23 (.pointer none) w fun x31 w =>
      sIf x31 (
        K (.bool false) w) (
        sCall Tryd.prog 27 [x23, k1] w fun x36 w =>
        sExtract x36 0 w fun x37 w =>
        sExtract x36 1 w fun x38 w =>
        sCall Tryd.prog 32 [x26, k1] w fun x42 w =>
        sExtract x42 0 w fun x43 w =>
        sExtract x42 1 w fun x44 w =>
        sCall Tryd.prog 33 [x23, k1] w fun x48 w =>
        sExtract x48 0 w fun x49 w =>
        sExtract x48 1 w fun x50 w =>
        sCall Tryd.prog 34 [x26, k1] w fun x54 w =>
        sExtract x54 0 w fun x55 w =>
        sExtract x54 1 w fun x56 w =>
        sBin Tryd.prog .eql 3 false false x37 x43 w fun x59 w =>
        sIf x59 (
          sBin Tryd.prog .eql 3 false false x38 x44 w fun x63 w =>
          sIf x63 (
            sBin Tryd.prog .eql 3 false false x49 x55 w fun x68 w =>
            sIf x68 (
              sBin Tryd.prog .eql 3 false false x50 x56 w fun x73 w =>
              sIf x73 (
                sCall Tryd.prog 11 [] w fun x76 w =>
                K x76 w) (
                K (.bool false) w)) (
              K (.bool false) w)) (
            K (.bool false) w)) (
          K (.bool false) w))))

def bodkinlaw07_RopeBreaks.sc : SC := (.seq (.reg (.op 0 .done)) (.seq (.seq (.reg (.op 0 (.op 1 (.op 2 .done)))) (.cond (.seq (.reg (.op 0 (.op 1 .done))) .nop) .nop)) (.seq (.reg (.op 0 (.op 1 (.op 2 (.op 3 (.op 4 (.op 5 (.op 6 .done)))))))) (.seq (.reg (.op 0 (.op 1 (.op 2 .done)))) (.seq (.seq (.reg (.op 0 (.op 1 (.op 2 (.test 2 (.skip 3 (.skip 4 (.op 5 .done))) (.op 3 (.op 4 (.op 5 .done)))))))) (.cond (.seq (.reg (.op 0 .done)) .nop) .nop)) (.seq (.reg (.op 0 (.op 1 (.op 2 (.op 3 (.op 4 (.op 5 (.op 6 (.op 7 .done))))))))) (.seq (.reg (.op 0 (.op 1 (.op 2 (.op 3 (.op 4 (.op 5 (.op 6 (.op 7 .done))))))))) (.seq (.reg (.op 0 (.op 1 (.op 2 (.op 3 (.op 4 (.op 5 (.op 6 (.op 7 .done))))))))) (.seq (.reg (.op 0 (.op 1 (.op 2 (.op 3 (.op 4 (.op 5 (.op 6 (.op 7 .done))))))))) (.seq (.reg (.op 0 (.op 1 (.op 2 (.op 3 (.test 3 (.op 4 (.op 5 (.op 6 (.op 7 (.op 8 (.test 8 (.op 9 (.op 10 (.op 11 (.op 12 (.op 13 (.test 13 (.op 14 (.op 15 (.op 16 (.op 17 (.op 18 (.test 18 (.op 19 (.op 20 (.op 21 .done))) (.skip 19 (.op 20 (.op 21 .done))))))))) (.skip 14 (.skip 15 (.skip 16 (.op 17 (.op 18 (.know 18 false (.skip 19 (.op 20 (.op 21 .done))))))))))))))) (.skip 9 (.skip 10 (.skip 11 (.op 12 (.op 13 (.know 13 false (.skip 14 (.skip 15 (.skip 16 (.op 17 (.op 18 (.know 18 false (.skip 19 (.op 20 (.op 21 .done))))))))))))))))))))) (.skip 4 (.skip 5 (.skip 6 (.op 7 (.op 8 (.know 8 false (.skip 9 (.skip 10 (.skip 11 (.op 12 (.op 13 (.know 13 false (.skip 14 (.skip 15 (.skip 16 (.op 17 (.op 18 (.know 18 false (.skip 19 (.op 20 (.op 21 .done))))))))))))))))))))))))))) .nop))))))))))

theorem bodkinlaw07_RopeBreaks.ok : okC Tryd.f10.ntmps bodkinlaw07_RopeBreaks.sc (bodyOf Tryd.f10) = true := by kernel_rfl

theorem bodkinlaw07_RopeBreaks.eq {K : K1} {s0 k1 : Value} {w : World} : bodkinlaw07_RopeBreaks K s0 k1 w = codeS Tryd.prog bodkinlaw07_RopeBreaks.sc (bodyOf Tryd.f10) (argsF 0 [s0, k1]) w (retQ Tryd.prog Tryd.f10.results.toList K) := by kernel_rfl

theorem bodkinlaw07_RopeBreaks.call {K : K1} {s0 k1 : Value} {w : World} (h : bodkinlaw07_RopeBreaks K s0 k1 w) : sCall Tryd.prog 10 [s0, k1] w K := sCall_code mixed Tryd.func10 (by kernel_rfl) rfl rfl bodkinlaw07_RopeBreaks.ok bodkinlaw07_RopeBreaks.eq h

abbrev bodkinlaw07_RopeBreaks.n : Nat := 10

/-- 'bodkin bodkinlaw07.wide' -/
def bodkinlaw07_wide (K : K1) (w : World) : Prop :=
  sCall Tryd.prog 12 [(.string ⟨#[97, 228, 184, 128, 98]⟩)] w fun x10 w =>
  sExtract x10 0 w fun x11 w =>
  sExtract x10 1 w fun x12 w =>
  sCall Tryd.prog 14 [x11, (.int .i64 4)] w fun x15 w =>
  sExtract x15 0 w fun x16 w =>
  sExtract x15 1 w fun x17 w =>
  sCall Tryd.prog 14 [x11, (.int .i64 2)] w fun x20 w =>
  sExtract x20 0 w fun x21 w =>
  sExtract x20 1 w fun x22 w =>
  sCall Tryd.prog 20 [x11, (.int .i64 1), (.int .i64 2), (.string ⟨#[120, 121]⟩)] w fun x25 w =>
  sExtract x25 0 w fun x26 w =>
  sExtract x25 1 w fun x27 w =>
  sBin Tryd.prog .eql 24 false true x12 (.int .i64 0) w fun x29 w =>
  sIf x29 (
    sBin Tryd.prog .eql 24 false true x17 (.int .i64 0) w fun x32 w =>
    sIf x32 (
      sBin Tryd.prog .eql 24 false true x27 (.int .i64 0) w fun x36 w =>
      sIf x36 (
        sBin Tryd.prog .eql 3 false true x16 (.int .i64 2) w fun x40 w =>
        sIf x40 (
          sBin Tryd.prog .eql 24 false true x22 (.int .i64 70) w fun x44 w =>
          sIf x44 (
            sCall Tryd.prog 28 [x26] w fun x48 w =>
            sBin Tryd.prog .eql 9 false true x48 (.string ⟨#[97, 120, 121, 98]⟩) w fun x49 w =>
            sIf x49 (
              sCall Tryd.prog 18 [x11] w fun x53 w =>
              sBin Tryd.prog .eql 3 false true x53 (.int .i64 3) w fun x54 w =>
              sIf x54 (
                sCall Tryd.prog 19 [x11] w fun x58 w =>
                sBin Tryd.prog .eql 3 false true x58 (.int .i64 5) w fun x59 w =>
                K x59 w) (
                K (.bool false) w)) (
              K (.bool false) w)) (
            K (.bool false) w)) (
          K (.bool false) w)) (
        K (.bool false) w)) (
      K (.bool false) w)) (
    K (.bool false) w)

def bodkinlaw07_wide.sc : SC := (.seq (.reg (.op 0 .done)) (.seq (.reg (.op 0 (.op 1 (.op 2 (.op 3 (.op 4 (.op 5 .done))))))) (.seq (.reg (.op 0 (.op 1 (.op 2 (.op 3 (.op 4 (.op 5 (.op 6 .done)))))))) (.seq (.reg (.op 0 (.op 1 (.op 2 (.op 3 (.op 4 (.op 5 (.op 6 .done)))))))) (.seq (.reg (.op 0 (.op 1 (.op 2 (.op 3 (.op 4 (.op 5 (.op 6 .done)))))))) (.seq (.reg (.op 0 (.op 1 (.op 2 (.test 2 (.op 3 (.op 4 (.op 5 (.op 6 (.test 6 (.op 7 (.op 8 (.op 9 (.op 10 (.test 10 (.op 11 (.op 12 (.op 13 (.op 14 (.test 14 (.op 15 (.op 16 (.op 17 (.op 18 (.test 18 (.op 19 (.op 20 (.op 21 (.op 22 (.op 23 (.test 23 (.op 24 (.op 25 (.op 26 (.op 27 (.op 28 (.test 28 (.op 29 (.op 30 (.op 31 (.op 32 (.op 33 .done))))) (.skip 29 (.skip 30 (.skip 31 (.op 32 (.op 33 .done))))))))))) (.skip 24 (.skip 25 (.skip 26 (.op 27 (.op 28 (.know 28 false (.skip 29 (.skip 30 (.skip 31 (.op 32 (.op 33 .done))))))))))))))))) (.skip 19 (.skip 20 (.skip 21 (.op 22 (.op 23 (.know 23 false (.skip 24 (.skip 25 (.skip 26 (.op 27 (.op 28 (.know 28 false (.skip 29 (.skip 30 (.skip 31 (.op 32 (.op 33 .done)))))))))))))))))))))) (.skip 15 (.skip 16 (.op 17 (.op 18 (.know 18 false (.skip 19 (.skip 20 (.skip 21 (.op 22 (.op 23 (.know 23 false (.skip 24 (.skip 25 (.skip 26 (.op 27 (.op 28 (.know 28 false (.skip 29 (.skip 30 (.skip 31 (.op 32 (.op 33 .done))))))))))))))))))))))))))) (.skip 11 (.skip 12 (.op 13 (.op 14 (.know 14 false (.skip 15 (.skip 16 (.op 17 (.op 18 (.know 18 false (.skip 19 (.skip 20 (.skip 21 (.op 22 (.op 23 (.know 23 false (.skip 24 (.skip 25 (.skip 26 (.op 27 (.op 28 (.know 28 false (.skip 29 (.skip 30 (.skip 31 (.op 32 (.op 33 .done)))))))))))))))))))))))))))))))) (.skip 7 (.skip 8 (.op 9 (.op 10 (.know 10 false (.skip 11 (.skip 12 (.op 13 (.op 14 (.know 14 false (.skip 15 (.skip 16 (.op 17 (.op 18 (.know 18 false (.skip 19 (.skip 20 (.skip 21 (.op 22 (.op 23 (.know 23 false (.skip 24 (.skip 25 (.skip 26 (.op 27 (.op 28 (.know 28 false (.skip 29 (.skip 30 (.skip 31 (.op 32 (.op 33 .done))))))))))))))))))))))))))))))))))))) (.skip 3 (.skip 4 (.op 5 (.op 6 (.know 6 false (.skip 7 (.skip 8 (.op 9 (.op 10 (.know 10 false (.skip 11 (.skip 12 (.op 13 (.op 14 (.know 14 false (.skip 15 (.skip 16 (.op 17 (.op 18 (.know 18 false (.skip 19 (.skip 20 (.skip 21 (.op 22 (.op 23 (.know 23 false (.skip 24 (.skip 25 (.skip 26 (.op 27 (.op 28 (.know 28 false (.skip 29 (.skip 30 (.skip 31 (.op 32 (.op 33 .done)))))))))))))))))))))))))))))))))))))))))) .nop))))))

theorem bodkinlaw07_wide.ok : okC Tryd.f11.ntmps bodkinlaw07_wide.sc (bodyOf Tryd.f11) = true := by kernel_rfl

theorem bodkinlaw07_wide.eq {K : K1} {w : World} : bodkinlaw07_wide K  w = codeS Tryd.prog bodkinlaw07_wide.sc (bodyOf Tryd.f11) (argsF 0 []) w (retQ Tryd.prog Tryd.f11.results.toList K) := by kernel_rfl

theorem bodkinlaw07_wide.call {K : K1} {w : World} (h : bodkinlaw07_wide K  w) : sCall Tryd.prog 11 [] w K := sCall_code mixed Tryd.func11 (by kernel_rfl) rfl rfl bodkinlaw07_wide.ok bodkinlaw07_wide.eq h

abbrev bodkinlaw07_wide.n : Nat := 11

/-- 'bodkin rope.New' -/
def rope_New (K : K1) (s0 : Value) (w : World) : Prop :=
  sCall Tryd.prog 35 [s0] w fun x8 w =>
  sBuiltin Tryd.prog .len [27] 3 [x8] w fun x10 w =>
  sBin Tryd.prog .gtr 3 false true x10 (.int .i64 20000) w fun x11 w =>
  sIf x11 (
    K (.tuple #[(.pointer none), (.int .i64 5)]) w) (
    sCall Tryd.prog 37 [x8] w fun x14 w =>
    sCall Tryd.prog 36 [x14] w fun x15 w =>
    sExtract x15 0 w fun x16 w =>
    sExtract x15 1 w fun x17 w =>
    sBin Tryd.prog .neq 24 false true x17 (.int .i64 0) w fun x19 w =>
    sIf x19 (
      K (.tuple #[(.pointer none), x17]) w) (
      sBuild Tryd.prog 63 [(0, x16)] w fun x22 w =>
      sBox Tryd.prog 63 x22 w fun x23 w =>
      K (.tuple #[x23, (.int .i64 0)]) w))

def rope_New.sc : SC := (.seq (.reg (.op 0 (.op 1 .done))) (.seq (.reg (.op 0 (.op 1 (.op 2 .done)))) (.seq (.seq (.reg (.op 0 (.op 1 (.op 2 .done)))) (.cond (.seq (.reg (.op 0 (.op 1 .done))) .nop) .nop)) (.seq (.reg (.op 0 (.op 1 (.op 2 (.op 3 (.op 4 (.op 5 (.op 6 (.op 7 .done))))))))) (.seq (.seq (.reg (.op 0 (.op 1 .done))) (.cond (.seq (.reg (.op 0 (.op 1 (.op 2 .done)))) .nop) .nop)) (.seq (.reg (.op 0 (.op 1 (.op 2 (.op 3 (.op 4 .done)))))) .nop))))))

theorem rope_New.ok : okC Tryd.f12.ntmps rope_New.sc (bodyOf Tryd.f12) = true := by kernel_rfl

theorem rope_New.eq {K : K1} {s0 : Value} {w : World} : rope_New K s0 w = codeS Tryd.prog rope_New.sc (bodyOf Tryd.f12) (argsF 0 [s0]) w (retQ Tryd.prog Tryd.f12.results.toList K) := by kernel_rfl

theorem rope_New.call {K : K1} {s0 : Value} {w : World} (h : rope_New K s0 w) : sCall Tryd.prog 12 [s0] w K := sCall_code mixed Tryd.func12 (by kernel_rfl) rfl rfl rope_New.ok rope_New.eq h

abbrev rope_New.n : Nat := 12

/-- 'bodkin bodkinref01.Decode' -/
def bodkinref01_Decode_L1 (K : K1) (Nx1 : List Value → World → Prop) (s0 : Value) (out3 at4 : Value) (w : World) : Prop :=
  sBuiltin Tryd.prog .len [9] 3 [s0] w fun x8 w =>
  sBin Tryd.prog .lss 3 false false at4 x8 w fun x9 w =>
  sIf x9 (
    sCall Tryd.prog 38 [s0, at4] w fun x12 w =>
    sAlloc Tryd.prog 65 w fun x5 w =>
    sStore Tryd.prog 65 x5 x12 w fun w =>
    sFldA Tryd.prog 65 x5 0 w fun x14 w =>
    sLoad Tryd.prog 21 x14 w fun x15 w =>
    sBuildSlice Tryd.prog 27 1 [(0, x15)] w fun x16 w =>
    sBuiltin Tryd.prog .append [27, 27] 27 [out3, x16] w fun x17 w =>
    sFldA Tryd.prog 65 x5 1 w fun x19 w =>
    sLoad Tryd.prog 3 x19 w fun x20 w =>
    sBin Tryd.prog .add 3 false false at4 x20 w fun x21 w =>
    Nx1 [x17, x21] w) (
    K out3 w)

def bodkinref01_Decode (K : K1) (s0 : Value) (w : World) : Prop :=
  LoopS [(.slice none 0 0), (.int .i64 0)] 2 17 w fun us _ w Nx1 =>
    bodkinref01_Decode_L1 K Nx1 s0 (hd us) (hd (tl us)) w

def bodkinref01_Decode.sc : SC := (.seq (.reg (.op 0 .done)) (.seq (.reg (.op 0 .done)) (.seq (.reg (.op 0 .done)) (.seq (.sub (.loop [3, 4] [6, 7, 8, 9, 10, 11, 12, 5, 13, 14, 15, 16, 17, 18, 19, 20, 21] (.seq (.seq (.reg (.op 0 (.op 1 (.op 2 (.op 3 .done))))) (.cond .nop .nop)) (.sub (.seq (.reg (.op 0 (.op 1 (.op 2 (.op 3 (.op 4 .done)))))) (.seq (.reg (.op 0 (.op 1 (.op 2 (.op 3 (.op 4 (.op 5 .done))))))) (.reg (.op 0 (.op 1 (.op 2 (.op 3 (.op 4 .done)))))))))))) (.seq (.reg (.op 0 (.op 1 .done))) .nop)))))

theorem bodkinref01_Decode.ok : okC Tryd.f13.ntmps bodkinref01_Decode.sc (bodyOf Tryd.f13) = true := by kernel_rfl

theorem bodkinref01_Decode.eq {K : K1} {s0 : Value} {w : World} : bodkinref01_Decode K s0 w = codeS Tryd.prog bodkinref01_Decode.sc (bodyOf Tryd.f13) (argsF 0 [s0]) w (retQ Tryd.prog Tryd.f13.results.toList K) := by kernel_rfl

theorem bodkinref01_Decode.call {K : K1} {s0 : Value} {w : World} (h : bodkinref01_Decode K s0 w) : sCall Tryd.prog 13 [s0] w K := sCall_code mixed Tryd.func13 (by kernel_rfl) rfl rfl bodkinref01_Decode.ok bodkinref01_Decode.eq h

abbrev bodkinref01_Decode.n : Nat := 13

/-- '(*bodkin rope.Rope).RuneAt' -/
def rope_Rope_RuneAt_L1 (K : K1) (Nx1 : List Value → World → Prop) (at1 r0 s6 x29 : Value) (n9 : Value) (w : World) : Prop :=
  sNext Tryd.prog x29 true 0 w fun x30 w =>
  sExtract x30 0 w fun x31 w =>
  sIf x31 (
    sExtract x30 1 w fun x32 w =>
    sFldA Tryd.prog 73 s6 0 w fun x33 w =>
    sFldA Tryd.prog 69 x33 1 w fun x34 w =>
    sIdxA Tryd.prog 67 x34 (.int .i64 0) w fun x35 w =>
    sLoad Tryd.prog 3 x35 w fun x36 w =>
    sBin Tryd.prog .add 3 false false x36 x32 w fun x38 w =>
    sBin Tryd.prog .eql 3 false false x38 at1 w fun x42 w =>
    sIf x42 (
      K (.tuple #[n9, (.int .i64 0)]) w) (
      sBin Tryd.prog .gtr 3 false false x38 at1 w fun x47 w =>
      sIf x47 (
        K (.tuple #[(.int .i64 0), (.int .i64 70)]) w) (
        sBin Tryd.prog .add 3 false true n9 (.int .i64 1) w fun x49 w =>
        Nx1 [x49] w))) (
    sCall Tryd.prog 19 [r0] w fun x52 w =>
    sBin Tryd.prog .eql 3 false false at1 x52 w fun x53 w =>
    sIf x53 (
      sCall Tryd.prog 18 [r0] w fun x55 w =>
      K (.tuple #[x55, (.int .i64 0)]) w) (
      K (.tuple #[(.int .i64 0), (.int .i64 70)]) w))

def rope_Rope_RuneAt (K : K1) (r0 at1 : Value) (w : World) : Prop :=
  sCall Tryd.prog 39 [r0, (.int .i64 0), at1, (.int .i64 1)] w fun x15 w =>
  sExtract x15 0 w fun x16 w =>
  sExtract x15 1 w fun x17 w =>
  sExtract x15 2 w fun x18 w =>
  sAlloc Tryd.prog 73 w fun s6 w =>
  sStore Tryd.prog 73 s6 x16 w fun w =>
  sBin Tryd.prog .neq 24 false true x18 (.int .i64 0) w fun x20 w =>
  sIf x20 (
    K (.tuple #[(.int .i64 0), x18]) w) (
    sFldA Tryd.prog 73 s6 0 w fun x22 w =>
    sFldA Tryd.prog 69 x22 1 w fun x23 w =>
    sIdxA Tryd.prog 67 x23 (.int .i64 1) w fun x24 w =>
    sLoad Tryd.prog 3 x24 w fun x25 w =>
    sFldA Tryd.prog 73 s6 1 w fun x26 w =>
    sFldA Tryd.prog 71 x26 4 w fun x27 w =>
    sLoad Tryd.prog 9 x27 w fun x28 w =>
    sRange Tryd.prog 9 x28 w fun x29 w =>
    LoopS [x25] 1 24 w fun us _ w Nx1 =>
      rope_Rope_RuneAt_L1 K Nx1 at1 r0 s6 x29 (hd us) w)

def rope_Rope_RuneAt.sc : SC := (.seq (.reg (.op 0 (.op 1 .done))) (.seq (.reg (.op 0 (.op 1 (.op 2 (.op 3 (.op 4 (.op 5 (.op 6 (.op 7 (.op 8 (.op 9 (.op 10 .done)))))))))))) (.seq (.seq (.reg (.op 0 (.op 1 .done))) (.cond (.seq (.reg (.op 0 (.op 1 (.op 2 .done)))) .nop) .nop)) (.seq (.reg (.op 0 (.op 1 (.op 2 (.op 3 (.op 4 .done)))))) (.seq (.seq (.reg (.op 0 (.op 1 (.op 2 (.op 3 .done))))) (.sub (.loop [9] [30, 31, 32, 10, 33, 34, 35, 36, 37, 38, 11, 40, 41, 42, 39, 43, 4, 5, 45, 46, 47, 44, 48, 49] (.seq (.reg (.op 0 (.op 1 .done))) (.seq (.cond .nop .nop) (.sub (.seq (.reg (.op 0 (.op 1 .done))) (.seq (.seq (.reg (.op 0 (.op 1 (.op 2 (.op 3 (.op 4 (.op 5 (.op 6 .done)))))))) (.sub (.seq (.reg (.op 0 (.op 1 (.op 2 (.op 3 .done))))) (.cond (.seq (.reg (.op 0 (.op 1 (.op 2 .done)))) .nop) (.seq (.reg (.op 0 (.op 1 (.op 2 (.op 3 .done))))) (.cond (.seq (.reg (.op 0 (.op 1 .done))) .nop) .nop)))))) (.reg (.op 0 (.op 1 (.op 2 .done)))))))))))) (.seq (.seq (.reg (.op 0 (.op 1 (.op 2 (.op 3 .done))))) (.cond (.seq (.reg (.op 0 (.op 1 (.op 2 (.op 3 .done))))) .nop) .nop)) (.seq (.reg (.op 0 (.op 1 .done))) .nop)))))))

theorem rope_Rope_RuneAt.ok : okC Tryd.f14.ntmps rope_Rope_RuneAt.sc (bodyOf Tryd.f14) = true := by kernel_rfl

theorem rope_Rope_RuneAt.eq {K : K1} {r0 at1 : Value} {w : World} : rope_Rope_RuneAt K r0 at1 w = codeS Tryd.prog rope_Rope_RuneAt.sc (bodyOf Tryd.f14) (argsF 0 [r0, at1]) w (retQ Tryd.prog Tryd.f14.results.toList K) := by kernel_rfl

theorem rope_Rope_RuneAt.call {K : K1} {r0 at1 : Value} {w : World} (h : rope_Rope_RuneAt K r0 at1 w) : sCall Tryd.prog 14 [r0, at1] w K := sCall_code mixed Tryd.func14 (by kernel_rfl) rfl rfl rope_Rope_RuneAt.ok rope_Rope_RuneAt.eq h

abbrev rope_Rope_RuneAt.n : Nat := 14

/-- 'bodkin bodkinref07.RuneAt' -/
def bodkinref07_RuneAt_L2 (K : K1) (M1 : List Value → World → Prop) (Nx2 : List Value → World → Prop) (at1 l0 x10 : Value) (n6 x11 : Value) (w : World) : Prop :=
  sBin Tryd.prog .lss 3 false false x11 x10 w fun x12 w =>
  sIf x12 (
    sIdxA Tryd.prog 27 l0 x11 w fun x14 w =>
    sLoad Tryd.prog 21 x14 w fun x15 w =>
    sBin Tryd.prog .eql 3 false false n6 at1 w fun x18 w =>
    sIf x18 (
      K (.tuple #[x11, (.int .i64 0)]) w) (
      sBin Tryd.prog .gtr 3 false false n6 at1 w fun x22 w =>
      sIf x22 (
        M1 [n6] w) (
        sCall Tryd.prog 40 [x15] w fun x25 w =>
        sBin Tryd.prog .add 3 false false n6 x25 w fun x26 w =>
        sBin Tryd.prog .gtr 3 false false x26 at1 w fun x29 w =>
        sIf x29 (
          sBin Tryd.prog .geq 3 false true at1 (.int .i64 0) w fun x32 w =>
          sIf x32 (
            K (.tuple #[(.int .i64 0), (.int .i64 70)]) w) (
            sBin Tryd.prog .add 3 false true x11 (.int .i64 1) w fun x34 w =>
            Nx2 [x26, x34] w)) (
          sBin Tryd.prog .add 3 false true x11 (.int .i64 1) w fun x34_1 w =>
          Nx2 [x26, x34_1] w)))) (
    M1 [n6] w)

def bodkinref07_RuneAt_J1 (K : K1) (at1 l0 : Value) (n6_1 : Value) (w : World) : Prop :=
  sBin Tryd.prog .eql 3 false false n6_1 at1 w fun x37 w =>
  sIf x37 (
    sBuiltin Tryd.prog .len [27] 3 [l0] w fun x39 w =>
    K (.tuple #[x39, (.int .i64 0)]) w) (
    K (.tuple #[(.int .i64 0), (.int .i64 1)]) w)

def bodkinref07_RuneAt (K : K1) (l0 at1 : Value) (w : World) : Prop :=
  JoinS 1 30 (fun M1 =>
    sBuiltin Tryd.prog .len [27] 3 [l0] w fun x10 w =>
    LoopS [(.int .i64 0), (.int .i64 0)] 2 27 w fun us _ w Nx2 =>
      bodkinref07_RuneAt_L2 K M1 Nx2 at1 l0 x10 (hd us) (hd (tl us)) w) fun us _ w =>
    bodkinref07_RuneAt_J1 K at1 l0 (hd us) w

def bodkinref07_RuneAt.sc : SC := (.seq (.reg (.op 0 (.op 1 .done))) (.seq (.reg (.op 0 .done)) (.join [6] [9, 10, 11, 12, 13, 14, 15, 7, 8, 16, 17, 18, 19, 4, 5, 20, 21, 22, 23, 24, 25, 26, 27, 28, 29, 30, 31, 32, 33, 34] (.seq (.reg (.op 0 (.op 1 (.op 2 .done)))) (.sub (.loop [6, 11] [12, 13, 14, 15, 7, 8, 16, 17, 18, 19, 4, 5, 20, 21, 22, 23, 24, 25, 26, 27, 28, 29, 30, 31, 32, 33, 34] (.seq (.reg (.op 0 .done)) (.seq (.cond .nop .nop) (.seq (.sub (.seq (.reg (.op 0 (.op 1 (.op 2 (.op 3 (.op 4 .done)))))) (.seq (.seq (.reg (.op 0 (.op 1 (.op 2 .done)))) (.cond (.seq (.reg (.op 0 (.op 1 (.op 2 .done)))) .nop) .nop)) (.seq (.seq (.reg (.op 0 (.op 1 (.op 2 .done)))) (.cond .nop .nop)) (.seq (.reg (.op 0 (.op 1 (.op 2 (.op 3 (.op 4 .done)))))) (.seq (.reg (.op 0 (.op 1 (.op 2 (.op 3 (.test 3 (.op 4 (.op 5 (.op 6 .done))) (.skip 4 (.skip 5 (.op 6 .done))))))))) (.cond (.seq (.reg (.op 0 (.op 1 .done))) .nop) .nop))))))) (.reg (.op 0 (.op 1 .done))))))))) (.seq (.seq (.reg (.op 0 (.op 1 (.op 2 .done)))) (.cond (.seq (.reg (.op 0 (.op 1 (.op 2 (.op 3 .done))))) .nop) .nop)) (.seq (.reg (.op 0 (.op 1 .done))) .nop)))))

theorem bodkinref07_RuneAt.ok : okC Tryd.f15.ntmps bodkinref07_RuneAt.sc (bodyOf Tryd.f15) = true := by kernel_rfl

theorem bodkinref07_RuneAt.eq {K : K1} {l0 at1 : Value} {w : World} : bodkinref07_RuneAt K l0 at1 w = codeS Tryd.prog bodkinref07_RuneAt.sc (bodyOf Tryd.f15) (argsF 0 [l0, at1]) w (retQ Tryd.prog Tryd.f15.results.toList K) := by kernel_rfl

theorem bodkinref07_RuneAt.call {K : K1} {l0 at1 : Value} {w : World} (h : bodkinref07_RuneAt K l0 at1 w) : sCall Tryd.prog 15 [l0, at1] w K := sCall_code mixed Tryd.func15 (by kernel_rfl) rfl rfl bodkinref07_RuneAt.ok bodkinref07_RuneAt.eq h

abbrev bodkinref07_RuneAt.n : Nat := 15

/-- '(*bodkin rope.Rope).ByteAt' -/
def rope_Rope_ByteAt (K : K1) (r0 at1 : Value) (w : World) : Prop :=
  sCall Tryd.prog 41 [r0, at1] w fun x11 w =>
  sExtract x11 0 w fun x12 w =>
  sExtract x11 1 w fun x13 w =>
  sAlloc Tryd.prog 73 w fun s6 w =>
  sStore Tryd.prog 73 s6 x12 w fun w =>
  sBin Tryd.prog .neq 24 false true x13 (.int .i64 0) w fun x15 w =>
  sIf x15 (
    K (.tuple #[(.int .i64 0), x13]) w) (
    sFldA Tryd.prog 73 s6 0 w fun x17 w =>
    sFldA Tryd.prog 69 x17 1 w fun x18 w =>
    sIdxA Tryd.prog 67 x18 (.int .i64 0) w fun x19 w =>
    sLoad Tryd.prog 3 x19 w fun x20 w =>
    sFldA Tryd.prog 73 s6 2 w fun x21 w =>
    sLoad Tryd.prog 3 x21 w fun x22 w =>
    sBin Tryd.prog .add 3 false false x20 x22 w fun x23 w =>
    K (.tuple #[x23, (.int .i64 0)]) w)

def rope_Rope_ByteAt.sc : SC := (.seq (.reg (.op 0 (.op 1 .done))) (.seq (.reg (.op 0 (.op 1 (.op 2 (.op 3 (.op 4 (.op 5 (.op 6 (.op 7 (.op 8 .done)))))))))) (.seq (.seq (.reg (.op 0 (.op 1 .done))) (.cond (.seq (.reg (.op 0 (.op 1 (.op 2 .done)))) .nop) .nop)) (.seq (.reg (.op 0 (.op 1 (.op 2 (.op 3 (.op 4 (.op 5 (.op 6 (.op 7 (.op 8 .done)))))))))) .nop))))

theorem rope_Rope_ByteAt.ok : okC Tryd.f16.ntmps rope_Rope_ByteAt.sc (bodyOf Tryd.f16) = true := by kernel_rfl

theorem rope_Rope_ByteAt.eq {K : K1} {r0 at1 : Value} {w : World} : rope_Rope_ByteAt K r0 at1 w = codeS Tryd.prog rope_Rope_ByteAt.sc (bodyOf Tryd.f16) (argsF 0 [r0, at1]) w (retQ Tryd.prog Tryd.f16.results.toList K) := by kernel_rfl

theorem rope_Rope_ByteAt.call {K : K1} {r0 at1 : Value} {w : World} (h : rope_Rope_ByteAt K r0 at1 w) : sCall Tryd.prog 16 [r0, at1] w K := sCall_code mixed Tryd.func16 (by kernel_rfl) rfl rfl rope_Rope_ByteAt.ok rope_Rope_ByteAt.eq h

abbrev rope_Rope_ByteAt.n : Nat := 16

/-- 'bodkin bodkinref07.ByteAt' -/
def bodkinref07_ByteAt_L1 (K : K1) (Nx1 : List Value → World → Prop) (x19 x20 : Value) (n6 x21 : Value) (w : World) : Prop :=
  sBin Tryd.prog .lss 3 false false x21 x20 w fun x22 w =>
  sIf x22 (
    sIdxA Tryd.prog 27 x19 x21 w fun x23 w =>
    sLoad Tryd.prog 21 x23 w fun x24 w =>
    sCall Tryd.prog 40 [x24] w fun x27 w =>
    sBin Tryd.prog .add 3 false false n6 x27 w fun x28 w =>
    sBin Tryd.prog .add 3 false true x21 (.int .i64 1) w fun x29 w =>
    Nx1 [x28, x29] w) (
    K (.tuple #[n6, (.int .i64 0)]) w)

def bodkinref07_ByteAt (K : K1) (l0 at1 : Value) (w : World) : Prop :=
  sBin Tryd.prog .lss 3 false true at1 (.int .i64 0) w fun x10 w =>
  sIf x10 (
    K (.tuple #[(.int .i64 0), (.int .i64 1)]) w) (
    sBuiltin Tryd.prog .len [27] 3 [l0] w fun x14 w =>
    sBin Tryd.prog .gtr 3 false false at1 x14 w fun x15 w =>
    sIf x15 (
      K (.tuple #[(.int .i64 0), (.int .i64 1)]) w) (
      sSlice Tryd.prog 27 l0 none (some at1) none w fun x19 w =>
      sBuiltin Tryd.prog .len [27] 3 [x19] w fun x20 w =>
      LoopS [(.int .i64 0), (.int .i64 0)] 2 9 w fun us _ w Nx1 =>
        bodkinref07_ByteAt_L1 K Nx1 x19 x20 (hd us) (hd (tl us)) w))

def bodkinref07_ByteAt.sc : SC := (.seq (.reg (.op 0 (.op 1 .done))) (.seq (.seq (.reg (.op 0 (.op 1 (.op 2 (.test 2 (.skip 3 (.skip 4 (.skip 5 (.skip 6 (.op 7 .done))))) (.op 3 (.op 4 (.op 5 (.op 6 (.op 7 .done)))))))))) (.cond (.seq (.reg (.op 0 (.op 1 .done))) .nop) .nop)) (.seq (.reg (.op 0 .done)) (.seq (.seq (.reg (.op 0 (.op 1 (.op 2 (.op 3 (.op 4 .done)))))) (.sub (.loop [6, 21] [22, 23, 24, 8, 25, 26, 27, 28, 29] (.seq (.reg (.op 0 .done)) (.seq (.cond .nop .nop) (.seq (.sub (.seq (.reg (.op 0 (.op 1 (.op 2 .done)))) (.reg (.op 0 (.op 1 (.op 2 (.op 3 (.op 4 .done)))))))) (.reg (.op 0 (.op 1 .done))))))))) (.seq (.reg (.op 0 (.op 1 (.op 2 .done)))) .nop)))))

theorem bodkinref07_ByteAt.ok : okC Tryd.f17.ntmps bodkinref07_ByteAt.sc (bodyOf Tryd.f17) = true := by kernel_rfl

theorem bodkinref07_ByteAt.eq {K : K1} {l0 at1 : Value} {w : World} : bodkinref07_ByteAt K l0 at1 w = codeS Tryd.prog bodkinref07_ByteAt.sc (bodyOf Tryd.f17) (argsF 0 [l0, at1]) w (retQ Tryd.prog Tryd.f17.results.toList K) := by kernel_rfl

theorem bodkinref07_ByteAt.call {K : K1} {l0 at1 : Value} {w : World} (h : bodkinref07_ByteAt K l0 at1 w) : sCall Tryd.prog 17 [l0, at1] w K := sCall_code mixed Tryd.func17 (by kernel_rfl) rfl rfl bodkinref07_ByteAt.ok bodkinref07_ByteAt.eq h

abbrev bodkinref07_ByteAt.n : Nat := 17

/-- '(*bodkin rope.Rope).Runes' -/
def rope_Rope_Runes (K : K1) (r0 : Value) (w : World) : Prop :=
  sCall Tryd.prog 42 [r0, (.int .i64 1)] w fun x4 w =>
  K x4 w

def rope_Rope_Runes.sc : SC := (.seq (.reg (.op 0 .done)) (.seq (.reg (.op 0 (.op 1 (.op 2 .done)))) .nop))

theorem rope_Rope_Runes.ok : okC Tryd.f18.ntmps rope_Rope_Runes.sc (bodyOf Tryd.f18) = true := by kernel_rfl

theorem rope_Rope_Runes.eq {K : K1} {r0 : Value} {w : World} : rope_Rope_Runes K r0 w = codeS Tryd.prog rope_Rope_Runes.sc (bodyOf Tryd.f18) (argsF 0 [r0]) w (retQ Tryd.prog Tryd.f18.results.toList K) := by kernel_rfl

theorem rope_Rope_Runes.call {K : K1} {r0 : Value} {w : World} (h : rope_Rope_Runes K r0 w) : sCall Tryd.prog 18 [r0] w K := sCall_code mixed Tryd.func18 (by kernel_rfl) rfl rfl rope_Rope_Runes.ok rope_Rope_Runes.eq h

abbrev rope_Rope_Runes.n : Nat := 18

/-- '(*bodkin rope.Rope).Bytes' -/
def rope_Rope_Bytes (K : K1) (r0 : Value) (w : World) : Prop :=
  sCall Tryd.prog 42 [r0, (.int .i64 0)] w fun x4 w =>
  K x4 w

def rope_Rope_Bytes.sc : SC := (.seq (.reg (.op 0 .done)) (.seq (.reg (.op 0 (.op 1 (.op 2 .done)))) .nop))

theorem rope_Rope_Bytes.ok : okC Tryd.f19.ntmps rope_Rope_Bytes.sc (bodyOf Tryd.f19) = true := by kernel_rfl

theorem rope_Rope_Bytes.eq {K : K1} {r0 : Value} {w : World} : rope_Rope_Bytes K r0 w = codeS Tryd.prog rope_Rope_Bytes.sc (bodyOf Tryd.f19) (argsF 0 [r0]) w (retQ Tryd.prog Tryd.f19.results.toList K) := by kernel_rfl

theorem rope_Rope_Bytes.call {K : K1} {r0 : Value} {w : World} (h : rope_Rope_Bytes K r0 w) : sCall Tryd.prog 19 [r0] w K := sCall_code mixed Tryd.func19 (by kernel_rfl) rfl rfl rope_Rope_Bytes.ok rope_Rope_Bytes.eq h

abbrev rope_Rope_Bytes.n : Nat := 19

/-- '(*bodkin rope.Rope).Replace' -/
def rope_Rope_Replace_J4 (Nx3 : List Value → World → Prop) (end17 first14 last16 start15 x56 x83 : Value) (w : World) : Prop :=
  sBin Tryd.prog .lss 3 false false last16 x83 w fun x106 w =>
  sIf x106 (
    sCall Tryd.prog 48 [x56, (.int .i64 3), last16, (.int .i64 1)] w fun x109 w =>
    sCall Tryd.prog 44 [x56] w fun x111 w =>
    sFld Tryd.prog 69 x111 0 w fun x112 w =>
    sCall Tryd.prog 44 [x56] w fun x114 w =>
    sFld Tryd.prog 69 x114 1 w fun x115 w =>
    sIdx Tryd.prog 67 x115 (.int .i64 1) w fun x116 w =>
    Nx3 [x112, x116, first14, start15] w) (
    sBin Tryd.prog .sub 3 false true first14 (.int .i64 1) w fun x119 w =>
    sCall Tryd.prog 48 [x56, (.int .i64 3), x119, (.int .i64 1)] w fun x120 w =>
    sCall Tryd.prog 43 [x56] w fun x122 w =>
    sFld Tryd.prog 69 x122 0 w fun x123 w =>
    sCall Tryd.prog 43 [x56] w fun x125 w =>
    sFld Tryd.prog 69 x125 1 w fun x126 w =>
    sIdx Tryd.prog 67 x126 (.int .i64 1) w fun x127 w =>
    Nx3 [last16, end17, x123, x127] w)

def rope_Rope_Replace_L3 (M2 : List Value → World → Prop) (Nx3 : List Value → World → Prop) (from1 to2 x40 x56 x83 : Value) (last16 end17 first14 start15 : Value) (w : World) : Prop :=
  JoinS 0 20 (fun M4 =>
    sBin Tryd.prog .sub 3 false false end17 start15 w fun x86 w =>
    sBin Tryd.prog .sub 3 false false to2 from1 w fun x89 w =>
    sBin Tryd.prog .sub 3 false false x86 x89 w fun x90 w =>
    sBuiltin Tryd.prog .len [27] 3 [x40] w fun x92 w =>
    sBin Tryd.prog .add 3 false false x90 x92 w fun x93 w =>
    sBin Tryd.prog .lss 3 false true x93 (.int .i64 8) w fun x94 w =>
    sIf x94 (
      sBin Tryd.prog .gtr 3 false true first14 (.int .i64 0) w fun x97 w =>
      sIf x97 (
        M4 [] w) (
        sBin Tryd.prog .lss 3 false false last16 x83 w fun x101 w =>
        sIf x101 (
          M4 [] w) (
          M2 [last16, end17, first14, start15] w))) (
      M2 [last16, end17, first14, start15] w)) fun us _ w =>
    rope_Rope_Replace_J4 Nx3 end17 first14 last16 start15 x56 x83 w

def rope_Rope_Replace_J2 (K : K1) (from1 r0 to2 x40 : Value) (last16_1 end17_1 first14_1 start15_1 : Value) (w : World) : Prop :=
  sCall Tryd.prog 23 [r0, start15_1, from1] w fun x132 w =>
  sExtract x132 0 w fun x133 w =>
  sExtract x132 1 w fun x134 w =>
  sCall Tryd.prog 23 [r0, to2, end17_1] w fun x139 w =>
  sExtract x139 0 w fun x140 w =>
  sExtract x139 1 w fun x141 w =>
  sCall Tryd.prog 35 [x133] w fun x143 w =>
  sBuiltin Tryd.prog .append [27, 27] 27 [x143, x40] w fun x145 w =>
  sCall Tryd.prog 46 [r0] w fun x148 w =>
  sCall Tryd.prog 35 [x140] w fun x153 w =>
  sBuiltin Tryd.prog .append [27, 27] 27 [x145, x153] w fun x154 w =>
  sCall Tryd.prog 37 [x154] w fun x155 w =>
  sCall Tryd.prog 49 [x148, first14_1, last16_1, x155] w fun x156 w =>
  sExtract x156 0 w fun x157 w =>
  sExtract x156 1 w fun x158 w =>
  sBin Tryd.prog .neq 24 false true x158 (.int .i64 0) w fun x160 w =>
  sIf x160 (
    K (.tuple #[(.pointer none), x158]) w) (
    sBuild Tryd.prog 63 [(0, x157)] w fun x163 w =>
    sBox Tryd.prog 63 x163 w fun x164 w =>
    K (.tuple #[x164, (.int .i64 0)]) w)

def rope_Rope_Replace_L1 (K : K1) (Nx1 : List Value → World → Prop) (from1 r0 to2 x40 x56 x60 x64 : Value) (w : World) : Prop :=
  sCall Tryd.prog 44 [x56] w fun x66 w =>
  sFld Tryd.prog 69 x66 1 w fun x67 w =>
  sIdx Tryd.prog 67 x67 (.int .i64 1) w fun x68 w =>
  sBin Tryd.prog .lss 3 false false x68 to2 w fun x70 w =>
  sIf x70 (
    sCall Tryd.prog 45 [x56] w fun x72 w =>
    Nx1 [] w) (
    sCall Tryd.prog 44 [x56] w fun x74 w =>
    sFld Tryd.prog 69 x74 0 w fun x75 w =>
    sCall Tryd.prog 44 [x56] w fun x77 w =>
    sFld Tryd.prog 69 x77 1 w fun x78 w =>
    sIdx Tryd.prog 67 x78 (.int .i64 1) w fun x79 w =>
    sCall Tryd.prog 46 [r0] w fun x81 w =>
    sCall Tryd.prog 47 [x81] w fun x82 w =>
    sFld Tryd.prog 69 x82 0 w fun x83 w =>
    JoinS 4 44 (fun M2 =>
      LoopS [x75, x79, x60, x64] 4 44 w fun us _ w Nx3 =>
        rope_Rope_Replace_L3 M2 Nx3 from1 to2 x40 x56 x83 (hd us) (hd (tl us)) (hd (tl (tl us))) (hd (tl (tl (tl us)))) w) fun us _ w =>
      rope_Rope_Replace_J2 K from1 r0 to2 x40 (hd us) (hd (tl us)) (hd (tl (tl us))) (hd (tl (tl (tl us)))) w)

def rope_Rope_Replace (K : K1) (r0 from1 to2 s3 : Value) (w : World) : Prop :=
  sBin Tryd.prog .lss 3 false true from1 (.int .i64 0) w fun x27 w =>
  sIf x27 (
    K (.tuple #[(.pointer none), (.int .i64 1)]) w) (
    sBin Tryd.prog .lss 3 false false to2 from1 w fun x31 w =>
    sIf x31 (
      K (.tuple #[(.pointer none), (.int .i64 1)]) w) (
      sCall Tryd.prog 18 [r0] w fun x36 w =>
      sBin Tryd.prog .gtr 3 false false to2 x36 w fun x37 w =>
      sIf x37 (
        K (.tuple #[(.pointer none), (.int .i64 1)]) w) (
        sCall Tryd.prog 35 [s3] w fun x40 w =>
        sCall Tryd.prog 18 [r0] w fun x42 w =>
        sBin Tryd.prog .sub 3 false false to2 from1 w fun x45 w =>
        sBin Tryd.prog .sub 3 false false x42 x45 w fun x46 w =>
        sBuiltin Tryd.prog .len [27] 3 [x40] w fun x48 w =>
        sBin Tryd.prog .add 3 false false x46 x48 w fun x49 w =>
        sBin Tryd.prog .gtr 3 false true x49 (.int .i64 20000) w fun x50 w =>
        sIf x50 (
          K (.tuple #[(.pointer none), (.int .i64 5)]) w) (
          sCall Tryd.prog 39 [r0, (.int .i64 1), from1, (.int .i64 0)] w fun x54 w =>
          sExtract x54 0 w fun x55 w =>
          sExtract x54 1 w fun x56 w =>
          sExtract x54 2 w fun x57 w =>
          sAlloc Tryd.prog 73 w fun x11 w =>
          sStore Tryd.prog 73 x11 x55 w fun w =>
          sCall Tryd.prog 43 [x56] w fun x59 w =>
          sFld Tryd.prog 69 x59 0 w fun x60 w =>
          sCall Tryd.prog 43 [x56] w fun x62 w =>
          sFld Tryd.prog 69 x62 1 w fun x63 w =>
          sIdx Tryd.prog 67 x63 (.int .i64 1) w fun x64 w =>
          LoopS [] 0 8 w fun us _ w Nx1 =>
            rope_Rope_Replace_L1 K Nx1 from1 r0 to2 x40 x56 x60 x64 w))))

def rope_Rope_Replace.sc : SC := (.seq (.reg (.op 0 (.op 1 .done))) (.seq (.seq (.reg (.op 0 (.op 1 (.op 2 (.test 2 (.skip 3 (.skip 4 (.skip 5 (.op 6 (.op 7 (.know 7 true (.skip 8 (.skip 9 (.skip 10 (.skip 11 (.op 12 .done))))))))))) (.op 3 (.op 4 (.op 5 (.op 6 (.op 7 (.test 7 (.skip 8 (.skip 9 (.skip 10 (.skip 11 (.op 12 .done))))) (.op 8 (.op 9 (.op 10 (.op 11 (.op 12 .done)))))))))))))))) (.cond (.seq (.reg (.op 0 (.op 1 .done))) .nop) .nop)) (.seq (.reg (.op 0 (.op 1 (.op 2 .done)))) (.seq (.seq (.reg (.op 0 (.op 1 (.op 2 (.op 3 (.op 4 (.op 5 (.op 6 (.op 7 (.op 8 (.op 9 .done))))))))))) (.cond (.seq (.reg (.op 0 (.op 1 .done))) .nop) .nop)) (.seq (.reg (.op 0 (.op 1 (.op 2 (.op 3 (.op 4 (.op 5 (.op 6 (.op 7 (.op 8 (.op 9 (.op 10 .done)))))))))))) (.seq (.reg (.op 0 (.op 1 (.op 2 (.op 3 (.op 4 (.op 5 (.op 6 (.op 7 (.op 8 .done)))))))))) (.seq (.sub (.loop [] [65, 66, 67, 68, 69, 70, 71, 72] (.seq (.seq (.reg (.op 0 (.op 1 (.op 2 (.op 3 (.op 4 (.op 5 .done))))))) (.cond .nop .nop)) (.sub (.reg (.op 0 (.op 1 .done))))))) (.seq (.reg (.op 0 (.op 1 (.op 2 (.op 3 (.op 4 (.op 5 (.op 6 (.op 7 (.op 8 .done)))))))))) (.seq (.reg (.op 0 (.op 1 (.op 2 (.op 3 (.op 4 .done)))))) (.join [16, 17, 14, 15] [84, 85, 86, 87, 88, 89, 90, 91, 92, 93, 94, 95, 96, 97, 98, 99, 100, 101, 102, 103, 104, 105, 106, 107, 108, 109, 110, 111, 112, 113, 114, 115, 116, 117, 118, 119, 120, 121, 122, 123, 124, 125, 126, 127] (.sub (.loop [16, 17, 14, 15] [84, 85, 86, 87, 88, 89, 90, 91, 92, 93, 94, 95, 96, 97, 98, 99, 100, 101, 102, 103, 104, 105, 106, 107, 108, 109, 110, 111, 112, 113, 114, 115, 116, 117, 118, 119, 120, 121, 122, 123, 124, 125, 126, 127] (.join [] [84, 85, 86, 87, 88, 89, 90, 91, 92, 93, 94, 95, 96, 97, 98, 99, 100, 101, 102, 103] (.seq (.reg (.op 0 (.op 1 (.op 2 (.op 3 (.op 4 (.op 5 (.op 6 (.op 7 (.op 8 (.op 9 (.op 10 (.op 11 (.test 11 (.op 12 (.op 13 (.op 14 (.test 14 (.skip 15 (.skip 16 (.skip 17 (.op 18 (.op 19 .done))))) (.op 15 (.op 16 (.op 17 (.op 18 (.op 19 .done))))))))) (.skip 12 (.skip 13 (.skip 14 (.skip 15 (.skip 16 (.skip 17 (.skip 18 (.op 19 .done)))))))))))))))))))))) (.cond .nop .nop)) (.sub (.seq (.seq (.reg (.op 0 (.op 1 (.op 2 .done)))) (.cond (.seq (.reg (.op 0 (.op 1 (.op 2 .done)))) (.seq (.reg (.op 0 (.op 1 (.op 2 (.op 3 (.op 4 (.op 5 (.op 6 (.op 7 (.op 8 .done)))))))))) .nop)) .nop)) (.seq (.reg (.op 0 (.op 1 (.op 2 (.op 3 .done))))) (.reg (.op 0 (.op 1 (.op 2 (.op 3 (.op 4 (.op 5 (.op 6 (.op 7 (.op 8 .done)))))))))))))))) (.seq (.reg (.op 0 (.op 1 (.op 2 (.op 3 (.op 4 (.op 5 (.op 6 (.op 7 (.op 8 .done)))))))))) (.seq (.reg (.op 0 (.op 1 (.op 2 (.op 3 (.op 4 (.op 5 (.op 6 (.op 7 (.op 8 .done)))))))))) (.seq (.reg (.op 0 (.op 1 (.op 2 (.op 3 (.op 4 .done)))))) (.seq (.reg (.op 0 (.op 1 (.op 2 (.op 3 (.op 4 (.op 5 (.op 6 (.op 7 (.op 8 (.op 9 (.op 10 (.op 11 (.op 12 (.op 13 (.op 14 .done)))))))))))))))) (.seq (.seq (.reg (.op 0 (.op 1 .done))) (.cond (.seq (.reg (.op 0 (.op 1 (.op 2 .done)))) .nop) .nop)) (.seq (.reg (.op 0 (.op 1 (.op 2 (.op 3 (.op 4 .done)))))) .nop))))))))))))))))

theorem rope_Rope_Replace.ok : okC Tryd.f20.ntmps rope_Rope_Replace.sc (bodyOf Tryd.f20) = true := by kernel_rfl

theorem rope_Rope_Replace.eq {K : K1} {r0 from1 to2 s3 : Value} {w : World} : rope_Rope_Replace K r0 from1 to2 s3 w = codeS Tryd.prog rope_Rope_Replace.sc (bodyOf Tryd.f20) (argsF 0 [r0, from1, to2, s3]) w (retQ Tryd.prog Tryd.f20.results.toList K) := by kernel_rfl

theorem rope_Rope_Replace.call {K : K1} {r0 from1 to2 s3 : Value} {w : World} (h : rope_Rope_Replace K r0 from1 to2 s3 w) : sCall Tryd.prog 20 [r0, from1, to2, s3] w K := sCall_code mixed Tryd.func20 (by kernel_rfl) rfl rfl rope_Rope_Replace.ok rope_Rope_Replace.eq h

abbrev rope_Rope_Replace.n : Nat := 20

/-- 'bodkin bodkinlaw07.is' -/
def bodkinlaw07_is_J2 (Nx1 : List Value → World → Prop) (all9 x54 x57 : Value) (w : World) : Prop :=
  sBin Tryd.prog .add 9 false false all9 x57 w fun x78 w =>
  sBin Tryd.prog .add 3 false true x54 (.int .i64 1) w fun x79 w =>
  Nx1 [x78, x79] w

def bodkinlaw07_is_L1 (K : K1) (Nx1 : List Value → World → Prop) (l1 r0 x14 x51 x53 : Value) (all9 x54 : Value) (w : World) : Prop :=
  sBin Tryd.prog .lss 3 false false x54 x53 w fun x55 w =>
  sIf x55 (
    sIdxA Tryd.prog 85 x51 x54 w fun x56 w =>
    sLoad Tryd.prog 9 x56 w fun x57 w =>
    sCall Tryd.prog 13 [x57] w fun x59 w =>
    sBuiltin Tryd.prog .len [27] 3 [x59] w fun x60 w =>
    JoinS 0 16 (fun M2 =>
      sBin Tryd.prog .lss 3 false true x60 (.int .i64 1) w fun x62 w =>
      sIf x62 (
        K (.bool false) w) (
        sBin Tryd.prog .gtr 3 false true x60 (.int .i64 16) w fun x65 w =>
        sIf x65 (
          K (.bool false) w) (
          sBin Tryd.prog .lss 3 false true x60 (.int .i64 8) w fun x69 w =>
          sIf x69 (
            sBuiltin Tryd.prog .len [27] 3 [l1] w fun x72 w =>
            sBin Tryd.prog .geq 3 false true x72 (.int .i64 8) w fun x73 w =>
            sIf x73 (
              K (.bool false) w) (
              M2 [] w)) (
            M2 [] w)))) fun us _ w =>
      bodkinlaw07_is_J2 Nx1 all9 x54 x57 w) (
    sBin Tryd.prog .eql 9 false false all9 x14 w fun x82 w =>
    sIf x82 (
      sCall Tryd.prog 31 [r0] w fun x85 w =>
      sBuiltin Tryd.prog .len [85] 3 [x51] w fun x87 w =>
      sCall Tryd.prog 51 [x85, x87] w fun x88 w =>
      K x88 w) (
      K (.bool false) w))

def bodkinlaw07_is (K : K1) (r0 l1 : Value) (w : World) : Prop :=
  sCall Tryd.prog 26 [l1] w fun x14 w =>
  sBuiltin Tryd.prog .len [27] 3 [l1] w fun x18 w =>
  sCall Tryd.prog 34 [l1, x18] w fun x19 w =>
  sExtract x19 0 w fun x20 w =>
  sExtract x19 1 w fun x21 w =>
  sBin Tryd.prog .eql 23 false true r0 (.pointer none) w fun x23 w =>
  sIf x23 (
    K (.bool false) w) (
    sCall Tryd.prog 28 [r0] w fun x26 w =>
    sBin Tryd.prog .neq 9 false false x26 x14 w fun x28 w =>
    sIf x28 (
      K (.bool false) w) (
      sCall Tryd.prog 19 [r0] w fun x32 w =>
      sBuiltin Tryd.prog .len [9] 3 [x14] w fun x34 w =>
      sBin Tryd.prog .neq 3 false false x32 x34 w fun x35 w =>
      sIf x35 (
        K (.bool false) w) (
        sCall Tryd.prog 18 [r0] w fun x39 w =>
        sBuiltin Tryd.prog .len [27] 3 [l1] w fun x41 w =>
        sBin Tryd.prog .neq 3 false false x39 x41 w fun x42 w =>
        sIf x42 (
          K (.bool false) w) (
          sCall Tryd.prog 30 [r0] w fun x46 w =>
          sBin Tryd.prog .neq 3 false false x46 x20 w fun x48 w =>
          sIf x48 (
            K (.bool false) w) (
            sCall Tryd.prog 50 [r0] w fun x51 w =>
            sBuiltin Tryd.prog .len [85] 3 [x51] w fun x53 w =>
            LoopS [(.string ⟨#[]⟩), (.int .i64 0)] 2 28 w fun us _ w Nx1 =>
              bodkinlaw07_is_L1 K Nx1 l1 r0 x14 x51 x53 (hd us) (hd (tl us)) w)))))

def bodkinlaw07_is.sc : SC := (.seq (.reg (.op 0 .done)) (.seq (.reg (.op 0 (.op 1 (.op 2 .done)))) (.seq (.reg (.op 0 (.op 1 (.op 2 (.op 3 (.op 4 (.op 5 (.op 6 (.op 7 (.op 8 .done)))))))))) (.seq (.seq (.reg (.op 0 (.op 1 (.op 2 (.test 2 (.skip 3 (.skip 4 (.skip 5 (.skip 6 (.op 7 (.op 8 (.know 8 true (.skip 9 (.skip 10 (.skip 11 (.skip 12 (.skip 13 (.op 14 (.op 15 (.know 15 true (.skip 16 (.skip 17 (.skip 18 (.skip 19 (.skip 20 (.op 21 (.op 22 (.know 22 true (.skip 23 (.skip 24 (.skip 25 (.skip 26 (.op 27 .done)))))))))))))))))))))))))))) (.op 3 (.op 4 (.op 5 (.op 6 (.op 7 (.op 8 (.test 8 (.skip 9 (.skip 10 (.skip 11 (.skip 12 (.skip 13 (.op 14 (.op 15 (.know 15 true (.skip 16 (.skip 17 (.skip 18 (.skip 19 (.skip 20 (.op 21 (.op 22 (.know 22 true (.skip 23 (.skip 24 (.skip 25 (.skip 26 (.op 27 .done))))))))))))))))))))) (.op 9 (.op 10 (.op 11 (.op 12 (.op 13 (.op 14 (.op 15 (.test 15 (.skip 16 (.skip 17 (.skip 18 (.skip 19 (.skip 20 (.op 21 (.op 22 (.know 22 true (.skip 23 (.skip 24 (.skip 25 (.skip 26 (.op 27 .done))))))))))))) (.op 16 (.op 17 (.op 18 (.op 19 (.op 20 (.op 21 (.op 22 (.test 22 (.skip 23 (.skip 24 (.skip 25 (.skip 26 (.op 27 .done))))) (.op 23 (.op 24 (.op 25 (.op 26 (.op 27 .done))))))))))))))))))))))))))))))))) (.cond (.seq (.reg (.op 0 .done)) .nop) .nop)) (.seq (.reg (.op 0 (.op 1 (.op 2 .done)))) (.seq (.reg (.op 0 .done)) (.seq (.seq (.reg (.op 0 (.op 1 (.op 2 .done)))) (.sub (.loop [9, 54] [55, 56, 57, 11, 58, 59, 60, 12, 61, 62, 63, 64, 65, 66, 67, 68, 69, 70, 71, 72, 73, 74, 75, 4, 76, 77, 78, 79] (.seq (.reg (.op 0 .done)) (.seq (.cond .nop .nop) (.seq (.sub (.seq (.reg (.op 0 (.op 1 (.op 2 .done)))) (.seq (.reg (.op 0 (.op 1 (.op 2 (.op 3 .done))))) (.join [] [61, 62, 63, 64, 65, 66, 67, 68, 69, 70, 71, 72, 73, 74, 75, 4] (.seq (.reg (.op 0 (.op 1 (.op 2 (.test 2 (.skip 3 (.skip 4 (.op 5 (.op 6 (.know 6 true (.skip 7 (.skip 8 (.skip 9 (.skip 10 (.skip 11 (.skip 12 (.skip 13 (.op 14 .done))))))))))))) (.op 3 (.op 4 (.op 5 (.op 6 (.test 6 (.skip 7 (.skip 8 (.skip 9 (.skip 10 (.skip 11 (.skip 12 (.skip 13 (.op 14 .done)))))))) (.op 7 (.op 8 (.op 9 (.test 9 (.op 10 (.op 11 (.op 12 (.op 13 (.op 14 .done))))) (.skip 10 (.skip 11 (.skip 12 (.op 13 (.op 14 .done))))))))))))))))))) (.cond (.seq (.reg (.op 0 .done)) .nop) .nop)) (.reg (.op 0 (.op 1 (.op 2 (.op 3 .done))))))))) (.reg (.op 0 (.op 1 .done))))))))) (.seq (.reg (.op 0 (.op 1 (.op 2 (.op 3 (.test 3 (.op 4 (.op 5 (.op 6 (.op 7 (.op 8 (.op 9 (.op 10 .done))))))) (.skip 4 (.skip 5 (.skip 6 (.skip 7 (.skip 8 (.op 9 (.op 10 .done))))))))))))) .nop))))))))

theorem bodkinlaw07_is.ok : okC Tryd.f21.ntmps bodkinlaw07_is.sc (bodyOf Tryd.f21) = true := by kernel_rfl

theorem bodkinlaw07_is.eq {K : K1} {r0 l1 : Value} {w : World} : bodkinlaw07_is K r0 l1 w = codeS Tryd.prog bodkinlaw07_is.sc (bodyOf Tryd.f21) (argsF 0 [r0, l1]) w (retQ Tryd.prog Tryd.f21.results.toList K) := by kernel_rfl

theorem bodkinlaw07_is.call {K : K1} {r0 l1 : Value} {w : World} (h : bodkinlaw07_is K r0 l1 w) : sCall Tryd.prog 21 [r0, l1] w K := sCall_code mixed Tryd.func21 (by kernel_rfl) rfl rfl bodkinlaw07_is.ok bodkinlaw07_is.eq h

abbrev bodkinlaw07_is.n : Nat := 21

/-- 'bodkin bodkinref07.Replace' -/
def bodkinref07_Replace (K : K1) (l0 at1 s2 : Value) (w : World) : Prop :=
  sBox Tryd.prog 44 at1 w fun at4 w =>
  sBuiltin Tryd.prog .len [27] 3 [l0] w fun x10 w =>
  sIdxA Tryd.prog 44 at4 (.int .i64 0) w fun x11 w =>
  sLoad Tryd.prog 3 x11 w fun x12 w =>
  sIdxA Tryd.prog 44 at4 (.int .i64 1) w fun x13 w =>
  sLoad Tryd.prog 3 x13 w fun x14 w =>
  sCall Tryd.prog 25 [x10, x12, x14] w fun x15 w =>
  sUn Tryd.prog .not x15 w fun x16 w =>
  sIf x16 (
    K (.tuple #[(.slice none 0 0), (.int .i64 1)]) w) (
    sCall Tryd.prog 13 [s2] w fun x18 w =>
    sBuiltin Tryd.prog .len [27] 3 [l0] w fun x20 w =>
    sIdxA Tryd.prog 44 at4 (.int .i64 1) w fun x21 w =>
    sLoad Tryd.prog 3 x21 w fun x22 w =>
    sIdxA Tryd.prog 44 at4 (.int .i64 0) w fun x23 w =>
    sLoad Tryd.prog 3 x23 w fun x24 w =>
    sBin Tryd.prog .sub 3 false false x22 x24 w fun x25 w =>
    sBin Tryd.prog .sub 3 false false x20 x25 w fun x26 w =>
    sBuiltin Tryd.prog .len [27] 3 [x18] w fun x28 w =>
    sBin Tryd.prog .add 3 false false x26 x28 w fun x29 w =>
    sBin Tryd.prog .gtr 3 false true x29 (.int .i64 20000) w fun x30 w =>
    sIf x30 (
      K (.tuple #[(.slice none 0 0), (.int .i64 5)]) w) (
      sLoad Tryd.prog 44 at4 w fun x32 w =>
      sCall Tryd.prog 52 [l0, x32, x18] w fun x34 w =>
      K (.tuple #[x34, (.int .i64 0)]) w))

def bodkinref07_Replace.sc : SC := (.seq (.reg (.op 0 (.op 1 (.op 2 .done)))) (.seq (.seq (.reg (.op 0 (.op 1 (.op 2 (.op 3 (.op 4 (.op 5 (.op 6 (.op 7 .done))))))))) (.cond (.seq (.reg (.op 0 (.op 1 .done))) .nop) .nop)) (.seq (.reg (.op 0 (.op 1 (.op 2 .done)))) (.seq (.seq (.reg (.op 0 (.op 1 (.op 2 (.op 3 (.op 4 (.op 5 (.op 6 (.op 7 (.op 8 (.op 9 (.op 10 (.op 11 .done))))))))))))) (.cond (.seq (.reg (.op 0 (.op 1 .done))) .nop) .nop)) (.seq (.reg (.op 0 (.op 1 (.op 2 (.op 3 (.op 4 (.op 5 .done))))))) .nop)))))

theorem bodkinref07_Replace.ok : okC Tryd.f22.ntmps bodkinref07_Replace.sc (bodyOf Tryd.f22) = true := by kernel_rfl

theorem bodkinref07_Replace.eq {K : K1} {l0 at1 s2 : Value} {w : World} : bodkinref07_Replace K l0 at1 s2 w = codeS Tryd.prog bodkinref07_Replace.sc (bodyOf Tryd.f22) (argsF 0 [l0, at1, s2]) w (retQ Tryd.prog Tryd.f22.results.toList K) := by kernel_rfl

theorem bodkinref07_Replace.call {K : K1} {l0 at1 s2 : Value} {w : World} (h : bodkinref07_Replace K l0 at1 s2 w) : sCall Tryd.prog 22 [l0, at1, s2] w K := sCall_code mixed Tryd.func22 (by kernel_rfl) rfl rfl bodkinref07_Replace.ok bodkinref07_Replace.eq h

abbrev bodkinref07_Replace.n : Nat := 22

/-- '(*bodkin rope.Rope).Slice' -/
def rope_Rope_Slice_L1 (K : K1) (Nx1 : List Value → World → Prop) (out14 x22 x35 x45 x50 : Value) (w : World) : Prop :=
  sCall Tryd.prog 53 [out14] w fun x52 w =>
  sBin Tryd.prog .add 3 false false x50 x52 w fun x53 w =>
  sBin Tryd.prog .lss 3 false false x53 x35 w fun x55 w =>
  sIf x55 (
    sCall Tryd.prog 54 [x45] w fun x58 w =>
    sExtract x58 0 w fun x59 w =>
    sExtract x58 1 w fun x60 w =>
    sAlloc Tryd.prog 71 w fun i16 w =>
    sStore Tryd.prog 71 i16 x59 w fun w =>
    sFldA Tryd.prog 71 i16 4 w fun x61 w =>
    sLoad Tryd.prog 9 x61 w fun x62 w =>
    sCall Tryd.prog 55 [out14, x62] w fun x63 w =>
    sCall Tryd.prog 45 [x45] w fun x65 w =>
    Nx1 [] w) (
    sCall Tryd.prog 53 [out14] w fun x66 w =>
    sBin Tryd.prog .eql 3 false true x66 (.int .i64 0) w fun x67 w =>
    sIf x67 (
      K (.tuple #[(.string ⟨#[]⟩), (.int .i64 0)]) w) (
      sCall Tryd.prog 56 [out14] w fun x68 w =>
      sBin Tryd.prog .sub 3 false false x22 x50 w fun x71 w =>
      sBin Tryd.prog .sub 3 false false x35 x50 w fun x74 w =>
      sSlice Tryd.prog 9 x68 (some x71) (some x74) none w fun x75 w =>
      K (.tuple #[x75, (.int .i64 0)]) w))

def rope_Rope_Slice (K : K1) (r0 from1 to2 : Value) (w : World) : Prop :=
  sCall Tryd.prog 16 [r0, from1] w fun x21 w =>
  sExtract x21 0 w fun x22 w =>
  sExtract x21 1 w fun x23 w =>
  sBin Tryd.prog .neq 24 false true x23 (.int .i64 0) w fun x25 w =>
  sIf x25 (
    K (.tuple #[(.string ⟨#[]⟩), (.int .i64 1)]) w) (
    sBin Tryd.prog .lss 3 false false to2 from1 w fun x29 w =>
    sIf x29 (
      K (.tuple #[(.string ⟨#[]⟩), (.int .i64 1)]) w) (
      sCall Tryd.prog 16 [r0, to2] w fun x34 w =>
      sExtract x34 0 w fun x35 w =>
      sExtract x34 1 w fun x36 w =>
      sBin Tryd.prog .neq 24 false true x36 (.int .i64 0) w fun x38 w =>
      sIf x38 (
        K (.tuple #[(.string ⟨#[]⟩), x36]) w) (
        sCall Tryd.prog 39 [r0, (.int .i64 1), from1, (.int .i64 1)] w fun x43 w =>
        sExtract x43 0 w fun x44 w =>
        sExtract x43 1 w fun x45 w =>
        sExtract x43 2 w fun x46 w =>
        sAlloc Tryd.prog 73 w fun x11 w =>
        sStore Tryd.prog 73 x11 x44 w fun w =>
        sAlloc Tryd.prog 92 w fun out14 w =>
        sCall Tryd.prog 43 [x45] w fun x48 w =>
        sFld Tryd.prog 69 x48 1 w fun x49 w =>
        sIdx Tryd.prog 67 x49 (.int .i64 0) w fun x50 w =>
        LoopS [] 0 17 w fun us _ w Nx1 =>
          rope_Rope_Slice_L1 K Nx1 out14 x22 x35 x45 x50 w)))

def rope_Rope_Slice.sc : SC := (.seq (.reg (.op 0 (.op 1 .done))) (.seq (.reg (.op 0 (.op 1 (.op 2 (.op 3 (.op 4 (.op 5 (.op 6 (.op 7 .done))))))))) (.seq (.seq (.reg (.op 0 (.op 1 (.op 2 (.test 2 (.skip 3 (.skip 4 (.skip 5 (.op 6 .done)))) (.op 3 (.op 4 (.op 5 (.op 6 .done))))))))) (.cond (.seq (.reg (.op 0 (.op 1 .done))) .nop) .nop)) (.seq (.reg (.op 0 (.op 1 (.op 2 (.op 3 (.op 4 (.op 5 (.op 6 (.op 7 .done))))))))) (.seq (.seq (.reg (.op 0 (.op 1 .done))) (.cond (.seq (.reg (.op 0 (.op 1 (.op 2 .done)))) .nop) .nop)) (.seq (.reg (.op 0 (.op 1 (.op 2 (.op 3 (.op 4 (.op 5 (.op 6 (.op 7 (.op 8 (.op 9 (.op 10 .done)))))))))))) (.seq (.reg (.op 0 .done)) (.seq (.reg (.op 0 (.op 1 (.op 2 (.op 3 (.op 4 .done)))))) (.seq (.sub (.loop [] [51, 52, 53, 54, 55, 57, 58, 56, 59, 60, 16, 17, 61, 62, 63, 64, 65] (.seq (.seq (.reg (.op 0 (.op 1 (.op 2 (.op 3 (.op 4 .done)))))) (.cond .nop .nop)) (.sub (.seq (.reg (.op 0 (.op 1 (.op 2 (.op 3 (.op 4 (.op 5 (.op 6 (.op 7 .done))))))))) (.seq (.reg (.op 0 (.op 1 (.op 2 .done)))) (.reg (.op 0 (.op 1 .done))))))))) (.seq (.seq (.reg (.op 0 (.op 1 .done))) (.cond (.seq (.reg (.op 0 (.op 1 .done))) .nop) .nop)) (.seq (.reg (.op 0 (.op 1 (.op 2 (.op 3 (.op 4 (.op 5 (.op 6 (.op 7 (.op 8 (.op 9 .done))))))))))) .nop)))))))))))

theorem rope_Rope_Slice.ok : okC Tryd.f23.ntmps rope_Rope_Slice.sc (bodyOf Tryd.f23) = true := by kernel_rfl

theorem rope_Rope_Slice.eq {K : K1} {r0 from1 to2 : Value} {w : World} : rope_Rope_Slice K r0 from1 to2 w = codeS Tryd.prog rope_Rope_Slice.sc (bodyOf Tryd.f23) (argsF 0 [r0, from1, to2]) w (retQ Tryd.prog Tryd.f23.results.toList K) := by kernel_rfl

theorem rope_Rope_Slice.call {K : K1} {r0 from1 to2 : Value} {w : World} (h : rope_Rope_Slice K r0 from1 to2 w) : sCall Tryd.prog 23 [r0, from1, to2] w K := sCall_code mixed Tryd.func23 (by kernel_rfl) rfl rfl rope_Rope_Slice.ok rope_Rope_Slice.eq h

abbrev rope_Rope_Slice.n : Nat := 23

/-- '(*bodkin rope.Rope).At' -/
def rope_Rope_At (K : K1) (r0 at1 : Value) (w : World) : Prop :=
  sCall Tryd.prog 41 [r0, at1] w fun x13 w =>
  sExtract x13 0 w fun x14 w =>
  sExtract x13 1 w fun x15 w =>
  sAlloc Tryd.prog 73 w fun s6 w =>
  sStore Tryd.prog 73 s6 x14 w fun w =>
  sBin Tryd.prog .neq 24 false true x15 (.int .i64 0) w fun x17 w =>
  sIf x17 (
    K (.tuple #[(.int .i32 0), (.int .i64 1)]) w) (
    sFldA Tryd.prog 73 s6 2 w fun x19 w =>
    sLoad Tryd.prog 3 x19 w fun x20 w =>
    sFldA Tryd.prog 73 s6 1 w fun x21 w =>
    sFldA Tryd.prog 71 x21 4 w fun x22 w =>
    sLoad Tryd.prog 9 x22 w fun x23 w =>
    sBuiltin Tryd.prog .len [9] 3 [x23] w fun x24 w =>
    sBin Tryd.prog .eql 3 false false x20 x24 w fun x25 w =>
    sIf x25 (
      K (.tuple #[(.int .i32 0), (.int .i64 1)]) w) (
      sFldA Tryd.prog 73 s6 1 w fun x28 w =>
      sFldA Tryd.prog 71 x28 4 w fun x29 w =>
      sLoad Tryd.prog 9 x29 w fun x30 w =>
      sFldA Tryd.prog 73 s6 2 w fun x31 w =>
      sLoad Tryd.prog 3 x31 w fun x32 w =>
      sCall Tryd.prog 57 [x30, x32] w fun x33 w =>
      sExtract x33 0 w fun x34 w =>
      sExtract x33 1 w fun x35 w =>
      K (.tuple #[x34, (.int .i64 0)]) w))

def rope_Rope_At.sc : SC := (.seq (.reg (.op 0 (.op 1 .done))) (.seq (.reg (.op 0 (.op 1 (.op 2 (.op 3 (.op 4 (.op 5 (.op 6 (.op 7 (.op 8 .done)))))))))) (.seq (.seq (.reg (.op 0 (.op 1 (.op 2 (.test 2 (.skip 3 (.skip 4 (.skip 5 (.skip 6 (.skip 7 (.skip 8 (.skip 9 (.op 10 .done)))))))) (.op 3 (.op 4 (.op 5 (.op 6 (.op 7 (.op 8 (.op 9 (.op 10 .done))))))))))))) (.cond (.seq (.reg (.op 0 (.op 1 .done))) .nop) .nop)) (.seq (.reg (.op 0 (.op 1 (.op 2 (.op 3 (.op 4 (.op 5 (.op 6 (.op 7 (.op 8 (.op 9 (.op 10 .done)))))))))))) (.seq (.reg (.op 0 (.op 1 (.op 2 .done)))) .nop)))))

theorem rope_Rope_At.ok : okC Tryd.f24.ntmps rope_Rope_At.sc (bodyOf Tryd.f24) = true := by kernel_rfl

theorem rope_Rope_At.eq {K : K1} {r0 at1 : Value} {w : World} : rope_Rope_At K r0 at1 w = codeS Tryd.prog rope_Rope_At.sc (bodyOf Tryd.f24) (argsF 0 [r0, at1]) w (retQ Tryd.prog Tryd.f24.results.toList K) := by kernel_rfl

theorem rope_Rope_At.call {K : K1} {r0 at1 : Value} {w : World} (h : rope_Rope_At K r0 at1 w) : sCall Tryd.prog 24 [r0, at1] w K := sCall_code mixed Tryd.func24 (by kernel_rfl) rfl rfl rope_Rope_At.ok rope_Rope_At.eq h

abbrev rope_Rope_At.n : Nat := 24

/-- 'bodkin bodkinref07.Inside' -/
def bodkinref07_Inside (K : K1) (n0 from1 to2 : Value) (w : World) : Prop :=
  sBin Tryd.prog .geq 3 false true from1 (.int .i64 0) w fun x8 w =>
  sIf x8 (
    sBin Tryd.prog .geq 3 false false to2 from1 w fun x12 w =>
    sIf x12 (
      sBin Tryd.prog .leq 3 false false to2 n0 w fun x17 w =>
      K x17 w) (
      K (.bool false) w)) (
    K (.bool false) w)

def bodkinref07_Inside.sc : SC := (.seq (.reg (.op 0 .done)) (.seq (.reg (.op 0 (.op 1 (.op 2 (.test 2 (.op 3 (.op 4 (.op 5 (.op 6 (.op 7 (.test 7 (.op 8 (.op 9 (.op 10 (.op 11 (.op 12 .done))))) (.skip 8 (.skip 9 (.skip 10 (.op 11 (.op 12 .done))))))))))) (.skip 3 (.skip 4 (.skip 5 (.op 6 (.op 7 (.know 7 false (.skip 8 (.skip 9 (.skip 10 (.op 11 (.op 12 .done)))))))))))))))) .nop))

theorem bodkinref07_Inside.ok : okC Tryd.f25.ntmps bodkinref07_Inside.sc (bodyOf Tryd.f25) = true := by kernel_rfl

theorem bodkinref07_Inside.eq {K : K1} {n0 from1 to2 : Value} {w : World} : bodkinref07_Inside K n0 from1 to2 w = codeS Tryd.prog bodkinref07_Inside.sc (bodyOf Tryd.f25) (argsF 0 [n0, from1, to2]) w (retQ Tryd.prog Tryd.f25.results.toList K) := by kernel_rfl

theorem bodkinref07_Inside.call {K : K1} {n0 from1 to2 : Value} {w : World} (h : bodkinref07_Inside K n0 from1 to2 w) : sCall Tryd.prog 25 [n0, from1, to2] w K := sCall_code mixed Tryd.func25 (by kernel_rfl) rfl rfl bodkinref07_Inside.ok bodkinref07_Inside.eq h

abbrev bodkinref07_Inside.n : Nat := 25

/-- 'bodkin bodkinref01.Encode' -/
def bodkinref01_Encode_L1 (K : K1) (Nx1 : List Value → World → Prop) (l0 x8 : Value) (out3 x9 : Value) (w : World) : Prop :=
  sBin Tryd.prog .lss 3 false false x9 x8 w fun x10 w =>
  sIf x10 (
    sIdxA Tryd.prog 27 l0 x9 w fun x11 w =>
    sLoad Tryd.prog 21 x11 w fun x12 w =>
    sCall Tryd.prog 58 [x12] w fun x14 w =>
    sBin Tryd.prog .eql 3 false true x14 (.int .i64 0) w fun x16 w =>
    sIf x16 (
      sCall Tryd.prog 59 [(.int .i32 65533), (.int .i64 3)] w fun x18 w =>
      sBin Tryd.prog .add 9 false false out3 x18 w fun x19 w =>
      sBin Tryd.prog .add 3 false true x9 (.int .i64 1) w fun x25 w =>
      Nx1 [x19, x25] w) (
      sCall Tryd.prog 59 [x12, x14] w fun x23 w =>
      sBin Tryd.prog .add 9 false false out3 x23 w fun x24 w =>
      sBin Tryd.prog .add 3 false true x9 (.int .i64 1) w fun x25_1 w =>
      Nx1 [x24, x25_1] w)) (
    K out3 w)

def bodkinref01_Encode (K : K1) (l0 : Value) (w : World) : Prop :=
  sBuiltin Tryd.prog .len [27] 3 [l0] w fun x8 w =>
  LoopS [(.string ⟨#[]⟩), (.int .i64 0)] 2 18 w fun us _ w Nx1 =>
    bodkinref01_Encode_L1 K Nx1 l0 x8 (hd us) (hd (tl us)) w

def bodkinref01_Encode.sc : SC := (.seq (.reg (.op 0 .done)) (.seq (.reg (.op 0 .done)) (.seq (.seq (.reg (.op 0 (.op 1 (.op 2 .done)))) (.sub (.loop [3, 9] [10, 11, 12, 5, 13, 14, 6, 15, 16, 17, 18, 19, 20, 21, 22, 23, 24, 25] (.seq (.reg (.op 0 .done)) (.seq (.cond .nop .nop) (.seq (.sub (.seq (.reg (.op 0 (.op 1 (.op 2 .done)))) (.seq (.reg (.op 0 (.op 1 (.op 2 .done)))) (.seq (.reg (.op 0 (.op 1 .done))) (.cond (.reg (.op 0 (.op 1 (.op 2 (.op 3 .done))))) (.reg (.op 0 (.op 1 (.op 2 (.op 3 (.op 4 (.op 5 .done)))))))))))) (.reg (.op 0 (.op 1 .done))))))))) (.seq (.reg (.op 0 (.op 1 .done))) .nop))))

theorem bodkinref01_Encode.ok : okC Tryd.f26.ntmps bodkinref01_Encode.sc (bodyOf Tryd.f26) = true := by kernel_rfl

theorem bodkinref01_Encode.eq {K : K1} {l0 : Value} {w : World} : bodkinref01_Encode K l0 w = codeS Tryd.prog bodkinref01_Encode.sc (bodyOf Tryd.f26) (argsF 0 [l0]) w (retQ Tryd.prog Tryd.f26.results.toList K) := by kernel_rfl

theorem bodkinref01_Encode.call {K : K1} {l0 : Value} {w : World} (h : bodkinref01_Encode K l0 w) : sCall Tryd.prog 26 [l0] w K := sCall_code mixed Tryd.func26 (by kernel_rfl) rfl rfl bodkinref01_Encode.ok bodkinref01_Encode.eq h

abbrev bodkinref01_Encode.n : Nat := 26

/-- '(*bodkin rope.Rope).Behind' -/
def rope_Rope_Behind_J3 (M1 : List Value → World → Prop) (Nx2 : List Value → World → Prop) (k1 x41 : Value) (seen10_1 : Value) (w : World) : Prop :=
  sBin Tryd.prog .eql 3 false false seen10_1 k1 w fun x48 w =>
  sIf x48 (
    M1 [x41] w) (
    Nx2 [x41, seen10_1] w)

def rope_Rope_Behind_L2 (M1 : List Value → World → Prop) (Nx2 : List Value → World → Prop) (k1 x36 : Value) (n9 seen10 : Value) (w : World) : Prop :=
  sNext Tryd.prog x36 true 0 w fun x37 w =>
  sExtract x37 0 w fun x38 w =>
  sIf x38 (
    sExtract x37 2 w fun x39 w =>
    sBin Tryd.prog .add 3 false true n9 (.int .i64 1) w fun x41 w =>
    JoinS 1 4 (fun M3 =>
      sBin Tryd.prog .eql 21 false true x39 (.int .i32 10) w fun x43 w =>
      sIf x43 (
        sBin Tryd.prog .add 3 false true seen10 (.int .i64 1) w fun x45 w =>
        M3 [x45] w) (
        M3 [seen10] w)) fun us _ w =>
      rope_Rope_Behind_J3 M1 Nx2 k1 x41 (hd us) w) (
    M1 [n9] w)

def rope_Rope_Behind_J1 (K : K1) (n9_1 : Value) (w : World) : Prop :=
  K (.tuple #[n9_1, (.int .i64 0)]) w

def rope_Rope_Behind (K : K1) (r0 k1 : Value) (w : World) : Prop :=
  sBin Tryd.prog .eql 3 false true k1 (.int .i64 0) w fun x14 w =>
  sIf x14 (
    K (.tuple #[(.int .i64 0), (.int .i64 0)]) w) (
    sCall Tryd.prog 39 [r0, (.int .i64 2), k1, (.int .i64 0)] w fun x18 w =>
    sExtract x18 0 w fun x19 w =>
    sExtract x18 1 w fun x20 w =>
    sExtract x18 2 w fun x21 w =>
    sAlloc Tryd.prog 73 w fun s6 w =>
    sStore Tryd.prog 73 s6 x19 w fun w =>
    sBin Tryd.prog .neq 24 false true x21 (.int .i64 0) w fun x23 w =>
    sIf x23 (
      K (.tuple #[(.int .i64 0), x21]) w) (
      DrawS w fun C w =>
      stillS C w (fun w k => sFldA Tryd.prog 73 s6 0 w k) fun x25 =>
      stillS C w (fun w k => sFldA Tryd.prog 69 x25 1 w k) fun x26 =>
      stillS C w (fun w k => sIdxA Tryd.prog 67 x26 (.int .i64 1) w k) fun x27 =>
      stillS C w (fun w k => sLoad Tryd.prog 3 x27 w k) fun x28 =>
      stillS C w (fun w k => sFldA Tryd.prog 73 s6 0 w k) fun x29 =>
      stillS C w (fun w k => sFldA Tryd.prog 69 x29 1 w k) fun x30 =>
      stillS C w (fun w k => sIdxA Tryd.prog 67 x30 (.int .i64 2) w k) fun x31 =>
      stillS C w (fun w k => sLoad Tryd.prog 3 x31 w k) fun x32 =>
      JoinS 1 18 (fun M1 =>
        sFldA Tryd.prog 73 s6 1 w fun x33 w =>
        sFldA Tryd.prog 71 x33 4 w fun x34 w =>
        sLoad Tryd.prog 9 x34 w fun x35 w =>
        sRange Tryd.prog 9 x35 w fun x36 w =>
        LoopS [x28, x32] 2 13 w fun us _ w Nx2 =>
          rope_Rope_Behind_L2 M1 Nx2 k1 x36 (hd us) (hd (tl us)) w) fun us _ w =>
        rope_Rope_Behind_J1 K (hd us) w))

def rope_Rope_Behind.sc : SC := (.seq (.reg (.op 0 (.op 1 .done))) (.seq (.seq (.reg (.op 0 (.op 1 .done))) (.cond (.seq (.reg (.op 0 (.op 1 .done))) .nop) .nop)) (.seq (.reg (.op 0 (.op 1 (.op 2 (.op 3 (.op 4 (.op 5 (.op 6 (.op 7 (.op 8 (.op 9 (.op 10 .done)))))))))))) (.seq (.seq (.reg (.op 0 (.op 1 .done))) (.cond (.seq (.reg (.op 0 (.op 1 (.op 2 .done)))) .nop) .nop)) (.seq (.draw (.op 0 (.op 1 (.op 2 (.op 3 (.op 4 (.op 5 (.op 6 (.op 7 (.op 8 (.op 9 .done))))))))))) (.join [9] [33, 34, 35, 36, 37, 38, 39, 12, 40, 41, 42, 43, 44, 45, 10, 46, 47, 48] (.seq (.reg (.op 0 (.op 1 (.op 2 (.op 3 .done))))) (.sub (.loop [9, 10] [37, 38, 39, 12, 40, 41, 42, 43, 44, 45, 46, 47, 48] (.seq (.reg (.op 0 (.op 1 .done))) (.seq (.cond .nop .nop) (.sub (.seq (.reg (.op 0 (.op 1 .done))) (.seq (.reg (.op 0 (.op 1 (.op 2 .done)))) (.join [10] [42, 43, 44, 45] (.seq (.reg (.op 0 (.op 1 .done))) (.cond (.reg (.op 0 (.op 1 (.op 2 .done)))) .nop)) (.seq (.reg (.op 0 (.op 1 (.op 2 .done)))) (.cond .nop .nop))))))))))) (.seq (.reg (.op 0 (.op 1 (.op 2 .done)))) .nop)))))))

theorem rope_Rope_Behind.ok : okC Tryd.f27.ntmps rope_Rope_Behind.sc (bodyOf Tryd.f27) = true := by kernel_rfl

theorem rope_Rope_Behind.eq {K : K1} {r0 k1 : Value} {w : World} : rope_Rope_Behind K r0 k1 w = codeS Tryd.prog rope_Rope_Behind.sc (bodyOf Tryd.f27) (argsF 0 [r0, k1]) w (retQ Tryd.prog Tryd.f27.results.toList K) := by kernel_rfl

theorem rope_Rope_Behind.call {K : K1} {r0 k1 : Value} {w : World} (h : rope_Rope_Behind K r0 k1 w) : sCall Tryd.prog 27 [r0, k1] w K := sCall_code mixed Tryd.func27 (by kernel_rfl) rfl rfl rope_Rope_Behind.ok rope_Rope_Behind.eq h

abbrev rope_Rope_Behind.n : Nat := 27

/-- '(*bodkin rope.Rope).Text' -/
def rope_Rope_Text (K : K1) (r0 : Value) (w : World) : Prop :=
  sCall Tryd.prog 50 [r0] w fun x4 w =>
  sCall Tryd.prog 60 [x4, (.string ⟨#[]⟩)] w fun x5 w =>
  K x5 w

def rope_Rope_Text.sc : SC := (.seq (.reg (.op 0 .done)) (.seq (.reg (.op 0 (.op 1 (.op 2 (.op 3 .done))))) .nop))

theorem rope_Rope_Text.ok : okC Tryd.f28.ntmps rope_Rope_Text.sc (bodyOf Tryd.f28) = true := by kernel_rfl

theorem rope_Rope_Text.eq {K : K1} {r0 : Value} {w : World} : rope_Rope_Text K r0 w = codeS Tryd.prog rope_Rope_Text.sc (bodyOf Tryd.f28) (argsF 0 [r0]) w (retQ Tryd.prog Tryd.f28.results.toList K) := by kernel_rfl

theorem rope_Rope_Text.call {K : K1} {r0 : Value} {w : World} (h : rope_Rope_Text K r0 w) : sCall Tryd.prog 28 [r0] w K := sCall_code mixed Tryd.func28 (by kernel_rfl) rfl rfl rope_Rope_Text.ok rope_Rope_Text.eq h

abbrev rope_Rope_Text.n : Nat := 28

/-- 'bodkin bodkinplain.Ints' -/
def bodkinplain_Ints_L1 (K : K1) (Nx1 : List Value → World → Prop) (a0 b1 x7 : Value) (x8 : Value) (w : World) : Prop :=
  sBin Tryd.prog .lss 3 false false x8 x7 w fun x9 w =>
  sIf x9 (
    DrawS w fun C w =>
    stillS C w (fun w k => sBuiltin Tryd.prog .len [55] 3 [b1] w k) fun x13 =>
    stillS C w (fun w k => sBin Tryd.prog .geq 3 false false x8 x13 w k) fun x14 =>
    sIf x14 (
      K (.bool false) w) (
      stillS C w (fun w k => sIdxA Tryd.prog 55 a0 x8 w k) fun x18 =>
      stillS C w (fun w k => sLoad Tryd.prog 3 x18 w k) fun x19 =>
      stillS C w (fun w k => sIdxA Tryd.prog 55 b1 x8 w k) fun x22 =>
      stillS C w (fun w k => sLoad Tryd.prog 3 x22 w k) fun x23 =>
      stillS C w (fun w k => sBin Tryd.prog .neq 3 false false x19 x23 w k) fun x24 =>
      sIf x24 (
        K (.bool false) w) (
        sBin Tryd.prog .add 3 false true x8 (.int .i64 1) w fun x26 w =>
        Nx1 [x26] w))) (
    sBuiltin Tryd.prog .len [55] 3 [a0] w fun x28 w =>
    sBuiltin Tryd.prog .len [55] 3 [b1] w fun x30 w =>
    sBin Tryd.prog .eql 3 false false x28 x30 w fun x31 w =>
    K x31 w)

def bodkinplain_Ints (K : K1) (a0 b1 : Value) (w : World) : Prop :=
  sBuiltin Tryd.prog .len [55] 3 [a0] w fun x7 w =>
  LoopS [(.int .i64 0)] 1 20 w fun us _ w Nx1 =>
    bodkinplain_Ints_L1 K Nx1 a0 b1 x7 (hd us) w

def bodkinplain_Ints.sc : SC := (.seq (.reg (.op 0 .done)) (.seq (.seq (.reg (.op 0 (.op 1 (.op 2 .done)))) (.sub (.loop [8] [9, 10, 5, 11, 12, 13, 14, 15, 16, 17, 18, 19, 20, 21, 22, 23, 24, 25, 4, 26] (.seq (.reg (.op 0 .done)) (.seq (.cond .nop .nop) (.seq (.sub (.seq (.reg (.op 0 (.op 1 .done))) (.seq (.draw (.op 0 (.op 1 (.op 2 (.op 3 (.op 4 (.test 4 (.skip 5 (.skip 6 (.skip 7 (.skip 8 (.skip 9 (.skip 10 (.skip 11 (.skip 12 (.skip 13 (.op 14 .done)))))))))) (.op 5 (.op 6 (.op 7 (.op 8 (.op 9 (.op 10 (.op 11 (.op 12 (.op 13 (.op 14 .done))))))))))))))))) (.cond (.seq (.reg (.op 0 .done)) .nop) .nop)))) (.reg (.op 0 (.op 1 .done))))))))) (.seq (.reg (.op 0 (.op 1 (.op 2 (.op 3 (.op 4 (.op 5 .done))))))) .nop)))

theorem bodkinplain_Ints.ok : okC Tryd.f29.ntmps bodkinplain_Ints.sc (bodyOf Tryd.f29) = true := by kernel_rfl

theorem bodkinplain_Ints.eq {K : K1} {a0 b1 : Value} {w : World} : bodkinplain_Ints K a0 b1 w = codeS Tryd.prog bodkinplain_Ints.sc (bodyOf Tryd.f29) (argsF 0 [a0, b1]) w (retQ Tryd.prog Tryd.f29.results.toList K) := by kernel_rfl

theorem bodkinplain_Ints.call {K : K1} {a0 b1 : Value} {w : World} (h : bodkinplain_Ints K a0 b1 w) : sCall Tryd.prog 29 [a0, b1] w K := sCall_code mixed Tryd.func29 (by kernel_rfl) rfl rfl bodkinplain_Ints.ok bodkinplain_Ints.eq h

abbrev bodkinplain_Ints.n : Nat := 29

/-- '(*bodkin rope.Rope).Breaks' -/
def rope_Rope_Breaks (K : K1) (r0 : Value) (w : World) : Prop :=
  sCall Tryd.prog 42 [r0, (.int .i64 2)] w fun x4 w =>
  K x4 w

def rope_Rope_Breaks.sc : SC := (.seq (.reg (.op 0 .done)) (.seq (.reg (.op 0 (.op 1 (.op 2 .done)))) .nop))

theorem rope_Rope_Breaks.ok : okC Tryd.f30.ntmps rope_Rope_Breaks.sc (bodyOf Tryd.f30) = true := by kernel_rfl

theorem rope_Rope_Breaks.eq {K : K1} {r0 : Value} {w : World} : rope_Rope_Breaks K r0 w = codeS Tryd.prog rope_Rope_Breaks.sc (bodyOf Tryd.f30) (argsF 0 [r0]) w (retQ Tryd.prog Tryd.f30.results.toList K) := by kernel_rfl

theorem rope_Rope_Breaks.call {K : K1} {r0 : Value} {w : World} (h : rope_Rope_Breaks K r0 w) : sCall Tryd.prog 30 [r0] w K := sCall_code mixed Tryd.func30 (by kernel_rfl) rfl rfl rope_Rope_Breaks.ok rope_Rope_Breaks.eq h

abbrev rope_Rope_Breaks.n : Nat := 30

/-- '(*bodkin rope.Rope).Height' -/
def rope_Rope_Height (K : K1) (r0 : Value) (w : World) : Prop :=
  sCall Tryd.prog 46 [r0] w fun x4 w =>
  sCall Tryd.prog 61 [x4] w fun x5 w =>
  K x5 w

def rope_Rope_Height.sc : SC := (.seq (.reg (.op 0 .done)) (.seq (.reg (.op 0 (.op 1 (.op 2 (.op 3 .done))))) .nop))

theorem rope_Rope_Height.ok : okC Tryd.f31.ntmps rope_Rope_Height.sc (bodyOf Tryd.f31) = true := by kernel_rfl

theorem rope_Rope_Height.eq {K : K1} {r0 : Value} {w : World} : rope_Rope_Height K r0 w = codeS Tryd.prog rope_Rope_Height.sc (bodyOf Tryd.f31) (argsF 0 [r0]) w (retQ Tryd.prog Tryd.f31.results.toList K) := by kernel_rfl

theorem rope_Rope_Height.call {K : K1} {r0 : Value} {w : World} (h : rope_Rope_Height K r0 w) : sCall Tryd.prog 31 [r0] w K := sCall_code mixed Tryd.func31 (by kernel_rfl) rfl rfl rope_Rope_Height.ok rope_Rope_Height.eq h

abbrev rope_Rope_Height.n : Nat := 31

/-- 'bodkin bodkinref07.Behind' -/
def bodkinref07_Behind_L1 (K : K1) (Nx1 : List Value → World → Prop) (k1 l0 x12 : Value) (n6 x13 : Value) (w : World) : Prop :=
  sBin Tryd.prog .lss 3 false false x13 x12 w fun x14 w =>
  sIf x14 (
    sIdxA Tryd.prog 27 l0 x13 w fun x16 w =>
    sLoad Tryd.prog 21 x16 w fun x17 w =>
    sBin Tryd.prog .eql 21 false true x17 (.int .i32 10) w fun x19 w =>
    sIf x19 (
      sBin Tryd.prog .add 3 false true n6 (.int .i64 1) w fun x21 w =>
      sBin Tryd.prog .eql 3 false false x21 k1 w fun x24 w =>
      sIf x24 (
        sBin Tryd.prog .add 3 false true x13 (.int .i64 1) w fun x26 w =>
        K (.tuple #[x26, (.int .i64 0)]) w) (
        sBin Tryd.prog .add 3 false true x13 (.int .i64 1) w fun x27 w =>
        Nx1 [x21, x27] w)) (
      sBin Tryd.prog .add 3 false true x13 (.int .i64 1) w fun x27_1 w =>
      Nx1 [n6, x27_1] w)) (
    K (.tuple #[(.int .i64 0), (.int .i64 1)]) w)

def bodkinref07_Behind (K : K1) (l0 k1 : Value) (w : World) : Prop :=
  sBin Tryd.prog .eql 3 false true k1 (.int .i64 0) w fun x10 w =>
  sIf x10 (
    K (.tuple #[(.int .i64 0), (.int .i64 0)]) w) (
    sBuiltin Tryd.prog .len [27] 3 [l0] w fun x12 w =>
    LoopS [(.int .i64 0), (.int .i64 0)] 2 18 w fun us _ w Nx1 =>
      bodkinref07_Behind_L1 K Nx1 k1 l0 x12 (hd us) (hd (tl us)) w)

def bodkinref07_Behind.sc : SC := (.seq (.reg (.op 0 (.op 1 .done))) (.seq (.seq (.reg (.op 0 (.op 1 .done))) (.cond (.seq (.reg (.op 0 (.op 1 .done))) .nop) .nop)) (.seq (.reg (.op 0 .done)) (.seq (.seq (.reg (.op 0 (.op 1 (.op 2 .done)))) (.sub (.loop [6, 13] [14, 15, 16, 17, 7, 8, 18, 19, 20, 21, 22, 23, 24, 25, 26, 4, 5, 27] (.seq (.reg (.op 0 .done)) (.seq (.cond .nop .nop) (.seq (.sub (.seq (.reg (.op 0 (.op 1 (.op 2 (.op 3 (.op 4 .done)))))) (.seq (.reg (.op 0 (.op 1 .done))) (.cond (.seq (.reg (.op 0 (.op 1 (.op 2 .done)))) (.seq (.reg (.op 0 (.op 1 (.op 2 .done)))) (.cond (.seq (.reg (.op 0 (.op 1 (.op 2 (.op 3 .done))))) .nop) .nop))) .nop)))) (.reg (.op 0 (.op 1 .done))))))))) (.seq (.reg (.op 0 (.op 1 .done))) .nop)))))

theorem bodkinref07_Behind.ok : okC Tryd.f32.ntmps bodkinref07_Behind.sc (bodyOf Tryd.f32) = true := by kernel_rfl

theorem bodkinref07_Behind.eq {K : K1} {l0 k1 : Value} {w : World} : bodkinref07_Behind K l0 k1 w = codeS Tryd.prog bodkinref07_Behind.sc (bodyOf Tryd.f32) (argsF 0 [l0, k1]) w (retQ Tryd.prog Tryd.f32.results.toList K) := by kernel_rfl

theorem bodkinref07_Behind.call {K : K1} {l0 k1 : Value} {w : World} (h : bodkinref07_Behind K l0 k1 w) : sCall Tryd.prog 32 [l0, k1] w K := sCall_code mixed Tryd.func32 (by kernel_rfl) rfl rfl bodkinref07_Behind.ok bodkinref07_Behind.eq h

abbrev bodkinref07_Behind.n : Nat := 32

/-- '(*bodkin rope.Rope).Ahead' -/
def rope_Rope_Ahead (K : K1) (r0 at1 : Value) (w : World) : Prop :=
  sCall Tryd.prog 41 [r0, at1] w fun x11 w =>
  sExtract x11 0 w fun x12 w =>
  sExtract x11 1 w fun x13 w =>
  sAlloc Tryd.prog 73 w fun s6 w =>
  sStore Tryd.prog 73 s6 x12 w fun w =>
  sBin Tryd.prog .neq 24 false true x13 (.int .i64 0) w fun x15 w =>
  sIf x15 (
    K (.tuple #[(.int .i64 0), x13]) w) (
    DrawS w fun C w =>
    stillS C w (fun w k => sFldA Tryd.prog 73 s6 0 w k) fun x17 =>
    stillS C w (fun w k => sFldA Tryd.prog 69 x17 1 w k) fun x18 =>
    stillS C w (fun w k => sIdxA Tryd.prog 67 x18 (.int .i64 2) w k) fun x19 =>
    stillS C w (fun w k => sLoad Tryd.prog 3 x19 w k) fun x20 =>
    stillS C w (fun w k => sFldA Tryd.prog 73 s6 1 w k) fun x21 =>
    stillS C w (fun w k => sFldA Tryd.prog 71 x21 4 w k) fun x22 =>
    stillS C w (fun w k => sLoad Tryd.prog 9 x22 w k) fun x23 =>
    stillS C w (fun w k => sFldA Tryd.prog 73 s6 2 w k) fun x24 =>
    stillS C w (fun w k => sLoad Tryd.prog 3 x24 w k) fun x25 =>
    stillS C w (fun w k => sSlice Tryd.prog 9 x23 none (some x25) none w k) fun x26 =>
    sCall Tryd.prog 62 [x26, (.string ⟨#[10]⟩)] w fun x27 w => C w ∧
    stillS C w (fun w k => sBin Tryd.prog .add 3 false false x20 x27 w k) fun x28 =>
    K (.tuple #[x28, (.int .i64 0)]) w)

def rope_Rope_Ahead.sc : SC := (.seq (.reg (.op 0 (.op 1 .done))) (.seq (.reg (.op 0 (.op 1 (.op 2 (.op 3 (.op 4 (.op 5 (.op 6 (.op 7 (.op 8 .done)))))))))) (.seq (.seq (.reg (.op 0 (.op 1 .done))) (.cond (.seq (.reg (.op 0 (.op 1 (.op 2 .done)))) .nop) .nop)) (.seq (.draw (.op 0 (.op 1 (.op 2 (.op 3 (.op 4 (.op 5 (.op 6 (.op 7 (.op 8 (.op 9 (.op 10 (.op 11 (.op 12 (.op 13 .done))))))))))))))) .nop))))

theorem rope_Rope_Ahead.ok : okC Tryd.f33.ntmps rope_Rope_Ahead.sc (bodyOf Tryd.f33) = true := by kernel_rfl

theorem rope_Rope_Ahead.eq {K : K1} {r0 at1 : Value} {w : World} : rope_Rope_Ahead K r0 at1 w = codeS Tryd.prog rope_Rope_Ahead.sc (bodyOf Tryd.f33) (argsF 0 [r0, at1]) w (retQ Tryd.prog Tryd.f33.results.toList K) := by kernel_rfl

theorem rope_Rope_Ahead.call {K : K1} {r0 at1 : Value} {w : World} (h : rope_Rope_Ahead K r0 at1 w) : sCall Tryd.prog 33 [r0, at1] w K := sCall_code mixed Tryd.func33 (by kernel_rfl) rfl rfl rope_Rope_Ahead.ok rope_Rope_Ahead.eq h

abbrev rope_Rope_Ahead.n : Nat := 33

/-- 'bodkin bodkinref07.Ahead' -/
def bodkinref07_Ahead_L1 (K : K1) (Nx1 : List Value → World → Prop) (x19 x20 : Value) (n6 x21 : Value) (w : World) : Prop :=
  sBin Tryd.prog .lss 3 false false x21 x20 w fun x22 w =>
  sIf x22 (
    sIdxA Tryd.prog 27 x19 x21 w fun x23 w =>
    sLoad Tryd.prog 21 x23 w fun x24 w =>
    sBin Tryd.prog .eql 21 false true x24 (.int .i32 10) w fun x26 w =>
    sIf x26 (
      sBin Tryd.prog .add 3 false true n6 (.int .i64 1) w fun x28 w =>
      sBin Tryd.prog .add 3 false true x21 (.int .i64 1) w fun x29 w =>
      Nx1 [x28, x29] w) (
      sBin Tryd.prog .add 3 false true x21 (.int .i64 1) w fun x29_1 w =>
      Nx1 [n6, x29_1] w)) (
    K (.tuple #[n6, (.int .i64 0)]) w)

def bodkinref07_Ahead (K : K1) (l0 at1 : Value) (w : World) : Prop :=
  sBin Tryd.prog .lss 3 false true at1 (.int .i64 0) w fun x10 w =>
  sIf x10 (
    K (.tuple #[(.int .i64 0), (.int .i64 1)]) w) (
    sBuiltin Tryd.prog .len [27] 3 [l0] w fun x14 w =>
    sBin Tryd.prog .gtr 3 false false at1 x14 w fun x15 w =>
    sIf x15 (
      K (.tuple #[(.int .i64 0), (.int .i64 1)]) w) (
      sSlice Tryd.prog 27 l0 none (some at1) none w fun x19 w =>
      sBuiltin Tryd.prog .len [27] 3 [x19] w fun x20 w =>
      LoopS [(.int .i64 0), (.int .i64 0)] 2 9 w fun us _ w Nx1 =>
        bodkinref07_Ahead_L1 K Nx1 x19 x20 (hd us) (hd (tl us)) w))

def bodkinref07_Ahead.sc : SC := (.seq (.reg (.op 0 (.op 1 .done))) (.seq (.seq (.reg (.op 0 (.op 1 (.op 2 (.test 2 (.skip 3 (.skip 4 (.skip 5 (.skip 6 (.op 7 .done))))) (.op 3 (.op 4 (.op 5 (.op 6 (.op 7 .done)))))))))) (.cond (.seq (.reg (.op 0 (.op 1 .done))) .nop) .nop)) (.seq (.reg (.op 0 .done)) (.seq (.seq (.reg (.op 0 (.op 1 (.op 2 (.op 3 (.op 4 .done)))))) (.sub (.loop [6, 21] [22, 23, 24, 8, 25, 26, 27, 28, 29] (.seq (.reg (.op 0 .done)) (.seq (.cond .nop .nop) (.seq (.sub (.seq (.reg (.op 0 (.op 1 (.op 2 .done)))) (.seq (.reg (.op 0 (.op 1 .done))) (.cond (.reg (.op 0 (.op 1 (.op 2 .done)))) .nop)))) (.reg (.op 0 (.op 1 .done))))))))) (.seq (.reg (.op 0 (.op 1 (.op 2 .done)))) .nop)))))

theorem bodkinref07_Ahead.ok : okC Tryd.f34.ntmps bodkinref07_Ahead.sc (bodyOf Tryd.f34) = true := by kernel_rfl

theorem bodkinref07_Ahead.eq {K : K1} {l0 at1 : Value} {w : World} : bodkinref07_Ahead K l0 at1 w = codeS Tryd.prog bodkinref07_Ahead.sc (bodyOf Tryd.f34) (argsF 0 [l0, at1]) w (retQ Tryd.prog Tryd.f34.results.toList K) := by kernel_rfl

theorem bodkinref07_Ahead.call {K : K1} {l0 at1 : Value} {w : World} (h : bodkinref07_Ahead K l0 at1 w) : sCall Tryd.prog 34 [l0, at1] w K := sCall_code mixed Tryd.func34 (by kernel_rfl) rfl rfl bodkinref07_Ahead.ok bodkinref07_Ahead.eq h

abbrev bodkinref07_Ahead.n : Nat := 34

/-- 'bodkin utf.Decode' -/
def utf_Decode_L1 (K : K1) (Nx1 : List Value → World → Prop) (x7 : Value) (out3 : Value) (w : World) : Prop :=
  sNext Tryd.prog x7 true 0 w fun x8 w =>
  sExtract x8 0 w fun x9 w =>
  sIf x9 (
    sExtract x8 2 w fun x10 w =>
    sBuildSlice Tryd.prog 27 1 [(0, x10)] w fun x13 w =>
    sBuiltin Tryd.prog .append [27, 27] 27 [out3, x13] w fun x14 w =>
    Nx1 [x14] w) (
    K out3 w)

def utf_Decode (K : K1) (s0 : Value) (w : World) : Prop :=
  sRange Tryd.prog 9 s0 w fun x7 w =>
  LoopS [(.slice none 0 0)] 1 8 w fun us _ w Nx1 =>
    utf_Decode_L1 K Nx1 x7 (hd us) w

def utf_Decode.sc : SC := (.seq (.reg (.op 0 .done)) (.seq (.reg (.op 0 .done)) (.seq (.seq (.reg (.op 0 (.op 1 .done))) (.sub (.loop [3] [8, 9, 10, 5, 11, 12, 13, 14] (.seq (.reg (.op 0 (.op 1 .done))) (.seq (.cond .nop .nop) (.sub (.seq (.reg (.op 0 (.op 1 .done))) (.reg (.op 0 (.op 1 (.op 2 (.op 3 (.op 4 .done))))))))))))) (.seq (.reg (.op 0 (.op 1 .done))) .nop))))

theorem utf_Decode.ok : okC Tryd.f35.ntmps utf_Decode.sc (bodyOf Tryd.f35) = true := by kernel_rfl

theorem utf_Decode.eq {K : K1} {s0 : Value} {w : World} : utf_Decode K s0 w = codeS Tryd.prog utf_Decode.sc (bodyOf Tryd.f35) (argsF 0 [s0]) w (retQ Tryd.prog Tryd.f35.results.toList K) := by kernel_rfl

theorem utf_Decode.call {K : K1} {s0 : Value} {w : World} (h : utf_Decode K s0 w) : sCall Tryd.prog 35 [s0] w K := sCall_code mixed Tryd.func35 (by kernel_rfl) rfl rfl utf_Decode.ok utf_Decode.eq h

abbrev utf_Decode.n : Nat := 35

/-- 'bodkin tree.New' -/
def tree_New_L1 (K : K1) (Nx1 : List Value → World → Prop) (l0 x13 : Value) (root4 x14 : Value) (w : World) : Prop :=
  sBin Tryd.prog .lss 3 false false x14 x13 w fun x15 w =>
  sIf x15 (
    sIdxA Tryd.prog 60 l0 x14 w fun x17 w =>
    sLoad Tryd.prog 71 x17 w fun x18 w =>
    sAlloc Tryd.prog 71 w fun x6 w =>
    sStore Tryd.prog 71 x6 x18 w fun w =>
    sLoad Tryd.prog 71 x6 w fun x19 w =>
    sCall Tryd.prog 63 [x19] w fun x20 w =>
    sBin Tryd.prog .neq 24 false true x20 (.int .i64 0) w fun x22 w =>
    sIf x22 (
      K (.tuple #[(.pointer none), x20]) w) (
      sBin Tryd.prog .rem 3 false true x14 (.int .i64 8) w fun x25 w =>
      sBin Tryd.prog .eql 3 false true x25 (.int .i64 0) w fun x26 w =>
      sIf x26 (
        sBuiltin Tryd.prog .len [60] 3 [l0] w fun x28 w =>
        sBin Tryd.prog .sub 3 false false x28 x14 w fun x30 w =>
        sBuiltin Tryd.prog .min [3, 3] 3 [(.int .i64 8), x30] w fun x31 w =>
        sMake Tryd.prog 60 x31 x31 w fun x32 w =>
        sSlice Tryd.prog 60 l0 (some x14) none none w fun x36 w =>
        sBuiltin Tryd.prog .copy [60, 60] 3 [x32, x36] w fun x37 w =>
        sCall Tryd.prog 65 [x32] w fun x40 w =>
        sIface Tryd.prog 107 x40 w fun x41 w =>
        sCall Tryd.prog 64 [root4, x41] w fun x42 w =>
        sBin Tryd.prog .add 3 false true x14 (.int .i64 1) w fun x43 w =>
        Nx1 [x42, x43] w) (
        sBin Tryd.prog .add 3 false true x14 (.int .i64 1) w fun x43_1 w =>
        Nx1 [root4, x43_1] w))) (
    sBuild Tryd.prog 110 [(0, root4)] w fun x45 w =>
    sBox Tryd.prog 110 x45 w fun x46 w =>
    K (.tuple #[x46, (.int .i64 0)]) w)

def tree_New (K : K1) (l0 : Value) (w : World) : Prop :=
  sBuiltin Tryd.prog .len [60] 3 [l0] w fun x10 w =>
  sBin Tryd.prog .gtr 3 false true x10 (.int .i64 30000) w fun x11 w =>
  sIf x11 (
    K (.tuple #[(.pointer none), (.int .i64 5)]) w) (
    sBuiltin Tryd.prog .len [60] 3 [l0] w fun x13 w =>
    LoopS [.nilIface, (.int .i64 0)] 2 35 w fun us _ w Nx1 =>
      tree_New_L1 K Nx1 l0 x13 (hd us) (hd (tl us)) w)

def tree_New.sc : SC := (.seq (.reg (.op 0 (.op 1 .done))) (.seq (.seq (.reg (.op 0 (.op 1 (.op 2 .done)))) (.cond (.seq (.reg (.op 0 (.op 1 .done))) .nop) .nop)) (.seq (.reg (.op 0 .done)) (.seq (.seq (.reg (.op 0 (.op 1 (.op 2 .done)))) (.sub (.loop [4, 14] [15, 16, 17, 18, 6, 5, 19, 20, 7, 21, 22, 23, 2, 3, 24, 25, 26, 27, 28, 29, 30, 31, 32, 8, 33, 34, 35, 36, 37, 38, 39, 40, 41, 42, 43] (.seq (.reg (.op 0 .done)) (.seq (.cond .nop .nop) (.seq (.sub (.seq (.reg (.op 0 (.op 1 (.op 2 (.op 3 (.op 4 (.op 5 .done))))))) (.seq (.seq (.reg (.op 0 (.op 1 (.op 2 .done)))) (.seq (.reg (.op 0 (.op 1 .done))) (.cond (.seq (.reg (.op 0 (.op 1 (.op 2 .done)))) .nop) .nop))) (.seq (.reg (.op 0 (.op 1 (.op 2 .done)))) (.cond (.seq (.reg (.op 0 (.op 1 (.op 2 (.op 3 (.op 4 (.op 5 (.op 6 .done)))))))) (.seq (.reg (.op 0 (.op 1 (.op 2 (.op 3 (.op 4 .done)))))) (.reg (.op 0 (.op 1 (.op 2 (.op 3 (.op 4 (.op 5 .done))))))))) .nop))))) (.reg (.op 0 (.op 1 .done))))))))) (.seq (.reg (.op 0 (.op 1 (.op 2 (.op 3 (.op 4 .done)))))) .nop)))))

theorem tree_New.ok : okC Tryd.f36.ntmps tree_New.sc (bodyOf Tryd.f36) = true := by kernel_rfl

theorem tree_New.eq {K : K1} {l0 : Value} {w : World} : tree_New K l0 w = codeS Tryd.prog tree_New.sc (bodyOf Tryd.f36) (argsF 0 [l0]) w (retQ Tryd.prog Tryd.f36.results.toList K) := by kernel_rfl

theorem tree_New.call {K : K1} {l0 : Value} {w : World} (h : tree_New K l0 w) : sCall Tryd.prog 36 [l0] w K := sCall_code mixed Tryd.func36 (by kernel_rfl) rfl rfl tree_New.ok tree_New.eq h

abbrev tree_New.n : Nat := 36

/-- 'bodkin rope.cut' -/
def rope_cut_L1 (K : K1) (Nx1 : List Value → World → Prop) (out3 l0_1 k4 : Value) (w : World) : Prop :=
  sBin Tryd.prog .gtr 3 false true k4 (.int .i64 0) w fun x12 w =>
  sIf x12 (
    sBuiltin Tryd.prog .len [27] 3 [l0_1] w fun x16 w =>
    sBin Tryd.prog .quo 3 false false x16 k4 w fun x18 w =>
    sSlice Tryd.prog 27 l0_1 none (some x18) none w fun x22 w =>
    sCall Tryd.prog 66 [x22] w fun x23 w =>
    sBuildSlice Tryd.prog 60 1 [(0, x23)] w fun x24 w =>
    sBuiltin Tryd.prog .append [60, 60] 60 [out3, x24] w fun x25 w =>
    sSlice Tryd.prog 27 l0_1 (some x18) none none w fun x28 w =>
    sBin Tryd.prog .sub 3 false true k4 (.int .i64 1) w fun x14 w =>
    Nx1 [x25, x28, x14] w) (
    K out3 w)

def rope_cut (K : K1) (l0 : Value) (w : World) : Prop :=
  sBuiltin Tryd.prog .len [27] 3 [l0] w fun x7 w =>
  sBin Tryd.prog .add 3 false true x7 (.int .i64 16) w fun x8 w =>
  sBin Tryd.prog .sub 3 false true x8 (.int .i64 1) w fun x9 w =>
  sBin Tryd.prog .quo 3 false true x9 (.int .i64 16) w fun x10 w =>
  LoopS [(.slice none 0 0), l0, x10] 3 19 w fun us _ w Nx1 =>
    rope_cut_L1 K Nx1 (hd us) (hd (tl us)) (hd (tl (tl us))) w

def rope_cut.sc : SC := (.seq (.reg (.op 0 .done)) (.seq (.reg (.op 0 .done)) (.seq (.seq (.reg (.op 0 (.op 1 (.op 2 (.op 3 (.op 4 (.op 5 .done))))))) (.sub (.loop [3, 0, 4] [11, 12, 15, 16, 17, 18, 5, 19, 20, 21, 22, 23, 24, 25, 26, 27, 28, 13, 14] (.seq (.seq (.reg (.op 0 (.op 1 .done))) (.cond .nop .nop)) (.seq (.sub (.seq (.reg (.op 0 (.op 1 (.op 2 (.op 3 (.op 4 .done)))))) (.seq (.reg (.op 0 (.op 1 (.op 2 (.op 3 (.op 4 (.op 5 (.op 6 (.op 7 .done))))))))) (.reg (.op 0 (.op 1 (.op 2 (.op 3 .done)))))))) (.reg (.op 0 (.op 1 (.op 2 .done))))))))) (.seq (.reg (.op 0 (.op 1 .done))) .nop))))

theorem rope_cut.ok : okC Tryd.f37.ntmps rope_cut.sc (bodyOf Tryd.f37) = true := by kernel_rfl

theorem rope_cut.eq {K : K1} {l0 : Value} {w : World} : rope_cut K l0 w = codeS Tryd.prog rope_cut.sc (bodyOf Tryd.f37) (argsF 0 [l0]) w (retQ Tryd.prog Tryd.f37.results.toList K) := by kernel_rfl

theorem rope_cut.call {K : K1} {l0 : Value} {w : World} (h : rope_cut K l0 w) : sCall Tryd.prog 37 [l0] w K := sCall_code mixed Tryd.func37 (by kernel_rfl) rfl rfl rope_cut.ok rope_cut.eq h

abbrev rope_cut.n : Nat := 37

/-- 'bodkin bodkinref01.Step' -/
def bodkinref01_Step_J2 (K : K1) (Nx1 : List Value → World → Prop) (n5 x36 x4 : Value) (x47 : Value) (w : World) : Prop :=
  sIf x47 (
    sBuild Tryd.prog 65 [(0, x36), (1, n5)] w fun x50 w =>
    sStore Tryd.prog 65 x4 x50 w fun w =>
    sLoad Tryd.prog 65 x4 w fun v w' => w' = w ∧ K v w) (
    sBin Tryd.prog .add 3 false true n5 (.int .i64 1) w fun x28 w =>
    Nx1 [x28] w)

def bodkinref01_Step_L1 (K : K1) (Nx1 : List Value → World → Prop) (at1 s0 x4 : Value) (n5 : Value) (w : World) : Prop :=
  sBin Tryd.prog .leq 3 false true n5 (.int .i64 4) w fun x18 w =>
  sIf x18 (
    sBuiltin Tryd.prog .len [9] 3 [s0] w fun x22 w =>
    sBin Tryd.prog .sub 3 false false x22 at1 w fun x24 w =>
    sBin Tryd.prog .leq 3 false false n5 x24 w fun x25 w =>
    sIf x25 (
      sBin Tryd.prog .add 3 false false at1 n5 w fun x33 w =>
      sSlice Tryd.prog 9 s0 (some at1) (some x33) none w fun x34 w =>
      sCall Tryd.prog 67 [x34] w fun x36 w =>
      JoinS 1 10 (fun M2 =>
        sCall Tryd.prog 58 [x36] w fun x38 w =>
        sBin Tryd.prog .eql 3 false false x38 n5 w fun x40 w =>
        sIf x40 (
          sCall Tryd.prog 59 [x36, n5] w fun x44 w =>
          sBin Tryd.prog .eql 9 false false x44 x34 w fun x46 w =>
          M2 [x46] w) (
          M2 [(.bool false)] w)) fun us _ w =>
        bodkinref01_Step_J2 K Nx1 n5 x36 x4 (hd us) w) (
      sBuild Tryd.prog 65 [(0, (.int .i32 65533)), (1, (.int .i64 1))] w fun x51 w =>
      sStore Tryd.prog 65 x4 x51 w fun w =>
      sLoad Tryd.prog 65 x4 w fun v w' => w' = w ∧ K v w)) (
    sBuild Tryd.prog 65 [(0, (.int .i32 65533)), (1, (.int .i64 1))] w fun x51_1 w =>
    sStore Tryd.prog 65 x4 x51_1 w fun w =>
    sLoad Tryd.prog 65 x4 w fun v w' => w' = w ∧ K v w)

def bodkinref01_Step (K : K1) (s0 at1 : Value) (w : World) : Prop :=
  sAlloc Tryd.prog 65 w fun x4 w =>
  sBin Tryd.prog .lss 3 false true at1 (.int .i64 0) w fun x9 w =>
  sIf x9 (
    sBuild Tryd.prog 65 [] w fun x16 w =>
    sStore Tryd.prog 65 x4 x16 w fun w =>
    sLoad Tryd.prog 65 x4 w fun v w' => w' = w ∧ K v w) (
    sBuiltin Tryd.prog .len [9] 3 [s0] w fun x13 w =>
    sBin Tryd.prog .geq 3 false false at1 x13 w fun x14 w =>
    sIf x14 (
      sBuild Tryd.prog 65 [] w fun x16_1 w =>
      sStore Tryd.prog 65 x4 x16_1 w fun w =>
      sLoad Tryd.prog 65 x4 w fun v w' => w' = w ∧ K v w) (
      LoopS [(.int .i64 1)] 1 36 w fun us _ w Nx1 =>
        bodkinref01_Step_L1 K Nx1 at1 s0 x4 (hd us) w))

def bodkinref01_Step.sc : SC := (.seq (.reg (.op 0 .done)) (.seq (.seq (.reg (.op 0 (.op 1 (.op 2 (.test 2 (.skip 3 (.skip 4 (.skip 5 (.skip 6 (.op 7 .done))))) (.op 3 (.op 4 (.op 5 (.op 6 (.op 7 .done)))))))))) (.cond (.seq (.reg (.op 0 (.op 1 .done))) .nop) .nop)) (.seq (.seq (.reg (.op 0 .done)) (.sub (.loop [5] [17, 18, 19, 20, 21, 22, 23, 24, 25, 26, 29, 30, 31, 32, 33, 34, 6, 35, 36, 7, 37, 38, 39, 40, 41, 42, 43, 44, 45, 46, 47, 48, 49, 50, 27, 28] (.seq (.seq (.reg (.op 0 (.op 1 (.op 2 (.test 2 (.op 3 (.op 4 (.op 5 (.op 6 (.op 7 (.op 8 (.op 9 .done))))))) (.skip 3 (.skip 4 (.skip 5 (.skip 6 (.skip 7 (.skip 8 (.op 9 .done)))))))))))) (.cond .nop .nop)) (.seq (.sub (.seq (.reg (.op 0 (.op 1 (.op 2 (.op 3 (.op 4 (.op 5 (.op 6 .done)))))))) (.seq (.reg (.op 0 (.op 1 (.op 2 .done)))) (.join [47] [37, 38, 39, 40, 41, 42, 43, 44, 45, 46] (.reg (.op 0 (.op 1 (.op 2 (.op 3 (.op 4 (.test 4 (.op 5 (.op 6 (.op 7 (.op 8 (.op 9 (.op 10 .done)))))) (.skip 5 (.skip 6 (.skip 7 (.skip 8 (.skip 9 (.op 10 .done))))))))))))) (.cond (.seq (.reg (.op 0 (.op 1 (.op 2 (.op 3 .done))))) .nop) .nop))))) (.reg (.op 0 (.op 1 (.op 2 .done))))))))) (.seq (.reg (.op 0 (.op 1 .done))) .nop))))

theorem bodkinref01_Step.ok : okC Tryd.f38.ntmps bodkinref01_Step.sc (bodyOf Tryd.f38) = true := by kernel_rfl

theorem bodkinref01_Step.eq {K : K1} {s0 at1 : Value} {w : World} : bodkinref01_Step K s0 at1 w = codeS Tryd.prog bodkinref01_Step.sc (bodyOf Tryd.f38) (argsF 0 [s0, at1]) w (retQ Tryd.prog Tryd.f38.results.toList K) := by kernel_rfl

theorem bodkinref01_Step.call {K : K1} {s0 at1 : Value} {w : World} (h : bodkinref01_Step K s0 at1 w) : sCall Tryd.prog 38 [s0, at1] w K := sCall_code mixed Tryd.func38 (by kernel_rfl) rfl rfl bodkinref01_Step.ok bodkinref01_Step.eq h

abbrev bodkinref01_Step.n : Nat := 38

/-- '(*bodkin rope.Rope).find' -/
def rope_Rope_find (K : K1) (r0 dim1 at2 bias3 : Value) (w : World) : Prop :=
  sAlloc Tryd.prog 73 w fun x8 w =>
  sCall Tryd.prog 46 [r0] w fun x16 w =>
  sCall Tryd.prog 68 [x16] w fun x17 w =>
  sCall Tryd.prog 48 [x17, dim1, at2, bias3] w fun x22 w =>
  sBin Tryd.prog .neq 24 false true x22 (.int .i64 0) w fun x24 w =>
  sIf x24 (
    sBuild Tryd.prog 73 [] w fun x25 w =>
    sStore Tryd.prog 73 x8 x25 w fun w =>
    sLoad Tryd.prog 73 x8 w fun v w' => w' = w ∧ K (.tuple #[v, (.pointer none), x22]) w) (
    sCall Tryd.prog 54 [x17] w fun x29 w =>
    sExtract x29 0 w fun x30 w =>
    sExtract x29 1 w fun x31 w =>
    sAlloc Tryd.prog 71 w fun i13 w =>
    sStore Tryd.prog 71 i13 x30 w fun w =>
    DrawS w fun C w =>
    stillS C w (fun w k => sLoad Tryd.prog 71 i13 w k) fun x34 =>
    sCall Tryd.prog 43 [x17] w fun x33 w => C w ∧
    stillS C w (fun w k => sBuild Tryd.prog 73 [(0, x33), (1, x34)] w k) fun x35 =>
    sStore Tryd.prog 73 x8 x35 w fun w => C w ∧
    sLoad Tryd.prog 73 x8 w fun v w' => w' = w ∧ K (.tuple #[v, x17, (.int .i64 0)]) w)

def rope_Rope_find.sc : SC := (.seq (.reg (.op 0 (.op 1 (.op 2 .done)))) (.seq (.reg (.op 0 (.op 1 (.op 2 (.op 3 .done))))) (.seq (.seq (.reg (.op 0 (.op 1 (.op 2 (.op 3 (.op 4 (.op 5 .done))))))) (.seq (.reg (.op 0 (.op 1 .done))) (.cond (.seq (.reg (.op 0 (.op 1 (.op 2 (.op 3 (.op 4 .done)))))) .nop) .nop))) (.seq (.reg (.op 0 (.op 1 (.op 2 (.op 3 (.op 4 (.op 5 (.op 6 (.op 7 .done))))))))) (.seq (.draw (.op 0 (.op 2 (.op 4 (.op 1 (.op 3 (.op 5 (.op 6 (.op 7 .done))))))))) .nop)))))

theorem rope_Rope_find.ok : okC Tryd.f39.ntmps rope_Rope_find.sc (bodyOf Tryd.f39) = true := by kernel_rfl

theorem rope_Rope_find.eq {K : K1} {r0 dim1 at2 bias3 : Value} {w : World} : rope_Rope_find K r0 dim1 at2 bias3 w = codeS Tryd.prog rope_Rope_find.sc (bodyOf Tryd.f39) (argsF 0 [r0, dim1, at2, bias3]) w (retQ Tryd.prog Tryd.f39.results.toList K) := by kernel_rfl

theorem rope_Rope_find.call {K : K1} {r0 dim1 at2 bias3 : Value} {w : World} (h : rope_Rope_find K r0 dim1 at2 bias3 w) : sCall Tryd.prog 39 [r0, dim1, at2, bias3] w K := sCall_code mixed Tryd.func39 (by kernel_rfl) rfl rfl rope_Rope_find.ok rope_Rope_find.eq h

abbrev rope_Rope_find.n : Nat := 39

/-- 'bodkin bodkinref01.Size' -/
def bodkinref01_Size (K : K1) (r0 : Value) (w : World) : Prop :=
  sCall Tryd.prog 58 [r0] w fun x5 w =>
  sBin Tryd.prog .eql 3 false true x5 (.int .i64 0) w fun x7 w =>
  sIf x7 (
    K (.int .i64 3) w) (
    K x5 w)

def bodkinref01_Size.sc : SC := (.seq (.reg (.op 0 .done)) (.seq (.reg (.op 0 (.op 1 (.op 2 .done)))) (.seq (.seq (.reg (.op 0 (.op 1 .done))) (.cond (.seq (.reg (.op 0 .done)) .nop) .nop)) (.seq (.reg (.op 0 (.op 1 .done))) .nop))))

theorem bodkinref01_Size.ok : okC Tryd.f40.ntmps bodkinref01_Size.sc (bodyOf Tryd.f40) = true := by kernel_rfl

theorem bodkinref01_Size.eq {K : K1} {r0 : Value} {w : World} : bodkinref01_Size K r0 w = codeS Tryd.prog bodkinref01_Size.sc (bodyOf Tryd.f40) (argsF 0 [r0]) w (retQ Tryd.prog Tryd.f40.results.toList K) := by kernel_rfl

theorem bodkinref01_Size.call {K : K1} {r0 : Value} {w : World} (h : bodkinref01_Size K r0 w) : sCall Tryd.prog 40 [r0] w K := sCall_code mixed Tryd.func40 (by kernel_rfl) rfl rfl bodkinref01_Size.ok bodkinref01_Size.eq h

abbrev bodkinref01_Size.n : Nat := 40

/-- '(*bodkin rope.Rope).place' -/
def rope_Rope_place_L2 (M1 : List Value → World → Prop) (Nx2 : List Value → World → Prop) (at1 s6 x34 : Value) (n9 : Value) (w : World) : Prop :=
  sNext Tryd.prog x34 true 0 w fun x35 w =>
  sExtract x35 0 w fun x36 w =>
  sIf x36 (
    sExtract x35 1 w fun x37 w =>
    sBin Tryd.prog .eql 3 false false n9 at1 w fun x40 w =>
    sIf x40 (
      sFldA Tryd.prog 73 s6 2 w fun x42 w =>
      sStore Tryd.prog 3 x42 x37 w fun w =>
      M1 [] w) (
      sBin Tryd.prog .add 3 false true n9 (.int .i64 1) w fun x44 w =>
      Nx2 [x44] w)) (
    M1 [] w)

def rope_Rope_place_J1 (K : K1) (s6 x4 : Value) (w : World) : Prop :=
  sLoad Tryd.prog 73 s6 w fun x45 w =>
  sStore Tryd.prog 73 x4 x45 w fun w =>
  sLoad Tryd.prog 73 x4 w fun v w' => w' = w ∧ K (.tuple #[v, (.int .i64 0)]) w

def rope_Rope_place (K : K1) (r0 at1 : Value) (w : World) : Prop :=
  sAlloc Tryd.prog 73 w fun x4 w =>
  sCall Tryd.prog 39 [r0, (.int .i64 1), at1, (.int .i64 1)] w fun x14 w =>
  sExtract x14 0 w fun x15 w =>
  sExtract x14 1 w fun x16 w =>
  sExtract x14 2 w fun x17 w =>
  sAlloc Tryd.prog 73 w fun s6 w =>
  sStore Tryd.prog 73 s6 x15 w fun w =>
  sBin Tryd.prog .neq 24 false true x17 (.int .i64 0) w fun x19 w =>
  sIf x19 (
    sBuild Tryd.prog 73 [] w fun x20 w =>
    sStore Tryd.prog 73 x4 x20 w fun w =>
    sLoad Tryd.prog 73 x4 w fun v w' => w' = w ∧ K (.tuple #[v, x17]) w) (
    sFldA Tryd.prog 73 s6 0 w fun x22 w =>
    sFldA Tryd.prog 69 x22 1 w fun x23 w =>
    sIdxA Tryd.prog 67 x23 (.int .i64 1) w fun x24 w =>
    sLoad Tryd.prog 3 x24 w fun x25 w =>
    sFldA Tryd.prog 73 s6 1 w fun x26 w =>
    sFldA Tryd.prog 71 x26 4 w fun x27 w =>
    sLoad Tryd.prog 9 x27 w fun x28 w =>
    sBuiltin Tryd.prog .len [9] 3 [x28] w fun x29 w =>
    sFldA Tryd.prog 73 s6 2 w fun x30 w =>
    sStore Tryd.prog 3 x30 x29 w fun w =>
    JoinS 0 16 (fun M1 =>
      sFldA Tryd.prog 73 s6 1 w fun x31 w =>
      sFldA Tryd.prog 71 x31 4 w fun x32 w =>
      sLoad Tryd.prog 9 x32 w fun x33 w =>
      sRange Tryd.prog 9 x33 w fun x34 w =>
      LoopS [x25] 1 11 w fun us _ w Nx2 =>
        rope_Rope_place_L2 M1 Nx2 at1 s6 x34 (hd us) w) fun us _ w =>
      rope_Rope_place_J1 K s6 x4 w)

def rope_Rope_place.sc : SC := (.seq (.reg (.op 0 (.op 1 .done))) (.seq (.reg (.op 0 (.op 1 (.op 2 (.op 3 (.op 4 (.op 5 (.op 6 (.op 7 (.op 8 (.op 9 (.op 10 .done)))))))))))) (.seq (.seq (.reg (.op 0 (.op 1 .done))) (.cond (.seq (.reg (.op 0 (.op 1 (.op 2 (.op 3 .done))))) .nop) .nop)) (.seq (.reg (.op 0 (.op 1 (.op 2 (.op 3 (.op 4 .done)))))) (.seq (.reg (.op 0 (.op 1 (.op 2 (.op 3 (.op 4 (.op 5 .done))))))) (.join [] [31, 32, 33, 34, 35, 36, 37, 10, 38, 39, 40, 41, 42, 43, 44, 9] (.seq (.reg (.op 0 (.op 1 (.op 2 (.op 3 .done))))) (.sub (.loop [9] [35, 36, 37, 10, 38, 39, 40, 41, 42, 43, 44] (.seq (.reg (.op 0 (.op 1 .done))) (.seq (.cond .nop .nop) (.sub (.seq (.reg (.op 0 (.op 1 .done))) (.seq (.seq (.reg (.op 0 (.op 1 (.op 2 .done)))) (.cond (.seq (.reg (.op 0 (.op 1 (.op 2 .done)))) .nop) .nop)) (.reg (.op 0 (.op 1 (.op 2 .done)))))))))))) (.seq (.reg (.op 0 (.op 1 (.op 2 .done)))) .nop)))))))

theorem rope_Rope_place.ok : okC Tryd.f41.ntmps rope_Rope_place.sc (bodyOf Tryd.f41) = true := by kernel_rfl

theorem rope_Rope_place.eq {K : K1} {r0 at1 : Value} {w : World} : rope_Rope_place K r0 at1 w = codeS Tryd.prog rope_Rope_place.sc (bodyOf Tryd.f41) (argsF 0 [r0, at1]) w (retQ Tryd.prog Tryd.f41.results.toList K) := by kernel_rfl

theorem rope_Rope_place.call {K : K1} {r0 at1 : Value} {w : World} (h : rope_Rope_place K r0 at1 w) : sCall Tryd.prog 41 [r0, at1] w K := sCall_code mixed Tryd.func41 (by kernel_rfl) rfl rfl rope_Rope_place.ok rope_Rope_place.eq h

abbrev rope_Rope_place.n : Nat := 41

/-- '(*bodkin rope.Rope).size' -/
def rope_Rope_size (K : K1) (r0 dim1 : Value) (w : World) : Prop :=
  sCall Tryd.prog 46 [r0] w fun x6 w =>
  sCall Tryd.prog 47 [x6] w fun x7 w =>
  sFld Tryd.prog 69 x7 1 w fun x8 w =>
  sIdx Tryd.prog 67 x8 dim1 w fun x10 w =>
  K x10 w

def rope_Rope_size.sc : SC := (.seq (.reg (.op 0 .done)) (.seq (.reg (.op 0 (.op 1 (.op 2 (.op 3 (.op 4 (.op 5 (.op 6 .done)))))))) .nop))

theorem rope_Rope_size.ok : okC Tryd.f42.ntmps rope_Rope_size.sc (bodyOf Tryd.f42) = true := by kernel_rfl

theorem rope_Rope_size.eq {K : K1} {r0 dim1 : Value} {w : World} : rope_Rope_size K r0 dim1 w = codeS Tryd.prog rope_Rope_size.sc (bodyOf Tryd.f42) (argsF 0 [r0, dim1]) w (retQ Tryd.prog Tryd.f42.results.toList K) := by kernel_rfl

theorem rope_Rope_size.call {K : K1} {r0 dim1 : Value} {w : World} (h : rope_Rope_size K r0 dim1 w) : sCall Tryd.prog 42 [r0, dim1] w K := sCall_code mixed Tryd.func42 (by kernel_rfl) rfl rfl rope_Rope_size.ok rope_Rope_size.eq h

abbrev rope_Rope_size.n : Nat := 42

/-- '(*bodkin seek.Cursor).Start' -/
def seek_Cursor_Start (K : K1) (c0 : Value) (w : World) : Prop :=
  sAlloc Tryd.prog 69 w fun x2 w =>
  sBin Tryd.prog .eql 74 false true c0 (.pointer none) w fun x4 w =>
  sIf x4 (
    sBuild Tryd.prog 69 [] w fun x5 w =>
    sStore Tryd.prog 69 x2 x5 w fun w =>
    sLoad Tryd.prog 69 x2 w fun v w' => w' = w ∧ K v w) (
    sNil c0 w fun x7 w =>
    sFldA Tryd.prog 117 x7 1 w fun x8 w =>
    sFldA Tryd.prog 115 x8 1 w fun x9 w =>
    sLoad Tryd.prog 69 x9 w fun x10 w =>
    sStore Tryd.prog 69 x2 x10 w fun w =>
    sLoad Tryd.prog 69 x2 w fun v w' => w' = w ∧ K v w)

def seek_Cursor_Start.sc : SC := (.seq (.reg (.op 0 .done)) (.seq (.seq (.reg (.op 0 (.op 1 .done))) (.cond (.seq (.reg (.op 0 (.op 1 .done))) .nop) .nop)) (.seq (.reg (.op 0 (.op 1 (.op 2 (.op 3 (.op 4 (.op 5 .done))))))) .nop)))

theorem seek_Cursor_Start.ok : okC Tryd.f43.ntmps seek_Cursor_Start.sc (bodyOf Tryd.f43) = true := by kernel_rfl

theorem seek_Cursor_Start.eq {K : K1} {c0 : Value} {w : World} : seek_Cursor_Start K c0 w = codeS Tryd.prog seek_Cursor_Start.sc (bodyOf Tryd.f43) (argsF 0 [c0]) w (retQ Tryd.prog Tryd.f43.results.toList K) := by kernel_rfl

theorem seek_Cursor_Start.call {K : K1} {c0 : Value} {w : World} (h : seek_Cursor_Start K c0 w) : sCall Tryd.prog 43 [c0] w K := sCall_code mixed Tryd.func43 (by kernel_rfl) rfl rfl seek_Cursor_Start.ok seek_Cursor_Start.eq h

abbrev seek_Cursor_Start.n : Nat := 43

/-- '(*bodkin seek.Cursor).End' -/
def seek_Cursor_End (K : K1) (c0 : Value) (w : World) : Prop :=
  sAlloc Tryd.prog 69 w fun x2 w =>
  sCall Tryd.prog 54 [c0] w fun x7 w =>
  sExtract x7 0 w fun x8 w =>
  sExtract x7 1 w fun x9 w =>
  sAlloc Tryd.prog 71 w fun i3 w =>
  sStore Tryd.prog 71 i3 x8 w fun w =>
  sUn Tryd.prog .not x9 w fun x11 w =>
  sIf x11 (
    sCall Tryd.prog 43 [c0] w fun x13 w =>
    sStore Tryd.prog 69 x2 x13 w fun w =>
    sLoad Tryd.prog 69 x2 w fun v w' => w' = w ∧ K v w) (
    DrawS w fun C w =>
    stillS C w (fun w k => sLoad Tryd.prog 71 i3 w k) fun x16 =>
    sCall Tryd.prog 43 [c0] w fun x15 w => C w ∧
    sCall Tryd.prog 70 [x16] w fun x17 w =>
    sCall Tryd.prog 69 [x15, x17] w fun x18 w =>
    sStore Tryd.prog 69 x2 x18 w fun w =>
    sLoad Tryd.prog 69 x2 w fun v w' => w' = w ∧ K v w)

def seek_Cursor_End.sc : SC := (.seq (.reg (.op 0 .done)) (.seq (.reg (.op 0 (.op 1 (.op 2 (.op 3 (.op 4 (.op 5 (.op 6 (.op 7 .done))))))))) (.seq (.seq (.reg (.op 0 (.op 1 .done))) (.cond (.seq (.reg (.op 0 (.op 1 (.op 2 .done)))) .nop) .nop)) (.seq (.draw (.op 0 (.op 2 (.op 1 (.fin 3 (.fin 4 (.fin 5 .done))))))) .nop))))

theorem seek_Cursor_End.ok : okC Tryd.f44.ntmps seek_Cursor_End.sc (bodyOf Tryd.f44) = true := by kernel_rfl

theorem seek_Cursor_End.eq {K : K1} {c0 : Value} {w : World} : seek_Cursor_End K c0 w = codeS Tryd.prog seek_Cursor_End.sc (bodyOf Tryd.f44) (argsF 0 [c0]) w (retQ Tryd.prog Tryd.f44.results.toList K) := by kernel_rfl

theorem seek_Cursor_End.call {K : K1} {c0 : Value} {w : World} (h : seek_Cursor_End K c0 w) : sCall Tryd.prog 44 [c0] w K := sCall_code mixed Tryd.func44 (by kernel_rfl) rfl rfl seek_Cursor_End.ok seek_Cursor_End.eq h

abbrev seek_Cursor_End.n : Nat := 44

/-- '(*bodkin seek.Cursor).Next' -/
def seek_Cursor_Next (K : K1) (c0 : Value) (w : World) : Prop :=
  sCall Tryd.prog 54 [c0] w fun x7 w =>
  sExtract x7 0 w fun x8 w =>
  sExtract x7 1 w fun x9 w =>
  sAlloc Tryd.prog 71 w fun x3 w =>
  sStore Tryd.prog 71 x3 x8 w fun w =>
  sUn Tryd.prog .not x9 w fun x11 w =>
  sIf x11 (
    K (.bool false) w) (
    sCall Tryd.prog 44 [c0] w fun x14 w =>
    sNil c0 w fun x15 w =>
    sFldA Tryd.prog 117 x15 1 w fun x16 w =>
    sFldA Tryd.prog 115 x16 1 w fun x17 w =>
    sStore Tryd.prog 69 x17 x14 w fun w =>
    sNil c0 w fun x19 w =>
    sFldA Tryd.prog 117 x19 1 w fun x20 w =>
    sFldA Tryd.prog 115 x20 0 w fun x21 w =>
    sLoad Tryd.prog 3 x21 w fun x22 w =>
    sBin Tryd.prog .add 3 false true x22 (.int .i64 1) w fun x23 w =>
    sNil c0 w fun x24 w =>
    sFldA Tryd.prog 117 x24 1 w fun x25 w =>
    sFldA Tryd.prog 115 x25 0 w fun x26 w =>
    sStore Tryd.prog 3 x26 x23 w fun w =>
    K (.bool true) w)

def seek_Cursor_Next.sc : SC := (.seq (.reg (.op 0 .done)) (.seq (.seq (.reg (.op 0 (.op 1 (.op 2 (.op 3 (.op 4 (.op 5 (.op 6 (.op 7 .done))))))))) (.seq (.reg (.op 0 (.op 1 .done))) (.cond (.seq (.reg (.op 0 .done)) .nop) .nop))) (.seq (.reg (.op 0 (.op 1 (.op 2 (.op 3 (.op 4 (.op 5 (.op 6 .done)))))))) (.seq (.reg (.op 0 (.op 1 (.op 2 (.op 3 (.op 4 (.op 5 (.op 6 (.op 7 (.op 8 (.op 9 .done))))))))))) (.seq (.reg (.op 0 .done)) .nop)))))

theorem seek_Cursor_Next.ok : okC Tryd.f45.ntmps seek_Cursor_Next.sc (bodyOf Tryd.f45) = true := by kernel_rfl

theorem seek_Cursor_Next.eq {K : K1} {c0 : Value} {w : World} : seek_Cursor_Next K c0 w = codeS Tryd.prog seek_Cursor_Next.sc (bodyOf Tryd.f45) (argsF 0 [c0]) w (retQ Tryd.prog Tryd.f45.results.toList K) := by kernel_rfl

theorem seek_Cursor_Next.call {K : K1} {c0 : Value} {w : World} (h : seek_Cursor_Next K c0 w) : sCall Tryd.prog 45 [c0] w K := sCall_code mixed Tryd.func45 (by kernel_rfl) rfl rfl seek_Cursor_Next.ok seek_Cursor_Next.eq h

abbrev seek_Cursor_Next.n : Nat := 45

/-- '(*bodkin rope.Rope).tree' -/
def rope_Rope_tree (K : K1) (r0 : Value) (w : World) : Prop :=
  sBin Tryd.prog .eql 23 false true r0 (.pointer none) w fun x4 w =>
  sIf x4 (
    K (.pointer none) w) (
    sNil r0 w fun x6 w =>
    sFldA Tryd.prog 63 x6 0 w fun x7 w =>
    sLoad Tryd.prog 57 x7 w fun x8 w =>
    K x8 w)

def rope_Rope_tree.sc : SC := (.seq (.reg (.op 0 .done)) (.seq (.seq (.reg (.op 0 (.op 1 .done))) (.cond (.seq (.reg (.op 0 .done)) .nop) .nop)) (.seq (.reg (.op 0 (.op 1 (.op 2 (.op 3 (.op 4 .done)))))) .nop)))

theorem rope_Rope_tree.ok : okC Tryd.f46.ntmps rope_Rope_tree.sc (bodyOf Tryd.f46) = true := by kernel_rfl

theorem rope_Rope_tree.eq {K : K1} {r0 : Value} {w : World} : rope_Rope_tree K r0 w = codeS Tryd.prog rope_Rope_tree.sc (bodyOf Tryd.f46) (argsF 0 [r0]) w (retQ Tryd.prog Tryd.f46.results.toList K) := by kernel_rfl

theorem rope_Rope_tree.call {K : K1} {r0 : Value} {w : World} (h : rope_Rope_tree K r0 w) : sCall Tryd.prog 46 [r0] w K := sCall_code mixed Tryd.func46 (by kernel_rfl) rfl rfl rope_Rope_tree.ok rope_Rope_tree.eq h

abbrev rope_Rope_tree.n : Nat := 46

/-- '(*bodkin tree.Tree).Sum' -/
def tree_Tree_Sum (K : K1) (t0 : Value) (w : World) : Prop :=
  sAlloc Tryd.prog 69 w fun x2 w =>
  sCall Tryd.prog 72 [t0] w fun x4 w =>
  sCall Tryd.prog 71 [x4] w fun x5 w =>
  sStore Tryd.prog 69 x2 x5 w fun w =>
  sLoad Tryd.prog 69 x2 w fun v w' => w' = w ∧ K v w

def tree_Tree_Sum.sc : SC := (.seq (.reg (.op 0 .done)) (.seq (.reg (.op 0 (.op 1 (.op 2 (.op 3 .done))))) .nop))

theorem tree_Tree_Sum.ok : okC Tryd.f47.ntmps tree_Tree_Sum.sc (bodyOf Tryd.f47) = true := by kernel_rfl

theorem tree_Tree_Sum.eq {K : K1} {t0 : Value} {w : World} : tree_Tree_Sum K t0 w = codeS Tryd.prog tree_Tree_Sum.sc (bodyOf Tryd.f47) (argsF 0 [t0]) w (retQ Tryd.prog Tryd.f47.results.toList K) := by kernel_rfl

theorem tree_Tree_Sum.call {K : K1} {t0 : Value} {w : World} (h : tree_Tree_Sum K t0 w) : sCall Tryd.prog 47 [t0] w K := sCall_code mixed Tryd.func47 (by kernel_rfl) rfl rfl tree_Tree_Sum.ok tree_Tree_Sum.eq h

abbrev tree_Tree_Sum.n : Nat := 47

/-- '(*bodkin seek.Cursor).To' -/
def seek_Cursor_To (K : K1) (c0 dim1 v2 bias3 : Value) (w : World) : Prop :=
  sBin Tryd.prog .eql 74 false true c0 (.pointer none) w fun x12 w =>
  sIf x12 (
    K (.int .i64 7) w) (
    sNil c0 w fun x15 w =>
    sFldA Tryd.prog 117 x15 0 w fun x16 w =>
    sLoad Tryd.prog 57 x16 w fun x17 w =>
    sCall Tryd.prog 73 [x17, dim1, v2, bias3] w fun x21 w =>
    sExtract x21 0 w fun x22 w =>
    sExtract x21 1 w fun x23 w =>
    sAlloc Tryd.prog 115 w fun p9 w =>
    sStore Tryd.prog 115 p9 x22 w fun w =>
    sBin Tryd.prog .eql 24 false true x23 (.int .i64 0) w fun x25 w =>
    sIf x25 (
      sLoad Tryd.prog 115 p9 w fun x27 w =>
      sNil c0 w fun x28 w =>
      sFldA Tryd.prog 117 x28 1 w fun x29 w =>
      sStore Tryd.prog 115 x29 x27 w fun w =>
      K x23 w) (
      K x23 w))

def seek_Cursor_To.sc : SC := (.seq (.reg (.op 0 .done)) (.seq (.seq (.reg (.op 0 (.op 1 .done))) (.cond (.seq (.reg (.op 0 .done)) .nop) .nop)) (.seq (.reg (.op 0 (.op 1 (.op 2 (.op 3 (.op 4 (.op 5 (.op 6 (.op 7 (.op 8 (.op 9 (.op 10 (.op 11 (.op 12 (.op 13 .done))))))))))))))) (.seq (.seq (.reg (.op 0 (.op 1 .done))) (.cond (.reg (.op 0 (.op 1 (.op 2 (.op 3 (.op 4 .done)))))) .nop)) (.seq (.reg (.op 0 (.op 1 .done))) .nop)))))

theorem seek_Cursor_To.ok : okC Tryd.f48.ntmps seek_Cursor_To.sc (bodyOf Tryd.f48) = true := by kernel_rfl

theorem seek_Cursor_To.eq {K : K1} {c0 dim1 v2 bias3 : Value} {w : World} : seek_Cursor_To K c0 dim1 v2 bias3 w = codeS Tryd.prog seek_Cursor_To.sc (bodyOf Tryd.f48) (argsF 0 [c0, dim1, v2, bias3]) w (retQ Tryd.prog Tryd.f48.results.toList K) := by kernel_rfl

theorem seek_Cursor_To.call {K : K1} {c0 dim1 v2 bias3 : Value} {w : World} (h : seek_Cursor_To K c0 dim1 v2 bias3 w) : sCall Tryd.prog 48 [c0, dim1, v2, bias3] w K := sCall_code mixed Tryd.func48 (by kernel_rfl) rfl rfl seek_Cursor_To.ok seek_Cursor_To.eq h

abbrev seek_Cursor_To.n : Nat := 48

/-- '(*bodkin tree.Tree).Replace' -/
def tree_Tree_Replace (K : K1) (t0 from1 to2 l3 : Value) (w : World) : Prop :=
  sCall Tryd.prog 47 [t0] w fun x18 w =>
  sFld Tryd.prog 69 x18 0 w fun x19 w =>
  sBin Tryd.prog .lss 3 false true from1 (.int .i64 0) w fun x21 w =>
  sIf x21 (
    K (.tuple #[(.pointer none), (.int .i64 1)]) w) (
    sBin Tryd.prog .lss 3 false false to2 from1 w fun x25 w =>
    sIf x25 (
      K (.tuple #[(.pointer none), (.int .i64 1)]) w) (
      sBin Tryd.prog .gtr 3 false false to2 x19 w fun x30 w =>
      sIf x30 (
        K (.tuple #[(.pointer none), (.int .i64 1)]) w) (
        sCall Tryd.prog 36 [l3] w fun x34 w =>
        sExtract x34 0 w fun x35 w =>
        sExtract x34 1 w fun x36 w =>
        sBin Tryd.prog .neq 24 false true x36 (.int .i64 0) w fun x39 w =>
        sIf x39 (
          K (.tuple #[(.pointer none), x36]) w) (
          sBin Tryd.prog .sub 3 false false to2 from1 w fun x45 w =>
          sBin Tryd.prog .sub 3 false false x19 x45 w fun x46 w =>
          sBuiltin Tryd.prog .len [60] 3 [l3] w fun x48 w =>
          sBin Tryd.prog .add 3 false false x46 x48 w fun x49 w =>
          sBin Tryd.prog .gtr 3 false true x49 (.int .i64 30000) w fun x50 w =>
          sIf x50 (
            K (.tuple #[(.pointer none), (.int .i64 5)]) w) (
            sCall Tryd.prog 72 [t0] w fun x53 w =>
            sCall Tryd.prog 74 [x53, from1] w fun x55 w =>
            sExtract x55 0 w fun x56 w =>
            sExtract x55 1 w fun x57 w =>
            sBin Tryd.prog .sub 3 false false to2 from1 w fun x62 w =>
            sCall Tryd.prog 74 [x57, x62] w fun x63 w =>
            sExtract x63 0 w fun x64 w =>
            sExtract x63 1 w fun x65 w =>
            sNil x35 w fun x68 w =>
            sFldA Tryd.prog 110 x68 0 w fun x69 w =>
            sLoad Tryd.prog 104 x69 w fun x70 w =>
            sCall Tryd.prog 64 [x56, x70] w fun x71 w =>
            sCall Tryd.prog 64 [x71, x65] w fun x73 w =>
            sBuild Tryd.prog 110 [(0, x73)] w fun x74 w =>
            sBox Tryd.prog 110 x74 w fun x75 w =>
            K (.tuple #[x75, (.int .i64 0)]) w)))))

def tree_Tree_Replace.sc : SC := (.seq (.reg (.op 0 (.op 1 .done))) (.seq (.reg (.op 0 (.op 1 (.op 2 (.op 3 .done))))) (.seq (.seq (.reg (.op 0 (.op 1 (.op 2 (.test 2 (.skip 3 (.skip 4 (.skip 5 (.op 6 (.op 7 (.know 7 true (.skip 8 (.skip 9 (.skip 10 (.op 11 .done)))))))))) (.op 3 (.op 4 (.op 5 (.op 6 (.op 7 (.test 7 (.skip 8 (.skip 9 (.skip 10 (.op 11 .done)))) (.op 8 (.op 9 (.op 10 (.op 11 .done))))))))))))))) (.cond (.seq (.reg (.op 0 (.op 1 .done))) .nop) .nop)) (.seq (.reg (.op 0 (.op 1 (.op 2 (.op 3 (.op 4 (.op 5 (.op 6 .done)))))))) (.seq (.sub (.seq (.reg (.op 0 (.op 1 (.op 2 .done)))) (.cond (.seq (.reg (.op 0 (.op 1 (.op 2 .done)))) .nop) (.seq (.reg (.op 0 (.op 1 (.op 2 (.op 3 (.op 4 (.op 5 (.op 6 (.op 7 (.op 8 (.op 9 .done))))))))))) (.cond (.seq (.reg (.op 0 (.op 1 .done))) .nop) .nop))))) (.seq (.reg (.op 0 (.op 1 (.op 2 (.op 3 (.op 4 (.op 5 (.op 6 (.op 7 (.op 8 .done)))))))))) (.seq (.reg (.op 0 (.op 1 (.op 2 (.op 3 (.op 4 (.op 5 (.op 6 (.op 7 (.op 8 (.op 9 .done))))))))))) (.seq (.reg (.op 0 (.op 1 (.op 2 (.op 3 (.op 4 (.op 5 (.op 6 (.op 7 (.op 8 (.op 9 (.op 10 (.op 11 .done))))))))))))) .nop))))))))

theorem tree_Tree_Replace.ok : okC Tryd.f49.ntmps tree_Tree_Replace.sc (bodyOf Tryd.f49) = true := by kernel_rfl

theorem tree_Tree_Replace.eq {K : K1} {t0 from1 to2 l3 : Value} {w : World} : tree_Tree_Replace K t0 from1 to2 l3 w = codeS Tryd.prog tree_Tree_Replace.sc (bodyOf Tryd.f49) (argsF 0 [t0, from1, to2, l3]) w (retQ Tryd.prog Tryd.f49.results.toList K) := by kernel_rfl

theorem tree_Tree_Replace.call {K : K1} {t0 from1 to2 l3 : Value} {w : World} (h : tree_Tree_Replace K t0 from1 to2 l3 w) : sCall Tryd.prog 49 [t0, from1, to2, l3] w K := sCall_code mixed Tryd.func49 (by kernel_rfl) rfl rfl tree_Tree_Replace.ok tree_Tree_Replace.eq h

abbrev tree_Tree_Replace.n : Nat := 49

/-- '(*bodkin rope.Rope).Pieces' -/
def rope_Rope_Pieces_L1 (K : K1) (Nx1 : List Value → World → Prop) (x8 x9 : Value) (out3 x10 : Value) (w : World) : Prop :=
  sBin Tryd.prog .lss 3 false false x10 x9 w fun x11 w =>
  sIf x11 (
    sIdxA Tryd.prog 60 x8 x10 w fun x12 w =>
    sLoad Tryd.prog 71 x12 w fun x13 w =>
    sAlloc Tryd.prog 71 w fun i5 w =>
    sStore Tryd.prog 71 i5 x13 w fun w =>
    sFldA Tryd.prog 71 i5 4 w fun x15 w =>
    sLoad Tryd.prog 9 x15 w fun x16 w =>
    sBuildSlice Tryd.prog 85 1 [(0, x16)] w fun x17 w =>
    sBuiltin Tryd.prog .append [85, 85] 85 [out3, x17] w fun x18 w =>
    sBin Tryd.prog .add 3 false true x10 (.int .i64 1) w fun x19 w =>
    Nx1 [x18, x19] w) (
    K out3 w)

def rope_Rope_Pieces (K : K1) (r0 : Value) (w : World) : Prop :=
  sCall Tryd.prog 46 [r0] w fun x7 w =>
  sCall Tryd.prog 75 [x7] w fun x8 w =>
  sBuiltin Tryd.prog .len [60] 3 [x8] w fun x9 w =>
  LoopS [(.slice none 0 0), (.int .i64 0)] 2 10 w fun us _ w Nx1 =>
    rope_Rope_Pieces_L1 K Nx1 x8 x9 (hd us) (hd (tl us)) w

def rope_Rope_Pieces.sc : SC := (.seq (.reg (.op 0 .done)) (.seq (.reg (.op 0 .done)) (.seq (.seq (.reg (.op 0 (.op 1 (.op 2 (.op 3 (.op 4 .done)))))) (.sub (.loop [3, 10] [11, 12, 13, 5, 14, 15, 16, 17, 18, 19] (.seq (.reg (.op 0 .done)) (.seq (.cond .nop .nop) (.seq (.sub (.seq (.reg (.op 0 (.op 1 (.op 2 (.op 3 .done))))) (.reg (.op 0 (.op 1 (.op 2 (.op 3 (.op 4 (.op 5 .done))))))))) (.reg (.op 0 (.op 1 .done))))))))) (.seq (.reg (.op 0 (.op 1 .done))) .nop))))

theorem rope_Rope_Pieces.ok : okC Tryd.f50.ntmps rope_Rope_Pieces.sc (bodyOf Tryd.f50) = true := by kernel_rfl

theorem rope_Rope_Pieces.eq {K : K1} {r0 : Value} {w : World} : rope_Rope_Pieces K r0 w = codeS Tryd.prog rope_Rope_Pieces.sc (bodyOf Tryd.f50) (argsF 0 [r0]) w (retQ Tryd.prog Tryd.f50.results.toList K) := by kernel_rfl

theorem rope_Rope_Pieces.call {K : K1} {r0 : Value} {w : World} (h : rope_Rope_Pieces K r0 w) : sCall Tryd.prog 50 [r0] w K := sCall_code mixed Tryd.func50 (by kernel_rfl) rfl rfl rope_Rope_Pieces.ok rope_Rope_Pieces.eq h

abbrev rope_Rope_Pieces.n : Nat := 50

/-- 'bodkin bodkinref05.High' -/
def bodkinref05_High_L1 (K : K1) (Nx1 : List Value → World → Prop) (height0 items1 : Value) (power5 i6 : Value) (w : World) : Prop :=
  sBin Tryd.prog .lss 3 false false i6 height0 w fun x9 w =>
  sIf x9 (
    sBin Tryd.prog .mul 3 true false (.int .i64 4) power5 w fun x13 w =>
    sBin Tryd.prog .add 3 false true items1 (.int .i64 1) w fun x16 w =>
    sBin Tryd.prog .gtr 3 false false x13 x16 w fun x17 w =>
    sIf x17 (
      K (.bool false) w) (
      sBin Tryd.prog .add 3 false true i6 (.int .i64 1) w fun x11 w =>
      Nx1 [x13, x11] w)) (
    sBin Tryd.prog .eql 3 false true height0 (.int .i64 0) w fun x19 w =>
    sBin Tryd.prog .eql 3 false true items1 (.int .i64 0) w fun x21 w =>
    sBin Tryd.prog .eql 4 false false x19 x21 w fun x22 w =>
    sIf x22 (
      sBin Tryd.prog .geq 3 false true height0 (.int .i64 0) w fun x25 w =>
      K x25 w) (
      K (.bool false) w))

def bodkinref05_High (K : K1) (height0 items1 : Value) (w : World) : Prop :=
  LoopS [(.int .i64 1), (.int .i64 2)] 2 12 w fun us _ w Nx1 =>
    bodkinref05_High_L1 K Nx1 height0 items1 (hd us) (hd (tl us)) w

def bodkinref05_High.sc : SC := (.seq (.reg (.op 0 .done)) (.seq (.reg (.op 0 .done)) (.seq (.seq (.reg (.op 0 .done)) (.sub (.loop [5, 6] [7, 8, 9, 12, 13, 14, 15, 16, 17, 4, 10, 11] (.seq (.seq (.reg (.op 0 (.op 1 (.op 2 .done)))) (.cond .nop .nop)) (.seq (.sub (.seq (.reg (.op 0 (.op 1 (.op 2 .done)))) (.seq (.reg (.op 0 (.op 1 (.op 2 (.op 3 .done))))) (.cond (.seq (.reg (.op 0 .done)) .nop) .nop)))) (.reg (.op 0 (.op 1 (.op 2 .done))))))))) (.seq (.reg (.op 0 (.op 1 (.op 2 (.op 3 (.op 4 (.op 5 (.test 5 (.op 6 (.op 7 (.op 8 (.op 9 .done)))) (.skip 6 (.skip 7 (.op 8 (.op 9 .done)))))))))))) .nop))))

theorem bodkinref05_High.ok : okC Tryd.f51.ntmps bodkinref05_High.sc (bodyOf Tryd.f51) = true := by kernel_rfl

theorem bodkinref05_High.eq {K : K1} {height0 items1 : Value} {w : World} : bodkinref05_High K height0 items1 w = codeS Tryd.prog bodkinref05_High.sc (bodyOf Tryd.f51) (argsF 0 [height0, items1]) w (retQ Tryd.prog Tryd.f51.results.toList K) := by kernel_rfl

theorem bodkinref05_High.call {K : K1} {height0 items1 : Value} {w : World} (h : bodkinref05_High K height0 items1 w) : sCall Tryd.prog 51 [height0, items1] w K := sCall_code mixed Tryd.func51 (by kernel_rfl) rfl rfl bodkinref05_High.ok bodkinref05_High.eq h

abbrev bodkinref05_High.n : Nat := 51

/-- 'bodkin bodkinref07.Put' -/
def bodkinref07_Put (K : K1) (l0 at1 more2 : Value) (w : World) : Prop :=
  sBox Tryd.prog 44 at1 w fun at4 w =>
  sIdxA Tryd.prog 44 at4 (.int .i64 0) w fun x10 w =>
  sLoad Tryd.prog 3 x10 w fun x11 w =>
  sSlice Tryd.prog 27 l0 none (some x11) none w fun x12 w =>
  sBuiltin Tryd.prog .append [27, 27] 27 [(.slice none 0 0), x12] w fun x13 w =>
  sBuiltin Tryd.prog .append [27, 27] 27 [x13, more2] w fun x16 w =>
  sIdxA Tryd.prog 44 at4 (.int .i64 1) w fun x19 w =>
  sLoad Tryd.prog 3 x19 w fun x20 w =>
  sSlice Tryd.prog 27 l0 (some x20) none none w fun x21 w =>
  sBuiltin Tryd.prog .append [27, 27] 27 [x16, x21] w fun x22 w =>
  K x22 w

def bodkinref07_Put.sc : SC := (.seq (.reg (.op 0 (.op 1 .done))) (.seq (.reg (.op 0 .done)) (.seq (.reg (.op 0 (.op 1 (.op 2 (.op 3 (.op 4 (.op 5 (.op 6 .done)))))))) (.seq (.reg (.op 0 (.op 1 (.op 2 (.op 3 .done))))) (.seq (.reg (.op 0 (.op 1 (.op 2 (.op 3 (.op 4 (.op 5 (.op 6 .done)))))))) (.seq (.reg (.op 0 (.op 1 .done))) .nop))))))

theorem bodkinref07_Put.ok : okC Tryd.f52.ntmps bodkinref07_Put.sc (bodyOf Tryd.f52) = true := by kernel_rfl

theorem bodkinref07_Put.eq {K : K1} {l0 at1 more2 : Value} {w : World} : bodkinref07_Put K l0 at1 more2 w = codeS Tryd.prog bodkinref07_Put.sc (bodyOf Tryd.f52) (argsF 0 [l0, at1, more2]) w (retQ Tryd.prog Tryd.f52.results.toList K) := by kernel_rfl

theorem bodkinref07_Put.call {K : K1} {l0 at1 more2 : Value} {w : World} (h : bodkinref07_Put K l0 at1 more2 w) : sCall Tryd.prog 52 [l0, at1, more2] w K := sCall_code mixed Tryd.func52 (by kernel_rfl) rfl rfl bodkinref07_Put.ok bodkinref07_Put.eq h

abbrev bodkinref07_Put.n : Nat := 52

/-- '(*bodkin seek.Cursor).Item' -/
def seek_Cursor_Item_J1 (K : K1) (x2 : Value) (i4_2 e5 : Value) (w : World) : Prop :=
  sLoad Tryd.prog 71 i4_2 w fun x22 w =>
  sBin Tryd.prog .eql 24 false true e5 (.int .i64 0) w fun x24 w =>
  sStore Tryd.prog 71 x2 x22 w fun w =>
  sLoad Tryd.prog 71 x2 w fun v w' => w' = w ∧ K (.tuple #[v, x24]) w

def seek_Cursor_Item (K : K1) (c0 : Value) (w : World) : Prop :=
  sAlloc Tryd.prog 71 w fun x2 w =>
  sBin Tryd.prog .eql 74 false true c0 (.pointer none) w fun x7 w =>
  sIf x7 (
    sBuild Tryd.prog 71 [] w fun x8 w =>
    sStore Tryd.prog 71 x2 x8 w fun w =>
    sLoad Tryd.prog 71 x2 w fun v w' => w' = w ∧ K (.tuple #[v, (.bool false)]) w) (
    JoinS 2 13 (fun M1 =>
      DrawS w fun C w =>
      sNil c0 w fun x11 w =>
      stillS C w (fun w k => sFldA Tryd.prog 117 x11 0 w k) fun x12 =>
      stillS C w (fun w k => sLoad Tryd.prog 57 x12 w k) fun x13 =>
      sNil c0 w fun x15 w =>
      stillS C w (fun w k => sFldA Tryd.prog 117 x15 1 w k) fun x16 =>
      stillS C w (fun w k => sFldA Tryd.prog 115 x16 0 w k) fun x17 =>
      stillS C w (fun w k => sLoad Tryd.prog 3 x17 w k) fun x18 =>
      (
        sCall Tryd.prog 76 [x13, x18] w fun x19 w => C w ∧
        sExtract x19 0 w fun x20 w =>
        sExtract x19 1 w fun x21 w =>
        sAlloc Tryd.prog 71 w fun i4 w => C w ∧
        sStore Tryd.prog 71 i4 x20 w fun w => C w ∧
        M1 [i4, x21] w) ∧ (
        sAlloc Tryd.prog 71 w fun i4_1 w => C w ∧
        sCall Tryd.prog 76 [x13, x18] w fun x19_1 w => C w ∧
        sExtract x19_1 0 w fun x20_1 w =>
        sExtract x19_1 1 w fun x21_1 w =>
        sStore Tryd.prog 71 i4_1 x20_1 w fun w => C w ∧
        M1 [i4_1, x21_1] w)) fun us _ w =>
      seek_Cursor_Item_J1 K x2 (hd us) (hd (tl us)) w)

def seek_Cursor_Item.sc : SC := (.seq (.reg (.op 0 (.op 1 .done))) (.seq (.seq (.reg (.op 0 (.op 1 .done))) (.cond (.seq (.reg (.op 0 (.op 1 (.op 2 .done)))) .nop) .nop)) (.join [4, 5] [10, 11, 12, 13, 14, 15, 16, 17, 18, 19, 9, 20, 21] (.draw (.op 0 (.op 1 (.op 2 (.op 3 (.op 4 (.op 5 (.op 6 (.op 7 (.op 8 (.alt 9 (.op 10 (.op 11 (.op 12 (.op 13 (.op 14 (.op 15 .done)))))) 13 (.op 9 (.op 10 (.op 11 (.op 12 (.op 14 (.op 15 .done))))))))))))))))) (.seq (.reg (.op 0 (.op 1 (.op 2 (.op 3 (.op 4 .done)))))) .nop))))

theorem seek_Cursor_Item.ok : okC Tryd.f54.ntmps seek_Cursor_Item.sc (bodyOf Tryd.f54) = true := by kernel_rfl

theorem seek_Cursor_Item.eq {K : K1} {c0 : Value} {w : World} : seek_Cursor_Item K c0 w = codeS Tryd.prog seek_Cursor_Item.sc (bodyOf Tryd.f54) (argsF 0 [c0]) w (retQ Tryd.prog Tryd.f54.results.toList K) := by kernel_rfl

theorem seek_Cursor_Item.call {K : K1} {c0 : Value} {w : World} (h : seek_Cursor_Item K c0 w) : sCall Tryd.prog 54 [c0] w K := sCall_code mixed Tryd.func54 (by kernel_rfl) rfl rfl seek_Cursor_Item.ok seek_Cursor_Item.eq h

abbrev seek_Cursor_Item.n : Nat := 54

/-- '(*strings.Builder).WriteString' -/
def strings_Builder_WriteString (K : K1) (b0 s1 : Value) (w : World) : Prop :=
  sCall Tryd.prog 77 [b0] w fun x7 w =>
  sNil b0 w fun x10 w =>
  sFldA Tryd.prog 92 x10 1 w fun x11 w =>
  sLoad Tryd.prog 90 x11 w fun x12 w =>
  sBuiltin Tryd.prog .append [90, 9] 90 [x12, s1] w fun x14 w =>
  sNil b0 w fun x15 w =>
  sFldA Tryd.prog 92 x15 1 w fun x16 w =>
  sStore Tryd.prog 90 x16 x14 w fun w =>
  sBuiltin Tryd.prog .len [9] 3 [s1] w fun x18 w =>
  K (.tuple #[x18, .nilIface]) w

def strings_Builder_WriteString.sc : SC := (.seq (.reg (.op 0 (.op 1 .done))) (.seq (.reg (.op 0 (.op 1 .done))) (.seq (.reg (.op 0 (.op 1 (.op 2 (.op 3 (.op 4 (.op 5 (.op 6 (.op 7 (.op 8 (.op 9 .done))))))))))) (.seq (.reg (.op 0 (.op 1 (.op 2 (.op 3 .done))))) .nop))))

theorem strings_Builder_WriteString.ok : okC Tryd.f55.ntmps strings_Builder_WriteString.sc (bodyOf Tryd.f55) = true := by kernel_rfl

theorem strings_Builder_WriteString.eq {K : K1} {b0 s1 : Value} {w : World} : strings_Builder_WriteString K b0 s1 w = codeS Tryd.prog strings_Builder_WriteString.sc (bodyOf Tryd.f55) (argsF 0 [b0, s1]) w (retQ Tryd.prog Tryd.f55.results.toList K) := by kernel_rfl

theorem strings_Builder_WriteString.call {K : K1} {b0 s1 : Value} {w : World} (h : strings_Builder_WriteString K b0 s1 w) : sCall Tryd.prog 55 [b0, s1] w K := sCall_code mixed Tryd.func55 (by kernel_rfl) rfl rfl strings_Builder_WriteString.ok strings_Builder_WriteString.eq h

abbrev strings_Builder_WriteString.n : Nat := 55

/-- 'bodkin utf.Step' -/
def utf_Step_L1 (K : K1) (Nx1 : List Value → World → Prop) (at1 s0 x20 : Value) (first6 : Value) (w : World) : Prop :=
  sNext Tryd.prog x20 true 0 w fun x21 w =>
  sExtract x21 0 w fun x22 w =>
  sIf x22 (
    sExtract x21 1 w fun x23 w =>
    sExtract x21 2 w fun x24 w =>
    sBin Tryd.prog .gtr 3 false true x23 (.int .i64 0) w fun x26 w =>
    sIf x26 (
      K (.tuple #[first6, x23]) w) (
      Nx1 [x24] w)) (
    sBuiltin Tryd.prog .len [9] 3 [s0] w fun x32 w =>
    sBin Tryd.prog .sub 3 false false x32 at1 w fun x34 w =>
    K (.tuple #[first6, x34]) w)

def utf_Step (K : K1) (s0 at1 : Value) (w : World) : Prop :=
  sBin Tryd.prog .lss 3 false true at1 (.int .i64 0) w fun x10 w =>
  sIf x10 (
    K (.tuple #[(.int .i32 0), (.int .i64 0)]) w) (
    sBuiltin Tryd.prog .len [9] 3 [s0] w fun x14 w =>
    sBin Tryd.prog .geq 3 false false at1 x14 w fun x15 w =>
    sIf x15 (
      K (.tuple #[(.int .i32 0), (.int .i64 0)]) w) (
      sSlice Tryd.prog 9 s0 (some at1) none none w fun x19 w =>
      sRange Tryd.prog 9 x19 w fun x20 w =>
      LoopS [(.int .i32 0)] 1 13 w fun us _ w Nx1 =>
        utf_Step_L1 K Nx1 at1 s0 x20 (hd us) w))

def utf_Step.sc : SC := (.seq (.reg (.op 0 (.op 1 .done))) (.seq (.seq (.reg (.op 0 (.op 1 (.op 2 (.test 2 (.skip 3 (.skip 4 (.skip 5 (.skip 6 (.op 7 .done))))) (.op 3 (.op 4 (.op 5 (.op 6 (.op 7 .done)))))))))) (.cond (.seq (.reg (.op 0 (.op 1 .done))) .nop) .nop)) (.seq (.reg (.op 0 .done)) (.seq (.seq (.reg (.op 0 (.op 1 (.op 2 (.op 3 .done))))) (.sub (.loop [6] [21, 22, 23, 24, 7, 8, 25, 26, 27, 28, 4, 5, 29] (.seq (.reg (.op 0 (.op 1 .done))) (.seq (.cond .nop .nop) (.sub (.seq (.reg (.op 0 (.op 1 (.op 2 (.op 3 .done))))) (.seq (.seq (.reg (.op 0 (.op 1 .done))) (.cond (.seq (.reg (.op 0 (.op 1 (.op 2 (.op 3 .done))))) .nop) .nop)) (.reg (.op 0 (.op 1 .done))))))))))) (.seq (.reg (.op 0 (.op 1 (.op 2 (.op 3 (.op 4 (.op 5 (.op 6 .done)))))))) .nop)))))

theorem utf_Step.ok : okC Tryd.f57.ntmps utf_Step.sc (bodyOf Tryd.f57) = true := by kernel_rfl

theorem utf_Step.eq {K : K1} {s0 at1 : Value} {w : World} : utf_Step K s0 at1 w = codeS Tryd.prog utf_Step.sc (bodyOf Tryd.f57) (argsF 0 [s0, at1]) w (retQ Tryd.prog Tryd.f57.results.toList K) := by kernel_rfl

theorem utf_Step.call {K : K1} {s0 at1 : Value} {w : World} (h : utf_Step K s0 at1 w) : sCall Tryd.prog 57 [s0, at1] w K := sCall_code mixed Tryd.func57 (by kernel_rfl) rfl rfl utf_Step.ok utf_Step.eq h

abbrev utf_Step.n : Nat := 57

/-- 'bodkin bodkinref01.size' -/
def bodkinref01_size_J1 (K : K1) (r0 : Value) (w : World) : Prop :=
  sBin Tryd.prog .lss 21 false true r0 (.int .i32 128) w fun x18 w =>
  sIf x18 (
    K (.int .i64 1) w) (
    sBin Tryd.prog .lss 21 false true r0 (.int .i32 2048) w fun x20 w =>
    sIf x20 (
      K (.int .i64 2) w) (
      sBin Tryd.prog .lss 21 false true r0 (.int .i32 65536) w fun x22 w =>
      sIf x22 (
        K (.int .i64 3) w) (
        K (.int .i64 4) w)))

def bodkinref01_size (K : K1) (r0 : Value) (w : World) : Prop :=
  JoinS 0 15 (fun M1 =>
    sBin Tryd.prog .lss 21 false true r0 (.int .i32 0) w fun x4 w =>
    sIf x4 (
      K (.int .i64 0) w) (
      sBin Tryd.prog .gtr 21 false true r0 (.int .i32 1114111) w fun x7 w =>
      sIf x7 (
        K (.int .i64 0) w) (
        sBin Tryd.prog .geq 21 false true r0 (.int .i32 55296) w fun x11 w =>
        sIf x11 (
          sBin Tryd.prog .leq 21 false true r0 (.int .i32 57343) w fun x14 w =>
          sIf x14 (
            K (.int .i64 0) w) (
            M1 [] w)) (
          M1 [] w)))) fun us _ w =>
    bodkinref01_size_J1 K r0 w

def bodkinref01_size.sc : SC := (.seq (.reg (.op 0 .done)) (.join [] [3, 4, 5, 6, 7, 8, 9, 10, 11, 12, 13, 14, 15, 16, 2] (.seq (.reg (.op 0 (.op 1 (.op 2 (.test 2 (.skip 3 (.skip 4 (.op 5 (.op 6 (.know 6 true (.skip 7 (.skip 8 (.skip 9 (.skip 10 (.skip 11 (.skip 12 (.op 13 .done)))))))))))) (.op 3 (.op 4 (.op 5 (.op 6 (.test 6 (.skip 7 (.skip 8 (.skip 9 (.skip 10 (.skip 11 (.skip 12 (.op 13 .done))))))) (.op 7 (.op 8 (.op 9 (.test 9 (.op 10 (.op 11 (.op 12 (.op 13 .done)))) (.skip 10 (.skip 11 (.op 12 (.op 13 .done)))))))))))))))))) (.cond (.seq (.reg (.op 0 .done)) .nop) .nop)) (.seq (.seq (.reg (.op 0 (.op 1 .done))) (.cond (.seq (.reg (.op 0 .done)) .nop) .nop)) (.seq (.seq (.reg (.op 0 (.op 1 .done))) (.cond (.seq (.reg (.op 0 .done)) .nop) .nop)) (.seq (.seq (.reg (.op 0 (.op 1 .done))) (.cond (.seq (.reg (.op 0 .done)) .nop) .nop)) (.seq (.reg (.op 0 .done)) .nop))))))

theorem bodkinref01_size.ok : okC Tryd.f58.ntmps bodkinref01_size.sc (bodyOf Tryd.f58) = true := by kernel_rfl

theorem bodkinref01_size.eq {K : K1} {r0 : Value} {w : World} : bodkinref01_size K r0 w = codeS Tryd.prog bodkinref01_size.sc (bodyOf Tryd.f58) (argsF 0 [r0]) w (retQ Tryd.prog Tryd.f58.results.toList K) := by kernel_rfl

theorem bodkinref01_size.call {K : K1} {r0 : Value} {w : World} (h : bodkinref01_size K r0 w) : sCall Tryd.prog 58 [r0] w K := sCall_code mixed Tryd.func58 (by kernel_rfl) rfl rfl bodkinref01_size.ok bodkinref01_size.eq h

abbrev bodkinref01_size.n : Nat := 58

/-- 'bodkin bodkinref01.one' -/
def bodkinref01_one (K : K1) (r0 n1 : Value) (w : World) : Prop :=
  sBin Tryd.prog .eql 3 false true n1 (.int .i64 1) w fun x7 w =>
  sIf x7 (
    sConv Tryd.prog 21 5 r0 w fun x9 w =>
    sBuildSlice Tryd.prog 90 1 [(0, x9)] w fun x10 w =>
    sConv Tryd.prog 90 9 x10 w fun x11 w =>
    K x11 w) (
    sBin Tryd.prog .eql 3 false true n1 (.int .i64 2) w fun x13 w =>
    sIf x13 (
      sBin Tryd.prog .quo 21 false true r0 (.int .i32 64) w fun x15 w =>
      sBin Tryd.prog .add 21 true false (.int .i32 192) x15 w fun x16 w =>
      sConv Tryd.prog 21 5 x16 w fun x17 w =>
      sBin Tryd.prog .rem 21 false true r0 (.int .i32 64) w fun x19 w =>
      sBin Tryd.prog .add 21 true false (.int .i32 128) x19 w fun x20 w =>
      sConv Tryd.prog 21 5 x20 w fun x21 w =>
      sBuildSlice Tryd.prog 90 2 [(0, x17), (1, x21)] w fun x22 w =>
      sConv Tryd.prog 90 9 x22 w fun x23 w =>
      K x23 w) (
      sBin Tryd.prog .eql 3 false true n1 (.int .i64 3) w fun x25 w =>
      sIf x25 (
        sBin Tryd.prog .quo 21 false true r0 (.int .i32 4096) w fun x27 w =>
        sBin Tryd.prog .add 21 true false (.int .i32 224) x27 w fun x28 w =>
        sConv Tryd.prog 21 5 x28 w fun x29 w =>
        sBin Tryd.prog .quo 21 false true r0 (.int .i32 64) w fun x31 w =>
        sBin Tryd.prog .rem 21 false true x31 (.int .i32 64) w fun x32 w =>
        sBin Tryd.prog .add 21 true false (.int .i32 128) x32 w fun x33 w =>
        sConv Tryd.prog 21 5 x33 w fun x34 w =>
        sBin Tryd.prog .rem 21 false true r0 (.int .i32 64) w fun x36 w =>
        sBin Tryd.prog .add 21 true false (.int .i32 128) x36 w fun x37 w =>
        sConv Tryd.prog 21 5 x37 w fun x38 w =>
        sBuildSlice Tryd.prog 90 3 [(0, x29), (1, x34), (2, x38)] w fun x39 w =>
        sConv Tryd.prog 90 9 x39 w fun x40 w =>
        K x40 w) (
        sBin Tryd.prog .quo 21 false true r0 (.int .i32 262144) w fun x42 w =>
        sBin Tryd.prog .add 21 true false (.int .i32 240) x42 w fun x43 w =>
        sConv Tryd.prog 21 5 x43 w fun x44 w =>
        sBin Tryd.prog .quo 21 false true r0 (.int .i32 4096) w fun x46 w =>
        sBin Tryd.prog .rem 21 false true x46 (.int .i32 64) w fun x47 w =>
        sBin Tryd.prog .add 21 true false (.int .i32 128) x47 w fun x48 w =>
        sConv Tryd.prog 21 5 x48 w fun x49 w =>
        sBin Tryd.prog .quo 21 false true r0 (.int .i32 64) w fun x51 w =>
        sBin Tryd.prog .rem 21 false true x51 (.int .i32 64) w fun x52 w =>
        sBin Tryd.prog .add 21 true false (.int .i32 128) x52 w fun x53 w =>
        sConv Tryd.prog 21 5 x53 w fun x54 w =>
        sBin Tryd.prog .rem 21 false true r0 (.int .i32 64) w fun x56 w =>
        sBin Tryd.prog .add 21 true false (.int .i32 128) x56 w fun x57 w =>
        sConv Tryd.prog 21 5 x57 w fun x58 w =>
        sBuildSlice Tryd.prog 90 4 [(0, x44), (1, x49), (2, x54), (3, x58)] w fun x59 w =>
        sConv Tryd.prog 90 9 x59 w fun x60 w =>
        K x60 w)))

def bodkinref01_one.sc : SC := (.seq (.reg (.op 0 .done)) (.seq (.seq (.reg (.op 0 .done)) (.sub (.seq (.reg (.op 0 (.op 1 .done))) (.cond (.seq (.reg (.op 0 (.op 1 (.op 2 (.op 3 (.op 4 .done)))))) .nop) (.seq (.reg (.op 0 (.op 1 .done))) (.cond (.seq (.reg (.op 0 (.op 1 (.op 2 (.op 3 (.op 4 (.op 5 (.op 6 (.op 7 (.op 8 (.op 9 (.op 10 .done)))))))))))) .nop) (.seq (.reg (.op 0 (.op 1 .done))) (.cond (.seq (.reg (.op 0 (.op 1 (.op 2 (.op 3 (.op 4 (.op 5 (.op 6 (.op 7 (.op 8 (.op 9 (.op 10 (.op 11 (.op 12 (.op 13 (.op 14 (.op 15 .done))))))))))))))))) .nop) .nop)))))))) (.seq (.reg (.op 0 (.op 1 (.op 2 (.op 3 (.op 4 (.op 5 (.op 6 (.op 7 (.op 8 (.op 9 (.op 10 (.op 11 (.op 12 (.op 13 (.op 14 (.op 15 (.op 16 (.op 17 (.op 18 (.op 19 (.op 20 .done)))))))))))))))))))))) .nop)))

theorem bodkinref01_one.ok : okC Tryd.f59.ntmps bodkinref01_one.sc (bodyOf Tryd.f59) = true := by kernel_rfl

theorem bodkinref01_one.eq {K : K1} {r0 n1 : Value} {w : World} : bodkinref01_one K r0 n1 w = codeS Tryd.prog bodkinref01_one.sc (bodyOf Tryd.f59) (argsF 0 [r0, n1]) w (retQ Tryd.prog Tryd.f59.results.toList K) := by kernel_rfl

theorem bodkinref01_one.call {K : K1} {r0 n1 : Value} {w : World} (h : bodkinref01_one K r0 n1 w) : sCall Tryd.prog 59 [r0, n1] w K := sCall_code mixed Tryd.func59 (by kernel_rfl) rfl rfl bodkinref01_one.ok bodkinref01_one.eq h

abbrev bodkinref01_one.n : Nat := 59

/-- '(*bodkin tree.Tree).Height' -/
def tree_Tree_Height (K : K1) (t0 : Value) (w : World) : Prop :=
  sCall Tryd.prog 72 [t0] w fun x4 w =>
  sCall Tryd.prog 79 [x4] w fun x5 w =>
  K x5 w

def tree_Tree_Height.sc : SC := (.seq (.reg (.op 0 .done)) (.seq (.reg (.op 0 (.op 1 (.op 2 (.op 3 .done))))) .nop))

theorem tree_Tree_Height.ok : okC Tryd.f61.ntmps tree_Tree_Height.sc (bodyOf Tryd.f61) = true := by kernel_rfl

theorem tree_Tree_Height.eq {K : K1} {t0 : Value} {w : World} : tree_Tree_Height K t0 w = codeS Tryd.prog tree_Tree_Height.sc (bodyOf Tryd.f61) (argsF 0 [t0]) w (retQ Tryd.prog Tryd.f61.results.toList K) := by kernel_rfl

theorem tree_Tree_Height.call {K : K1} {t0 : Value} {w : World} (h : tree_Tree_Height K t0 w) : sCall Tryd.prog 61 [t0] w K := sCall_code mixed Tryd.func61 (by kernel_rfl) rfl rfl tree_Tree_Height.ok tree_Tree_Height.eq h

abbrev tree_Tree_Height.n : Nat := 61

/-- 'bodkin item.Check' -/
def item_Check_L1 (K : K1) (Nx1 : List Value → World → Prop) (x10 : Value) (ok3 x11 : Value) (w : World) : Prop :=
  sBin Tryd.prog .lss 3 false true x11 (.int .i64 3) w fun x12 w =>
  sIf x12 (
    sIdx Tryd.prog 67 x10 x11 w fun x13 w =>
    sIf ok3 (
      sCall Tryd.prog 83 [x13] w fun x17 w =>
      sBin Tryd.prog .add 3 false true x11 (.int .i64 1) w fun x19 w =>
      Nx1 [x17, x19] w) (
      sBin Tryd.prog .add 3 false true x11 (.int .i64 1) w fun x19_1 w =>
      Nx1 [(.bool false), x19_1] w)) (
    sUn Tryd.prog .not ok3 w fun x21 w =>
    sIf x21 (
      K (.int .i64 1) w) (
      K (.int .i64 0) w))

def item_Check (K : K1) (i0 : Value) (w : World) : Prop :=
  sBox Tryd.prog 71 i0 w fun i1 w =>
  sFldA Tryd.prog 71 i1 3 w fun x6 w =>
  sLoad Tryd.prog 3 x6 w fun x7 w =>
  sCall Tryd.prog 83 [x7] w fun x8 w =>
  sFldA Tryd.prog 71 i1 2 w fun x9 w =>
  sLoad Tryd.prog 67 x9 w fun x10 w =>
  LoopS [x8, (.int .i64 0)] 2 9 w fun us _ w Nx1 =>
    item_Check_L1 K Nx1 x10 (hd us) (hd (tl us)) w

def item_Check.sc : SC := (.seq (.reg (.op 0 (.op 1 .done))) (.seq (.reg (.op 0 (.op 1 (.op 2 (.op 3 .done))))) (.seq (.seq (.reg (.op 0 (.op 1 (.op 2 .done)))) (.sub (.loop [3, 11] [12, 13, 5, 14, 15, 16, 17, 18, 19] (.seq (.reg (.op 0 .done)) (.seq (.cond .nop .nop) (.seq (.sub (.seq (.reg (.op 0 (.op 1 .done))) (.reg (.op 0 (.op 1 (.test 1 (.op 2 (.op 3 (.op 4 (.op 5 .done)))) (.skip 2 (.skip 3 (.op 4 (.op 5 .done)))))))))) (.reg (.op 0 (.op 1 .done))))))))) (.seq (.seq (.reg (.op 0 (.op 1 .done))) (.cond (.seq (.reg (.op 0 .done)) .nop) .nop)) (.seq (.reg (.op 0 .done)) .nop)))))

theorem item_Check.ok : okC Tryd.f63.ntmps item_Check.sc (bodyOf Tryd.f63) = true := by kernel_rfl

theorem item_Check.eq {K : K1} {i0 : Value} {w : World} : item_Check K i0 w = codeS Tryd.prog item_Check.sc (bodyOf Tryd.f63) (argsF 0 [i0]) w (retQ Tryd.prog Tryd.f63.results.toList K) := by kernel_rfl

theorem item_Check.call {K : K1} {i0 : Value} {w : World} (h : item_Check K i0 w) : sCall Tryd.prog 63 [i0] w K := sCall_code mixed Tryd.func63 (by kernel_rfl) rfl rfl item_Check.ok item_Check.eq h

abbrev item_Check.n : Nat := 63

/-- 'bodkin tree.join' -/
def tree_join (K : K1) (a0 b1 : Value) (w : World) : Prop :=
  sBin Tryd.prog .eql 104 false true a0 .nilIface w fun x8 w =>
  sIf x8 (
    K b1 w) (
    sBin Tryd.prog .eql 104 false true b1 .nilIface w fun x12 w =>
    sIf x12 (
      K a0 w) (
      sCall Tryd.prog 84 [a0, b1] w fun x16 w =>
      sBuiltin Tryd.prog .len [134] 3 [x16] w fun x18 w =>
      sBin Tryd.prog .eql 3 false true x18 (.int .i64 1) w fun x19 w =>
      sIf x19 (
        sIdxA Tryd.prog 134 x16 (.int .i64 0) w fun x21 w =>
        sLoad Tryd.prog 104 x21 w fun x22 w =>
        K x22 w) (
        sCall Tryd.prog 85 [x16] w fun x24 w =>
        sIface Tryd.prog 136 x24 w fun x25 w =>
        K x25 w)))

def tree_join.sc : SC := (.seq (.reg (.op 0 .done)) (.seq (.sub (.seq (.reg (.op 0 (.op 1 (.op 2 .done)))) (.cond (.seq (.reg (.op 0 (.op 1 .done))) .nop) (.seq (.reg (.op 0 (.op 1 (.op 2 .done)))) (.cond (.seq (.reg (.op 0 (.op 1 .done))) .nop) .nop))))) (.seq (.reg (.op 0 (.op 1 (.op 2 (.op 3 .done))))) (.seq (.seq (.reg (.op 0 (.op 1 (.op 2 .done)))) (.cond (.seq (.reg (.op 0 (.op 1 (.op 2 (.op 3 .done))))) .nop) .nop)) (.seq (.reg (.op 0 (.op 1 (.op 2 (.op 3 .done))))) .nop)))))

theorem tree_join.ok : okC Tryd.f64.ntmps tree_join.sc (bodyOf Tryd.f64) = true := by kernel_rfl

theorem tree_join.eq {K : K1} {a0 b1 : Value} {w : World} : tree_join K a0 b1 w = codeS Tryd.prog tree_join.sc (bodyOf Tryd.f64) (argsF 0 [a0, b1]) w (retQ Tryd.prog Tryd.f64.results.toList K) := by kernel_rfl

theorem tree_join.call {K : K1} {a0 b1 : Value} {w : World} (h : tree_join K a0 b1 w) : sCall Tryd.prog 64 [a0, b1] w K := sCall_code mixed Tryd.func64 (by kernel_rfl) rfl rfl tree_join.ok tree_join.eq h

abbrev tree_join.n : Nat := 64

/-- 'bodkin tree.leafOf' -/
def tree_leafOf (K : K1) (l0 : Value) (w : World) : Prop :=
  sCall Tryd.prog 86 [l0] w fun x5 w =>
  sBuild Tryd.prog 140 [(0, l0), (1, x5)] w fun x6 w =>
  sBox Tryd.prog 140 x6 w fun x7 w =>
  K x7 w

def tree_leafOf.sc : SC := (.seq (.reg (.op 0 .done)) (.seq (.reg (.op 0 (.op 1 (.op 2 (.op 3 (.op 4 (.op 5 .done))))))) .nop))

theorem tree_leafOf.ok : okC Tryd.f65.ntmps tree_leafOf.sc (bodyOf Tryd.f65) = true := by kernel_rfl

theorem tree_leafOf.eq {K : K1} {l0 : Value} {w : World} : tree_leafOf K l0 w = codeS Tryd.prog tree_leafOf.sc (bodyOf Tryd.f65) (argsF 0 [l0]) w (retQ Tryd.prog Tryd.f65.results.toList K) := by kernel_rfl

theorem tree_leafOf.call {K : K1} {l0 : Value} {w : World} (h : tree_leafOf K l0 w) : sCall Tryd.prog 65 [l0] w K := sCall_code mixed Tryd.func65 (by kernel_rfl) rfl rfl tree_leafOf.ok tree_leafOf.eq h

abbrev tree_leafOf.n : Nat := 65

/-- 'bodkin rope.pieceOf' -/
def rope_pieceOf_L1 (K : K1) (Nx1 : List Value → World → Prop) (i3 l0 x19 x2 : Value) (x20 : Value) (w : World) : Prop :=
  sBin Tryd.prog .lss 3 false false x20 x19 w fun x21 w =>
  sIf x21 (
    sIdxA Tryd.prog 27 l0 x20 w fun x22 w =>
    sLoad Tryd.prog 21 x22 w fun x23 w =>
    sBin Tryd.prog .eql 21 false true x23 (.int .i32 10) w fun x25 w =>
    sIf x25 (
      sFldA Tryd.prog 71 i3 2 w fun x26 w =>
      sIdxA Tryd.prog 67 x26 (.int .i64 2) w fun x27 w =>
      sLoad Tryd.prog 3 x27 w fun x28 w =>
      sBin Tryd.prog .add 3 false true x28 (.int .i64 1) w fun x29 w =>
      sFldA Tryd.prog 71 i3 2 w fun x30 w =>
      sIdxA Tryd.prog 67 x30 (.int .i64 2) w fun x31 w =>
      sStore Tryd.prog 3 x31 x29 w fun w =>
      sBin Tryd.prog .add 3 false true x20 (.int .i64 1) w fun x32 w =>
      Nx1 [x32] w) (
      sBin Tryd.prog .add 3 false true x20 (.int .i64 1) w fun x32_1 w =>
      Nx1 [x32_1] w)) (
    sLoad Tryd.prog 71 i3 w fun x33 w =>
    sStore Tryd.prog 71 x2 x33 w fun w =>
    sLoad Tryd.prog 71 x2 w fun v w' => w' = w ∧ K v w)

def rope_pieceOf (K : K1) (l0 : Value) (w : World) : Prop :=
  sAlloc Tryd.prog 71 w fun x2 w =>
  sCall Tryd.prog 87 [l0] w fun x7 w =>
  sBuild Tryd.prog 71 [(4, x7)] w fun x8 w =>
  sAlloc Tryd.prog 71 w fun i3 w =>
  sStore Tryd.prog 71 i3 x8 w fun w =>
  sFldA Tryd.prog 71 i3 4 w fun x9 w =>
  sLoad Tryd.prog 9 x9 w fun x10 w =>
  sBuiltin Tryd.prog .len [9] 3 [x10] w fun x11 w =>
  sBuiltin Tryd.prog .len [27] 3 [l0] w fun x13 w =>
  sFldA Tryd.prog 71 i3 2 w fun x14 w =>
  sIdxA Tryd.prog 67 x14 (.int .i64 0) w fun x15 w =>
  sStore Tryd.prog 3 x15 x11 w fun w =>
  sFldA Tryd.prog 71 i3 2 w fun x16 w =>
  sIdxA Tryd.prog 67 x16 (.int .i64 1) w fun x17 w =>
  sStore Tryd.prog 3 x17 x13 w fun w =>
  sBuiltin Tryd.prog .len [27] 3 [l0] w fun x19 w =>
  LoopS [(.int .i64 0)] 1 13 w fun us _ w Nx1 =>
    rope_pieceOf_L1 K Nx1 i3 l0 x19 x2 (hd us) w

def rope_pieceOf.sc : SC := (.seq (.reg (.op 0 .done)) (.seq (.reg (.op 0 (.op 1 (.op 2 (.op 3 (.op 4 .done)))))) (.seq (.reg (.op 0 (.op 1 (.op 2 (.op 3 (.op 4 (.op 5 (.op 6 (.op 7 (.op 8 (.op 9 (.op 10 .done)))))))))))) (.seq (.seq (.reg (.op 0 (.op 1 (.op 2 .done)))) (.sub (.loop [20] [21, 22, 23, 5, 24, 25, 26, 27, 28, 29, 30, 31, 32] (.seq (.reg (.op 0 .done)) (.seq (.cond .nop .nop) (.seq (.sub (.seq (.reg (.op 0 (.op 1 (.op 2 .done)))) (.seq (.reg (.op 0 (.op 1 .done))) (.cond (.reg (.op 0 (.op 1 (.op 2 (.op 3 (.op 4 (.op 5 (.op 6 .done)))))))) .nop)))) (.reg (.op 0 (.op 1 .done))))))))) (.seq (.reg (.op 0 (.op 1 .done))) .nop)))))

theorem rope_pieceOf.ok : okC Tryd.f66.ntmps rope_pieceOf.sc (bodyOf Tryd.f66) = true := by kernel_rfl

theorem rope_pieceOf.eq {K : K1} {l0 : Value} {w : World} : rope_pieceOf K l0 w = codeS Tryd.prog rope_pieceOf.sc (bodyOf Tryd.f66) (argsF 0 [l0]) w (retQ Tryd.prog Tryd.f66.results.toList K) := by kernel_rfl

theorem rope_pieceOf.call {K : K1} {l0 : Value} {w : World} (h : rope_pieceOf K l0 w) : sCall Tryd.prog 66 [l0] w K := sCall_code mixed Tryd.func66 (by kernel_rfl) rfl rfl rope_pieceOf.ok rope_pieceOf.eq h

abbrev rope_pieceOf.n : Nat := 66

/-- 'bodkin bodkinref01.number' -/
def bodkinref01_number_L2 (K : K1) (Nx2 : List Value → World → Prop) (s0 : Value) (first3_1 i4 : Value) (w : World) : Prop :=
  sBuiltin Tryd.prog .len [9] 3 [s0] w fun x25 w =>
  sBin Tryd.prog .lss 3 false false i4 x25 w fun x26 w =>
  sIf x26 (
    sBin Tryd.prog .mul 21 true false (.int .i32 64) first3_1 w fun x30 w =>
    sIdx Tryd.prog 9 s0 i4 w fun x33 w =>
    sConv Tryd.prog 5 21 x33 w fun x34 w =>
    sBin Tryd.prog .add 21 false false x30 x34 w fun x35 w =>
    sBin Tryd.prog .sub 21 false true x35 (.int .i32 128) w fun x36 w =>
    sBin Tryd.prog .add 3 false true i4 (.int .i64 1) w fun x28 w =>
    Nx2 [x36, x28] w) (
    K first3_1 w)

def bodkinref01_number_J1 (K : K1) (s0 : Value) (first3 : Value) (w : World) : Prop :=
  LoopS [first3, (.int .i64 1)] 2 14 w fun us _ w Nx2 =>
    bodkinref01_number_L2 K Nx2 s0 (hd us) (hd (tl us)) w

def bodkinref01_number (K : K1) (s0 : Value) (w : World) : Prop :=
  sIdx Tryd.prog 9 s0 (.int .i64 0) w fun x6 w =>
  sConv Tryd.prog 5 21 x6 w fun x7 w =>
  JoinS 1 16 (fun M1 =>
    sBuiltin Tryd.prog .len [9] 3 [s0] w fun x9 w =>
    sBin Tryd.prog .eql 3 false true x9 (.int .i64 1) w fun x13 w =>
    sIf x13 (
      K x7 w) (
      sBin Tryd.prog .eql 3 false true x9 (.int .i64 2) w fun x16 w =>
      sIf x16 (
        sBin Tryd.prog .sub 21 false true x7 (.int .i32 192) w fun x18 w =>
        M1 [x18] w) (
        sBin Tryd.prog .eql 3 false true x9 (.int .i64 3) w fun x20 w =>
        sIf x20 (
          sBin Tryd.prog .sub 21 false true x7 (.int .i32 224) w fun x22 w =>
          M1 [x22] w) (
          sBin Tryd.prog .sub 21 false true x7 (.int .i32 240) w fun x11 w =>
          M1 [x11] w)))) fun us _ w =>
    bodkinref01_number_J1 K s0 (hd us) w

def bodkinref01_number.sc : SC := (.seq (.reg (.op 0 .done)) (.seq (.reg (.op 0 (.op 1 (.op 2 (.op 3 .done))))) (.join [3] [8, 9, 13, 12, 14, 2, 16, 15, 17, 18, 20, 19, 21, 22, 10, 11] (.seq (.reg (.op 0 (.op 1 .done))) (.sub (.seq (.reg (.op 0 (.op 1 .done))) (.cond (.seq (.reg (.op 0 (.op 1 .done))) .nop) (.seq (.reg (.op 0 (.op 1 .done))) (.cond (.reg (.op 0 (.op 1 (.op 2 .done)))) (.seq (.reg (.op 0 (.op 1 .done))) (.cond (.reg (.op 0 (.op 1 (.op 2 .done)))) (.reg (.op 0 (.op 1 (.op 2 .done)))))))))))) (.seq (.seq (.reg (.op 0 .done)) (.sub (.loop [3, 4] [23, 24, 25, 26, 29, 30, 31, 32, 33, 34, 35, 36, 27, 28] (.seq (.seq (.reg (.op 0 (.op 1 (.op 2 (.op 3 .done))))) (.cond .nop .nop)) (.seq (.sub (.reg (.op 0 (.op 1 (.op 2 (.op 3 (.op 4 (.op 5 (.op 6 (.op 7 (.op 8 .done))))))))))) (.reg (.op 0 (.op 1 (.op 2 .done))))))))) (.seq (.reg (.op 0 (.op 1 .done))) .nop)))))

theorem bodkinref01_number.ok : okC Tryd.f67.ntmps bodkinref01_number.sc (bodyOf Tryd.f67) = true := by kernel_rfl

theorem bodkinref01_number.eq {K : K1} {s0 : Value} {w : World} : bodkinref01_number K s0 w = codeS Tryd.prog bodkinref01_number.sc (bodyOf Tryd.f67) (argsF 0 [s0]) w (retQ Tryd.prog Tryd.f67.results.toList K) := by kernel_rfl

theorem bodkinref01_number.call {K : K1} {s0 : Value} {w : World} (h : bodkinref01_number K s0 w) : sCall Tryd.prog 67 [s0] w K := sCall_code mixed Tryd.func67 (by kernel_rfl) rfl rfl bodkinref01_number.ok bodkinref01_number.eq h

abbrev bodkinref01_number.n : Nat := 67

/-- 'bodkin seek.New' -/
def seek_New (K : K1) (t0 : Value) (w : World) : Prop :=
  sBuild Tryd.prog 117 [(0, t0)] w fun x4 w =>
  sBox Tryd.prog 117 x4 w fun x5 w =>
  K x5 w

def seek_New.sc : SC := (.seq (.reg (.op 0 .done)) (.seq (.reg (.op 0 (.op 1 (.op 2 (.op 3 .done))))) .nop))

theorem seek_New.ok : okC Tryd.f68.ntmps seek_New.sc (bodyOf Tryd.f68) = true := by kernel_rfl

theorem seek_New.eq {K : K1} {t0 : Value} {w : World} : seek_New K t0 w = codeS Tryd.prog seek_New.sc (bodyOf Tryd.f68) (argsF 0 [t0]) w (retQ Tryd.prog Tryd.f68.results.toList K) := by kernel_rfl

theorem seek_New.call {K : K1} {t0 : Value} {w : World} (h : seek_New K t0 w) : sCall Tryd.prog 68 [t0] w K := sCall_code mixed Tryd.func68 (by kernel_rfl) rfl rfl seek_New.ok seek_New.eq h

abbrev seek_New.n : Nat := 68

/-- 'bodkin item.Add' -/
def item_Add_J2 (K : K1) (a2 b3 s5 x4 : Value) (x47 : Value) (w : World) : Prop :=
  sIf x47 (
    DrawS w fun C w =>
    stillS C w (fun w k => sFldA Tryd.prog 69 b3 2 w k) fun x48 =>
    stillS C w (fun w k => sLoad Tryd.prog 3 x48 w k) fun x49 =>
    stillS C w (fun w k => sFldA Tryd.prog 69 a2 0 w k) fun x50 =>
    stillS C w (fun w k => sLoad Tryd.prog 3 x50 w k) fun x51 =>
    stillS C w (fun w k => sFldA Tryd.prog 69 b3 3 w k) fun x52 =>
    stillS C w (fun w k => sLoad Tryd.prog 3 x52 w k) fun x53 =>
    stillS C w (fun w k => sBin Tryd.prog .add 3 false false x51 x53 w k) fun x54 =>
    stillS C w (fun w k => sFldA Tryd.prog 69 s5 2 w k) fun x55 =>
    sStore Tryd.prog 3 x55 x49 w fun w => C w ∧
    stillS C w (fun w k => sFldA Tryd.prog 69 s5 3 w k) fun x56 =>
    sStore Tryd.prog 3 x56 x54 w fun w =>
    sLoad Tryd.prog 69 s5 w fun x57 w =>
    sStore Tryd.prog 69 x4 x57 w fun w =>
    sLoad Tryd.prog 69 x4 w fun v w' => w' = w ∧ K v w) (
    sLoad Tryd.prog 69 s5 w fun x57_1 w =>
    sStore Tryd.prog 69 x4 x57_1 w fun w =>
    sLoad Tryd.prog 69 x4 w fun v w' => w' = w ∧ K v w)

def item_Add_L1 (K : K1) (Nx1 : List Value → World → Prop) (a2 b3 s5 x4 : Value) (x17 : Value) (w : World) : Prop :=
  sBin Tryd.prog .lss 3 false true x17 (.int .i64 3) w fun x18 w =>
  sIf x18 (
    DrawS w fun C w =>
    stillS C w (fun w k => sFldA Tryd.prog 69 a2 1 w k) fun x22 =>
    stillS C w (fun w k => sIdxA Tryd.prog 67 x22 x17 w k) fun x23 =>
    stillS C w (fun w k => sLoad Tryd.prog 3 x23 w k) fun x24 =>
    stillS C w (fun w k => sFldA Tryd.prog 69 b3 1 w k) fun x26 =>
    stillS C w (fun w k => sIdxA Tryd.prog 67 x26 x17 w k) fun x27 =>
    stillS C w (fun w k => sLoad Tryd.prog 3 x27 w k) fun x28 =>
    stillS C w (fun w k => sBin Tryd.prog .add 3 false false x24 x28 w k) fun x29 =>
    stillS C w (fun w k => sFldA Tryd.prog 69 s5 1 w k) fun x30 =>
    stillS C w (fun w k => sIdxA Tryd.prog 67 x30 x17 w k) fun x31 =>
    sStore Tryd.prog 3 x31 x29 w fun w =>
    sBin Tryd.prog .add 3 false true x17 (.int .i64 1) w fun x32 w =>
    Nx1 [x32] w) (
    JoinS 1 14 (fun M2 =>
      sFldA Tryd.prog 69 b3 0 w fun x33 w =>
      sLoad Tryd.prog 3 x33 w fun x34 w =>
      sBin Tryd.prog .gtr 3 false true x34 (.int .i64 0) w fun x35 w =>
      sIf x35 (
        sFldA Tryd.prog 69 a2 0 w fun x37 w =>
        sLoad Tryd.prog 3 x37 w fun x38 w =>
        sBin Tryd.prog .eql 3 false true x38 (.int .i64 0) w fun x39 w =>
        sIf x39 (
          M2 [(.bool true)] w) (
          sFldA Tryd.prog 69 b3 2 w fun x41 w =>
          sLoad Tryd.prog 3 x41 w fun x42 w =>
          sFldA Tryd.prog 69 a2 2 w fun x43 w =>
          sLoad Tryd.prog 3 x43 w fun x44 w =>
          sBin Tryd.prog .gtr 3 false false x42 x44 w fun x45 w =>
          M2 [x45] w)) (
        M2 [(.bool false)] w)) fun us _ w =>
      item_Add_J2 K a2 b3 s5 x4 (hd us) w)

def item_Add (K : K1) (a0 b1 : Value) (w : World) : Prop :=
  sBox Tryd.prog 69 a0 w fun a2 w =>
  sBox Tryd.prog 69 b1 w fun b3 w =>
  sAlloc Tryd.prog 69 w fun x4 w =>
  sFldA Tryd.prog 69 a2 0 w fun x7 w =>
  sLoad Tryd.prog 3 x7 w fun x8 w =>
  sFldA Tryd.prog 69 b3 0 w fun x9 w =>
  sLoad Tryd.prog 3 x9 w fun x10 w =>
  sBin Tryd.prog .add 3 false false x8 x10 w fun x11 w =>
  sFldA Tryd.prog 69 a2 2 w fun x12 w =>
  sLoad Tryd.prog 3 x12 w fun x13 w =>
  sFldA Tryd.prog 69 a2 3 w fun x14 w =>
  sLoad Tryd.prog 3 x14 w fun x15 w =>
  sBuild Tryd.prog 69 [(0, x11), (2, x13), (3, x15)] w fun x16 w =>
  sAlloc Tryd.prog 69 w fun s5 w =>
  sStore Tryd.prog 69 s5 x16 w fun w =>
  LoopS [(.int .i64 0)] 1 16 w fun us _ w Nx1 =>
    item_Add_L1 K Nx1 a2 b3 s5 x4 (hd us) w

def item_Add.sc : SC := (.seq (.reg (.op 0 (.op 1 (.op 2 .done)))) (.seq (.reg (.op 0 (.op 1 (.op 2 (.op 3 (.op 4 (.op 5 (.op 6 (.op 7 (.op 8 (.op 9 (.op 10 (.op 11 .done))))))))))))) (.seq (.seq (.reg (.op 0 .done)) (.sub (.loop [17] [18, 19, 6, 20, 21, 22, 23, 24, 25, 26, 27, 28, 29, 30, 31, 32] (.seq (.reg (.op 0 .done)) (.seq (.cond .nop .nop) (.seq (.sub (.seq (.reg (.op 0 (.op 1 .done))) (.draw (.op 0 (.op 1 (.op 2 (.op 3 (.op 4 (.op 5 (.op 6 (.op 7 (.op 8 (.op 9 (.op 10 (.op 11 (.fin 12 .done)))))))))))))))) (.reg (.op 0 (.op 1 .done))))))))) (.seq (.join [47] [33, 34, 35, 36, 37, 38, 39, 40, 41, 42, 43, 44, 45, 46] (.reg (.op 0 (.op 1 (.op 2 (.op 3 (.test 3 (.op 4 (.op 5 (.op 6 (.op 7 (.test 7 (.skip 8 (.skip 9 (.skip 10 (.skip 11 (.skip 12 (.op 13 (.op 14 .done))))))) (.op 8 (.op 9 (.op 10 (.op 11 (.op 12 (.op 13 (.op 14 .done)))))))))))) (.skip 4 (.skip 5 (.skip 6 (.skip 7 (.skip 8 (.skip 9 (.skip 10 (.skip 11 (.skip 12 (.skip 13 (.op 14 .done))))))))))))))))) (.cond (.draw (.op 0 (.op 1 (.op 2 (.op 3 (.op 4 (.op 5 (.op 6 (.op 7 (.op 8 (.op 9 (.fin 10 .done)))))))))))) .nop)) (.seq (.reg (.op 0 (.op 1 .done))) .nop)))))

theorem item_Add.ok : okC Tryd.f69.ntmps item_Add.sc (bodyOf Tryd.f69) = true := by kernel_rfl

theorem item_Add.eq {K : K1} {a0 b1 : Value} {w : World} : item_Add K a0 b1 w = codeS Tryd.prog item_Add.sc (bodyOf Tryd.f69) (argsF 0 [a0, b1]) w (retQ Tryd.prog Tryd.f69.results.toList K) := by kernel_rfl

theorem item_Add.call {K : K1} {a0 b1 : Value} {w : World} (h : item_Add K a0 b1 w) : sCall Tryd.prog 69 [a0, b1] w K := sCall_code mixed Tryd.func69 (by kernel_rfl) rfl rfl item_Add.ok item_Add.eq h

abbrev item_Add.n : Nat := 69

/-- 'bodkin item.Of' -/
def item_Of (K : K1) (i0 : Value) (w : World) : Prop :=
  sBox Tryd.prog 71 i0 w fun i1 w =>
  sAlloc Tryd.prog 69 w fun x2 w =>
  sFldA Tryd.prog 71 i1 2 w fun x3 w =>
  sLoad Tryd.prog 67 x3 w fun x4 w =>
  sFldA Tryd.prog 71 i1 3 w fun x5 w =>
  sLoad Tryd.prog 3 x5 w fun x6 w =>
  sBuild Tryd.prog 69 [(0, (.int .i64 1)), (1, x4), (2, x6)] w fun x7 w =>
  sStore Tryd.prog 69 x2 x7 w fun w =>
  sLoad Tryd.prog 69 x2 w fun v w' => w' = w ∧ K v w

def item_Of.sc : SC := (.seq (.reg (.op 0 (.op 1 .done))) (.seq (.reg (.op 0 (.op 1 (.op 2 (.op 3 (.op 4 (.op 5 .done))))))) .nop))

theorem item_Of.ok : okC Tryd.f70.ntmps item_Of.sc (bodyOf Tryd.f70) = true := by kernel_rfl

theorem item_Of.eq {K : K1} {i0 : Value} {w : World} : item_Of K i0 w = codeS Tryd.prog item_Of.sc (bodyOf Tryd.f70) (argsF 0 [i0]) w (retQ Tryd.prog Tryd.f70.results.toList K) := by kernel_rfl

theorem item_Of.call {K : K1} {i0 : Value} {w : World} (h : item_Of K i0 w) : sCall Tryd.prog 70 [i0] w K := sCall_code mixed Tryd.func70 (by kernel_rfl) rfl rfl item_Of.ok item_Of.eq h

abbrev item_Of.n : Nat := 70

/-- 'bodkin tree.sumOf' -/
def tree_sumOf (K : K1) (n0 : Value) (w : World) : Prop :=
  sAlloc Tryd.prog 69 w fun x2 w =>
  sAssert Tryd.prog n0 104 107 true w fun x6 w =>
  sExtract x6 1 w fun x7 w =>
  sExtract x6 0 w fun x8 w =>
  sIf x7 (
    sNil x8 w fun x10 w =>
    sFldA Tryd.prog 140 x10 1 w fun x11 w =>
    sLoad Tryd.prog 69 x11 w fun x12 w =>
    sStore Tryd.prog 69 x2 x12 w fun w =>
    sLoad Tryd.prog 69 x2 w fun v w' => w' = w ∧ K v w) (
    sAssert Tryd.prog n0 104 136 true w fun x13 w =>
    sExtract x13 1 w fun x14 w =>
    sExtract x13 0 w fun x15 w =>
    sIf x14 (
      sNil x15 w fun x17 w =>
      sFldA Tryd.prog 142 x17 2 w fun x18 w =>
      sLoad Tryd.prog 69 x18 w fun x19 w =>
      sStore Tryd.prog 69 x2 x19 w fun w =>
      sLoad Tryd.prog 69 x2 w fun v w' => w' = w ∧ K v w) (
      sBuild Tryd.prog 69 [] w fun x20 w =>
      sStore Tryd.prog 69 x2 x20 w fun w =>
      sLoad Tryd.prog 69 x2 w fun v w' => w' = w ∧ K v w))

def tree_sumOf.sc : SC := (.seq (.reg (.op 0 .done)) (.seq (.seq (.reg (.op 0 .done)) (.sub (.seq (.reg (.op 0 (.op 1 (.op 2 .done)))) (.cond (.seq (.reg (.op 0 .done)) (.seq (.reg (.op 0 (.op 1 (.op 2 (.op 3 (.op 4 .done)))))) .nop)) (.seq (.reg (.op 0 (.op 1 (.op 2 .done)))) (.cond (.seq (.reg (.op 0 .done)) (.seq (.reg (.op 0 (.op 1 (.op 2 (.op 3 (.op 4 .done)))))) .nop)) .nop)))))) (.seq (.reg (.op 0 (.op 1 .done))) .nop)))

theorem tree_sumOf.ok : okC Tryd.f71.ntmps tree_sumOf.sc (bodyOf Tryd.f71) = true := by kernel_rfl

theorem tree_sumOf.eq {K : K1} {n0 : Value} {w : World} : tree_sumOf K n0 w = codeS Tryd.prog tree_sumOf.sc (bodyOf Tryd.f71) (argsF 0 [n0]) w (retQ Tryd.prog Tryd.f71.results.toList K) := by kernel_rfl

theorem tree_sumOf.call {K : K1} {n0 : Value} {w : World} (h : tree_sumOf K n0 w) : sCall Tryd.prog 71 [n0] w K := sCall_code mixed Tryd.func71 (by kernel_rfl) rfl rfl tree_sumOf.ok tree_sumOf.eq h

abbrev tree_sumOf.n : Nat := 71

/-- '(*bodkin tree.Tree).top' -/
def tree_Tree_top (K : K1) (t0 : Value) (w : World) : Prop :=
  sBin Tryd.prog .eql 57 false true t0 (.pointer none) w fun x4 w =>
  sIf x4 (
    K .nilIface w) (
    sNil t0 w fun x6 w =>
    sFldA Tryd.prog 110 x6 0 w fun x7 w =>
    sLoad Tryd.prog 104 x7 w fun x8 w =>
    K x8 w)

def tree_Tree_top.sc : SC := (.seq (.reg (.op 0 .done)) (.seq (.seq (.reg (.op 0 (.op 1 .done))) (.cond (.seq (.reg (.op 0 .done)) .nop) .nop)) (.seq (.reg (.op 0 (.op 1 (.op 2 (.op 3 (.op 4 .done)))))) .nop)))

theorem tree_Tree_top.ok : okC Tryd.f72.ntmps tree_Tree_top.sc (bodyOf Tryd.f72) = true := by kernel_rfl

theorem tree_Tree_top.eq {K : K1} {t0 : Value} {w : World} : tree_Tree_top K t0 w = codeS Tryd.prog tree_Tree_top.sc (bodyOf Tryd.f72) (argsF 0 [t0]) w (retQ Tryd.prog Tryd.f72.results.toList K) := by kernel_rfl

theorem tree_Tree_top.call {K : K1} {t0 : Value} {w : World} (h : tree_Tree_top K t0 w) : sCall Tryd.prog 72 [t0] w K := sCall_code mixed Tryd.func72 (by kernel_rfl) rfl rfl tree_Tree_top.ok tree_Tree_top.eq h

abbrev tree_Tree_top.n : Nat := 72

/-- '(*bodkin tree.Tree).Find' -/
def tree_Tree_Find_J5 (Nx3 : List Value → World → Prop) (Nx4 : List Value → World → Prop) (dim1 n13_1 p12 x52 x74 x77 : Value) (s18_3 : Value) (w : World) : Prop :=
  sLoad Tryd.prog 69 s18_3 w fun x84 w =>
  sCall Tryd.prog 88 [x84, dim1] w fun x86 w =>
  sDyn Tryd.prog x52 [x86] w fun x87 w =>
  sIf x87 (
    Nx3 [x77] w) (
    sLoad Tryd.prog 69 s18_3 w fun x89 w =>
    sFldA Tryd.prog 115 p12 1 w fun x90 w =>
    sStore Tryd.prog 69 x90 x89 w fun w =>
    sBin Tryd.prog .add 3 false true x74 (.int .i64 1) w fun x91 w =>
    Nx4 [n13_1, x91] w)

def tree_Tree_Find_L4 (Nx3 : List Value → World → Prop) (Nx4 : List Value → World → Prop) (dim1 p12 x52 x72 x73 : Value) (n13_1 x74 : Value) (w : World) : Prop :=
  sBin Tryd.prog .lss 3 false false x74 x73 w fun x75 w =>
  sIf x75 (
    sIdxA Tryd.prog 134 x72 x74 w fun x76 w =>
    sLoad Tryd.prog 104 x76 w fun x77 w =>
    JoinS 1 5 (fun M5 =>
      DrawS w fun C w =>
      stillS C w (fun w k => sFldA Tryd.prog 115 p12 1 w k) fun x78 =>
      stillS C w (fun w k => sLoad Tryd.prog 69 x78 w k) fun x79 =>
      (
        sCall Tryd.prog 71 [x77] w fun x81 w => C w ∧
        (
          sCall Tryd.prog 69 [x79, x81] w fun x82 w => C w ∧
          sAlloc Tryd.prog 69 w fun s18 w => C w ∧
          sStore Tryd.prog 69 s18 x82 w fun w =>
          M5 [s18] w) ∧ (
          sAlloc Tryd.prog 69 w fun s18_1 w => C w ∧
          sCall Tryd.prog 69 [x79, x81] w fun x82_1 w =>
          sStore Tryd.prog 69 s18_1 x82_1 w fun w =>
          M5 [s18_1] w)) ∧ (
        sAlloc Tryd.prog 69 w fun s18_2 w => C w ∧
        sCall Tryd.prog 71 [x77] w fun x81_1 w => C w ∧
        sCall Tryd.prog 69 [x79, x81_1] w fun x82_2 w =>
        sStore Tryd.prog 69 s18_2 x82_2 w fun w =>
        M5 [s18_2] w)) fun us _ w =>
      tree_Tree_Find_J5 Nx3 Nx4 dim1 n13_1 p12 x52 x74 x77 (hd us) w) (
    Nx3 [n13_1] w)

def tree_Tree_Find_L3 (M2 : List Value → World → Prop) (Nx3 : List Value → World → Prop) (dim1 p12 x52 : Value) (n13 : Value) (w : World) : Prop :=
  sBin Tryd.prog .neq 104 false true n13 .nilIface w fun x57 w =>
  sIf x57 (
    sFldA Tryd.prog 115 p12 2 w fun x58 w =>
    sLoad Tryd.prog 3 x58 w fun x59 w =>
    sBin Tryd.prog .add 3 false true x59 (.int .i64 1) w fun x60 w =>
    sFldA Tryd.prog 115 p12 2 w fun x61 w =>
    sStore Tryd.prog 3 x61 x60 w fun w =>
    sAssert Tryd.prog n13 104 136 true w fun x64 w =>
    sExtract x64 0 w fun x65 w =>
    sExtract x64 1 w fun x66 w =>
    sUn Tryd.prog .not x66 w fun x68 w =>
    sIf x68 (
      M2 [n13] w) (
      sNil x65 w fun x70 w =>
      sFldA Tryd.prog 142 x70 0 w fun x71 w =>
      sLoad Tryd.prog 134 x71 w fun x72 w =>
      sBuiltin Tryd.prog .len [134] 3 [x72] w fun x73 w =>
      LoopS [.nilIface, (.int .i64 0)] 2 19 w fun us _ w Nx4 =>
        tree_Tree_Find_L4 Nx3 Nx4 dim1 p12 x52 x72 x73 (hd us) (hd (tl us)) w)) (
    M2 [n13] w)

def tree_Tree_Find_J8 (M6 : List Value → World → Prop) (Nx7 : List Value → World → Prop) (dim1 p12 x103 x52 : Value) (s23_3 : Value) (w : World) : Prop :=
  sLoad Tryd.prog 69 s23_3 w fun x113 w =>
  sCall Tryd.prog 88 [x113, dim1] w fun x115 w =>
  sDyn Tryd.prog x52 [x115] w fun x116 w =>
  sIf x116 (
    M6 [] w) (
    sLoad Tryd.prog 69 s23_3 w fun x117 w =>
    sFldA Tryd.prog 115 p12 1 w fun x118 w =>
    sStore Tryd.prog 69 x118 x117 w fun w =>
    sBin Tryd.prog .add 3 false true x103 (.int .i64 1) w fun x119 w =>
    Nx7 [x119] w)

def tree_Tree_Find_L7 (M6 : List Value → World → Prop) (Nx7 : List Value → World → Prop) (dim1 p12 x101 x102 x52 : Value) (x103 : Value) (w : World) : Prop :=
  sBin Tryd.prog .lss 3 false false x103 x102 w fun x104 w =>
  sIf x104 (
    sIdxA Tryd.prog 60 x101 x103 w fun x105 w =>
    sLoad Tryd.prog 71 x105 w fun x106 w =>
    sAlloc Tryd.prog 71 w fun i22 w =>
    sStore Tryd.prog 71 i22 x106 w fun w =>
    JoinS 1 5 (fun M8 =>
      DrawS w fun C w =>
      stillS C w (fun w k => sFldA Tryd.prog 115 p12 1 w k) fun x107 =>
      stillS C w (fun w k => sLoad Tryd.prog 69 x107 w k) fun x108 =>
      stillS C w (fun w k => sLoad Tryd.prog 71 i22 w k) fun x109 =>
      (
        sCall Tryd.prog 70 [x109] w fun x110 w => C w ∧
        (
          sCall Tryd.prog 69 [x108, x110] w fun x111 w => C w ∧
          sAlloc Tryd.prog 69 w fun s23 w => C w ∧
          sStore Tryd.prog 69 s23 x111 w fun w =>
          M8 [s23] w) ∧ (
          sAlloc Tryd.prog 69 w fun s23_1 w => C w ∧
          sCall Tryd.prog 69 [x108, x110] w fun x111_1 w =>
          sStore Tryd.prog 69 s23_1 x111_1 w fun w =>
          M8 [s23_1] w)) ∧ (
        sAlloc Tryd.prog 69 w fun s23_2 w => C w ∧
        sCall Tryd.prog 70 [x109] w fun x110_1 w => C w ∧
        sCall Tryd.prog 69 [x108, x110_1] w fun x111_2 w =>
        sStore Tryd.prog 69 s23_2 x111_2 w fun w =>
        M8 [s23_2] w)) fun us _ w =>
      tree_Tree_Find_J8 M6 Nx7 dim1 p12 x103 x52 (hd us) w) (
    M6 [] w)

def tree_Tree_Find_J6 (K : K1) (p12 x8 : Value) (w : World) : Prop :=
  sFldA Tryd.prog 115 p12 1 w fun x120 w =>
  sFldA Tryd.prog 69 x120 0 w fun x121 w =>
  sLoad Tryd.prog 3 x121 w fun x122 w =>
  sFldA Tryd.prog 115 p12 0 w fun x123 w =>
  sStore Tryd.prog 3 x123 x122 w fun w =>
  sLoad Tryd.prog 115 p12 w fun x124 w =>
  sStore Tryd.prog 115 x8 x124 w fun w =>
  sLoad Tryd.prog 115 x8 w fun v w' => w' = w ∧ K (.tuple #[v, (.int .i64 0)]) w

def tree_Tree_Find_J2 (K : K1) (dim1 p12 x52 x8 : Value) (n13_2 : Value) (w : World) : Prop :=
  JoinS 0 32 (fun M6 =>
    sAssert Tryd.prog n13_2 104 107 true w fun x94 w =>
    sExtract x94 0 w fun x95 w =>
    sExtract x94 1 w fun x96 w =>
    sIf x96 (
      sNil x95 w fun x99 w =>
      sFldA Tryd.prog 140 x99 0 w fun x100 w =>
      sLoad Tryd.prog 60 x100 w fun x101 w =>
      sBuiltin Tryd.prog .len [60] 3 [x101] w fun x102 w =>
      LoopS [(.int .i64 0)] 1 18 w fun us _ w Nx7 =>
        tree_Tree_Find_L7 M6 Nx7 dim1 p12 x101 x102 x52 (hd us) w) (
      M6 [] w)) fun us _ w =>
    tree_Tree_Find_J6 K p12 x8 w

def tree_Tree_Find_J1 (K : K1) (bias7 dim1 t0 v6 x8 : Value) (x50 : Value) (w : World) : Prop :=
  sIf x50 (
    sBuild Tryd.prog 115 [] w fun x51 w =>
    sStore Tryd.prog 115 x8 x51 w fun w =>
    sLoad Tryd.prog 115 x8 w fun v w' => w' = w ∧ K (.tuple #[v, (.int .i64 1)]) w) (
    sFunc Tryd.prog (.func 89) [] [v6, bias7] w fun x52 w =>
    sBuild Tryd.prog 115 [] w fun x53 w =>
    sAlloc Tryd.prog 115 w fun p12 w =>
    sStore Tryd.prog 115 p12 x53 w fun w =>
    sCall Tryd.prog 72 [t0] w fun x55 w =>
    JoinS 1 40 (fun M2 =>
      LoopS [x55] 1 40 w fun us _ w Nx3 =>
        tree_Tree_Find_L3 M2 Nx3 dim1 p12 x52 (hd us) w) fun us _ w =>
      tree_Tree_Find_J2 K dim1 p12 x52 x8 (hd us) w)

def tree_Tree_Find (K : K1) (t0 dim1 v2 bias3 : Value) (w : World) : Prop :=
  sBox Tryd.prog 3 v2 w fun v6 w =>
  sBox Tryd.prog 3 bias3 w fun bias7 w =>
  sAlloc Tryd.prog 115 w fun x8 w =>
  sCall Tryd.prog 47 [t0] w fun x25 w =>
  sAlloc Tryd.prog 69 w fun all10 w =>
  sStore Tryd.prog 69 all10 x25 w fun w =>
  JoinS 1 24 (fun M1 =>
    DrawS w fun C w =>
    stillS C w (fun w k => sBin Tryd.prog .lss 3 false true dim1 (.int .i64 0) w k) fun x27 =>
    sIf x27 (
      M1 [(.bool true)] w) (
      stillS C w (fun w k => sBin Tryd.prog .gtr 3 false true dim1 (.int .i64 3) w k) fun x30 =>
      sIf x30 (
        M1 [(.bool true)] w) (
        stillS C w (fun w k => sLoad Tryd.prog 3 v6 w k) fun x33 =>
        stillS C w (fun w k => sBin Tryd.prog .lss 3 false true x33 (.int .i64 0) w k) fun x34 =>
        sIf x34 (
          M1 [(.bool true)] w) (
          stillS C w (fun w k => sLoad Tryd.prog 3 v6 w k) fun x37 =>
          stillS C w (fun w k => sLoad Tryd.prog 69 all10 w k) fun x38 =>
          sCall Tryd.prog 88 [x38, dim1] w fun x40 w => C w ∧
          stillS C w (fun w k => sBin Tryd.prog .gtr 3 false false x37 x40 w k) fun x41 =>
          sIf x41 (
            M1 [(.bool true)] w) (
            stillS C w (fun w k => sLoad Tryd.prog 3 bias7 w k) fun x44 =>
            stillS C w (fun w k => sBin Tryd.prog .neq 3 false true x44 (.int .i64 0) w k) fun x45 =>
            sIf x45 (
              stillS C w (fun w k => sLoad Tryd.prog 3 bias7 w k) fun x47 =>
              stillS C w (fun w k => sBin Tryd.prog .neq 3 false true x47 (.int .i64 1) w k) fun x48 =>
              M1 [x48] w) (
              M1 [(.bool false)] w)))))) fun us _ w =>
    tree_Tree_Find_J1 K bias7 dim1 t0 v6 x8 (hd us) w

def tree_Tree_Find.sc : SC := (.seq (.reg (.op 0 (.op 1 (.op 2 (.op 3 .done))))) (.seq (.reg (.op 0 (.op 1 (.op 2 (.op 3 .done))))) (.seq (.join [50] [26, 27, 28, 29, 30, 31, 32, 33, 34, 35, 36, 37, 38, 39, 40, 41, 42, 43, 44, 45, 46, 47, 48, 49] (.draw (.op 0 (.op 1 (.op 2 (.test 2 (.skip 3 (.skip 4 (.op 5 (.op 6 (.know 6 true (.skip 7 (.skip 8 (.op 9 (.op 10 (.know 10 true (.skip 11 (.skip 12 (.skip 13 (.skip 14 (.skip 15 (.op 16 (.op 17 (.know 17 true (.skip 18 (.skip 19 (.skip 20 (.skip 21 (.skip 22 (.skip 23 (.op 24 .done))))))))))))))))))))))))) (.op 3 (.op 4 (.op 5 (.op 6 (.test 6 (.skip 7 (.skip 8 (.op 9 (.op 10 (.know 10 true (.skip 11 (.skip 12 (.skip 13 (.skip 14 (.skip 15 (.op 16 (.op 17 (.know 17 true (.skip 18 (.skip 19 (.skip 20 (.skip 21 (.skip 22 (.skip 23 (.op 24 .done)))))))))))))))))))) (.op 7 (.op 8 (.op 9 (.op 10 (.test 10 (.skip 11 (.skip 12 (.skip 13 (.skip 14 (.skip 15 (.op 16 (.op 17 (.know 17 true (.skip 18 (.skip 19 (.skip 20 (.skip 21 (.skip 22 (.skip 23 (.op 24 .done))))))))))))))) (.op 11 (.op 12 (.op 13 (.op 14 (.op 15 (.op 16 (.op 17 (.test 17 (.skip 18 (.skip 19 (.skip 20 (.skip 21 (.skip 22 (.skip 23 (.op 24 .done))))))) (.op 18 (.op 19 (.op 20 (.test 20 (.op 21 (.op 22 (.op 23 (.op 24 .done)))) (.skip 21 (.skip 22 (.op 23 (.op 24 .done))))))))))))))))))))))))))))))) (.cond (.seq (.reg (.op 0 (.op 1 (.op 2 .done)))) .nop) .nop)) (.seq (.reg (.op 0 (.op 1 .done))) (.seq (.reg (.op 0 (.op 1 (.op 2 .done)))) (.seq (.reg (.op 0 (.op 1 (.op 2 .done)))) (.join [13] [56, 57, 58, 59, 60, 61, 63, 64, 62, 65, 66, 14, 15, 67, 68, 69, 70, 71, 72, 73, 74, 75, 76, 77, 17, 78, 79, 80, 81, 82, 18, 83, 84, 85, 86, 87, 88, 89, 90, 91] (.sub (.loop [13] [56, 57, 58, 59, 60, 61, 63, 64, 62, 65, 66, 14, 15, 67, 68, 69, 70, 71, 72, 73, 74, 75, 76, 77, 17, 78, 79, 80, 81, 82, 18, 83, 84, 85, 86, 87, 88, 89, 90, 91] (.seq (.seq (.reg (.op 0 (.op 1 .done))) (.cond .nop .nop)) (.sub (.seq (.reg (.op 0 (.op 1 (.op 2 (.op 3 (.op 4 .done)))))) (.seq (.reg (.op 0 (.op 1 (.op 2 (.op 3 (.op 4 (.op 5 (.op 6 .done)))))))) (.seq (.seq (.reg (.op 0 (.op 1 .done))) (.cond .nop .nop)) (.seq (.reg (.op 0 .done)) (.seq (.reg (.op 0 (.op 1 (.op 2 (.op 3 (.op 4 (.op 5 .done))))))) (.sub (.loop [13, 74] [75, 76, 77, 17, 78, 79, 80, 81, 82, 18, 83, 84, 85, 86, 87, 88, 89, 90, 91] (.seq (.reg (.op 0 .done)) (.seq (.cond .nop .nop) (.seq (.sub (.seq (.reg (.op 0 (.op 1 (.op 2 .done)))) (.join [18] [78, 79, 80, 81, 82] (.draw (.op 0 (.op 1 (.op 2 (.alt 3 (.alt 4 (.op 5 (.fin 6 .done)) 5 (.fin 4 (.fin 6 .done))) 5 (.op 3 (.fin 4 (.fin 6 .done)))))))) (.seq (.seq (.reg (.op 0 (.op 1 (.op 2 (.op 3 (.op 4 .done)))))) (.cond (.seq (.reg (.op 0 (.op 1 .done))) .nop) .nop)) (.reg (.op 0 (.op 1 (.op 2 .done)))))))) (.reg (.op 0 (.op 1 .done))))))))))))))))) (.join [] [93, 94, 92, 95, 96, 19, 20, 97, 98, 99, 100, 101, 102, 103, 104, 105, 106, 22, 107, 108, 109, 110, 111, 23, 112, 113, 114, 115, 116, 117, 118, 119] (.seq (.reg (.op 0 (.op 1 (.op 2 (.op 3 (.op 4 (.op 5 (.op 6 .done)))))))) (.seq (.reg (.op 0 .done)) (.cond (.seq (.reg (.op 0 (.op 1 (.op 2 (.op 3 (.op 4 (.op 5 .done))))))) (.sub (.loop [103] [104, 105, 106, 22, 107, 108, 109, 110, 111, 23, 112, 113, 114, 115, 116, 117, 118, 119] (.seq (.reg (.op 0 .done)) (.seq (.cond .nop .nop) (.seq (.sub (.seq (.reg (.op 0 (.op 1 (.op 2 (.op 3 .done))))) (.join [23] [107, 108, 109, 110, 111] (.draw (.op 0 (.op 1 (.op 2 (.alt 3 (.alt 4 (.op 5 (.fin 6 .done)) 5 (.fin 4 (.fin 6 .done))) 5 (.op 3 (.fin 4 (.fin 6 .done)))))))) (.seq (.seq (.reg (.op 0 (.op 1 (.op 2 (.op 3 (.op 4 .done)))))) (.cond .nop .nop)) (.reg (.op 0 (.op 1 (.op 2 .done)))))))) (.reg (.op 0 (.op 1 .done))))))))) .nop))) (.seq (.reg (.op 0 (.op 1 (.op 2 (.op 3 (.op 4 .done)))))) (.seq (.reg (.op 0 (.op 1 (.op 2 .done)))) .nop))))))))))

theorem tree_Tree_Find.ok : okC Tryd.f73.ntmps tree_Tree_Find.sc (bodyOf Tryd.f73) = true := by kernel_rfl

theorem tree_Tree_Find.eq {K : K1} {t0 dim1 v2 bias3 : Value} {w : World} : tree_Tree_Find K t0 dim1 v2 bias3 w = codeS Tryd.prog tree_Tree_Find.sc (bodyOf Tryd.f73) (argsF 0 [t0, dim1, v2, bias3]) w (retQ Tryd.prog Tryd.f73.results.toList K) := by kernel_rfl

theorem tree_Tree_Find.call {K : K1} {t0 dim1 v2 bias3 : Value} {w : World} (h : tree_Tree_Find K t0 dim1 v2 bias3 w) : sCall Tryd.prog 73 [t0, dim1, v2, bias3] w K := sCall_code mixed Tryd.func73 (by kernel_rfl) rfl rfl tree_Tree_Find.ok tree_Tree_Find.eq h

abbrev tree_Tree_Find.n : Nat := 73

/-- 'bodkin tree.split' -/
def tree_split_L1 (K : K1) (Nx1 : List Value → World → Prop) (x51 x55 x56 : Value) (at1_1 x57 : Value) (w : World) : Prop :=
  sBin Tryd.prog .lss 3 false false x57 x56 w fun x58 w =>
  sIf x58 (
    sIdxA Tryd.prog 134 x55 x57 w fun x60 w =>
    sLoad Tryd.prog 104 x60 w fun x61 w =>
    sCall Tryd.prog 71 [x61] w fun x63 w =>
    sFld Tryd.prog 69 x63 0 w fun x64 w =>
    sBin Tryd.prog .leq 3 false false at1_1 x64 w fun x67 w =>
    sIf x67 (
      sCall Tryd.prog 74 [x61, at1_1] w fun x71 w =>
      sExtract x71 0 w fun x72 w =>
      sExtract x71 1 w fun x73 w =>
      DrawS w fun C w =>
      sNil x51 w fun x75 w =>
      stillS C w (fun w k => sFldA Tryd.prog 142 x75 0 w k) fun x76 =>
      stillS C w (fun w k => sLoad Tryd.prog 134 x76 w k) fun x77 =>
      stillS C w (fun w k => sSlice Tryd.prog 134 x77 none (some x57) (some x57) w k) fun x80 =>
      sNil x51 w fun x86 w =>
      stillS C w (fun w k => sFldA Tryd.prog 142 x86 0 w k) fun x87 =>
      stillS C w (fun w k => sLoad Tryd.prog 134 x87 w k) fun x88 =>
      stillS C w (fun w k => sBin Tryd.prog .add 3 false true x57 (.int .i64 1) w k) fun x90 =>
      stillS C w (fun w k => sSlice Tryd.prog 134 x88 (some x90) none none w k) fun x91 =>
      sCall Tryd.prog 90 [x80] w fun x81 w => C w ∧
      sCall Tryd.prog 64 [x81, x72] w fun x83 w => C w ∧
      sCall Tryd.prog 90 [x91] w fun x92 w => C w ∧
      sCall Tryd.prog 64 [x73, x92] w fun x93 w => C w ∧
      K (.tuple #[x83, x93]) w) (
      sBin Tryd.prog .sub 3 false false at1_1 x64 w fun x96 w =>
      sBin Tryd.prog .add 3 false true x57 (.int .i64 1) w fun x97 w =>
      Nx1 [x96, x97] w)) (
    sIface Tryd.prog 136 x51 w fun x99 w =>
    K (.tuple #[x99, .nilIface]) w)

def tree_split (K : K1) (n0 at1 : Value) (w : World) : Prop :=
  sAssert Tryd.prog n0 104 107 true w fun x14 w =>
  sExtract x14 1 w fun x15 w =>
  sExtract x14 0 w fun x16 w =>
  sIf x15 (
    sBin Tryd.prog .leq 3 false true at1 (.int .i64 0) w fun x19 w =>
    sIf x19 (
      sIface Tryd.prog 107 x16 w fun x21 w =>
      K (.tuple #[.nilIface, x21]) w) (
      sNil x16 w fun x25 w =>
      sFldA Tryd.prog 140 x25 0 w fun x26 w =>
      sLoad Tryd.prog 60 x26 w fun x27 w =>
      sBuiltin Tryd.prog .len [60] 3 [x27] w fun x28 w =>
      sBin Tryd.prog .geq 3 false false at1 x28 w fun x29 w =>
      sIf x29 (
        sIface Tryd.prog 107 x16 w fun x31 w =>
        K (.tuple #[x31, .nilIface]) w) (
        DrawS w fun C w =>
        sNil x16 w fun x33 w =>
        stillS C w (fun w k => sFldA Tryd.prog 140 x33 0 w k) fun x34 =>
        stillS C w (fun w k => sLoad Tryd.prog 60 x34 w k) fun x35 =>
        stillS C w (fun w k => sSlice Tryd.prog 60 x35 none (some at1) (some at1) w k) fun x38 =>
        sNil x16 w fun x42 w =>
        stillS C w (fun w k => sFldA Tryd.prog 140 x42 0 w k) fun x43 =>
        stillS C w (fun w k => sLoad Tryd.prog 60 x43 w k) fun x44 =>
        stillS C w (fun w k => sSlice Tryd.prog 60 x44 (some at1) none none w k) fun x46 =>
        sCall Tryd.prog 65 [x38] w fun x39 w => C w ∧
        stillS C w (fun w k => sIface Tryd.prog 107 x39 w k) fun x40 =>
        sCall Tryd.prog 65 [x46] w fun x47 w => C w ∧
        stillS C w (fun w k => sIface Tryd.prog 107 x47 w k) fun x48 =>
        K (.tuple #[x40, x48]) w))) (
    sAssert Tryd.prog n0 104 136 true w fun x49 w =>
    sExtract x49 1 w fun x50 w =>
    sExtract x49 0 w fun x51 w =>
    sIf x50 (
      sNil x51 w fun x53 w =>
      sFldA Tryd.prog 142 x53 0 w fun x54 w =>
      sLoad Tryd.prog 134 x54 w fun x55 w =>
      sBuiltin Tryd.prog .len [134] 3 [x55] w fun x56 w =>
      LoopS [at1, (.int .i64 0)] 2 47 w fun us _ w Nx1 =>
        tree_split_L1 K Nx1 x51 x55 x56 (hd us) (hd (tl us)) w) (
      K (.tuple #[.nilIface, .nilIface]) w))

def tree_split.sc : SC := (.seq (.reg (.op 0 (.op 1 .done))) (.seq (.seq (.reg (.op 0 .done)) (.sub (.seq (.reg (.op 0 (.op 1 (.op 2 .done)))) (.cond (.seq (.reg (.op 0 .done)) (.seq (.sub (.seq (.reg (.op 0 (.op 1 (.op 2 .done)))) (.cond (.seq (.reg (.op 0 (.op 1 (.op 2 (.op 3 .done))))) .nop) (.seq (.reg (.op 0 (.op 1 (.op 2 (.op 3 (.op 4 (.op 5 (.op 6 (.op 7 .done))))))))) (.cond (.seq (.reg (.op 0 (.op 1 (.op 2 (.op 3 .done))))) .nop) .nop))))) (.seq (.draw (.op 0 (.op 1 (.op 2 (.op 3 (.op 4 (.op 5 (.op 6 (.op 9 (.op 10 (.op 11 (.op 12 (.op 13 (.op 14 (.op 7 (.op 8 (.op 15 (.op 16 (.op 17 (.op 18 .done)))))))))))))))))))) .nop))) (.seq (.reg (.op 0 (.op 1 (.op 2 .done)))) (.cond (.seq (.reg (.op 0 .done)) (.seq (.seq (.reg (.op 0 (.op 1 (.op 2 (.op 3 (.op 4 (.op 5 .done))))))) (.sub (.loop [1, 57] [58, 59, 60, 61, 8, 9, 62, 63, 64, 10, 65, 66, 67, 69, 70, 71, 68, 72, 73, 11, 12, 74, 75, 76, 77, 78, 79, 80, 81, 82, 83, 84, 85, 86, 87, 88, 89, 90, 91, 92, 93, 4, 5, 94, 95, 96, 97] (.seq (.reg (.op 0 .done)) (.seq (.cond .nop .nop) (.seq (.sub (.seq (.reg (.op 0 (.op 1 (.op 2 (.op 3 (.op 4 .done)))))) (.seq (.reg (.op 0 (.op 1 (.op 2 (.op 3 .done))))) (.seq (.seq (.reg (.op 0 (.op 1 (.op 2 .done)))) (.cond (.seq (.reg (.op 0 (.op 1 (.op 2 (.op 3 (.op 4 (.op 5 (.op 6 (.op 7 .done))))))))) (.seq (.draw (.op 0 (.op 1 (.op 2 (.op 3 (.op 4 (.op 5 (.op 6 (.op 8 (.op 10 (.op 11 (.op 12 (.op 13 (.op 14 (.op 15 (.op 16 (.op 17 (.op 7 (.op 9 (.op 18 (.op 19 (.op 20 (.op 21 .done))))))))))))))))))))))) .nop)) .nop)) (.reg (.op 0 (.op 1 (.op 2 (.op 3 .done))))))))) (.reg (.op 0 (.op 1 .done))))))))) (.seq (.reg (.op 0 (.op 1 (.op 2 (.op 3 .done))))) .nop))) .nop)))))) (.seq (.reg (.op 0 (.op 1 .done))) .nop)))

theorem tree_split.ok : okC Tryd.f74.ntmps tree_split.sc (bodyOf Tryd.f74) = true := by kernel_rfl

theorem tree_split.eq {K : K1} {n0 at1 : Value} {w : World} : tree_split K n0 at1 w = codeS Tryd.prog tree_split.sc (bodyOf Tryd.f74) (argsF 0 [n0, at1]) w (retQ Tryd.prog Tryd.f74.results.toList K) := by kernel_rfl

theorem tree_split.call {K : K1} {n0 at1 : Value} {w : World} (h : tree_split K n0 at1 w) : sCall Tryd.prog 74 [n0, at1] w K := sCall_code mixed Tryd.func74 (by kernel_rfl) rfl rfl tree_split.ok tree_split.eq h

abbrev tree_split.n : Nat := 74

/-- '(*bodkin tree.Tree).Items' -/
def tree_Tree_Items (K : K1) (t0 : Value) (w : World) : Prop :=
  sAlloc Tryd.prog 60 w fun out3 w =>
  sCall Tryd.prog 72 [t0] w fun x5 w =>
  sFunc Tryd.prog (.func 92) [] [out3] w fun x6 w =>
  sCall Tryd.prog 91 [x5, x6] w fun x7 w =>
  sLoad Tryd.prog 60 out3 w fun x8 w =>
  K x8 w

def tree_Tree_Items.sc : SC := (.seq (.reg (.op 0 .done)) (.seq (.reg (.op 0 .done)) (.seq (.reg (.op 0 (.op 1 (.op 2 (.op 3 .done))))) (.seq (.reg (.op 0 (.op 1 .done))) .nop))))

theorem tree_Tree_Items.ok : okC Tryd.f75.ntmps tree_Tree_Items.sc (bodyOf Tryd.f75) = true := by kernel_rfl

theorem tree_Tree_Items.eq {K : K1} {t0 : Value} {w : World} : tree_Tree_Items K t0 w = codeS Tryd.prog tree_Tree_Items.sc (bodyOf Tryd.f75) (argsF 0 [t0]) w (retQ Tryd.prog Tryd.f75.results.toList K) := by kernel_rfl

theorem tree_Tree_Items.call {K : K1} {t0 : Value} {w : World} (h : tree_Tree_Items K t0 w) : sCall Tryd.prog 75 [t0] w K := sCall_code mixed Tryd.func75 (by kernel_rfl) rfl rfl tree_Tree_Items.ok tree_Tree_Items.eq h

abbrev tree_Tree_Items.n : Nat := 75

/-- '(*bodkin tree.Tree).At' -/
def tree_Tree_At_L3 (Nx2 : List Value → World → Prop) (Nx3 : List Value → World → Prop) (x34 x35 : Value) (i1_2 n6_1 x36 : Value) (w : World) : Prop :=
  sBin Tryd.prog .lss 3 false false x36 x35 w fun x37 w =>
  sIf x37 (
    sIdxA Tryd.prog 134 x34 x36 w fun x38 w =>
    sLoad Tryd.prog 104 x38 w fun x39 w =>
    sCall Tryd.prog 71 [x39] w fun x41 w =>
    sFld Tryd.prog 69 x41 0 w fun x42 w =>
    sBin Tryd.prog .geq 3 false false i1_2 x42 w fun x45 w =>
    sIf x45 (
      sBin Tryd.prog .sub 3 false false i1_2 x42 w fun x48 w =>
      sBin Tryd.prog .add 3 false true x36 (.int .i64 1) w fun x50 w =>
      Nx3 [x48, n6_1, x50] w) (
      Nx2 [i1_2, x39] w)) (
    Nx2 [i1_2, n6_1] w)

def tree_Tree_At_L2 (K : K1) (Nx2 : List Value → World → Prop) (x4 : Value) (i1_1 n6 : Value) (w : World) : Prop :=
  sAssert Tryd.prog n6 104 136 true w fun x26 w =>
  sExtract x26 0 w fun x27 w =>
  sExtract x26 1 w fun x28 w =>
  sUn Tryd.prog .not x28 w fun x30 w =>
  sIf x30 (
    sAssert Tryd.prog n6 104 107 false w fun x52 w =>
    sNil x52 w fun x53 w =>
    sFldA Tryd.prog 140 x53 0 w fun x54 w =>
    sLoad Tryd.prog 60 x54 w fun x55 w =>
    sIdxA Tryd.prog 60 x55 i1_1 w fun x57 w =>
    sLoad Tryd.prog 71 x57 w fun x58 w =>
    sStore Tryd.prog 71 x4 x58 w fun w =>
    sLoad Tryd.prog 71 x4 w fun v w' => w' = w ∧ K (.tuple #[v, (.int .i64 0)]) w) (
    sNil x27 w fun x32 w =>
    sFldA Tryd.prog 142 x32 0 w fun x33 w =>
    sLoad Tryd.prog 134 x33 w fun x34 w =>
    sBuiltin Tryd.prog .len [134] 3 [x34] w fun x35 w =>
    LoopS [i1_1, n6, (.int .i64 0)] 3 16 w fun us _ w Nx3 =>
      tree_Tree_At_L3 Nx2 Nx3 x34 x35 (hd us) (hd (tl us)) (hd (tl (tl us))) w)

def tree_Tree_At_J1 (K : K1) (i1 t0 x4 : Value) (x20 : Value) (w : World) : Prop :=
  sIf x20 (
    sBuild Tryd.prog 71 [] w fun x21 w =>
    sStore Tryd.prog 71 x4 x21 w fun w =>
    sLoad Tryd.prog 71 x4 w fun v w' => w' = w ∧ K (.tuple #[v, (.int .i64 1)]) w) (
    sCall Tryd.prog 72 [t0] w fun x23 w =>
    LoopS [i1, x23] 2 31 w fun us _ w Nx2 =>
      tree_Tree_At_L2 K Nx2 x4 (hd us) (hd (tl us)) w)

def tree_Tree_At (K : K1) (t0 i1 : Value) (w : World) : Prop :=
  sAlloc Tryd.prog 71 w fun x4 w =>
  JoinS 1 8 (fun M1 =>
    sBin Tryd.prog .lss 3 false true i1 (.int .i64 0) w fun x13 w =>
    sIf x13 (
      M1 [(.bool true)] w) (
      sCall Tryd.prog 47 [t0] w fun x17 w =>
      sFld Tryd.prog 69 x17 0 w fun x18 w =>
      sBin Tryd.prog .geq 3 false false i1 x18 w fun x19 w =>
      M1 [x19] w)) fun us _ w =>
    tree_Tree_At_J1 K i1 t0 x4 (hd us) w

def tree_Tree_At.sc : SC := (.seq (.reg (.op 0 (.op 1 .done))) (.sub (.seq (.join [20] [12, 13, 14, 15, 16, 17, 18, 19] (.reg (.op 0 (.op 1 (.op 2 (.test 2 (.skip 3 (.skip 4 (.skip 5 (.skip 6 (.skip 7 (.op 8 .done)))))) (.op 3 (.op 4 (.op 5 (.op 6 (.op 7 (.op 8 .done))))))))))) (.cond (.seq (.reg (.op 0 (.op 1 (.op 2 .done)))) .nop) .nop)) (.seq (.reg (.op 0 (.op 1 (.op 2 .done)))) (.seq .nop (.seq (.sub (.loop [1, 6] [25, 26, 24, 27, 28, 7, 8, 29, 30, 31, 32, 33, 34, 35, 36, 37, 38, 39, 10, 40, 41, 42, 11, 43, 44, 45, 46, 47, 48, 49, 50] (.sub (.seq (.reg (.op 0 (.op 1 (.op 2 (.op 3 (.op 4 (.op 5 (.op 6 .done)))))))) (.seq (.seq (.reg (.op 0 (.op 1 .done))) (.cond .nop .nop)) (.seq (.reg (.op 0 (.op 1 (.op 2 (.op 3 (.op 4 (.op 5 .done))))))) (.sub (.loop [1, 6, 36] [37, 38, 39, 10, 40, 41, 42, 11, 43, 44, 45, 46, 47, 48, 49, 50] (.seq (.reg (.op 0 .done)) (.seq (.cond .nop .nop) (.seq (.sub (.seq (.reg (.op 0 (.op 1 (.op 2 .done)))) (.seq (.seq (.reg (.op 0 (.op 1 (.op 2 (.op 3 .done))))) (.seq (.reg (.op 0 (.op 1 (.op 2 .done)))) (.cond (.seq (.reg (.op 0 (.op 1 (.op 2 (.op 3 .done))))) .nop) .nop))) (.seq (.reg (.op 0 (.op 1 .done))) .nop)))) (.reg (.op 0 (.op 1 .done)))))))))))))) (.seq (.reg (.op 0 (.op 1 (.op 2 (.op 3 (.op 4 (.op 5 (.op 6 (.op 7 (.op 8 (.op 9 .done))))))))))) .nop)))))))

theorem tree_Tree_At.ok : okC Tryd.f76.ntmps tree_Tree_At.sc (bodyOf Tryd.f76) = true := by kernel_rfl

theorem tree_Tree_At.eq {K : K1} {t0 i1 : Value} {w : World} : tree_Tree_At K t0 i1 w = codeS Tryd.prog tree_Tree_At.sc (bodyOf Tryd.f76) (argsF 0 [t0, i1]) w (retQ Tryd.prog Tryd.f76.results.toList K) := by kernel_rfl

theorem tree_Tree_At.call {K : K1} {t0 i1 : Value} {w : World} (h : tree_Tree_At K t0 i1 w) : sCall Tryd.prog 76 [t0, i1] w K := sCall_code mixed Tryd.func76 (by kernel_rfl) rfl rfl tree_Tree_At.ok tree_Tree_At.eq h

abbrev tree_Tree_At.n : Nat := 76

/-- '(*strings.Builder).copyCheck' -/
def strings_Builder_copyCheck (K : K1) (b0 : Value) (w : World) : Prop :=
  sNil b0 w fun x3 w =>
  sFldA Tryd.prog 92 x3 0 w fun x4 w =>
  sLoad Tryd.prog 89 x4 w fun x5 w =>
  sBin Tryd.prog .eql 89 false true x5 (.pointer none) w fun x6 w =>
  sIf x6 (
    sConv Tryd.prog 89 149 b0 w fun x9 w =>
    sCall Tryd.prog 93 [x9] w fun x10 w =>
    sConv Tryd.prog 149 89 x10 w fun x11 w =>
    sNil b0 w fun x12 w =>
    sFldA Tryd.prog 92 x12 0 w fun x13 w =>
    sStore Tryd.prog 89 x13 x11 w fun w =>
    K (.tuple #[]) w) (
    sNil b0 w fun x15 w =>
    sFldA Tryd.prog 92 x15 0 w fun x16 w =>
    sLoad Tryd.prog 89 x16 w fun x17 w =>
    sBin Tryd.prog .neq 89 false false x17 b0 w fun x19 w =>
    sIf x19 (
      False) (
      K (.tuple #[]) w))

def strings_Builder_copyCheck.sc : SC := (.seq (.reg (.op 0 (.op 1 (.op 2 (.op 3 (.op 4 .done)))))) (.cond (.reg (.op 0 (.op 1 (.op 2 (.op 3 (.op 4 (.op 5 (.op 6 (.op 7 .done))))))))) (.seq (.reg (.op 0 (.op 1 (.op 2 (.op 3 (.op 4 (.op 5 .done))))))) (.cond .nop .nop))))

theorem strings_Builder_copyCheck.ok : okC Tryd.f77.ntmps strings_Builder_copyCheck.sc (bodyOf Tryd.f77) = true := by kernel_rfl

theorem strings_Builder_copyCheck.eq {K : K1} {b0 : Value} {w : World} : strings_Builder_copyCheck K b0 w = codeS Tryd.prog strings_Builder_copyCheck.sc (bodyOf Tryd.f77) (argsF 0 [b0]) w (retQ Tryd.prog Tryd.f77.results.toList K) := by kernel_rfl

theorem strings_Builder_copyCheck.call {K : K1} {b0 : Value} {w : World} (h : strings_Builder_copyCheck K b0 w) : sCall Tryd.prog 77 [b0] w K := sCall_code mixed Tryd.func77 (by kernel_rfl) rfl rfl strings_Builder_copyCheck.ok strings_Builder_copyCheck.eq h

abbrev strings_Builder_copyCheck.n : Nat := 77

end S
end Go.Proofs.YtjolodlmnffkeaaDoor

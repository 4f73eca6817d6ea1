/- The functions of this seat, their code without slots, and that a call of each is what its code says: by program (lift.py). No conditions. -/
import Derived.Test.YtglbidiciapcmaaDoorRs4
import Derived.Test.YtglbidiciapcmaaDoorRows
import Derived.KernelRfl
namespace Go.Proofs.YtglbidiciapcmaaDoor
open Go Go.Lift
namespace S
set_option maxRecDepth 10000
set_option linter.unusedVariables false
theorem mixed : Tryd.prog.follows .mixedOrders = true := by kernel_rfl
abbrev T.int64 : Nat := 2
theorem tcell_int64 : cellQ Tryd.prog 2 = true := by kernel_rfl
theorem tsz_int64 : szQ Tryd.prog 2 = 1 := by kernel_rfl
theorem tby_int64 : byQ Tryd.prog 2 = 8 := by kernel_rfl
theorem tze_int64 : zeroQ Tryd.prog 2 = some [(.int .i64 0)] := by kernel_rfl
abbrev T.int : Nat := 3
theorem tcell_int : cellQ Tryd.prog 3 = true := by kernel_rfl
theorem tsz_int : szQ Tryd.prog 3 = 1 := by kernel_rfl
theorem tby_int : byQ Tryd.prog 3 = 8 := by kernel_rfl
theorem tze_int : zeroQ Tryd.prog 3 = some [(.int .i64 0)] := by kernel_rfl
abbrev T.bool : Nat := 4
theorem tcell_bool : cellQ Tryd.prog 4 = true := by kernel_rfl
theorem tsz_bool : szQ Tryd.prog 4 = 1 := by kernel_rfl
theorem tby_bool : byQ Tryd.prog 4 = 1 := by kernel_rfl
theorem tze_bool : zeroQ Tryd.prog 4 = some [(.bool false)] := by kernel_rfl
abbrev T.uint8 : Nat := 5
theorem tcell_uint8 : cellQ Tryd.prog 5 = true := by kernel_rfl
theorem tsz_uint8 : szQ Tryd.prog 5 = 1 := by kernel_rfl
theorem tby_uint8 : byQ Tryd.prog 5 = 1 := by kernel_rfl
theorem tze_uint8 : zeroQ Tryd.prog 5 = some [(.int .u8 0)] := by kernel_rfl
abbrev T.string : Nat := 9
theorem tcell_string : cellQ Tryd.prog 9 = true := by kernel_rfl
theorem tsz_string : szQ Tryd.prog 9 = 1 := by kernel_rfl
theorem tby_string : byQ Tryd.prog 9 = 16 := by kernel_rfl
theorem tze_string : zeroQ Tryd.prog 9 = some [(.string ⟨#[]⟩)] := by kernel_rfl
abbrev T.interface___ : Nat := 20
theorem tcell_interface___ : cellQ Tryd.prog 20 = true := by kernel_rfl
theorem tsz_interface___ : szQ Tryd.prog 20 = 1 := by kernel_rfl
theorem tby_interface___ : byQ Tryd.prog 20 = 16 := by kernel_rfl
theorem tze_interface___ : zeroQ Tryd.prog 20 = some [.nilIface] := by kernel_rfl
theorem tif_interface___ : ifcQ Tryd.prog 20 = true := by kernel_rfl
abbrev T.int32 : Nat := 21
theorem tcell_int32 : cellQ Tryd.prog 21 = true := by kernel_rfl
theorem tsz_int32 : szQ Tryd.prog 21 = 1 := by kernel_rfl
theorem tby_int32 : byQ Tryd.prog 21 = 4 := by kernel_rfl
theorem tze_int32 : zeroQ Tryd.prog 21 = some [(.int .i32 0)] := by kernel_rfl
abbrev T.api_Point : Nat := 23
theorem tagg_api_Point : aggN Tryd.prog 23 = some 2 := by kernel_rfl
theorem tsz_api_Point : szQ Tryd.prog 23 = 2 := by kernel_rfl
theorem tby_api_Point : byQ Tryd.prog 23 = 16 := by kernel_rfl
theorem tze_api_Point : zeroQ Tryd.prog 23 = some [(.int .i64 0), (.int .i64 0)] := by kernel_rfl
theorem tfl_api_Point_Row : flQ Tryd.prog 23 0 = some 0 := by kernel_rfl
theorem tfl_api_Point_Col : flQ Tryd.prog 23 1 = some 1 := by kernel_rfl
theorem tpl_api_Point : plQ Tryd.prog 23 = some [(0, 1), (1, 1)] := by kernel_rfl
theorem tfd_api_Point_Row : fdT Tryd.prog 23 0 = some (3, 0) := by kernel_rfl
theorem tfd_api_Point_Col : fdT Tryd.prog 23 1 = some (3, 1) := by kernel_rfl
abbrev T.dl_api_Point : List Nat := [3, 3]
theorem tdq_api_Point : deepQ Tryd.prog 20 23 = some T.dl_api_Point := by kernel_rfl
theorem taq_api_Point : aggQ Tryd.prog 23 = true := by kernel_rfl
theorem tgq_api_Point : Tryd.prog.eqGuardType Tryd.prog.depth 23 = false := by kernel_rfl
abbrev T.P_rope_Rope : Nat := 25
theorem tcell_P_rope_Rope : cellQ Tryd.prog 25 = true := by kernel_rfl
theorem tsz_P_rope_Rope : szQ Tryd.prog 25 = 1 := by kernel_rfl
theorem tby_P_rope_Rope : byQ Tryd.prog 25 = 8 := by kernel_rfl
theorem tze_P_rope_Rope : zeroQ Tryd.prog 25 = some [(.pointer none)] := by kernel_rfl
theorem tpt_P_rope_Rope : ptQ Tryd.prog 25 = true := by kernel_rfl
theorem tcq_P_rope_Rope : concQ Tryd.prog 25 = true := by kernel_rfl
abbrev T.api_Errno : Nat := 26
theorem tcell_api_Errno : cellQ Tryd.prog 26 = true := by kernel_rfl
theorem tsz_api_Errno : szQ Tryd.prog 26 = 1 := by kernel_rfl
theorem tby_api_Errno : byQ Tryd.prog 26 = 8 := by kernel_rfl
theorem tze_api_Errno : zeroQ Tryd.prog 26 = some [(.int .i64 0)] := by kernel_rfl
abbrev T.L_int32 : Nat := 29
theorem tcell_L_int32 : cellQ Tryd.prog 29 = true := by kernel_rfl
theorem tsz_L_int32 : szQ Tryd.prog 29 = 1 := by kernel_rfl
theorem tby_L_int32 : byQ Tryd.prog 29 = 24 := by kernel_rfl
theorem tze_L_int32 : zeroQ Tryd.prog 29 = some [(.slice none 0 0)] := by kernel_rfl
theorem tel_L_int32 : elQ Tryd.prog 29 = some 21 := by kernel_rfl
abbrev T.api_Span : Nat := 38
theorem tagg_api_Span : aggN Tryd.prog 38 = some 2 := by kernel_rfl
theorem tsz_api_Span : szQ Tryd.prog 38 = 2 := by kernel_rfl
theorem tby_api_Span : byQ Tryd.prog 38 = 16 := by kernel_rfl
theorem tze_api_Span : zeroQ Tryd.prog 38 = some [(.int .i64 0), (.int .i64 0)] := by kernel_rfl
theorem tfl_api_Span_From : flQ Tryd.prog 38 0 = some 0 := by kernel_rfl
theorem tfl_api_Span_To : flQ Tryd.prog 38 1 = some 1 := by kernel_rfl
theorem tpl_api_Span : plQ Tryd.prog 38 = some [(0, 1), (1, 1)] := by kernel_rfl
theorem tfd_api_Span_From : fdT Tryd.prog 38 0 = some (3, 0) := by kernel_rfl
theorem tfd_api_Span_To : fdT Tryd.prog 38 1 = some (3, 1) := by kernel_rfl
abbrev T.dl_api_Span : List Nat := [3, 3]
theorem tdq_api_Span : deepQ Tryd.prog 20 38 = some T.dl_api_Span := by kernel_rfl
theorem taq_api_Span : aggQ Tryd.prog 38 = true := by kernel_rfl
theorem tgq_api_Span : Tryd.prog.eqGuardType Tryd.prog.depth 38 = false := by kernel_rfl
abbrev T.L_api_Span : Nat := 39
theorem tcell_L_api_Span : cellQ Tryd.prog 39 = true := by kernel_rfl
theorem tsz_L_api_Span : szQ Tryd.prog 39 = 1 := by kernel_rfl
theorem tby_L_api_Span : byQ Tryd.prog 39 = 24 := by kernel_rfl
theorem tze_L_api_Span : zeroQ Tryd.prog 39 = some [(.slice none 0 0)] := by kernel_rfl
theorem tel_L_api_Span : elQ Tryd.prog 39 = some 38 := by kernel_rfl
abbrev T.P_tree_Tree : Nat := 55
theorem tcell_P_tree_Tree : cellQ Tryd.prog 55 = true := by kernel_rfl
theorem tsz_P_tree_Tree : szQ Tryd.prog 55 = 1 := by kernel_rfl
theorem tby_P_tree_Tree : byQ Tryd.prog 55 = 8 := by kernel_rfl
theorem tze_P_tree_Tree : zeroQ Tryd.prog 55 = some [(.pointer none)] := by kernel_rfl
theorem tpt_P_tree_Tree : ptQ Tryd.prog 55 = true := by kernel_rfl
theorem tcq_P_tree_Tree : concQ Tryd.prog 55 = true := by kernel_rfl
abbrev T.L_item_Item : Nat := 58
theorem tcell_L_item_Item : cellQ Tryd.prog 58 = true := by kernel_rfl
theorem tsz_L_item_Item : szQ Tryd.prog 58 = 1 := by kernel_rfl
theorem tby_L_item_Item : byQ Tryd.prog 58 = 24 := by kernel_rfl
theorem tze_L_item_Item : zeroQ Tryd.prog 58 = some [(.slice none 0 0)] := by kernel_rfl
theorem tel_L_item_Item : elQ Tryd.prog 58 = some 73 := by kernel_rfl
abbrev T.rope_Rope : Nat := 61
theorem tagg_rope_Rope : aggN Tryd.prog 61 = some 1 := by kernel_rfl
theorem tsz_rope_Rope : szQ Tryd.prog 61 = 1 := by kernel_rfl
theorem tby_rope_Rope : byQ Tryd.prog 61 = 8 := by kernel_rfl
theorem tze_rope_Rope : zeroQ Tryd.prog 61 = some [(.pointer none)] := by kernel_rfl
theorem tfl_rope_Rope_t : flQ Tryd.prog 61 0 = some 0 := by kernel_rfl
theorem tpl_rope_Rope : plQ Tryd.prog 61 = some [(0, 1)] := by kernel_rfl
theorem tfd_rope_Rope_t : fdT Tryd.prog 61 0 = some (55, 0) := by kernel_rfl
abbrev T.bodkinref01_Rune : Nat := 63
theorem tagg_bodkinref01_Rune : aggN Tryd.prog 63 = some 2 := by kernel_rfl
theorem tsz_bodkinref01_Rune : szQ Tryd.prog 63 = 2 := by kernel_rfl
theorem tby_bodkinref01_Rune : byQ Tryd.prog 63 = 16 := by kernel_rfl
theorem tze_bodkinref01_Rune : zeroQ Tryd.prog 63 = some [(.int .i32 0), (.int .i64 0)] := by kernel_rfl
theorem tfl_bodkinref01_Rune_R : flQ Tryd.prog 63 0 = some 0 := by kernel_rfl
theorem tfl_bodkinref01_Rune_N : flQ Tryd.prog 63 1 = some 1 := by kernel_rfl
theorem tpl_bodkinref01_Rune : plQ Tryd.prog 63 = some [(0, 1), (1, 1)] := by kernel_rfl
theorem tfd_bodkinref01_Rune_R : fdT Tryd.prog 63 0 = some (21, 0) := by kernel_rfl
theorem tfd_bodkinref01_Rune_N : fdT Tryd.prog 63 1 = some (3, 1) := by kernel_rfl
abbrev T.dl_bodkinref01_Rune : List Nat := [21, 3]
theorem tdq_bodkinref01_Rune : deepQ Tryd.prog 20 63 = some T.dl_bodkinref01_Rune := by kernel_rfl
theorem taq_bodkinref01_Rune : aggQ Tryd.prog 63 = true := by kernel_rfl
theorem tgq_bodkinref01_Rune : Tryd.prog.eqGuardType Tryd.prog.depth 63 = false := by kernel_rfl
abbrev T.tree_node : Nat := 70
theorem tcell_tree_node : cellQ Tryd.prog 70 = true := by kernel_rfl
theorem tsz_tree_node : szQ Tryd.prog 70 = 1 := by kernel_rfl
theorem tby_tree_node : byQ Tryd.prog 70 = 16 := by kernel_rfl
theorem tze_tree_node : zeroQ Tryd.prog 70 = some [.nilIface] := by kernel_rfl
theorem tif_tree_node : ifcQ Tryd.prog 70 = true := by kernel_rfl
abbrev T.A3_int : Nat := 71
theorem tagg_A3_int : aggN Tryd.prog 71 = some 3 := by kernel_rfl
theorem tsz_A3_int : szQ Tryd.prog 71 = 3 := by kernel_rfl
theorem tby_A3_int : byQ Tryd.prog 71 = 24 := by kernel_rfl
theorem tze_A3_int : zeroQ Tryd.prog 71 = some [(.int .i64 0), (.int .i64 0), (.int .i64 0)] := by kernel_rfl
theorem tpl_A3_int : plQ Tryd.prog 71 = some [(0, 1), (1, 1), (2, 1)] := by kernel_rfl
theorem tar_A3_int : arQ Tryd.prog 71 = some (3, 3) := by kernel_rfl
abbrev T.dl_A3_int : List Nat := [3, 3, 3]
theorem tdq_A3_int : deepQ Tryd.prog 20 71 = some T.dl_A3_int := by kernel_rfl
theorem taq_A3_int : aggQ Tryd.prog 71 = true := by kernel_rfl
theorem tgq_A3_int : Tryd.prog.eqGuardType Tryd.prog.depth 71 = false := by kernel_rfl
abbrev T.item_Item : Nat := 73
theorem tagg_item_Item : aggN Tryd.prog 73 = some 7 := by kernel_rfl
theorem tsz_item_Item : szQ Tryd.prog 73 = 7 := by kernel_rfl
theorem tby_item_Item : byQ Tryd.prog 73 = 64 := by kernel_rfl
theorem tze_item_Item : zeroQ Tryd.prog 73 = some [(.int .i64 0), (.int .i64 0), (.int .i64 0), (.int .i64 0), (.int .i64 0), (.int .i64 0), (.string ⟨#[]⟩)] := by kernel_rfl
theorem tfl_item_Item_Tag : flQ Tryd.prog 73 0 = some 0 := by kernel_rfl
theorem tfl_item_Item_ID : flQ Tryd.prog 73 1 = some 1 := by kernel_rfl
theorem tfl_item_Item_D : flQ Tryd.prog 73 2 = some 2 := by kernel_rfl
theorem tfl_item_Item_Max : flQ Tryd.prog 73 3 = some 5 := by kernel_rfl
theorem tfl_item_Item_Text : flQ Tryd.prog 73 4 = some 6 := by kernel_rfl
theorem tpl_item_Item : plQ Tryd.prog 73 = some [(0, 1), (1, 1), (2, 3), (5, 1), (6, 1)] := by kernel_rfl
theorem tfd_item_Item_Tag : fdT Tryd.prog 73 0 = some (3, 0) := by kernel_rfl
theorem tfd_item_Item_ID : fdT Tryd.prog 73 1 = some (3, 1) := by kernel_rfl
theorem tfd_item_Item_D : fdT Tryd.prog 73 2 = some (71, 2) := by kernel_rfl
theorem tfd_item_Item_Max : fdT Tryd.prog 73 3 = some (3, 5) := by kernel_rfl
theorem tfd_item_Item_Text : fdT Tryd.prog 73 4 = some (9, 6) := by kernel_rfl
abbrev T.dl_item_Item : List Nat := [3, 3, 3, 3, 3, 3, 9]
theorem tdq_item_Item : deepQ Tryd.prog 20 73 = some T.dl_item_Item := by kernel_rfl
theorem taq_item_Item : aggQ Tryd.prog 73 = true := by kernel_rfl
theorem tgq_item_Item : Tryd.prog.eqGuardType Tryd.prog.depth 73 = false := by kernel_rfl
abbrev T.P_tree_leaf : Nat := 76
theorem tcell_P_tree_leaf : cellQ Tryd.prog 76 = true := by kernel_rfl
theorem tsz_P_tree_leaf : szQ Tryd.prog 76 = 1 := by kernel_rfl
theorem tby_P_tree_leaf : byQ Tryd.prog 76 = 8 := by kernel_rfl
theorem tze_P_tree_leaf : zeroQ Tryd.prog 76 = some [(.pointer none)] := by kernel_rfl
theorem tpt_P_tree_leaf : ptQ Tryd.prog 76 = true := by kernel_rfl
theorem tcq_P_tree_leaf : concQ Tryd.prog 76 = true := by kernel_rfl
abbrev T.tree_Tree : Nat := 79
theorem tagg_tree_Tree : aggN Tryd.prog 79 = some 1 := by kernel_rfl
theorem tsz_tree_Tree : szQ Tryd.prog 79 = 1 := by kernel_rfl
theorem tby_tree_Tree : byQ Tryd.prog 79 = 16 := by kernel_rfl
theorem tze_tree_Tree : zeroQ Tryd.prog 79 = some [.nilIface] := by kernel_rfl
theorem tfl_tree_Tree_root : flQ Tryd.prog 79 0 = some 0 := by kernel_rfl
theorem tpl_tree_Tree : plQ Tryd.prog 79 = some [(0, 1)] := by kernel_rfl
theorem tfd_tree_Tree_root : fdT Tryd.prog 79 0 = some (70, 0) := by kernel_rfl
abbrev T.item_Sum : Nat := 83
theorem tagg_item_Sum : aggN Tryd.prog 83 = some 6 := by kernel_rfl
theorem tsz_item_Sum : szQ Tryd.prog 83 = 6 := by kernel_rfl
theorem tby_item_Sum : byQ Tryd.prog 83 = 48 := by kernel_rfl
theorem tze_item_Sum : zeroQ Tryd.prog 83 = some [(.int .i64 0), (.int .i64 0), (.int .i64 0), (.int .i64 0), (.int .i64 0), (.int .i64 0)] := by kernel_rfl
theorem tfl_item_Sum_N : flQ Tryd.prog 83 0 = some 0 := by kernel_rfl
theorem tfl_item_Sum_D : flQ Tryd.prog 83 1 = some 1 := by kernel_rfl
theorem tfl_item_Sum_Max : flQ Tryd.prog 83 2 = some 4 := by kernel_rfl
theorem tfl_item_Sum_At : flQ Tryd.prog 83 3 = some 5 := by kernel_rfl
theorem tpl_item_Sum : plQ Tryd.prog 83 = some [(0, 1), (1, 3), (4, 1), (5, 1)] := by kernel_rfl
theorem tfd_item_Sum_N : fdT Tryd.prog 83 0 = some (3, 0) := by kernel_rfl
theorem tfd_item_Sum_D : fdT Tryd.prog 83 1 = some (71, 1) := by kernel_rfl
theorem tfd_item_Sum_Max : fdT Tryd.prog 83 2 = some (3, 4) := by kernel_rfl
theorem tfd_item_Sum_At : fdT Tryd.prog 83 3 = some (3, 5) := by kernel_rfl
abbrev T.dl_item_Sum : List Nat := [3, 3, 3, 3, 3, 3]
theorem tdq_item_Sum : deepQ Tryd.prog 20 83 = some T.dl_item_Sum := by kernel_rfl
theorem taq_item_Sum : aggQ Tryd.prog 83 = true := by kernel_rfl
theorem tgq_item_Sum : Tryd.prog.eqGuardType Tryd.prog.depth 83 = false := by kernel_rfl
abbrev T.rope_spot : Nat := 85
theorem tagg_rope_spot : aggN Tryd.prog 85 = some 14 := by kernel_rfl
theorem tsz_rope_spot : szQ Tryd.prog 85 = 14 := by kernel_rfl
theorem tby_rope_spot : byQ Tryd.prog 85 = 120 := by kernel_rfl
theorem tze_rope_spot : zeroQ Tryd.prog 85 = some [(.int .i64 0), (.int .i64 0), (.int .i64 0), (.int .i64 0), (.int .i64 0), (.int .i64 0), (.int .i64 0), (.int .i64 0), (.int .i64 0), (.int .i64 0), (.int .i64 0), (.int .i64 0), (.string ⟨#[]⟩), (.int .i64 0)] := by kernel_rfl
theorem tfl_rope_spot_before : flQ Tryd.prog 85 0 = some 0 := by kernel_rfl
theorem tfl_rope_spot_piece : flQ Tryd.prog 85 1 = some 6 := by kernel_rfl
theorem tfl_rope_spot_bytes : flQ Tryd.prog 85 2 = some 13 := by kernel_rfl
theorem tpl_rope_spot : plQ Tryd.prog 85 = some [(0, 6), (6, 7), (13, 1)] := by kernel_rfl
theorem tfd_rope_spot_before : fdT Tryd.prog 85 0 = some (83, 0) := by kernel_rfl
theorem tfd_rope_spot_piece : fdT Tryd.prog 85 1 = some (73, 6) := by kernel_rfl
theorem tfd_rope_spot_bytes : fdT Tryd.prog 85 2 = some (3, 13) := by kernel_rfl
abbrev T.dl_rope_spot : List Nat := [3, 3, 3, 3, 3, 3, 3, 3, 3, 3, 3, 3, 9, 3]
theorem tdq_rope_spot : deepQ Tryd.prog 20 85 = some T.dl_rope_spot := by kernel_rfl
theorem taq_rope_spot : aggQ Tryd.prog 85 = true := by kernel_rfl
theorem tgq_rope_spot : Tryd.prog.eqGuardType Tryd.prog.depth 85 = false := by kernel_rfl
abbrev T.P_seek_Cursor : Nat := 91
theorem tcell_P_seek_Cursor : cellQ Tryd.prog 91 = true := by kernel_rfl
theorem tsz_P_seek_Cursor : szQ Tryd.prog 91 = 1 := by kernel_rfl
theorem tby_P_seek_Cursor : byQ Tryd.prog 91 = 8 := by kernel_rfl
theorem tze_P_seek_Cursor : zeroQ Tryd.prog 91 = some [(.pointer none)] := by kernel_rfl
theorem tpt_P_seek_Cursor : ptQ Tryd.prog 91 = true := by kernel_rfl
theorem tcq_P_seek_Cursor : concQ Tryd.prog 91 = true := by kernel_rfl
abbrev T.P_strings_Builder : Nat := 94
theorem tcell_P_strings_Builder : cellQ Tryd.prog 94 = true := by kernel_rfl
theorem tsz_P_strings_Builder : szQ Tryd.prog 94 = 1 := by kernel_rfl
theorem tby_P_strings_Builder : byQ Tryd.prog 94 = 8 := by kernel_rfl
theorem tze_P_strings_Builder : zeroQ Tryd.prog 94 = some [(.pointer none)] := by kernel_rfl
theorem tpt_P_strings_Builder : ptQ Tryd.prog 94 = true := by kernel_rfl
theorem tcq_P_strings_Builder : concQ Tryd.prog 94 = true := by kernel_rfl
abbrev T.L_uint8 : Nat := 95
theorem tcell_L_uint8 : cellQ Tryd.prog 95 = true := by kernel_rfl
theorem tsz_L_uint8 : szQ Tryd.prog 95 = 1 := by kernel_rfl
theorem tby_L_uint8 : byQ Tryd.prog 95 = 24 := by kernel_rfl
theorem tze_L_uint8 : zeroQ Tryd.prog 95 = some [(.slice none 0 0)] := by kernel_rfl
theorem tel_L_uint8 : elQ Tryd.prog 95 = some 5 := by kernel_rfl
abbrev T.strings_Builder : Nat := 97
theorem tagg_strings_Builder : aggN Tryd.prog 97 = some 2 := by kernel_rfl
theorem tsz_strings_Builder : szQ Tryd.prog 97 = 2 := by kernel_rfl
theorem tby_strings_Builder : byQ Tryd.prog 97 = 32 := by kernel_rfl
theorem tze_strings_Builder : zeroQ Tryd.prog 97 = some [(.pointer none), (.slice none 0 0)] := by kernel_rfl
theorem tfl_strings_Builder_addr : flQ Tryd.prog 97 0 = some 0 := by kernel_rfl
theorem tfl_strings_Builder_buf : flQ Tryd.prog 97 1 = some 1 := by kernel_rfl
theorem tpl_strings_Builder : plQ Tryd.prog 97 = some [(0, 1), (1, 1)] := by kernel_rfl
theorem tfd_strings_Builder_addr : fdT Tryd.prog 97 0 = some (94, 0) := by kernel_rfl
theorem tfd_strings_Builder_buf : fdT Tryd.prog 97 1 = some (95, 1) := by kernel_rfl
abbrev T.interface___Error___string__ : Nat := 100
theorem tcell_interface___Error___string__ : cellQ Tryd.prog 100 = true := by kernel_rfl
theorem tsz_interface___Error___string__ : szQ Tryd.prog 100 = 1 := by kernel_rfl
theorem tby_interface___Error___string__ : byQ Tryd.prog 100 = 16 := by kernel_rfl
theorem tze_interface___Error___string__ : zeroQ Tryd.prog 100 = some [.nilIface] := by kernel_rfl
abbrev T.error : Nat := 101
theorem tcell_error : cellQ Tryd.prog 101 = true := by kernel_rfl
theorem tsz_error : szQ Tryd.prog 101 = 1 := by kernel_rfl
theorem tby_error : byQ Tryd.prog 101 = 16 := by kernel_rfl
theorem tze_error : zeroQ Tryd.prog 101 = some [.nilIface] := by kernel_rfl
abbrev T.L_tree_node : Nat := 106
theorem tcell_L_tree_node : cellQ Tryd.prog 106 = true := by kernel_rfl
theorem tsz_L_tree_node : szQ Tryd.prog 106 = 1 := by kernel_rfl
theorem tby_L_tree_node : byQ Tryd.prog 106 = 24 := by kernel_rfl
theorem tze_L_tree_node : zeroQ Tryd.prog 106 = some [(.slice none 0 0)] := by kernel_rfl
theorem tel_L_tree_node : elQ Tryd.prog 106 = some 70 := by kernel_rfl
abbrev T.P_tree_inner : Nat := 108
theorem tcell_P_tree_inner : cellQ Tryd.prog 108 = true := by kernel_rfl
theorem tsz_P_tree_inner : szQ Tryd.prog 108 = 1 := by kernel_rfl
theorem tby_P_tree_inner : byQ Tryd.prog 108 = 8 := by kernel_rfl
theorem tze_P_tree_inner : zeroQ Tryd.prog 108 = some [(.pointer none)] := by kernel_rfl
theorem tpt_P_tree_inner : ptQ Tryd.prog 108 = true := by kernel_rfl
theorem tcq_P_tree_inner : concQ Tryd.prog 108 = true := by kernel_rfl
abbrev T.tree_leaf : Nat := 112
theorem tagg_tree_leaf : aggN Tryd.prog 112 = some 7 := by kernel_rfl
theorem tsz_tree_leaf : szQ Tryd.prog 112 = 7 := by kernel_rfl
theorem tby_tree_leaf : byQ Tryd.prog 112 = 72 := by kernel_rfl
theorem tze_tree_leaf : zeroQ Tryd.prog 112 = some [(.slice none 0 0), (.int .i64 0), (.int .i64 0), (.int .i64 0), (.int .i64 0), (.int .i64 0), (.int .i64 0)] := by kernel_rfl
theorem tfl_tree_leaf_items : flQ Tryd.prog 112 0 = some 0 := by kernel_rfl
theorem tfl_tree_leaf_sum : flQ Tryd.prog 112 1 = some 1 := by kernel_rfl
theorem tpl_tree_leaf : plQ Tryd.prog 112 = some [(0, 1), (1, 6)] := by kernel_rfl
theorem tfd_tree_leaf_items : fdT Tryd.prog 112 0 = some (58, 0) := by kernel_rfl
theorem tfd_tree_leaf_sum : fdT Tryd.prog 112 1 = some (83, 1) := by kernel_rfl
abbrev T.tree_Place : Nat := 120
theorem tagg_tree_Place : aggN Tryd.prog 120 = some 8 := by kernel_rfl
theorem tsz_tree_Place : szQ Tryd.prog 120 = 8 := by kernel_rfl
theorem tby_tree_Place : byQ Tryd.prog 120 = 64 := by kernel_rfl
theorem tze_tree_Place : zeroQ Tryd.prog 120 = some [(.int .i64 0), (.int .i64 0), (.int .i64 0), (.int .i64 0), (.int .i64 0), (.int .i64 0), (.int .i64 0), (.int .i64 0)] := by kernel_rfl
theorem tfl_tree_Place_Index : flQ Tryd.prog 120 0 = some 0 := by kernel_rfl
theorem tfl_tree_Place_Before : flQ Tryd.prog 120 1 = some 1 := by kernel_rfl
theorem tfl_tree_Place_Visits : flQ Tryd.prog 120 2 = some 7 := by kernel_rfl
theorem tpl_tree_Place : plQ Tryd.prog 120 = some [(0, 1), (1, 6), (7, 1)] := by kernel_rfl
theorem tfd_tree_Place_Index : fdT Tryd.prog 120 0 = some (3, 0) := by kernel_rfl
theorem tfd_tree_Place_Before : fdT Tryd.prog 120 1 = some (83, 1) := by kernel_rfl
theorem tfd_tree_Place_Visits : fdT Tryd.prog 120 2 = some (3, 7) := by kernel_rfl
abbrev T.dl_tree_Place : List Nat := [3, 3, 3, 3, 3, 3, 3, 3]
theorem tdq_tree_Place : deepQ Tryd.prog 20 120 = some T.dl_tree_Place := by kernel_rfl
theorem taq_tree_Place : aggQ Tryd.prog 120 = true := by kernel_rfl
theorem tgq_tree_Place : Tryd.prog.eqGuardType Tryd.prog.depth 120 = false := by kernel_rfl
abbrev T.seek_Cursor : Nat := 122
theorem tagg_seek_Cursor : aggN Tryd.prog 122 = some 9 := by kernel_rfl
theorem tsz_seek_Cursor : szQ Tryd.prog 122 = 9 := by kernel_rfl
theorem tby_seek_Cursor : byQ Tryd.prog 122 = 72 := by kernel_rfl
theorem tze_seek_Cursor : zeroQ Tryd.prog 122 = some [(.pointer none), (.int .i64 0), (.int .i64 0), (.int .i64 0), (.int .i64 0), (.int .i64 0), (.int .i64 0), (.int .i64 0), (.int .i64 0)] := by kernel_rfl
theorem tfl_seek_Cursor_t : flQ Tryd.prog 122 0 = some 0 := by kernel_rfl
theorem tfl_seek_Cursor_at : flQ Tryd.prog 122 1 = some 1 := by kernel_rfl
theorem tpl_seek_Cursor : plQ Tryd.prog 122 = some [(0, 1), (1, 8)] := by kernel_rfl
theorem tfd_seek_Cursor_t : fdT Tryd.prog 122 0 = some (55, 0) := by kernel_rfl
theorem tfd_seek_Cursor_at : fdT Tryd.prog 122 1 = some (120, 1) := by kernel_rfl
abbrev T.tree_inner : Nat := 128
theorem tagg_tree_inner : aggN Tryd.prog 128 = some 8 := by kernel_rfl
theorem tsz_tree_inner : szQ Tryd.prog 128 = 8 := by kernel_rfl
theorem tby_tree_inner : byQ Tryd.prog 128 = 80 := by kernel_rfl
theorem tze_tree_inner : zeroQ Tryd.prog 128 = some [(.slice none 0 0), (.int .i64 0), (.int .i64 0), (.int .i64 0), (.int .i64 0), (.int .i64 0), (.int .i64 0), (.int .i64 0)] := by kernel_rfl
theorem tfl_tree_inner_kids : flQ Tryd.prog 128 0 = some 0 := by kernel_rfl
theorem tfl_tree_inner_height : flQ Tryd.prog 128 1 = some 1 := by kernel_rfl
theorem tfl_tree_inner_sum : flQ Tryd.prog 128 2 = some 2 := by kernel_rfl
theorem tpl_tree_inner : plQ Tryd.prog 128 = some [(0, 1), (1, 1), (2, 6)] := by kernel_rfl
theorem tfd_tree_inner_kids : fdT Tryd.prog 128 0 = some (106, 0) := by kernel_rfl
theorem tfd_tree_inner_height : fdT Tryd.prog 128 1 = some (3, 1) := by kernel_rfl
theorem tfd_tree_inner_sum : fdT Tryd.prog 128 2 = some (83, 2) := by kernel_rfl
abbrev T.A4_int32 : Nat := 141
theorem tagg_A4_int32 : aggN Tryd.prog 141 = some 4 := by kernel_rfl
theorem tsz_A4_int32 : szQ Tryd.prog 141 = 4 := by kernel_rfl
theorem tby_A4_int32 : byQ Tryd.prog 141 = 16 := by kernel_rfl
theorem tze_A4_int32 : zeroQ Tryd.prog 141 = some [(.int .i32 0), (.int .i32 0), (.int .i32 0), (.int .i32 0)] := by kernel_rfl
theorem tpl_A4_int32 : plQ Tryd.prog 141 = some [(0, 1), (1, 1), (2, 1), (3, 1)] := by kernel_rfl
theorem tar_A4_int32 : arQ Tryd.prog 141 = some (4, 21) := by kernel_rfl
abbrev T.dl_A4_int32 : List Nat := [21, 21, 21, 21]
theorem tdq_A4_int32 : deepQ Tryd.prog 20 141 = some T.dl_A4_int32 := by kernel_rfl
theorem taq_A4_int32 : aggQ Tryd.prog 141 = true := by kernel_rfl
theorem tgq_A4_int32 : Tryd.prog.eqGuardType Tryd.prog.depth 141 = false := by kernel_rfl
/-- 'bodkin bodkinlaw08.LinesPoints' -/
def bodkinlaw08_LinesPoints_J2 (K : K1) (M1 : List Value → World → Prop) (at1 q10 x24 x32 : Value) (x40 : Value) (w : World) : Prop :=
  sIf x40 (
    sBin Tryd.prog .neq 26 false true x32 (.int .i64 1) w fun x42 w =>
    sIf x42 (
      K (.bool false) w) (
      sLoad Tryd.prog 23 q10 w fun x44 w =>
      sBuild Tryd.prog 23 [] w fun x45 w =>
      sBin Tryd.prog .neq 23 false false x44 x45 w fun x46 w =>
      sIf x46 (
        K (.bool false) w) (
        M1 [] w))) (
    DrawS w fun C w =>
    stillS C w (fun w k => sBin Tryd.prog .neq 26 false true x32 (.int .i64 0) w k) fun x49 =>
    sIf x49 (
      K (.bool false) w) (
      stillS C w (fun w k => sLoad Tryd.prog 23 q10 w k) fun x51 =>
      sCall Tryd.prog 12 [x24, at1] w fun x54 w => C w ∧
      stillS C w (fun w k => sBin Tryd.prog .neq 23 false false x51 x54 w k) fun x55 =>
      sIf x55 (
        K (.bool false) w) (
        M1 [] w)))

def bodkinlaw08_LinesPoints_J1 (K : K1) (p5 x21 x24 : Value) (w : World) : Prop :=
  sLoad Tryd.prog 23 p5 w fun x59 w =>
  sCall Tryd.prog 13 [x21, x59] w fun x60 w =>
  sExtract x60 0 w fun x61 w =>
  sExtract x60 1 w fun x62 w =>
  sLoad Tryd.prog 23 p5 w fun x64 w =>
  sCall Tryd.prog 14 [x24, x64] w fun x65 w =>
  sUn Tryd.prog .not x65 w fun x66 w =>
  sIf x66 (
    sBin Tryd.prog .eql 26 false true x62 (.int .i64 1) w fun x68 w =>
    sIf x68 (
      sBin Tryd.prog .eql 3 false true x61 (.int .i64 0) w fun x71 w =>
      sIf x71 (
        sCall Tryd.prog 8 [] w fun x74 w =>
        K x74 w) (
        K (.bool false) w)) (
      K (.bool false) w)) (
    DrawS w fun C w =>
    stillS C w (fun w k => sBin Tryd.prog .eql 26 false true x62 (.int .i64 0) w k) fun x77 =>
    sIf x77 (
      stillS C w (fun w k => sFldA Tryd.prog 23 p5 0 w k) fun x82 =>
      stillS C w (fun w k => sLoad Tryd.prog 3 x82 w k) fun x83 =>
      stillS C w (fun w k => sFldA Tryd.prog 23 p5 1 w k) fun x87 =>
      stillS C w (fun w k => sLoad Tryd.prog 3 x87 w k) fun x88 =>
      sCall Tryd.prog 15 [x24] w fun x81 w =>
        SubS C w fun C =>
      stillS C w (fun w k => sIdxA Tryd.prog 39 x81 x83 w k) fun x84 =>
      stillS C w (fun w k => sFldA Tryd.prog 38 x84 0 w k) fun x85 =>
      stillS C w (fun w k => sLoad Tryd.prog 3 x85 w k) fun x86 =>
      stillS C w (fun w k => sBin Tryd.prog .add 3 false false x86 x88 w k) fun x89 =>
      stillS C w (fun w k => sBin Tryd.prog .eql 3 false false x61 x89 w k) fun x90 =>
      sIf x90 (
        sCall Tryd.prog 8 [] w fun x93 w => C w ∧
        K x93 w) (
        K (.bool false) w)) (
      K (.bool false) w))

def bodkinlaw08_LinesPoints (K : K1) (s0 at1 p2 : Value) (w : World) : Prop :=
  sBox Tryd.prog 23 p2 w fun p5 w =>
  sBuiltin Tryd.prog .len [9] 3 [s0] w fun x15 w =>
  sBin Tryd.prog .gtr 3 false true x15 (.int .i64 1500) w fun x16 w =>
  sIf x16 (
    sCall Tryd.prog 8 [] w fun x17 w =>
    K x17 w) (
    sCall Tryd.prog 9 [s0] w fun x20 w =>
    sExtract x20 0 w fun x21 w =>
    sExtract x20 1 w fun x22 w =>
    sCall Tryd.prog 10 [s0] w fun x24 w =>
    sBin Tryd.prog .neq 26 false true x22 (.int .i64 0) w fun x26 w =>
    sIf x26 (
      K (.bool false) w) (
      sCall Tryd.prog 11 [x21, at1] w fun x30 w =>
      sExtract x30 0 w fun x31 w =>
      sExtract x30 1 w fun x32 w =>
      sAlloc Tryd.prog 23 w fun q10 w =>
      sStore Tryd.prog 23 q10 x31 w fun w =>
      JoinS 0 25 (fun M1 =>
        JoinS 1 7 (fun M2 =>
          sBin Tryd.prog .lss 3 false true at1 (.int .i64 0) w fun x34 w =>
          sIf x34 (
            M2 [(.bool true)] w) (
            sBuiltin Tryd.prog .len [29] 3 [x24] w fun x38 w =>
            sBin Tryd.prog .gtr 3 false false at1 x38 w fun x39 w =>
            M2 [x39] w)) fun us _ w =>
          bodkinlaw08_LinesPoints_J2 K M1 at1 q10 x24 x32 (hd us) w) fun us _ w =>
        bodkinlaw08_LinesPoints_J1 K p5 x21 x24 w))

def bodkinlaw08_LinesPoints.sc : SC := (.seq (.reg (.op 0 (.op 1 .done))) (.seq (.seq (.reg (.op 0 (.op 1 (.op 2 .done)))) (.cond (.seq (.reg (.op 0 (.op 1 .done))) .nop) .nop)) (.seq (.reg (.op 0 (.op 1 (.op 2 (.op 3 (.op 4 (.op 5 (.op 6 .done)))))))) (.seq (.reg (.op 0 (.op 1 (.op 2 .done)))) (.seq (.seq (.reg (.op 0 (.op 1 .done))) (.cond (.seq (.reg (.op 0 .done)) .nop) .nop)) (.seq (.reg (.op 0 (.op 1 (.op 2 (.op 3 (.op 4 (.op 5 (.op 6 (.op 7 (.op 8 .done)))))))))) (.join [] [33, 34, 35, 36, 37, 38, 39, 40, 41, 42, 43, 44, 45, 46, 47, 6, 48, 49, 50, 51, 52, 53, 54, 55, 56] (.join [40] [33, 34, 35, 36, 37, 38, 39] (.reg (.op 0 (.op 1 (.op 2 (.test 2 (.skip 3 (.skip 4 (.skip 5 (.skip 6 (.op 7 .done))))) (.op 3 (.op 4 (.op 5 (.op 6 (.op 7 .done)))))))))) (.cond (.seq (.reg (.op 0 (.op 1 (.op 2 (.test 2 (.skip 3 (.skip 4 (.skip 5 (.op 6 .done)))) (.op 3 (.op 4 (.op 5 (.op 6 .done))))))))) (.cond (.seq (.reg (.op 0 .done)) .nop) .nop)) (.seq (.draw (.op 0 (.op 1 (.op 2 (.test 2 (.skip 3 (.skip 4 (.skip 5 (.skip 6 (.skip 7 (.op 8 .done)))))) (.op 3 (.op 4 (.op 5 (.op 6 (.op 7 (.op 8 .done))))))))))) (.cond (.seq (.reg (.op 0 .done)) .nop) .nop)))) (.seq (.reg (.op 0 (.op 1 (.op 2 (.op 3 (.op 4 (.op 5 (.op 6 (.op 7 .done))))))))) (.seq (.seq (.reg (.op 0 (.op 1 (.op 2 (.op 3 .done))))) (.cond (.seq (.reg (.op 0 (.op 1 (.op 2 (.test 2 (.op 3 (.op 4 (.op 5 (.op 6 (.test 6 (.op 7 (.op 8 (.op 9 .done))) (.skip 7 (.op 8 (.op 9 .done)))))))) (.skip 3 (.skip 4 (.op 5 (.op 6 (.know 6 false (.skip 7 (.op 8 (.op 9 .done))))))))))))) .nop) .nop)) (.seq (.draw (.op 0 (.op 1 (.op 2 (.test 2 (.op 3 (.op 4 (.op 6 (.op 7 (.op 11 (.op 12 (.opc 5 (.op 8 (.op 9 (.op 10 (.op 13 (.op 14 (.op 15 (.op 16 (.test 16 (.op 17 (.op 18 (.op 19 .done))) (.skip 17 (.op 18 (.op 19 .done)))))))))))))))))) (.skip 3 (.skip 4 (.skip 5 (.skip 6 (.skip 7 (.skip 8 (.skip 9 (.skip 10 (.skip 11 (.skip 12 (.skip 13 (.skip 14 (.op 15 (.op 16 (.know 16 false (.skip 17 (.op 18 (.op 19 .done))))))))))))))))))))))) .nop))))))))))

theorem bodkinlaw08_LinesPoints.ok : okC Tryd.f3.ntmps bodkinlaw08_LinesPoints.sc (bodyOf Tryd.f3) = true := by kernel_rfl

theorem bodkinlaw08_LinesPoints.eq {K : K1} {s0 at1 p2 : Value} {w : World} : bodkinlaw08_LinesPoints K s0 at1 p2 w = codeS Tryd.prog bodkinlaw08_LinesPoints.sc (bodyOf Tryd.f3) (argsF 0 [s0, at1, p2]) w (retQ Tryd.prog Tryd.f3.results.toList K) := by kernel_rfl

theorem bodkinlaw08_LinesPoints.call {K : K1} {s0 at1 p2 : Value} {w : World} (h : bodkinlaw08_LinesPoints K s0 at1 p2 w) : sCall Tryd.prog 3 [s0, at1, p2] w K := sCall_code mixed Tryd.func3 (by kernel_rfl) rfl rfl bodkinlaw08_LinesPoints.ok bodkinlaw08_LinesPoints.eq h

abbrev bodkinlaw08_LinesPoints.n : Nat := 3

/-- 'bodkin bodkinlaw08.LinesThere' -/
def bodkinlaw08_LinesThere_J2 (Nx1 : List Value → World → Prop) (at6 : Value) (w : World) : Prop :=
  sBin Tryd.prog .add 3 false true at6 (.int .i64 1) w fun x28 w =>
  Nx1 [x28] w

def bodkinlaw08_LinesThere_L1 (K : K1) (Nx1 : List Value → World → Prop) (last5 x18 : Value) (at6 : Value) (w : World) : Prop :=
  sCall Tryd.prog 16 [x18] w fun x25 w =>
  sBin Tryd.prog .leq 3 false false at6 x25 w fun x26 w =>
  sIf x26 (
    JoinS 0 50 (fun M2 =>
      sCall Tryd.prog 11 [x18, at6] w fun x32 w =>
      sExtract x32 0 w fun x33 w =>
      sExtract x32 1 w fun x34 w =>
      sAlloc Tryd.prog 23 w fun p7 w =>
      sStore Tryd.prog 23 p7 x33 w fun w =>
      sLoad Tryd.prog 23 p7 w fun x37 w =>
      sCall Tryd.prog 13 [x18, x37] w fun x38 w =>
      sExtract x38 0 w fun x39 w =>
      sExtract x38 1 w fun x40 w =>
      sBin Tryd.prog .neq 26 false true x34 (.int .i64 0) w fun x42 w =>
      sIf x42 (
        K (.bool false) w) (
        sBin Tryd.prog .neq 26 false true x40 (.int .i64 0) w fun x45 w =>
        sIf x45 (
          K (.bool false) w) (
          sBin Tryd.prog .neq 3 false false x39 at6 w fun x50 w =>
          sIf x50 (
            K (.bool false) w) (
            sFldA Tryd.prog 23 p7 0 w fun x53 w =>
            sLoad Tryd.prog 3 x53 w fun x54 w =>
            sFldA Tryd.prog 23 last5 0 w fun x55 w =>
            sLoad Tryd.prog 3 x55 w fun x56 w =>
            sBin Tryd.prog .lss 3 false false x54 x56 w fun x57 w =>
            sIf x57 (
              K (.bool false) w) (
              sFldA Tryd.prog 23 p7 0 w fun x60 w =>
              sLoad Tryd.prog 3 x60 w fun x61 w =>
              sFldA Tryd.prog 23 last5 0 w fun x62 w =>
              sLoad Tryd.prog 3 x62 w fun x63 w =>
              sBin Tryd.prog .eql 3 false false x61 x63 w fun x64 w =>
              sIf x64 (
                sFldA Tryd.prog 23 p7 1 w fun x66 w =>
                sLoad Tryd.prog 3 x66 w fun x67 w =>
                sFldA Tryd.prog 23 last5 1 w fun x68 w =>
                sLoad Tryd.prog 3 x68 w fun x69 w =>
                sBin Tryd.prog .leq 3 false false x67 x69 w fun x70 w =>
                sIf x70 (
                  K (.bool false) w) (
                  sLoad Tryd.prog 23 p7 w fun x73 w =>
                  sStore Tryd.prog 23 last5 x73 w fun w =>
                  M2 [] w)) (
                sLoad Tryd.prog 23 p7 w fun x73_1 w =>
                sStore Tryd.prog 23 last5 x73_1 w fun w =>
                M2 [] w)))))) fun us _ w =>
      bodkinlaw08_LinesThere_J2 Nx1 at6 w) (
    DrawS w fun C w =>
    stillS C w (fun w k => sFldA Tryd.prog 23 last5 0 w k) fun x74 =>
    stillS C w (fun w k => sLoad Tryd.prog 3 x74 w k) fun x75 =>
    sCall Tryd.prog 17 [x18] w fun x77 w => C w ∧
    stillS C w (fun w k => sBin Tryd.prog .sub 3 false true x77 (.int .i64 1) w k) fun x78 =>
    stillS C w (fun w k => sBin Tryd.prog .eql 3 false false x75 x78 w k) fun x79 =>
    sIf x79 (
      sCall Tryd.prog 8 [] w fun x81 w => C w ∧
      K x81 w) (
      K (.bool false) w))

def bodkinlaw08_LinesThere (K : K1) (s0 : Value) (w : World) : Prop :=
  sBuiltin Tryd.prog .len [9] 3 [s0] w fun x12 w =>
  sBin Tryd.prog .gtr 3 false true x12 (.int .i64 400) w fun x13 w =>
  sIf x13 (
    sCall Tryd.prog 8 [] w fun x14 w =>
    K x14 w) (
    sCall Tryd.prog 9 [s0] w fun x17 w =>
    sExtract x17 0 w fun x18 w =>
    sExtract x17 1 w fun x19 w =>
    sBin Tryd.prog .neq 26 false true x19 (.int .i64 0) w fun x21 w =>
    sIf x21 (
      K (.bool false) w) (
      sBuild Tryd.prog 23 [(1, (.int .i64 (-1)))] w fun x22 w =>
      sAlloc Tryd.prog 23 w fun last5 w =>
      sStore Tryd.prog 23 last5 x22 w fun w =>
      LoopS [(.int .i64 0)] 1 56 w fun us _ w Nx1 =>
        bodkinlaw08_LinesThere_L1 K Nx1 last5 x18 (hd us) w))

def bodkinlaw08_LinesThere.sc : SC := (.seq (.reg (.op 0 .done)) (.seq (.seq (.reg (.op 0 (.op 1 (.op 2 .done)))) (.cond (.seq (.reg (.op 0 (.op 1 .done))) .nop) .nop)) (.seq (.reg (.op 0 (.op 1 (.op 2 (.op 3 (.op 4 (.op 5 (.op 6 .done)))))))) (.seq (.seq (.reg (.op 0 (.op 1 .done))) (.cond (.seq (.reg (.op 0 .done)) .nop) .nop)) (.seq (.reg (.op 0 (.op 1 (.op 2 .done)))) (.seq (.seq (.reg (.op 0 .done)) (.sub (.loop [6] [23, 24, 25, 26, 30, 31, 32, 29, 33, 34, 7, 8, 36, 37, 38, 35, 39, 40, 9, 10, 41, 42, 43, 44, 45, 46, 47, 48, 49, 50, 51, 52, 53, 54, 55, 56, 57, 58, 59, 60, 61, 62, 63, 64, 65, 66, 67, 68, 69, 70, 71, 72, 2, 73, 27, 28] (.seq (.seq (.reg (.op 0 (.op 1 (.op 2 (.op 3 .done))))) (.cond .nop .nop)) (.join [] [30, 31, 32, 29, 33, 34, 7, 8, 36, 37, 38, 35, 39, 40, 9, 10, 41, 42, 43, 44, 45, 46, 47, 48, 49, 50, 51, 52, 53, 54, 55, 56, 57, 58, 59, 60, 61, 62, 63, 64, 65, 66, 67, 68, 69, 70, 71, 72, 2, 73] (.sub (.seq (.reg (.op 0 (.op 1 (.op 2 (.op 3 (.op 4 (.op 5 (.op 6 (.op 7 (.op 8 .done)))))))))) (.seq (.reg (.op 0 (.op 1 (.op 2 (.op 3 (.op 4 (.op 5 (.op 6 (.op 7 .done))))))))) (.seq (.seq (.reg (.op 0 (.op 1 (.op 2 (.test 2 (.skip 3 (.skip 4 (.op 5 (.op 6 (.know 6 true (.skip 7 (.skip 8 (.skip 9 (.op 10 (.op 11 (.know 11 true (.skip 12 (.skip 13 (.skip 14 (.skip 15 (.skip 16 (.op 17 (.op 18 (.know 18 true (.skip 19 (.skip 20 (.skip 21 (.skip 22 (.skip 23 (.skip 24 (.skip 25 (.skip 26 (.skip 27 (.skip 28 (.skip 29 (.skip 30 (.op 31 .done)))))))))))))))))))))))))))))))) (.op 3 (.op 4 (.op 5 (.op 6 (.test 6 (.skip 7 (.skip 8 (.skip 9 (.op 10 (.op 11 (.know 11 true (.skip 12 (.skip 13 (.skip 14 (.skip 15 (.skip 16 (.op 17 (.op 18 (.know 18 true (.skip 19 (.skip 20 (.skip 21 (.skip 22 (.skip 23 (.skip 24 (.skip 25 (.skip 26 (.skip 27 (.skip 28 (.skip 29 (.skip 30 (.op 31 .done))))))))))))))))))))))))))) (.op 7 (.op 8 (.op 9 (.op 10 (.op 11 (.test 11 (.skip 12 (.skip 13 (.skip 14 (.skip 15 (.skip 16 (.op 17 (.op 18 (.know 18 true (.skip 19 (.skip 20 (.skip 21 (.skip 22 (.skip 23 (.skip 24 (.skip 25 (.skip 26 (.skip 27 (.skip 28 (.skip 29 (.skip 30 (.op 31 .done))))))))))))))))))))) (.op 12 (.op 13 (.op 14 (.op 15 (.op 16 (.op 17 (.op 18 (.test 18 (.skip 19 (.skip 20 (.skip 21 (.skip 22 (.skip 23 (.skip 24 (.skip 25 (.skip 26 (.skip 27 (.skip 28 (.skip 29 (.skip 30 (.op 31 .done))))))))))))) (.op 19 (.op 20 (.op 21 (.op 22 (.op 23 (.op 24 (.test 24 (.op 25 (.op 26 (.op 27 (.op 28 (.op 29 (.op 30 (.op 31 .done))))))) (.skip 25 (.skip 26 (.skip 27 (.skip 28 (.skip 29 (.op 30 (.op 31 .done)))))))))))))))))))))))))))))))))))))) (.cond (.seq (.reg (.op 0 .done)) .nop) .nop)) (.reg (.op 0 (.op 1 .done))))))) (.reg (.op 0 (.op 1 (.op 2 .done))))))))) (.seq (.draw (.op 0 (.op 1 (.op 2 (.op 3 (.op 4 (.op 5 (.op 6 (.test 6 (.op 7 (.op 8 (.op 9 .done))) (.skip 7 (.op 8 (.op 9 .done)))))))))))) .nop)))))))

theorem bodkinlaw08_LinesThere.ok : okC Tryd.f4.ntmps bodkinlaw08_LinesThere.sc (bodyOf Tryd.f4) = true := by kernel_rfl

theorem bodkinlaw08_LinesThere.eq {K : K1} {s0 : Value} {w : World} : bodkinlaw08_LinesThere K s0 w = codeS Tryd.prog bodkinlaw08_LinesThere.sc (bodyOf Tryd.f4) (argsF 0 [s0]) w (retQ Tryd.prog Tryd.f4.results.toList K) := by kernel_rfl

theorem bodkinlaw08_LinesThere.call {K : K1} {s0 : Value} {w : World} (h : bodkinlaw08_LinesThere K s0 w) : sCall Tryd.prog 4 [s0] w K := sCall_code mixed Tryd.func4 (by kernel_rfl) rfl rfl bodkinlaw08_LinesThere.ok bodkinlaw08_LinesThere.eq h

abbrev bodkinlaw08_LinesThere.n : Nat := 4

/-- 'bodkin bodkinlaw08.LinesClips' -/
def bodkinlaw08_LinesClips (K : K1) (s0 p1 : Value) (w : World) : Prop :=
  sBox Tryd.prog 23 p1 w fun p3 w =>
  sBuiltin Tryd.prog .len [9] 3 [s0] w fun x12 w =>
  sBin Tryd.prog .gtr 3 false true x12 (.int .i64 1500) w fun x13 w =>
  sIf x13 (
    sCall Tryd.prog 8 [] w fun x14 w =>
    K x14 w) (
    sCall Tryd.prog 9 [s0] w fun x17 w =>
    sExtract x17 0 w fun x18 w =>
    sExtract x17 1 w fun x19 w =>
    sCall Tryd.prog 10 [s0] w fun x21 w =>
    sLoad Tryd.prog 23 p3 w fun x23 w =>
    sCall Tryd.prog 18 [x18, x23] w fun x24 w =>
    sAlloc Tryd.prog 23 w fun q8 w =>
    sStore Tryd.prog 23 q8 x24 w fun w =>
    sLoad Tryd.prog 23 q8 w fun x27 w =>
    sCall Tryd.prog 13 [x18, x27] w fun x28 w =>
    sExtract x28 0 w fun x29 w =>
    sExtract x28 1 w fun x30 w =>
    DrawS w fun C w =>
    stillS C w (fun w k => sBin Tryd.prog .eql 26 false true x19 (.int .i64 0) w k) fun x32 =>
    sIf x32 (
      stillS C w (fun w k => sBin Tryd.prog .eql 26 false true x30 (.int .i64 0) w k) fun x35 =>
      sIf x35 (
        stillS C w (fun w k => sLoad Tryd.prog 23 q8 w k) fun x38 =>
        stillS C w (fun w k => sLoad Tryd.prog 23 p3 w k) fun x40 =>
        sCall Tryd.prog 19 [x21, x40] w fun x41 w => C w ∧
        stillS C w (fun w k => sBin Tryd.prog .eql 23 false false x38 x41 w k) fun x42 =>
        sIf x42 (
          stillS C w (fun w k => sLoad Tryd.prog 23 q8 w k) fun x46 =>
          stillS C w (fun w k => sLoad Tryd.prog 23 q8 w k) fun x48 =>
          sCall Tryd.prog 18 [x18, x46] w fun x47 w => C w ∧
          stillS C w (fun w k => sBin Tryd.prog .eql 23 false false x47 x48 w k) fun x49 =>
          sIf x49 (
            stillS C w (fun w k => sLoad Tryd.prog 23 q8 w k) fun x52 =>
            stillS C w (fun w k => sLoad Tryd.prog 23 p3 w k) fun x53 =>
            stillS C w (fun w k => sBin Tryd.prog .eql 23 false false x52 x53 w k) fun x54 =>
            stillS C w (fun w k => sLoad Tryd.prog 23 p3 w k) fun x56 =>
            sCall Tryd.prog 14 [x21, x56] w fun x57 w => C w ∧
            stillS C w (fun w k => sBin Tryd.prog .eql 4 false false x54 x57 w k) fun x58 =>
            sIf x58 (
              sCall Tryd.prog 8 [] w fun x61 w => C w ∧
              K x61 w) (
              K (.bool false) w)) (
            K (.bool false) w)) (
          K (.bool false) w)) (
        K (.bool false) w)) (
      K (.bool false) w))

def bodkinlaw08_LinesClips.sc : SC := (.seq (.reg (.op 0 (.op 1 .done))) (.seq (.seq (.reg (.op 0 (.op 1 (.op 2 .done)))) (.cond (.seq (.reg (.op 0 (.op 1 .done))) .nop) .nop)) (.seq (.reg (.op 0 (.op 1 (.op 2 (.op 3 (.op 4 (.op 5 (.op 6 .done)))))))) (.seq (.reg (.op 0 (.op 1 (.op 2 .done)))) (.seq (.reg (.op 0 (.op 1 (.op 2 (.op 3 (.op 4 .done)))))) (.seq (.reg (.op 0 (.op 1 (.op 2 (.op 3 (.op 4 (.op 5 (.op 6 (.op 7 .done))))))))) (.seq (.draw (.op 0 (.op 1 (.op 2 (.test 2 (.op 3 (.op 4 (.op 5 (.op 6 (.test 6 (.op 7 (.op 8 (.op 9 (.op 10 (.op 11 (.op 12 (.op 13 (.test 13 (.op 14 (.op 15 (.op 17 (.op 16 (.op 18 (.op 19 (.op 20 (.test 20 (.op 21 (.op 22 (.op 23 (.op 24 (.op 25 (.op 26 (.op 27 (.op 28 (.op 29 (.test 29 (.op 30 (.op 31 (.op 32 .done))) (.skip 30 (.op 31 (.op 32 .done))))))))))))) (.skip 21 (.skip 22 (.skip 23 (.skip 24 (.skip 25 (.skip 26 (.skip 27 (.op 28 (.op 29 (.know 29 false (.skip 30 (.op 31 (.op 32 .done))))))))))))))))))))) (.skip 14 (.skip 15 (.skip 16 (.skip 17 (.skip 18 (.op 19 (.op 20 (.know 20 false (.skip 21 (.skip 22 (.skip 23 (.skip 24 (.skip 25 (.skip 26 (.skip 27 (.op 28 (.op 29 (.know 29 false (.skip 30 (.op 31 (.op 32 .done))))))))))))))))))))))))))))) (.skip 7 (.skip 8 (.skip 9 (.skip 10 (.skip 11 (.op 12 (.op 13 (.know 13 false (.skip 14 (.skip 15 (.skip 16 (.skip 17 (.skip 18 (.op 19 (.op 20 (.know 20 false (.skip 21 (.skip 22 (.skip 23 (.skip 24 (.skip 25 (.skip 26 (.skip 27 (.op 28 (.op 29 (.know 29 false (.skip 30 (.op 31 (.op 32 .done)))))))))))))))))))))))))))))))))) (.skip 3 (.skip 4 (.op 5 (.op 6 (.know 6 false (.skip 7 (.skip 8 (.skip 9 (.skip 10 (.skip 11 (.op 12 (.op 13 (.know 13 false (.skip 14 (.skip 15 (.skip 16 (.skip 17 (.skip 18 (.op 19 (.op 20 (.know 20 false (.skip 21 (.skip 22 (.skip 23 (.skip 24 (.skip 25 (.skip 26 (.skip 27 (.op 28 (.op 29 (.know 29 false (.skip 30 (.op 31 (.op 32 .done))))))))))))))))))))))))))))))))))))))) .nop)))))))

theorem bodkinlaw08_LinesClips.ok : okC Tryd.f5.ntmps bodkinlaw08_LinesClips.sc (bodyOf Tryd.f5) = true := by kernel_rfl

theorem bodkinlaw08_LinesClips.eq {K : K1} {s0 p1 : Value} {w : World} : bodkinlaw08_LinesClips K s0 p1 w = codeS Tryd.prog bodkinlaw08_LinesClips.sc (bodyOf Tryd.f5) (argsF 0 [s0, p1]) w (retQ Tryd.prog Tryd.f5.results.toList K) := by kernel_rfl

theorem bodkinlaw08_LinesClips.call {K : K1} {s0 p1 : Value} {w : World} (h : bodkinlaw08_LinesClips K s0 p1 w) : sCall Tryd.prog 5 [s0, p1] w K := sCall_code mixed Tryd.func5 (by kernel_rfl) rfl rfl bodkinlaw08_LinesClips.ok bodkinlaw08_LinesClips.eq h

abbrev bodkinlaw08_LinesClips.n : Nat := 5

/-- 'bodkin bodkinlaw08.LinesNil' -/
def bodkinlaw08_LinesNil (K : K1) (p0 : Value) (w : World) : Prop :=
  sBox Tryd.prog 23 p0 w fun p1 w =>
  sCall Tryd.prog 20 [(.pointer none), (.int .i64 0)] w fun x10 w =>
  sExtract x10 0 w fun x11 w =>
  sExtract x10 1 w fun x12 w =>
  sAlloc Tryd.prog 38 w fun s4 w =>
  sStore Tryd.prog 38 s4 x11 w fun w =>
  sLoad Tryd.prog 23 p1 w fun x15 w =>
  sCall Tryd.prog 13 [(.pointer none), x15] w fun x16 w =>
  sExtract x16 0 w fun x17 w =>
  sExtract x16 1 w fun x18 w =>
  sCall Tryd.prog 17 [(.pointer none)] w fun x20 w =>
  sBin Tryd.prog .eql 3 false true x20 (.int .i64 1) w fun x21 w =>
  sIf x21 (
    sBin Tryd.prog .eql 26 false true x12 (.int .i64 0) w fun x24 w =>
    sIf x24 (
      sLoad Tryd.prog 38 s4 w fun x27 w =>
      sBuild Tryd.prog 38 [] w fun x28 w =>
      sBin Tryd.prog .eql 38 false false x27 x28 w fun x29 w =>
      sIf x29 (
        sBin Tryd.prog .eql 3 false true x17 (.int .i64 0) w fun x33 w =>
        sIf x33 (
          sBin Tryd.prog .eql 26 false true x18 (.int .i64 0) w fun x37 w =>
          sLoad Tryd.prog 23 p1 w fun x38 w =>
          sBuild Tryd.prog 23 [] w fun x39 w =>
          sBin Tryd.prog .eql 23 false false x38 x39 w fun x40 w =>
          sBin Tryd.prog .eql 4 false false x37 x40 w fun x41 w =>
          sIf x41 (
            sLoad Tryd.prog 23 p1 w fun x45 w =>
            sCall Tryd.prog 18 [(.pointer none), x45] w fun x46 w =>
            sBuild Tryd.prog 23 [] w fun x47 w =>
            sBin Tryd.prog .eql 23 false false x46 x47 w fun x48 w =>
            sIf x48 (
              sCall Tryd.prog 8 [] w fun x51 w =>
              K x51 w) (
              K (.bool false) w)) (
            K (.bool false) w)) (
          K (.bool false) w)) (
        K (.bool false) w)) (
      K (.bool false) w)) (
    K (.bool false) w)

def bodkinlaw08_LinesNil.sc : SC := (.seq (.reg (.op 0 (.op 1 .done))) (.seq (.reg (.op 0 .done)) (.seq (.reg (.op 0 (.op 1 (.op 2 (.op 3 (.op 4 (.op 5 (.op 6 (.op 7 .done))))))))) (.seq (.reg (.op 0 (.op 1 (.op 2 (.op 3 (.op 4 (.op 5 (.op 6 (.op 7 .done))))))))) (.seq (.reg (.op 0 (.op 1 (.op 2 (.op 3 (.test 3 (.op 4 (.op 5 (.op 6 (.op 7 (.test 7 (.op 8 (.op 9 (.op 10 (.op 11 (.op 12 (.test 12 (.op 13 (.op 14 (.op 15 (.op 16 (.test 16 (.op 17 (.op 18 (.op 19 (.op 20 (.op 21 (.op 22 (.op 23 (.op 24 (.test 24 (.op 25 (.op 26 (.op 27 (.op 28 (.op 29 (.op 30 (.op 31 (.test 31 (.op 32 (.op 33 (.op 34 .done))) (.skip 32 (.op 33 (.op 34 .done))))))))))) (.skip 25 (.skip 26 (.skip 27 (.skip 28 (.skip 29 (.op 30 (.op 31 (.know 31 false (.skip 32 (.op 33 (.op 34 .done)))))))))))))))))))) (.skip 17 (.skip 18 (.skip 19 (.skip 20 (.skip 21 (.skip 22 (.op 23 (.op 24 (.know 24 false (.skip 25 (.skip 26 (.skip 27 (.skip 28 (.skip 29 (.op 30 (.op 31 (.know 31 false (.skip 32 (.op 33 (.op 34 .done))))))))))))))))))))))))) (.skip 13 (.skip 14 (.op 15 (.op 16 (.know 16 false (.skip 17 (.skip 18 (.skip 19 (.skip 20 (.skip 21 (.skip 22 (.op 23 (.op 24 (.know 24 false (.skip 25 (.skip 26 (.skip 27 (.skip 28 (.skip 29 (.op 30 (.op 31 (.know 31 false (.skip 32 (.op 33 (.op 34 .done))))))))))))))))))))))))))))))) (.skip 8 (.skip 9 (.skip 10 (.op 11 (.op 12 (.know 12 false (.skip 13 (.skip 14 (.op 15 (.op 16 (.know 16 false (.skip 17 (.skip 18 (.skip 19 (.skip 20 (.skip 21 (.skip 22 (.op 23 (.op 24 (.know 24 false (.skip 25 (.skip 26 (.skip 27 (.skip 28 (.skip 29 (.op 30 (.op 31 (.know 31 false (.skip 32 (.op 33 (.op 34 .done)))))))))))))))))))))))))))))))))))) (.skip 4 (.skip 5 (.op 6 (.op 7 (.know 7 false (.skip 8 (.skip 9 (.skip 10 (.op 11 (.op 12 (.know 12 false (.skip 13 (.skip 14 (.op 15 (.op 16 (.know 16 false (.skip 17 (.skip 18 (.skip 19 (.skip 20 (.skip 21 (.skip 22 (.op 23 (.op 24 (.know 24 false (.skip 25 (.skip 26 (.skip 27 (.skip 28 (.skip 29 (.op 30 (.op 31 (.know 31 false (.skip 32 (.op 33 (.op 34 .done)))))))))))))))))))))))))))))))))))))))))) .nop)))))

theorem bodkinlaw08_LinesNil.ok : okC Tryd.f6.ntmps bodkinlaw08_LinesNil.sc (bodyOf Tryd.f6) = true := by kernel_rfl

theorem bodkinlaw08_LinesNil.eq {K : K1} {p0 : Value} {w : World} : bodkinlaw08_LinesNil K p0 w = codeS Tryd.prog bodkinlaw08_LinesNil.sc (bodyOf Tryd.f6) (argsF 0 [p0]) w (retQ Tryd.prog Tryd.f6.results.toList K) := by kernel_rfl

theorem bodkinlaw08_LinesNil.call {K : K1} {p0 : Value} {w : World} (h : bodkinlaw08_LinesNil K p0 w) : sCall Tryd.prog 6 [p0] w K := sCall_code mixed Tryd.func6 (by kernel_rfl) rfl rfl bodkinlaw08_LinesNil.ok bodkinlaw08_LinesNil.eq h

abbrev bodkinlaw08_LinesNil.n : Nat := 6

/-- 'bodkin bodkinlaw08.LinesSpans' -/
def bodkinlaw08_LinesSpans_J1 (K : K1) (row1 x23 x25 x31 x36 x37 x9 : Value) (x54 : Value) (w : World) : Prop :=
  sIf x54 (
    sBin Tryd.prog .eql 26 false true x31 (.int .i64 1) w fun x56 w =>
    sIf x56 (
      sBin Tryd.prog .eql 26 false true x37 (.int .i64 1) w fun x59 w =>
      sIf x59 (
        sLoad Tryd.prog 38 x9 w fun x62 w =>
        sBuild Tryd.prog 38 [] w fun x63 w =>
        sBin Tryd.prog .eql 38 false false x62 x63 w fun x64 w =>
        sIf x64 (
          sBin Tryd.prog .eql 9 false true x36 (.string ⟨#[]⟩) w fun x68 w =>
          sIf x68 (
            sCall Tryd.prog 8 [] w fun x71 w =>
            K x71 w) (
            K (.bool false) w)) (
          K (.bool false) w)) (
        K (.bool false) w)) (
      K (.bool false) w)) (
    DrawS w fun C w =>
    stillS C w (fun w k => sBin Tryd.prog .eql 26 false true x31 (.int .i64 0) w k) fun x74 =>
    sIf x74 (
      stillS C w (fun w k => sBin Tryd.prog .eql 26 false true x37 (.int .i64 0) w k) fun x77 =>
      sIf x77 (
        stillS C w (fun w k => sLoad Tryd.prog 38 x9 w k) fun x80 =>
        stillS C w (fun w k => sIdxA Tryd.prog 39 x25 row1 w k) fun x83 =>
        stillS C w (fun w k => sLoad Tryd.prog 38 x83 w k) fun x84 =>
        stillS C w (fun w k => sBin Tryd.prog .eql 38 false false x80 x84 w k) fun x85 =>
        sIf x85 (
          stillS C w (fun w k => sFldA Tryd.prog 38 x9 0 w k) fun x90 =>
          stillS C w (fun w k => sLoad Tryd.prog 3 x90 w k) fun x91 =>
          stillS C w (fun w k => sFldA Tryd.prog 38 x9 1 w k) fun x92 =>
          stillS C w (fun w k => sLoad Tryd.prog 3 x92 w k) fun x93 =>
          stillS C w (fun w k => sSlice Tryd.prog 29 x23 (some x91) (some x93) none w k) fun x94 =>
          sCall Tryd.prog 22 [x94] w fun x95 w => C w ∧
          stillS C w (fun w k => sBin Tryd.prog .eql 9 false false x36 x95 w k) fun x96 =>
          sIf x96 (
            sCall Tryd.prog 8 [] w fun x99 w => C w ∧
            K x99 w) (
            K (.bool false) w)) (
          K (.bool false) w)) (
        K (.bool false) w)) (
      K (.bool false) w))

def bodkinlaw08_LinesSpans (K : K1) (s0 row1 : Value) (w : World) : Prop :=
  sBuiltin Tryd.prog .len [9] 3 [s0] w fun x14 w =>
  sBin Tryd.prog .gtr 3 false true x14 (.int .i64 1500) w fun x15 w =>
  sIf x15 (
    sCall Tryd.prog 8 [] w fun x16 w =>
    K x16 w) (
    sCall Tryd.prog 9 [s0] w fun x19 w =>
    sExtract x19 0 w fun x20 w =>
    sExtract x19 1 w fun x21 w =>
    sCall Tryd.prog 10 [s0] w fun x23 w =>
    sCall Tryd.prog 15 [x23] w fun x25 w =>
    sCall Tryd.prog 20 [x20, row1] w fun x29 w =>
    sExtract x29 0 w fun x30 w =>
    sExtract x29 1 w fun x31 w =>
    sAlloc Tryd.prog 38 w fun x9 w =>
    sStore Tryd.prog 38 x9 x30 w fun w =>
    sCall Tryd.prog 21 [x20, row1] w fun x35 w =>
    sExtract x35 0 w fun x36 w =>
    sExtract x35 1 w fun x37 w =>
    sBin Tryd.prog .neq 26 false true x21 (.int .i64 0) w fun x39 w =>
    sIf x39 (
      K (.bool false) w) (
      sCall Tryd.prog 17 [x20] w fun x42 w =>
      sBuiltin Tryd.prog .len [39] 3 [x25] w fun x44 w =>
      sBin Tryd.prog .neq 3 false false x42 x44 w fun x45 w =>
      sIf x45 (
        K (.bool false) w) (
        JoinS 1 7 (fun M1 =>
          sBin Tryd.prog .lss 3 false true row1 (.int .i64 0) w fun x48 w =>
          sIf x48 (
            M1 [(.bool true)] w) (
            sBuiltin Tryd.prog .len [39] 3 [x25] w fun x52 w =>
            sBin Tryd.prog .geq 3 false false row1 x52 w fun x53 w =>
            M1 [x53] w)) fun us _ w =>
          bodkinlaw08_LinesSpans_J1 K row1 x23 x25 x31 x36 x37 x9 (hd us) w)))

def bodkinlaw08_LinesSpans.sc : SC := (.seq (.reg (.op 0 .done)) (.seq (.seq (.reg (.op 0 (.op 1 (.op 2 .done)))) (.cond (.seq (.reg (.op 0 (.op 1 .done))) .nop) .nop)) (.seq (.reg (.op 0 (.op 1 (.op 2 (.op 3 (.op 4 (.op 5 (.op 6 .done)))))))) (.seq (.reg (.op 0 (.op 1 (.op 2 .done)))) (.seq (.reg (.op 0 (.op 1 (.op 2 .done)))) (.seq (.reg (.op 0 (.op 1 (.op 2 (.op 3 (.op 4 (.op 5 (.op 6 (.op 7 (.op 8 .done)))))))))) (.seq (.reg (.op 0 (.op 1 (.op 2 (.op 3 (.op 4 (.op 5 (.op 6 (.op 7 .done))))))))) (.seq (.seq (.reg (.op 0 (.op 1 (.op 2 (.test 2 (.skip 3 (.skip 4 (.skip 5 (.skip 6 (.skip 7 (.op 8 .done)))))) (.op 3 (.op 4 (.op 5 (.op 6 (.op 7 (.op 8 .done))))))))))) (.cond (.seq (.reg (.op 0 .done)) .nop) .nop)) (.seq (.join [54] [47, 48, 49, 50, 51, 52, 53] (.reg (.op 0 (.op 1 (.op 2 (.test 2 (.skip 3 (.skip 4 (.skip 5 (.skip 6 (.op 7 .done))))) (.op 3 (.op 4 (.op 5 (.op 6 (.op 7 .done)))))))))) (.cond (.seq (.reg (.op 0 (.op 1 (.op 2 (.test 2 (.op 3 (.op 4 (.op 5 (.op 6 (.test 6 (.op 7 (.op 8 (.op 9 (.op 10 (.op 11 (.test 11 (.op 12 (.op 13 (.op 14 (.op 15 (.test 15 (.op 16 (.op 17 (.op 18 .done))) (.skip 16 (.op 17 (.op 18 .done)))))))) (.skip 12 (.skip 13 (.op 14 (.op 15 (.know 15 false (.skip 16 (.op 17 (.op 18 .done)))))))))))))) (.skip 7 (.skip 8 (.skip 9 (.op 10 (.op 11 (.know 11 false (.skip 12 (.skip 13 (.op 14 (.op 15 (.know 15 false (.skip 16 (.op 17 (.op 18 .done))))))))))))))))))) (.skip 3 (.skip 4 (.op 5 (.op 6 (.know 6 false (.skip 7 (.skip 8 (.skip 9 (.op 10 (.op 11 (.know 11 false (.skip 12 (.skip 13 (.op 14 (.op 15 (.know 15 false (.skip 16 (.op 17 (.op 18 .done)))))))))))))))))))))))) .nop) .nop)) (.seq (.draw (.op 0 (.op 1 (.op 2 (.test 2 (.op 3 (.op 4 (.op 5 (.op 6 (.test 6 (.op 7 (.op 8 (.op 9 (.op 10 (.op 11 (.op 12 (.op 13 (.op 14 (.test 14 (.op 15 (.op 16 (.op 17 (.op 18 (.op 19 (.op 20 (.op 21 (.op 22 (.op 23 (.op 24 (.op 25 (.test 25 (.op 26 (.op 27 (.op 28 .done))) (.skip 26 (.op 27 (.op 28 .done))))))))))))))) (.skip 15 (.skip 16 (.skip 17 (.skip 18 (.skip 19 (.skip 20 (.skip 21 (.skip 22 (.skip 23 (.op 24 (.op 25 (.know 25 false (.skip 26 (.op 27 (.op 28 .done)))))))))))))))))))))))) (.skip 7 (.skip 8 (.skip 9 (.skip 10 (.skip 11 (.skip 12 (.op 13 (.op 14 (.know 14 false (.skip 15 (.skip 16 (.skip 17 (.skip 18 (.skip 19 (.skip 20 (.skip 21 (.skip 22 (.skip 23 (.op 24 (.op 25 (.know 25 false (.skip 26 (.op 27 (.op 28 .done))))))))))))))))))))))))))))) (.skip 3 (.skip 4 (.op 5 (.op 6 (.know 6 false (.skip 7 (.skip 8 (.skip 9 (.skip 10 (.skip 11 (.skip 12 (.op 13 (.op 14 (.know 14 false (.skip 15 (.skip 16 (.skip 17 (.skip 18 (.skip 19 (.skip 20 (.skip 21 (.skip 22 (.skip 23 (.op 24 (.op 25 (.know 25 false (.skip 26 (.op 27 (.op 28 .done)))))))))))))))))))))))))))))))))) .nop))))))))))

theorem bodkinlaw08_LinesSpans.ok : okC Tryd.f7.ntmps bodkinlaw08_LinesSpans.sc (bodyOf Tryd.f7) = true := by kernel_rfl

theorem bodkinlaw08_LinesSpans.eq {K : K1} {s0 row1 : Value} {w : World} : bodkinlaw08_LinesSpans K s0 row1 w = codeS Tryd.prog bodkinlaw08_LinesSpans.sc (bodyOf Tryd.f7) (argsF 0 [s0, row1]) w (retQ Tryd.prog Tryd.f7.results.toList K) := by kernel_rfl

theorem bodkinlaw08_LinesSpans.call {K : K1} {s0 row1 : Value} {w : World} (h : bodkinlaw08_LinesSpans K s0 row1 w) : sCall Tryd.prog 7 [s0, row1] w K := sCall_code mixed Tryd.func7 (by kernel_rfl) rfl rfl bodkinlaw08_LinesSpans.ok bodkinlaw08_LinesSpans.eq h

abbrev bodkinlaw08_LinesSpans.n : Nat := 7

/-- 'bodkin bodkinlaw08.two' -/
def bodkinlaw08_two (K : K1) (w : World) : Prop :=
  sCall Tryd.prog 9 [(.string ⟨#[97, 98, 10, 99]⟩)] w fun x6 w =>
  sExtract x6 0 w fun x7 w =>
  sExtract x6 1 w fun x8 w =>
  sBuild Tryd.prog 23 [(0, (.int .i64 1)), (1, (.int .i64 1))] w fun x11 w =>
  sCall Tryd.prog 13 [x7, x11] w fun x12 w =>
  sExtract x12 0 w fun x13 w =>
  sExtract x12 1 w fun x14 w =>
  sBin Tryd.prog .eql 26 false true x8 (.int .i64 0) w fun x16 w =>
  sIf x16 (
    sBin Tryd.prog .eql 26 false true x14 (.int .i64 0) w fun x19 w =>
    sIf x19 (
      sBin Tryd.prog .eql 3 false true x13 (.int .i64 4) w fun x23 w =>
      sIf x23 (
        sBuild Tryd.prog 23 [(1, (.int .i64 9))] w fun x27 w =>
        sCall Tryd.prog 18 [x7, x27] w fun x28 w =>
        sBuild Tryd.prog 23 [(1, (.int .i64 2))] w fun x29 w =>
        sBin Tryd.prog .eql 23 false false x28 x29 w fun x30 w =>
        sIf x30 (
          sCall Tryd.prog 17 [x7] w fun x34 w =>
          sBin Tryd.prog .eql 3 false true x34 (.int .i64 2) w fun x35 w =>
          K x35 w) (
          K (.bool false) w)) (
        K (.bool false) w)) (
      K (.bool false) w)) (
    K (.bool false) w)

def bodkinlaw08_two.sc : SC := (.seq (.reg (.op 0 .done)) (.seq (.reg (.op 0 (.op 1 (.op 2 (.op 3 (.op 4 (.op 5 .done))))))) (.seq (.reg (.op 0 (.op 1 (.op 2 (.op 3 (.op 4 (.op 5 (.op 6 (.op 7 .done))))))))) (.seq (.reg (.op 0 (.op 1 (.op 2 (.test 2 (.op 3 (.op 4 (.op 5 (.op 6 (.test 6 (.op 7 (.op 8 (.op 9 (.op 10 (.test 10 (.op 11 (.op 12 (.op 13 (.op 14 (.op 15 (.op 16 (.op 17 (.test 17 (.op 18 (.op 19 (.op 20 (.op 21 (.op 22 .done))))) (.skip 18 (.skip 19 (.skip 20 (.op 21 (.op 22 .done))))))))))))) (.skip 11 (.skip 12 (.skip 13 (.skip 14 (.skip 15 (.op 16 (.op 17 (.know 17 false (.skip 18 (.skip 19 (.skip 20 (.op 21 (.op 22 .done)))))))))))))))))) (.skip 7 (.skip 8 (.op 9 (.op 10 (.know 10 false (.skip 11 (.skip 12 (.skip 13 (.skip 14 (.skip 15 (.op 16 (.op 17 (.know 17 false (.skip 18 (.skip 19 (.skip 20 (.op 21 (.op 22 .done))))))))))))))))))))))) (.skip 3 (.skip 4 (.op 5 (.op 6 (.know 6 false (.skip 7 (.skip 8 (.op 9 (.op 10 (.know 10 false (.skip 11 (.skip 12 (.skip 13 (.skip 14 (.skip 15 (.op 16 (.op 17 (.know 17 false (.skip 18 (.skip 19 (.skip 20 (.op 21 (.op 22 .done)))))))))))))))))))))))))))) .nop))))

theorem bodkinlaw08_two.ok : okC Tryd.f8.ntmps bodkinlaw08_two.sc (bodyOf Tryd.f8) = true := by kernel_rfl

theorem bodkinlaw08_two.eq {K : K1} {w : World} : bodkinlaw08_two K  w = codeS Tryd.prog bodkinlaw08_two.sc (bodyOf Tryd.f8) (argsF 0 []) w (retQ Tryd.prog Tryd.f8.results.toList K) := by kernel_rfl

theorem bodkinlaw08_two.call {K : K1} {w : World} (h : bodkinlaw08_two K  w) : sCall Tryd.prog 8 [] w K := sCall_code mixed Tryd.func8 (by kernel_rfl) rfl rfl bodkinlaw08_two.ok bodkinlaw08_two.eq h

abbrev bodkinlaw08_two.n : Nat := 8

/-- 'bodkin rope.New' -/
def rope_New (K : K1) (s0 : Value) (w : World) : Prop :=
  sCall Tryd.prog 23 [s0] w fun x8 w =>
  sBuiltin Tryd.prog .len [29] 3 [x8] w fun x10 w =>
  sBin Tryd.prog .gtr 3 false true x10 (.int .i64 20000) w fun x11 w =>
  sIf x11 (
    K (.tuple #[(.pointer none), (.int .i64 5)]) w) (
    sCall Tryd.prog 25 [x8] w fun x14 w =>
    sCall Tryd.prog 24 [x14] w fun x15 w =>
    sExtract x15 0 w fun x16 w =>
    sExtract x15 1 w fun x17 w =>
    sBin Tryd.prog .neq 26 false true x17 (.int .i64 0) w fun x19 w =>
    sIf x19 (
      K (.tuple #[(.pointer none), x17]) w) (
      sBuild Tryd.prog 61 [(0, x16)] w fun x22 w =>
      sBox Tryd.prog 61 x22 w fun x23 w =>
      K (.tuple #[x23, (.int .i64 0)]) w))

def rope_New.sc : SC := (.seq (.reg (.op 0 (.op 1 .done))) (.seq (.reg (.op 0 (.op 1 (.op 2 .done)))) (.seq (.seq (.reg (.op 0 (.op 1 (.op 2 .done)))) (.cond (.seq (.reg (.op 0 (.op 1 .done))) .nop) .nop)) (.seq (.reg (.op 0 (.op 1 (.op 2 (.op 3 (.op 4 (.op 5 (.op 6 (.op 7 .done))))))))) (.seq (.seq (.reg (.op 0 (.op 1 .done))) (.cond (.seq (.reg (.op 0 (.op 1 (.op 2 .done)))) .nop) .nop)) (.seq (.reg (.op 0 (.op 1 (.op 2 (.op 3 (.op 4 .done)))))) .nop))))))

theorem rope_New.ok : okC Tryd.f9.ntmps rope_New.sc (bodyOf Tryd.f9) = true := by kernel_rfl

theorem rope_New.eq {K : K1} {s0 : Value} {w : World} : rope_New K s0 w = codeS Tryd.prog rope_New.sc (bodyOf Tryd.f9) (argsF 0 [s0]) w (retQ Tryd.prog Tryd.f9.results.toList K) := by kernel_rfl

theorem rope_New.call {K : K1} {s0 : Value} {w : World} (h : rope_New K s0 w) : sCall Tryd.prog 9 [s0] w K := sCall_code mixed Tryd.func9 (by kernel_rfl) rfl rfl rope_New.ok rope_New.eq h

abbrev rope_New.n : Nat := 9

/-- 'bodkin bodkinref01.Decode' -/
def bodkinref01_Decode_L1 (K : K1) (Nx1 : List Value → World → Prop) (s0 : Value) (out3 at4 : Value) (w : World) : Prop :=
  sBuiltin Tryd.prog .len [9] 3 [s0] w fun x8 w =>
  sBin Tryd.prog .lss 3 false false at4 x8 w fun x9 w =>
  sIf x9 (
    sCall Tryd.prog 26 [s0, at4] w fun x12 w =>
    sAlloc Tryd.prog 63 w fun x5 w =>
    sStore Tryd.prog 63 x5 x12 w fun w =>
    sFldA Tryd.prog 63 x5 0 w fun x14 w =>
    sLoad Tryd.prog 21 x14 w fun x15 w =>
    sBuildSlice Tryd.prog 29 1 [(0, x15)] w fun x16 w =>
    sBuiltin Tryd.prog .append [29, 29] 29 [out3, x16] w fun x17 w =>
    sFldA Tryd.prog 63 x5 1 w fun x19 w =>
    sLoad Tryd.prog 3 x19 w fun x20 w =>
    sBin Tryd.prog .add 3 false false at4 x20 w fun x21 w =>
    Nx1 [x17, x21] w) (
    K out3 w)

def bodkinref01_Decode (K : K1) (s0 : Value) (w : World) : Prop :=
  LoopS [(.slice none 0 0), (.int .i64 0)] 2 17 w fun us _ w Nx1 =>
    bodkinref01_Decode_L1 K Nx1 s0 (hd us) (hd (tl us)) w

def bodkinref01_Decode.sc : SC := (.seq (.reg (.op 0 .done)) (.seq (.reg (.op 0 .done)) (.seq (.reg (.op 0 .done)) (.seq (.sub (.loop [3, 4] [6, 7, 8, 9, 10, 11, 12, 5, 13, 14, 15, 16, 17, 18, 19, 20, 21] (.seq (.seq (.reg (.op 0 (.op 1 (.op 2 (.op 3 .done))))) (.cond .nop .nop)) (.sub (.seq (.reg (.op 0 (.op 1 (.op 2 (.op 3 (.op 4 .done)))))) (.seq (.reg (.op 0 (.op 1 (.op 2 (.op 3 (.op 4 (.op 5 .done))))))) (.reg (.op 0 (.op 1 (.op 2 (.op 3 (.op 4 .done)))))))))))) (.seq (.reg (.op 0 (.op 1 .done))) .nop)))))

theorem bodkinref01_Decode.ok : okC Tryd.f10.ntmps bodkinref01_Decode.sc (bodyOf Tryd.f10) = true := by kernel_rfl

theorem bodkinref01_Decode.eq {K : K1} {s0 : Value} {w : World} : bodkinref01_Decode K s0 w = codeS Tryd.prog bodkinref01_Decode.sc (bodyOf Tryd.f10) (argsF 0 [s0]) w (retQ Tryd.prog Tryd.f10.results.toList K) := by kernel_rfl

theorem bodkinref01_Decode.call {K : K1} {s0 : Value} {w : World} (h : bodkinref01_Decode K s0 w) : sCall Tryd.prog 10 [s0] w K := sCall_code mixed Tryd.func10 (by kernel_rfl) rfl rfl bodkinref01_Decode.ok bodkinref01_Decode.eq h

abbrev bodkinref01_Decode.n : Nat := 10

/-- 'bodkin lines.PointAt' -/
def lines_PointAt (K : K1) (r0 at1 : Value) (w : World) : Prop :=
  sAlloc Tryd.prog 23 w fun x4 w =>
  sCall Tryd.prog 27 [r0, at1] w fun x12 w =>
  sExtract x12 0 w fun x13 w =>
  sExtract x12 1 w fun x14 w =>
  sBin Tryd.prog .neq 26 false true x14 (.int .i64 0) w fun x16 w =>
  sIf x16 (
    sBuild Tryd.prog 23 [] w fun x17 w =>
    sStore Tryd.prog 23 x4 x17 w fun w =>
    sLoad Tryd.prog 23 x4 w fun v w' => w' = w ∧ K (.tuple #[v, x14]) w) (
    sCall Tryd.prog 20 [r0, x13] w fun x22 w =>
    sExtract x22 0 w fun x23 w =>
    sExtract x22 1 w fun x24 w =>
    sAlloc Tryd.prog 38 w fun s8 w =>
    sStore Tryd.prog 38 s8 x23 w fun w =>
    sFldA Tryd.prog 38 s8 0 w fun x27 w =>
    sLoad Tryd.prog 3 x27 w fun x28 w =>
    sBin Tryd.prog .sub 3 false false at1 x28 w fun x29 w =>
    sBuild Tryd.prog 23 [(0, x13), (1, x29)] w fun x30 w =>
    sStore Tryd.prog 23 x4 x30 w fun w =>
    sLoad Tryd.prog 23 x4 w fun v w' => w' = w ∧ K (.tuple #[v, x24]) w)

def lines_PointAt.sc : SC := (.seq (.reg (.op 0 (.op 1 .done))) (.seq (.reg (.op 0 (.op 1 (.op 2 (.op 3 (.op 4 (.op 5 (.op 6 (.op 7 .done))))))))) (.seq (.seq (.reg (.op 0 (.op 1 .done))) (.cond (.seq (.reg (.op 0 (.op 1 (.op 2 (.op 3 .done))))) .nop) .nop)) (.seq (.reg (.op 0 (.op 1 (.op 2 (.op 3 (.op 4 (.op 5 (.op 6 (.op 7 (.op 8 .done)))))))))) (.seq (.reg (.op 0 (.op 1 (.op 2 (.op 3 (.op 4 (.op 5 (.op 6 (.op 7 (.op 8 .done)))))))))) .nop)))))

theorem lines_PointAt.ok : okC Tryd.f11.ntmps lines_PointAt.sc (bodyOf Tryd.f11) = true := by kernel_rfl

theorem lines_PointAt.eq {K : K1} {r0 at1 : Value} {w : World} : lines_PointAt K r0 at1 w = codeS Tryd.prog lines_PointAt.sc (bodyOf Tryd.f11) (argsF 0 [r0, at1]) w (retQ Tryd.prog Tryd.f11.results.toList K) := by kernel_rfl

theorem lines_PointAt.call {K : K1} {r0 at1 : Value} {w : World} (h : lines_PointAt K r0 at1 w) : sCall Tryd.prog 11 [r0, at1] w K := sCall_code mixed Tryd.func11 (by kernel_rfl) rfl rfl lines_PointAt.ok lines_PointAt.eq h

abbrev lines_PointAt.n : Nat := 11

/-- 'bodkin bodkinref08.PointAt' -/
def bodkinref08_PointAt_L1 (K : K1) (Nx1 : List Value → World → Prop) (p5 x11 x12 x4 : Value) (x13 : Value) (w : World) : Prop :=
  sBin Tryd.prog .lss 3 false false x13 x12 w fun x14 w =>
  sIf x14 (
    sIdxA Tryd.prog 29 x11 x13 w fun x15 w =>
    sLoad Tryd.prog 21 x15 w fun x16 w =>
    sBin Tryd.prog .eql 21 false true x16 (.int .i32 10) w fun x18 w =>
    sIf x18 (
      sFldA Tryd.prog 23 p5 0 w fun x19 w =>
      sLoad Tryd.prog 3 x19 w fun x20 w =>
      sBin Tryd.prog .add 3 false true x20 (.int .i64 1) w fun x21 w =>
      sBuild Tryd.prog 23 [(0, x21)] w fun x22 w =>
      sStore Tryd.prog 23 p5 x22 w fun w =>
      sBin Tryd.prog .add 3 false true x13 (.int .i64 1) w fun x27 w =>
      Nx1 [x27] w) (
      sFldA Tryd.prog 23 p5 1 w fun x23 w =>
      sLoad Tryd.prog 3 x23 w fun x24 w =>
      sBin Tryd.prog .add 3 false true x24 (.int .i64 1) w fun x25 w =>
      sFldA Tryd.prog 23 p5 1 w fun x26 w =>
      sStore Tryd.prog 3 x26 x25 w fun w =>
      sBin Tryd.prog .add 3 false true x13 (.int .i64 1) w fun x27_1 w =>
      Nx1 [x27_1] w)) (
    sLoad Tryd.prog 23 p5 w fun x28 w =>
    sStore Tryd.prog 23 x4 x28 w fun w =>
    sLoad Tryd.prog 23 x4 w fun v w' => w' = w ∧ K v w)

def bodkinref08_PointAt (K : K1) (l0 at1 : Value) (w : World) : Prop :=
  sAlloc Tryd.prog 23 w fun x4 w =>
  sBuild Tryd.prog 23 [] w fun x8 w =>
  sAlloc Tryd.prog 23 w fun p5 w =>
  sStore Tryd.prog 23 p5 x8 w fun w =>
  sSlice Tryd.prog 29 l0 none (some at1) none w fun x11 w =>
  sBuiltin Tryd.prog .len [29] 3 [x11] w fun x12 w =>
  LoopS [(.int .i64 0)] 1 15 w fun us _ w Nx1 =>
    bodkinref08_PointAt_L1 K Nx1 p5 x11 x12 x4 (hd us) w

def bodkinref08_PointAt.sc : SC := (.seq (.reg (.op 0 .done)) (.seq (.reg (.op 0 (.op 1 (.op 2 .done)))) (.seq (.seq (.reg (.op 0 (.op 1 (.op 2 (.op 3 (.op 4 .done)))))) (.sub (.loop [13] [14, 15, 16, 7, 17, 18, 19, 20, 21, 22, 23, 24, 25, 26, 27] (.seq (.reg (.op 0 .done)) (.seq (.cond .nop .nop) (.seq (.sub (.seq (.reg (.op 0 (.op 1 (.op 2 .done)))) (.seq (.reg (.op 0 (.op 1 .done))) (.cond (.reg (.op 0 (.op 1 (.op 2 (.op 3 (.op 4 .done)))))) (.reg (.op 0 (.op 1 (.op 2 (.op 3 (.op 4 .done)))))))))) (.reg (.op 0 (.op 1 .done))))))))) (.seq (.reg (.op 0 (.op 1 .done))) .nop))))

theorem bodkinref08_PointAt.ok : okC Tryd.f12.ntmps bodkinref08_PointAt.sc (bodyOf Tryd.f12) = true := by kernel_rfl

theorem bodkinref08_PointAt.eq {K : K1} {l0 at1 : Value} {w : World} : bodkinref08_PointAt K l0 at1 w = codeS Tryd.prog bodkinref08_PointAt.sc (bodyOf Tryd.f12) (argsF 0 [l0, at1]) w (retQ Tryd.prog Tryd.f12.results.toList K) := by kernel_rfl

theorem bodkinref08_PointAt.call {K : K1} {l0 at1 : Value} {w : World} (h : bodkinref08_PointAt K l0 at1 w) : sCall Tryd.prog 12 [l0, at1] w K := sCall_code mixed Tryd.func12 (by kernel_rfl) rfl rfl bodkinref08_PointAt.ok bodkinref08_PointAt.eq h

abbrev bodkinref08_PointAt.n : Nat := 12

/-- 'bodkin lines.PlaceAt' -/
def lines_PlaceAt (K : K1) (r0 p1 : Value) (w : World) : Prop :=
  sBox Tryd.prog 23 p1 w fun p3 w =>
  sFldA Tryd.prog 23 p3 0 w fun x10 w =>
  sLoad Tryd.prog 3 x10 w fun x11 w =>
  sCall Tryd.prog 20 [r0, x11] w fun x12 w =>
  sExtract x12 0 w fun x13 w =>
  sExtract x12 1 w fun x14 w =>
  sAlloc Tryd.prog 38 w fun s6 w =>
  sStore Tryd.prog 38 s6 x13 w fun w =>
  sBin Tryd.prog .neq 26 false true x14 (.int .i64 0) w fun x16 w =>
  sIf x16 (
    K (.tuple #[(.int .i64 0), (.int .i64 1)]) w) (
    sFldA Tryd.prog 23 p3 1 w fun x18 w =>
    sLoad Tryd.prog 3 x18 w fun x19 w =>
    sBin Tryd.prog .lss 3 false true x19 (.int .i64 0) w fun x20 w =>
    sIf x20 (
      K (.tuple #[(.int .i64 0), (.int .i64 1)]) w) (
      sFldA Tryd.prog 23 p3 1 w fun x23 w =>
      sLoad Tryd.prog 3 x23 w fun x24 w =>
      sFldA Tryd.prog 38 s6 1 w fun x25 w =>
      sLoad Tryd.prog 3 x25 w fun x26 w =>
      sFldA Tryd.prog 38 s6 0 w fun x27 w =>
      sLoad Tryd.prog 3 x27 w fun x28 w =>
      sBin Tryd.prog .sub 3 false false x26 x28 w fun x29 w =>
      sBin Tryd.prog .gtr 3 false false x24 x29 w fun x30 w =>
      sIf x30 (
        K (.tuple #[(.int .i64 0), (.int .i64 1)]) w) (
        sFldA Tryd.prog 38 s6 0 w fun x32 w =>
        sLoad Tryd.prog 3 x32 w fun x33 w =>
        sFldA Tryd.prog 23 p3 1 w fun x34 w =>
        sLoad Tryd.prog 3 x34 w fun x35 w =>
        sBin Tryd.prog .add 3 false false x33 x35 w fun x36 w =>
        K (.tuple #[x36, (.int .i64 0)]) w)))

def lines_PlaceAt.sc : SC := (.seq (.reg (.op 0 (.op 1 (.op 2 .done)))) (.seq (.reg (.op 0 (.op 1 (.op 2 (.op 3 (.op 4 (.op 5 (.op 6 (.op 7 (.op 8 (.op 9 .done))))))))))) (.seq (.seq (.reg (.op 0 (.op 1 (.op 2 (.test 2 (.skip 3 (.skip 4 (.skip 5 (.op 6 (.op 7 (.know 7 true (.skip 8 (.skip 9 (.skip 10 (.skip 11 (.skip 12 (.skip 13 (.skip 14 (.skip 15 (.op 16 .done))))))))))))))) (.op 3 (.op 4 (.op 5 (.op 6 (.op 7 (.test 7 (.skip 8 (.skip 9 (.skip 10 (.skip 11 (.skip 12 (.skip 13 (.skip 14 (.skip 15 (.op 16 .done))))))))) (.op 8 (.op 9 (.op 10 (.op 11 (.op 12 (.op 13 (.op 14 (.op 15 (.op 16 .done)))))))))))))))))))) (.cond (.seq (.reg (.op 0 (.op 1 .done))) .nop) .nop)) (.seq (.reg (.op 0 (.op 1 (.op 2 (.op 3 (.op 4 (.op 5 (.op 6 .done)))))))) .nop))))

theorem lines_PlaceAt.ok : okC Tryd.f13.ntmps lines_PlaceAt.sc (bodyOf Tryd.f13) = true := by kernel_rfl

theorem lines_PlaceAt.eq {K : K1} {r0 p1 : Value} {w : World} : lines_PlaceAt K r0 p1 w = codeS Tryd.prog lines_PlaceAt.sc (bodyOf Tryd.f13) (argsF 0 [r0, p1]) w (retQ Tryd.prog Tryd.f13.results.toList K) := by kernel_rfl

theorem lines_PlaceAt.call {K : K1} {r0 p1 : Value} {w : World} (h : lines_PlaceAt K r0 p1 w) : sCall Tryd.prog 13 [r0, p1] w K := sCall_code mixed Tryd.func13 (by kernel_rfl) rfl rfl lines_PlaceAt.ok lines_PlaceAt.eq h

abbrev lines_PlaceAt.n : Nat := 13

/-- 'bodkin bodkinref08.Is' -/
def bodkinref08_Is (K : K1) (l0 p1 : Value) (w : World) : Prop :=
  sBox Tryd.prog 23 p1 w fun p3 w =>
  sCall Tryd.prog 15 [l0] w fun x7 w =>
  DrawS w fun C w =>
  stillS C w (fun w k => sFldA Tryd.prog 23 p3 0 w k) fun x8 =>
  stillS C w (fun w k => sLoad Tryd.prog 3 x8 w k) fun x9 =>
  stillS C w (fun w k => sBin Tryd.prog .geq 3 false true x9 (.int .i64 0) w k) fun x10 =>
  sIf x10 (
    stillS C w (fun w k => sFldA Tryd.prog 23 p3 0 w k) fun x12 =>
    stillS C w (fun w k => sLoad Tryd.prog 3 x12 w k) fun x13 =>
    stillS C w (fun w k => sBuiltin Tryd.prog .len [39] 3 [x7] w k) fun x15 =>
    stillS C w (fun w k => sBin Tryd.prog .lss 3 false false x13 x15 w k) fun x16 =>
    sIf x16 (
      stillS C w (fun w k => sFldA Tryd.prog 23 p3 1 w k) fun x19 =>
      stillS C w (fun w k => sLoad Tryd.prog 3 x19 w k) fun x20 =>
      stillS C w (fun w k => sBin Tryd.prog .geq 3 false true x20 (.int .i64 0) w k) fun x21 =>
      sIf x21 (
        stillS C w (fun w k => sFldA Tryd.prog 23 p3 1 w k) fun x24 =>
        stillS C w (fun w k => sLoad Tryd.prog 3 x24 w k) fun x25 =>
        stillS C w (fun w k => sFldA Tryd.prog 23 p3 0 w k) fun x27 =>
        stillS C w (fun w k => sLoad Tryd.prog 3 x27 w k) fun x28 =>
        stillS C w (fun w k => sIdxA Tryd.prog 39 x7 x28 w k) fun x29 =>
        stillS C w (fun w k => sFldA Tryd.prog 38 x29 1 w k) fun x30 =>
        stillS C w (fun w k => sLoad Tryd.prog 3 x30 w k) fun x31 =>
        stillS C w (fun w k => sFldA Tryd.prog 23 p3 0 w k) fun x33 =>
        stillS C w (fun w k => sLoad Tryd.prog 3 x33 w k) fun x34 =>
        stillS C w (fun w k => sIdxA Tryd.prog 39 x7 x34 w k) fun x35 =>
        stillS C w (fun w k => sFldA Tryd.prog 38 x35 0 w k) fun x36 =>
        stillS C w (fun w k => sLoad Tryd.prog 3 x36 w k) fun x37 =>
        stillS C w (fun w k => sBin Tryd.prog .sub 3 false false x31 x37 w k) fun x38 =>
        stillS C w (fun w k => sBin Tryd.prog .leq 3 false false x25 x38 w k) fun x39 =>
        K x39 w) (
        K (.bool false) w)) (
      K (.bool false) w)) (
    K (.bool false) w)

def bodkinref08_Is.sc : SC := (.seq (.reg (.op 0 (.op 1 .done))) (.seq (.reg (.op 0 (.op 1 (.op 2 .done)))) (.seq (.draw (.op 0 (.op 1 (.op 2 (.op 3 (.test 3 (.op 4 (.op 5 (.op 6 (.op 7 (.op 8 (.op 9 (.op 10 (.test 10 (.op 11 (.op 12 (.op 13 (.op 14 (.op 15 (.test 15 (.op 16 (.op 17 (.op 18 (.op 19 (.op 20 (.op 21 (.op 22 (.op 23 (.op 24 (.op 25 (.op 26 (.op 27 (.op 28 (.op 29 (.op 30 (.op 31 (.op 32 (.op 33 .done)))))))))))))))))) (.skip 16 (.skip 17 (.skip 18 (.skip 19 (.skip 20 (.skip 21 (.skip 22 (.skip 23 (.skip 24 (.skip 25 (.skip 26 (.skip 27 (.skip 28 (.skip 29 (.skip 30 (.skip 31 (.op 32 (.op 33 .done)))))))))))))))))))))))) (.skip 11 (.skip 12 (.skip 13 (.op 14 (.op 15 (.know 15 false (.skip 16 (.skip 17 (.skip 18 (.skip 19 (.skip 20 (.skip 21 (.skip 22 (.skip 23 (.skip 24 (.skip 25 (.skip 26 (.skip 27 (.skip 28 (.skip 29 (.skip 30 (.skip 31 (.op 32 (.op 33 .done)))))))))))))))))))))))))))))))) (.skip 4 (.skip 5 (.skip 6 (.skip 7 (.skip 8 (.op 9 (.op 10 (.know 10 false (.skip 11 (.skip 12 (.skip 13 (.op 14 (.op 15 (.know 15 false (.skip 16 (.skip 17 (.skip 18 (.skip 19 (.skip 20 (.skip 21 (.skip 22 (.skip 23 (.skip 24 (.skip 25 (.skip 26 (.skip 27 (.skip 28 (.skip 29 (.skip 30 (.skip 31 (.op 32 (.op 33 .done)))))))))))))))))))))))))))))))))))))) .nop)))

theorem bodkinref08_Is.ok : okC Tryd.f14.ntmps bodkinref08_Is.sc (bodyOf Tryd.f14) = true := by kernel_rfl

theorem bodkinref08_Is.eq {K : K1} {l0 p1 : Value} {w : World} : bodkinref08_Is K l0 p1 w = codeS Tryd.prog bodkinref08_Is.sc (bodyOf Tryd.f14) (argsF 0 [l0, p1]) w (retQ Tryd.prog Tryd.f14.results.toList K) := by kernel_rfl

theorem bodkinref08_Is.call {K : K1} {l0 p1 : Value} {w : World} (h : bodkinref08_Is K l0 p1 w) : sCall Tryd.prog 14 [l0, p1] w K := sCall_code mixed Tryd.func14 (by kernel_rfl) rfl rfl bodkinref08_Is.ok bodkinref08_Is.eq h

abbrev bodkinref08_Is.n : Nat := 14

/-- 'bodkin bodkinref08.Spans' -/
def bodkinref08_Spans_L1 (K : K1) (Nx1 : List Value → World → Prop) (l0 x8 : Value) (out3 from4 x9 : Value) (w : World) : Prop :=
  sBin Tryd.prog .lss 3 false false x9 x8 w fun x10 w =>
  sIf x10 (
    sIdxA Tryd.prog 29 l0 x9 w fun x12 w =>
    sLoad Tryd.prog 21 x12 w fun x13 w =>
    sBin Tryd.prog .eql 21 false true x13 (.int .i32 10) w fun x15 w =>
    sIf x15 (
      sBuild Tryd.prog 38 [(0, from4), (1, x9)] w fun x19 w =>
      sBuildSlice Tryd.prog 39 1 [(0, x19)] w fun x20 w =>
      sBuiltin Tryd.prog .append [39, 39] 39 [out3, x20] w fun x21 w =>
      sBin Tryd.prog .add 3 false true x9 (.int .i64 1) w fun x23 w =>
      sBin Tryd.prog .add 3 false true x9 (.int .i64 1) w fun x24 w =>
      Nx1 [x21, x23, x24] w) (
      sBin Tryd.prog .add 3 false true x9 (.int .i64 1) w fun x24_1 w =>
      Nx1 [out3, from4, x24_1] w)) (
    sBuiltin Tryd.prog .len [29] 3 [l0] w fun x28 w =>
    sBuild Tryd.prog 38 [(0, from4), (1, x28)] w fun x29 w =>
    sBuildSlice Tryd.prog 39 1 [(0, x29)] w fun x30 w =>
    sBuiltin Tryd.prog .append [39, 39] 39 [out3, x30] w fun x31 w =>
    K x31 w)

def bodkinref08_Spans (K : K1) (l0 : Value) (w : World) : Prop :=
  sBuiltin Tryd.prog .len [29] 3 [l0] w fun x8 w =>
  LoopS [(.slice none 0 0), (.int .i64 0), (.int .i64 0)] 3 17 w fun us _ w Nx1 =>
    bodkinref08_Spans_L1 K Nx1 l0 x8 (hd us) (hd (tl us)) (hd (tl (tl us))) w

def bodkinref08_Spans.sc : SC := (.seq (.reg (.op 0 .done)) (.seq (.reg (.op 0 .done)) (.seq (.reg (.op 0 .done)) (.seq (.seq (.reg (.op 0 (.op 1 (.op 2 .done)))) (.sub (.loop [3, 4, 9] [10, 11, 12, 13, 5, 6, 14, 15, 16, 17, 18, 19, 20, 21, 22, 23, 24] (.seq (.reg (.op 0 .done)) (.seq (.cond .nop .nop) (.seq (.sub (.seq (.reg (.op 0 (.op 1 (.op 2 (.op 3 (.op 4 .done)))))) (.seq (.reg (.op 0 (.op 1 .done))) (.cond (.seq (.reg (.op 0 (.op 1 (.op 2 (.op 3 (.op 4 (.op 5 (.op 6 .done)))))))) (.reg (.op 0 (.op 1 (.op 2 .done))))) .nop)))) (.reg (.op 0 (.op 1 .done))))))))) (.seq (.reg (.op 0 (.op 1 (.op 2 (.op 3 (.op 4 (.op 5 (.op 6 (.op 7 .done))))))))) (.seq (.reg (.op 0 (.op 1 .done))) .nop))))))

theorem bodkinref08_Spans.ok : okC Tryd.f15.ntmps bodkinref08_Spans.sc (bodyOf Tryd.f15) = true := by kernel_rfl

theorem bodkinref08_Spans.eq {K : K1} {l0 : Value} {w : World} : bodkinref08_Spans K l0 w = codeS Tryd.prog bodkinref08_Spans.sc (bodyOf Tryd.f15) (argsF 0 [l0]) w (retQ Tryd.prog Tryd.f15.results.toList K) := by kernel_rfl

theorem bodkinref08_Spans.call {K : K1} {l0 : Value} {w : World} (h : bodkinref08_Spans K l0 w) : sCall Tryd.prog 15 [l0] w K := sCall_code mixed Tryd.func15 (by kernel_rfl) rfl rfl bodkinref08_Spans.ok bodkinref08_Spans.eq h

abbrev bodkinref08_Spans.n : Nat := 15

/-- '(*bodkin rope.Rope).Runes' -/
def rope_Rope_Runes (K : K1) (r0 : Value) (w : World) : Prop :=
  sCall Tryd.prog 28 [r0, (.int .i64 1)] w fun x4 w =>
  K x4 w

def rope_Rope_Runes.sc : SC := (.seq (.reg (.op 0 .done)) (.seq (.reg (.op 0 (.op 1 (.op 2 .done)))) .nop))

theorem rope_Rope_Runes.ok : okC Tryd.f16.ntmps rope_Rope_Runes.sc (bodyOf Tryd.f16) = true := by kernel_rfl

theorem rope_Rope_Runes.eq {K : K1} {r0 : Value} {w : World} : rope_Rope_Runes K r0 w = codeS Tryd.prog rope_Rope_Runes.sc (bodyOf Tryd.f16) (argsF 0 [r0]) w (retQ Tryd.prog Tryd.f16.results.toList K) := by kernel_rfl

theorem rope_Rope_Runes.call {K : K1} {r0 : Value} {w : World} (h : rope_Rope_Runes K r0 w) : sCall Tryd.prog 16 [r0] w K := sCall_code mixed Tryd.func16 (by kernel_rfl) rfl rfl rope_Rope_Runes.ok rope_Rope_Runes.eq h

abbrev rope_Rope_Runes.n : Nat := 16

/-- 'bodkin lines.Rows' -/
def lines_Rows (K : K1) (r0 : Value) (w : World) : Prop :=
  sCall Tryd.prog 29 [r0] w fun x4 w =>
  sBin Tryd.prog .add 3 false true x4 (.int .i64 1) w fun x5 w =>
  K x5 w

def lines_Rows.sc : SC := (.seq (.reg (.op 0 .done)) (.seq (.reg (.op 0 (.op 1 (.op 2 (.op 3 .done))))) .nop))

theorem lines_Rows.ok : okC Tryd.f17.ntmps lines_Rows.sc (bodyOf Tryd.f17) = true := by kernel_rfl

theorem lines_Rows.eq {K : K1} {r0 : Value} {w : World} : lines_Rows K r0 w = codeS Tryd.prog lines_Rows.sc (bodyOf Tryd.f17) (argsF 0 [r0]) w (retQ Tryd.prog Tryd.f17.results.toList K) := by kernel_rfl

theorem lines_Rows.call {K : K1} {r0 : Value} {w : World} (h : lines_Rows K r0 w) : sCall Tryd.prog 17 [r0] w K := sCall_code mixed Tryd.func17 (by kernel_rfl) rfl rfl lines_Rows.ok lines_Rows.eq h

abbrev lines_Rows.n : Nat := 17

/-- 'bodkin lines.Clip' -/
def lines_Clip (K : K1) (r0 p1 : Value) (w : World) : Prop :=
  sBox Tryd.prog 23 p1 w fun p3 w =>
  sAlloc Tryd.prog 23 w fun x4 w =>
  sFldA Tryd.prog 23 p3 0 w fun x10 w =>
  sLoad Tryd.prog 3 x10 w fun x11 w =>
  sBin Tryd.prog .lss 3 false true x11 (.int .i64 0) w fun x12 w =>
  sIf x12 (
    sBuild Tryd.prog 23 [] w fun x13 w =>
    sStore Tryd.prog 23 x4 x13 w fun w =>
    sLoad Tryd.prog 23 x4 w fun v w' => w' = w ∧ K v w) (
    DrawS w fun C w =>
    stillS C w (fun w k => sFldA Tryd.prog 23 p3 0 w k) fun x15 =>
    stillS C w (fun w k => sLoad Tryd.prog 3 x15 w k) fun x16 =>
    sCall Tryd.prog 17 [r0] w fun x18 w => C w ∧
    stillS C w (fun w k => sBin Tryd.prog .geq 3 false false x16 x18 w k) fun x19 =>
    sIf x19 (
      sCall Tryd.prog 16 [r0] w fun x23 w =>
      sCall Tryd.prog 11 [r0, x23] w fun x24 w =>
      sExtract x24 0 w fun x25 w =>
      sExtract x24 1 w fun x26 w =>
      sAlloc Tryd.prog 23 w fun end5 w =>
      sStore Tryd.prog 23 end5 x25 w fun w =>
      sLoad Tryd.prog 23 end5 w fun x27 w =>
      sStore Tryd.prog 23 x4 x27 w fun w =>
      sLoad Tryd.prog 23 x4 w fun v w' => w' = w ∧ K v w) (
      sFldA Tryd.prog 23 p3 0 w fun x30 w =>
      sLoad Tryd.prog 3 x30 w fun x31 w =>
      sCall Tryd.prog 20 [r0, x31] w fun x32 w =>
      sExtract x32 0 w fun x33 w =>
      sExtract x32 1 w fun x34 w =>
      sAlloc Tryd.prog 38 w fun s7 w =>
      sStore Tryd.prog 38 s7 x33 w fun w =>
      sFldA Tryd.prog 23 p3 0 w fun x35 w =>
      sLoad Tryd.prog 3 x35 w fun x36 w =>
      sFldA Tryd.prog 23 p3 1 w fun x37 w =>
      sLoad Tryd.prog 3 x37 w fun x38 w =>
      sBuiltin Tryd.prog .max [3, 3] 3 [x38, (.int .i64 0)] w fun x39 w =>
      sFldA Tryd.prog 38 s7 1 w fun x40 w =>
      sLoad Tryd.prog 3 x40 w fun x41 w =>
      sFldA Tryd.prog 38 s7 0 w fun x42 w =>
      sLoad Tryd.prog 3 x42 w fun x43 w =>
      sBin Tryd.prog .sub 3 false false x41 x43 w fun x44 w =>
      sBuiltin Tryd.prog .min [3, 3] 3 [x39, x44] w fun x45 w =>
      sBuild Tryd.prog 23 [(0, x36), (1, x45)] w fun x46 w =>
      sStore Tryd.prog 23 x4 x46 w fun w =>
      sLoad Tryd.prog 23 x4 w fun v w' => w' = w ∧ K v w))

def lines_Clip.sc : SC := (.seq (.reg (.op 0 (.op 1 .done))) (.seq (.sub (.seq (.reg (.op 0 (.op 1 (.op 2 (.op 3 .done))))) (.cond (.seq (.reg (.op 0 (.op 1 .done))) .nop) (.seq (.draw (.op 0 (.op 1 (.op 2 (.op 3 (.op 4 (.op 5 .done))))))) (.cond (.seq (.reg (.op 0 (.op 1 (.op 2 (.op 3 (.op 4 (.op 5 (.op 6 (.op 7 (.op 8 (.op 9 .done))))))))))) (.seq (.reg (.op 0 (.op 1 .done))) .nop)) .nop))))) (.seq (.reg (.op 0 (.op 1 (.op 2 (.op 3 (.op 4 (.op 5 (.op 6 (.op 7 (.op 8 (.op 9 .done))))))))))) (.seq (.reg (.op 0 (.op 1 (.op 2 (.op 3 (.op 4 (.op 5 (.op 6 (.op 7 (.op 8 (.op 9 (.op 10 (.op 11 (.op 12 .done)))))))))))))) .nop))))

theorem lines_Clip.ok : okC Tryd.f18.ntmps lines_Clip.sc (bodyOf Tryd.f18) = true := by kernel_rfl

theorem lines_Clip.eq {K : K1} {r0 p1 : Value} {w : World} : lines_Clip K r0 p1 w = codeS Tryd.prog lines_Clip.sc (bodyOf Tryd.f18) (argsF 0 [r0, p1]) w (retQ Tryd.prog Tryd.f18.results.toList K) := by kernel_rfl

theorem lines_Clip.call {K : K1} {r0 p1 : Value} {w : World} (h : lines_Clip K r0 p1 w) : sCall Tryd.prog 18 [r0, p1] w K := sCall_code mixed Tryd.func18 (by kernel_rfl) rfl rfl lines_Clip.ok lines_Clip.eq h

abbrev lines_Clip.n : Nat := 18

/-- 'bodkin bodkinref08.Clip' -/
def bodkinref08_Clip (K : K1) (l0 p1 : Value) (w : World) : Prop :=
  sBox Tryd.prog 23 p1 w fun p3 w =>
  sAlloc Tryd.prog 23 w fun x4 w =>
  sCall Tryd.prog 15 [l0] w fun x8 w =>
  sFldA Tryd.prog 23 p3 0 w fun x9 w =>
  sLoad Tryd.prog 3 x9 w fun x10 w =>
  sBin Tryd.prog .lss 3 false true x10 (.int .i64 0) w fun x11 w =>
  sIf x11 (
    sBuild Tryd.prog 23 [] w fun x12 w =>
    sStore Tryd.prog 23 x4 x12 w fun w =>
    sLoad Tryd.prog 23 x4 w fun v w' => w' = w ∧ K v w) (
    sFldA Tryd.prog 23 p3 0 w fun x13 w =>
    sLoad Tryd.prog 3 x13 w fun x14 w =>
    sBuiltin Tryd.prog .len [39] 3 [x8] w fun x16 w =>
    sBin Tryd.prog .geq 3 false false x14 x16 w fun x17 w =>
    sIf x17 (
      sBuiltin Tryd.prog .len [29] 3 [l0] w fun x20 w =>
      sCall Tryd.prog 12 [l0, x20] w fun x21 w =>
      sStore Tryd.prog 23 x4 x21 w fun w =>
      sLoad Tryd.prog 23 x4 w fun v w' => w' = w ∧ K v w) (
      DrawS w fun C w =>
      stillS C w (fun w k => sFldA Tryd.prog 23 p3 0 w k) fun x23 =>
      stillS C w (fun w k => sLoad Tryd.prog 3 x23 w k) fun x24 =>
      stillS C w (fun w k => sIdxA Tryd.prog 39 x8 x24 w k) fun x25 =>
      stillS C w (fun w k => sFldA Tryd.prog 38 x25 1 w k) fun x26 =>
      stillS C w (fun w k => sLoad Tryd.prog 3 x26 w k) fun x27 =>
      stillS C w (fun w k => sFldA Tryd.prog 23 p3 0 w k) fun x29 =>
      stillS C w (fun w k => sLoad Tryd.prog 3 x29 w k) fun x30 =>
      stillS C w (fun w k => sIdxA Tryd.prog 39 x8 x30 w k) fun x31 =>
      stillS C w (fun w k => sFldA Tryd.prog 38 x31 0 w k) fun x32 =>
      stillS C w (fun w k => sLoad Tryd.prog 3 x32 w k) fun x33 =>
      stillS C w (fun w k => sBin Tryd.prog .sub 3 false false x27 x33 w k) fun x34 =>
      sFldA Tryd.prog 23 p3 1 w fun x35 w =>
      sLoad Tryd.prog 3 x35 w fun x36 w =>
      sBin Tryd.prog .lss 3 false true x36 (.int .i64 0) w fun x37 w =>
      sIf x37 (
        sFldA Tryd.prog 23 p3 0 w fun x38 w =>
        sLoad Tryd.prog 3 x38 w fun x39 w =>
        sBuild Tryd.prog 23 [(0, x39)] w fun x40 w =>
        sStore Tryd.prog 23 x4 x40 w fun w =>
        sLoad Tryd.prog 23 x4 w fun v w' => w' = w ∧ K v w) (
        sFldA Tryd.prog 23 p3 1 w fun x41 w =>
        sLoad Tryd.prog 3 x41 w fun x42 w =>
        sBin Tryd.prog .gtr 3 false false x42 x34 w fun x44 w =>
        sIf x44 (
          sFldA Tryd.prog 23 p3 0 w fun x45 w =>
          sLoad Tryd.prog 3 x45 w fun x46 w =>
          sBuild Tryd.prog 23 [(0, x46), (1, x34)] w fun x48 w =>
          sStore Tryd.prog 23 x4 x48 w fun w =>
          sLoad Tryd.prog 23 x4 w fun v w' => w' = w ∧ K v w) (
          sLoad Tryd.prog 23 p3 w fun x49 w =>
          sStore Tryd.prog 23 x4 x49 w fun w =>
          sLoad Tryd.prog 23 x4 w fun v w' => w' = w ∧ K v w))))

def bodkinref08_Clip.sc : SC := (.seq (.reg (.op 0 (.op 1 .done))) (.seq (.reg (.op 0 (.op 1 (.op 2 .done)))) (.seq (.seq (.reg (.op 0 (.op 1 (.op 2 .done)))) (.cond (.seq (.reg (.op 0 (.op 1 .done))) .nop) .nop)) (.seq (.seq (.reg (.op 0 (.op 1 (.op 2 (.op 3 (.op 4 .done)))))) (.cond (.seq (.reg (.op 0 (.op 1 (.op 2 (.op 3 (.op 4 .done)))))) .nop) .nop)) (.seq (.draw (.op 0 (.op 1 (.op 2 (.op 3 (.op 4 (.op 5 (.op 6 (.op 7 (.op 8 (.op 9 (.op 10 (.op 11 (.op 12 (.op 13 .done))))))))))))))) (.seq (.seq (.reg (.op 0 (.op 1 (.op 2 .done)))) (.cond (.seq (.reg (.op 0 (.op 1 (.op 2 (.op 3 .done))))) .nop) .nop)) (.seq (.seq (.reg (.op 0 (.op 1 (.op 2 (.op 3 .done))))) (.cond (.seq (.reg (.op 0 (.op 1 (.op 2 (.op 3 (.op 4 .done)))))) .nop) .nop)) (.seq (.reg (.op 0 (.op 1 .done))) .nop))))))))

theorem bodkinref08_Clip.ok : okC Tryd.f19.ntmps bodkinref08_Clip.sc (bodyOf Tryd.f19) = true := by kernel_rfl

theorem bodkinref08_Clip.eq {K : K1} {l0 p1 : Value} {w : World} : bodkinref08_Clip K l0 p1 w = codeS Tryd.prog bodkinref08_Clip.sc (bodyOf Tryd.f19) (argsF 0 [l0, p1]) w (retQ Tryd.prog Tryd.f19.results.toList K) := by kernel_rfl

theorem bodkinref08_Clip.call {K : K1} {l0 p1 : Value} {w : World} (h : bodkinref08_Clip K l0 p1 w) : sCall Tryd.prog 19 [l0, p1] w K := sCall_code mixed Tryd.func19 (by kernel_rfl) rfl rfl bodkinref08_Clip.ok bodkinref08_Clip.eq h

abbrev bodkinref08_Clip.n : Nat := 19

/-- 'bodkin lines.Span' -/
def lines_Span_J1 (K : K1) (r2 row1 x4 : Value) (x14 : Value) (w : World) : Prop :=
  sIf x14 (
    sBuild Tryd.prog 38 [] w fun x15 w =>
    sStore Tryd.prog 38 x4 x15 w fun w =>
    sLoad Tryd.prog 38 x4 w fun v w' => w' = w ∧ K (.tuple #[v, (.int .i64 1)]) w) (
    sFunc Tryd.prog (.func 30) [] [r2] w fun x16 w =>
    sLoad Tryd.prog 25 r2 w fun x18 w =>
    sCall Tryd.prog 29 [x18] w fun x19 w =>
    sBin Tryd.prog .eql 3 false false row1 x19 w fun x20 w =>
    sIf x20 (
      DrawS w fun C w =>
      stillS C w (fun w k => sLoad Tryd.prog 25 r2 w k) fun x24 =>
      sDyn Tryd.prog x16 [row1] w fun x23 w => C w ∧
      sCall Tryd.prog 16 [x24] w fun x25 w => C w ∧
      stillS C w (fun w k => sBuild Tryd.prog 38 [(0, x23), (1, x25)] w k) fun x26 =>
      sStore Tryd.prog 38 x4 x26 w fun w => C w ∧
      sLoad Tryd.prog 38 x4 w fun v w' => w' = w ∧ K (.tuple #[v, (.int .i64 0)]) w) (
      sDyn Tryd.prog x16 [row1] w fun x29 w =>
      sBin Tryd.prog .add 3 false true row1 (.int .i64 1) w fun x32 w =>
      sDyn Tryd.prog x16 [x32] w fun x33 w =>
      sBin Tryd.prog .sub 3 false true x33 (.int .i64 1) w fun x34 w =>
      sBuild Tryd.prog 38 [(0, x29), (1, x34)] w fun x35 w =>
      sStore Tryd.prog 38 x4 x35 w fun w =>
      sLoad Tryd.prog 38 x4 w fun v w' => w' = w ∧ K (.tuple #[v, (.int .i64 0)]) w))

def lines_Span (K : K1) (r0 row1 : Value) (w : World) : Prop :=
  sBox Tryd.prog 25 r0 w fun r2 w =>
  sAlloc Tryd.prog 38 w fun x4 w =>
  JoinS 1 7 (fun M1 =>
    sBin Tryd.prog .lss 3 false true row1 (.int .i64 0) w fun x8 w =>
    sIf x8 (
      M1 [(.bool true)] w) (
      sLoad Tryd.prog 25 r2 w fun x11 w =>
      sCall Tryd.prog 17 [x11] w fun x12 w =>
      sBin Tryd.prog .geq 3 false false row1 x12 w fun x13 w =>
      M1 [x13] w)) fun us _ w =>
    lines_Span_J1 K r2 row1 x4 (hd us) w

def lines_Span.sc : SC := (.seq (.reg (.op 0 (.op 1 (.op 2 .done)))) (.seq (.join [14] [7, 8, 9, 10, 11, 12, 13] (.reg (.op 0 (.op 1 (.op 2 (.test 2 (.skip 3 (.skip 4 (.skip 5 (.skip 6 (.op 7 .done))))) (.op 3 (.op 4 (.op 5 (.op 6 (.op 7 .done)))))))))) (.cond (.seq (.reg (.op 0 (.op 1 (.op 2 .done)))) .nop) .nop)) (.seq (.reg (.op 0 (.op 1 .done))) (.seq (.seq (.reg (.op 0 (.op 1 (.op 2 (.op 3 .done))))) (.cond (.seq (.draw (.op 0 (.op 1 (.op 3 (.op 2 (.op 4 (.op 5 (.op 6 (.op 7 .done))))))))) .nop) .nop)) (.seq (.reg (.op 0 (.op 1 (.op 2 (.op 3 (.op 4 (.op 5 (.op 6 (.op 7 (.op 8 (.op 9 (.op 10 .done)))))))))))) .nop)))))

theorem lines_Span.ok : okC Tryd.f20.ntmps lines_Span.sc (bodyOf Tryd.f20) = true := by kernel_rfl

theorem lines_Span.eq {K : K1} {r0 row1 : Value} {w : World} : lines_Span K r0 row1 w = codeS Tryd.prog lines_Span.sc (bodyOf Tryd.f20) (argsF 0 [r0, row1]) w (retQ Tryd.prog Tryd.f20.results.toList K) := by kernel_rfl

theorem lines_Span.call {K : K1} {r0 row1 : Value} {w : World} (h : lines_Span K r0 row1 w) : sCall Tryd.prog 20 [r0, row1] w K := sCall_code mixed Tryd.func20 (by kernel_rfl) rfl rfl lines_Span.ok lines_Span.eq h

abbrev lines_Span.n : Nat := 20

/-- 'bodkin lines.Text' -/
def lines_Text (K : K1) (r0 row1 : Value) (w : World) : Prop :=
  sCall Tryd.prog 20 [r0, row1] w fun x11 w =>
  sExtract x11 0 w fun x12 w =>
  sExtract x11 1 w fun x13 w =>
  sAlloc Tryd.prog 38 w fun s6 w =>
  sStore Tryd.prog 38 s6 x12 w fun w =>
  sBin Tryd.prog .neq 26 false true x13 (.int .i64 0) w fun x15 w =>
  sIf x15 (
    K (.tuple #[(.string ⟨#[]⟩), x13]) w) (
    sFldA Tryd.prog 38 s6 0 w fun x18 w =>
    sLoad Tryd.prog 3 x18 w fun x19 w =>
    sFldA Tryd.prog 38 s6 1 w fun x20 w =>
    sLoad Tryd.prog 3 x20 w fun x21 w =>
    sCall Tryd.prog 32 [r0, x19, x21] w fun x22 w =>
    sExtract x22 0 w fun x23 w =>
    sExtract x22 1 w fun x24 w =>
    K (.tuple #[x23, x24]) w)

def lines_Text.sc : SC := (.seq (.reg (.op 0 (.op 1 .done))) (.seq (.reg (.op 0 (.op 1 (.op 2 (.op 3 (.op 4 (.op 5 (.op 6 (.op 7 (.op 8 .done)))))))))) (.seq (.seq (.reg (.op 0 (.op 1 .done))) (.cond (.seq (.reg (.op 0 (.op 1 (.op 2 .done)))) .nop) .nop)) (.seq (.reg (.op 0 (.op 1 (.op 2 (.op 3 (.op 4 (.op 5 (.op 6 (.op 7 (.op 8 (.op 9 .done))))))))))) .nop))))

theorem lines_Text.ok : okC Tryd.f21.ntmps lines_Text.sc (bodyOf Tryd.f21) = true := by kernel_rfl

theorem lines_Text.eq {K : K1} {r0 row1 : Value} {w : World} : lines_Text K r0 row1 w = codeS Tryd.prog lines_Text.sc (bodyOf Tryd.f21) (argsF 0 [r0, row1]) w (retQ Tryd.prog Tryd.f21.results.toList K) := by kernel_rfl

theorem lines_Text.call {K : K1} {r0 row1 : Value} {w : World} (h : lines_Text K r0 row1 w) : sCall Tryd.prog 21 [r0, row1] w K := sCall_code mixed Tryd.func21 (by kernel_rfl) rfl rfl lines_Text.ok lines_Text.eq h

abbrev lines_Text.n : Nat := 21

/-- 'bodkin bodkinref01.Encode' -/
def bodkinref01_Encode_L1 (K : K1) (Nx1 : List Value → World → Prop) (l0 x8 : Value) (out3 x9 : Value) (w : World) : Prop :=
  sBin Tryd.prog .lss 3 false false x9 x8 w fun x10 w =>
  sIf x10 (
    sIdxA Tryd.prog 29 l0 x9 w fun x11 w =>
    sLoad Tryd.prog 21 x11 w fun x12 w =>
    sCall Tryd.prog 33 [x12] w fun x14 w =>
    sBin Tryd.prog .eql 3 false true x14 (.int .i64 0) w fun x16 w =>
    sIf x16 (
      sCall Tryd.prog 34 [(.int .i32 65533), (.int .i64 3)] w fun x18 w =>
      sBin Tryd.prog .add 9 false false out3 x18 w fun x19 w =>
      sBin Tryd.prog .add 3 false true x9 (.int .i64 1) w fun x25 w =>
      Nx1 [x19, x25] w) (
      sCall Tryd.prog 34 [x12, x14] w fun x23 w =>
      sBin Tryd.prog .add 9 false false out3 x23 w fun x24 w =>
      sBin Tryd.prog .add 3 false true x9 (.int .i64 1) w fun x25_1 w =>
      Nx1 [x24, x25_1] w)) (
    K out3 w)

def bodkinref01_Encode (K : K1) (l0 : Value) (w : World) : Prop :=
  sBuiltin Tryd.prog .len [29] 3 [l0] w fun x8 w =>
  LoopS [(.string ⟨#[]⟩), (.int .i64 0)] 2 18 w fun us _ w Nx1 =>
    bodkinref01_Encode_L1 K Nx1 l0 x8 (hd us) (hd (tl us)) w

def bodkinref01_Encode.sc : SC := (.seq (.reg (.op 0 .done)) (.seq (.reg (.op 0 .done)) (.seq (.seq (.reg (.op 0 (.op 1 (.op 2 .done)))) (.sub (.loop [3, 9] [10, 11, 12, 5, 13, 14, 6, 15, 16, 17, 18, 19, 20, 21, 22, 23, 24, 25] (.seq (.reg (.op 0 .done)) (.seq (.cond .nop .nop) (.seq (.sub (.seq (.reg (.op 0 (.op 1 (.op 2 .done)))) (.seq (.reg (.op 0 (.op 1 (.op 2 .done)))) (.seq (.reg (.op 0 (.op 1 .done))) (.cond (.reg (.op 0 (.op 1 (.op 2 (.op 3 .done))))) (.reg (.op 0 (.op 1 (.op 2 (.op 3 (.op 4 (.op 5 .done)))))))))))) (.reg (.op 0 (.op 1 .done))))))))) (.seq (.reg (.op 0 (.op 1 .done))) .nop))))

theorem bodkinref01_Encode.ok : okC Tryd.f22.ntmps bodkinref01_Encode.sc (bodyOf Tryd.f22) = true := by kernel_rfl

theorem bodkinref01_Encode.eq {K : K1} {l0 : Value} {w : World} : bodkinref01_Encode K l0 w = codeS Tryd.prog bodkinref01_Encode.sc (bodyOf Tryd.f22) (argsF 0 [l0]) w (retQ Tryd.prog Tryd.f22.results.toList K) := by kernel_rfl

theorem bodkinref01_Encode.call {K : K1} {l0 : Value} {w : World} (h : bodkinref01_Encode K l0 w) : sCall Tryd.prog 22 [l0] w K := sCall_code mixed Tryd.func22 (by kernel_rfl) rfl rfl bodkinref01_Encode.ok bodkinref01_Encode.eq h

abbrev bodkinref01_Encode.n : Nat := 22

/-- 'bodkin utf.Decode' -/
def utf_Decode_L1 (K : K1) (Nx1 : List Value → World → Prop) (x7 : Value) (out3 : Value) (w : World) : Prop :=
  sNext Tryd.prog x7 true 0 w fun x8 w =>
  sExtract x8 0 w fun x9 w =>
  sIf x9 (
    sExtract x8 2 w fun x10 w =>
    sBuildSlice Tryd.prog 29 1 [(0, x10)] w fun x13 w =>
    sBuiltin Tryd.prog .append [29, 29] 29 [out3, x13] w fun x14 w =>
    Nx1 [x14] w) (
    K out3 w)

def utf_Decode (K : K1) (s0 : Value) (w : World) : Prop :=
  sRange Tryd.prog 9 s0 w fun x7 w =>
  LoopS [(.slice none 0 0)] 1 8 w fun us _ w Nx1 =>
    utf_Decode_L1 K Nx1 x7 (hd us) w

def utf_Decode.sc : SC := (.seq (.reg (.op 0 .done)) (.seq (.reg (.op 0 .done)) (.seq (.seq (.reg (.op 0 (.op 1 .done))) (.sub (.loop [3] [8, 9, 10, 5, 11, 12, 13, 14] (.seq (.reg (.op 0 (.op 1 .done))) (.seq (.cond .nop .nop) (.sub (.seq (.reg (.op 0 (.op 1 .done))) (.reg (.op 0 (.op 1 (.op 2 (.op 3 (.op 4 .done))))))))))))) (.seq (.reg (.op 0 (.op 1 .done))) .nop))))

theorem utf_Decode.ok : okC Tryd.f23.ntmps utf_Decode.sc (bodyOf Tryd.f23) = true := by kernel_rfl

theorem utf_Decode.eq {K : K1} {s0 : Value} {w : World} : utf_Decode K s0 w = codeS Tryd.prog utf_Decode.sc (bodyOf Tryd.f23) (argsF 0 [s0]) w (retQ Tryd.prog Tryd.f23.results.toList K) := by kernel_rfl

theorem utf_Decode.call {K : K1} {s0 : Value} {w : World} (h : utf_Decode K s0 w) : sCall Tryd.prog 23 [s0] w K := sCall_code mixed Tryd.func23 (by kernel_rfl) rfl rfl utf_Decode.ok utf_Decode.eq h

abbrev utf_Decode.n : Nat := 23

/-- 'bodkin tree.New' -/
def tree_New_L1 (K : K1) (Nx1 : List Value → World → Prop) (l0 x13 : Value) (root4 x14 : Value) (w : World) : Prop :=
  sBin Tryd.prog .lss 3 false false x14 x13 w fun x15 w =>
  sIf x15 (
    sIdxA Tryd.prog 58 l0 x14 w fun x17 w =>
    sLoad Tryd.prog 73 x17 w fun x18 w =>
    sAlloc Tryd.prog 73 w fun x6 w =>
    sStore Tryd.prog 73 x6 x18 w fun w =>
    sLoad Tryd.prog 73 x6 w fun x19 w =>
    sCall Tryd.prog 35 [x19] w fun x20 w =>
    sBin Tryd.prog .neq 26 false true x20 (.int .i64 0) w fun x22 w =>
    sIf x22 (
      K (.tuple #[(.pointer none), x20]) w) (
      sBin Tryd.prog .rem 3 false true x14 (.int .i64 8) w fun x25 w =>
      sBin Tryd.prog .eql 3 false true x25 (.int .i64 0) w fun x26 w =>
      sIf x26 (
        sBuiltin Tryd.prog .len [58] 3 [l0] w fun x28 w =>
        sBin Tryd.prog .sub 3 false false x28 x14 w fun x30 w =>
        sBuiltin Tryd.prog .min [3, 3] 3 [(.int .i64 8), x30] w fun x31 w =>
        sMake Tryd.prog 58 x31 x31 w fun x32 w =>
        sSlice Tryd.prog 58 l0 (some x14) none none w fun x36 w =>
        sBuiltin Tryd.prog .copy [58, 58] 3 [x32, x36] w fun x37 w =>
        sCall Tryd.prog 37 [x32] w fun x40 w =>
        sIface Tryd.prog 76 x40 w fun x41 w =>
        sCall Tryd.prog 36 [root4, x41] w fun x42 w =>
        sBin Tryd.prog .add 3 false true x14 (.int .i64 1) w fun x43 w =>
        Nx1 [x42, x43] w) (
        sBin Tryd.prog .add 3 false true x14 (.int .i64 1) w fun x43_1 w =>
        Nx1 [root4, x43_1] w))) (
    sBuild Tryd.prog 79 [(0, root4)] w fun x45 w =>
    sBox Tryd.prog 79 x45 w fun x46 w =>
    K (.tuple #[x46, (.int .i64 0)]) w)

def tree_New (K : K1) (l0 : Value) (w : World) : Prop :=
  sBuiltin Tryd.prog .len [58] 3 [l0] w fun x10 w =>
  sBin Tryd.prog .gtr 3 false true x10 (.int .i64 30000) w fun x11 w =>
  sIf x11 (
    K (.tuple #[(.pointer none), (.int .i64 5)]) w) (
    sBuiltin Tryd.prog .len [58] 3 [l0] w fun x13 w =>
    LoopS [.nilIface, (.int .i64 0)] 2 35 w fun us _ w Nx1 =>
      tree_New_L1 K Nx1 l0 x13 (hd us) (hd (tl us)) w)

def tree_New.sc : SC := (.seq (.reg (.op 0 (.op 1 .done))) (.seq (.seq (.reg (.op 0 (.op 1 (.op 2 .done)))) (.cond (.seq (.reg (.op 0 (.op 1 .done))) .nop) .nop)) (.seq (.reg (.op 0 .done)) (.seq (.seq (.reg (.op 0 (.op 1 (.op 2 .done)))) (.sub (.loop [4, 14] [15, 16, 17, 18, 6, 5, 19, 20, 7, 21, 22, 23, 2, 3, 24, 25, 26, 27, 28, 29, 30, 31, 32, 8, 33, 34, 35, 36, 37, 38, 39, 40, 41, 42, 43] (.seq (.reg (.op 0 .done)) (.seq (.cond .nop .nop) (.seq (.sub (.seq (.reg (.op 0 (.op 1 (.op 2 (.op 3 (.op 4 (.op 5 .done))))))) (.seq (.seq (.reg (.op 0 (.op 1 (.op 2 .done)))) (.seq (.reg (.op 0 (.op 1 .done))) (.cond (.seq (.reg (.op 0 (.op 1 (.op 2 .done)))) .nop) .nop))) (.seq (.reg (.op 0 (.op 1 (.op 2 .done)))) (.cond (.seq (.reg (.op 0 (.op 1 (.op 2 (.op 3 (.op 4 (.op 5 (.op 6 .done)))))))) (.seq (.reg (.op 0 (.op 1 (.op 2 (.op 3 (.op 4 .done)))))) (.reg (.op 0 (.op 1 (.op 2 (.op 3 (.op 4 (.op 5 .done))))))))) .nop))))) (.reg (.op 0 (.op 1 .done))))))))) (.seq (.reg (.op 0 (.op 1 (.op 2 (.op 3 (.op 4 .done)))))) .nop)))))

theorem tree_New.ok : okC Tryd.f24.ntmps tree_New.sc (bodyOf Tryd.f24) = true := by kernel_rfl

theorem tree_New.eq {K : K1} {l0 : Value} {w : World} : tree_New K l0 w = codeS Tryd.prog tree_New.sc (bodyOf Tryd.f24) (argsF 0 [l0]) w (retQ Tryd.prog Tryd.f24.results.toList K) := by kernel_rfl

theorem tree_New.call {K : K1} {l0 : Value} {w : World} (h : tree_New K l0 w) : sCall Tryd.prog 24 [l0] w K := sCall_code mixed Tryd.func24 (by kernel_rfl) rfl rfl tree_New.ok tree_New.eq h

abbrev tree_New.n : Nat := 24

/-- 'bodkin rope.cut' -/
def rope_cut_L1 (K : K1) (Nx1 : List Value → World → Prop) (out3 l0_1 k4 : Value) (w : World) : Prop :=
  sBin Tryd.prog .gtr 3 false true k4 (.int .i64 0) w fun x12 w =>
  sIf x12 (
    sBuiltin Tryd.prog .len [29] 3 [l0_1] w fun x16 w =>
    sBin Tryd.prog .quo 3 false false x16 k4 w fun x18 w =>
    sSlice Tryd.prog 29 l0_1 none (some x18) none w fun x22 w =>
    sCall Tryd.prog 38 [x22] w fun x23 w =>
    sBuildSlice Tryd.prog 58 1 [(0, x23)] w fun x24 w =>
    sBuiltin Tryd.prog .append [58, 58] 58 [out3, x24] w fun x25 w =>
    sSlice Tryd.prog 29 l0_1 (some x18) none none w fun x28 w =>
    sBin Tryd.prog .sub 3 false true k4 (.int .i64 1) w fun x14 w =>
    Nx1 [x25, x28, x14] w) (
    K out3 w)

def rope_cut (K : K1) (l0 : Value) (w : World) : Prop :=
  sBuiltin Tryd.prog .len [29] 3 [l0] w fun x7 w =>
  sBin Tryd.prog .add 3 false true x7 (.int .i64 16) w fun x8 w =>
  sBin Tryd.prog .sub 3 false true x8 (.int .i64 1) w fun x9 w =>
  sBin Tryd.prog .quo 3 false true x9 (.int .i64 16) w fun x10 w =>
  LoopS [(.slice none 0 0), l0, x10] 3 19 w fun us _ w Nx1 =>
    rope_cut_L1 K Nx1 (hd us) (hd (tl us)) (hd (tl (tl us))) w

def rope_cut.sc : SC := (.seq (.reg (.op 0 .done)) (.seq (.reg (.op 0 .done)) (.seq (.seq (.reg (.op 0 (.op 1 (.op 2 (.op 3 (.op 4 (.op 5 .done))))))) (.sub (.loop [3, 0, 4] [11, 12, 15, 16, 17, 18, 5, 19, 20, 21, 22, 23, 24, 25, 26, 27, 28, 13, 14] (.seq (.seq (.reg (.op 0 (.op 1 .done))) (.cond .nop .nop)) (.seq (.sub (.seq (.reg (.op 0 (.op 1 (.op 2 (.op 3 (.op 4 .done)))))) (.seq (.reg (.op 0 (.op 1 (.op 2 (.op 3 (.op 4 (.op 5 (.op 6 (.op 7 .done))))))))) (.reg (.op 0 (.op 1 (.op 2 (.op 3 .done)))))))) (.reg (.op 0 (.op 1 (.op 2 .done))))))))) (.seq (.reg (.op 0 (.op 1 .done))) .nop))))

theorem rope_cut.ok : okC Tryd.f25.ntmps rope_cut.sc (bodyOf Tryd.f25) = true := by kernel_rfl

theorem rope_cut.eq {K : K1} {l0 : Value} {w : World} : rope_cut K l0 w = codeS Tryd.prog rope_cut.sc (bodyOf Tryd.f25) (argsF 0 [l0]) w (retQ Tryd.prog Tryd.f25.results.toList K) := by kernel_rfl

theorem rope_cut.call {K : K1} {l0 : Value} {w : World} (h : rope_cut K l0 w) : sCall Tryd.prog 25 [l0] w K := sCall_code mixed Tryd.func25 (by kernel_rfl) rfl rfl rope_cut.ok rope_cut.eq h

abbrev rope_cut.n : Nat := 25

/-- 'bodkin bodkinref01.Step' -/
def bodkinref01_Step_J2 (K : K1) (Nx1 : List Value → World → Prop) (n5 x36 x4 : Value) (x47 : Value) (w : World) : Prop :=
  sIf x47 (
    sBuild Tryd.prog 63 [(0, x36), (1, n5)] w fun x50 w =>
    sStore Tryd.prog 63 x4 x50 w fun w =>
    sLoad Tryd.prog 63 x4 w fun v w' => w' = w ∧ K v w) (
    sBin Tryd.prog .add 3 false true n5 (.int .i64 1) w fun x28 w =>
    Nx1 [x28] w)

def bodkinref01_Step_L1 (K : K1) (Nx1 : List Value → World → Prop) (at1 s0 x4 : Value) (n5 : Value) (w : World) : Prop :=
  sBin Tryd.prog .leq 3 false true n5 (.int .i64 4) w fun x18 w =>
  sIf x18 (
    sBuiltin Tryd.prog .len [9] 3 [s0] w fun x22 w =>
    sBin Tryd.prog .sub 3 false false x22 at1 w fun x24 w =>
    sBin Tryd.prog .leq 3 false false n5 x24 w fun x25 w =>
    sIf x25 (
      sBin Tryd.prog .add 3 false false at1 n5 w fun x33 w =>
      sSlice Tryd.prog 9 s0 (some at1) (some x33) none w fun x34 w =>
      sCall Tryd.prog 39 [x34] w fun x36 w =>
      JoinS 1 10 (fun M2 =>
        sCall Tryd.prog 33 [x36] w fun x38 w =>
        sBin Tryd.prog .eql 3 false false x38 n5 w fun x40 w =>
        sIf x40 (
          sCall Tryd.prog 34 [x36, n5] w fun x44 w =>
          sBin Tryd.prog .eql 9 false false x44 x34 w fun x46 w =>
          M2 [x46] w) (
          M2 [(.bool false)] w)) fun us _ w =>
        bodkinref01_Step_J2 K Nx1 n5 x36 x4 (hd us) w) (
      sBuild Tryd.prog 63 [(0, (.int .i32 65533)), (1, (.int .i64 1))] w fun x51 w =>
      sStore Tryd.prog 63 x4 x51 w fun w =>
      sLoad Tryd.prog 63 x4 w fun v w' => w' = w ∧ K v w)) (
    sBuild Tryd.prog 63 [(0, (.int .i32 65533)), (1, (.int .i64 1))] w fun x51_1 w =>
    sStore Tryd.prog 63 x4 x51_1 w fun w =>
    sLoad Tryd.prog 63 x4 w fun v w' => w' = w ∧ K v w)

def bodkinref01_Step (K : K1) (s0 at1 : Value) (w : World) : Prop :=
  sAlloc Tryd.prog 63 w fun x4 w =>
  sBin Tryd.prog .lss 3 false true at1 (.int .i64 0) w fun x9 w =>
  sIf x9 (
    sBuild Tryd.prog 63 [] w fun x16 w =>
    sStore Tryd.prog 63 x4 x16 w fun w =>
    sLoad Tryd.prog 63 x4 w fun v w' => w' = w ∧ K v w) (
    sBuiltin Tryd.prog .len [9] 3 [s0] w fun x13 w =>
    sBin Tryd.prog .geq 3 false false at1 x13 w fun x14 w =>
    sIf x14 (
      sBuild Tryd.prog 63 [] w fun x16_1 w =>
      sStore Tryd.prog 63 x4 x16_1 w fun w =>
      sLoad Tryd.prog 63 x4 w fun v w' => w' = w ∧ K v w) (
      LoopS [(.int .i64 1)] 1 36 w fun us _ w Nx1 =>
        bodkinref01_Step_L1 K Nx1 at1 s0 x4 (hd us) w))

def bodkinref01_Step.sc : SC := (.seq (.reg (.op 0 .done)) (.seq (.seq (.reg (.op 0 (.op 1 (.op 2 (.test 2 (.skip 3 (.skip 4 (.skip 5 (.skip 6 (.op 7 .done))))) (.op 3 (.op 4 (.op 5 (.op 6 (.op 7 .done)))))))))) (.cond (.seq (.reg (.op 0 (.op 1 .done))) .nop) .nop)) (.seq (.seq (.reg (.op 0 .done)) (.sub (.loop [5] [17, 18, 19, 20, 21, 22, 23, 24, 25, 26, 29, 30, 31, 32, 33, 34, 6, 35, 36, 7, 37, 38, 39, 40, 41, 42, 43, 44, 45, 46, 47, 48, 49, 50, 27, 28] (.seq (.seq (.reg (.op 0 (.op 1 (.op 2 (.test 2 (.op 3 (.op 4 (.op 5 (.op 6 (.op 7 (.op 8 (.op 9 .done))))))) (.skip 3 (.skip 4 (.skip 5 (.skip 6 (.skip 7 (.skip 8 (.op 9 .done)))))))))))) (.cond .nop .nop)) (.seq (.sub (.seq (.reg (.op 0 (.op 1 (.op 2 (.op 3 (.op 4 (.op 5 (.op 6 .done)))))))) (.seq (.reg (.op 0 (.op 1 (.op 2 .done)))) (.join [47] [37, 38, 39, 40, 41, 42, 43, 44, 45, 46] (.reg (.op 0 (.op 1 (.op 2 (.op 3 (.op 4 (.test 4 (.op 5 (.op 6 (.op 7 (.op 8 (.op 9 (.op 10 .done)))))) (.skip 5 (.skip 6 (.skip 7 (.skip 8 (.skip 9 (.op 10 .done))))))))))))) (.cond (.seq (.reg (.op 0 (.op 1 (.op 2 (.op 3 .done))))) .nop) .nop))))) (.reg (.op 0 (.op 1 (.op 2 .done))))))))) (.seq (.reg (.op 0 (.op 1 .done))) .nop))))

theorem bodkinref01_Step.ok : okC Tryd.f26.ntmps bodkinref01_Step.sc (bodyOf Tryd.f26) = true := by kernel_rfl

theorem bodkinref01_Step.eq {K : K1} {s0 at1 : Value} {w : World} : bodkinref01_Step K s0 at1 w = codeS Tryd.prog bodkinref01_Step.sc (bodyOf Tryd.f26) (argsF 0 [s0, at1]) w (retQ Tryd.prog Tryd.f26.results.toList K) := by kernel_rfl

theorem bodkinref01_Step.call {K : K1} {s0 at1 : Value} {w : World} (h : bodkinref01_Step K s0 at1 w) : sCall Tryd.prog 26 [s0, at1] w K := sCall_code mixed Tryd.func26 (by kernel_rfl) rfl rfl bodkinref01_Step.ok bodkinref01_Step.eq h

abbrev bodkinref01_Step.n : Nat := 26

/-- '(*bodkin rope.Rope).Ahead' -/
def rope_Rope_Ahead (K : K1) (r0 at1 : Value) (w : World) : Prop :=
  sCall Tryd.prog 40 [r0, at1] w fun x11 w =>
  sExtract x11 0 w fun x12 w =>
  sExtract x11 1 w fun x13 w =>
  sAlloc Tryd.prog 85 w fun s6 w =>
  sStore Tryd.prog 85 s6 x12 w fun w =>
  sBin Tryd.prog .neq 26 false true x13 (.int .i64 0) w fun x15 w =>
  sIf x15 (
    K (.tuple #[(.int .i64 0), x13]) w) (
    DrawS w fun C w =>
    stillS C w (fun w k => sFldA Tryd.prog 85 s6 0 w k) fun x17 =>
    stillS C w (fun w k => sFldA Tryd.prog 83 x17 1 w k) fun x18 =>
    stillS C w (fun w k => sIdxA Tryd.prog 71 x18 (.int .i64 2) w k) fun x19 =>
    stillS C w (fun w k => sLoad Tryd.prog 3 x19 w k) fun x20 =>
    stillS C w (fun w k => sFldA Tryd.prog 85 s6 1 w k) fun x21 =>
    stillS C w (fun w k => sFldA Tryd.prog 73 x21 4 w k) fun x22 =>
    stillS C w (fun w k => sLoad Tryd.prog 9 x22 w k) fun x23 =>
    stillS C w (fun w k => sFldA Tryd.prog 85 s6 2 w k) fun x24 =>
    stillS C w (fun w k => sLoad Tryd.prog 3 x24 w k) fun x25 =>
    stillS C w (fun w k => sSlice Tryd.prog 9 x23 none (some x25) none w k) fun x26 =>
    sCall Tryd.prog 41 [x26, (.string ⟨#[10]⟩)] w fun x27 w => C w ∧
    stillS C w (fun w k => sBin Tryd.prog .add 3 false false x20 x27 w k) fun x28 =>
    K (.tuple #[x28, (.int .i64 0)]) w)

def rope_Rope_Ahead.sc : SC := (.seq (.reg (.op 0 (.op 1 .done))) (.seq (.reg (.op 0 (.op 1 (.op 2 (.op 3 (.op 4 (.op 5 (.op 6 (.op 7 (.op 8 .done)))))))))) (.seq (.seq (.reg (.op 0 (.op 1 .done))) (.cond (.seq (.reg (.op 0 (.op 1 (.op 2 .done)))) .nop) .nop)) (.seq (.draw (.op 0 (.op 1 (.op 2 (.op 3 (.op 4 (.op 5 (.op 6 (.op 7 (.op 8 (.op 9 (.op 10 (.op 11 (.op 12 (.op 13 .done))))))))))))))) .nop))))

theorem rope_Rope_Ahead.ok : okC Tryd.f27.ntmps rope_Rope_Ahead.sc (bodyOf Tryd.f27) = true := by kernel_rfl

theorem rope_Rope_Ahead.eq {K : K1} {r0 at1 : Value} {w : World} : rope_Rope_Ahead K r0 at1 w = codeS Tryd.prog rope_Rope_Ahead.sc (bodyOf Tryd.f27) (argsF 0 [r0, at1]) w (retQ Tryd.prog Tryd.f27.results.toList K) := by kernel_rfl

theorem rope_Rope_Ahead.call {K : K1} {r0 at1 : Value} {w : World} (h : rope_Rope_Ahead K r0 at1 w) : sCall Tryd.prog 27 [r0, at1] w K := sCall_code mixed Tryd.func27 (by kernel_rfl) rfl rfl rope_Rope_Ahead.ok rope_Rope_Ahead.eq h

abbrev rope_Rope_Ahead.n : Nat := 27

/-- '(*bodkin rope.Rope).size' -/
def rope_Rope_size (K : K1) (r0 dim1 : Value) (w : World) : Prop :=
  sCall Tryd.prog 42 [r0] w fun x6 w =>
  sCall Tryd.prog 43 [x6] w fun x7 w =>
  sFld Tryd.prog 83 x7 1 w fun x8 w =>
  sIdx Tryd.prog 71 x8 dim1 w fun x10 w =>
  K x10 w

def rope_Rope_size.sc : SC := (.seq (.reg (.op 0 .done)) (.seq (.reg (.op 0 (.op 1 (.op 2 (.op 3 (.op 4 (.op 5 (.op 6 .done)))))))) .nop))

theorem rope_Rope_size.ok : okC Tryd.f28.ntmps rope_Rope_size.sc (bodyOf Tryd.f28) = true := by kernel_rfl

theorem rope_Rope_size.eq {K : K1} {r0 dim1 : Value} {w : World} : rope_Rope_size K r0 dim1 w = codeS Tryd.prog rope_Rope_size.sc (bodyOf Tryd.f28) (argsF 0 [r0, dim1]) w (retQ Tryd.prog Tryd.f28.results.toList K) := by kernel_rfl

theorem rope_Rope_size.call {K : K1} {r0 dim1 : Value} {w : World} (h : rope_Rope_size K r0 dim1 w) : sCall Tryd.prog 28 [r0, dim1] w K := sCall_code mixed Tryd.func28 (by kernel_rfl) rfl rfl rope_Rope_size.ok rope_Rope_size.eq h

abbrev rope_Rope_size.n : Nat := 28

/-- '(*bodkin rope.Rope).Breaks' -/
def rope_Rope_Breaks (K : K1) (r0 : Value) (w : World) : Prop :=
  sCall Tryd.prog 28 [r0, (.int .i64 2)] w fun x4 w =>
  K x4 w

def rope_Rope_Breaks.sc : SC := (.seq (.reg (.op 0 .done)) (.seq (.reg (.op 0 (.op 1 (.op 2 .done)))) .nop))

theorem rope_Rope_Breaks.ok : okC Tryd.f29.ntmps rope_Rope_Breaks.sc (bodyOf Tryd.f29) = true := by kernel_rfl

theorem rope_Rope_Breaks.eq {K : K1} {r0 : Value} {w : World} : rope_Rope_Breaks K r0 w = codeS Tryd.prog rope_Rope_Breaks.sc (bodyOf Tryd.f29) (argsF 0 [r0]) w (retQ Tryd.prog Tryd.f29.results.toList K) := by kernel_rfl

theorem rope_Rope_Breaks.call {K : K1} {r0 : Value} {w : World} (h : rope_Rope_Breaks K r0 w) : sCall Tryd.prog 29 [r0] w K := sCall_code mixed Tryd.func29 (by kernel_rfl) rfl rfl rope_Rope_Breaks.ok rope_Rope_Breaks.eq h

abbrev rope_Rope_Breaks.n : Nat := 29

/-- 'bodkin lines.Span$1' -/
def lines_Span_1 (K : K1) (k0 x1 : Value) (w : World) : Prop :=
  sLoad Tryd.prog 25 x1 w fun x7 w =>
  sCall Tryd.prog 31 [x7, k0] w fun x9 w =>
  sExtract x9 0 w fun x10 w =>
  sExtract x9 1 w fun x11 w =>
  K x10 w

def lines_Span_1.sc : SC := (.seq (.reg (.op 0 .done)) (.seq (.reg (.op 0 (.op 1 (.op 2 (.op 3 (.op 4 (.op 5 (.op 6 (.op 7 .done))))))))) (.seq (.reg (.op 0 (.op 1 .done))) .nop)))

theorem lines_Span_1.ok : okC Tryd.f30.ntmps lines_Span_1.sc (bodyOf Tryd.f30) = true := by kernel_rfl

theorem lines_Span_1.eq {K : K1} {k0 x1 : Value} {w : World} : lines_Span_1 K k0 x1 w = codeS Tryd.prog lines_Span_1.sc (bodyOf Tryd.f30) (argsF 0 [k0, x1]) w (retQ Tryd.prog Tryd.f30.results.toList K) := by kernel_rfl

theorem lines_Span_1.call {K : K1} {k0 x1 : Value} {w : World} (h : lines_Span_1 K k0 x1 w) : sCall Tryd.prog 30 [k0, x1] w K := sCall_code mixed Tryd.func30 (by kernel_rfl) rfl rfl lines_Span_1.ok lines_Span_1.eq h

abbrev lines_Span_1.n : Nat := 30

/-- '(*bodkin rope.Rope).Behind' -/
def rope_Rope_Behind_J3 (M1 : List Value → World → Prop) (Nx2 : List Value → World → Prop) (k1 x41 : Value) (seen10_1 : Value) (w : World) : Prop :=
  sBin Tryd.prog .eql 3 false false seen10_1 k1 w fun x48 w =>
  sIf x48 (
    M1 [x41] w) (
    Nx2 [x41, seen10_1] w)

def rope_Rope_Behind_L2 (M1 : List Value → World → Prop) (Nx2 : List Value → World → Prop) (k1 x36 : Value) (n9 seen10 : Value) (w : World) : Prop :=
  sNext Tryd.prog x36 true 0 w fun x37 w =>
  sExtract x37 0 w fun x38 w =>
  sIf x38 (
    sExtract x37 2 w fun x39 w =>
    sBin Tryd.prog .add 3 false true n9 (.int .i64 1) w fun x41 w =>
    JoinS 1 4 (fun M3 =>
      sBin Tryd.prog .eql 21 false true x39 (.int .i32 10) w fun x43 w =>
      sIf x43 (
        sBin Tryd.prog .add 3 false true seen10 (.int .i64 1) w fun x45 w =>
        M3 [x45] w) (
        M3 [seen10] w)) fun us _ w =>
      rope_Rope_Behind_J3 M1 Nx2 k1 x41 (hd us) w) (
    M1 [n9] w)

def rope_Rope_Behind_J1 (K : K1) (n9_1 : Value) (w : World) : Prop :=
  K (.tuple #[n9_1, (.int .i64 0)]) w

def rope_Rope_Behind (K : K1) (r0 k1 : Value) (w : World) : Prop :=
  sBin Tryd.prog .eql 3 false true k1 (.int .i64 0) w fun x14 w =>
  sIf x14 (
    K (.tuple #[(.int .i64 0), (.int .i64 0)]) w) (
    sCall Tryd.prog 44 [r0, (.int .i64 2), k1, (.int .i64 0)] w fun x18 w =>
    sExtract x18 0 w fun x19 w =>
    sExtract x18 1 w fun x20 w =>
    sExtract x18 2 w fun x21 w =>
    sAlloc Tryd.prog 85 w fun s6 w =>
    sStore Tryd.prog 85 s6 x19 w fun w =>
    sBin Tryd.prog .neq 26 false true x21 (.int .i64 0) w fun x23 w =>
    sIf x23 (
      K (.tuple #[(.int .i64 0), x21]) w) (
      DrawS w fun C w =>
      stillS C w (fun w k => sFldA Tryd.prog 85 s6 0 w k) fun x25 =>
      stillS C w (fun w k => sFldA Tryd.prog 83 x25 1 w k) fun x26 =>
      stillS C w (fun w k => sIdxA Tryd.prog 71 x26 (.int .i64 1) w k) fun x27 =>
      stillS C w (fun w k => sLoad Tryd.prog 3 x27 w k) fun x28 =>
      stillS C w (fun w k => sFldA Tryd.prog 85 s6 0 w k) fun x29 =>
      stillS C w (fun w k => sFldA Tryd.prog 83 x29 1 w k) fun x30 =>
      stillS C w (fun w k => sIdxA Tryd.prog 71 x30 (.int .i64 2) w k) fun x31 =>
      stillS C w (fun w k => sLoad Tryd.prog 3 x31 w k) fun x32 =>
      JoinS 1 18 (fun M1 =>
        sFldA Tryd.prog 85 s6 1 w fun x33 w =>
        sFldA Tryd.prog 73 x33 4 w fun x34 w =>
        sLoad Tryd.prog 9 x34 w fun x35 w =>
        sRange Tryd.prog 9 x35 w fun x36 w =>
        LoopS [x28, x32] 2 13 w fun us _ w Nx2 =>
          rope_Rope_Behind_L2 M1 Nx2 k1 x36 (hd us) (hd (tl us)) w) fun us _ w =>
        rope_Rope_Behind_J1 K (hd us) w))

def rope_Rope_Behind.sc : SC := (.seq (.reg (.op 0 (.op 1 .done))) (.seq (.seq (.reg (.op 0 (.op 1 .done))) (.cond (.seq (.reg (.op 0 (.op 1 .done))) .nop) .nop)) (.seq (.reg (.op 0 (.op 1 (.op 2 (.op 3 (.op 4 (.op 5 (.op 6 (.op 7 (.op 8 (.op 9 (.op 10 .done)))))))))))) (.seq (.seq (.reg (.op 0 (.op 1 .done))) (.cond (.seq (.reg (.op 0 (.op 1 (.op 2 .done)))) .nop) .nop)) (.seq (.draw (.op 0 (.op 1 (.op 2 (.op 3 (.op 4 (.op 5 (.op 6 (.op 7 (.op 8 (.op 9 .done))))))))))) (.join [9] [33, 34, 35, 36, 37, 38, 39, 12, 40, 41, 42, 43, 44, 45, 10, 46, 47, 48] (.seq (.reg (.op 0 (.op 1 (.op 2 (.op 3 .done))))) (.sub (.loop [9, 10] [37, 38, 39, 12, 40, 41, 42, 43, 44, 45, 46, 47, 48] (.seq (.reg (.op 0 (.op 1 .done))) (.seq (.cond .nop .nop) (.sub (.seq (.reg (.op 0 (.op 1 .done))) (.seq (.reg (.op 0 (.op 1 (.op 2 .done)))) (.join [10] [42, 43, 44, 45] (.seq (.reg (.op 0 (.op 1 .done))) (.cond (.reg (.op 0 (.op 1 (.op 2 .done)))) .nop)) (.seq (.reg (.op 0 (.op 1 (.op 2 .done)))) (.cond .nop .nop))))))))))) (.seq (.reg (.op 0 (.op 1 (.op 2 .done)))) .nop)))))))

theorem rope_Rope_Behind.ok : okC Tryd.f31.ntmps rope_Rope_Behind.sc (bodyOf Tryd.f31) = true := by kernel_rfl

theorem rope_Rope_Behind.eq {K : K1} {r0 k1 : Value} {w : World} : rope_Rope_Behind K r0 k1 w = codeS Tryd.prog rope_Rope_Behind.sc (bodyOf Tryd.f31) (argsF 0 [r0, k1]) w (retQ Tryd.prog Tryd.f31.results.toList K) := by kernel_rfl

theorem rope_Rope_Behind.call {K : K1} {r0 k1 : Value} {w : World} (h : rope_Rope_Behind K r0 k1 w) : sCall Tryd.prog 31 [r0, k1] w K := sCall_code mixed Tryd.func31 (by kernel_rfl) rfl rfl rope_Rope_Behind.ok rope_Rope_Behind.eq h

abbrev rope_Rope_Behind.n : Nat := 31

/-- '(*bodkin rope.Rope).Slice' -/
def rope_Rope_Slice_L1 (K : K1) (Nx1 : List Value → World → Prop) (out14 x22 x35 x45 x50 : Value) (w : World) : Prop :=
  sCall Tryd.prog 47 [out14] w fun x52 w =>
  sBin Tryd.prog .add 3 false false x50 x52 w fun x53 w =>
  sBin Tryd.prog .lss 3 false false x53 x35 w fun x55 w =>
  sIf x55 (
    sCall Tryd.prog 48 [x45] w fun x58 w =>
    sExtract x58 0 w fun x59 w =>
    sExtract x58 1 w fun x60 w =>
    sAlloc Tryd.prog 73 w fun i16 w =>
    sStore Tryd.prog 73 i16 x59 w fun w =>
    sFldA Tryd.prog 73 i16 4 w fun x61 w =>
    sLoad Tryd.prog 9 x61 w fun x62 w =>
    sCall Tryd.prog 49 [out14, x62] w fun x63 w =>
    sCall Tryd.prog 50 [x45] w fun x65 w =>
    Nx1 [] w) (
    sCall Tryd.prog 47 [out14] w fun x66 w =>
    sBin Tryd.prog .eql 3 false true x66 (.int .i64 0) w fun x67 w =>
    sIf x67 (
      K (.tuple #[(.string ⟨#[]⟩), (.int .i64 0)]) w) (
      sCall Tryd.prog 51 [out14] w fun x68 w =>
      sBin Tryd.prog .sub 3 false false x22 x50 w fun x71 w =>
      sBin Tryd.prog .sub 3 false false x35 x50 w fun x74 w =>
      sSlice Tryd.prog 9 x68 (some x71) (some x74) none w fun x75 w =>
      K (.tuple #[x75, (.int .i64 0)]) w))

def rope_Rope_Slice (K : K1) (r0 from1 to2 : Value) (w : World) : Prop :=
  sCall Tryd.prog 45 [r0, from1] w fun x21 w =>
  sExtract x21 0 w fun x22 w =>
  sExtract x21 1 w fun x23 w =>
  sBin Tryd.prog .neq 26 false true x23 (.int .i64 0) w fun x25 w =>
  sIf x25 (
    K (.tuple #[(.string ⟨#[]⟩), (.int .i64 1)]) w) (
    sBin Tryd.prog .lss 3 false false to2 from1 w fun x29 w =>
    sIf x29 (
      K (.tuple #[(.string ⟨#[]⟩), (.int .i64 1)]) w) (
      sCall Tryd.prog 45 [r0, to2] w fun x34 w =>
      sExtract x34 0 w fun x35 w =>
      sExtract x34 1 w fun x36 w =>
      sBin Tryd.prog .neq 26 false true x36 (.int .i64 0) w fun x38 w =>
      sIf x38 (
        K (.tuple #[(.string ⟨#[]⟩), x36]) w) (
        sCall Tryd.prog 44 [r0, (.int .i64 1), from1, (.int .i64 1)] w fun x43 w =>
        sExtract x43 0 w fun x44 w =>
        sExtract x43 1 w fun x45 w =>
        sExtract x43 2 w fun x46 w =>
        sAlloc Tryd.prog 85 w fun x11 w =>
        sStore Tryd.prog 85 x11 x44 w fun w =>
        sAlloc Tryd.prog 97 w fun out14 w =>
        sCall Tryd.prog 46 [x45] w fun x48 w =>
        sFld Tryd.prog 83 x48 1 w fun x49 w =>
        sIdx Tryd.prog 71 x49 (.int .i64 0) w fun x50 w =>
        LoopS [] 0 17 w fun us _ w Nx1 =>
          rope_Rope_Slice_L1 K Nx1 out14 x22 x35 x45 x50 w)))

def rope_Rope_Slice.sc : SC := (.seq (.reg (.op 0 (.op 1 .done))) (.seq (.reg (.op 0 (.op 1 (.op 2 (.op 3 (.op 4 (.op 5 (.op 6 (.op 7 .done))))))))) (.seq (.seq (.reg (.op 0 (.op 1 (.op 2 (.test 2 (.skip 3 (.skip 4 (.skip 5 (.op 6 .done)))) (.op 3 (.op 4 (.op 5 (.op 6 .done))))))))) (.cond (.seq (.reg (.op 0 (.op 1 .done))) .nop) .nop)) (.seq (.reg (.op 0 (.op 1 (.op 2 (.op 3 (.op 4 (.op 5 (.op 6 (.op 7 .done))))))))) (.seq (.seq (.reg (.op 0 (.op 1 .done))) (.cond (.seq (.reg (.op 0 (.op 1 (.op 2 .done)))) .nop) .nop)) (.seq (.reg (.op 0 (.op 1 (.op 2 (.op 3 (.op 4 (.op 5 (.op 6 (.op 7 (.op 8 (.op 9 (.op 10 .done)))))))))))) (.seq (.reg (.op 0 .done)) (.seq (.reg (.op 0 (.op 1 (.op 2 (.op 3 (.op 4 .done)))))) (.seq (.sub (.loop [] [51, 52, 53, 54, 55, 57, 58, 56, 59, 60, 16, 17, 61, 62, 63, 64, 65] (.seq (.seq (.reg (.op 0 (.op 1 (.op 2 (.op 3 (.op 4 .done)))))) (.cond .nop .nop)) (.sub (.seq (.reg (.op 0 (.op 1 (.op 2 (.op 3 (.op 4 (.op 5 (.op 6 (.op 7 .done))))))))) (.seq (.reg (.op 0 (.op 1 (.op 2 .done)))) (.reg (.op 0 (.op 1 .done))))))))) (.seq (.seq (.reg (.op 0 (.op 1 .done))) (.cond (.seq (.reg (.op 0 (.op 1 .done))) .nop) .nop)) (.seq (.reg (.op 0 (.op 1 (.op 2 (.op 3 (.op 4 (.op 5 (.op 6 (.op 7 (.op 8 (.op 9 .done))))))))))) .nop)))))))))))

theorem rope_Rope_Slice.ok : okC Tryd.f32.ntmps rope_Rope_Slice.sc (bodyOf Tryd.f32) = true := by kernel_rfl

theorem rope_Rope_Slice.eq {K : K1} {r0 from1 to2 : Value} {w : World} : rope_Rope_Slice K r0 from1 to2 w = codeS Tryd.prog rope_Rope_Slice.sc (bodyOf Tryd.f32) (argsF 0 [r0, from1, to2]) w (retQ Tryd.prog Tryd.f32.results.toList K) := by kernel_rfl

theorem rope_Rope_Slice.call {K : K1} {r0 from1 to2 : Value} {w : World} (h : rope_Rope_Slice K r0 from1 to2 w) : sCall Tryd.prog 32 [r0, from1, to2] w K := sCall_code mixed Tryd.func32 (by kernel_rfl) rfl rfl rope_Rope_Slice.ok rope_Rope_Slice.eq h

abbrev rope_Rope_Slice.n : Nat := 32

/-- 'bodkin bodkinref01.size' -/
def bodkinref01_size_J1 (K : K1) (r0 : Value) (w : World) : Prop :=
  sBin Tryd.prog .lss 21 false true r0 (.int .i32 128) w fun x18 w =>
  sIf x18 (
    K (.int .i64 1) w) (
    sBin Tryd.prog .lss 21 false true r0 (.int .i32 2048) w fun x20 w =>
    sIf x20 (
      K (.int .i64 2) w) (
      sBin Tryd.prog .lss 21 false true r0 (.int .i32 65536) w fun x22 w =>
      sIf x22 (
        K (.int .i64 3) w) (
        K (.int .i64 4) w)))

def bodkinref01_size (K : K1) (r0 : Value) (w : World) : Prop :=
  JoinS 0 15 (fun M1 =>
    sBin Tryd.prog .lss 21 false true r0 (.int .i32 0) w fun x4 w =>
    sIf x4 (
      K (.int .i64 0) w) (
      sBin Tryd.prog .gtr 21 false true r0 (.int .i32 1114111) w fun x7 w =>
      sIf x7 (
        K (.int .i64 0) w) (
        sBin Tryd.prog .geq 21 false true r0 (.int .i32 55296) w fun x11 w =>
        sIf x11 (
          sBin Tryd.prog .leq 21 false true r0 (.int .i32 57343) w fun x14 w =>
          sIf x14 (
            K (.int .i64 0) w) (
            M1 [] w)) (
          M1 [] w)))) fun us _ w =>
    bodkinref01_size_J1 K r0 w

def bodkinref01_size.sc : SC := (.seq (.reg (.op 0 .done)) (.join [] [3, 4, 5, 6, 7, 8, 9, 10, 11, 12, 13, 14, 15, 16, 2] (.seq (.reg (.op 0 (.op 1 (.op 2 (.test 2 (.skip 3 (.skip 4 (.op 5 (.op 6 (.know 6 true (.skip 7 (.skip 8 (.skip 9 (.skip 10 (.skip 11 (.skip 12 (.op 13 .done)))))))))))) (.op 3 (.op 4 (.op 5 (.op 6 (.test 6 (.skip 7 (.skip 8 (.skip 9 (.skip 10 (.skip 11 (.skip 12 (.op 13 .done))))))) (.op 7 (.op 8 (.op 9 (.test 9 (.op 10 (.op 11 (.op 12 (.op 13 .done)))) (.skip 10 (.skip 11 (.op 12 (.op 13 .done)))))))))))))))))) (.cond (.seq (.reg (.op 0 .done)) .nop) .nop)) (.seq (.seq (.reg (.op 0 (.op 1 .done))) (.cond (.seq (.reg (.op 0 .done)) .nop) .nop)) (.seq (.seq (.reg (.op 0 (.op 1 .done))) (.cond (.seq (.reg (.op 0 .done)) .nop) .nop)) (.seq (.seq (.reg (.op 0 (.op 1 .done))) (.cond (.seq (.reg (.op 0 .done)) .nop) .nop)) (.seq (.reg (.op 0 .done)) .nop))))))

theorem bodkinref01_size.ok : okC Tryd.f33.ntmps bodkinref01_size.sc (bodyOf Tryd.f33) = true := by kernel_rfl

theorem bodkinref01_size.eq {K : K1} {r0 : Value} {w : World} : bodkinref01_size K r0 w = codeS Tryd.prog bodkinref01_size.sc (bodyOf Tryd.f33) (argsF 0 [r0]) w (retQ Tryd.prog Tryd.f33.results.toList K) := by kernel_rfl

theorem bodkinref01_size.call {K : K1} {r0 : Value} {w : World} (h : bodkinref01_size K r0 w) : sCall Tryd.prog 33 [r0] w K := sCall_code mixed Tryd.func33 (by kernel_rfl) rfl rfl bodkinref01_size.ok bodkinref01_size.eq h

abbrev bodkinref01_size.n : Nat := 33

/-- 'bodkin bodkinref01.one' -/
def bodkinref01_one (K : K1) (r0 n1 : Value) (w : World) : Prop :=
  sBin Tryd.prog .eql 3 false true n1 (.int .i64 1) w fun x7 w =>
  sIf x7 (
    sConv Tryd.prog 21 5 r0 w fun x9 w =>
    sBuildSlice Tryd.prog 95 1 [(0, x9)] w fun x10 w =>
    sConv Tryd.prog 95 9 x10 w fun x11 w =>
    K x11 w) (
    sBin Tryd.prog .eql 3 false true n1 (.int .i64 2) w fun x13 w =>
    sIf x13 (
      sBin Tryd.prog .quo 21 false true r0 (.int .i32 64) w fun x15 w =>
      sBin Tryd.prog .add 21 true false (.int .i32 192) x15 w fun x16 w =>
      sConv Tryd.prog 21 5 x16 w fun x17 w =>
      sBin Tryd.prog .rem 21 false true r0 (.int .i32 64) w fun x19 w =>
      sBin Tryd.prog .add 21 true false (.int .i32 128) x19 w fun x20 w =>
      sConv Tryd.prog 21 5 x20 w fun x21 w =>
      sBuildSlice Tryd.prog 95 2 [(0, x17), (1, x21)] w fun x22 w =>
      sConv Tryd.prog 95 9 x22 w fun x23 w =>
      K x23 w) (
      sBin Tryd.prog .eql 3 false true n1 (.int .i64 3) w fun x25 w =>
      sIf x25 (
        sBin Tryd.prog .quo 21 false true r0 (.int .i32 4096) w fun x27 w =>
        sBin Tryd.prog .add 21 true false (.int .i32 224) x27 w fun x28 w =>
        sConv Tryd.prog 21 5 x28 w fun x29 w =>
        sBin Tryd.prog .quo 21 false true r0 (.int .i32 64) w fun x31 w =>
        sBin Tryd.prog .rem 21 false true x31 (.int .i32 64) w fun x32 w =>
        sBin Tryd.prog .add 21 true false (.int .i32 128) x32 w fun x33 w =>
        sConv Tryd.prog 21 5 x33 w fun x34 w =>
        sBin Tryd.prog .rem 21 false true r0 (.int .i32 64) w fun x36 w =>
        sBin Tryd.prog .add 21 true false (.int .i32 128) x36 w fun x37 w =>
        sConv Tryd.prog 21 5 x37 w fun x38 w =>
        sBuildSlice Tryd.prog 95 3 [(0, x29), (1, x34), (2, x38)] w fun x39 w =>
        sConv Tryd.prog 95 9 x39 w fun x40 w =>
        K x40 w) (
        sBin Tryd.prog .quo 21 false true r0 (.int .i32 262144) w fun x42 w =>
        sBin Tryd.prog .add 21 true false (.int .i32 240) x42 w fun x43 w =>
        sConv Tryd.prog 21 5 x43 w fun x44 w =>
        sBin Tryd.prog .quo 21 false true r0 (.int .i32 4096) w fun x46 w =>
        sBin Tryd.prog .rem 21 false true x46 (.int .i32 64) w fun x47 w =>
        sBin Tryd.prog .add 21 true false (.int .i32 128) x47 w fun x48 w =>
        sConv Tryd.prog 21 5 x48 w fun x49 w =>
        sBin Tryd.prog .quo 21 false true r0 (.int .i32 64) w fun x51 w =>
        sBin Tryd.prog .rem 21 false true x51 (.int .i32 64) w fun x52 w =>
        sBin Tryd.prog .add 21 true false (.int .i32 128) x52 w fun x53 w =>
        sConv Tryd.prog 21 5 x53 w fun x54 w =>
        sBin Tryd.prog .rem 21 false true r0 (.int .i32 64) w fun x56 w =>
        sBin Tryd.prog .add 21 true false (.int .i32 128) x56 w fun x57 w =>
        sConv Tryd.prog 21 5 x57 w fun x58 w =>
        sBuildSlice Tryd.prog 95 4 [(0, x44), (1, x49), (2, x54), (3, x58)] w fun x59 w =>
        sConv Tryd.prog 95 9 x59 w fun x60 w =>
        K x60 w)))

def bodkinref01_one.sc : SC := (.seq (.reg (.op 0 .done)) (.seq (.seq (.reg (.op 0 .done)) (.sub (.seq (.reg (.op 0 (.op 1 .done))) (.cond (.seq (.reg (.op 0 (.op 1 (.op 2 (.op 3 (.op 4 .done)))))) .nop) (.seq (.reg (.op 0 (.op 1 .done))) (.cond (.seq (.reg (.op 0 (.op 1 (.op 2 (.op 3 (.op 4 (.op 5 (.op 6 (.op 7 (.op 8 (.op 9 (.op 10 .done)))))))))))) .nop) (.seq (.reg (.op 0 (.op 1 .done))) (.cond (.seq (.reg (.op 0 (.op 1 (.op 2 (.op 3 (.op 4 (.op 5 (.op 6 (.op 7 (.op 8 (.op 9 (.op 10 (.op 11 (.op 12 (.op 13 (.op 14 (.op 15 .done))))))))))))))))) .nop) .nop)))))))) (.seq (.reg (.op 0 (.op 1 (.op 2 (.op 3 (.op 4 (.op 5 (.op 6 (.op 7 (.op 8 (.op 9 (.op 10 (.op 11 (.op 12 (.op 13 (.op 14 (.op 15 (.op 16 (.op 17 (.op 18 (.op 19 (.op 20 .done)))))))))))))))))))))) .nop)))

theorem bodkinref01_one.ok : okC Tryd.f34.ntmps bodkinref01_one.sc (bodyOf Tryd.f34) = true := by kernel_rfl

theorem bodkinref01_one.eq {K : K1} {r0 n1 : Value} {w : World} : bodkinref01_one K r0 n1 w = codeS Tryd.prog bodkinref01_one.sc (bodyOf Tryd.f34) (argsF 0 [r0, n1]) w (retQ Tryd.prog Tryd.f34.results.toList K) := by kernel_rfl

theorem bodkinref01_one.call {K : K1} {r0 n1 : Value} {w : World} (h : bodkinref01_one K r0 n1 w) : sCall Tryd.prog 34 [r0, n1] w K := sCall_code mixed Tryd.func34 (by kernel_rfl) rfl rfl bodkinref01_one.ok bodkinref01_one.eq h

abbrev bodkinref01_one.n : Nat := 34

/-- 'bodkin item.Check' -/
def item_Check_L1 (K : K1) (Nx1 : List Value → World → Prop) (x10 : Value) (ok3 x11 : Value) (w : World) : Prop :=
  sBin Tryd.prog .lss 3 false true x11 (.int .i64 3) w fun x12 w =>
  sIf x12 (
    sIdx Tryd.prog 71 x10 x11 w fun x13 w =>
    sIf ok3 (
      sCall Tryd.prog 52 [x13] w fun x17 w =>
      sBin Tryd.prog .add 3 false true x11 (.int .i64 1) w fun x19 w =>
      Nx1 [x17, x19] w) (
      sBin Tryd.prog .add 3 false true x11 (.int .i64 1) w fun x19_1 w =>
      Nx1 [(.bool false), x19_1] w)) (
    sUn Tryd.prog .not ok3 w fun x21 w =>
    sIf x21 (
      K (.int .i64 1) w) (
      K (.int .i64 0) w))

def item_Check (K : K1) (i0 : Value) (w : World) : Prop :=
  sBox Tryd.prog 73 i0 w fun i1 w =>
  sFldA Tryd.prog 73 i1 3 w fun x6 w =>
  sLoad Tryd.prog 3 x6 w fun x7 w =>
  sCall Tryd.prog 52 [x7] w fun x8 w =>
  sFldA Tryd.prog 73 i1 2 w fun x9 w =>
  sLoad Tryd.prog 71 x9 w fun x10 w =>
  LoopS [x8, (.int .i64 0)] 2 9 w fun us _ w Nx1 =>
    item_Check_L1 K Nx1 x10 (hd us) (hd (tl us)) w

def item_Check.sc : SC := (.seq (.reg (.op 0 (.op 1 .done))) (.seq (.reg (.op 0 (.op 1 (.op 2 (.op 3 .done))))) (.seq (.seq (.reg (.op 0 (.op 1 (.op 2 .done)))) (.sub (.loop [3, 11] [12, 13, 5, 14, 15, 16, 17, 18, 19] (.seq (.reg (.op 0 .done)) (.seq (.cond .nop .nop) (.seq (.sub (.seq (.reg (.op 0 (.op 1 .done))) (.reg (.op 0 (.op 1 (.test 1 (.op 2 (.op 3 (.op 4 (.op 5 .done)))) (.skip 2 (.skip 3 (.op 4 (.op 5 .done)))))))))) (.reg (.op 0 (.op 1 .done))))))))) (.seq (.seq (.reg (.op 0 (.op 1 .done))) (.cond (.seq (.reg (.op 0 .done)) .nop) .nop)) (.seq (.reg (.op 0 .done)) .nop)))))

theorem item_Check.ok : okC Tryd.f35.ntmps item_Check.sc (bodyOf Tryd.f35) = true := by kernel_rfl

theorem item_Check.eq {K : K1} {i0 : Value} {w : World} : item_Check K i0 w = codeS Tryd.prog item_Check.sc (bodyOf Tryd.f35) (argsF 0 [i0]) w (retQ Tryd.prog Tryd.f35.results.toList K) := by kernel_rfl

theorem item_Check.call {K : K1} {i0 : Value} {w : World} (h : item_Check K i0 w) : sCall Tryd.prog 35 [i0] w K := sCall_code mixed Tryd.func35 (by kernel_rfl) rfl rfl item_Check.ok item_Check.eq h

abbrev item_Check.n : Nat := 35

/-- 'bodkin tree.join' -/
def tree_join (K : K1) (a0 b1 : Value) (w : World) : Prop :=
  sBin Tryd.prog .eql 70 false true a0 .nilIface w fun x8 w =>
  sIf x8 (
    K b1 w) (
    sBin Tryd.prog .eql 70 false true b1 .nilIface w fun x12 w =>
    sIf x12 (
      K a0 w) (
      sCall Tryd.prog 53 [a0, b1] w fun x16 w =>
      sBuiltin Tryd.prog .len [106] 3 [x16] w fun x18 w =>
      sBin Tryd.prog .eql 3 false true x18 (.int .i64 1) w fun x19 w =>
      sIf x19 (
        sIdxA Tryd.prog 106 x16 (.int .i64 0) w fun x21 w =>
        sLoad Tryd.prog 70 x21 w fun x22 w =>
        K x22 w) (
        sCall Tryd.prog 54 [x16] w fun x24 w =>
        sIface Tryd.prog 108 x24 w fun x25 w =>
        K x25 w)))

def tree_join.sc : SC := (.seq (.reg (.op 0 .done)) (.seq (.sub (.seq (.reg (.op 0 (.op 1 (.op 2 .done)))) (.cond (.seq (.reg (.op 0 (.op 1 .done))) .nop) (.seq (.reg (.op 0 (.op 1 (.op 2 .done)))) (.cond (.seq (.reg (.op 0 (.op 1 .done))) .nop) .nop))))) (.seq (.reg (.op 0 (.op 1 (.op 2 (.op 3 .done))))) (.seq (.seq (.reg (.op 0 (.op 1 (.op 2 .done)))) (.cond (.seq (.reg (.op 0 (.op 1 (.op 2 (.op 3 .done))))) .nop) .nop)) (.seq (.reg (.op 0 (.op 1 (.op 2 (.op 3 .done))))) .nop)))))

theorem tree_join.ok : okC Tryd.f36.ntmps tree_join.sc (bodyOf Tryd.f36) = true := by kernel_rfl

theorem tree_join.eq {K : K1} {a0 b1 : Value} {w : World} : tree_join K a0 b1 w = codeS Tryd.prog tree_join.sc (bodyOf Tryd.f36) (argsF 0 [a0, b1]) w (retQ Tryd.prog Tryd.f36.results.toList K) := by kernel_rfl

theorem tree_join.call {K : K1} {a0 b1 : Value} {w : World} (h : tree_join K a0 b1 w) : sCall Tryd.prog 36 [a0, b1] w K := sCall_code mixed Tryd.func36 (by kernel_rfl) rfl rfl tree_join.ok tree_join.eq h

abbrev tree_join.n : Nat := 36

/-- 'bodkin tree.leafOf' -/
def tree_leafOf (K : K1) (l0 : Value) (w : World) : Prop :=
  sCall Tryd.prog 55 [l0] w fun x5 w =>
  sBuild Tryd.prog 112 [(0, l0), (1, x5)] w fun x6 w =>
  sBox Tryd.prog 112 x6 w fun x7 w =>
  K x7 w

def tree_leafOf.sc : SC := (.seq (.reg (.op 0 .done)) (.seq (.reg (.op 0 (.op 1 (.op 2 (.op 3 (.op 4 (.op 5 .done))))))) .nop))

theorem tree_leafOf.ok : okC Tryd.f37.ntmps tree_leafOf.sc (bodyOf Tryd.f37) = true := by kernel_rfl

theorem tree_leafOf.eq {K : K1} {l0 : Value} {w : World} : tree_leafOf K l0 w = codeS Tryd.prog tree_leafOf.sc (bodyOf Tryd.f37) (argsF 0 [l0]) w (retQ Tryd.prog Tryd.f37.results.toList K) := by kernel_rfl

theorem tree_leafOf.call {K : K1} {l0 : Value} {w : World} (h : tree_leafOf K l0 w) : sCall Tryd.prog 37 [l0] w K := sCall_code mixed Tryd.func37 (by kernel_rfl) rfl rfl tree_leafOf.ok tree_leafOf.eq h

abbrev tree_leafOf.n : Nat := 37

/-- 'bodkin rope.pieceOf' -/
def rope_pieceOf_L1 (K : K1) (Nx1 : List Value → World → Prop) (i3 l0 x19 x2 : Value) (x20 : Value) (w : World) : Prop :=
  sBin Tryd.prog .lss 3 false false x20 x19 w fun x21 w =>
  sIf x21 (
    sIdxA Tryd.prog 29 l0 x20 w fun x22 w =>
    sLoad Tryd.prog 21 x22 w fun x23 w =>
    sBin Tryd.prog .eql 21 false true x23 (.int .i32 10) w fun x25 w =>
    sIf x25 (
      sFldA Tryd.prog 73 i3 2 w fun x26 w =>
      sIdxA Tryd.prog 71 x26 (.int .i64 2) w fun x27 w =>
      sLoad Tryd.prog 3 x27 w fun x28 w =>
      sBin Tryd.prog .add 3 false true x28 (.int .i64 1) w fun x29 w =>
      sFldA Tryd.prog 73 i3 2 w fun x30 w =>
      sIdxA Tryd.prog 71 x30 (.int .i64 2) w fun x31 w =>
      sStore Tryd.prog 3 x31 x29 w fun w =>
      sBin Tryd.prog .add 3 false true x20 (.int .i64 1) w fun x32 w =>
      Nx1 [x32] w) (
      sBin Tryd.prog .add 3 false true x20 (.int .i64 1) w fun x32_1 w =>
      Nx1 [x32_1] w)) (
    sLoad Tryd.prog 73 i3 w fun x33 w =>
    sStore Tryd.prog 73 x2 x33 w fun w =>
    sLoad Tryd.prog 73 x2 w fun v w' => w' = w ∧ K v w)

def rope_pieceOf (K : K1) (l0 : Value) (w : World) : Prop :=
  sAlloc Tryd.prog 73 w fun x2 w =>
  sCall Tryd.prog 56 [l0] w fun x7 w =>
  sBuild Tryd.prog 73 [(4, x7)] w fun x8 w =>
  sAlloc Tryd.prog 73 w fun i3 w =>
  sStore Tryd.prog 73 i3 x8 w fun w =>
  sFldA Tryd.prog 73 i3 4 w fun x9 w =>
  sLoad Tryd.prog 9 x9 w fun x10 w =>
  sBuiltin Tryd.prog .len [9] 3 [x10] w fun x11 w =>
  sBuiltin Tryd.prog .len [29] 3 [l0] w fun x13 w =>
  sFldA Tryd.prog 73 i3 2 w fun x14 w =>
  sIdxA Tryd.prog 71 x14 (.int .i64 0) w fun x15 w =>
  sStore Tryd.prog 3 x15 x11 w fun w =>
  sFldA Tryd.prog 73 i3 2 w fun x16 w =>
  sIdxA Tryd.prog 71 x16 (.int .i64 1) w fun x17 w =>
  sStore Tryd.prog 3 x17 x13 w fun w =>
  sBuiltin Tryd.prog .len [29] 3 [l0] w fun x19 w =>
  LoopS [(.int .i64 0)] 1 13 w fun us _ w Nx1 =>
    rope_pieceOf_L1 K Nx1 i3 l0 x19 x2 (hd us) w

def rope_pieceOf.sc : SC := (.seq (.reg (.op 0 .done)) (.seq (.reg (.op 0 (.op 1 (.op 2 (.op 3 (.op 4 .done)))))) (.seq (.reg (.op 0 (.op 1 (.op 2 (.op 3 (.op 4 (.op 5 (.op 6 (.op 7 (.op 8 (.op 9 (.op 10 .done)))))))))))) (.seq (.seq (.reg (.op 0 (.op 1 (.op 2 .done)))) (.sub (.loop [20] [21, 22, 23, 5, 24, 25, 26, 27, 28, 29, 30, 31, 32] (.seq (.reg (.op 0 .done)) (.seq (.cond .nop .nop) (.seq (.sub (.seq (.reg (.op 0 (.op 1 (.op 2 .done)))) (.seq (.reg (.op 0 (.op 1 .done))) (.cond (.reg (.op 0 (.op 1 (.op 2 (.op 3 (.op 4 (.op 5 (.op 6 .done)))))))) .nop)))) (.reg (.op 0 (.op 1 .done))))))))) (.seq (.reg (.op 0 (.op 1 .done))) .nop)))))

theorem rope_pieceOf.ok : okC Tryd.f38.ntmps rope_pieceOf.sc (bodyOf Tryd.f38) = true := by kernel_rfl

theorem rope_pieceOf.eq {K : K1} {l0 : Value} {w : World} : rope_pieceOf K l0 w = codeS Tryd.prog rope_pieceOf.sc (bodyOf Tryd.f38) (argsF 0 [l0]) w (retQ Tryd.prog Tryd.f38.results.toList K) := by kernel_rfl

theorem rope_pieceOf.call {K : K1} {l0 : Value} {w : World} (h : rope_pieceOf K l0 w) : sCall Tryd.prog 38 [l0] w K := sCall_code mixed Tryd.func38 (by kernel_rfl) rfl rfl rope_pieceOf.ok rope_pieceOf.eq h

abbrev rope_pieceOf.n : Nat := 38

/-- 'bodkin bodkinref01.number' -/
def bodkinref01_number_L2 (K : K1) (Nx2 : List Value → World → Prop) (s0 : Value) (first3_1 i4 : Value) (w : World) : Prop :=
  sBuiltin Tryd.prog .len [9] 3 [s0] w fun x25 w =>
  sBin Tryd.prog .lss 3 false false i4 x25 w fun x26 w =>
  sIf x26 (
    sBin Tryd.prog .mul 21 true false (.int .i32 64) first3_1 w fun x30 w =>
    sIdx Tryd.prog 9 s0 i4 w fun x33 w =>
    sConv Tryd.prog 5 21 x33 w fun x34 w =>
    sBin Tryd.prog .add 21 false false x30 x34 w fun x35 w =>
    sBin Tryd.prog .sub 21 false true x35 (.int .i32 128) w fun x36 w =>
    sBin Tryd.prog .add 3 false true i4 (.int .i64 1) w fun x28 w =>
    Nx2 [x36, x28] w) (
    K first3_1 w)

def bodkinref01_number_J1 (K : K1) (s0 : Value) (first3 : Value) (w : World) : Prop :=
  LoopS [first3, (.int .i64 1)] 2 14 w fun us _ w Nx2 =>
    bodkinref01_number_L2 K Nx2 s0 (hd us) (hd (tl us)) w

def bodkinref01_number (K : K1) (s0 : Value) (w : World) : Prop :=
  sIdx Tryd.prog 9 s0 (.int .i64 0) w fun x6 w =>
  sConv Tryd.prog 5 21 x6 w fun x7 w =>
  JoinS 1 16 (fun M1 =>
    sBuiltin Tryd.prog .len [9] 3 [s0] w fun x9 w =>
    sBin Tryd.prog .eql 3 false true x9 (.int .i64 1) w fun x13 w =>
    sIf x13 (
      K x7 w) (
      sBin Tryd.prog .eql 3 false true x9 (.int .i64 2) w fun x16 w =>
      sIf x16 (
        sBin Tryd.prog .sub 21 false true x7 (.int .i32 192) w fun x18 w =>
        M1 [x18] w) (
        sBin Tryd.prog .eql 3 false true x9 (.int .i64 3) w fun x20 w =>
        sIf x20 (
          sBin Tryd.prog .sub 21 false true x7 (.int .i32 224) w fun x22 w =>
          M1 [x22] w) (
          sBin Tryd.prog .sub 21 false true x7 (.int .i32 240) w fun x11 w =>
          M1 [x11] w)))) fun us _ w =>
    bodkinref01_number_J1 K s0 (hd us) w

def bodkinref01_number.sc : SC := (.seq (.reg (.op 0 .done)) (.seq (.reg (.op 0 (.op 1 (.op 2 (.op 3 .done))))) (.join [3] [8, 9, 13, 12, 14, 2, 16, 15, 17, 18, 20, 19, 21, 22, 10, 11] (.seq (.reg (.op 0 (.op 1 .done))) (.sub (.seq (.reg (.op 0 (.op 1 .done))) (.cond (.seq (.reg (.op 0 (.op 1 .done))) .nop) (.seq (.reg (.op 0 (.op 1 .done))) (.cond (.reg (.op 0 (.op 1 (.op 2 .done)))) (.seq (.reg (.op 0 (.op 1 .done))) (.cond (.reg (.op 0 (.op 1 (.op 2 .done)))) (.reg (.op 0 (.op 1 (.op 2 .done)))))))))))) (.seq (.seq (.reg (.op 0 .done)) (.sub (.loop [3, 4] [23, 24, 25, 26, 29, 30, 31, 32, 33, 34, 35, 36, 27, 28] (.seq (.seq (.reg (.op 0 (.op 1 (.op 2 (.op 3 .done))))) (.cond .nop .nop)) (.seq (.sub (.reg (.op 0 (.op 1 (.op 2 (.op 3 (.op 4 (.op 5 (.op 6 (.op 7 (.op 8 .done))))))))))) (.reg (.op 0 (.op 1 (.op 2 .done))))))))) (.seq (.reg (.op 0 (.op 1 .done))) .nop)))))

theorem bodkinref01_number.ok : okC Tryd.f39.ntmps bodkinref01_number.sc (bodyOf Tryd.f39) = true := by kernel_rfl

theorem bodkinref01_number.eq {K : K1} {s0 : Value} {w : World} : bodkinref01_number K s0 w = codeS Tryd.prog bodkinref01_number.sc (bodyOf Tryd.f39) (argsF 0 [s0]) w (retQ Tryd.prog Tryd.f39.results.toList K) := by kernel_rfl

theorem bodkinref01_number.call {K : K1} {s0 : Value} {w : World} (h : bodkinref01_number K s0 w) : sCall Tryd.prog 39 [s0] w K := sCall_code mixed Tryd.func39 (by kernel_rfl) rfl rfl bodkinref01_number.ok bodkinref01_number.eq h

abbrev bodkinref01_number.n : Nat := 39

/-- '(*bodkin rope.Rope).place' -/
def rope_Rope_place_L2 (M1 : List Value → World → Prop) (Nx2 : List Value → World → Prop) (at1 s6 x34 : Value) (n9 : Value) (w : World) : Prop :=
  sNext Tryd.prog x34 true 0 w fun x35 w =>
  sExtract x35 0 w fun x36 w =>
  sIf x36 (
    sExtract x35 1 w fun x37 w =>
    sBin Tryd.prog .eql 3 false false n9 at1 w fun x40 w =>
    sIf x40 (
      sFldA Tryd.prog 85 s6 2 w fun x42 w =>
      sStore Tryd.prog 3 x42 x37 w fun w =>
      M1 [] w) (
      sBin Tryd.prog .add 3 false true n9 (.int .i64 1) w fun x44 w =>
      Nx2 [x44] w)) (
    M1 [] w)

def rope_Rope_place_J1 (K : K1) (s6 x4 : Value) (w : World) : Prop :=
  sLoad Tryd.prog 85 s6 w fun x45 w =>
  sStore Tryd.prog 85 x4 x45 w fun w =>
  sLoad Tryd.prog 85 x4 w fun v w' => w' = w ∧ K (.tuple #[v, (.int .i64 0)]) w

def rope_Rope_place (K : K1) (r0 at1 : Value) (w : World) : Prop :=
  sAlloc Tryd.prog 85 w fun x4 w =>
  sCall Tryd.prog 44 [r0, (.int .i64 1), at1, (.int .i64 1)] w fun x14 w =>
  sExtract x14 0 w fun x15 w =>
  sExtract x14 1 w fun x16 w =>
  sExtract x14 2 w fun x17 w =>
  sAlloc Tryd.prog 85 w fun s6 w =>
  sStore Tryd.prog 85 s6 x15 w fun w =>
  sBin Tryd.prog .neq 26 false true x17 (.int .i64 0) w fun x19 w =>
  sIf x19 (
    sBuild Tryd.prog 85 [] w fun x20 w =>
    sStore Tryd.prog 85 x4 x20 w fun w =>
    sLoad Tryd.prog 85 x4 w fun v w' => w' = w ∧ K (.tuple #[v, x17]) w) (
    sFldA Tryd.prog 85 s6 0 w fun x22 w =>
    sFldA Tryd.prog 83 x22 1 w fun x23 w =>
    sIdxA Tryd.prog 71 x23 (.int .i64 1) w fun x24 w =>
    sLoad Tryd.prog 3 x24 w fun x25 w =>
    sFldA Tryd.prog 85 s6 1 w fun x26 w =>
    sFldA Tryd.prog 73 x26 4 w fun x27 w =>
    sLoad Tryd.prog 9 x27 w fun x28 w =>
    sBuiltin Tryd.prog .len [9] 3 [x28] w fun x29 w =>
    sFldA Tryd.prog 85 s6 2 w fun x30 w =>
    sStore Tryd.prog 3 x30 x29 w fun w =>
    JoinS 0 16 (fun M1 =>
      sFldA Tryd.prog 85 s6 1 w fun x31 w =>
      sFldA Tryd.prog 73 x31 4 w fun x32 w =>
      sLoad Tryd.prog 9 x32 w fun x33 w =>
      sRange Tryd.prog 9 x33 w fun x34 w =>
      LoopS [x25] 1 11 w fun us _ w Nx2 =>
        rope_Rope_place_L2 M1 Nx2 at1 s6 x34 (hd us) w) fun us _ w =>
      rope_Rope_place_J1 K s6 x4 w)

def rope_Rope_place.sc : SC := (.seq (.reg (.op 0 (.op 1 .done))) (.seq (.reg (.op 0 (.op 1 (.op 2 (.op 3 (.op 4 (.op 5 (.op 6 (.op 7 (.op 8 (.op 9 (.op 10 .done)))))))))))) (.seq (.seq (.reg (.op 0 (.op 1 .done))) (.cond (.seq (.reg (.op 0 (.op 1 (.op 2 (.op 3 .done))))) .nop) .nop)) (.seq (.reg (.op 0 (.op 1 (.op 2 (.op 3 (.op 4 .done)))))) (.seq (.reg (.op 0 (.op 1 (.op 2 (.op 3 (.op 4 (.op 5 .done))))))) (.join [] [31, 32, 33, 34, 35, 36, 37, 10, 38, 39, 40, 41, 42, 43, 44, 9] (.seq (.reg (.op 0 (.op 1 (.op 2 (.op 3 .done))))) (.sub (.loop [9] [35, 36, 37, 10, 38, 39, 40, 41, 42, 43, 44] (.seq (.reg (.op 0 (.op 1 .done))) (.seq (.cond .nop .nop) (.sub (.seq (.reg (.op 0 (.op 1 .done))) (.seq (.seq (.reg (.op 0 (.op 1 (.op 2 .done)))) (.cond (.seq (.reg (.op 0 (.op 1 (.op 2 .done)))) .nop) .nop)) (.reg (.op 0 (.op 1 (.op 2 .done)))))))))))) (.seq (.reg (.op 0 (.op 1 (.op 2 .done)))) .nop)))))))

theorem rope_Rope_place.ok : okC Tryd.f40.ntmps rope_Rope_place.sc (bodyOf Tryd.f40) = true := by kernel_rfl

theorem rope_Rope_place.eq {K : K1} {r0 at1 : Value} {w : World} : rope_Rope_place K r0 at1 w = codeS Tryd.prog rope_Rope_place.sc (bodyOf Tryd.f40) (argsF 0 [r0, at1]) w (retQ Tryd.prog Tryd.f40.results.toList K) := by kernel_rfl

theorem rope_Rope_place.call {K : K1} {r0 at1 : Value} {w : World} (h : rope_Rope_place K r0 at1 w) : sCall Tryd.prog 40 [r0, at1] w K := sCall_code mixed Tryd.func40 (by kernel_rfl) rfl rfl rope_Rope_place.ok rope_Rope_place.eq h

abbrev rope_Rope_place.n : Nat := 40

/-- '(*bodkin rope.Rope).tree' -/
def rope_Rope_tree (K : K1) (r0 : Value) (w : World) : Prop :=
  sBin Tryd.prog .eql 25 false true r0 (.pointer none) w fun x4 w =>
  sIf x4 (
    K (.pointer none) w) (
    sNil r0 w fun x6 w =>
    sFldA Tryd.prog 61 x6 0 w fun x7 w =>
    sLoad Tryd.prog 55 x7 w fun x8 w =>
    K x8 w)

def rope_Rope_tree.sc : SC := (.seq (.reg (.op 0 .done)) (.seq (.seq (.reg (.op 0 (.op 1 .done))) (.cond (.seq (.reg (.op 0 .done)) .nop) .nop)) (.seq (.reg (.op 0 (.op 1 (.op 2 (.op 3 (.op 4 .done)))))) .nop)))

theorem rope_Rope_tree.ok : okC Tryd.f42.ntmps rope_Rope_tree.sc (bodyOf Tryd.f42) = true := by kernel_rfl

theorem rope_Rope_tree.eq {K : K1} {r0 : Value} {w : World} : rope_Rope_tree K r0 w = codeS Tryd.prog rope_Rope_tree.sc (bodyOf Tryd.f42) (argsF 0 [r0]) w (retQ Tryd.prog Tryd.f42.results.toList K) := by kernel_rfl

theorem rope_Rope_tree.call {K : K1} {r0 : Value} {w : World} (h : rope_Rope_tree K r0 w) : sCall Tryd.prog 42 [r0] w K := sCall_code mixed Tryd.func42 (by kernel_rfl) rfl rfl rope_Rope_tree.ok rope_Rope_tree.eq h

abbrev rope_Rope_tree.n : Nat := 42

/-- '(*bodkin tree.Tree).Sum' -/
def tree_Tree_Sum (K : K1) (t0 : Value) (w : World) : Prop :=
  sAlloc Tryd.prog 83 w fun x2 w =>
  sCall Tryd.prog 61 [t0] w fun x4 w =>
  sCall Tryd.prog 60 [x4] w fun x5 w =>
  sStore Tryd.prog 83 x2 x5 w fun w =>
  sLoad Tryd.prog 83 x2 w fun v w' => w' = w ∧ K v w

def tree_Tree_Sum.sc : SC := (.seq (.reg (.op 0 .done)) (.seq (.reg (.op 0 (.op 1 (.op 2 (.op 3 .done))))) .nop))

theorem tree_Tree_Sum.ok : okC Tryd.f43.ntmps tree_Tree_Sum.sc (bodyOf Tryd.f43) = true := by kernel_rfl

theorem tree_Tree_Sum.eq {K : K1} {t0 : Value} {w : World} : tree_Tree_Sum K t0 w = codeS Tryd.prog tree_Tree_Sum.sc (bodyOf Tryd.f43) (argsF 0 [t0]) w (retQ Tryd.prog Tryd.f43.results.toList K) := by kernel_rfl

theorem tree_Tree_Sum.call {K : K1} {t0 : Value} {w : World} (h : tree_Tree_Sum K t0 w) : sCall Tryd.prog 43 [t0] w K := sCall_code mixed Tryd.func43 (by kernel_rfl) rfl rfl tree_Tree_Sum.ok tree_Tree_Sum.eq h

abbrev tree_Tree_Sum.n : Nat := 43

/-- '(*bodkin rope.Rope).find' -/
def rope_Rope_find (K : K1) (r0 dim1 at2 bias3 : Value) (w : World) : Prop :=
  sAlloc Tryd.prog 85 w fun x8 w =>
  sCall Tryd.prog 42 [r0] w fun x16 w =>
  sCall Tryd.prog 62 [x16] w fun x17 w =>
  sCall Tryd.prog 63 [x17, dim1, at2, bias3] w fun x22 w =>
  sBin Tryd.prog .neq 26 false true x22 (.int .i64 0) w fun x24 w =>
  sIf x24 (
    sBuild Tryd.prog 85 [] w fun x25 w =>
    sStore Tryd.prog 85 x8 x25 w fun w =>
    sLoad Tryd.prog 85 x8 w fun v w' => w' = w ∧ K (.tuple #[v, (.pointer none), x22]) w) (
    sCall Tryd.prog 48 [x17] w fun x29 w =>
    sExtract x29 0 w fun x30 w =>
    sExtract x29 1 w fun x31 w =>
    sAlloc Tryd.prog 73 w fun i13 w =>
    sStore Tryd.prog 73 i13 x30 w fun w =>
    DrawS w fun C w =>
    stillS C w (fun w k => sLoad Tryd.prog 73 i13 w k) fun x34 =>
    sCall Tryd.prog 46 [x17] w fun x33 w => C w ∧
    stillS C w (fun w k => sBuild Tryd.prog 85 [(0, x33), (1, x34)] w k) fun x35 =>
    sStore Tryd.prog 85 x8 x35 w fun w => C w ∧
    sLoad Tryd.prog 85 x8 w fun v w' => w' = w ∧ K (.tuple #[v, x17, (.int .i64 0)]) w)

def rope_Rope_find.sc : SC := (.seq (.reg (.op 0 (.op 1 (.op 2 .done)))) (.seq (.reg (.op 0 (.op 1 (.op 2 (.op 3 .done))))) (.seq (.seq (.reg (.op 0 (.op 1 (.op 2 (.op 3 (.op 4 (.op 5 .done))))))) (.seq (.reg (.op 0 (.op 1 .done))) (.cond (.seq (.reg (.op 0 (.op 1 (.op 2 (.op 3 (.op 4 .done)))))) .nop) .nop))) (.seq (.reg (.op 0 (.op 1 (.op 2 (.op 3 (.op 4 (.op 5 (.op 6 (.op 7 .done))))))))) (.seq (.draw (.op 0 (.op 2 (.op 4 (.op 1 (.op 3 (.op 5 (.op 6 (.op 7 .done))))))))) .nop)))))

theorem rope_Rope_find.ok : okC Tryd.f44.ntmps rope_Rope_find.sc (bodyOf Tryd.f44) = true := by kernel_rfl

theorem rope_Rope_find.eq {K : K1} {r0 dim1 at2 bias3 : Value} {w : World} : rope_Rope_find K r0 dim1 at2 bias3 w = codeS Tryd.prog rope_Rope_find.sc (bodyOf Tryd.f44) (argsF 0 [r0, dim1, at2, bias3]) w (retQ Tryd.prog Tryd.f44.results.toList K) := by kernel_rfl

theorem rope_Rope_find.call {K : K1} {r0 dim1 at2 bias3 : Value} {w : World} (h : rope_Rope_find K r0 dim1 at2 bias3 w) : sCall Tryd.prog 44 [r0, dim1, at2, bias3] w K := sCall_code mixed Tryd.func44 (by kernel_rfl) rfl rfl rope_Rope_find.ok rope_Rope_find.eq h

abbrev rope_Rope_find.n : Nat := 44

/-- '(*bodkin rope.Rope).ByteAt' -/
def rope_Rope_ByteAt (K : K1) (r0 at1 : Value) (w : World) : Prop :=
  sCall Tryd.prog 40 [r0, at1] w fun x11 w =>
  sExtract x11 0 w fun x12 w =>
  sExtract x11 1 w fun x13 w =>
  sAlloc Tryd.prog 85 w fun s6 w =>
  sStore Tryd.prog 85 s6 x12 w fun w =>
  sBin Tryd.prog .neq 26 false true x13 (.int .i64 0) w fun x15 w =>
  sIf x15 (
    K (.tuple #[(.int .i64 0), x13]) w) (
    sFldA Tryd.prog 85 s6 0 w fun x17 w =>
    sFldA Tryd.prog 83 x17 1 w fun x18 w =>
    sIdxA Tryd.prog 71 x18 (.int .i64 0) w fun x19 w =>
    sLoad Tryd.prog 3 x19 w fun x20 w =>
    sFldA Tryd.prog 85 s6 2 w fun x21 w =>
    sLoad Tryd.prog 3 x21 w fun x22 w =>
    sBin Tryd.prog .add 3 false false x20 x22 w fun x23 w =>
    K (.tuple #[x23, (.int .i64 0)]) w)

def rope_Rope_ByteAt.sc : SC := (.seq (.reg (.op 0 (.op 1 .done))) (.seq (.reg (.op 0 (.op 1 (.op 2 (.op 3 (.op 4 (.op 5 (.op 6 (.op 7 (.op 8 .done)))))))))) (.seq (.seq (.reg (.op 0 (.op 1 .done))) (.cond (.seq (.reg (.op 0 (.op 1 (.op 2 .done)))) .nop) .nop)) (.seq (.reg (.op 0 (.op 1 (.op 2 (.op 3 (.op 4 (.op 5 (.op 6 (.op 7 (.op 8 .done)))))))))) .nop))))

theorem rope_Rope_ByteAt.ok : okC Tryd.f45.ntmps rope_Rope_ByteAt.sc (bodyOf Tryd.f45) = true := by kernel_rfl

theorem rope_Rope_ByteAt.eq {K : K1} {r0 at1 : Value} {w : World} : rope_Rope_ByteAt K r0 at1 w = codeS Tryd.prog rope_Rope_ByteAt.sc (bodyOf Tryd.f45) (argsF 0 [r0, at1]) w (retQ Tryd.prog Tryd.f45.results.toList K) := by kernel_rfl

theorem rope_Rope_ByteAt.call {K : K1} {r0 at1 : Value} {w : World} (h : rope_Rope_ByteAt K r0 at1 w) : sCall Tryd.prog 45 [r0, at1] w K := sCall_code mixed Tryd.func45 (by kernel_rfl) rfl rfl rope_Rope_ByteAt.ok rope_Rope_ByteAt.eq h

abbrev rope_Rope_ByteAt.n : Nat := 45

/-- '(*bodkin seek.Cursor).Start' -/
def seek_Cursor_Start (K : K1) (c0 : Value) (w : World) : Prop :=
  sAlloc Tryd.prog 83 w fun x2 w =>
  sBin Tryd.prog .eql 91 false true c0 (.pointer none) w fun x4 w =>
  sIf x4 (
    sBuild Tryd.prog 83 [] w fun x5 w =>
    sStore Tryd.prog 83 x2 x5 w fun w =>
    sLoad Tryd.prog 83 x2 w fun v w' => w' = w ∧ K v w) (
    sNil c0 w fun x7 w =>
    sFldA Tryd.prog 122 x7 1 w fun x8 w =>
    sFldA Tryd.prog 120 x8 1 w fun x9 w =>
    sLoad Tryd.prog 83 x9 w fun x10 w =>
    sStore Tryd.prog 83 x2 x10 w fun w =>
    sLoad Tryd.prog 83 x2 w fun v w' => w' = w ∧ K v w)

def seek_Cursor_Start.sc : SC := (.seq (.reg (.op 0 .done)) (.seq (.seq (.reg (.op 0 (.op 1 .done))) (.cond (.seq (.reg (.op 0 (.op 1 .done))) .nop) .nop)) (.seq (.reg (.op 0 (.op 1 (.op 2 (.op 3 (.op 4 (.op 5 .done))))))) .nop)))

theorem seek_Cursor_Start.ok : okC Tryd.f46.ntmps seek_Cursor_Start.sc (bodyOf Tryd.f46) = true := by kernel_rfl

theorem seek_Cursor_Start.eq {K : K1} {c0 : Value} {w : World} : seek_Cursor_Start K c0 w = codeS Tryd.prog seek_Cursor_Start.sc (bodyOf Tryd.f46) (argsF 0 [c0]) w (retQ Tryd.prog Tryd.f46.results.toList K) := by kernel_rfl

theorem seek_Cursor_Start.call {K : K1} {c0 : Value} {w : World} (h : seek_Cursor_Start K c0 w) : sCall Tryd.prog 46 [c0] w K := sCall_code mixed Tryd.func46 (by kernel_rfl) rfl rfl seek_Cursor_Start.ok seek_Cursor_Start.eq h

abbrev seek_Cursor_Start.n : Nat := 46

/-- '(*bodkin seek.Cursor).Item' -/
def seek_Cursor_Item_J1 (K : K1) (x2 : Value) (i4_2 e5 : Value) (w : World) : Prop :=
  sLoad Tryd.prog 73 i4_2 w fun x22 w =>
  sBin Tryd.prog .eql 26 false true e5 (.int .i64 0) w fun x24 w =>
  sStore Tryd.prog 73 x2 x22 w fun w =>
  sLoad Tryd.prog 73 x2 w fun v w' => w' = w ∧ K (.tuple #[v, x24]) w

def seek_Cursor_Item (K : K1) (c0 : Value) (w : World) : Prop :=
  sAlloc Tryd.prog 73 w fun x2 w =>
  sBin Tryd.prog .eql 91 false true c0 (.pointer none) w fun x7 w =>
  sIf x7 (
    sBuild Tryd.prog 73 [] w fun x8 w =>
    sStore Tryd.prog 73 x2 x8 w fun w =>
    sLoad Tryd.prog 73 x2 w fun v w' => w' = w ∧ K (.tuple #[v, (.bool false)]) w) (
    JoinS 2 13 (fun M1 =>
      DrawS w fun C w =>
      sNil c0 w fun x11 w =>
      stillS C w (fun w k => sFldA Tryd.prog 122 x11 0 w k) fun x12 =>
      stillS C w (fun w k => sLoad Tryd.prog 55 x12 w k) fun x13 =>
      sNil c0 w fun x15 w =>
      stillS C w (fun w k => sFldA Tryd.prog 122 x15 1 w k) fun x16 =>
      stillS C w (fun w k => sFldA Tryd.prog 120 x16 0 w k) fun x17 =>
      stillS C w (fun w k => sLoad Tryd.prog 3 x17 w k) fun x18 =>
      (
        sCall Tryd.prog 64 [x13, x18] w fun x19 w => C w ∧
        sExtract x19 0 w fun x20 w =>
        sExtract x19 1 w fun x21 w =>
        sAlloc Tryd.prog 73 w fun i4 w => C w ∧
        sStore Tryd.prog 73 i4 x20 w fun w => C w ∧
        M1 [i4, x21] w) ∧ (
        sAlloc Tryd.prog 73 w fun i4_1 w => C w ∧
        sCall Tryd.prog 64 [x13, x18] w fun x19_1 w => C w ∧
        sExtract x19_1 0 w fun x20_1 w =>
        sExtract x19_1 1 w fun x21_1 w =>
        sStore Tryd.prog 73 i4_1 x20_1 w fun w => C w ∧
        M1 [i4_1, x21_1] w)) fun us _ w =>
      seek_Cursor_Item_J1 K x2 (hd us) (hd (tl us)) w)

def seek_Cursor_Item.sc : SC := (.seq (.reg (.op 0 (.op 1 .done))) (.seq (.seq (.reg (.op 0 (.op 1 .done))) (.cond (.seq (.reg (.op 0 (.op 1 (.op 2 .done)))) .nop) .nop)) (.join [4, 5] [10, 11, 12, 13, 14, 15, 16, 17, 18, 19, 9, 20, 21] (.draw (.op 0 (.op 1 (.op 2 (.op 3 (.op 4 (.op 5 (.op 6 (.op 7 (.op 8 (.alt 9 (.op 10 (.op 11 (.op 12 (.op 13 (.op 14 (.op 15 .done)))))) 13 (.op 9 (.op 10 (.op 11 (.op 12 (.op 14 (.op 15 .done))))))))))))))))) (.seq (.reg (.op 0 (.op 1 (.op 2 (.op 3 (.op 4 .done)))))) .nop))))

theorem seek_Cursor_Item.ok : okC Tryd.f48.ntmps seek_Cursor_Item.sc (bodyOf Tryd.f48) = true := by kernel_rfl

theorem seek_Cursor_Item.eq {K : K1} {c0 : Value} {w : World} : seek_Cursor_Item K c0 w = codeS Tryd.prog seek_Cursor_Item.sc (bodyOf Tryd.f48) (argsF 0 [c0]) w (retQ Tryd.prog Tryd.f48.results.toList K) := by kernel_rfl

theorem seek_Cursor_Item.call {K : K1} {c0 : Value} {w : World} (h : seek_Cursor_Item K c0 w) : sCall Tryd.prog 48 [c0] w K := sCall_code mixed Tryd.func48 (by kernel_rfl) rfl rfl seek_Cursor_Item.ok seek_Cursor_Item.eq h

abbrev seek_Cursor_Item.n : Nat := 48

/-- '(*strings.Builder).WriteString' -/
def strings_Builder_WriteString (K : K1) (b0 s1 : Value) (w : World) : Prop :=
  sCall Tryd.prog 65 [b0] w fun x7 w =>
  sNil b0 w fun x10 w =>
  sFldA Tryd.prog 97 x10 1 w fun x11 w =>
  sLoad Tryd.prog 95 x11 w fun x12 w =>
  sBuiltin Tryd.prog .append [95, 9] 95 [x12, s1] w fun x14 w =>
  sNil b0 w fun x15 w =>
  sFldA Tryd.prog 97 x15 1 w fun x16 w =>
  sStore Tryd.prog 95 x16 x14 w fun w =>
  sBuiltin Tryd.prog .len [9] 3 [s1] w fun x18 w =>
  K (.tuple #[x18, .nilIface]) w

def strings_Builder_WriteString.sc : SC := (.seq (.reg (.op 0 (.op 1 .done))) (.seq (.reg (.op 0 (.op 1 .done))) (.seq (.reg (.op 0 (.op 1 (.op 2 (.op 3 (.op 4 (.op 5 (.op 6 (.op 7 (.op 8 (.op 9 .done))))))))))) (.seq (.reg (.op 0 (.op 1 (.op 2 (.op 3 .done))))) .nop))))

theorem strings_Builder_WriteString.ok : okC Tryd.f49.ntmps strings_Builder_WriteString.sc (bodyOf Tryd.f49) = true := by kernel_rfl

theorem strings_Builder_WriteString.eq {K : K1} {b0 s1 : Value} {w : World} : strings_Builder_WriteString K b0 s1 w = codeS Tryd.prog strings_Builder_WriteString.sc (bodyOf Tryd.f49) (argsF 0 [b0, s1]) w (retQ Tryd.prog Tryd.f49.results.toList K) := by kernel_rfl

theorem strings_Builder_WriteString.call {K : K1} {b0 s1 : Value} {w : World} (h : strings_Builder_WriteString K b0 s1 w) : sCall Tryd.prog 49 [b0, s1] w K := sCall_code mixed Tryd.func49 (by kernel_rfl) rfl rfl strings_Builder_WriteString.ok strings_Builder_WriteString.eq h

abbrev strings_Builder_WriteString.n : Nat := 49

/-- '(*bodkin seek.Cursor).Next' -/
def seek_Cursor_Next (K : K1) (c0 : Value) (w : World) : Prop :=
  sCall Tryd.prog 48 [c0] w fun x7 w =>
  sExtract x7 0 w fun x8 w =>
  sExtract x7 1 w fun x9 w =>
  sAlloc Tryd.prog 73 w fun x3 w =>
  sStore Tryd.prog 73 x3 x8 w fun w =>
  sUn Tryd.prog .not x9 w fun x11 w =>
  sIf x11 (
    K (.bool false) w) (
    sCall Tryd.prog 66 [c0] w fun x14 w =>
    sNil c0 w fun x15 w =>
    sFldA Tryd.prog 122 x15 1 w fun x16 w =>
    sFldA Tryd.prog 120 x16 1 w fun x17 w =>
    sStore Tryd.prog 83 x17 x14 w fun w =>
    sNil c0 w fun x19 w =>
    sFldA Tryd.prog 122 x19 1 w fun x20 w =>
    sFldA Tryd.prog 120 x20 0 w fun x21 w =>
    sLoad Tryd.prog 3 x21 w fun x22 w =>
    sBin Tryd.prog .add 3 false true x22 (.int .i64 1) w fun x23 w =>
    sNil c0 w fun x24 w =>
    sFldA Tryd.prog 122 x24 1 w fun x25 w =>
    sFldA Tryd.prog 120 x25 0 w fun x26 w =>
    sStore Tryd.prog 3 x26 x23 w fun w =>
    K (.bool true) w)

def seek_Cursor_Next.sc : SC := (.seq (.reg (.op 0 .done)) (.seq (.seq (.reg (.op 0 (.op 1 (.op 2 (.op 3 (.op 4 (.op 5 (.op 6 (.op 7 .done))))))))) (.seq (.reg (.op 0 (.op 1 .done))) (.cond (.seq (.reg (.op 0 .done)) .nop) .nop))) (.seq (.reg (.op 0 (.op 1 (.op 2 (.op 3 (.op 4 (.op 5 (.op 6 .done)))))))) (.seq (.reg (.op 0 (.op 1 (.op 2 (.op 3 (.op 4 (.op 5 (.op 6 (.op 7 (.op 8 (.op 9 .done))))))))))) (.seq (.reg (.op 0 .done)) .nop)))))

theorem seek_Cursor_Next.ok : okC Tryd.f50.ntmps seek_Cursor_Next.sc (bodyOf Tryd.f50) = true := by kernel_rfl

theorem seek_Cursor_Next.eq {K : K1} {c0 : Value} {w : World} : seek_Cursor_Next K c0 w = codeS Tryd.prog seek_Cursor_Next.sc (bodyOf Tryd.f50) (argsF 0 [c0]) w (retQ Tryd.prog Tryd.f50.results.toList K) := by kernel_rfl

theorem seek_Cursor_Next.call {K : K1} {c0 : Value} {w : World} (h : seek_Cursor_Next K c0 w) : sCall Tryd.prog 50 [c0] w K := sCall_code mixed Tryd.func50 (by kernel_rfl) rfl rfl seek_Cursor_Next.ok seek_Cursor_Next.eq h

abbrev seek_Cursor_Next.n : Nat := 50

/-- 'bodkin item.within' -/
def item_within (K : K1) (n0 : Value) (w : World) : Prop :=
  sBin Tryd.prog .geq 3 false true n0 (.int .i64 0) w fun x4 w =>
  sIf x4 (
    sBin Tryd.prog .leq 3 false true n0 (.int .i64 1099511627776) w fun x7 w =>
    K x7 w) (
    K (.bool false) w)

def item_within.sc : SC := (.seq (.reg (.op 0 .done)) (.seq (.reg (.op 0 (.op 1 (.op 2 (.test 2 (.op 3 (.op 4 (.op 5 (.op 6 .done)))) (.skip 3 (.skip 4 (.op 5 (.op 6 .done))))))))) .nop))

theorem item_within.ok : okC Tryd.f52.ntmps item_within.sc (bodyOf Tryd.f52) = true := by kernel_rfl

theorem item_within.eq {K : K1} {n0 : Value} {w : World} : item_within K n0 w = codeS Tryd.prog item_within.sc (bodyOf Tryd.f52) (argsF 0 [n0]) w (retQ Tryd.prog Tryd.f52.results.toList K) := by kernel_rfl

theorem item_within.call {K : K1} {n0 : Value} {w : World} (h : item_within K n0 w) : sCall Tryd.prog 52 [n0] w K := sCall_code mixed Tryd.func52 (by kernel_rfl) rfl rfl item_within.ok item_within.eq h

abbrev item_within.n : Nat := 52

/-- 'bodkin tree.meld' -/
def tree_meld (K : K1) (a0 b1 : Value) (w : World) : Prop :=
  sCall Tryd.prog 67 [a0] w fun x15 w =>
  sCall Tryd.prog 67 [b1] w fun x17 w =>
  sBin Tryd.prog .gtr 3 false false x15 x17 w fun x21 w =>
  sIf x21 (
    sAssert Tryd.prog a0 70 108 false w fun x23 w =>
    sNil x23 w fun x25 w =>
    sFldA Tryd.prog 128 x25 0 w fun x26 w =>
    sLoad Tryd.prog 106 x26 w fun x27 w =>
    sBuiltin Tryd.prog .len [106] 3 [x27] w fun x28 w =>
    sBin Tryd.prog .sub 3 false true x28 (.int .i64 1) w fun x29 w =>
    DrawS w fun C w =>
    sNil x23 w fun x31 w =>
    stillS C w (fun w k => sFldA Tryd.prog 128 x31 0 w k) fun x32 =>
    stillS C w (fun w k => sLoad Tryd.prog 106 x32 w k) fun x33 =>
    stillS C w (fun w k => sSlice Tryd.prog 106 x33 none (some x29) none w k) fun x35 =>
    sNil x23 w fun x37 w =>
    stillS C w (fun w k => sFldA Tryd.prog 128 x37 0 w k) fun x38 =>
    stillS C w (fun w k => sLoad Tryd.prog 106 x38 w k) fun x39 =>
    stillS C w (fun w k => sIdxA Tryd.prog 106 x39 x29 w k) fun x41 =>
    stillS C w (fun w k => sLoad Tryd.prog 70 x41 w k) fun x42 =>
    sCall Tryd.prog 53 [x42, b1] w fun x44 w => C w ∧
    sCall Tryd.prog 69 [x35, x44] w fun x45 w => C w ∧
    sCall Tryd.prog 68 [x45] w fun x46 w => C w ∧
    K x46 w) (
    sBin Tryd.prog .lss 3 false false x15 x17 w fun x50 w =>
    sIf x50 (
      sAssert Tryd.prog b1 70 108 false w fun x52 w =>
      DrawS w fun C w =>
      sNil x52 w fun x55 w =>
      stillS C w (fun w k => sFldA Tryd.prog 128 x55 0 w k) fun x56 =>
      stillS C w (fun w k => sLoad Tryd.prog 106 x56 w k) fun x57 =>
      stillS C w (fun w k => sIdxA Tryd.prog 106 x57 (.int .i64 0) w k) fun x58 =>
      stillS C w (fun w k => sLoad Tryd.prog 70 x58 w k) fun x59 =>
      sNil x52 w fun x62 w =>
      stillS C w (fun w k => sFldA Tryd.prog 128 x62 0 w k) fun x63 =>
      stillS C w (fun w k => sLoad Tryd.prog 106 x63 w k) fun x64 =>
      stillS C w (fun w k => sSlice Tryd.prog 106 x64 (some (.int .i64 1)) none none w k) fun x65 =>
      sCall Tryd.prog 53 [a0, x59] w fun x60 w => C w ∧
      sCall Tryd.prog 69 [x60, x65] w fun x66 w => C w ∧
      sCall Tryd.prog 68 [x66] w fun x67 w => C w ∧
      K x67 w) (
      sAssert Tryd.prog a0 70 76 true w fun x70 w =>
      sExtract x70 0 w fun x71 w =>
      sExtract x70 1 w fun x72 w =>
      sIf x72 (
        sAssert Tryd.prog b1 70 76 false w fun x75 w =>
        DrawS w fun C w =>
        sNil x71 w fun x77 w =>
        stillS C w (fun w k => sFldA Tryd.prog 112 x77 0 w k) fun x78 =>
        stillS C w (fun w k => sLoad Tryd.prog 58 x78 w k) fun x79 =>
        stillS C w (fun w k => sBuiltin Tryd.prog .len [58] 3 [x79] w k) fun x80 =>
        sNil x75 w fun x82 w =>
        stillS C w (fun w k => sFldA Tryd.prog 112 x82 0 w k) fun x83 =>
        stillS C w (fun w k => sLoad Tryd.prog 58 x83 w k) fun x84 =>
        stillS C w (fun w k => sBuiltin Tryd.prog .len [58] 3 [x84] w k) fun x85 =>
        stillS C w (fun w k => sBin Tryd.prog .add 3 false false x80 x85 w k) fun x86 =>
        sMake Tryd.prog 58 (.int .i64 0) x86 w fun x87 w => C w ∧
        sNil x71 w fun x90 w =>
        sFldA Tryd.prog 112 x90 0 w fun x91 w =>
        sLoad Tryd.prog 58 x91 w fun x92 w =>
        sBuiltin Tryd.prog .append [58, 58] 58 [x87, x92] w fun x93 w =>
        sNil x75 w fun x96 w =>
        sFldA Tryd.prog 112 x96 0 w fun x97 w =>
        sLoad Tryd.prog 58 x97 w fun x98 w =>
        sBuiltin Tryd.prog .append [58, 58] 58 [x93, x98] w fun x99 w =>
        sCall Tryd.prog 70 [x99] w fun x100 w =>
        K x100 w) (
        DrawS w fun C w =>
        stillS C w (fun w k => sAssert Tryd.prog a0 70 108 false w k) fun x102 =>
        sNil x102 w fun x103 w =>
        stillS C w (fun w k => sFldA Tryd.prog 128 x103 0 w k) fun x104 =>
        stillS C w (fun w k => sLoad Tryd.prog 106 x104 w k) fun x105 =>
        stillS C w (fun w k => sAssert Tryd.prog b1 70 108 false w k) fun x107 =>
        sNil x107 w fun x108 w =>
        stillS C w (fun w k => sFldA Tryd.prog 128 x108 0 w k) fun x109 =>
        stillS C w (fun w k => sLoad Tryd.prog 106 x109 w k) fun x110 =>
        sCall Tryd.prog 69 [x105, x110] w fun x111 w => C w ∧
        sCall Tryd.prog 68 [x111] w fun x112 w => C w ∧
        K x112 w)))

def tree_meld.sc : SC := (.seq (.reg (.op 0 .done)) (.seq (.reg (.op 0 (.op 1 (.op 2 (.op 3 (.op 4 (.op 5 .done))))))) (.seq (.sub (.seq (.reg (.op 0 (.op 1 (.op 2 (.op 3 .done))))) (.cond (.seq (.reg (.op 0 (.op 1 (.op 2 .done)))) (.seq (.reg (.op 0 (.op 1 (.op 2 (.op 3 (.op 4 (.op 5 (.op 6 .done)))))))) (.seq (.draw (.op 0 (.op 1 (.op 2 (.op 3 (.op 4 (.op 5 (.op 6 (.op 7 (.op 8 (.op 9 (.op 10 (.op 11 (.op 12 (.op 13 (.op 14 (.op 15 (.op 16 (.op 17 .done))))))))))))))))))) .nop))) (.seq (.reg (.op 0 (.op 1 (.op 2 (.op 3 .done))))) (.cond (.seq (.reg (.op 0 (.op 1 (.op 2 .done)))) (.seq (.draw (.op 0 (.op 1 (.op 2 (.op 3 (.op 4 (.op 5 (.op 6 (.op 8 (.op 9 (.op 10 (.op 11 (.op 12 (.op 7 (.op 13 (.op 14 (.op 15 .done))))))))))))))))) .nop)) .nop))))) (.seq (.seq (.reg (.op 0 (.op 1 (.op 2 (.op 3 (.op 4 (.op 5 (.op 6 .done)))))))) (.seq (.reg (.op 0 .done)) (.cond (.seq (.reg (.op 0 (.op 1 (.op 2 .done)))) (.seq (.draw (.op 0 (.op 1 (.op 2 (.op 3 (.op 4 (.op 5 (.op 6 (.op 7 (.op 8 (.op 9 (.op 10 (.op 11 (.op 12 .done)))))))))))))) (.seq (.reg (.op 0 (.op 1 (.op 2 (.op 3 (.op 4 (.op 5 (.op 6 .done)))))))) (.seq (.reg (.op 0 (.op 1 (.op 2 (.op 3 (.op 4 (.op 5 (.op 6 (.op 7 .done))))))))) .nop)))) .nop))) (.seq (.draw (.op 0 (.op 1 (.op 2 (.op 3 (.op 4 (.op 5 (.op 6 (.op 7 (.op 8 (.op 9 (.op 10 (.op 11 (.op 12 .done)))))))))))))) .nop)))))

theorem tree_meld.ok : okC Tryd.f53.ntmps tree_meld.sc (bodyOf Tryd.f53) = true := by kernel_rfl

theorem tree_meld.eq {K : K1} {a0 b1 : Value} {w : World} : tree_meld K a0 b1 w = codeS Tryd.prog tree_meld.sc (bodyOf Tryd.f53) (argsF 0 [a0, b1]) w (retQ Tryd.prog Tryd.f53.results.toList K) := by kernel_rfl

theorem tree_meld.call {K : K1} {a0 b1 : Value} {w : World} (h : tree_meld K a0 b1 w) : sCall Tryd.prog 53 [a0, b1] w K := sCall_code mixed Tryd.func53 (by kernel_rfl) rfl rfl tree_meld.ok tree_meld.eq h

abbrev tree_meld.n : Nat := 53

/-- 'bodkin tree.innerOf' -/
def tree_innerOf_L1 (K : K1) (Nx1 : List Value → World → Prop) (kids0 x13 x15 : Value) (x16 : Value) (w : World) : Prop :=
  sBin Tryd.prog .lss 3 false false x16 x15 w fun x17 w =>
  sIf x17 (
    sIdxA Tryd.prog 106 kids0 x16 w fun x18 w =>
    sLoad Tryd.prog 70 x18 w fun x19 w =>
    DrawS w fun C w =>
    sNil x13 w fun x22 w =>
    stillS C w (fun w k => sFldA Tryd.prog 128 x22 2 w k) fun x23 =>
    stillS C w (fun w k => sLoad Tryd.prog 83 x23 w k) fun x24 =>
    sCall Tryd.prog 60 [x19] w fun x26 w => C w ∧
    sCall Tryd.prog 71 [x24, x26] w fun x27 w => C w ∧
    sNil x13 w fun x28 w =>
    stillS C w (fun w k => sFldA Tryd.prog 128 x28 2 w k) fun x29 =>
    sStore Tryd.prog 83 x29 x27 w fun w =>
    sBin Tryd.prog .add 3 false true x16 (.int .i64 1) w fun x30 w =>
    Nx1 [x30] w) (
    K x13 w)

def tree_innerOf (K : K1) (kids0 : Value) (w : World) : Prop :=
  sIdxA Tryd.prog 106 kids0 (.int .i64 0) w fun x8 w =>
  sLoad Tryd.prog 70 x8 w fun x9 w =>
  sCall Tryd.prog 67 [x9] w fun x10 w =>
  sBin Tryd.prog .add 3 false true x10 (.int .i64 1) w fun x11 w =>
  sBuild Tryd.prog 128 [(0, kids0), (1, x11)] w fun x12 w =>
  sBox Tryd.prog 128 x12 w fun x13 w =>
  sBuiltin Tryd.prog .len [106] 3 [kids0] w fun x15 w =>
  LoopS [(.int .i64 0)] 1 15 w fun us _ w Nx1 =>
    tree_innerOf_L1 K Nx1 kids0 x13 x15 (hd us) w

def tree_innerOf.sc : SC := (.seq (.reg (.op 0 .done)) (.seq (.reg (.op 0 (.op 1 (.op 2 (.op 3 (.op 4 (.op 5 (.op 6 (.op 7 (.op 8 .done)))))))))) (.seq (.seq (.reg (.op 0 (.op 1 (.op 2 .done)))) (.sub (.loop [16] [17, 18, 19, 5, 20, 21, 22, 23, 24, 25, 26, 27, 28, 29, 30] (.seq (.reg (.op 0 .done)) (.seq (.cond .nop .nop) (.seq (.sub (.seq (.reg (.op 0 (.op 1 (.op 2 .done)))) (.draw (.op 0 (.op 1 (.op 2 (.op 3 (.op 4 (.op 5 (.op 6 (.op 7 (.op 8 (.op 9 (.fin 10 .done)))))))))))))) (.reg (.op 0 (.op 1 .done))))))))) (.seq (.reg (.op 0 (.op 1 .done))) .nop))))

theorem tree_innerOf.ok : okC Tryd.f54.ntmps tree_innerOf.sc (bodyOf Tryd.f54) = true := by kernel_rfl

theorem tree_innerOf.eq {K : K1} {kids0 : Value} {w : World} : tree_innerOf K kids0 w = codeS Tryd.prog tree_innerOf.sc (bodyOf Tryd.f54) (argsF 0 [kids0]) w (retQ Tryd.prog Tryd.f54.results.toList K) := by kernel_rfl

theorem tree_innerOf.call {K : K1} {kids0 : Value} {w : World} (h : tree_innerOf K kids0 w) : sCall Tryd.prog 54 [kids0] w K := sCall_code mixed Tryd.func54 (by kernel_rfl) rfl rfl tree_innerOf.ok tree_innerOf.eq h

abbrev tree_innerOf.n : Nat := 54

/-- 'bodkin item.All' -/
def item_All_L1 (K : K1) (Nx1 : List Value → World → Prop) (l0 s3 x2 x7 : Value) (x8 : Value) (w : World) : Prop :=
  sBin Tryd.prog .lss 3 false false x8 x7 w fun x9 w =>
  sIf x9 (
    sIdxA Tryd.prog 58 l0 x8 w fun x10 w =>
    sLoad Tryd.prog 73 x10 w fun x11 w =>
    sAlloc Tryd.prog 73 w fun i5 w =>
    sStore Tryd.prog 73 i5 x11 w fun w =>
    DrawS w fun C w =>
    stillS C w (fun w k => sLoad Tryd.prog 83 s3 w k) fun x12 =>
    stillS C w (fun w k => sLoad Tryd.prog 73 i5 w k) fun x13 =>
    sCall Tryd.prog 72 [x13] w fun x14 w => C w ∧
    sCall Tryd.prog 71 [x12, x14] w fun x15 w =>
    sStore Tryd.prog 83 s3 x15 w fun w =>
    sBin Tryd.prog .add 3 false true x8 (.int .i64 1) w fun x16 w =>
    Nx1 [x16] w) (
    sLoad Tryd.prog 83 s3 w fun x17 w =>
    sStore Tryd.prog 83 x2 x17 w fun w =>
    sLoad Tryd.prog 83 x2 w fun v w' => w' = w ∧ K v w)

def item_All (K : K1) (l0 : Value) (w : World) : Prop :=
  sAlloc Tryd.prog 83 w fun x2 w =>
  sAlloc Tryd.prog 83 w fun s3 w =>
  sBuiltin Tryd.prog .len [58] 3 [l0] w fun x7 w =>
  LoopS [(.int .i64 0)] 1 9 w fun us _ w Nx1 =>
    item_All_L1 K Nx1 l0 s3 x2 x7 (hd us) w

def item_All.sc : SC := (.seq (.reg (.op 0 .done)) (.seq (.reg (.op 0 .done)) (.seq (.seq (.reg (.op 0 (.op 1 (.op 2 .done)))) (.sub (.loop [8] [9, 10, 11, 5, 12, 13, 14, 15, 16] (.seq (.reg (.op 0 .done)) (.seq (.cond .nop .nop) (.seq (.sub (.seq (.reg (.op 0 (.op 1 (.op 2 (.op 3 .done))))) (.draw (.op 0 (.op 1 (.op 2 (.fin 3 (.fin 4 .done)))))))) (.reg (.op 0 (.op 1 .done))))))))) (.seq (.reg (.op 0 (.op 1 .done))) .nop))))

theorem item_All.ok : okC Tryd.f55.ntmps item_All.sc (bodyOf Tryd.f55) = true := by kernel_rfl

theorem item_All.eq {K : K1} {l0 : Value} {w : World} : item_All K l0 w = codeS Tryd.prog item_All.sc (bodyOf Tryd.f55) (argsF 0 [l0]) w (retQ Tryd.prog Tryd.f55.results.toList K) := by kernel_rfl

theorem item_All.call {K : K1} {l0 : Value} {w : World} (h : item_All K l0 w) : sCall Tryd.prog 55 [l0] w K := sCall_code mixed Tryd.func55 (by kernel_rfl) rfl rfl item_All.ok item_All.eq h

abbrev item_All.n : Nat := 55

/-- 'bodkin utf.Encode' -/
def utf_Encode_J2 (Nx1 : List Value → World → Prop) (out3 x8 : Value) (r5 : Value) (w : World) : Prop :=
  sConv Tryd.prog 21 9 r5 w fun x17 w =>
  sBuiltin Tryd.prog .append [95, 9] 95 [out3, x17] w fun x18 w =>
  sBin Tryd.prog .add 3 false true x8 (.int .i64 1) w fun x19 w =>
  Nx1 [x18, x19] w

def utf_Encode_L1 (K : K1) (Nx1 : List Value → World → Prop) (l0 x7 : Value) (out3 x8 : Value) (w : World) : Prop :=
  sBin Tryd.prog .lss 3 false false x8 x7 w fun x9 w =>
  sIf x9 (
    sIdxA Tryd.prog 29 l0 x8 w fun x10 w =>
    sLoad Tryd.prog 21 x10 w fun x11 w =>
    JoinS 1 3 (fun M2 =>
      sCall Tryd.prog 73 [x11] w fun x13 w =>
      sUn Tryd.prog .not x13 w fun x14 w =>
      sIf x14 (
        M2 [(.int .i32 65533)] w) (
        M2 [x11] w)) fun us _ w =>
      utf_Encode_J2 Nx1 out3 x8 (hd us) w) (
    sConv Tryd.prog 95 9 out3 w fun x21 w =>
    K x21 w)

def utf_Encode (K : K1) (l0 : Value) (w : World) : Prop :=
  sBuiltin Tryd.prog .len [29] 3 [l0] w fun x7 w =>
  LoopS [(.slice none 0 0), (.int .i64 0)] 2 12 w fun us _ w Nx1 =>
    utf_Encode_L1 K Nx1 l0 x7 (hd us) (hd (tl us)) w

def utf_Encode.sc : SC := (.seq (.reg (.op 0 .done)) (.seq (.reg (.op 0 .done)) (.seq (.seq (.reg (.op 0 (.op 1 (.op 2 .done)))) (.sub (.loop [3, 8] [9, 10, 11, 5, 12, 13, 14, 15, 16, 17, 18, 19] (.seq (.reg (.op 0 .done)) (.seq (.cond .nop .nop) (.seq (.sub (.seq (.reg (.op 0 (.op 1 (.op 2 .done)))) (.join [5] [12, 13, 14] (.seq (.reg (.op 0 (.op 1 (.op 2 .done)))) (.cond (.reg (.op 0 .done)) .nop)) (.reg (.op 0 (.op 1 (.op 2 (.op 3 (.op 4 .done))))))))) (.reg (.op 0 (.op 1 .done))))))))) (.seq (.reg (.op 0 (.op 1 (.op 2 .done)))) .nop))))

theorem utf_Encode.ok : okC Tryd.f56.ntmps utf_Encode.sc (bodyOf Tryd.f56) = true := by kernel_rfl

theorem utf_Encode.eq {K : K1} {l0 : Value} {w : World} : utf_Encode K l0 w = codeS Tryd.prog utf_Encode.sc (bodyOf Tryd.f56) (argsF 0 [l0]) w (retQ Tryd.prog Tryd.f56.results.toList K) := by kernel_rfl

theorem utf_Encode.call {K : K1} {l0 : Value} {w : World} (h : utf_Encode K l0 w) : sCall Tryd.prog 56 [l0] w K := sCall_code mixed Tryd.func56 (by kernel_rfl) rfl rfl utf_Encode.ok utf_Encode.eq h

abbrev utf_Encode.n : Nat := 56

/-- 'bodkin tree.sumOf' -/
def tree_sumOf (K : K1) (n0 : Value) (w : World) : Prop :=
  sAlloc Tryd.prog 83 w fun x2 w =>
  sAssert Tryd.prog n0 70 76 true w fun x6 w =>
  sExtract x6 1 w fun x7 w =>
  sExtract x6 0 w fun x8 w =>
  sIf x7 (
    sNil x8 w fun x10 w =>
    sFldA Tryd.prog 112 x10 1 w fun x11 w =>
    sLoad Tryd.prog 83 x11 w fun x12 w =>
    sStore Tryd.prog 83 x2 x12 w fun w =>
    sLoad Tryd.prog 83 x2 w fun v w' => w' = w ∧ K v w) (
    sAssert Tryd.prog n0 70 108 true w fun x13 w =>
    sExtract x13 1 w fun x14 w =>
    sExtract x13 0 w fun x15 w =>
    sIf x14 (
      sNil x15 w fun x17 w =>
      sFldA Tryd.prog 128 x17 2 w fun x18 w =>
      sLoad Tryd.prog 83 x18 w fun x19 w =>
      sStore Tryd.prog 83 x2 x19 w fun w =>
      sLoad Tryd.prog 83 x2 w fun v w' => w' = w ∧ K v w) (
      sBuild Tryd.prog 83 [] w fun x20 w =>
      sStore Tryd.prog 83 x2 x20 w fun w =>
      sLoad Tryd.prog 83 x2 w fun v w' => w' = w ∧ K v w))

def tree_sumOf.sc : SC := (.seq (.reg (.op 0 .done)) (.seq (.seq (.reg (.op 0 .done)) (.sub (.seq (.reg (.op 0 (.op 1 (.op 2 .done)))) (.cond (.seq (.reg (.op 0 .done)) (.seq (.reg (.op 0 (.op 1 (.op 2 (.op 3 (.op 4 .done)))))) .nop)) (.seq (.reg (.op 0 (.op 1 (.op 2 .done)))) (.cond (.seq (.reg (.op 0 .done)) (.seq (.reg (.op 0 (.op 1 (.op 2 (.op 3 (.op 4 .done)))))) .nop)) .nop)))))) (.seq (.reg (.op 0 (.op 1 .done))) .nop)))

theorem tree_sumOf.ok : okC Tryd.f60.ntmps tree_sumOf.sc (bodyOf Tryd.f60) = true := by kernel_rfl

theorem tree_sumOf.eq {K : K1} {n0 : Value} {w : World} : tree_sumOf K n0 w = codeS Tryd.prog tree_sumOf.sc (bodyOf Tryd.f60) (argsF 0 [n0]) w (retQ Tryd.prog Tryd.f60.results.toList K) := by kernel_rfl

theorem tree_sumOf.call {K : K1} {n0 : Value} {w : World} (h : tree_sumOf K n0 w) : sCall Tryd.prog 60 [n0] w K := sCall_code mixed Tryd.func60 (by kernel_rfl) rfl rfl tree_sumOf.ok tree_sumOf.eq h

abbrev tree_sumOf.n : Nat := 60

/-- '(*bodkin tree.Tree).top' -/
def tree_Tree_top (K : K1) (t0 : Value) (w : World) : Prop :=
  sBin Tryd.prog .eql 55 false true t0 (.pointer none) w fun x4 w =>
  sIf x4 (
    K .nilIface w) (
    sNil t0 w fun x6 w =>
    sFldA Tryd.prog 79 x6 0 w fun x7 w =>
    sLoad Tryd.prog 70 x7 w fun x8 w =>
    K x8 w)

def tree_Tree_top.sc : SC := (.seq (.reg (.op 0 .done)) (.seq (.seq (.reg (.op 0 (.op 1 .done))) (.cond (.seq (.reg (.op 0 .done)) .nop) .nop)) (.seq (.reg (.op 0 (.op 1 (.op 2 (.op 3 (.op 4 .done)))))) .nop)))

theorem tree_Tree_top.ok : okC Tryd.f61.ntmps tree_Tree_top.sc (bodyOf Tryd.f61) = true := by kernel_rfl

theorem tree_Tree_top.eq {K : K1} {t0 : Value} {w : World} : tree_Tree_top K t0 w = codeS Tryd.prog tree_Tree_top.sc (bodyOf Tryd.f61) (argsF 0 [t0]) w (retQ Tryd.prog Tryd.f61.results.toList K) := by kernel_rfl

theorem tree_Tree_top.call {K : K1} {t0 : Value} {w : World} (h : tree_Tree_top K t0 w) : sCall Tryd.prog 61 [t0] w K := sCall_code mixed Tryd.func61 (by kernel_rfl) rfl rfl tree_Tree_top.ok tree_Tree_top.eq h

abbrev tree_Tree_top.n : Nat := 61

/-- 'bodkin seek.New' -/
def seek_New (K : K1) (t0 : Value) (w : World) : Prop :=
  sBuild Tryd.prog 122 [(0, t0)] w fun x4 w =>
  sBox Tryd.prog 122 x4 w fun x5 w =>
  K x5 w

def seek_New.sc : SC := (.seq (.reg (.op 0 .done)) (.seq (.reg (.op 0 (.op 1 (.op 2 (.op 3 .done))))) .nop))

theorem seek_New.ok : okC Tryd.f62.ntmps seek_New.sc (bodyOf Tryd.f62) = true := by kernel_rfl

theorem seek_New.eq {K : K1} {t0 : Value} {w : World} : seek_New K t0 w = codeS Tryd.prog seek_New.sc (bodyOf Tryd.f62) (argsF 0 [t0]) w (retQ Tryd.prog Tryd.f62.results.toList K) := by kernel_rfl

theorem seek_New.call {K : K1} {t0 : Value} {w : World} (h : seek_New K t0 w) : sCall Tryd.prog 62 [t0] w K := sCall_code mixed Tryd.func62 (by kernel_rfl) rfl rfl seek_New.ok seek_New.eq h

abbrev seek_New.n : Nat := 62

/-- '(*bodkin seek.Cursor).To' -/
def seek_Cursor_To (K : K1) (c0 dim1 v2 bias3 : Value) (w : World) : Prop :=
  sBin Tryd.prog .eql 91 false true c0 (.pointer none) w fun x12 w =>
  sIf x12 (
    K (.int .i64 7) w) (
    sNil c0 w fun x15 w =>
    sFldA Tryd.prog 122 x15 0 w fun x16 w =>
    sLoad Tryd.prog 55 x16 w fun x17 w =>
    sCall Tryd.prog 75 [x17, dim1, v2, bias3] w fun x21 w =>
    sExtract x21 0 w fun x22 w =>
    sExtract x21 1 w fun x23 w =>
    sAlloc Tryd.prog 120 w fun p9 w =>
    sStore Tryd.prog 120 p9 x22 w fun w =>
    sBin Tryd.prog .eql 26 false true x23 (.int .i64 0) w fun x25 w =>
    sIf x25 (
      sLoad Tryd.prog 120 p9 w fun x27 w =>
      sNil c0 w fun x28 w =>
      sFldA Tryd.prog 122 x28 1 w fun x29 w =>
      sStore Tryd.prog 120 x29 x27 w fun w =>
      K x23 w) (
      K x23 w))

def seek_Cursor_To.sc : SC := (.seq (.reg (.op 0 .done)) (.seq (.seq (.reg (.op 0 (.op 1 .done))) (.cond (.seq (.reg (.op 0 .done)) .nop) .nop)) (.seq (.reg (.op 0 (.op 1 (.op 2 (.op 3 (.op 4 (.op 5 (.op 6 (.op 7 (.op 8 (.op 9 (.op 10 (.op 11 (.op 12 (.op 13 .done))))))))))))))) (.seq (.seq (.reg (.op 0 (.op 1 .done))) (.cond (.reg (.op 0 (.op 1 (.op 2 (.op 3 (.op 4 .done)))))) .nop)) (.seq (.reg (.op 0 (.op 1 .done))) .nop)))))

theorem seek_Cursor_To.ok : okC Tryd.f63.ntmps seek_Cursor_To.sc (bodyOf Tryd.f63) = true := by kernel_rfl

theorem seek_Cursor_To.eq {K : K1} {c0 dim1 v2 bias3 : Value} {w : World} : seek_Cursor_To K c0 dim1 v2 bias3 w = codeS Tryd.prog seek_Cursor_To.sc (bodyOf Tryd.f63) (argsF 0 [c0, dim1, v2, bias3]) w (retQ Tryd.prog Tryd.f63.results.toList K) := by kernel_rfl

theorem seek_Cursor_To.call {K : K1} {c0 dim1 v2 bias3 : Value} {w : World} (h : seek_Cursor_To K c0 dim1 v2 bias3 w) : sCall Tryd.prog 63 [c0, dim1, v2, bias3] w K := sCall_code mixed Tryd.func63 (by kernel_rfl) rfl rfl seek_Cursor_To.ok seek_Cursor_To.eq h

abbrev seek_Cursor_To.n : Nat := 63

/-- '(*bodkin tree.Tree).At' -/
def tree_Tree_At_L3 (Nx2 : List Value → World → Prop) (Nx3 : List Value → World → Prop) (x34 x35 : Value) (i1_2 n6_1 x36 : Value) (w : World) : Prop :=
  sBin Tryd.prog .lss 3 false false x36 x35 w fun x37 w =>
  sIf x37 (
    sIdxA Tryd.prog 106 x34 x36 w fun x38 w =>
    sLoad Tryd.prog 70 x38 w fun x39 w =>
    sCall Tryd.prog 60 [x39] w fun x41 w =>
    sFld Tryd.prog 83 x41 0 w fun x42 w =>
    sBin Tryd.prog .geq 3 false false i1_2 x42 w fun x45 w =>
    sIf x45 (
      sBin Tryd.prog .sub 3 false false i1_2 x42 w fun x48 w =>
      sBin Tryd.prog .add 3 false true x36 (.int .i64 1) w fun x50 w =>
      Nx3 [x48, n6_1, x50] w) (
      Nx2 [i1_2, x39] w)) (
    Nx2 [i1_2, n6_1] w)

def tree_Tree_At_L2 (K : K1) (Nx2 : List Value → World → Prop) (x4 : Value) (i1_1 n6 : Value) (w : World) : Prop :=
  sAssert Tryd.prog n6 70 108 true w fun x26 w =>
  sExtract x26 0 w fun x27 w =>
  sExtract x26 1 w fun x28 w =>
  sUn Tryd.prog .not x28 w fun x30 w =>
  sIf x30 (
    sAssert Tryd.prog n6 70 76 false w fun x52 w =>
    sNil x52 w fun x53 w =>
    sFldA Tryd.prog 112 x53 0 w fun x54 w =>
    sLoad Tryd.prog 58 x54 w fun x55 w =>
    sIdxA Tryd.prog 58 x55 i1_1 w fun x57 w =>
    sLoad Tryd.prog 73 x57 w fun x58 w =>
    sStore Tryd.prog 73 x4 x58 w fun w =>
    sLoad Tryd.prog 73 x4 w fun v w' => w' = w ∧ K (.tuple #[v, (.int .i64 0)]) w) (
    sNil x27 w fun x32 w =>
    sFldA Tryd.prog 128 x32 0 w fun x33 w =>
    sLoad Tryd.prog 106 x33 w fun x34 w =>
    sBuiltin Tryd.prog .len [106] 3 [x34] w fun x35 w =>
    LoopS [i1_1, n6, (.int .i64 0)] 3 16 w fun us _ w Nx3 =>
      tree_Tree_At_L3 Nx2 Nx3 x34 x35 (hd us) (hd (tl us)) (hd (tl (tl us))) w)

def tree_Tree_At_J1 (K : K1) (i1 t0 x4 : Value) (x20 : Value) (w : World) : Prop :=
  sIf x20 (
    sBuild Tryd.prog 73 [] w fun x21 w =>
    sStore Tryd.prog 73 x4 x21 w fun w =>
    sLoad Tryd.prog 73 x4 w fun v w' => w' = w ∧ K (.tuple #[v, (.int .i64 1)]) w) (
    sCall Tryd.prog 61 [t0] w fun x23 w =>
    LoopS [i1, x23] 2 31 w fun us _ w Nx2 =>
      tree_Tree_At_L2 K Nx2 x4 (hd us) (hd (tl us)) w)

def tree_Tree_At (K : K1) (t0 i1 : Value) (w : World) : Prop :=
  sAlloc Tryd.prog 73 w fun x4 w =>
  JoinS 1 8 (fun M1 =>
    sBin Tryd.prog .lss 3 false true i1 (.int .i64 0) w fun x13 w =>
    sIf x13 (
      M1 [(.bool true)] w) (
      sCall Tryd.prog 43 [t0] w fun x17 w =>
      sFld Tryd.prog 83 x17 0 w fun x18 w =>
      sBin Tryd.prog .geq 3 false false i1 x18 w fun x19 w =>
      M1 [x19] w)) fun us _ w =>
    tree_Tree_At_J1 K i1 t0 x4 (hd us) w

def tree_Tree_At.sc : SC := (.seq (.reg (.op 0 (.op 1 .done))) (.sub (.seq (.join [20] [12, 13, 14, 15, 16, 17, 18, 19] (.reg (.op 0 (.op 1 (.op 2 (.test 2 (.skip 3 (.skip 4 (.skip 5 (.skip 6 (.skip 7 (.op 8 .done)))))) (.op 3 (.op 4 (.op 5 (.op 6 (.op 7 (.op 8 .done))))))))))) (.cond (.seq (.reg (.op 0 (.op 1 (.op 2 .done)))) .nop) .nop)) (.seq (.reg (.op 0 (.op 1 (.op 2 .done)))) (.seq .nop (.seq (.sub (.loop [1, 6] [25, 26, 24, 27, 28, 7, 8, 29, 30, 31, 32, 33, 34, 35, 36, 37, 38, 39, 10, 40, 41, 42, 11, 43, 44, 45, 46, 47, 48, 49, 50] (.sub (.seq (.reg (.op 0 (.op 1 (.op 2 (.op 3 (.op 4 (.op 5 (.op 6 .done)))))))) (.seq (.seq (.reg (.op 0 (.op 1 .done))) (.cond .nop .nop)) (.seq (.reg (.op 0 (.op 1 (.op 2 (.op 3 (.op 4 (.op 5 .done))))))) (.sub (.loop [1, 6, 36] [37, 38, 39, 10, 40, 41, 42, 11, 43, 44, 45, 46, 47, 48, 49, 50] (.seq (.reg (.op 0 .done)) (.seq (.cond .nop .nop) (.seq (.sub (.seq (.reg (.op 0 (.op 1 (.op 2 .done)))) (.seq (.seq (.reg (.op 0 (.op 1 (.op 2 (.op 3 .done))))) (.seq (.reg (.op 0 (.op 1 (.op 2 .done)))) (.cond (.seq (.reg (.op 0 (.op 1 (.op 2 (.op 3 .done))))) .nop) .nop))) (.seq (.reg (.op 0 (.op 1 .done))) .nop)))) (.reg (.op 0 (.op 1 .done)))))))))))))) (.seq (.reg (.op 0 (.op 1 (.op 2 (.op 3 (.op 4 (.op 5 (.op 6 (.op 7 (.op 8 (.op 9 .done))))))))))) .nop)))))))

theorem tree_Tree_At.ok : okC Tryd.f64.ntmps tree_Tree_At.sc (bodyOf Tryd.f64) = true := by kernel_rfl

theorem tree_Tree_At.eq {K : K1} {t0 i1 : Value} {w : World} : tree_Tree_At K t0 i1 w = codeS Tryd.prog tree_Tree_At.sc (bodyOf Tryd.f64) (argsF 0 [t0, i1]) w (retQ Tryd.prog Tryd.f64.results.toList K) := by kernel_rfl

theorem tree_Tree_At.call {K : K1} {t0 i1 : Value} {w : World} (h : tree_Tree_At K t0 i1 w) : sCall Tryd.prog 64 [t0, i1] w K := sCall_code mixed Tryd.func64 (by kernel_rfl) rfl rfl tree_Tree_At.ok tree_Tree_At.eq h

abbrev tree_Tree_At.n : Nat := 64

/-- '(*strings.Builder).copyCheck' -/
def strings_Builder_copyCheck (K : K1) (b0 : Value) (w : World) : Prop :=
  sNil b0 w fun x3 w =>
  sFldA Tryd.prog 97 x3 0 w fun x4 w =>
  sLoad Tryd.prog 94 x4 w fun x5 w =>
  sBin Tryd.prog .eql 94 false true x5 (.pointer none) w fun x6 w =>
  sIf x6 (
    sConv Tryd.prog 94 139 b0 w fun x9 w =>
    sCall Tryd.prog 76 [x9] w fun x10 w =>
    sConv Tryd.prog 139 94 x10 w fun x11 w =>
    sNil b0 w fun x12 w =>
    sFldA Tryd.prog 97 x12 0 w fun x13 w =>
    sStore Tryd.prog 94 x13 x11 w fun w =>
    K (.tuple #[]) w) (
    sNil b0 w fun x15 w =>
    sFldA Tryd.prog 97 x15 0 w fun x16 w =>
    sLoad Tryd.prog 94 x16 w fun x17 w =>
    sBin Tryd.prog .neq 94 false false x17 b0 w fun x19 w =>
    sIf x19 (
      False) (
      K (.tuple #[]) w))

def strings_Builder_copyCheck.sc : SC := (.seq (.reg (.op 0 (.op 1 (.op 2 (.op 3 (.op 4 .done)))))) (.cond (.reg (.op 0 (.op 1 (.op 2 (.op 3 (.op 4 (.op 5 (.op 6 (.op 7 .done))))))))) (.seq (.reg (.op 0 (.op 1 (.op 2 (.op 3 (.op 4 (.op 5 .done))))))) (.cond .nop .nop))))

theorem strings_Builder_copyCheck.ok : okC Tryd.f65.ntmps strings_Builder_copyCheck.sc (bodyOf Tryd.f65) = true := by kernel_rfl

theorem strings_Builder_copyCheck.eq {K : K1} {b0 : Value} {w : World} : strings_Builder_copyCheck K b0 w = codeS Tryd.prog strings_Builder_copyCheck.sc (bodyOf Tryd.f65) (argsF 0 [b0]) w (retQ Tryd.prog Tryd.f65.results.toList K) := by kernel_rfl

theorem strings_Builder_copyCheck.call {K : K1} {b0 : Value} {w : World} (h : strings_Builder_copyCheck K b0 w) : sCall Tryd.prog 65 [b0] w K := sCall_code mixed Tryd.func65 (by kernel_rfl) rfl rfl strings_Builder_copyCheck.ok strings_Builder_copyCheck.eq h

abbrev strings_Builder_copyCheck.n : Nat := 65

/-- '(*bodkin seek.Cursor).End' -/
def seek_Cursor_End (K : K1) (c0 : Value) (w : World) : Prop :=
  sAlloc Tryd.prog 83 w fun x2 w =>
  sCall Tryd.prog 48 [c0] w fun x7 w =>
  sExtract x7 0 w fun x8 w =>
  sExtract x7 1 w fun x9 w =>
  sAlloc Tryd.prog 73 w fun i3 w =>
  sStore Tryd.prog 73 i3 x8 w fun w =>
  sUn Tryd.prog .not x9 w fun x11 w =>
  sIf x11 (
    sCall Tryd.prog 46 [c0] w fun x13 w =>
    sStore Tryd.prog 83 x2 x13 w fun w =>
    sLoad Tryd.prog 83 x2 w fun v w' => w' = w ∧ K v w) (
    DrawS w fun C w =>
    stillS C w (fun w k => sLoad Tryd.prog 73 i3 w k) fun x16 =>
    sCall Tryd.prog 46 [c0] w fun x15 w => C w ∧
    sCall Tryd.prog 72 [x16] w fun x17 w =>
    sCall Tryd.prog 71 [x15, x17] w fun x18 w =>
    sStore Tryd.prog 83 x2 x18 w fun w =>
    sLoad Tryd.prog 83 x2 w fun v w' => w' = w ∧ K v w)

def seek_Cursor_End.sc : SC := (.seq (.reg (.op 0 .done)) (.seq (.reg (.op 0 (.op 1 (.op 2 (.op 3 (.op 4 (.op 5 (.op 6 (.op 7 .done))))))))) (.seq (.seq (.reg (.op 0 (.op 1 .done))) (.cond (.seq (.reg (.op 0 (.op 1 (.op 2 .done)))) .nop) .nop)) (.seq (.draw (.op 0 (.op 2 (.op 1 (.fin 3 (.fin 4 (.fin 5 .done))))))) .nop))))

theorem seek_Cursor_End.ok : okC Tryd.f66.ntmps seek_Cursor_End.sc (bodyOf Tryd.f66) = true := by kernel_rfl

theorem seek_Cursor_End.eq {K : K1} {c0 : Value} {w : World} : seek_Cursor_End K c0 w = codeS Tryd.prog seek_Cursor_End.sc (bodyOf Tryd.f66) (argsF 0 [c0]) w (retQ Tryd.prog Tryd.f66.results.toList K) := by kernel_rfl

theorem seek_Cursor_End.call {K : K1} {c0 : Value} {w : World} (h : seek_Cursor_End K c0 w) : sCall Tryd.prog 66 [c0] w K := sCall_code mixed Tryd.func66 (by kernel_rfl) rfl rfl seek_Cursor_End.ok seek_Cursor_End.eq h

abbrev seek_Cursor_End.n : Nat := 66

/-- 'bodkin tree.heightOf' -/
def tree_heightOf (K : K1) (n0 : Value) (w : World) : Prop :=
  sAssert Tryd.prog n0 70 76 true w fun x6 w =>
  sExtract x6 1 w fun x7 w =>
  sExtract x6 0 w fun x8 w =>
  sIf x7 (
    K (.int .i64 1) w) (
    sAssert Tryd.prog n0 70 108 true w fun x9 w =>
    sExtract x9 1 w fun x10 w =>
    sExtract x9 0 w fun x11 w =>
    sIf x10 (
      sNil x11 w fun x13 w =>
      sFldA Tryd.prog 128 x13 1 w fun x14 w =>
      sLoad Tryd.prog 3 x14 w fun x15 w =>
      K x15 w) (
      K (.int .i64 0) w))

def tree_heightOf.sc : SC := (.seq (.reg (.op 0 .done)) (.seq (.seq (.reg (.op 0 .done)) (.sub (.seq (.reg (.op 0 (.op 1 (.op 2 .done)))) (.cond (.seq (.reg (.op 0 .done)) (.seq (.reg (.op 0 .done)) .nop)) (.seq (.reg (.op 0 (.op 1 (.op 2 .done)))) (.cond (.seq (.reg (.op 0 .done)) (.seq (.reg (.op 0 (.op 1 (.op 2 (.op 3 (.op 4 .done)))))) .nop)) .nop)))))) (.seq (.reg (.op 0 .done)) .nop)))

theorem tree_heightOf.ok : okC Tryd.f67.ntmps tree_heightOf.sc (bodyOf Tryd.f67) = true := by kernel_rfl

theorem tree_heightOf.eq {K : K1} {n0 : Value} {w : World} : tree_heightOf K n0 w = codeS Tryd.prog tree_heightOf.sc (bodyOf Tryd.f67) (argsF 0 [n0]) w (retQ Tryd.prog Tryd.f67.results.toList K) := by kernel_rfl

theorem tree_heightOf.call {K : K1} {n0 : Value} {w : World} (h : tree_heightOf K n0 w) : sCall Tryd.prog 67 [n0] w K := sCall_code mixed Tryd.func67 (by kernel_rfl) rfl rfl tree_heightOf.ok tree_heightOf.eq h

abbrev tree_heightOf.n : Nat := 67

/-- 'bodkin tree.raise' -/
def tree_raise (K : K1) (kids0 : Value) (w : World) : Prop :=
  sBuiltin Tryd.prog .len [106] 3 [kids0] w fun x5 w =>
  sBin Tryd.prog .leq 3 false true x5 (.int .i64 8) w fun x6 w =>
  sIf x6 (
    sCall Tryd.prog 54 [kids0] w fun x8 w =>
    sIface Tryd.prog 108 x8 w fun x9 w =>
    sBuildSlice Tryd.prog 106 1 [(0, x9)] w fun x10 w =>
    K x10 w) (
    sBuiltin Tryd.prog .len [106] 3 [kids0] w fun x12 w =>
    sBin Tryd.prog .quo 3 false true x12 (.int .i64 2) w fun x13 w =>
    DrawS w fun C w =>
    stillS C w (fun w k => sSlice Tryd.prog 106 kids0 none (some x13) (some x13) w k) fun x17 =>
    stillS C w (fun w k => sSlice Tryd.prog 106 kids0 (some x13) none none w k) fun x22 =>
    sCall Tryd.prog 54 [x17] w fun x18 w => C w ∧
    stillS C w (fun w k => sIface Tryd.prog 108 x18 w k) fun x19 =>
    sCall Tryd.prog 54 [x22] w fun x23 w => C w ∧
    stillS C w (fun w k => sIface Tryd.prog 108 x23 w k) fun x24 =>
    sBuildSlice Tryd.prog 106 2 [(0, x19), (1, x24)] w fun x25 w => C w ∧
    K x25 w)

def tree_raise.sc : SC := (.seq (.reg (.op 0 .done)) (.seq (.seq (.reg (.op 0 (.op 1 (.op 2 .done)))) (.cond (.seq (.reg (.op 0 (.op 1 (.op 2 (.op 3 (.op 4 .done)))))) .nop) .nop)) (.seq (.reg (.op 0 (.op 1 (.op 2 (.op 3 .done))))) (.seq (.draw (.op 0 (.op 1 (.op 2 (.op 3 (.op 6 (.op 7 (.op 8 (.op 4 (.op 5 (.op 9 (.op 10 (.op 11 (.op 12 .done)))))))))))))) .nop))))

theorem tree_raise.ok : okC Tryd.f68.ntmps tree_raise.sc (bodyOf Tryd.f68) = true := by kernel_rfl

theorem tree_raise.eq {K : K1} {kids0 : Value} {w : World} : tree_raise K kids0 w = codeS Tryd.prog tree_raise.sc (bodyOf Tryd.f68) (argsF 0 [kids0]) w (retQ Tryd.prog Tryd.f68.results.toList K) := by kernel_rfl

theorem tree_raise.call {K : K1} {kids0 : Value} {w : World} (h : tree_raise K kids0 w) : sCall Tryd.prog 68 [kids0] w K := sCall_code mixed Tryd.func68 (by kernel_rfl) rfl rfl tree_raise.ok tree_raise.eq h

abbrev tree_raise.n : Nat := 68

/-- 'bodkin tree.put' -/
def tree_put (K : K1) (a0 b1 : Value) (w : World) : Prop :=
  sBuiltin Tryd.prog .len [106] 3 [a0] w fun x7 w =>
  sBuiltin Tryd.prog .len [106] 3 [b1] w fun x9 w =>
  sBin Tryd.prog .add 3 false false x7 x9 w fun x10 w =>
  sMake Tryd.prog 106 (.int .i64 0) x10 w fun x11 w =>
  sBuiltin Tryd.prog .append [106, 106] 106 [x11, a0] w fun x14 w =>
  sBuiltin Tryd.prog .append [106, 106] 106 [x14, b1] w fun x17 w =>
  K x17 w

def tree_put.sc : SC := (.seq (.reg (.op 0 .done)) (.seq (.reg (.op 0 (.op 1 (.op 2 (.op 3 (.op 4 (.op 5 (.op 6 .done)))))))) (.seq (.reg (.op 0 (.op 1 (.op 2 (.op 3 .done))))) (.seq (.reg (.op 0 (.op 1 (.op 2 (.op 3 .done))))) .nop))))

theorem tree_put.ok : okC Tryd.f69.ntmps tree_put.sc (bodyOf Tryd.f69) = true := by kernel_rfl

theorem tree_put.eq {K : K1} {a0 b1 : Value} {w : World} : tree_put K a0 b1 w = codeS Tryd.prog tree_put.sc (bodyOf Tryd.f69) (argsF 0 [a0, b1]) w (retQ Tryd.prog Tryd.f69.results.toList K) := by kernel_rfl

theorem tree_put.call {K : K1} {a0 b1 : Value} {w : World} (h : tree_put K a0 b1 w) : sCall Tryd.prog 69 [a0, b1] w K := sCall_code mixed Tryd.func69 (by kernel_rfl) rfl rfl tree_put.ok tree_put.eq h

abbrev tree_put.n : Nat := 69

/-- 'bodkin tree.spread' -/
def tree_spread (K : K1) (l0 : Value) (w : World) : Prop :=
  sBuiltin Tryd.prog .len [58] 3 [l0] w fun x5 w =>
  sBin Tryd.prog .leq 3 false true x5 (.int .i64 8) w fun x6 w =>
  sIf x6 (
    sCall Tryd.prog 37 [l0] w fun x8 w =>
    sIface Tryd.prog 76 x8 w fun x9 w =>
    sBuildSlice Tryd.prog 106 1 [(0, x9)] w fun x10 w =>
    K x10 w) (
    sBuiltin Tryd.prog .len [58] 3 [l0] w fun x12 w =>
    sBin Tryd.prog .quo 3 false true x12 (.int .i64 2) w fun x13 w =>
    DrawS w fun C w =>
    stillS C w (fun w k => sSlice Tryd.prog 58 l0 none (some x13) (some x13) w k) fun x17 =>
    stillS C w (fun w k => sSlice Tryd.prog 58 l0 (some x13) none none w k) fun x22 =>
    sCall Tryd.prog 37 [x17] w fun x18 w => C w ∧
    stillS C w (fun w k => sIface Tryd.prog 76 x18 w k) fun x19 =>
    sCall Tryd.prog 37 [x22] w fun x23 w => C w ∧
    stillS C w (fun w k => sIface Tryd.prog 76 x23 w k) fun x24 =>
    sBuildSlice Tryd.prog 106 2 [(0, x19), (1, x24)] w fun x25 w => C w ∧
    K x25 w)

def tree_spread.sc : SC := (.seq (.reg (.op 0 .done)) (.seq (.seq (.reg (.op 0 (.op 1 (.op 2 .done)))) (.cond (.seq (.reg (.op 0 (.op 1 (.op 2 (.op 3 (.op 4 .done)))))) .nop) .nop)) (.seq (.reg (.op 0 (.op 1 (.op 2 (.op 3 .done))))) (.seq (.draw (.op 0 (.op 1 (.op 2 (.op 3 (.op 6 (.op 7 (.op 8 (.op 4 (.op 5 (.op 9 (.op 10 (.op 11 (.op 12 .done)))))))))))))) .nop))))

theorem tree_spread.ok : okC Tryd.f70.ntmps tree_spread.sc (bodyOf Tryd.f70) = true := by kernel_rfl

theorem tree_spread.eq {K : K1} {l0 : Value} {w : World} : tree_spread K l0 w = codeS Tryd.prog tree_spread.sc (bodyOf Tryd.f70) (argsF 0 [l0]) w (retQ Tryd.prog Tryd.f70.results.toList K) := by kernel_rfl

theorem tree_spread.call {K : K1} {l0 : Value} {w : World} (h : tree_spread K l0 w) : sCall Tryd.prog 70 [l0] w K := sCall_code mixed Tryd.func70 (by kernel_rfl) rfl rfl tree_spread.ok tree_spread.eq h

abbrev tree_spread.n : Nat := 70

/-- 'bodkin item.Add' -/
def item_Add_J2 (K : K1) (a2 b3 s5 x4 : Value) (x47 : Value) (w : World) : Prop :=
  sIf x47 (
    DrawS w fun C w =>
    stillS C w (fun w k => sFldA Tryd.prog 83 b3 2 w k) fun x48 =>
    stillS C w (fun w k => sLoad Tryd.prog 3 x48 w k) fun x49 =>
    stillS C w (fun w k => sFldA Tryd.prog 83 a2 0 w k) fun x50 =>
    stillS C w (fun w k => sLoad Tryd.prog 3 x50 w k) fun x51 =>
    stillS C w (fun w k => sFldA Tryd.prog 83 b3 3 w k) fun x52 =>
    stillS C w (fun w k => sLoad Tryd.prog 3 x52 w k) fun x53 =>
    stillS C w (fun w k => sBin Tryd.prog .add 3 false false x51 x53 w k) fun x54 =>
    stillS C w (fun w k => sFldA Tryd.prog 83 s5 2 w k) fun x55 =>
    sStore Tryd.prog 3 x55 x49 w fun w => C w ∧
    stillS C w (fun w k => sFldA Tryd.prog 83 s5 3 w k) fun x56 =>
    sStore Tryd.prog 3 x56 x54 w fun w =>
    sLoad Tryd.prog 83 s5 w fun x57 w =>
    sStore Tryd.prog 83 x4 x57 w fun w =>
    sLoad Tryd.prog 83 x4 w fun v w' => w' = w ∧ K v w) (
    sLoad Tryd.prog 83 s5 w fun x57_1 w =>
    sStore Tryd.prog 83 x4 x57_1 w fun w =>
    sLoad Tryd.prog 83 x4 w fun v w' => w' = w ∧ K v w)

def item_Add_L1 (K : K1) (Nx1 : List Value → World → Prop) (a2 b3 s5 x4 : Value) (x17 : Value) (w : World) : Prop :=
  sBin Tryd.prog .lss 3 false true x17 (.int .i64 3) w fun x18 w =>
  sIf x18 (
    DrawS w fun C w =>
    stillS C w (fun w k => sFldA Tryd.prog 83 a2 1 w k) fun x22 =>
    stillS C w (fun w k => sIdxA Tryd.prog 71 x22 x17 w k) fun x23 =>
    stillS C w (fun w k => sLoad Tryd.prog 3 x23 w k) fun x24 =>
    stillS C w (fun w k => sFldA Tryd.prog 83 b3 1 w k) fun x26 =>
    stillS C w (fun w k => sIdxA Tryd.prog 71 x26 x17 w k) fun x27 =>
    stillS C w (fun w k => sLoad Tryd.prog 3 x27 w k) fun x28 =>
    stillS C w (fun w k => sBin Tryd.prog .add 3 false false x24 x28 w k) fun x29 =>
    stillS C w (fun w k => sFldA Tryd.prog 83 s5 1 w k) fun x30 =>
    stillS C w (fun w k => sIdxA Tryd.prog 71 x30 x17 w k) fun x31 =>
    sStore Tryd.prog 3 x31 x29 w fun w =>
    sBin Tryd.prog .add 3 false true x17 (.int .i64 1) w fun x32 w =>
    Nx1 [x32] w) (
    JoinS 1 14 (fun M2 =>
      sFldA Tryd.prog 83 b3 0 w fun x33 w =>
      sLoad Tryd.prog 3 x33 w fun x34 w =>
      sBin Tryd.prog .gtr 3 false true x34 (.int .i64 0) w fun x35 w =>
      sIf x35 (
        sFldA Tryd.prog 83 a2 0 w fun x37 w =>
        sLoad Tryd.prog 3 x37 w fun x38 w =>
        sBin Tryd.prog .eql 3 false true x38 (.int .i64 0) w fun x39 w =>
        sIf x39 (
          M2 [(.bool true)] w) (
          sFldA Tryd.prog 83 b3 2 w fun x41 w =>
          sLoad Tryd.prog 3 x41 w fun x42 w =>
          sFldA Tryd.prog 83 a2 2 w fun x43 w =>
          sLoad Tryd.prog 3 x43 w fun x44 w =>
          sBin Tryd.prog .gtr 3 false false x42 x44 w fun x45 w =>
          M2 [x45] w)) (
        M2 [(.bool false)] w)) fun us _ w =>
      item_Add_J2 K a2 b3 s5 x4 (hd us) w)

def item_Add (K : K1) (a0 b1 : Value) (w : World) : Prop :=
  sBox Tryd.prog 83 a0 w fun a2 w =>
  sBox Tryd.prog 83 b1 w fun b3 w =>
  sAlloc Tryd.prog 83 w fun x4 w =>
  sFldA Tryd.prog 83 a2 0 w fun x7 w =>
  sLoad Tryd.prog 3 x7 w fun x8 w =>
  sFldA Tryd.prog 83 b3 0 w fun x9 w =>
  sLoad Tryd.prog 3 x9 w fun x10 w =>
  sBin Tryd.prog .add 3 false false x8 x10 w fun x11 w =>
  sFldA Tryd.prog 83 a2 2 w fun x12 w =>
  sLoad Tryd.prog 3 x12 w fun x13 w =>
  sFldA Tryd.prog 83 a2 3 w fun x14 w =>
  sLoad Tryd.prog 3 x14 w fun x15 w =>
  sBuild Tryd.prog 83 [(0, x11), (2, x13), (3, x15)] w fun x16 w =>
  sAlloc Tryd.prog 83 w fun s5 w =>
  sStore Tryd.prog 83 s5 x16 w fun w =>
  LoopS [(.int .i64 0)] 1 16 w fun us _ w Nx1 =>
    item_Add_L1 K Nx1 a2 b3 s5 x4 (hd us) w

def item_Add.sc : SC := (.seq (.reg (.op 0 (.op 1 (.op 2 .done)))) (.seq (.reg (.op 0 (.op 1 (.op 2 (.op 3 (.op 4 (.op 5 (.op 6 (.op 7 (.op 8 (.op 9 (.op 10 (.op 11 .done))))))))))))) (.seq (.seq (.reg (.op 0 .done)) (.sub (.loop [17] [18, 19, 6, 20, 21, 22, 23, 24, 25, 26, 27, 28, 29, 30, 31, 32] (.seq (.reg (.op 0 .done)) (.seq (.cond .nop .nop) (.seq (.sub (.seq (.reg (.op 0 (.op 1 .done))) (.draw (.op 0 (.op 1 (.op 2 (.op 3 (.op 4 (.op 5 (.op 6 (.op 7 (.op 8 (.op 9 (.op 10 (.op 11 (.fin 12 .done)))))))))))))))) (.reg (.op 0 (.op 1 .done))))))))) (.seq (.join [47] [33, 34, 35, 36, 37, 38, 39, 40, 41, 42, 43, 44, 45, 46] (.reg (.op 0 (.op 1 (.op 2 (.op 3 (.test 3 (.op 4 (.op 5 (.op 6 (.op 7 (.test 7 (.skip 8 (.skip 9 (.skip 10 (.skip 11 (.skip 12 (.op 13 (.op 14 .done))))))) (.op 8 (.op 9 (.op 10 (.op 11 (.op 12 (.op 13 (.op 14 .done)))))))))))) (.skip 4 (.skip 5 (.skip 6 (.skip 7 (.skip 8 (.skip 9 (.skip 10 (.skip 11 (.skip 12 (.skip 13 (.op 14 .done))))))))))))))))) (.cond (.draw (.op 0 (.op 1 (.op 2 (.op 3 (.op 4 (.op 5 (.op 6 (.op 7 (.op 8 (.op 9 (.fin 10 .done)))))))))))) .nop)) (.seq (.reg (.op 0 (.op 1 .done))) .nop)))))

theorem item_Add.ok : okC Tryd.f71.ntmps item_Add.sc (bodyOf Tryd.f71) = true := by kernel_rfl

theorem item_Add.eq {K : K1} {a0 b1 : Value} {w : World} : item_Add K a0 b1 w = codeS Tryd.prog item_Add.sc (bodyOf Tryd.f71) (argsF 0 [a0, b1]) w (retQ Tryd.prog Tryd.f71.results.toList K) := by kernel_rfl

theorem item_Add.call {K : K1} {a0 b1 : Value} {w : World} (h : item_Add K a0 b1 w) : sCall Tryd.prog 71 [a0, b1] w K := sCall_code mixed Tryd.func71 (by kernel_rfl) rfl rfl item_Add.ok item_Add.eq h

abbrev item_Add.n : Nat := 71

/-- 'bodkin item.Of' -/
def item_Of (K : K1) (i0 : Value) (w : World) : Prop :=
  sBox Tryd.prog 73 i0 w fun i1 w =>
  sAlloc Tryd.prog 83 w fun x2 w =>
  sFldA Tryd.prog 73 i1 2 w fun x3 w =>
  sLoad Tryd.prog 71 x3 w fun x4 w =>
  sFldA Tryd.prog 73 i1 3 w fun x5 w =>
  sLoad Tryd.prog 3 x5 w fun x6 w =>
  sBuild Tryd.prog 83 [(0, (.int .i64 1)), (1, x4), (2, x6)] w fun x7 w =>
  sStore Tryd.prog 83 x2 x7 w fun w =>
  sLoad Tryd.prog 83 x2 w fun v w' => w' = w ∧ K v w

def item_Of.sc : SC := (.seq (.reg (.op 0 (.op 1 .done))) (.seq (.reg (.op 0 (.op 1 (.op 2 (.op 3 (.op 4 (.op 5 .done))))))) .nop))

theorem item_Of.ok : okC Tryd.f72.ntmps item_Of.sc (bodyOf Tryd.f72) = true := by kernel_rfl

theorem item_Of.eq {K : K1} {i0 : Value} {w : World} : item_Of K i0 w = codeS Tryd.prog item_Of.sc (bodyOf Tryd.f72) (argsF 0 [i0]) w (retQ Tryd.prog Tryd.f72.results.toList K) := by kernel_rfl

theorem item_Of.call {K : K1} {i0 : Value} {w : World} (h : item_Of K i0 w) : sCall Tryd.prog 72 [i0] w K := sCall_code mixed Tryd.func72 (by kernel_rfl) rfl rfl item_Of.ok item_Of.eq h

abbrev item_Of.n : Nat := 72

/-- 'bodkin utf.right' -/
def utf_right (K : K1) (r0 : Value) (w : World) : Prop :=
  sBin Tryd.prog .geq 21 false true r0 (.int .i32 0) w fun x4 w =>
  sIf x4 (
    sIdxA Tryd.prog 141 (.pointer (some ⟨1, 0, none⟩)) (.int .i64 3) w fun x7 w =>
    sLoad Tryd.prog 21 x7 w fun x8 w =>
    sBin Tryd.prog .leq 21 false false r0 x8 w fun x9 w =>
    sIf x9 (
      sBin Tryd.prog .lss 21 false true r0 (.int .i32 55296) w fun x13 w =>
      sIf x13 (
        K (.bool true) w) (
        sBin Tryd.prog .gtr 21 false true r0 (.int .i32 57343) w fun x16 w =>
        K x16 w)) (
      K (.bool false) w)) (
    K (.bool false) w)

def utf_right.sc : SC := (.seq (.reg (.op 0 .done)) (.seq (.reg (.op 0 (.op 1 (.op 2 (.test 2 (.op 3 (.op 4 (.op 5 (.op 6 (.op 7 (.op 8 (.test 8 (.op 9 (.op 10 (.op 11 (.test 11 (.skip 12 (.skip 13 (.op 14 (.op 15 (.op 16 .done))))) (.op 12 (.op 13 (.op 14 (.op 15 (.op 16 .done))))))))) (.skip 9 (.skip 10 (.skip 11 (.skip 12 (.skip 13 (.skip 14 (.op 15 (.op 16 .done))))))))))))))) (.skip 3 (.skip 4 (.skip 5 (.skip 6 (.op 7 (.op 8 (.know 8 false (.skip 9 (.skip 10 (.skip 11 (.skip 12 (.skip 13 (.skip 14 (.op 15 (.op 16 .done)))))))))))))))))))) .nop))

theorem utf_right.ok : okC Tryd.f73.ntmps utf_right.sc (bodyOf Tryd.f73) = true := by kernel_rfl

theorem utf_right.eq {K : K1} {r0 : Value} {w : World} : utf_right K r0 w = codeS Tryd.prog utf_right.sc (bodyOf Tryd.f73) (argsF 0 [r0]) w (retQ Tryd.prog Tryd.f73.results.toList K) := by kernel_rfl

theorem utf_right.call {K : K1} {r0 : Value} {w : World} (h : utf_right K r0 w) : sCall Tryd.prog 73 [r0] w K := sCall_code mixed Tryd.func73 (by kernel_rfl) rfl rfl utf_right.ok utf_right.eq h

abbrev utf_right.n : Nat := 73

/-- '(*bodkin tree.Tree).Find' -/
def tree_Tree_Find_J5 (Nx3 : List Value → World → Prop) (Nx4 : List Value → World → Prop) (dim1 n13_1 p12 x52 x74 x77 : Value) (s18_3 : Value) (w : World) : Prop :=
  sLoad Tryd.prog 83 s18_3 w fun x84 w =>
  sCall Tryd.prog 81 [x84, dim1] w fun x86 w =>
  sDyn Tryd.prog x52 [x86] w fun x87 w =>
  sIf x87 (
    Nx3 [x77] w) (
    sLoad Tryd.prog 83 s18_3 w fun x89 w =>
    sFldA Tryd.prog 120 p12 1 w fun x90 w =>
    sStore Tryd.prog 83 x90 x89 w fun w =>
    sBin Tryd.prog .add 3 false true x74 (.int .i64 1) w fun x91 w =>
    Nx4 [n13_1, x91] w)

def tree_Tree_Find_L4 (Nx3 : List Value → World → Prop) (Nx4 : List Value → World → Prop) (dim1 p12 x52 x72 x73 : Value) (n13_1 x74 : Value) (w : World) : Prop :=
  sBin Tryd.prog .lss 3 false false x74 x73 w fun x75 w =>
  sIf x75 (
    sIdxA Tryd.prog 106 x72 x74 w fun x76 w =>
    sLoad Tryd.prog 70 x76 w fun x77 w =>
    JoinS 1 5 (fun M5 =>
      DrawS w fun C w =>
      stillS C w (fun w k => sFldA Tryd.prog 120 p12 1 w k) fun x78 =>
      stillS C w (fun w k => sLoad Tryd.prog 83 x78 w k) fun x79 =>
      (
        sCall Tryd.prog 60 [x77] w fun x81 w => C w ∧
        (
          sCall Tryd.prog 71 [x79, x81] w fun x82 w => C w ∧
          sAlloc Tryd.prog 83 w fun s18 w => C w ∧
          sStore Tryd.prog 83 s18 x82 w fun w =>
          M5 [s18] w) ∧ (
          sAlloc Tryd.prog 83 w fun s18_1 w => C w ∧
          sCall Tryd.prog 71 [x79, x81] w fun x82_1 w =>
          sStore Tryd.prog 83 s18_1 x82_1 w fun w =>
          M5 [s18_1] w)) ∧ (
        sAlloc Tryd.prog 83 w fun s18_2 w => C w ∧
        sCall Tryd.prog 60 [x77] w fun x81_1 w => C w ∧
        sCall Tryd.prog 71 [x79, x81_1] w fun x82_2 w =>
        sStore Tryd.prog 83 s18_2 x82_2 w fun w =>
        M5 [s18_2] w)) fun us _ w =>
      tree_Tree_Find_J5 Nx3 Nx4 dim1 n13_1 p12 x52 x74 x77 (hd us) w) (
    Nx3 [n13_1] w)

def tree_Tree_Find_L3 (M2 : List Value → World → Prop) (Nx3 : List Value → World → Prop) (dim1 p12 x52 : Value) (n13 : Value) (w : World) : Prop :=
  sBin Tryd.prog .neq 70 false true n13 .nilIface w fun x57 w =>
  sIf x57 (
    sFldA Tryd.prog 120 p12 2 w fun x58 w =>
    sLoad Tryd.prog 3 x58 w fun x59 w =>
    sBin Tryd.prog .add 3 false true x59 (.int .i64 1) w fun x60 w =>
    sFldA Tryd.prog 120 p12 2 w fun x61 w =>
    sStore Tryd.prog 3 x61 x60 w fun w =>
    sAssert Tryd.prog n13 70 108 true w fun x64 w =>
    sExtract x64 0 w fun x65 w =>
    sExtract x64 1 w fun x66 w =>
    sUn Tryd.prog .not x66 w fun x68 w =>
    sIf x68 (
      M2 [n13] w) (
      sNil x65 w fun x70 w =>
      sFldA Tryd.prog 128 x70 0 w fun x71 w =>
      sLoad Tryd.prog 106 x71 w fun x72 w =>
      sBuiltin Tryd.prog .len [106] 3 [x72] w fun x73 w =>
      LoopS [.nilIface, (.int .i64 0)] 2 19 w fun us _ w Nx4 =>
        tree_Tree_Find_L4 Nx3 Nx4 dim1 p12 x52 x72 x73 (hd us) (hd (tl us)) w)) (
    M2 [n13] w)

def tree_Tree_Find_J8 (M6 : List Value → World → Prop) (Nx7 : List Value → World → Prop) (dim1 p12 x103 x52 : Value) (s23_3 : Value) (w : World) : Prop :=
  sLoad Tryd.prog 83 s23_3 w fun x113 w =>
  sCall Tryd.prog 81 [x113, dim1] w fun x115 w =>
  sDyn Tryd.prog x52 [x115] w fun x116 w =>
  sIf x116 (
    M6 [] w) (
    sLoad Tryd.prog 83 s23_3 w fun x117 w =>
    sFldA Tryd.prog 120 p12 1 w fun x118 w =>
    sStore Tryd.prog 83 x118 x117 w fun w =>
    sBin Tryd.prog .add 3 false true x103 (.int .i64 1) w fun x119 w =>
    Nx7 [x119] w)

def tree_Tree_Find_L7 (M6 : List Value → World → Prop) (Nx7 : List Value → World → Prop) (dim1 p12 x101 x102 x52 : Value) (x103 : Value) (w : World) : Prop :=
  sBin Tryd.prog .lss 3 false false x103 x102 w fun x104 w =>
  sIf x104 (
    sIdxA Tryd.prog 58 x101 x103 w fun x105 w =>
    sLoad Tryd.prog 73 x105 w fun x106 w =>
    sAlloc Tryd.prog 73 w fun i22 w =>
    sStore Tryd.prog 73 i22 x106 w fun w =>
    JoinS 1 5 (fun M8 =>
      DrawS w fun C w =>
      stillS C w (fun w k => sFldA Tryd.prog 120 p12 1 w k) fun x107 =>
      stillS C w (fun w k => sLoad Tryd.prog 83 x107 w k) fun x108 =>
      stillS C w (fun w k => sLoad Tryd.prog 73 i22 w k) fun x109 =>
      (
        sCall Tryd.prog 72 [x109] w fun x110 w => C w ∧
        (
          sCall Tryd.prog 71 [x108, x110] w fun x111 w => C w ∧
          sAlloc Tryd.prog 83 w fun s23 w => C w ∧
          sStore Tryd.prog 83 s23 x111 w fun w =>
          M8 [s23] w) ∧ (
          sAlloc Tryd.prog 83 w fun s23_1 w => C w ∧
          sCall Tryd.prog 71 [x108, x110] w fun x111_1 w =>
          sStore Tryd.prog 83 s23_1 x111_1 w fun w =>
          M8 [s23_1] w)) ∧ (
        sAlloc Tryd.prog 83 w fun s23_2 w => C w ∧
        sCall Tryd.prog 72 [x109] w fun x110_1 w => C w ∧
        sCall Tryd.prog 71 [x108, x110_1] w fun x111_2 w =>
        sStore Tryd.prog 83 s23_2 x111_2 w fun w =>
        M8 [s23_2] w)) fun us _ w =>
      tree_Tree_Find_J8 M6 Nx7 dim1 p12 x103 x52 (hd us) w) (
    M6 [] w)

def tree_Tree_Find_J6 (K : K1) (p12 x8 : Value) (w : World) : Prop :=
  sFldA Tryd.prog 120 p12 1 w fun x120 w =>
  sFldA Tryd.prog 83 x120 0 w fun x121 w =>
  sLoad Tryd.prog 3 x121 w fun x122 w =>
  sFldA Tryd.prog 120 p12 0 w fun x123 w =>
  sStore Tryd.prog 3 x123 x122 w fun w =>
  sLoad Tryd.prog 120 p12 w fun x124 w =>
  sStore Tryd.prog 120 x8 x124 w fun w =>
  sLoad Tryd.prog 120 x8 w fun v w' => w' = w ∧ K (.tuple #[v, (.int .i64 0)]) w

def tree_Tree_Find_J2 (K : K1) (dim1 p12 x52 x8 : Value) (n13_2 : Value) (w : World) : Prop :=
  JoinS 0 32 (fun M6 =>
    sAssert Tryd.prog n13_2 70 76 true w fun x94 w =>
    sExtract x94 0 w fun x95 w =>
    sExtract x94 1 w fun x96 w =>
    sIf x96 (
      sNil x95 w fun x99 w =>
      sFldA Tryd.prog 112 x99 0 w fun x100 w =>
      sLoad Tryd.prog 58 x100 w fun x101 w =>
      sBuiltin Tryd.prog .len [58] 3 [x101] w fun x102 w =>
      LoopS [(.int .i64 0)] 1 18 w fun us _ w Nx7 =>
        tree_Tree_Find_L7 M6 Nx7 dim1 p12 x101 x102 x52 (hd us) w) (
      M6 [] w)) fun us _ w =>
    tree_Tree_Find_J6 K p12 x8 w

def tree_Tree_Find_J1 (K : K1) (bias7 dim1 t0 v6 x8 : Value) (x50 : Value) (w : World) : Prop :=
  sIf x50 (
    sBuild Tryd.prog 120 [] w fun x51 w =>
    sStore Tryd.prog 120 x8 x51 w fun w =>
    sLoad Tryd.prog 120 x8 w fun v w' => w' = w ∧ K (.tuple #[v, (.int .i64 1)]) w) (
    sFunc Tryd.prog (.func 82) [] [v6, bias7] w fun x52 w =>
    sBuild Tryd.prog 120 [] w fun x53 w =>
    sAlloc Tryd.prog 120 w fun p12 w =>
    sStore Tryd.prog 120 p12 x53 w fun w =>
    sCall Tryd.prog 61 [t0] w fun x55 w =>
    JoinS 1 40 (fun M2 =>
      LoopS [x55] 1 40 w fun us _ w Nx3 =>
        tree_Tree_Find_L3 M2 Nx3 dim1 p12 x52 (hd us) w) fun us _ w =>
      tree_Tree_Find_J2 K dim1 p12 x52 x8 (hd us) w)

def tree_Tree_Find (K : K1) (t0 dim1 v2 bias3 : Value) (w : World) : Prop :=
  sBox Tryd.prog 3 v2 w fun v6 w =>
  sBox Tryd.prog 3 bias3 w fun bias7 w =>
  sAlloc Tryd.prog 120 w fun x8 w =>
  sCall Tryd.prog 43 [t0] w fun x25 w =>
  sAlloc Tryd.prog 83 w fun all10 w =>
  sStore Tryd.prog 83 all10 x25 w fun w =>
  JoinS 1 24 (fun M1 =>
    DrawS w fun C w =>
    stillS C w (fun w k => sBin Tryd.prog .lss 3 false true dim1 (.int .i64 0) w k) fun x27 =>
    sIf x27 (
      M1 [(.bool true)] w) (
      stillS C w (fun w k => sBin Tryd.prog .gtr 3 false true dim1 (.int .i64 3) w k) fun x30 =>
      sIf x30 (
        M1 [(.bool true)] w) (
        stillS C w (fun w k => sLoad Tryd.prog 3 v6 w k) fun x33 =>
        stillS C w (fun w k => sBin Tryd.prog .lss 3 false true x33 (.int .i64 0) w k) fun x34 =>
        sIf x34 (
          M1 [(.bool true)] w) (
          stillS C w (fun w k => sLoad Tryd.prog 3 v6 w k) fun x37 =>
          stillS C w (fun w k => sLoad Tryd.prog 83 all10 w k) fun x38 =>
          sCall Tryd.prog 81 [x38, dim1] w fun x40 w => C w ∧
          stillS C w (fun w k => sBin Tryd.prog .gtr 3 false false x37 x40 w k) fun x41 =>
          sIf x41 (
            M1 [(.bool true)] w) (
            stillS C w (fun w k => sLoad Tryd.prog 3 bias7 w k) fun x44 =>
            stillS C w (fun w k => sBin Tryd.prog .neq 3 false true x44 (.int .i64 0) w k) fun x45 =>
            sIf x45 (
              stillS C w (fun w k => sLoad Tryd.prog 3 bias7 w k) fun x47 =>
              stillS C w (fun w k => sBin Tryd.prog .neq 3 false true x47 (.int .i64 1) w k) fun x48 =>
              M1 [x48] w) (
              M1 [(.bool false)] w)))))) fun us _ w =>
    tree_Tree_Find_J1 K bias7 dim1 t0 v6 x8 (hd us) w

def tree_Tree_Find.sc : SC := (.seq (.reg (.op 0 (.op 1 (.op 2 (.op 3 .done))))) (.seq (.reg (.op 0 (.op 1 (.op 2 (.op 3 .done))))) (.seq (.join [50] [26, 27, 28, 29, 30, 31, 32, 33, 34, 35, 36, 37, 38, 39, 40, 41, 42, 43, 44, 45, 46, 47, 48, 49] (.draw (.op 0 (.op 1 (.op 2 (.test 2 (.skip 3 (.skip 4 (.op 5 (.op 6 (.know 6 true (.skip 7 (.skip 8 (.op 9 (.op 10 (.know 10 true (.skip 11 (.skip 12 (.skip 13 (.skip 14 (.skip 15 (.op 16 (.op 17 (.know 17 true (.skip 18 (.skip 19 (.skip 20 (.skip 21 (.skip 22 (.skip 23 (.op 24 .done))))))))))))))))))))))))) (.op 3 (.op 4 (.op 5 (.op 6 (.test 6 (.skip 7 (.skip 8 (.op 9 (.op 10 (.know 10 true (.skip 11 (.skip 12 (.skip 13 (.skip 14 (.skip 15 (.op 16 (.op 17 (.know 17 true (.skip 18 (.skip 19 (.skip 20 (.skip 21 (.skip 22 (.skip 23 (.op 24 .done)))))))))))))))))))) (.op 7 (.op 8 (.op 9 (.op 10 (.test 10 (.skip 11 (.skip 12 (.skip 13 (.skip 14 (.skip 15 (.op 16 (.op 17 (.know 17 true (.skip 18 (.skip 19 (.skip 20 (.skip 21 (.skip 22 (.skip 23 (.op 24 .done))))))))))))))) (.op 11 (.op 12 (.op 13 (.op 14 (.op 15 (.op 16 (.op 17 (.test 17 (.skip 18 (.skip 19 (.skip 20 (.skip 21 (.skip 22 (.skip 23 (.op 24 .done))))))) (.op 18 (.op 19 (.op 20 (.test 20 (.op 21 (.op 22 (.op 23 (.op 24 .done)))) (.skip 21 (.skip 22 (.op 23 (.op 24 .done))))))))))))))))))))))))))))))) (.cond (.seq (.reg (.op 0 (.op 1 (.op 2 .done)))) .nop) .nop)) (.seq (.reg (.op 0 (.op 1 .done))) (.seq (.reg (.op 0 (.op 1 (.op 2 .done)))) (.seq (.reg (.op 0 (.op 1 (.op 2 .done)))) (.join [13] [56, 57, 58, 59, 60, 61, 63, 64, 62, 65, 66, 14, 15, 67, 68, 69, 70, 71, 72, 73, 74, 75, 76, 77, 17, 78, 79, 80, 81, 82, 18, 83, 84, 85, 86, 87, 88, 89, 90, 91] (.sub (.loop [13] [56, 57, 58, 59, 60, 61, 63, 64, 62, 65, 66, 14, 15, 67, 68, 69, 70, 71, 72, 73, 74, 75, 76, 77, 17, 78, 79, 80, 81, 82, 18, 83, 84, 85, 86, 87, 88, 89, 90, 91] (.seq (.seq (.reg (.op 0 (.op 1 .done))) (.cond .nop .nop)) (.sub (.seq (.reg (.op 0 (.op 1 (.op 2 (.op 3 (.op 4 .done)))))) (.seq (.reg (.op 0 (.op 1 (.op 2 (.op 3 (.op 4 (.op 5 (.op 6 .done)))))))) (.seq (.seq (.reg (.op 0 (.op 1 .done))) (.cond .nop .nop)) (.seq (.reg (.op 0 .done)) (.seq (.reg (.op 0 (.op 1 (.op 2 (.op 3 (.op 4 (.op 5 .done))))))) (.sub (.loop [13, 74] [75, 76, 77, 17, 78, 79, 80, 81, 82, 18, 83, 84, 85, 86, 87, 88, 89, 90, 91] (.seq (.reg (.op 0 .done)) (.seq (.cond .nop .nop) (.seq (.sub (.seq (.reg (.op 0 (.op 1 (.op 2 .done)))) (.join [18] [78, 79, 80, 81, 82] (.draw (.op 0 (.op 1 (.op 2 (.alt 3 (.alt 4 (.op 5 (.fin 6 .done)) 5 (.fin 4 (.fin 6 .done))) 5 (.op 3 (.fin 4 (.fin 6 .done)))))))) (.seq (.seq (.reg (.op 0 (.op 1 (.op 2 (.op 3 (.op 4 .done)))))) (.cond (.seq (.reg (.op 0 (.op 1 .done))) .nop) .nop)) (.reg (.op 0 (.op 1 (.op 2 .done)))))))) (.reg (.op 0 (.op 1 .done))))))))))))))))) (.join [] [93, 94, 92, 95, 96, 19, 20, 97, 98, 99, 100, 101, 102, 103, 104, 105, 106, 22, 107, 108, 109, 110, 111, 23, 112, 113, 114, 115, 116, 117, 118, 119] (.seq (.reg (.op 0 (.op 1 (.op 2 (.op 3 (.op 4 (.op 5 (.op 6 .done)))))))) (.seq (.reg (.op 0 .done)) (.cond (.seq (.reg (.op 0 (.op 1 (.op 2 (.op 3 (.op 4 (.op 5 .done))))))) (.sub (.loop [103] [104, 105, 106, 22, 107, 108, 109, 110, 111, 23, 112, 113, 114, 115, 116, 117, 118, 119] (.seq (.reg (.op 0 .done)) (.seq (.cond .nop .nop) (.seq (.sub (.seq (.reg (.op 0 (.op 1 (.op 2 (.op 3 .done))))) (.join [23] [107, 108, 109, 110, 111] (.draw (.op 0 (.op 1 (.op 2 (.alt 3 (.alt 4 (.op 5 (.fin 6 .done)) 5 (.fin 4 (.fin 6 .done))) 5 (.op 3 (.fin 4 (.fin 6 .done)))))))) (.seq (.seq (.reg (.op 0 (.op 1 (.op 2 (.op 3 (.op 4 .done)))))) (.cond .nop .nop)) (.reg (.op 0 (.op 1 (.op 2 .done)))))))) (.reg (.op 0 (.op 1 .done))))))))) .nop))) (.seq (.reg (.op 0 (.op 1 (.op 2 (.op 3 (.op 4 .done)))))) (.seq (.reg (.op 0 (.op 1 (.op 2 .done)))) .nop))))))))))

theorem tree_Tree_Find.ok : okC Tryd.f75.ntmps tree_Tree_Find.sc (bodyOf Tryd.f75) = true := by kernel_rfl

theorem tree_Tree_Find.eq {K : K1} {t0 dim1 v2 bias3 : Value} {w : World} : tree_Tree_Find K t0 dim1 v2 bias3 w = codeS Tryd.prog tree_Tree_Find.sc (bodyOf Tryd.f75) (argsF 0 [t0, dim1, v2, bias3]) w (retQ Tryd.prog Tryd.f75.results.toList K) := by kernel_rfl

theorem tree_Tree_Find.call {K : K1} {t0 dim1 v2 bias3 : Value} {w : World} (h : tree_Tree_Find K t0 dim1 v2 bias3 w) : sCall Tryd.prog 75 [t0, dim1, v2, bias3] w K := sCall_code mixed Tryd.func75 (by kernel_rfl) rfl rfl tree_Tree_Find.ok tree_Tree_Find.eq h

abbrev tree_Tree_Find.n : Nat := 75

/-- 'bodkin tree.size' -/
def tree_size (K : K1) (s0 dim1 : Value) (w : World) : Prop :=
  sBox Tryd.prog 83 s0 w fun s2 w =>
  sBin Tryd.prog .eql 3 false true dim1 (.int .i64 3) w fun x6 w =>
  sIf x6 (
    sFldA Tryd.prog 83 s2 0 w fun x7 w =>
    sLoad Tryd.prog 3 x7 w fun x8 w =>
    K x8 w) (
    sFldA Tryd.prog 83 s2 1 w fun x10 w =>
    sIdxA Tryd.prog 71 x10 dim1 w fun x11 w =>
    sLoad Tryd.prog 3 x11 w fun x12 w =>
    K x12 w)

def tree_size.sc : SC := (.seq (.reg (.op 0 (.op 1 .done))) (.seq (.seq (.reg (.op 0 (.op 1 .done))) (.cond (.seq (.reg (.op 0 (.op 1 (.op 2 .done)))) .nop) .nop)) (.seq (.reg (.op 0 (.op 1 (.op 2 (.op 3 (.op 4 .done)))))) .nop)))

theorem tree_size.ok : okC Tryd.f81.ntmps tree_size.sc (bodyOf Tryd.f81) = true := by kernel_rfl

theorem tree_size.eq {K : K1} {s0 dim1 : Value} {w : World} : tree_size K s0 dim1 w = codeS Tryd.prog tree_size.sc (bodyOf Tryd.f81) (argsF 0 [s0, dim1]) w (retQ Tryd.prog Tryd.f81.results.toList K) := by kernel_rfl

theorem tree_size.call {K : K1} {s0 dim1 : Value} {w : World} (h : tree_size K s0 dim1 w) : sCall Tryd.prog 81 [s0, dim1] w K := sCall_code mixed Tryd.func81 (by kernel_rfl) rfl rfl tree_size.ok tree_size.eq h

abbrev tree_size.n : Nat := 81

/-- '(*bodkin tree.Tree).Find$1' -/
def tree_Tree_Find_1 (K : K1) (end0 x1 x2 : Value) (w : World) : Prop :=
  sLoad Tryd.prog 3 x1 w fun x6 w =>
  sBin Tryd.prog .gtr 3 false false end0 x6 w fun x7 w =>
  sIf x7 (
    K (.bool true) w) (
    sLoad Tryd.prog 3 x2 w fun x9 w =>
    sBin Tryd.prog .eql 3 false true x9 (.int .i64 0) w fun x10 w =>
    sIf x10 (
      sLoad Tryd.prog 3 x1 w fun x13 w =>
      sBin Tryd.prog .eql 3 false false end0 x13 w fun x14 w =>
      K x14 w) (
      K (.bool false) w))

def tree_Tree_Find_1.sc : SC := (.seq (.reg (.op 0 .done)) (.seq (.reg (.op 0 (.op 1 (.op 2 (.op 3 (.test 3 (.skip 4 (.skip 5 (.skip 6 (.skip 7 (.skip 8 (.skip 9 (.skip 10 (.op 11 (.op 12 .done))))))))) (.op 4 (.op 5 (.op 6 (.test 6 (.op 7 (.op 8 (.op 9 (.op 10 (.op 11 (.op 12 .done)))))) (.skip 7 (.skip 8 (.skip 9 (.op 10 (.op 11 (.op 12 .done)))))))))))))))) .nop))

theorem tree_Tree_Find_1.ok : okC Tryd.f82.ntmps tree_Tree_Find_1.sc (bodyOf Tryd.f82) = true := by kernel_rfl

theorem tree_Tree_Find_1.eq {K : K1} {end0 x1 x2 : Value} {w : World} : tree_Tree_Find_1 K end0 x1 x2 w = codeS Tryd.prog tree_Tree_Find_1.sc (bodyOf Tryd.f82) (argsF 0 [end0, x1, x2]) w (retQ Tryd.prog Tryd.f82.results.toList K) := by kernel_rfl

theorem tree_Tree_Find_1.call {K : K1} {end0 x1 x2 : Value} {w : World} (h : tree_Tree_Find_1 K end0 x1 x2 w) : sCall Tryd.prog 82 [end0, x1, x2] w K := sCall_code mixed Tryd.func82 (by kernel_rfl) rfl rfl tree_Tree_Find_1.ok tree_Tree_Find_1.eq h

abbrev tree_Tree_Find_1.n : Nat := 82

end S
end Go.Proofs.YtglbidiciapcmaaDoor

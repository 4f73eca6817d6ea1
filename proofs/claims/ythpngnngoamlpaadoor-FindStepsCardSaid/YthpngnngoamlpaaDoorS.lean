/- The functions of this seat, their code without slots, and that a call of each is what its code says: by program (lift.py). No conditions. -/
import Derived.Test.YthpngnngoamlpaaDoorRs4
import Derived.Test.YthpngnngoamlpaaDoorRows
import Derived.KernelRfl
namespace Go.Proofs.YthpngnngoamlpaaDoor
open Go Go.Lift
namespace S
set_option maxRecDepth 10000
set_option linter.unusedVariables false
theorem mixed : Tryd.prog.follows .mixedOrders = true := by kernel_rfl
abbrev T.int64 : Nat := 2
theorem tcell_int64 : cellQ Tryd.prog 2 = true := by kernel_rfl
theorem tsz_int64 : szQ Tryd.prog 2 = 1 := by kernel_rfl
theorem tby_int64 : byQ Tryd.prog 2 = 8 := by kernel_rfl
theorem tze_int64 : zeroQ Tryd.prog 2 = some [(.int .i64 0)] := by kernel_rfl
abbrev T.int : Nat := 3
theorem tcell_int : cellQ Tryd.prog 3 = true := by kernel_rfl
theorem tsz_int : szQ Tryd.prog 3 = 1 := by kernel_rfl
theorem tby_int : byQ Tryd.prog 3 = 8 := by kernel_rfl
theorem tze_int : zeroQ Tryd.prog 3 = some [(.int .i64 0)] := by kernel_rfl
abbrev T.bool : Nat := 4
theorem tcell_bool : cellQ Tryd.prog 4 = true := by kernel_rfl
theorem tsz_bool : szQ Tryd.prog 4 = 1 := by kernel_rfl
theorem tby_bool : byQ Tryd.prog 4 = 1 := by kernel_rfl
theorem tze_bool : zeroQ Tryd.prog 4 = some [(.bool false)] := by kernel_rfl
abbrev T.uint8 : Nat := 5
theorem tcell_uint8 : cellQ Tryd.prog 5 = true := by kernel_rfl
theorem tsz_uint8 : szQ Tryd.prog 5 = 1 := by kernel_rfl
theorem tby_uint8 : byQ Tryd.prog 5 = 1 := by kernel_rfl
theorem tze_uint8 : zeroQ Tryd.prog 5 = some [(.int .u8 0)] := by kernel_rfl
abbrev T.string : Nat := 9
theorem tcell_string : cellQ Tryd.prog 9 = true := by kernel_rfl
theorem tsz_string : szQ Tryd.prog 9 = 1 := by kernel_rfl
theorem tby_string : byQ Tryd.prog 9 = 16 := by kernel_rfl
theorem tze_string : zeroQ Tryd.prog 9 = some [(.string ⟨#[]⟩)] := by kernel_rfl
abbrev T.interface___ : Nat := 20
theorem tcell_interface___ : cellQ Tryd.prog 20 = true := by kernel_rfl
theorem tsz_interface___ : szQ Tryd.prog 20 = 1 := by kernel_rfl
theorem tby_interface___ : byQ Tryd.prog 20 = 16 := by kernel_rfl
theorem tze_interface___ : zeroQ Tryd.prog 20 = some [.nilIface] := by kernel_rfl
theorem tif_interface___ : ifcQ Tryd.prog 20 = true := by kernel_rfl
abbrev T.int32 : Nat := 21
theorem tcell_int32 : cellQ Tryd.prog 21 = true := by kernel_rfl
theorem tsz_int32 : szQ Tryd.prog 21 = 1 := by kernel_rfl
theorem tby_int32 : byQ Tryd.prog 21 = 4 := by kernel_rfl
theorem tze_int32 : zeroQ Tryd.prog 21 = some [(.int .i32 0)] := by kernel_rfl
abbrev T.find_Query : Nat := 23
theorem tagg_find_Query : aggN Tryd.prog 23 = some 3 := by kernel_rfl
theorem tsz_find_Query : szQ Tryd.prog 23 = 3 := by kernel_rfl
theorem tby_find_Query : byQ Tryd.prog 23 = 24 := by kernel_rfl
theorem tze_find_Query : zeroQ Tryd.prog 23 = some [(.string ⟨#[]⟩), (.bool false), (.bool false)] := by kernel_rfl
theorem tfl_find_Query_Text : flQ Tryd.prog 23 0 = some 0 := by kernel_rfl
theorem tfl_find_Query_Fold : flQ Tryd.prog 23 1 = some 1 := by kernel_rfl
theorem tfl_find_Query_Word : flQ Tryd.prog 23 2 = some 2 := by kernel_rfl
theorem tpl_find_Query : plQ Tryd.prog 23 = some [(0, 1), (1, 1), (2, 1)] := by kernel_rfl
theorem tfd_find_Query_Text : fdT Tryd.prog 23 0 = some (9, 0) := by kernel_rfl
theorem tfd_find_Query_Fold : fdT Tryd.prog 23 1 = some (4, 1) := by kernel_rfl
theorem tfd_find_Query_Word : fdT Tryd.prog 23 2 = some (4, 2) := by kernel_rfl
abbrev T.dl_find_Query : List Nat := [9, 4, 4]
theorem tdq_find_Query : deepQ Tryd.prog 20 23 = some T.dl_find_Query := by kernel_rfl
theorem taq_find_Query : aggQ Tryd.prog 23 = true := by kernel_rfl
theorem tgq_find_Query : Tryd.prog.eqGuardType Tryd.prog.depth 23 = false := by kernel_rfl
abbrev T.P_rope_Rope : Nat := 25
theorem tcell_P_rope_Rope : cellQ Tryd.prog 25 = true := by kernel_rfl
theorem tsz_P_rope_Rope : szQ Tryd.prog 25 = 1 := by kernel_rfl
theorem tby_P_rope_Rope : byQ Tryd.prog 25 = 8 := by kernel_rfl
theorem tze_P_rope_Rope : zeroQ Tryd.prog 25 = some [(.pointer none)] := by kernel_rfl
theorem tpt_P_rope_Rope : ptQ Tryd.prog 25 = true := by kernel_rfl
theorem tcq_P_rope_Rope : concQ Tryd.prog 25 = true := by kernel_rfl
abbrev T.api_Errno : Nat := 26
theorem tcell_api_Errno : cellQ Tryd.prog 26 = true := by kernel_rfl
theorem tsz_api_Errno : szQ Tryd.prog 26 = 1 := by kernel_rfl
theorem tby_api_Errno : byQ Tryd.prog 26 = 8 := by kernel_rfl
theorem tze_api_Errno : zeroQ Tryd.prog 26 = some [(.int .i64 0)] := by kernel_rfl
abbrev T.L_api_Span : Nat := 29
theorem tcell_L_api_Span : cellQ Tryd.prog 29 = true := by kernel_rfl
theorem tsz_L_api_Span : szQ Tryd.prog 29 = 1 := by kernel_rfl
theorem tby_L_api_Span : byQ Tryd.prog 29 = 24 := by kernel_rfl
theorem tze_L_api_Span : zeroQ Tryd.prog 29 = some [(.slice none 0 0)] := by kernel_rfl
theorem tel_L_api_Span : elQ Tryd.prog 29 = some 41 := by kernel_rfl
abbrev T.L_int32 : Nat := 32
theorem tcell_L_int32 : cellQ Tryd.prog 32 = true := by kernel_rfl
theorem tsz_L_int32 : szQ Tryd.prog 32 = 1 := by kernel_rfl
theorem tby_L_int32 : byQ Tryd.prog 32 = 24 := by kernel_rfl
theorem tze_L_int32 : zeroQ Tryd.prog 32 = some [(.slice none 0 0)] := by kernel_rfl
theorem tel_L_int32 : elQ Tryd.prog 32 = some 21 := by kernel_rfl
abbrev T.bodkinref39_Query : Nat := 34
theorem tagg_bodkinref39_Query : aggN Tryd.prog 34 = some 3 := by kernel_rfl
theorem tsz_bodkinref39_Query : szQ Tryd.prog 34 = 3 := by kernel_rfl
theorem tby_bodkinref39_Query : byQ Tryd.prog 34 = 32 := by kernel_rfl
theorem tze_bodkinref39_Query : zeroQ Tryd.prog 34 = some [(.slice none 0 0), (.bool false), (.bool false)] := by kernel_rfl
theorem tfl_bodkinref39_Query_Want : flQ Tryd.prog 34 0 = some 0 := by kernel_rfl
theorem tfl_bodkinref39_Query_Fold : flQ Tryd.prog 34 1 = some 1 := by kernel_rfl
theorem tfl_bodkinref39_Query_Word : flQ Tryd.prog 34 2 = some 2 := by kernel_rfl
theorem tpl_bodkinref39_Query : plQ Tryd.prog 34 = some [(0, 1), (1, 1), (2, 1)] := by kernel_rfl
theorem tfd_bodkinref39_Query_Want : fdT Tryd.prog 34 0 = some (32, 0) := by kernel_rfl
theorem tfd_bodkinref39_Query_Fold : fdT Tryd.prog 34 1 = some (4, 1) := by kernel_rfl
theorem tfd_bodkinref39_Query_Word : fdT Tryd.prog 34 2 = some (4, 2) := by kernel_rfl
abbrev T.api_Span : Nat := 41
theorem tagg_api_Span : aggN Tryd.prog 41 = some 2 := by kernel_rfl
theorem tsz_api_Span : szQ Tryd.prog 41 = 2 := by kernel_rfl
theorem tby_api_Span : byQ Tryd.prog 41 = 16 := by kernel_rfl
theorem tze_api_Span : zeroQ Tryd.prog 41 = some [(.int .i64 0), (.int .i64 0)] := by kernel_rfl
theorem tfl_api_Span_From : flQ Tryd.prog 41 0 = some 0 := by kernel_rfl
theorem tfl_api_Span_To : flQ Tryd.prog 41 1 = some 1 := by kernel_rfl
theorem tpl_api_Span : plQ Tryd.prog 41 = some [(0, 1), (1, 1)] := by kernel_rfl
theorem tfd_api_Span_From : fdT Tryd.prog 41 0 = some (3, 0) := by kernel_rfl
theorem tfd_api_Span_To : fdT Tryd.prog 41 1 = some (3, 1) := by kernel_rfl
abbrev T.dl_api_Span : List Nat := [3, 3]
theorem tdq_api_Span : deepQ Tryd.prog 20 41 = some T.dl_api_Span := by kernel_rfl
theorem taq_api_Span : aggQ Tryd.prog 41 = true := by kernel_rfl
theorem tgq_api_Span : Tryd.prog.eqGuardType Tryd.prog.depth 41 = false := by kernel_rfl
abbrev T.L_api_Edit : Nat := 46
theorem tcell_L_api_Edit : cellQ Tryd.prog 46 = true := by kernel_rfl
theorem tsz_L_api_Edit : szQ Tryd.prog 46 = 1 := by kernel_rfl
theorem tby_L_api_Edit : byQ Tryd.prog 46 = 24 := by kernel_rfl
theorem tze_L_api_Edit : zeroQ Tryd.prog 46 = some [(.slice none 0 0)] := by kernel_rfl
theorem tel_L_api_Edit : elQ Tryd.prog 46 = some 49 := by kernel_rfl
abbrev T.api_Edit : Nat := 49
theorem tagg_api_Edit : aggN Tryd.prog 49 = some 3 := by kernel_rfl
theorem tsz_api_Edit : szQ Tryd.prog 49 = 3 := by kernel_rfl
theorem tby_api_Edit : byQ Tryd.prog 49 = 32 := by kernel_rfl
theorem tze_api_Edit : zeroQ Tryd.prog 49 = some [(.int .i64 0), (.int .i64 0), (.string ⟨#[]⟩)] := by kernel_rfl
theorem tfl_api_Edit_From : flQ Tryd.prog 49 0 = some 0 := by kernel_rfl
theorem tfl_api_Edit_To : flQ Tryd.prog 49 1 = some 1 := by kernel_rfl
theorem tfl_api_Edit_Text : flQ Tryd.prog 49 2 = some 2 := by kernel_rfl
theorem tpl_api_Edit : plQ Tryd.prog 49 = some [(0, 1), (1, 1), (2, 1)] := by kernel_rfl
theorem tfd_api_Edit_From : fdT Tryd.prog 49 0 = some (3, 0) := by kernel_rfl
theorem tfd_api_Edit_To : fdT Tryd.prog 49 1 = some (3, 1) := by kernel_rfl
theorem tfd_api_Edit_Text : fdT Tryd.prog 49 2 = some (9, 2) := by kernel_rfl
abbrev T.dl_api_Edit : List Nat := [3, 3, 9]
theorem tdq_api_Edit : deepQ Tryd.prog 20 49 = some T.dl_api_Edit := by kernel_rfl
theorem taq_api_Edit : aggQ Tryd.prog 49 = true := by kernel_rfl
theorem tgq_api_Edit : Tryd.prog.eqGuardType Tryd.prog.depth 49 = false := by kernel_rfl
abbrev T.P_tree_Tree : Nat := 51
theorem tcell_P_tree_Tree : cellQ Tryd.prog 51 = true := by kernel_rfl
theorem tsz_P_tree_Tree : szQ Tryd.prog 51 = 1 := by kernel_rfl
theorem tby_P_tree_Tree : byQ Tryd.prog 51 = 8 := by kernel_rfl
theorem tze_P_tree_Tree : zeroQ Tryd.prog 51 = some [(.pointer none)] := by kernel_rfl
theorem tpt_P_tree_Tree : ptQ Tryd.prog 51 = true := by kernel_rfl
theorem tcq_P_tree_Tree : concQ Tryd.prog 51 = true := by kernel_rfl
abbrev T.L_item_Item : Nat := 54
theorem tcell_L_item_Item : cellQ Tryd.prog 54 = true := by kernel_rfl
theorem tsz_L_item_Item : szQ Tryd.prog 54 = 1 := by kernel_rfl
theorem tby_L_item_Item : byQ Tryd.prog 54 = 24 := by kernel_rfl
theorem tze_L_item_Item : zeroQ Tryd.prog 54 = some [(.slice none 0 0)] := by kernel_rfl
theorem tel_L_item_Item : elQ Tryd.prog 54 = some 73 := by kernel_rfl
abbrev T.rope_Rope : Nat := 57
theorem tagg_rope_Rope : aggN Tryd.prog 57 = some 1 := by kernel_rfl
theorem tsz_rope_Rope : szQ Tryd.prog 57 = 1 := by kernel_rfl
theorem tby_rope_Rope : byQ Tryd.prog 57 = 8 := by kernel_rfl
theorem tze_rope_Rope : zeroQ Tryd.prog 57 = some [(.pointer none)] := by kernel_rfl
theorem tfl_rope_Rope_t : flQ Tryd.prog 57 0 = some 0 := by kernel_rfl
theorem tpl_rope_Rope : plQ Tryd.prog 57 = some [(0, 1)] := by kernel_rfl
theorem tfd_rope_Rope_t : fdT Tryd.prog 57 0 = some (51, 0) := by kernel_rfl
abbrev T.P_find_search : Nat := 58
theorem tcell_P_find_search : cellQ Tryd.prog 58 = true := by kernel_rfl
theorem tsz_P_find_search : szQ Tryd.prog 58 = 1 := by kernel_rfl
theorem tby_P_find_search : byQ Tryd.prog 58 = 8 := by kernel_rfl
theorem tze_P_find_search : zeroQ Tryd.prog 58 = some [(.pointer none)] := by kernel_rfl
theorem tpt_P_find_search : ptQ Tryd.prog 58 = true := by kernel_rfl
theorem tcq_P_find_search : concQ Tryd.prog 58 = true := by kernel_rfl
abbrev T.find_search : Nat := 62
theorem tagg_find_search : aggN Tryd.prog 62 = some 4 := by kernel_rfl
theorem tsz_find_search : szQ Tryd.prog 62 = 4 := by kernel_rfl
theorem tby_find_search : byQ Tryd.prog 62 = 64 := by kernel_rfl
theorem tze_find_search : zeroQ Tryd.prog 62 = some [(.slice none 0 0), (.slice none 0 0), (.bool false), .nilFunc] := by kernel_rfl
theorem tfl_find_search_runes : flQ Tryd.prog 62 0 = some 0 := by kernel_rfl
theorem tfl_find_search_want : flQ Tryd.prog 62 1 = some 1 := by kernel_rfl
theorem tfl_find_search_word : flQ Tryd.prog 62 2 = some 2 := by kernel_rfl
theorem tfl_find_search_same : flQ Tryd.prog 62 3 = some 3 := by kernel_rfl
theorem tpl_find_search : plQ Tryd.prog 62 = some [(0, 1), (1, 1), (2, 1), (3, 1)] := by kernel_rfl
theorem tfd_find_search_runes : fdT Tryd.prog 62 0 = some (32, 0) := by kernel_rfl
theorem tfd_find_search_want : fdT Tryd.prog 62 1 = some (32, 1) := by kernel_rfl
theorem tfd_find_search_word : fdT Tryd.prog 62 2 = some (4, 2) := by kernel_rfl
theorem tfd_find_search_same : fdT Tryd.prog 62 3 = some (60, 3) := by kernel_rfl
abbrev T.bodkinref01_Rune : Nat := 66
theorem tagg_bodkinref01_Rune : aggN Tryd.prog 66 = some 2 := by kernel_rfl
theorem tsz_bodkinref01_Rune : szQ Tryd.prog 66 = 2 := by kernel_rfl
theorem tby_bodkinref01_Rune : byQ Tryd.prog 66 = 16 := by kernel_rfl
theorem tze_bodkinref01_Rune : zeroQ Tryd.prog 66 = some [(.int .i32 0), (.int .i64 0)] := by kernel_rfl
theorem tfl_bodkinref01_Rune_R : flQ Tryd.prog 66 0 = some 0 := by kernel_rfl
theorem tfl_bodkinref01_Rune_N : flQ Tryd.prog 66 1 = some 1 := by kernel_rfl
theorem tpl_bodkinref01_Rune : plQ Tryd.prog 66 = some [(0, 1), (1, 1)] := by kernel_rfl
theorem tfd_bodkinref01_Rune_R : fdT Tryd.prog 66 0 = some (21, 0) := by kernel_rfl
theorem tfd_bodkinref01_Rune_N : fdT Tryd.prog 66 1 = some (3, 1) := by kernel_rfl
abbrev T.dl_bodkinref01_Rune : List Nat := [21, 3]
theorem tdq_bodkinref01_Rune : deepQ Tryd.prog 20 66 = some T.dl_bodkinref01_Rune := by kernel_rfl
theorem taq_bodkinref01_Rune : aggQ Tryd.prog 66 = true := by kernel_rfl
theorem tgq_bodkinref01_Rune : Tryd.prog.eqGuardType Tryd.prog.depth 66 = false := by kernel_rfl
abbrev T.tree_node : Nat := 70
theorem tcell_tree_node : cellQ Tryd.prog 70 = true := by kernel_rfl
theorem tsz_tree_node : szQ Tryd.prog 70 = 1 := by kernel_rfl
theorem tby_tree_node : byQ Tryd.prog 70 = 16 := by kernel_rfl
theorem tze_tree_node : zeroQ Tryd.prog 70 = some [.nilIface] := by kernel_rfl
theorem tif_tree_node : ifcQ Tryd.prog 70 = true := by kernel_rfl
abbrev T.A3_int : Nat := 71
theorem tagg_A3_int : aggN Tryd.prog 71 = some 3 := by kernel_rfl
theorem tsz_A3_int : szQ Tryd.prog 71 = 3 := by kernel_rfl
theorem tby_A3_int : byQ Tryd.prog 71 = 24 := by kernel_rfl
theorem tze_A3_int : zeroQ Tryd.prog 71 = some [(.int .i64 0), (.int .i64 0), (.int .i64 0)] := by kernel_rfl
theorem tpl_A3_int : plQ Tryd.prog 71 = some [(0, 1), (1, 1), (2, 1)] := by kernel_rfl
theorem tar_A3_int : arQ Tryd.prog 71 = some (3, 3) := by kernel_rfl
abbrev T.dl_A3_int : List Nat := [3, 3, 3]
theorem tdq_A3_int : deepQ Tryd.prog 20 71 = some T.dl_A3_int := by kernel_rfl
theorem taq_A3_int : aggQ Tryd.prog 71 = true := by kernel_rfl
theorem tgq_A3_int : Tryd.prog.eqGuardType Tryd.prog.depth 71 = false := by kernel_rfl
abbrev T.item_Item : Nat := 73
theorem tagg_item_Item : aggN Tryd.prog 73 = some 7 := by kernel_rfl
theorem tsz_item_Item : szQ Tryd.prog 73 = 7 := by kernel_rfl
theorem tby_item_Item : byQ Tryd.prog 73 = 64 := by kernel_rfl
theorem tze_item_Item : zeroQ Tryd.prog 73 = some [(.int .i64 0), (.int .i64 0), (.int .i64 0), (.int .i64 0), (.int .i64 0), (.int .i64 0), (.string ⟨#[]⟩)] := by kernel_rfl
theorem tfl_item_Item_Tag : flQ Tryd.prog 73 0 = some 0 := by kernel_rfl
theorem tfl_item_Item_ID : flQ Tryd.prog 73 1 = some 1 := by kernel_rfl
theorem tfl_item_Item_D : flQ Tryd.prog 73 2 = some 2 := by kernel_rfl
theorem tfl_item_Item_Max : flQ Tryd.prog 73 3 = some 5 := by kernel_rfl
theorem tfl_item_Item_Text : flQ Tryd.prog 73 4 = some 6 := by kernel_rfl
theorem tpl_item_Item : plQ Tryd.prog 73 = some [(0, 1), (1, 1), (2, 3), (5, 1), (6, 1)] := by kernel_rfl
theorem tfd_item_Item_Tag : fdT Tryd.prog 73 0 = some (3, 0) := by kernel_rfl
theorem tfd_item_Item_ID : fdT Tryd.prog 73 1 = some (3, 1) := by kernel_rfl
theorem tfd_item_Item_D : fdT Tryd.prog 73 2 = some (71, 2) := by kernel_rfl
theorem tfd_item_Item_Max : fdT Tryd.prog 73 3 = some (3, 5) := by kernel_rfl
theorem tfd_item_Item_Text : fdT Tryd.prog 73 4 = some (9, 6) := by kernel_rfl
abbrev T.dl_item_Item : List Nat := [3, 3, 3, 3, 3, 3, 9]
theorem tdq_item_Item : deepQ Tryd.prog 20 73 = some T.dl_item_Item := by kernel_rfl
theorem taq_item_Item : aggQ Tryd.prog 73 = true := by kernel_rfl
theorem tgq_item_Item : Tryd.prog.eqGuardType Tryd.prog.depth 73 = false := by kernel_rfl
abbrev T.P_tree_leaf : Nat := 76
theorem tcell_P_tree_leaf : cellQ Tryd.prog 76 = true := by kernel_rfl
theorem tsz_P_tree_leaf : szQ Tryd.prog 76 = 1 := by kernel_rfl
theorem tby_P_tree_leaf : byQ Tryd.prog 76 = 8 := by kernel_rfl
theorem tze_P_tree_leaf : zeroQ Tryd.prog 76 = some [(.pointer none)] := by kernel_rfl
theorem tpt_P_tree_leaf : ptQ Tryd.prog 76 = true := by kernel_rfl
theorem tcq_P_tree_leaf : concQ Tryd.prog 76 = true := by kernel_rfl
abbrev T.tree_Tree : Nat := 79
theorem tagg_tree_Tree : aggN Tryd.prog 79 = some 1 := by kernel_rfl
theorem tsz_tree_Tree : szQ Tryd.prog 79 = 1 := by kernel_rfl
theorem tby_tree_Tree : byQ Tryd.prog 79 = 16 := by kernel_rfl
theorem tze_tree_Tree : zeroQ Tryd.prog 79 = some [.nilIface] := by kernel_rfl
theorem tfl_tree_Tree_root : flQ Tryd.prog 79 0 = some 0 := by kernel_rfl
theorem tpl_tree_Tree : plQ Tryd.prog 79 = some [(0, 1)] := by kernel_rfl
theorem tfd_tree_Tree_root : fdT Tryd.prog 79 0 = some (70, 0) := by kernel_rfl
abbrev T.L_string : Nat := 82
theorem tcell_L_string : cellQ Tryd.prog 82 = true := by kernel_rfl
theorem tsz_L_string : szQ Tryd.prog 82 = 1 := by kernel_rfl
theorem tby_L_string : byQ Tryd.prog 82 = 24 := by kernel_rfl
theorem tze_L_string : zeroQ Tryd.prog 82 = some [(.slice none 0 0)] := by kernel_rfl
theorem tel_L_string : elQ Tryd.prog 82 = some 9 := by kernel_rfl
abbrev T.L_tree_node : Nat := 89
theorem tcell_L_tree_node : cellQ Tryd.prog 89 = true := by kernel_rfl
theorem tsz_L_tree_node : szQ Tryd.prog 89 = 1 := by kernel_rfl
theorem tby_L_tree_node : byQ Tryd.prog 89 = 24 := by kernel_rfl
theorem tze_L_tree_node : zeroQ Tryd.prog 89 = some [(.slice none 0 0)] := by kernel_rfl
theorem tel_L_tree_node : elQ Tryd.prog 89 = some 70 := by kernel_rfl
abbrev T.P_tree_inner : Nat := 91
theorem tcell_P_tree_inner : cellQ Tryd.prog 91 = true := by kernel_rfl
theorem tsz_P_tree_inner : szQ Tryd.prog 91 = 1 := by kernel_rfl
theorem tby_P_tree_inner : byQ Tryd.prog 91 = 8 := by kernel_rfl
theorem tze_P_tree_inner : zeroQ Tryd.prog 91 = some [(.pointer none)] := by kernel_rfl
theorem tpt_P_tree_inner : ptQ Tryd.prog 91 = true := by kernel_rfl
theorem tcq_P_tree_inner : concQ Tryd.prog 91 = true := by kernel_rfl
abbrev T.item_Sum : Nat := 94
theorem tagg_item_Sum : aggN Tryd.prog 94 = some 6 := by kernel_rfl
theorem tsz_item_Sum : szQ Tryd.prog 94 = 6 := by kernel_rfl
theorem tby_item_Sum : byQ Tryd.prog 94 = 48 := by kernel_rfl
theorem tze_item_Sum : zeroQ Tryd.prog 94 = some [(.int .i64 0), (.int .i64 0), (.int .i64 0), (.int .i64 0), (.int .i64 0), (.int .i64 0)] := by kernel_rfl
theorem tfl_item_Sum_N : flQ Tryd.prog 94 0 = some 0 := by kernel_rfl
theorem tfl_item_Sum_D : flQ Tryd.prog 94 1 = some 1 := by kernel_rfl
theorem tfl_item_Sum_Max : flQ Tryd.prog 94 2 = some 4 := by kernel_rfl
theorem tfl_item_Sum_At : flQ Tryd.prog 94 3 = some 5 := by kernel_rfl
theorem tpl_item_Sum : plQ Tryd.prog 94 = some [(0, 1), (1, 3), (4, 1), (5, 1)] := by kernel_rfl
theorem tfd_item_Sum_N : fdT Tryd.prog 94 0 = some (3, 0) := by kernel_rfl
theorem tfd_item_Sum_D : fdT Tryd.prog 94 1 = some (71, 1) := by kernel_rfl
theorem tfd_item_Sum_Max : fdT Tryd.prog 94 2 = some (3, 4) := by kernel_rfl
theorem tfd_item_Sum_At : fdT Tryd.prog 94 3 = some (3, 5) := by kernel_rfl
abbrev T.dl_item_Sum : List Nat := [3, 3, 3, 3, 3, 3]
theorem tdq_item_Sum : deepQ Tryd.prog 20 94 = some T.dl_item_Sum := by kernel_rfl
theorem taq_item_Sum : aggQ Tryd.prog 94 = true := by kernel_rfl
theorem tgq_item_Sum : Tryd.prog.eqGuardType Tryd.prog.depth 94 = false := by kernel_rfl
abbrev T.tree_leaf : Nat := 97
theorem tagg_tree_leaf : aggN Tryd.prog 97 = some 7 := by kernel_rfl
theorem tsz_tree_leaf : szQ Tryd.prog 97 = 7 := by kernel_rfl
theorem tby_tree_leaf : byQ Tryd.prog 97 = 72 := by kernel_rfl
theorem tze_tree_leaf : zeroQ Tryd.prog 97 = some [(.slice none 0 0), (.int .i64 0), (.int .i64 0), (.int .i64 0), (.int .i64 0), (.int .i64 0), (.int .i64 0)] := by kernel_rfl
theorem tfl_tree_leaf_items : flQ Tryd.prog 97 0 = some 0 := by kernel_rfl
theorem tfl_tree_leaf_sum : flQ Tryd.prog 97 1 = some 1 := by kernel_rfl
theorem tpl_tree_leaf : plQ Tryd.prog 97 = some [(0, 1), (1, 6)] := by kernel_rfl
theorem tfd_tree_leaf_items : fdT Tryd.prog 97 0 = some (54, 0) := by kernel_rfl
theorem tfd_tree_leaf_sum : fdT Tryd.prog 97 1 = some (94, 1) := by kernel_rfl
abbrev T.P_strings_Builder : Nat := 99
theorem tcell_P_strings_Builder : cellQ Tryd.prog 99 = true := by kernel_rfl
theorem tsz_P_strings_Builder : szQ Tryd.prog 99 = 1 := by kernel_rfl
theorem tby_P_strings_Builder : byQ Tryd.prog 99 = 8 := by kernel_rfl
theorem tze_P_strings_Builder : zeroQ Tryd.prog 99 = some [(.pointer none)] := by kernel_rfl
theorem tpt_P_strings_Builder : ptQ Tryd.prog 99 = true := by kernel_rfl
theorem tcq_P_strings_Builder : concQ Tryd.prog 99 = true := by kernel_rfl
abbrev T.L_uint8 : Nat := 100
theorem tcell_L_uint8 : cellQ Tryd.prog 100 = true := by kernel_rfl
theorem tsz_L_uint8 : szQ Tryd.prog 100 = 1 := by kernel_rfl
theorem tby_L_uint8 : byQ Tryd.prog 100 = 24 := by kernel_rfl
theorem tze_L_uint8 : zeroQ Tryd.prog 100 = some [(.slice none 0 0)] := by kernel_rfl
theorem tel_L_uint8 : elQ Tryd.prog 100 = some 5 := by kernel_rfl
abbrev T.strings_Builder : Nat := 102
theorem tagg_strings_Builder : aggN Tryd.prog 102 = some 2 := by kernel_rfl
theorem tsz_strings_Builder : szQ Tryd.prog 102 = 2 := by kernel_rfl
theorem tby_strings_Builder : byQ Tryd.prog 102 = 32 := by kernel_rfl
theorem tze_strings_Builder : zeroQ Tryd.prog 102 = some [(.pointer none), (.slice none 0 0)] := by kernel_rfl
theorem tfl_strings_Builder_addr : flQ Tryd.prog 102 0 = some 0 := by kernel_rfl
theorem tfl_strings_Builder_buf : flQ Tryd.prog 102 1 = some 1 := by kernel_rfl
theorem tpl_strings_Builder : plQ Tryd.prog 102 = some [(0, 1), (1, 1)] := by kernel_rfl
theorem tfd_strings_Builder_addr : fdT Tryd.prog 102 0 = some (99, 0) := by kernel_rfl
theorem tfd_strings_Builder_buf : fdT Tryd.prog 102 1 = some (100, 1) := by kernel_rfl
abbrev T.interface___Error___string__ : Nat := 104
theorem tcell_interface___Error___string__ : cellQ Tryd.prog 104 = true := by kernel_rfl
theorem tsz_interface___Error___string__ : szQ Tryd.prog 104 = 1 := by kernel_rfl
theorem tby_interface___Error___string__ : byQ Tryd.prog 104 = 16 := by kernel_rfl
theorem tze_interface___Error___string__ : zeroQ Tryd.prog 104 = some [.nilIface] := by kernel_rfl
abbrev T.error : Nat := 105
theorem tcell_error : cellQ Tryd.prog 105 = true := by kernel_rfl
theorem tsz_error : szQ Tryd.prog 105 = 1 := by kernel_rfl
theorem tby_error : byQ Tryd.prog 105 = 16 := by kernel_rfl
theorem tze_error : zeroQ Tryd.prog 105 = some [.nilIface] := by kernel_rfl
abbrev T.tree_inner : Nat := 112
theorem tagg_tree_inner : aggN Tryd.prog 112 = some 8 := by kernel_rfl
theorem tsz_tree_inner : szQ Tryd.prog 112 = 8 := by kernel_rfl
theorem tby_tree_inner : byQ Tryd.prog 112 = 80 := by kernel_rfl
theorem tze_tree_inner : zeroQ Tryd.prog 112 = some [(.slice none 0 0), (.int .i64 0), (.int .i64 0), (.int .i64 0), (.int .i64 0), (.int .i64 0), (.int .i64 0), (.int .i64 0)] := by kernel_rfl
theorem tfl_tree_inner_kids : flQ Tryd.prog 112 0 = some 0 := by kernel_rfl
theorem tfl_tree_inner_height : flQ Tryd.prog 112 1 = some 1 := by kernel_rfl
theorem tfl_tree_inner_sum : flQ Tryd.prog 112 2 = some 2 := by kernel_rfl
theorem tpl_tree_inner : plQ Tryd.prog 112 = some [(0, 1), (1, 1), (2, 6)] := by kernel_rfl
theorem tfd_tree_inner_kids : fdT Tryd.prog 112 0 = some (89, 0) := by kernel_rfl
theorem tfd_tree_inner_height : fdT Tryd.prog 112 1 = some (3, 1) := by kernel_rfl
theorem tfd_tree_inner_sum : fdT Tryd.prog 112 2 = some (94, 2) := by kernel_rfl
abbrev T.A4_int32 : Nat := 125
theorem tagg_A4_int32 : aggN Tryd.prog 125 = some 4 := by kernel_rfl
theorem tsz_A4_int32 : szQ Tryd.prog 125 = 4 := by kernel_rfl
theorem tby_A4_int32 : byQ Tryd.prog 125 = 16 := by kernel_rfl
theorem tze_A4_int32 : zeroQ Tryd.prog 125 = some [(.int .i32 0), (.int .i32 0), (.int .i32 0), (.int .i32 0)] := by kernel_rfl
theorem tpl_A4_int32 : plQ Tryd.prog 125 = some [(0, 1), (1, 1), (2, 1), (3, 1)] := by kernel_rfl
theorem tar_A4_int32 : arQ Tryd.prog 125 = some (4, 21) := by kernel_rfl
abbrev T.dl_A4_int32 : List Nat := [21, 21, 21, 21]
theorem tdq_A4_int32 : deepQ Tryd.prog 20 125 = some T.dl_A4_int32 := by kernel_rfl
theorem taq_A4_int32 : aggQ Tryd.prog 125 = true := by kernel_rfl
theorem tgq_A4_int32 : Tryd.prog.eqGuardType Tryd.prog.depth 125 = false := by kernel_rfl
/-- 'bodkin bodkinlaw39.FindAll' -/
def bodkinlaw39_FindAll (K : K1) (s0 q1 : Value) (w : World) : Prop :=
  sBox Tryd.prog 23 q1 w fun q3 w =>
  sBuiltin Tryd.prog .len [9] 3 [s0] w fun x11 w =>
  sBin Tryd.prog .gtr 3 false true x11 (.int .i64 1200) w fun x12 w =>
  sIf x12 (
    sCall Tryd.prog 8 [] w fun x19 w =>
    K x19 w) (
    sFldA Tryd.prog 23 q3 0 w fun x14 w =>
    sLoad Tryd.prog 9 x14 w fun x15 w =>
    sBuiltin Tryd.prog .len [9] 3 [x15] w fun x16 w =>
    sBin Tryd.prog .gtr 3 false true x16 (.int .i64 1200) w fun x17 w =>
    sIf x17 (
      sCall Tryd.prog 8 [] w fun x19_1 w =>
      K x19_1 w) (
      sCall Tryd.prog 9 [s0] w fun x22 w =>
      sExtract x22 0 w fun x23 w =>
      sExtract x22 1 w fun x24 w =>
      sLoad Tryd.prog 23 q3 w fun x27 w =>
      sCall Tryd.prog 10 [x23, x27] w fun x28 w =>
      sExtract x28 0 w fun x29 w =>
      sExtract x28 1 w fun x30 w =>
      sLoad Tryd.prog 23 q3 w fun x31 w =>
      sCall Tryd.prog 11 [x31] w fun x32 w =>
      sAlloc Tryd.prog 34 w fun w9 w =>
      sStore Tryd.prog 34 w9 x32 w fun w =>
      sFldA Tryd.prog 34 w9 0 w fun x33 w =>
      sLoad Tryd.prog 32 x33 w fun x34 w =>
      sBuiltin Tryd.prog .len [32] 3 [x34] w fun x35 w =>
      sBin Tryd.prog .eql 3 false true x35 (.int .i64 0) w fun x36 w =>
      sIf x36 (
        sBin Tryd.prog .eql 26 false true x30 (.int .i64 4) w fun x38 w =>
        sIf x38 (
          sBuiltin Tryd.prog .len [29] 3 [x29] w fun x41 w =>
          sBin Tryd.prog .eql 3 false true x41 (.int .i64 0) w fun x42 w =>
          sIf x42 (
            sCall Tryd.prog 8 [] w fun x45 w =>
            K x45 w) (
            K (.bool false) w)) (
          K (.bool false) w)) (
        sFldA Tryd.prog 34 w9 0 w fun x47 w =>
        sLoad Tryd.prog 32 x47 w fun x48 w =>
        sBuiltin Tryd.prog .len [32] 3 [x48] w fun x49 w =>
        sBin Tryd.prog .gtr 3 false true x49 (.int .i64 200) w fun x50 w =>
        sIf x50 (
          sBin Tryd.prog .eql 26 false true x30 (.int .i64 2) w fun x52 w =>
          sIf x52 (
            sBuiltin Tryd.prog .len [29] 3 [x29] w fun x55 w =>
            sBin Tryd.prog .eql 3 false true x55 (.int .i64 0) w fun x56 w =>
            sIf x56 (
              sCall Tryd.prog 8 [] w fun x59 w =>
              K x59 w) (
              K (.bool false) w)) (
            K (.bool false) w)) (
          DrawS w fun C w =>
          stillS C w (fun w k => sBin Tryd.prog .eql 26 false true x24 (.int .i64 0) w k) fun x62 =>
          sIf x62 (
            stillS C w (fun w k => sBin Tryd.prog .eql 26 false true x30 (.int .i64 0) w k) fun x65 =>
            sIf x65 (
              stillS C w (fun w k => sLoad Tryd.prog 34 w9 w k) fun x69 =>
              sCall Tryd.prog 14 [s0] w fun x71 w => C w ∧
              sCall Tryd.prog 13 [x69, x71] w fun x72 w => C w ∧
              sCall Tryd.prog 12 [x29, x72] w fun x73 w => C w ∧
              sIf x73 (
                sCall Tryd.prog 8 [] w fun x76 w => C w ∧
                K x76 w) (
                K (.bool false) w)) (
              K (.bool false) w)) (
            K (.bool false) w)))))

def bodkinlaw39_FindAll.sc : SC := (.seq (.reg (.op 0 (.op 1 .done))) (.seq (.seq (.reg (.op 0 (.op 1 (.op 2 (.op 3 (.test 3 (.skip 4 (.skip 5 (.skip 6 (.skip 7 (.op 8 .done))))) (.op 4 (.op 5 (.op 6 (.op 7 (.op 8 .done))))))))))) (.cond (.seq (.reg (.op 0 (.op 1 .done))) .nop) .nop)) (.seq (.reg (.op 0 (.op 1 (.op 2 (.op 3 (.op 4 (.op 5 (.op 6 .done)))))))) (.seq (.reg (.op 0 (.op 1 (.op 2 (.op 3 (.op 4 (.op 5 (.op 6 (.op 7 .done))))))))) (.seq (.reg (.op 0 (.op 1 (.op 2 (.op 3 .done))))) (.seq (.seq (.reg (.op 0 (.op 1 (.op 2 (.op 3 .done))))) (.cond (.seq (.reg (.op 0 (.op 1 (.op 2 (.test 2 (.op 3 (.op 4 (.op 5 (.op 6 (.op 7 (.test 7 (.op 8 (.op 9 (.op 10 .done))) (.skip 8 (.op 9 (.op 10 .done))))))))) (.skip 3 (.skip 4 (.skip 5 (.op 6 (.op 7 (.know 7 false (.skip 8 (.op 9 (.op 10 .done)))))))))))))) .nop) .nop)) (.seq (.seq (.reg (.op 0 (.op 1 (.op 2 (.op 3 .done))))) (.cond (.seq (.reg (.op 0 (.op 1 (.op 2 (.test 2 (.op 3 (.op 4 (.op 5 (.op 6 (.op 7 (.test 7 (.op 8 (.op 9 (.op 10 .done))) (.skip 8 (.op 9 (.op 10 .done))))))))) (.skip 3 (.skip 4 (.skip 5 (.op 6 (.op 7 (.know 7 false (.skip 8 (.op 9 (.op 10 .done)))))))))))))) .nop) .nop)) (.seq (.draw (.op 0 (.op 1 (.op 2 (.test 2 (.op 3 (.op 4 (.op 5 (.op 6 (.test 6 (.op 7 (.op 8 (.op 9 (.op 10 (.op 11 (.op 12 (.op 13 (.op 14 (.test 14 (.op 15 (.op 16 (.op 17 .done))) (.skip 15 (.op 16 (.op 17 .done)))))))))))) (.skip 7 (.skip 8 (.skip 9 (.skip 10 (.skip 11 (.skip 12 (.op 13 (.op 14 (.know 14 false (.skip 15 (.op 16 (.op 17 .done))))))))))))))))) (.skip 3 (.skip 4 (.op 5 (.op 6 (.know 6 false (.skip 7 (.skip 8 (.skip 9 (.skip 10 (.skip 11 (.skip 12 (.op 13 (.op 14 (.know 14 false (.skip 15 (.op 16 (.op 17 .done)))))))))))))))))))))) .nop))))))))

theorem bodkinlaw39_FindAll.ok : okC Tryd.f3.ntmps bodkinlaw39_FindAll.sc (bodyOf Tryd.f3) = true := by kernel_rfl

theorem bodkinlaw39_FindAll.eq {K : K1} {s0 q1 : Value} {w : World} : bodkinlaw39_FindAll K s0 q1 w = codeS Tryd.prog bodkinlaw39_FindAll.sc (bodyOf Tryd.f3) (argsF 0 [s0, q1]) w (retQ Tryd.prog Tryd.f3.results.toList K) := by kernel_rfl

theorem bodkinlaw39_FindAll.call {K : K1} {s0 q1 : Value} {w : World} (h : bodkinlaw39_FindAll K s0 q1 w) : sCall Tryd.prog 3 [s0, q1] w K := sCall_code mixed Tryd.func3 (by kernel_rfl) rfl rfl bodkinlaw39_FindAll.ok bodkinlaw39_FindAll.eq h

abbrev bodkinlaw39_FindAll.n : Nat := 3

/-- 'bodkin bodkinlaw39.FindIs' -/
def bodkinlaw39_FindIs_L2 (K : K1) (Nx2 : List Value → World → Prop) (w9 x33 x61 x63 : Value) (last11 x64 : Value) (w : World) : Prop :=
  sBin Tryd.prog .lss 3 false false x64 x63 w fun x65 w =>
  sIf x65 (
    sIdxA Tryd.prog 29 x33 x64 w fun x66 w =>
    sLoad Tryd.prog 41 x66 w fun x67 w =>
    sAlloc Tryd.prog 41 w fun x13 w =>
    sStore Tryd.prog 41 x13 x67 w fun w =>
    sFldA Tryd.prog 41 x13 0 w fun x68 w =>
    sLoad Tryd.prog 3 x68 w fun x69 w =>
    sBin Tryd.prog .lss 3 false false x69 last11 w fun x71 w =>
    sIf x71 (
      K (.bool false) w) (
      sFldA Tryd.prog 41 x13 1 w fun x73 w =>
      sLoad Tryd.prog 3 x73 w fun x74 w =>
      sFldA Tryd.prog 41 x13 0 w fun x75 w =>
      sLoad Tryd.prog 3 x75 w fun x76 w =>
      sBin Tryd.prog .sub 3 false false x74 x76 w fun x77 w =>
      sFldA Tryd.prog 34 w9 0 w fun x78 w =>
      sLoad Tryd.prog 32 x78 w fun x79 w =>
      sBuiltin Tryd.prog .len [32] 3 [x79] w fun x80 w =>
      sBin Tryd.prog .neq 3 false false x77 x80 w fun x81 w =>
      sIf x81 (
        K (.bool false) w) (
        sLoad Tryd.prog 34 w9 w fun x84 w =>
        sFldA Tryd.prog 41 x13 0 w fun x86 w =>
        sLoad Tryd.prog 3 x86 w fun x87 w =>
        sCall Tryd.prog 15 [x84, x61, x87] w fun x88 w =>
        sUn Tryd.prog .not x88 w fun x89 w =>
        sIf x89 (
          K (.bool false) w) (
          sFldA Tryd.prog 41 x13 1 w fun x91 w =>
          sLoad Tryd.prog 3 x91 w fun x92 w =>
          sBin Tryd.prog .add 3 false true x64 (.int .i64 1) w fun x93 w =>
          Nx2 [x92, x93] w)))) (
    sBuiltin Tryd.prog .len [29] 3 [x33] w fun x95 w =>
    sBin Tryd.prog .leq 3 false true x95 (.int .i64 500) w fun x96 w =>
    sIf x96 (
      sCall Tryd.prog 8 [] w fun x98 w =>
      K x98 w) (
      K (.bool false) w))

def bodkinlaw39_FindIs_J1 (K : K1) (s0 w9 x28 x33 : Value) (x42 : Value) (w : World) : Prop :=
  sIf x42 (
    sBin Tryd.prog .eql 26 false true x28 (.int .i64 0) w fun x44 w =>
    sIf x44 (
      sFldA Tryd.prog 34 w9 0 w fun x46 w =>
      sLoad Tryd.prog 32 x46 w fun x47 w =>
      sBuiltin Tryd.prog .len [32] 3 [x47] w fun x48 w =>
      sBin Tryd.prog .eql 3 false true x48 (.int .i64 0) w fun x49 w =>
      sIf x49 (
        sCall Tryd.prog 8 [] w fun x58 w =>
        K x58 w) (
        sFldA Tryd.prog 34 w9 0 w fun x51 w =>
        sLoad Tryd.prog 32 x51 w fun x52 w =>
        sBuiltin Tryd.prog .len [32] 3 [x52] w fun x53 w =>
        sBin Tryd.prog .gtr 3 false true x53 (.int .i64 200) w fun x54 w =>
        sIf x54 (
          sCall Tryd.prog 8 [] w fun x58_1 w =>
          K x58_1 w) (
          K (.bool false) w))) (
      K (.bool false) w)) (
    sCall Tryd.prog 14 [s0] w fun x61 w =>
    sBuiltin Tryd.prog .len [29] 3 [x33] w fun x63 w =>
    LoopS [(.int .i64 0), (.int .i64 0)] 2 31 w fun us _ w Nx2 =>
      bodkinlaw39_FindIs_L2 K Nx2 w9 x33 x61 x63 (hd us) (hd (tl us)) w)

def bodkinlaw39_FindIs (K : K1) (s0 q1 : Value) (w : World) : Prop :=
  sBox Tryd.prog 23 q1 w fun q3 w =>
  sBuiltin Tryd.prog .len [9] 3 [s0] w fun x15 w =>
  sBin Tryd.prog .gtr 3 false true x15 (.int .i64 600) w fun x16 w =>
  sIf x16 (
    sCall Tryd.prog 8 [] w fun x23 w =>
    K x23 w) (
    sFldA Tryd.prog 23 q3 0 w fun x18 w =>
    sLoad Tryd.prog 9 x18 w fun x19 w =>
    sBuiltin Tryd.prog .len [9] 3 [x19] w fun x20 w =>
    sBin Tryd.prog .gtr 3 false true x20 (.int .i64 600) w fun x21 w =>
    sIf x21 (
      sCall Tryd.prog 8 [] w fun x23_1 w =>
      K x23_1 w) (
      sCall Tryd.prog 9 [s0] w fun x26 w =>
      sExtract x26 0 w fun x27 w =>
      sExtract x26 1 w fun x28 w =>
      sLoad Tryd.prog 23 q3 w fun x31 w =>
      sCall Tryd.prog 10 [x27, x31] w fun x32 w =>
      sExtract x32 0 w fun x33 w =>
      sExtract x32 1 w fun x34 w =>
      sLoad Tryd.prog 23 q3 w fun x35 w =>
      sCall Tryd.prog 11 [x35] w fun x36 w =>
      sAlloc Tryd.prog 34 w fun w9 w =>
      sStore Tryd.prog 34 w9 x36 w fun w =>
      JoinS 1 5 (fun M1 =>
        sBin Tryd.prog .neq 26 false true x28 (.int .i64 0) w fun x38 w =>
        sIf x38 (
          M1 [(.bool true)] w) (
          sBin Tryd.prog .neq 26 false true x34 (.int .i64 0) w fun x41 w =>
          M1 [x41] w)) fun us _ w =>
        bodkinlaw39_FindIs_J1 K s0 w9 x28 x33 (hd us) w))

def bodkinlaw39_FindIs.sc : SC := (.seq (.reg (.op 0 (.op 1 .done))) (.seq (.seq (.reg (.op 0 (.op 1 (.op 2 (.op 3 (.test 3 (.skip 4 (.skip 5 (.skip 6 (.skip 7 (.op 8 .done))))) (.op 4 (.op 5 (.op 6 (.op 7 (.op 8 .done))))))))))) (.cond (.seq (.reg (.op 0 (.op 1 .done))) .nop) .nop)) (.seq (.reg (.op 0 (.op 1 (.op 2 (.op 3 (.op 4 (.op 5 (.op 6 .done)))))))) (.seq (.reg (.op 0 (.op 1 (.op 2 (.op 3 (.op 4 (.op 5 (.op 6 (.op 7 .done))))))))) (.seq (.reg (.op 0 (.op 1 (.op 2 (.op 3 .done))))) (.seq (.join [42] [37, 38, 39, 40, 41] (.reg (.op 0 (.op 1 (.op 2 (.test 2 (.skip 3 (.skip 4 (.op 5 .done))) (.op 3 (.op 4 (.op 5 .done)))))))) (.cond (.seq (.reg (.op 0 (.op 1 (.op 2 (.test 2 (.op 3 (.op 4 (.op 5 (.op 6 (.op 7 (.test 7 (.skip 8 (.skip 9 (.skip 10 (.skip 11 (.op 12 (.op 13 (.op 14 (.know 14 true (.op 15 (.op 16 (.op 17 .done))))))))))) (.op 8 (.op 9 (.op 10 (.op 11 (.op 12 (.op 13 (.op 14 (.test 14 (.op 15 (.op 16 (.op 17 .done))) (.skip 15 (.op 16 (.op 17 .done))))))))))))))))) (.skip 3 (.skip 4 (.skip 5 (.skip 6 (.skip 7 (.skip 8 (.skip 9 (.skip 10 (.skip 11 (.skip 12 (.op 13 (.op 14 (.know 14 false (.skip 15 (.op 16 (.op 17 .done))))))))))))))))))))) .nop) .nop)) (.seq (.reg (.op 0 (.op 1 (.op 2 .done)))) (.seq (.reg (.op 0 .done)) (.seq (.seq (.reg (.op 0 (.op 1 (.op 2 .done)))) (.sub (.loop [11, 64] [65, 66, 67, 13, 68, 69, 70, 71, 72, 73, 74, 75, 76, 77, 78, 79, 80, 81, 82, 83, 84, 85, 86, 87, 88, 89, 90, 4, 91, 92, 93] (.seq (.reg (.op 0 .done)) (.seq (.cond .nop .nop) (.seq (.sub (.seq (.reg (.op 0 (.op 1 (.op 2 (.op 3 .done))))) (.seq (.seq (.reg (.op 0 (.op 1 (.op 2 (.op 3 (.op 4 (.test 4 (.skip 5 (.skip 6 (.skip 7 (.skip 8 (.skip 9 (.skip 10 (.skip 11 (.skip 12 (.skip 13 (.op 14 (.op 15 (.know 15 true (.skip 16 (.skip 17 (.skip 18 (.skip 19 (.skip 20 (.skip 21 (.op 22 .done))))))))))))))))))) (.op 5 (.op 6 (.op 7 (.op 8 (.op 9 (.op 10 (.op 11 (.op 12 (.op 13 (.op 14 (.op 15 (.test 15 (.skip 16 (.skip 17 (.skip 18 (.skip 19 (.skip 20 (.skip 21 (.op 22 .done))))))) (.op 16 (.op 17 (.op 18 (.op 19 (.op 20 (.op 21 (.op 22 .done)))))))))))))))))))))))))) (.cond (.seq (.reg (.op 0 .done)) .nop) .nop)) (.reg (.op 0 (.op 1 (.op 2 .done))))))) (.reg (.op 0 (.op 1 .done))))))))) (.seq (.reg (.op 0 (.op 1 (.op 2 (.op 3 (.test 3 (.op 4 (.op 5 (.op 6 .done))) (.skip 4 (.op 5 (.op 6 .done))))))))) .nop))))))))))

theorem bodkinlaw39_FindIs.ok : okC Tryd.f4.ntmps bodkinlaw39_FindIs.sc (bodyOf Tryd.f4) = true := by kernel_rfl

theorem bodkinlaw39_FindIs.eq {K : K1} {s0 q1 : Value} {w : World} : bodkinlaw39_FindIs K s0 q1 w = codeS Tryd.prog bodkinlaw39_FindIs.sc (bodyOf Tryd.f4) (argsF 0 [s0, q1]) w (retQ Tryd.prog Tryd.f4.results.toList K) := by kernel_rfl

theorem bodkinlaw39_FindIs.call {K : K1} {s0 q1 : Value} {w : World} (h : bodkinlaw39_FindIs K s0 q1 w) : sCall Tryd.prog 4 [s0, q1] w K := sCall_code mixed Tryd.func4 (by kernel_rfl) rfl rfl bodkinlaw39_FindIs.ok bodkinlaw39_FindIs.eq h

abbrev bodkinlaw39_FindIs.n : Nat := 4

/-- 'bodkin bodkinlaw39.FindNone' -/
def bodkinlaw39_FindNone_L2 (K : K1) (Nx1 : List Value → World → Prop) (Nx2 : List Value → World → Prop) (x40 x54 x68 : Value) (in12 x69 : Value) (w : World) : Prop :=
  sBin Tryd.prog .lss 3 false false x69 x68 w fun x70 w =>
  sIf x70 (
    sIdxA Tryd.prog 29 x40 x69 w fun x71 w =>
    sLoad Tryd.prog 41 x71 w fun x72 w =>
    sAlloc Tryd.prog 41 w fun x14 w =>
    sStore Tryd.prog 41 x14 x72 w fun w =>
    sIf in12 (
      sBin Tryd.prog .add 3 false true x69 (.int .i64 1) w fun x86 w =>
      Nx2 [(.bool true), x86] w) (
      sFldA Tryd.prog 41 x14 0 w fun x75 w =>
      sLoad Tryd.prog 3 x75 w fun x76 w =>
      sBin Tryd.prog .leq 3 false false x76 x54 w fun x78 w =>
      sIf x78 (
        sFldA Tryd.prog 41 x14 1 w fun x81 w =>
        sLoad Tryd.prog 3 x81 w fun x82 w =>
        sBin Tryd.prog .lss 3 false false x54 x82 w fun x83 w =>
        sBin Tryd.prog .add 3 false true x69 (.int .i64 1) w fun x86_1 w =>
        Nx2 [x83, x86_1] w) (
        sBin Tryd.prog .add 3 false true x69 (.int .i64 1) w fun x86_2 w =>
        Nx2 [(.bool false), x86_2] w))) (
    sUn Tryd.prog .not in12 w fun x88 w =>
    sIf x88 (
      K (.bool false) w) (
      sBin Tryd.prog .add 3 false true x54 (.int .i64 1) w fun x89_2 w =>
      Nx1 [x89_2] w))

def bodkinlaw39_FindNone_L1 (K : K1) (Nx1 : List Value → World → Prop) (w9 x40 x51 x53 : Value) (x54 : Value) (w : World) : Prop :=
  sBin Tryd.prog .lss 3 false false x54 x53 w fun x55 w =>
  sIf x55 (
    sLoad Tryd.prog 34 w9 w fun x57 w =>
    sCall Tryd.prog 15 [x57, x51, x54] w fun x60 w =>
    sUn Tryd.prog .not x60 w fun x61 w =>
    sIf x61 (
      sBin Tryd.prog .add 3 false true x54 (.int .i64 1) w fun x89 w =>
      Nx1 [x89] w) (
      sBuiltin Tryd.prog .len [29] 3 [x40] w fun x64 w =>
      sBin Tryd.prog .eql 3 false true x64 (.int .i64 500) w fun x65 w =>
      sIf x65 (
        sBin Tryd.prog .add 3 false true x54 (.int .i64 1) w fun x89_1 w =>
        Nx1 [x89_1] w) (
        sBuiltin Tryd.prog .len [29] 3 [x40] w fun x68 w =>
        LoopS [(.bool false), (.int .i64 0)] 2 18 w fun us _ w Nx2 =>
          bodkinlaw39_FindNone_L2 K Nx1 Nx2 x40 x54 x68 (hd us) (hd (tl us)) w))) (
    sCall Tryd.prog 8 [] w fun x90 w =>
    K x90 w)

def bodkinlaw39_FindNone (K : K1) (s0 q1 : Value) (w : World) : Prop :=
  sBox Tryd.prog 23 q1 w fun q3 w =>
  sBuiltin Tryd.prog .len [9] 3 [s0] w fun x16 w =>
  sBin Tryd.prog .gtr 3 false true x16 (.int .i64 400) w fun x17 w =>
  sIf x17 (
    sCall Tryd.prog 8 [] w fun x30 w =>
    K x30 w) (
    sFldA Tryd.prog 23 q3 0 w fun x19 w =>
    sLoad Tryd.prog 9 x19 w fun x20 w =>
    sBuiltin Tryd.prog .len [9] 3 [x20] w fun x21 w =>
    sBin Tryd.prog .gtr 3 false true x21 (.int .i64 100) w fun x22 w =>
    sIf x22 (
      sCall Tryd.prog 8 [] w fun x30_1 w =>
      K x30_1 w) (
      sFldA Tryd.prog 23 q3 0 w fun x25 w =>
      sLoad Tryd.prog 9 x25 w fun x26 w =>
      sBuiltin Tryd.prog .len [9] 3 [x26] w fun x27 w =>
      sBin Tryd.prog .eql 3 false true x27 (.int .i64 0) w fun x28 w =>
      sIf x28 (
        sCall Tryd.prog 8 [] w fun x30_2 w =>
        K x30_2 w) (
        sCall Tryd.prog 9 [s0] w fun x33 w =>
        sExtract x33 0 w fun x34 w =>
        sExtract x33 1 w fun x35 w =>
        sLoad Tryd.prog 23 q3 w fun x38 w =>
        sCall Tryd.prog 10 [x34, x38] w fun x39 w =>
        sExtract x39 0 w fun x40 w =>
        sExtract x39 1 w fun x41 w =>
        sLoad Tryd.prog 23 q3 w fun x42 w =>
        sCall Tryd.prog 11 [x42] w fun x43 w =>
        sAlloc Tryd.prog 34 w fun w9 w =>
        sStore Tryd.prog 34 w9 x43 w fun w =>
        sBin Tryd.prog .neq 26 false true x35 (.int .i64 0) w fun x45 w =>
        sIf x45 (
          K (.bool false) w) (
          sBin Tryd.prog .neq 26 false true x41 (.int .i64 0) w fun x48 w =>
          sIf x48 (
            K (.bool false) w) (
            sCall Tryd.prog 14 [s0] w fun x51 w =>
            sBuiltin Tryd.prog .len [32] 3 [x51] w fun x53 w =>
            LoopS [(.int .i64 0)] 1 39 w fun us _ w Nx1 =>
              bodkinlaw39_FindNone_L1 K Nx1 w9 x40 x51 x53 (hd us) w)))))

def bodkinlaw39_FindNone.sc : SC := (.seq (.reg (.op 0 (.op 1 .done))) (.seq (.seq (.reg (.op 0 (.op 1 (.op 2 (.op 3 (.test 3 (.skip 4 (.skip 5 (.skip 6 (.skip 7 (.op 8 (.op 9 (.know 9 true (.skip 10 (.skip 11 (.skip 12 (.skip 13 (.op 14 .done)))))))))))) (.op 4 (.op 5 (.op 6 (.op 7 (.op 8 (.op 9 (.test 9 (.skip 10 (.skip 11 (.skip 12 (.skip 13 (.op 14 .done))))) (.op 10 (.op 11 (.op 12 (.op 13 (.op 14 .done)))))))))))))))))) (.cond (.seq (.reg (.op 0 (.op 1 .done))) .nop) .nop)) (.seq (.reg (.op 0 (.op 1 (.op 2 (.op 3 (.op 4 (.op 5 (.op 6 .done)))))))) (.seq (.reg (.op 0 (.op 1 (.op 2 (.op 3 (.op 4 (.op 5 (.op 6 (.op 7 .done))))))))) (.seq (.reg (.op 0 (.op 1 (.op 2 (.op 3 .done))))) (.seq (.seq (.reg (.op 0 (.op 1 (.op 2 (.test 2 (.skip 3 (.skip 4 (.op 5 .done))) (.op 3 (.op 4 (.op 5 .done)))))))) (.cond (.seq (.reg (.op 0 .done)) .nop) .nop)) (.seq (.reg (.op 0 (.op 1 (.op 2 .done)))) (.seq (.seq (.reg (.op 0 (.op 1 (.op 2 .done)))) (.sub (.loop [54] [55, 56, 11, 57, 58, 59, 60, 61, 62, 63, 64, 65, 66, 12, 67, 68, 69, 70, 71, 72, 14, 73, 74, 75, 76, 77, 78, 79, 80, 81, 82, 83, 84, 85, 86, 87, 88, 4, 89] (.seq (.reg (.op 0 .done)) (.seq (.cond .nop .nop) (.seq (.sub (.seq (.reg (.op 0 (.op 1 .done))) (.seq (.seq (.reg (.op 0 (.op 1 (.op 2 (.op 3 (.op 4 (.op 5 (.test 5 (.skip 6 (.skip 7 (.skip 8 (.op 9 .done)))) (.op 6 (.op 7 (.op 8 (.op 9 .done)))))))))))) (.cond .nop .nop)) (.seq (.reg (.op 0 .done)) (.seq (.seq (.reg (.op 0 (.op 1 (.op 2 .done)))) (.sub (.loop [12, 69] [70, 71, 72, 14, 73, 74, 75, 76, 77, 78, 79, 80, 81, 82, 83, 84, 85, 86] (.seq (.reg (.op 0 .done)) (.seq (.cond .nop .nop) (.seq (.sub (.seq (.reg (.op 0 (.op 1 (.op 2 (.op 3 .done))))) (.reg (.op 0 (.op 1 (.test 1 (.skip 2 (.skip 3 (.skip 4 (.skip 5 (.skip 6 (.skip 7 (.skip 8 (.skip 9 (.skip 10 (.skip 11 (.op 12 (.op 13 .done)))))))))))) (.op 2 (.op 3 (.op 4 (.op 5 (.op 6 (.test 6 (.op 7 (.op 8 (.op 9 (.op 10 (.op 11 (.op 12 (.op 13 .done))))))) (.skip 7 (.skip 8 (.skip 9 (.skip 10 (.op 11 (.op 12 (.op 13 .done))))))))))))))))))) (.reg (.op 0 (.op 1 .done))))))))) (.seq (.reg (.op 0 (.op 1 .done))) (.cond (.seq (.reg (.op 0 .done)) .nop) .nop))))))) (.reg (.op 0 (.op 1 .done))))))))) (.seq (.reg (.op 0 (.op 1 .done))) .nop)))))))))

theorem bodkinlaw39_FindNone.ok : okC Tryd.f5.ntmps bodkinlaw39_FindNone.sc (bodyOf Tryd.f5) = true := by kernel_rfl

theorem bodkinlaw39_FindNone.eq {K : K1} {s0 q1 : Value} {w : World} : bodkinlaw39_FindNone K s0 q1 w = codeS Tryd.prog bodkinlaw39_FindNone.sc (bodyOf Tryd.f5) (argsF 0 [s0, q1]) w (retQ Tryd.prog Tryd.f5.results.toList K) := by kernel_rfl

theorem bodkinlaw39_FindNone.call {K : K1} {s0 q1 : Value} {w : World} (h : bodkinlaw39_FindNone K s0 q1 w) : sCall Tryd.prog 5 [s0, q1] w K := sCall_code mixed Tryd.func5 (by kernel_rfl) rfl rfl bodkinlaw39_FindNone.ok bodkinlaw39_FindNone.eq h

abbrev bodkinlaw39_FindNone.n : Nat := 5

/-- 'bodkin bodkinlaw39.FindNil' -/
def bodkinlaw39_FindNil (K : K1) (q0 at1 : Value) (w : World) : Prop :=
  sBox Tryd.prog 23 q0 w fun q2 w =>
  sFldA Tryd.prog 23 q2 0 w fun x12 w =>
  sLoad Tryd.prog 9 x12 w fun x13 w =>
  sBuiltin Tryd.prog .len [9] 3 [x13] w fun x14 w =>
  sBin Tryd.prog .gtr 3 false true x14 (.int .i64 1000) w fun x15 w =>
  sIf x15 (
    sCall Tryd.prog 8 [] w fun x16 w =>
    K x16 w) (
    sLoad Tryd.prog 23 q2 w fun x18 w =>
    sCall Tryd.prog 10 [(.pointer none), x18] w fun x19 w =>
    sExtract x19 0 w fun x20 w =>
    sExtract x19 1 w fun x21 w =>
    sCall Tryd.prog 16 [(.slice none 0 0), at1] w fun x24 w =>
    sExtract x24 0 w fun x25 w =>
    sExtract x24 1 w fun x26 w =>
    sAlloc Tryd.prog 41 w fun x7 w =>
    sStore Tryd.prog 41 x7 x25 w fun w =>
    sCall Tryd.prog 17 [(.slice none 0 0), at1] w fun x29 w =>
    sExtract x29 0 w fun x30 w =>
    sExtract x29 1 w fun x31 w =>
    sAlloc Tryd.prog 41 w fun x9 w =>
    sStore Tryd.prog 41 x9 x30 w fun w =>
    sFldA Tryd.prog 23 q2 0 w fun x32 w =>
    sLoad Tryd.prog 9 x32 w fun x33 w =>
    sCall Tryd.prog 14 [x33] w fun x34 w =>
    sBuiltin Tryd.prog .len [32] 3 [x34] w fun x35 w =>
    sBuiltin Tryd.prog .len [29] 3 [x20] w fun x37 w =>
    sBin Tryd.prog .eql 3 false true x37 (.int .i64 0) w fun x38 w =>
    sIf x38 (
      sBin Tryd.prog .eql 26 false true x21 (.int .i64 0) w fun x41 w =>
      sBin Tryd.prog .gtr 3 false true x35 (.int .i64 0) w fun x43 w =>
      sIf x43 (
        sBin Tryd.prog .leq 3 false true x35 (.int .i64 200) w fun x46 w =>
        sBin Tryd.prog .eql 4 false false x41 x46 w fun x48 w =>
        sIf x48 (
          sUn Tryd.prog .not x26 w fun x52 w =>
          sIf x52 (
            sUn Tryd.prog .not x31 w fun x56 w =>
            sIf x56 (
              sCall Tryd.prog 8 [] w fun x59 w =>
              K x59 w) (
              K (.bool false) w)) (
            K (.bool false) w)) (
          K (.bool false) w)) (
        sBin Tryd.prog .eql 4 false false x41 (.bool false) w fun x48_1 w =>
        sIf x48_1 (
          sUn Tryd.prog .not x26 w fun x52_1 w =>
          sIf x52_1 (
            sUn Tryd.prog .not x31 w fun x56_1 w =>
            sIf x56_1 (
              sCall Tryd.prog 8 [] w fun x59_1 w =>
              K x59_1 w) (
              K (.bool false) w)) (
            K (.bool false) w)) (
          K (.bool false) w))) (
      K (.bool false) w))

def bodkinlaw39_FindNil.sc : SC := (.seq (.reg (.op 0 (.op 1 .done))) (.seq (.seq (.reg (.op 0 (.op 1 (.op 2 (.op 3 .done))))) (.cond (.seq (.reg (.op 0 (.op 1 .done))) .nop) .nop)) (.seq (.reg (.op 0 (.op 1 (.op 2 (.op 3 (.op 4 (.op 5 (.op 6 .done)))))))) (.seq (.reg (.op 0 (.op 1 (.op 2 (.op 3 (.op 4 (.op 5 (.op 6 (.op 7 .done))))))))) (.seq (.reg (.op 0 (.op 1 (.op 2 (.op 3 (.op 4 (.op 5 (.op 6 (.op 7 .done))))))))) (.seq (.reg (.op 0 (.op 1 (.op 2 (.op 3 (.op 4 .done)))))) (.seq (.reg (.op 0 (.op 1 (.op 2 (.op 3 (.test 3 (.op 4 (.op 5 (.op 6 (.op 7 (.op 8 (.test 8 (.op 9 (.op 10 (.op 11 (.op 12 (.op 13 (.op 14 (.test 14 (.op 15 (.op 16 (.op 17 (.op 18 (.test 18 (.op 19 (.op 20 (.op 21 (.op 22 (.test 22 (.op 23 (.op 24 (.op 25 .done))) (.skip 23 (.op 24 (.op 25 .done)))))))) (.skip 19 (.skip 20 (.op 21 (.op 22 (.know 22 false (.skip 23 (.op 24 (.op 25 .done))))))))))))) (.skip 15 (.skip 16 (.op 17 (.op 18 (.know 18 false (.skip 19 (.skip 20 (.op 21 (.op 22 (.know 22 false (.skip 23 (.op 24 (.op 25 .done)))))))))))))))))))) (.skip 9 (.skip 10 (.op 11 (.op 12 (.op 13 (.op 14 (.test 14 (.op 15 (.op 16 (.op 17 (.op 18 (.test 18 (.op 19 (.op 20 (.op 21 (.op 22 (.test 22 (.op 23 (.op 24 (.op 25 .done))) (.skip 23 (.op 24 (.op 25 .done)))))))) (.skip 19 (.skip 20 (.op 21 (.op 22 (.know 22 false (.skip 23 (.op 24 (.op 25 .done))))))))))))) (.skip 15 (.skip 16 (.op 17 (.op 18 (.know 18 false (.skip 19 (.skip 20 (.op 21 (.op 22 (.know 22 false (.skip 23 (.op 24 (.op 25 .done)))))))))))))))))))))))))) (.skip 4 (.skip 5 (.skip 6 (.skip 7 (.skip 8 (.skip 9 (.skip 10 (.skip 11 (.skip 12 (.op 13 (.op 14 (.know 14 false (.skip 15 (.skip 16 (.op 17 (.op 18 (.know 18 false (.skip 19 (.skip 20 (.op 21 (.op 22 (.know 22 false (.skip 23 (.op 24 (.op 25 .done))))))))))))))))))))))))))))))) .nop)))))))

theorem bodkinlaw39_FindNil.ok : okC Tryd.f6.ntmps bodkinlaw39_FindNil.sc (bodyOf Tryd.f6) = true := by kernel_rfl

theorem bodkinlaw39_FindNil.eq {K : K1} {q0 at1 : Value} {w : World} : bodkinlaw39_FindNil K q0 at1 w = codeS Tryd.prog bodkinlaw39_FindNil.sc (bodyOf Tryd.f6) (argsF 0 [q0, at1]) w (retQ Tryd.prog Tryd.f6.results.toList K) := by kernel_rfl

theorem bodkinlaw39_FindNil.call {K : K1} {q0 at1 : Value} {w : World} (h : bodkinlaw39_FindNil K q0 at1 w) : sCall Tryd.prog 6 [q0, at1] w K := sCall_code mixed Tryd.func6 (by kernel_rfl) rfl rfl bodkinlaw39_FindNil.ok bodkinlaw39_FindNil.eq h

abbrev bodkinlaw39_FindNil.n : Nat := 6

/-- 'bodkin bodkinlaw39.FindSteps' -/
def bodkinlaw39_FindSteps_J2 (Nx1 : List Value → World → Prop) (first12 found13 l0 x78 : Value) (x91 : Value) (w : World) : Prop :=
  sIf x91 (
    sIdxA Tryd.prog 29 l0 x78 w fun x94 w =>
    sLoad Tryd.prog 41 x94 w fun x95 w =>
    sStore Tryd.prog 41 first12 x95 w fun w =>
    sBin Tryd.prog .add 3 false true x78 (.int .i64 1) w fun x96 w =>
    Nx1 [(.bool true), x96] w) (
    sBin Tryd.prog .add 3 false true x78 (.int .i64 1) w fun x96_1 w =>
    Nx1 [found13, x96_1] w)

def bodkinlaw39_FindSteps_J4 (Nx3 : List Value → World → Prop) (found13_1 l0 last14 x106 x99 : Value) (x117 : Value) (w : World) : Prop :=
  sIf x117 (
    sIdxA Tryd.prog 29 l0 x106 w fun x120 w =>
    sLoad Tryd.prog 41 x120 w fun x121 w =>
    sStore Tryd.prog 41 last14 x121 w fun w =>
    sBin Tryd.prog .add 3 false true x99 (.int .i64 1) w fun x122 w =>
    Nx3 [(.bool true), x122] w) (
    sBin Tryd.prog .add 3 false true x99 (.int .i64 1) w fun x122_1 w =>
    Nx3 [found13_1, x122_1] w)

def bodkinlaw39_FindSteps_L6 (K : K1) (Nx6 : List Value → World → Prop) (l0 text2 x150 x39 : Value) (x151 : Value) (w : World) : Prop :=
  sBin Tryd.prog .lss 3 false false x151 x150 w fun x152 w =>
  sIf x152 (
    sIdxA Tryd.prog 46 x39 x151 w fun x154 w =>
    sLoad Tryd.prog 49 x154 w fun x155 w =>
    sAlloc Tryd.prog 49 w fun z20 w =>
    sStore Tryd.prog 49 z20 x155 w fun w =>
    DrawS w fun C w =>
    stillS C w (fun w k => sLoad Tryd.prog 49 z20 w k) fun x156 =>
    stillS C w (fun w k => sIdxA Tryd.prog 29 l0 x151 w k) fun x159 =>
    stillS C w (fun w k => sFldA Tryd.prog 41 x159 0 w k) fun x160 =>
    stillS C w (fun w k => sLoad Tryd.prog 3 x160 w k) fun x161 =>
    stillS C w (fun w k => sIdxA Tryd.prog 29 l0 x151 w k) fun x164 =>
    stillS C w (fun w k => sFldA Tryd.prog 41 x164 1 w k) fun x165 =>
    stillS C w (fun w k => sLoad Tryd.prog 3 x165 w k) fun x166 =>
    stillS C w (fun w k => sBuild Tryd.prog 49 [(0, x161), (1, x166), (2, text2)] w k) fun x168 =>
    stillS C w (fun w k => sBin Tryd.prog .neq 49 false false x156 x168 w k) fun x169 =>
    sIf x169 (
      K (.bool false) w) (
      sBin Tryd.prog .add 3 false true x151 (.int .i64 1) w fun x170 w =>
      Nx6 [x170] w)) (
    sCall Tryd.prog 8 [] w fun x171 w =>
    K x171 w)

def bodkinlaw39_FindSteps_J5 (K : K1) (first12 l0 last14 text2 x30 x36 x39 x7 y9 : Value) (many18 : Value) (w : World) : Prop :=
  sUn Tryd.prog .not x30 w fun x128 w =>
  sIf x128 (
    K (.bool false) w) (
    sUn Tryd.prog .not x36 w fun x131 w =>
    sIf x131 (
      K (.bool false) w) (
      sLoad Tryd.prog 41 x7 w fun x134 w =>
      sLoad Tryd.prog 41 first12 w fun x135 w =>
      sBin Tryd.prog .neq 41 false false x134 x135 w fun x136 w =>
      sIf x136 (
        K (.bool false) w) (
        sLoad Tryd.prog 41 y9 w fun x139 w =>
        sLoad Tryd.prog 41 last14 w fun x140 w =>
        sBin Tryd.prog .neq 41 false false x139 x140 w fun x141 w =>
        sIf x141 (
          K (.bool false) w) (
          sBuiltin Tryd.prog .len [46] 3 [x39] w fun x145 w =>
          sBin Tryd.prog .neq 3 false false x145 many18 w fun x147 w =>
          sIf x147 (
            K (.bool false) w) (
            sBuiltin Tryd.prog .len [46] 3 [x39] w fun x150 w =>
            LoopS [(.int .i64 0)] 1 22 w fun us _ w Nx6 =>
              bodkinlaw39_FindSteps_L6 K Nx6 l0 text2 x150 x39 (hd us) w)))))

def bodkinlaw39_FindSteps_L3 (K : K1) (Nx3 : List Value → World → Prop) (at1 first12 l0 last14 text2 x30 x36 x39 x7 x98 y9 : Value) (found13_1 x99 : Value) (w : World) : Prop :=
  sBin Tryd.prog .lss 3 false false x99 x98 w fun x100 w =>
  sIf x100 (
    sBuiltin Tryd.prog .len [29] 3 [l0] w fun x103 w =>
    sBin Tryd.prog .sub 3 false true x103 (.int .i64 1) w fun x104 w =>
    sBin Tryd.prog .sub 3 false false x104 x99 w fun x106 w =>
    JoinS 1 10 (fun M4 =>
      sUn Tryd.prog .not found13_1 w fun x108 w =>
      sIf x108 (
        sIdxA Tryd.prog 29 l0 x106 w fun x112 w =>
        sFldA Tryd.prog 41 x112 1 w fun x113 w =>
        sLoad Tryd.prog 3 x113 w fun x114 w =>
        sBin Tryd.prog .leq 3 false false x114 at1 w fun x116 w =>
        M4 [x116] w) (
        M4 [(.bool false)] w)) fun us _ w =>
      bodkinlaw39_FindSteps_J4 Nx3 found13_1 l0 last14 x106 x99 (hd us) w) (
    sBuiltin Tryd.prog .len [29] 3 [l0] w fun x124 w =>
    JoinS 1 2 (fun M5 =>
      sBin Tryd.prog .gtr 3 false true x124 (.int .i64 64) w fun x126 w =>
      sIf x126 (
        M5 [(.int .i64 64)] w) (
        M5 [x124] w)) fun us _ w =>
      bodkinlaw39_FindSteps_J5 K first12 l0 last14 text2 x30 x36 x39 x7 y9 (hd us) w)

def bodkinlaw39_FindSteps_L1 (K : K1) (Nx1 : List Value → World → Prop) (at1 first12 l0 last14 text2 x30 x36 x39 x7 x77 y9 : Value) (found13 x78 : Value) (w : World) : Prop :=
  sBin Tryd.prog .lss 3 false false x78 x77 w fun x79 w =>
  sIf x79 (
    JoinS 1 10 (fun M2 =>
      sUn Tryd.prog .not found13 w fun x82 w =>
      sIf x82 (
        sIdxA Tryd.prog 29 l0 x78 w fun x86 w =>
        sFldA Tryd.prog 41 x86 0 w fun x87 w =>
        sLoad Tryd.prog 3 x87 w fun x88 w =>
        sBin Tryd.prog .geq 3 false false x88 at1 w fun x90 w =>
        M2 [x90] w) (
        M2 [(.bool false)] w)) fun us _ w =>
      bodkinlaw39_FindSteps_J2 Nx1 first12 found13 l0 x78 (hd us) w) (
    sBuiltin Tryd.prog .len [29] 3 [l0] w fun x98 w =>
    LoopS [(.bool false), (.int .i64 0)] 2 25 w fun us _ w Nx3 =>
      bodkinlaw39_FindSteps_L3 K Nx3 at1 first12 l0 last14 text2 x30 x36 x39 x7 x98 y9 (hd us) (hd (tl us)) w)

def bodkinlaw39_FindSteps (K : K1) (l0 at1 text2 : Value) (w : World) : Prop :=
  sBuiltin Tryd.prog .len [29] 3 [l0] w fun x22 w =>
  sBin Tryd.prog .gtr 3 false true x22 (.int .i64 200) w fun x23 w =>
  sIf x23 (
    sCall Tryd.prog 8 [] w fun x24 w =>
    K x24 w) (
    sCall Tryd.prog 16 [l0, at1] w fun x28 w =>
    sExtract x28 0 w fun x29 w =>
    sExtract x28 1 w fun x30 w =>
    sAlloc Tryd.prog 41 w fun x7 w =>
    sStore Tryd.prog 41 x7 x29 w fun w =>
    sCall Tryd.prog 17 [l0, at1] w fun x34 w =>
    sExtract x34 0 w fun x35 w =>
    sExtract x34 1 w fun x36 w =>
    sAlloc Tryd.prog 41 w fun y9 w =>
    sStore Tryd.prog 41 y9 x35 w fun w =>
    sCall Tryd.prog 18 [l0, text2] w fun x39 w =>
    sBuiltin Tryd.prog .len [29] 3 [l0] w fun x41 w =>
    sBin Tryd.prog .eql 3 false true x41 (.int .i64 0) w fun x42 w =>
    sIf x42 (
      sUn Tryd.prog .not x30 w fun x44 w =>
      sIf x44 (
        sUn Tryd.prog .not x36 w fun x47 w =>
        sIf x47 (
          sLoad Tryd.prog 41 x7 w fun x50 w =>
          sBuild Tryd.prog 41 [] w fun x51 w =>
          sBin Tryd.prog .eql 41 false false x50 x51 w fun x52 w =>
          sIf x52 (
            sLoad Tryd.prog 41 y9 w fun x55 w =>
            sBuild Tryd.prog 41 [] w fun x56 w =>
            sBin Tryd.prog .eql 41 false false x55 x56 w fun x57 w =>
            sIf x57 (
              sBuiltin Tryd.prog .len [46] 3 [x39] w fun x61 w =>
              sBin Tryd.prog .eql 3 false true x61 (.int .i64 0) w fun x62 w =>
              sIf x62 (
                sCall Tryd.prog 8 [] w fun x65 w =>
                K x65 w) (
                K (.bool false) w)) (
              K (.bool false) w)) (
            K (.bool false) w)) (
          K (.bool false) w)) (
        K (.bool false) w)) (
      sIdxA Tryd.prog 29 l0 (.int .i64 0) w fun x68 w =>
      sLoad Tryd.prog 41 x68 w fun x69 w =>
      sAlloc Tryd.prog 41 w fun first12 w =>
      sStore Tryd.prog 41 first12 x69 w fun w =>
      sBuiltin Tryd.prog .len [29] 3 [l0] w fun x72 w =>
      sBin Tryd.prog .sub 3 false true x72 (.int .i64 1) w fun x73 w =>
      sIdxA Tryd.prog 29 l0 x73 w fun x74 w =>
      sLoad Tryd.prog 41 x74 w fun x75 w =>
      sAlloc Tryd.prog 41 w fun last14 w =>
      sStore Tryd.prog 41 last14 x75 w fun w =>
      sBuiltin Tryd.prog .len [29] 3 [l0] w fun x77 w =>
      LoopS [(.bool false), (.int .i64 0)] 2 19 w fun us _ w Nx1 =>
        bodkinlaw39_FindSteps_L1 K Nx1 at1 first12 l0 last14 text2 x30 x36 x39 x7 x77 y9 (hd us) (hd (tl us)) w))

def bodkinlaw39_FindSteps.sc : SC := (.seq (.reg (.op 0 .done)) (.seq (.seq (.reg (.op 0 (.op 1 (.op 2 .done)))) (.cond (.seq (.reg (.op 0 (.op 1 .done))) .nop) .nop)) (.seq (.reg (.op 0 (.op 1 (.op 2 (.op 3 (.op 4 (.op 5 (.op 6 (.op 7 (.op 8 .done)))))))))) (.seq (.reg (.op 0 (.op 1 (.op 2 (.op 3 (.op 4 (.op 5 (.op 6 (.op 7 (.op 8 .done)))))))))) (.seq (.reg (.op 0 (.op 1 (.op 2 (.op 3 .done))))) (.seq (.seq (.reg (.op 0 (.op 1 (.op 2 .done)))) (.cond (.seq (.reg (.op 0 (.op 1 (.op 2 (.test 2 (.op 3 (.op 4 (.op 5 (.op 6 (.test 6 (.op 7 (.op 8 (.op 9 (.op 10 (.op 11 (.test 11 (.op 12 (.op 13 (.op 14 (.op 15 (.op 16 (.test 16 (.op 17 (.op 18 (.op 19 (.op 20 (.op 21 (.test 21 (.op 22 (.op 23 (.op 24 .done))) (.skip 22 (.op 23 (.op 24 .done))))))))) (.skip 17 (.skip 18 (.skip 19 (.op 20 (.op 21 (.know 21 false (.skip 22 (.op 23 (.op 24 .done))))))))))))))) (.skip 12 (.skip 13 (.skip 14 (.op 15 (.op 16 (.know 16 false (.skip 17 (.skip 18 (.skip 19 (.op 20 (.op 21 (.know 21 false (.skip 22 (.op 23 (.op 24 .done))))))))))))))))))))) (.skip 7 (.skip 8 (.skip 9 (.op 10 (.op 11 (.know 11 false (.skip 12 (.skip 13 (.skip 14 (.op 15 (.op 16 (.know 16 false (.skip 17 (.skip 18 (.skip 19 (.op 20 (.op 21 (.know 21 false (.skip 22 (.op 23 (.op 24 .done)))))))))))))))))))))))))) (.skip 3 (.skip 4 (.op 5 (.op 6 (.know 6 false (.skip 7 (.skip 8 (.skip 9 (.op 10 (.op 11 (.know 11 false (.skip 12 (.skip 13 (.skip 14 (.op 15 (.op 16 (.know 16 false (.skip 17 (.skip 18 (.skip 19 (.op 20 (.op 21 (.know 21 false (.skip 22 (.op 23 (.op 24 .done))))))))))))))))))))))))))))))) .nop) .nop)) (.seq (.reg (.op 0 (.op 1 (.op 2 (.op 3 (.op 4 .done)))))) (.seq (.reg (.op 0 .done)) (.seq (.reg (.op 0 (.op 1 (.op 2 (.op 3 (.op 4 (.op 5 (.op 6 (.op 7 .done))))))))) (.seq (.seq (.reg (.op 0 (.op 1 (.op 2 .done)))) (.sub (.loop [13, 78] [79, 80, 15, 81, 82, 83, 84, 85, 86, 87, 88, 89, 90, 91, 92, 93, 94, 95, 96] (.seq (.reg (.op 0 .done)) (.seq (.cond .nop .nop) (.seq (.sub (.seq (.reg (.op 0 (.op 1 .done))) (.join [91] [81, 82, 83, 84, 85, 86, 87, 88, 89, 90] (.reg (.op 0 (.op 1 (.op 2 (.test 2 (.op 3 (.op 4 (.op 5 (.op 6 (.op 7 (.op 8 (.op 9 (.op 10 .done)))))))) (.skip 3 (.skip 4 (.skip 5 (.skip 6 (.skip 7 (.skip 8 (.skip 9 (.op 10 .done))))))))))))) (.cond (.seq (.reg (.op 0 (.op 1 (.op 2 (.op 3 (.op 4 .done)))))) (.reg (.op 0 .done))) .nop)))) (.reg (.op 0 (.op 1 .done))))))))) (.seq (.reg (.op 0 .done)) (.seq (.seq (.reg (.op 0 (.op 1 (.op 2 .done)))) (.sub (.loop [13, 99] [100, 101, 16, 102, 103, 104, 105, 106, 17, 107, 108, 109, 110, 111, 112, 113, 114, 115, 116, 117, 118, 119, 120, 121, 122] (.seq (.reg (.op 0 .done)) (.seq (.cond .nop .nop) (.seq (.sub (.seq (.reg (.op 0 (.op 1 .done))) (.seq (.reg (.op 0 (.op 1 (.op 2 (.op 3 (.op 4 (.op 5 .done))))))) (.join [117] [107, 108, 109, 110, 111, 112, 113, 114, 115, 116] (.reg (.op 0 (.op 1 (.op 2 (.test 2 (.op 3 (.op 4 (.op 5 (.op 6 (.op 7 (.op 8 (.op 9 (.op 10 .done)))))))) (.skip 3 (.skip 4 (.skip 5 (.skip 6 (.skip 7 (.skip 8 (.skip 9 (.op 10 .done))))))))))))) (.cond (.seq (.reg (.op 0 (.op 1 (.op 2 (.op 3 (.op 4 .done)))))) (.reg (.op 0 .done))) .nop))))) (.reg (.op 0 (.op 1 .done))))))))) (.seq (.reg (.op 0 (.op 1 (.op 2 .done)))) (.join [18] [125, 126] (.seq (.reg (.op 0 (.op 1 .done))) (.cond (.reg (.op 0 .done)) .nop)) (.seq (.seq (.reg (.op 0 (.op 1 (.op 2 (.test 2 (.skip 3 (.skip 4 (.op 5 (.op 6 (.know 6 true (.skip 7 (.skip 8 (.skip 9 (.op 10 (.op 11 (.know 11 true (.skip 12 (.skip 13 (.skip 14 (.op 15 (.op 16 (.know 16 true (.skip 17 (.skip 18 (.skip 19 (.skip 20 (.op 21 .done)))))))))))))))))))))) (.op 3 (.op 4 (.op 5 (.op 6 (.test 6 (.skip 7 (.skip 8 (.skip 9 (.op 10 (.op 11 (.know 11 true (.skip 12 (.skip 13 (.skip 14 (.op 15 (.op 16 (.know 16 true (.skip 17 (.skip 18 (.skip 19 (.skip 20 (.op 21 .done))))))))))))))))) (.op 7 (.op 8 (.op 9 (.op 10 (.op 11 (.test 11 (.skip 12 (.skip 13 (.skip 14 (.op 15 (.op 16 (.know 16 true (.skip 17 (.skip 18 (.skip 19 (.skip 20 (.op 21 .done))))))))))) (.op 12 (.op 13 (.op 14 (.op 15 (.op 16 (.test 16 (.skip 17 (.skip 18 (.skip 19 (.skip 20 (.op 21 .done))))) (.op 17 (.op 18 (.op 19 (.op 20 (.op 21 .done))))))))))))))))))))))))))) (.cond (.seq (.reg (.op 0 .done)) .nop) .nop)) (.seq (.seq (.reg (.op 0 (.op 1 (.op 2 .done)))) (.sub (.loop [151] [152, 153, 154, 155, 20, 19, 156, 157, 158, 159, 160, 161, 162, 163, 164, 165, 166, 167, 168, 169, 6, 170] (.seq (.reg (.op 0 .done)) (.seq (.cond .nop .nop) (.seq (.sub (.seq (.reg (.op 0 (.op 1 (.op 2 (.op 3 (.op 4 (.op 5 .done))))))) (.seq (.draw (.op 0 (.op 1 (.op 2 (.op 3 (.op 4 (.op 5 (.op 6 (.op 7 (.op 8 (.op 9 (.op 10 (.op 11 (.op 12 (.op 13 .done))))))))))))))) (.cond (.seq (.reg (.op 0 .done)) .nop) .nop)))) (.reg (.op 0 (.op 1 .done))))))))) (.seq (.reg (.op 0 (.op 1 .done))) .nop)))))))))))))))))

theorem bodkinlaw39_FindSteps.ok : okC Tryd.f7.ntmps bodkinlaw39_FindSteps.sc (bodyOf Tryd.f7) = true := by kernel_rfl

theorem bodkinlaw39_FindSteps.eq {K : K1} {l0 at1 text2 : Value} {w : World} : bodkinlaw39_FindSteps K l0 at1 text2 w = codeS Tryd.prog bodkinlaw39_FindSteps.sc (bodyOf Tryd.f7) (argsF 0 [l0, at1, text2]) w (retQ Tryd.prog Tryd.f7.results.toList K) := by kernel_rfl

theorem bodkinlaw39_FindSteps.call {K : K1} {l0 at1 text2 : Value} {w : World} (h : bodkinlaw39_FindSteps K l0 at1 text2 w) : sCall Tryd.prog 7 [l0, at1, text2] w K := sCall_code mixed Tryd.func7 (by kernel_rfl) rfl rfl bodkinlaw39_FindSteps.ok bodkinlaw39_FindSteps.eq h

abbrev bodkinlaw39_FindSteps.n : Nat := 7

/-- 'bodkin bodkinlaw39.alike' -/
def bodkinlaw39_alike (K : K1) (w : World) : Prop :=
  sCall Tryd.prog 9 [(.string ⟨#[98, 97, 65, 97, 97]⟩)] w fun x8 w =>
  sExtract x8 0 w fun x9 w =>
  sExtract x8 1 w fun x10 w =>
  sBuild Tryd.prog 23 [(0, (.string ⟨#[97, 65]⟩)), (1, (.bool true))] w fun x13 w =>
  sCall Tryd.prog 10 [x9, x13] w fun x14 w =>
  sExtract x14 0 w fun x15 w =>
  sExtract x14 1 w fun x16 w =>
  sCall Tryd.prog 16 [x15, (.int .i64 2)] w fun x19 w =>
  sExtract x19 0 w fun x20 w =>
  sExtract x19 1 w fun x21 w =>
  sAlloc Tryd.prog 41 w fun x5 w =>
  sStore Tryd.prog 41 x5 x20 w fun w =>
  sBin Tryd.prog .eql 26 false true x10 (.int .i64 0) w fun x23 w =>
  sIf x23 (
    sBin Tryd.prog .eql 26 false true x16 (.int .i64 0) w fun x26 w =>
    sIf x26 (
      sBuild Tryd.prog 41 [(0, (.int .i64 1)), (1, (.int .i64 3))] w fun x30 w =>
      sBuild Tryd.prog 41 [(0, (.int .i64 3)), (1, (.int .i64 5))] w fun x31 w =>
      sBuildSlice Tryd.prog 29 2 [(0, x30), (1, x31)] w fun x32 w =>
      sCall Tryd.prog 12 [x15, x32] w fun x33 w =>
      sIf x33 (
        sIf x21 (
          sFldA Tryd.prog 41 x5 0 w fun x39 w =>
          sLoad Tryd.prog 3 x39 w fun x40 w =>
          sBin Tryd.prog .eql 3 false true x40 (.int .i64 3) w fun x41 w =>
          K x41 w) (
          K (.bool false) w)) (
        K (.bool false) w)) (
      K (.bool false) w)) (
    K (.bool false) w)

def bodkinlaw39_alike.sc : SC := (.seq (.reg (.op 0 .done)) (.seq (.reg (.op 0 (.op 1 (.op 2 (.op 3 (.op 4 (.op 5 .done))))))) (.seq (.reg (.op 0 (.op 1 (.op 2 (.op 3 (.op 4 (.op 5 (.op 6 (.op 7 .done))))))))) (.seq (.reg (.op 0 (.op 1 (.op 2 (.op 3 (.op 4 (.op 5 (.op 6 (.op 7 .done))))))))) (.seq (.reg (.op 0 (.op 1 (.op 2 (.test 2 (.op 3 (.op 4 (.op 5 (.op 6 (.test 6 (.op 7 (.op 8 (.op 9 (.op 10 (.op 11 (.op 12 (.op 13 (.test 13 (.op 14 (.op 15 (.op 16 (.test 16 (.op 17 (.op 18 (.op 19 (.op 20 (.op 21 .done))))) (.skip 17 (.skip 18 (.skip 19 (.op 20 (.op 21 .done))))))))) (.skip 14 (.op 15 (.op 16 (.know 16 false (.skip 17 (.skip 18 (.skip 19 (.op 20 (.op 21 .done))))))))))))))))) (.skip 7 (.skip 8 (.skip 9 (.skip 10 (.skip 11 (.op 12 (.op 13 (.know 13 false (.skip 14 (.op 15 (.op 16 (.know 16 false (.skip 17 (.skip 18 (.skip 19 (.op 20 (.op 21 .done)))))))))))))))))))))) (.skip 3 (.skip 4 (.op 5 (.op 6 (.know 6 false (.skip 7 (.skip 8 (.skip 9 (.skip 10 (.skip 11 (.op 12 (.op 13 (.know 13 false (.skip 14 (.op 15 (.op 16 (.know 16 false (.skip 17 (.skip 18 (.skip 19 (.op 20 (.op 21 .done))))))))))))))))))))))))))) .nop)))))

theorem bodkinlaw39_alike.ok : okC Tryd.f8.ntmps bodkinlaw39_alike.sc (bodyOf Tryd.f8) = true := by kernel_rfl

theorem bodkinlaw39_alike.eq {K : K1} {w : World} : bodkinlaw39_alike K  w = codeS Tryd.prog bodkinlaw39_alike.sc (bodyOf Tryd.f8) (argsF 0 []) w (retQ Tryd.prog Tryd.f8.results.toList K) := by kernel_rfl

theorem bodkinlaw39_alike.call {K : K1} {w : World} (h : bodkinlaw39_alike K  w) : sCall Tryd.prog 8 [] w K := sCall_code mixed Tryd.func8 (by kernel_rfl) rfl rfl bodkinlaw39_alike.ok bodkinlaw39_alike.eq h

abbrev bodkinlaw39_alike.n : Nat := 8

/-- 'bodkin rope.New' -/
def rope_New (K : K1) (s0 : Value) (w : World) : Prop :=
  sCall Tryd.prog 19 [s0] w fun x8 w =>
  sBuiltin Tryd.prog .len [32] 3 [x8] w fun x10 w =>
  sBin Tryd.prog .gtr 3 false true x10 (.int .i64 20000) w fun x11 w =>
  sIf x11 (
    K (.tuple #[(.pointer none), (.int .i64 5)]) w) (
    sCall Tryd.prog 21 [x8] w fun x14 w =>
    sCall Tryd.prog 20 [x14] w fun x15 w =>
    sExtract x15 0 w fun x16 w =>
    sExtract x15 1 w fun x17 w =>
    sBin Tryd.prog .neq 26 false true x17 (.int .i64 0) w fun x19 w =>
    sIf x19 (
      K (.tuple #[(.pointer none), x17]) w) (
      sBuild Tryd.prog 57 [(0, x16)] w fun x22 w =>
      sBox Tryd.prog 57 x22 w fun x23 w =>
      K (.tuple #[x23, (.int .i64 0)]) w))

def rope_New.sc : SC := (.seq (.reg (.op 0 (.op 1 .done))) (.seq (.reg (.op 0 (.op 1 (.op 2 .done)))) (.seq (.seq (.reg (.op 0 (.op 1 (.op 2 .done)))) (.cond (.seq (.reg (.op 0 (.op 1 .done))) .nop) .nop)) (.seq (.reg (.op 0 (.op 1 (.op 2 (.op 3 (.op 4 (.op 5 (.op 6 (.op 7 .done))))))))) (.seq (.seq (.reg (.op 0 (.op 1 .done))) (.cond (.seq (.reg (.op 0 (.op 1 (.op 2 .done)))) .nop) .nop)) (.seq (.reg (.op 0 (.op 1 (.op 2 (.op 3 (.op 4 .done)))))) .nop))))))

theorem rope_New.ok : okC Tryd.f9.ntmps rope_New.sc (bodyOf Tryd.f9) = true := by kernel_rfl

theorem rope_New.eq {K : K1} {s0 : Value} {w : World} : rope_New K s0 w = codeS Tryd.prog rope_New.sc (bodyOf Tryd.f9) (argsF 0 [s0]) w (retQ Tryd.prog Tryd.f9.results.toList K) := by kernel_rfl

theorem rope_New.call {K : K1} {s0 : Value} {w : World} (h : rope_New K s0 w) : sCall Tryd.prog 9 [s0] w K := sCall_code mixed Tryd.func9 (by kernel_rfl) rfl rfl rope_New.ok rope_New.eq h

abbrev rope_New.n : Nat := 9

/-- 'bodkin find.All' -/
def find_All_L3 (M2 : List Value → World → Prop) (Nx3 : List Value → World → Prop) (x18 : Value) (at8 out7 : Value) (w : World) : Prop :=
  sNil x18 w fun x43 w =>
  sFldA Tryd.prog 62 x43 0 w fun x44 w =>
  sLoad Tryd.prog 32 x44 w fun x45 w =>
  sBuiltin Tryd.prog .len [32] 3 [x45] w fun x46 w =>
  sBin Tryd.prog .lss 3 false false at8 x46 w fun x47 w =>
  sIf x47 (
    sBuiltin Tryd.prog .len [29] 3 [out7] w fun x50 w =>
    sBin Tryd.prog .lss 3 false true x50 (.int .i64 500) w fun x51 w =>
    sIf x51 (
      sCall Tryd.prog 26 [x18, at8] w fun x55 w =>
      sUn Tryd.prog .not x55 w fun x56 w =>
      sIf x56 (
        sBin Tryd.prog .add 3 false true at8 (.int .i64 1) w fun x58 w =>
        Nx3 [x58, out7] w) (
        sNil x18 w fun x63 w =>
        sFldA Tryd.prog 62 x63 1 w fun x64 w =>
        sLoad Tryd.prog 32 x64 w fun x65 w =>
        sBuiltin Tryd.prog .len [32] 3 [x65] w fun x66 w =>
        sBin Tryd.prog .add 3 false false at8 x66 w fun x67 w =>
        sBuild Tryd.prog 41 [(0, at8), (1, x67)] w fun x68 w =>
        sBuildSlice Tryd.prog 29 1 [(0, x68)] w fun x69 w =>
        sBuiltin Tryd.prog .append [29, 29] 29 [out7, x69] w fun x70 w =>
        sNil x18 w fun x73 w =>
        sFldA Tryd.prog 62 x73 1 w fun x74 w =>
        sLoad Tryd.prog 32 x74 w fun x75 w =>
        sBuiltin Tryd.prog .len [32] 3 [x75] w fun x76 w =>
        sBin Tryd.prog .add 3 false false at8 x76 w fun x77 w =>
        Nx3 [x77, x70] w)) (
      M2 [out7] w)) (
    M2 [out7] w)

def find_All_J2 (K : K1) (out7_1 : Value) (w : World) : Prop :=
  K (.tuple #[out7_1, (.int .i64 0)]) w

def find_All_J1 (K : K1) (x18 : Value) (w : World) : Prop :=
  JoinS 1 38 (fun M2 =>
    LoopS [(.int .i64 0), (.slice none 0 0)] 2 37 w fun us _ w Nx3 =>
      find_All_L3 M2 Nx3 x18 (hd us) (hd (tl us)) w) fun us _ w =>
    find_All_J2 K (hd us) w

def find_All (K : K1) (r0 q1 : Value) (w : World) : Prop :=
  sBox Tryd.prog 23 q1 w fun q3 w =>
  DrawS w fun C w =>
  stillS C w (fun w k => sFldA Tryd.prog 23 q3 0 w k) fun x12 =>
  stillS C w (fun w k => sLoad Tryd.prog 9 x12 w k) fun x13 =>
  stillS C w (fun w k => sFldA Tryd.prog 23 q3 2 w k) fun x15 =>
  stillS C w (fun w k => sLoad Tryd.prog 4 x15 w k) fun x16 =>
  sCall Tryd.prog 22 [r0] w fun x10 w => C w ∧
  sCall Tryd.prog 19 [x10] w fun x11 w => C w ∧
  sCall Tryd.prog 19 [x13] w fun x14 w => C w ∧
  stillS C w (fun w k => sBuild Tryd.prog 62 [(0, x11), (1, x14), (2, x16)] w k) fun x17 =>
  sBox Tryd.prog 62 x17 w fun x18 w => C w ∧
  sNil x18 w fun x21 w =>
  sFldA Tryd.prog 62 x21 1 w fun x22 w =>
  sLoad Tryd.prog 32 x22 w fun x23 w =>
  sBuiltin Tryd.prog .len [32] 3 [x23] w fun x24 w =>
  sBin Tryd.prog .eql 3 false true x24 (.int .i64 0) w fun x25 w =>
  sIf x25 (
    K (.tuple #[(.slice none 0 0), (.int .i64 4)]) w) (
    sNil x18 w fun x28 w =>
    sFldA Tryd.prog 62 x28 1 w fun x29 w =>
    sLoad Tryd.prog 32 x29 w fun x30 w =>
    sBuiltin Tryd.prog .len [32] 3 [x30] w fun x31 w =>
    sBin Tryd.prog .gtr 3 false true x31 (.int .i64 200) w fun x32 w =>
    sIf x32 (
      K (.tuple #[(.slice none 0 0), (.int .i64 2)]) w) (
      sNil x18 w fun x34 w =>
      sFldA Tryd.prog 62 x34 3 w fun x35 w =>
      sStore Tryd.prog 60 x35 (.func (.func 23) #[] #[]) w fun w =>
      JoinS 0 5 (fun M1 =>
        sFldA Tryd.prog 23 q3 1 w fun x36 w =>
        sLoad Tryd.prog 4 x36 w fun x37 w =>
        sIf x37 (
          sNil x18 w fun x39 w =>
          sFldA Tryd.prog 62 x39 3 w fun x40 w =>
          sStore Tryd.prog 60 x40 (.func (.func 24) #[] #[]) w fun w =>
          M1 [] w) (
          M1 [] w)) fun us _ w =>
        find_All_J1 K x18 w))

def find_All.sc : SC := (.seq (.reg (.op 0 (.op 1 (.op 2 .done)))) (.seq (.draw (.op 0 (.op 3 (.op 4 (.op 6 (.op 7 (.op 1 (.op 2 (.op 5 (.op 8 (.op 9 (.op 10 .done)))))))))))) (.seq (.sub (.seq (.reg (.op 0 (.op 1 (.op 2 (.op 3 (.op 4 (.op 5 (.op 6 .done)))))))) (.cond (.seq (.reg (.op 0 (.op 1 .done))) .nop) (.seq (.reg (.op 0 (.op 1 (.op 2 (.op 3 (.op 4 (.op 5 (.op 6 .done)))))))) (.cond (.seq (.reg (.op 0 (.op 1 .done))) .nop) .nop))))) (.seq (.reg (.op 0 (.op 1 (.op 2 (.op 3 .done))))) (.join [] [36, 37, 38, 39, 40] (.seq (.reg (.op 0 (.op 1 .done))) (.cond (.reg (.op 0 (.op 1 (.op 2 (.op 3 .done))))) .nop)) (.seq (.reg (.op 0 .done)) (.join [7] [8, 41, 42, 43, 44, 45, 46, 47, 48, 49, 50, 51, 52, 53, 54, 55, 56, 57, 58, 59, 60, 61, 62, 63, 64, 65, 66, 67, 68, 69, 70, 71, 72, 73, 74, 75, 76, 77] (.seq (.reg (.op 0 .done)) (.sub (.loop [8, 7] [41, 42, 43, 44, 45, 46, 47, 48, 49, 50, 51, 52, 53, 54, 55, 56, 57, 58, 59, 60, 61, 62, 63, 64, 65, 66, 67, 68, 69, 70, 71, 72, 73, 74, 75, 76, 77] (.seq (.seq (.reg (.op 0 (.op 1 (.op 2 (.op 3 (.op 4 (.op 5 (.op 6 (.op 7 (.test 7 (.op 8 (.op 9 (.op 10 (.op 11 .done)))) (.skip 8 (.skip 9 (.skip 10 (.op 11 .done)))))))))))))) (.cond .nop .nop)) (.sub (.seq (.seq (.reg (.op 0 (.op 1 (.op 2 (.op 3 .done))))) (.cond (.seq (.reg (.op 0 (.op 1 (.op 2 .done)))) .nop) .nop)) (.seq (.reg (.op 0 (.op 1 (.op 2 (.op 3 (.op 4 (.op 5 (.op 6 (.op 7 (.op 8 (.op 9 (.op 10 (.op 11 (.op 12 .done)))))))))))))) (.reg (.op 0 (.op 1 (.op 2 (.op 3 (.op 4 (.op 5 (.op 6 (.op 7 .done)))))))))))))))) (.seq (.reg (.op 0 (.op 1 (.op 2 .done)))) .nop))))))))

theorem find_All.ok : okC Tryd.f10.ntmps find_All.sc (bodyOf Tryd.f10) = true := by kernel_rfl

theorem find_All.eq {K : K1} {r0 q1 : Value} {w : World} : find_All K r0 q1 w = codeS Tryd.prog find_All.sc (bodyOf Tryd.f10) (argsF 0 [r0, q1]) w (retQ Tryd.prog Tryd.f10.results.toList K) := by kernel_rfl

theorem find_All.call {K : K1} {r0 q1 : Value} {w : World} (h : find_All K r0 q1 w) : sCall Tryd.prog 10 [r0, q1] w K := sCall_code mixed Tryd.func10 (by kernel_rfl) rfl rfl find_All.ok find_All.eq h

abbrev find_All.n : Nat := 10

/-- 'bodkin bodkinlaw39.ref' -/
def bodkinlaw39_ref (K : K1) (q0 : Value) (w : World) : Prop :=
  sBox Tryd.prog 23 q0 w fun q1 w =>
  sAlloc Tryd.prog 34 w fun x2 w =>
  DrawS w fun C w =>
  stillS C w (fun w k => sFldA Tryd.prog 23 q1 0 w k) fun x3 =>
  stillS C w (fun w k => sLoad Tryd.prog 9 x3 w k) fun x4 =>
  stillS C w (fun w k => sFldA Tryd.prog 23 q1 1 w k) fun x6 =>
  stillS C w (fun w k => sLoad Tryd.prog 4 x6 w k) fun x7 =>
  stillS C w (fun w k => sFldA Tryd.prog 23 q1 2 w k) fun x8 =>
  stillS C w (fun w k => sLoad Tryd.prog 4 x8 w k) fun x9 =>
  sCall Tryd.prog 14 [x4] w fun x5 w => C w ∧
  stillS C w (fun w k => sBuild Tryd.prog 34 [(0, x5), (1, x7), (2, x9)] w k) fun x10 =>
  sStore Tryd.prog 34 x2 x10 w fun w =>
  sLoad Tryd.prog 34 x2 w fun v w' => w' = w ∧ K v w

def bodkinlaw39_ref.sc : SC := (.seq (.reg (.op 0 (.op 1 .done))) (.seq (.draw (.op 0 (.op 1 (.op 3 (.op 4 (.op 5 (.op 6 (.op 2 (.op 7 (.fin 8 .done)))))))))) .nop))

theorem bodkinlaw39_ref.ok : okC Tryd.f11.ntmps bodkinlaw39_ref.sc (bodyOf Tryd.f11) = true := by kernel_rfl

theorem bodkinlaw39_ref.eq {K : K1} {q0 : Value} {w : World} : bodkinlaw39_ref K q0 w = codeS Tryd.prog bodkinlaw39_ref.sc (bodyOf Tryd.f11) (argsF 0 [q0]) w (retQ Tryd.prog Tryd.f11.results.toList K) := by kernel_rfl

theorem bodkinlaw39_ref.call {K : K1} {q0 : Value} {w : World} (h : bodkinlaw39_ref K q0 w) : sCall Tryd.prog 11 [q0] w K := sCall_code mixed Tryd.func11 (by kernel_rfl) rfl rfl bodkinlaw39_ref.ok bodkinlaw39_ref.eq h

abbrev bodkinlaw39_ref.n : Nat := 11

/-- 'bodkin bodkinplain.Spans' -/
def bodkinplain_Spans_L1 (K : K1) (Nx1 : List Value → World → Prop) (a0 b1 x7 : Value) (x8 : Value) (w : World) : Prop :=
  sBin Tryd.prog .lss 3 false false x8 x7 w fun x9 w =>
  sIf x9 (
    DrawS w fun C w =>
    stillS C w (fun w k => sBuiltin Tryd.prog .len [29] 3 [b1] w k) fun x13 =>
    stillS C w (fun w k => sBin Tryd.prog .geq 3 false false x8 x13 w k) fun x14 =>
    sIf x14 (
      K (.bool false) w) (
      stillS C w (fun w k => sIdxA Tryd.prog 29 a0 x8 w k) fun x18 =>
      stillS C w (fun w k => sLoad Tryd.prog 41 x18 w k) fun x19 =>
      stillS C w (fun w k => sIdxA Tryd.prog 29 b1 x8 w k) fun x22 =>
      stillS C w (fun w k => sLoad Tryd.prog 41 x22 w k) fun x23 =>
      stillS C w (fun w k => sBin Tryd.prog .neq 41 false false x19 x23 w k) fun x24 =>
      sIf x24 (
        K (.bool false) w) (
        sBin Tryd.prog .add 3 false true x8 (.int .i64 1) w fun x26 w =>
        Nx1 [x26] w))) (
    sBuiltin Tryd.prog .len [29] 3 [a0] w fun x28 w =>
    sBuiltin Tryd.prog .len [29] 3 [b1] w fun x30 w =>
    sBin Tryd.prog .eql 3 false false x28 x30 w fun x31 w =>
    K x31 w)

def bodkinplain_Spans (K : K1) (a0 b1 : Value) (w : World) : Prop :=
  sBuiltin Tryd.prog .len [29] 3 [a0] w fun x7 w =>
  LoopS [(.int .i64 0)] 1 20 w fun us _ w Nx1 =>
    bodkinplain_Spans_L1 K Nx1 a0 b1 x7 (hd us) w

def bodkinplain_Spans.sc : SC := (.seq (.reg (.op 0 .done)) (.seq (.seq (.reg (.op 0 (.op 1 (.op 2 .done)))) (.sub (.loop [8] [9, 10, 5, 11, 12, 13, 14, 15, 16, 17, 18, 19, 20, 21, 22, 23, 24, 25, 4, 26] (.seq (.reg (.op 0 .done)) (.seq (.cond .nop .nop) (.seq (.sub (.seq (.reg (.op 0 (.op 1 .done))) (.seq (.draw (.op 0 (.op 1 (.op 2 (.op 3 (.op 4 (.test 4 (.skip 5 (.skip 6 (.skip 7 (.skip 8 (.skip 9 (.skip 10 (.skip 11 (.skip 12 (.skip 13 (.op 14 .done)))))))))) (.op 5 (.op 6 (.op 7 (.op 8 (.op 9 (.op 10 (.op 11 (.op 12 (.op 13 (.op 14 .done))))))))))))))))) (.cond (.seq (.reg (.op 0 .done)) .nop) .nop)))) (.reg (.op 0 (.op 1 .done))))))))) (.seq (.reg (.op 0 (.op 1 (.op 2 (.op 3 (.op 4 (.op 5 .done))))))) .nop)))

theorem bodkinplain_Spans.ok : okC Tryd.f12.ntmps bodkinplain_Spans.sc (bodyOf Tryd.f12) = true := by kernel_rfl

theorem bodkinplain_Spans.eq {K : K1} {a0 b1 : Value} {w : World} : bodkinplain_Spans K a0 b1 w = codeS Tryd.prog bodkinplain_Spans.sc (bodyOf Tryd.f12) (argsF 0 [a0, b1]) w (retQ Tryd.prog Tryd.f12.results.toList K) := by kernel_rfl

theorem bodkinplain_Spans.call {K : K1} {a0 b1 : Value} {w : World} (h : bodkinplain_Spans K a0 b1 w) : sCall Tryd.prog 12 [a0, b1] w K := sCall_code mixed Tryd.func12 (by kernel_rfl) rfl rfl bodkinplain_Spans.ok bodkinplain_Spans.eq h

abbrev bodkinplain_Spans.n : Nat := 12

/-- '(bodkin bodkinref39.Query).All' -/
def bodkinref39_Query_All_J2 (Nx1 : List Value → World → Prop) (end6 out5 q2 x10 : Value) (x26 : Value) (w : World) : Prop :=
  sIf x26 (
    sFldA Tryd.prog 34 q2 0 w fun x28 w =>
    sLoad Tryd.prog 32 x28 w fun x29 w =>
    sBuiltin Tryd.prog .len [32] 3 [x29] w fun x30 w =>
    sBin Tryd.prog .add 3 false false x10 x30 w fun x31 w =>
    sBuild Tryd.prog 41 [(0, x10), (1, x31)] w fun x35 w =>
    sBuildSlice Tryd.prog 29 1 [(0, x35)] w fun x36 w =>
    sBuiltin Tryd.prog .append [29, 29] 29 [out5, x36] w fun x37 w =>
    sBin Tryd.prog .add 3 false true x10 (.int .i64 1) w fun x38 w =>
    Nx1 [x31, x37, x38] w) (
    sBin Tryd.prog .add 3 false true x10 (.int .i64 1) w fun x38_1 w =>
    Nx1 [end6, out5, x38_1] w)

def bodkinref39_Query_All_L1 (K : K1) (Nx1 : List Value → World → Prop) (l1 q2 x9 : Value) (end6 out5 x10 : Value) (w : World) : Prop :=
  sBin Tryd.prog .lss 3 false false x10 x9 w fun x11 w =>
  sIf x11 (
    JoinS 1 13 (fun M2 =>
      sBin Tryd.prog .geq 3 false false x10 end6 w fun x15 w =>
      sIf x15 (
        sBuiltin Tryd.prog .len [29] 3 [out5] w fun x18 w =>
        sBin Tryd.prog .lss 3 false true x18 (.int .i64 500) w fun x19 w =>
        sIf x19 (
          sLoad Tryd.prog 34 q2 w fun x22 w =>
          sCall Tryd.prog 15 [x22, l1, x10] w fun x25 w =>
          M2 [x25] w) (
          M2 [(.bool false)] w)) (
        M2 [(.bool false)] w)) fun us _ w =>
      bodkinref39_Query_All_J2 Nx1 end6 out5 q2 x10 (hd us) w) (
    K out5 w)

def bodkinref39_Query_All (K : K1) (q0 l1 : Value) (w : World) : Prop :=
  sBox Tryd.prog 34 q0 w fun q2 w =>
  sBuiltin Tryd.prog .len [32] 3 [l1] w fun x9 w =>
  LoopS [(.int .i64 0), (.slice none 0 0), (.int .i64 0)] 3 29 w fun us _ w Nx1 =>
    bodkinref39_Query_All_L1 K Nx1 l1 q2 x9 (hd us) (hd (tl us)) (hd (tl (tl us))) w

def bodkinref39_Query_All.sc : SC := (.seq (.reg (.op 0 (.op 1 .done))) (.seq (.reg (.op 0 .done)) (.seq (.reg (.op 0 .done)) (.seq (.seq (.reg (.op 0 (.op 1 (.op 2 .done)))) (.sub (.loop [6, 5, 10] [11, 12, 7, 13, 14, 15, 16, 17, 18, 19, 20, 21, 22, 23, 24, 25, 26, 27, 28, 29, 30, 31, 32, 33, 34, 35, 36, 37, 38] (.seq (.reg (.op 0 .done)) (.seq (.cond .nop .nop) (.seq (.sub (.seq (.reg (.op 0 (.op 1 .done))) (.join [26] [13, 14, 15, 16, 17, 18, 19, 20, 21, 22, 23, 24, 25] (.reg (.op 0 (.op 1 (.op 2 (.op 3 (.test 3 (.op 4 (.op 5 (.op 6 (.op 7 (.op 8 (.test 8 (.op 9 (.op 10 (.op 11 (.op 12 (.op 13 .done))))) (.skip 9 (.skip 10 (.skip 11 (.skip 12 (.op 13 .done))))))))))) (.skip 4 (.skip 5 (.skip 6 (.op 7 (.op 8 (.know 8 false (.skip 9 (.skip 10 (.skip 11 (.skip 12 (.op 13 .done))))))))))))))))) (.cond (.seq (.reg (.op 0 (.op 1 (.op 2 (.op 3 (.op 4 (.op 5 .done))))))) (.reg (.op 0 (.op 1 (.op 2 (.op 3 (.op 4 (.op 5 (.op 6 .done))))))))) .nop)))) (.reg (.op 0 (.op 1 .done))))))))) (.seq (.reg (.op 0 (.op 1 .done))) .nop)))))

theorem bodkinref39_Query_All.ok : okC Tryd.f13.ntmps bodkinref39_Query_All.sc (bodyOf Tryd.f13) = true := by kernel_rfl

theorem bodkinref39_Query_All.eq {K : K1} {q0 l1 : Value} {w : World} : bodkinref39_Query_All K q0 l1 w = codeS Tryd.prog bodkinref39_Query_All.sc (bodyOf Tryd.f13) (argsF 0 [q0, l1]) w (retQ Tryd.prog Tryd.f13.results.toList K) := by kernel_rfl

theorem bodkinref39_Query_All.call {K : K1} {q0 l1 : Value} {w : World} (h : bodkinref39_Query_All K q0 l1 w) : sCall Tryd.prog 13 [q0, l1] w K := sCall_code mixed Tryd.func13 (by kernel_rfl) rfl rfl bodkinref39_Query_All.ok bodkinref39_Query_All.eq h

abbrev bodkinref39_Query_All.n : Nat := 13

/-- 'bodkin bodkinref01.Decode' -/
def bodkinref01_Decode_L1 (K : K1) (Nx1 : List Value → World → Prop) (s0 : Value) (out3 at4 : Value) (w : World) : Prop :=
  sBuiltin Tryd.prog .len [9] 3 [s0] w fun x8 w =>
  sBin Tryd.prog .lss 3 false false at4 x8 w fun x9 w =>
  sIf x9 (
    sCall Tryd.prog 27 [s0, at4] w fun x12 w =>
    sAlloc Tryd.prog 66 w fun x5 w =>
    sStore Tryd.prog 66 x5 x12 w fun w =>
    sFldA Tryd.prog 66 x5 0 w fun x14 w =>
    sLoad Tryd.prog 21 x14 w fun x15 w =>
    sBuildSlice Tryd.prog 32 1 [(0, x15)] w fun x16 w =>
    sBuiltin Tryd.prog .append [32, 32] 32 [out3, x16] w fun x17 w =>
    sFldA Tryd.prog 66 x5 1 w fun x19 w =>
    sLoad Tryd.prog 3 x19 w fun x20 w =>
    sBin Tryd.prog .add 3 false false at4 x20 w fun x21 w =>
    Nx1 [x17, x21] w) (
    K out3 w)

def bodkinref01_Decode (K : K1) (s0 : Value) (w : World) : Prop :=
  LoopS [(.slice none 0 0), (.int .i64 0)] 2 17 w fun us _ w Nx1 =>
    bodkinref01_Decode_L1 K Nx1 s0 (hd us) (hd (tl us)) w

def bodkinref01_Decode.sc : SC := (.seq (.reg (.op 0 .done)) (.seq (.reg (.op 0 .done)) (.seq (.reg (.op 0 .done)) (.seq (.sub (.loop [3, 4] [6, 7, 8, 9, 10, 11, 12, 5, 13, 14, 15, 16, 17, 18, 19, 20, 21] (.seq (.seq (.reg (.op 0 (.op 1 (.op 2 (.op 3 .done))))) (.cond .nop .nop)) (.sub (.seq (.reg (.op 0 (.op 1 (.op 2 (.op 3 (.op 4 .done)))))) (.seq (.reg (.op 0 (.op 1 (.op 2 (.op 3 (.op 4 (.op 5 .done))))))) (.reg (.op 0 (.op 1 (.op 2 (.op 3 (.op 4 .done)))))))))))) (.seq (.reg (.op 0 (.op 1 .done))) .nop)))))

theorem bodkinref01_Decode.ok : okC Tryd.f14.ntmps bodkinref01_Decode.sc (bodyOf Tryd.f14) = true := by kernel_rfl

theorem bodkinref01_Decode.eq {K : K1} {s0 : Value} {w : World} : bodkinref01_Decode K s0 w = codeS Tryd.prog bodkinref01_Decode.sc (bodyOf Tryd.f14) (argsF 0 [s0]) w (retQ Tryd.prog Tryd.f14.results.toList K) := by kernel_rfl

theorem bodkinref01_Decode.call {K : K1} {s0 : Value} {w : World} (h : bodkinref01_Decode K s0 w) : sCall Tryd.prog 14 [s0] w K := sCall_code mixed Tryd.func14 (by kernel_rfl) rfl rfl bodkinref01_Decode.ok bodkinref01_Decode.eq h

abbrev bodkinref01_Decode.n : Nat := 14

/-- '(bodkin bodkinref39.Query).Found' -/
def bodkinref39_Query_Found_L1 (K : K1) (Nx1 : List Value → World → Prop) (at2 l1 q3 x13 x25 x26 : Value) (x27 : Value) (w : World) : Prop :=
  sBin Tryd.prog .lss 3 false false x27 x26 w fun x28 w =>
  sIf x28 (
    sIdxA Tryd.prog 32 x25 x27 w fun x30 w =>
    sLoad Tryd.prog 21 x30 w fun x31 w =>
    sBin Tryd.prog .add 3 false false at2 x27 w fun x35 w =>
    sIdxA Tryd.prog 32 l1 x35 w fun x36 w =>
    sLoad Tryd.prog 21 x36 w fun x37 w =>
    sBin Tryd.prog .neq 21 false false x37 x31 w fun x40 w =>
    sIf x40 (
      sFldA Tryd.prog 34 q3 1 w fun x42 w =>
      sLoad Tryd.prog 4 x42 w fun x43 w =>
      sIf x43 (
        sCall Tryd.prog 28 [x37] w fun x46 w =>
        sCall Tryd.prog 28 [x31] w fun x48 w =>
        sBin Tryd.prog .eql 21 false false x46 x48 w fun x49 w =>
        sUn Tryd.prog .not x49 w fun x51 w =>
        sIf x51 (
          K (.bool false) w) (
          sBin Tryd.prog .add 3 false true x27 (.int .i64 1) w fun x53 w =>
          Nx1 [x53] w)) (
        sUn Tryd.prog .not (.bool false) w fun x51_1 w =>
        sIf x51_1 (
          K (.bool false) w) (
          sBin Tryd.prog .add 3 false true x27 (.int .i64 1) w fun x53_1 w =>
          Nx1 [x53_1] w))) (
      sBin Tryd.prog .add 3 false true x27 (.int .i64 1) w fun x53_2 w =>
      Nx1 [x53_2] w)) (
    sFldA Tryd.prog 34 q3 2 w fun x54 w =>
    sLoad Tryd.prog 4 x54 w fun x55 w =>
    sUn Tryd.prog .not x55 w fun x56 w =>
    sIf x56 (
      K (.bool true) w) (
      sFldA Tryd.prog 34 q3 0 w fun x57 w =>
      sLoad Tryd.prog 32 x57 w fun x58 w =>
      sCall Tryd.prog 29 [x58, (.int .i64 0)] w fun x59 w =>
      sIf x59 (
        sBin Tryd.prog .sub 3 false true at2 (.int .i64 1) w fun x63 w =>
        sCall Tryd.prog 29 [l1, x63] w fun x64 w =>
        sUn Tryd.prog .not x64 w fun x66 w =>
        sIf x66 (
          sFldA Tryd.prog 34 q3 0 w fun x68 w =>
          sLoad Tryd.prog 32 x68 w fun x69 w =>
          sBin Tryd.prog .sub 3 false true x13 (.int .i64 1) w fun x71 w =>
          sCall Tryd.prog 29 [x69, x71] w fun x72 w =>
          sIf x72 (
            sBin Tryd.prog .add 3 false false at2 x13 w fun x77 w =>
            sCall Tryd.prog 29 [l1, x77] w fun x78 w =>
            sUn Tryd.prog .not x78 w fun x80 w =>
            K x80 w) (
            sUn Tryd.prog .not (.bool false) w fun x80_1 w =>
            K x80_1 w)) (
          K (.bool false) w)) (
        sUn Tryd.prog .not (.bool false) w fun x66_1 w =>
        sIf x66_1 (
          sFldA Tryd.prog 34 q3 0 w fun x68_1 w =>
          sLoad Tryd.prog 32 x68_1 w fun x69_1 w =>
          sBin Tryd.prog .sub 3 false true x13 (.int .i64 1) w fun x71_1 w =>
          sCall Tryd.prog 29 [x69_1, x71_1] w fun x72_1 w =>
          sIf x72_1 (
            sBin Tryd.prog .add 3 false false at2 x13 w fun x77_1 w =>
            sCall Tryd.prog 29 [l1, x77_1] w fun x78_1 w =>
            sUn Tryd.prog .not x78_1 w fun x80_2 w =>
            K x80_2 w) (
            sUn Tryd.prog .not (.bool false) w fun x80_3 w =>
            K x80_3 w)) (
          K (.bool false) w))))

def bodkinref39_Query_Found (K : K1) (q0 l1 at2 : Value) (w : World) : Prop :=
  sBox Tryd.prog 34 q0 w fun q3 w =>
  sFldA Tryd.prog 34 q3 0 w fun x11 w =>
  sLoad Tryd.prog 32 x11 w fun x12 w =>
  sBuiltin Tryd.prog .len [32] 3 [x12] w fun x13 w =>
  sBin Tryd.prog .lss 3 false true at2 (.int .i64 0) w fun x15 w =>
  sIf x15 (
    K (.bool false) w) (
    sBuiltin Tryd.prog .len [32] 3 [l1] w fun x19 w =>
    sBin Tryd.prog .sub 3 false false x19 x13 w fun x21 w =>
    sBin Tryd.prog .gtr 3 false false at2 x21 w fun x22 w =>
    sIf x22 (
      K (.bool false) w) (
      sFldA Tryd.prog 34 q3 0 w fun x24 w =>
      sLoad Tryd.prog 32 x24 w fun x25 w =>
      sBuiltin Tryd.prog .len [32] 3 [x25] w fun x26 w =>
      LoopS [(.int .i64 0)] 1 30 w fun us _ w Nx1 =>
        bodkinref39_Query_Found_L1 K Nx1 at2 l1 q3 x13 x25 x26 (hd us) w))

def bodkinref39_Query_Found.sc : SC := (.seq (.reg (.op 0 (.op 1 .done))) (.seq (.reg (.op 0 (.op 1 (.op 2 (.op 3 .done))))) (.seq (.seq (.reg (.op 0 (.op 1 (.op 2 (.test 2 (.skip 3 (.skip 4 (.skip 5 (.skip 6 (.skip 7 (.skip 8 (.op 9 .done))))))) (.op 3 (.op 4 (.op 5 (.op 6 (.op 7 (.op 8 (.op 9 .done)))))))))))) (.cond (.seq (.reg (.op 0 .done)) .nop) .nop)) (.seq (.seq (.reg (.op 0 (.op 1 (.op 2 (.op 3 .done))))) (.sub (.loop [27] [28, 29, 30, 31, 8, 9, 32, 33, 34, 35, 36, 37, 10, 38, 39, 40, 41, 42, 43, 44, 45, 46, 47, 48, 49, 50, 51, 52, 6, 53] (.seq (.reg (.op 0 .done)) (.seq (.cond .nop .nop) (.seq (.sub (.seq (.reg (.op 0 (.op 1 (.op 2 (.op 3 (.op 4 .done)))))) (.seq (.reg (.op 0 (.op 1 (.op 2 (.op 3 (.op 4 (.op 5 (.op 6 .done)))))))) (.seq (.reg (.op 0 (.op 1 (.op 2 (.op 3 (.test 3 (.op 4 (.op 5 (.op 6 (.test 6 (.op 7 (.op 8 (.op 9 (.op 10 (.op 11 (.op 12 (.op 13 (.op 14 .done)))))))) (.skip 7 (.skip 8 (.skip 9 (.skip 10 (.skip 11 (.op 12 (.op 13 (.op 14 .done)))))))))))) (.skip 4 (.skip 5 (.skip 6 (.skip 7 (.skip 8 (.skip 9 (.skip 10 (.skip 11 (.skip 12 (.skip 13 (.op 14 .done))))))))))))))))) (.cond (.seq (.reg (.op 0 .done)) .nop) .nop))))) (.reg (.op 0 (.op 1 .done))))))))) (.seq (.seq (.reg (.op 0 (.op 1 (.op 2 .done)))) (.cond (.seq (.reg (.op 0 .done)) .nop) .nop)) (.seq (.reg (.op 0 (.op 1 (.op 2 (.op 3 (.test 3 (.op 4 (.op 5 (.op 6 (.op 7 (.op 8 (.op 9 (.op 10 (.test 10 (.op 11 (.op 12 (.op 13 (.op 14 (.op 15 (.op 16 (.test 16 (.op 17 (.op 18 (.op 19 (.op 20 (.op 21 (.op 22 (.op 23 (.op 24 (.op 25 .done))))))))) (.skip 17 (.skip 18 (.skip 19 (.skip 20 (.skip 21 (.op 22 (.op 23 (.op 24 (.op 25 .done)))))))))))))))) (.skip 11 (.skip 12 (.skip 13 (.skip 14 (.skip 15 (.skip 16 (.skip 17 (.skip 18 (.skip 19 (.skip 20 (.skip 21 (.skip 22 (.skip 23 (.op 24 (.op 25 .done))))))))))))))))))))))) (.skip 4 (.skip 5 (.skip 6 (.skip 7 (.op 8 (.op 9 (.op 10 (.test 10 (.op 11 (.op 12 (.op 13 (.op 14 (.op 15 (.op 16 (.test 16 (.op 17 (.op 18 (.op 19 (.op 20 (.op 21 (.op 22 (.op 23 (.op 24 (.op 25 .done))))))))) (.skip 17 (.skip 18 (.skip 19 (.skip 20 (.skip 21 (.op 22 (.op 23 (.op 24 (.op 25 .done)))))))))))))))) (.skip 11 (.skip 12 (.skip 13 (.skip 14 (.skip 15 (.skip 16 (.skip 17 (.skip 18 (.skip 19 (.skip 20 (.skip 21 (.skip 22 (.skip 23 (.op 24 (.op 25 .done))))))))))))))))))))))))))))) .nop))))))

theorem bodkinref39_Query_Found.ok : okC Tryd.f15.ntmps bodkinref39_Query_Found.sc (bodyOf Tryd.f15) = true := by kernel_rfl

theorem bodkinref39_Query_Found.eq {K : K1} {q0 l1 at2 : Value} {w : World} : bodkinref39_Query_Found K q0 l1 at2 w = codeS Tryd.prog bodkinref39_Query_Found.sc (bodyOf Tryd.f15) (argsF 0 [q0, l1, at2]) w (retQ Tryd.prog Tryd.f15.results.toList K) := by kernel_rfl

theorem bodkinref39_Query_Found.call {K : K1} {q0 l1 at2 : Value} {w : World} (h : bodkinref39_Query_Found K q0 l1 at2 w) : sCall Tryd.prog 15 [q0, l1, at2] w K := sCall_code mixed Tryd.func15 (by kernel_rfl) rfl rfl bodkinref39_Query_Found.ok bodkinref39_Query_Found.eq h

abbrev bodkinref39_Query_Found.n : Nat := 15

/-- 'bodkin find.Next' -/
def find_Next (K : K1) (l0 at1 : Value) (w : World) : Prop :=
  sBox Tryd.prog 3 at1 w fun at3 w =>
  sAlloc Tryd.prog 41 w fun x4 w =>
  sBuiltin Tryd.prog .len [29] 3 [l0] w fun x8 w =>
  sBin Tryd.prog .eql 3 false true x8 (.int .i64 0) w fun x9 w =>
  sIf x9 (
    sBuild Tryd.prog 41 [] w fun x10 w =>
    sStore Tryd.prog 41 x4 x10 w fun w =>
    sLoad Tryd.prog 41 x4 w fun v w' => w' = w ∧ K (.tuple #[v, (.bool false)]) w) (
    sFunc Tryd.prog (.func 31) [] [at3] w fun x12 w =>
    sCall Tryd.prog 30 [l0, x12] w fun x13 w =>
    sBuiltin Tryd.prog .max [3, 3] 3 [x13, (.int .i64 0)] w fun x16 w =>
    sIdxA Tryd.prog 29 l0 x16 w fun x17 w =>
    sLoad Tryd.prog 41 x17 w fun x18 w =>
    sStore Tryd.prog 41 x4 x18 w fun w =>
    sLoad Tryd.prog 41 x4 w fun v w' => w' = w ∧ K (.tuple #[v, (.bool true)]) w)

def find_Next.sc : SC := (.seq (.reg (.op 0 (.op 1 (.op 2 .done)))) (.seq (.seq (.reg (.op 0 (.op 1 (.op 2 .done)))) (.cond (.seq (.reg (.op 0 (.op 1 (.op 2 .done)))) .nop) .nop)) (.seq (.reg (.op 0 (.op 1 (.op 2 (.op 3 .done))))) (.seq (.reg (.op 0 (.op 1 (.op 2 (.op 3 (.op 4 (.op 5 (.op 6 .done)))))))) .nop))))

theorem find_Next.ok : okC Tryd.f16.ntmps find_Next.sc (bodyOf Tryd.f16) = true := by kernel_rfl

theorem find_Next.eq {K : K1} {l0 at1 : Value} {w : World} : find_Next K l0 at1 w = codeS Tryd.prog find_Next.sc (bodyOf Tryd.f16) (argsF 0 [l0, at1]) w (retQ Tryd.prog Tryd.f16.results.toList K) := by kernel_rfl

theorem find_Next.call {K : K1} {l0 at1 : Value} {w : World} (h : find_Next K l0 at1 w) : sCall Tryd.prog 16 [l0, at1] w K := sCall_code mixed Tryd.func16 (by kernel_rfl) rfl rfl find_Next.ok find_Next.eq h

abbrev find_Next.n : Nat := 16

/-- 'bodkin find.Last' -/
def find_Last_L1 (K : K1) (Nx1 : List Value → World → Prop) (at1 l0 x4 : Value) (i6 : Value) (w : World) : Prop :=
  sBin Tryd.prog .geq 3 false true i6 (.int .i64 0) w fun x11 w =>
  sIf x11 (
    sIdxA Tryd.prog 29 l0 i6 w fun x16 w =>
    sFldA Tryd.prog 41 x16 1 w fun x17 w =>
    sLoad Tryd.prog 3 x17 w fun x18 w =>
    sBin Tryd.prog .leq 3 false false x18 at1 w fun x20 w =>
    sIf x20 (
      sIdxA Tryd.prog 29 l0 i6 w fun x23 w =>
      sLoad Tryd.prog 41 x23 w fun x24 w =>
      sStore Tryd.prog 41 x4 x24 w fun w =>
      sLoad Tryd.prog 41 x4 w fun v w' => w' = w ∧ K (.tuple #[v, (.bool true)]) w) (
      sBin Tryd.prog .sub 3 false true i6 (.int .i64 1) w fun x13 w =>
      Nx1 [x13] w)) (
    sBuiltin Tryd.prog .len [29] 3 [l0] w fun x26 w =>
    sBin Tryd.prog .eql 3 false true x26 (.int .i64 0) w fun x27 w =>
    sIf x27 (
      sBuild Tryd.prog 41 [] w fun x28 w =>
      sStore Tryd.prog 41 x4 x28 w fun w =>
      sLoad Tryd.prog 41 x4 w fun v w' => w' = w ∧ K (.tuple #[v, (.bool false)]) w) (
      sBuiltin Tryd.prog .len [29] 3 [l0] w fun x31 w =>
      sBin Tryd.prog .sub 3 false true x31 (.int .i64 1) w fun x32 w =>
      sIdxA Tryd.prog 29 l0 x32 w fun x33 w =>
      sLoad Tryd.prog 41 x33 w fun x34 w =>
      sStore Tryd.prog 41 x4 x34 w fun w =>
      sLoad Tryd.prog 41 x4 w fun v w' => w' = w ∧ K (.tuple #[v, (.bool true)]) w))

def find_Last (K : K1) (l0 at1 : Value) (w : World) : Prop :=
  sAlloc Tryd.prog 41 w fun x4 w =>
  sBuiltin Tryd.prog .len [29] 3 [l0] w fun x8 w =>
  sBin Tryd.prog .sub 3 false true x8 (.int .i64 1) w fun x9 w =>
  LoopS [x9] 1 16 w fun us _ w Nx1 =>
    find_Last_L1 K Nx1 at1 l0 x4 (hd us) w

def find_Last.sc : SC := (.seq (.reg (.op 0 (.op 1 .done))) (.seq (.seq (.reg (.op 0 (.op 1 (.op 2 (.op 3 .done))))) (.sub (.loop [6] [10, 11, 14, 15, 16, 17, 18, 19, 20, 21, 22, 23, 24, 5, 12, 13] (.seq (.seq (.reg (.op 0 (.op 1 .done))) (.cond .nop .nop)) (.seq (.sub (.seq (.reg (.op 0 (.op 1 (.op 2 (.op 3 (.op 4 (.op 5 (.op 6 .done)))))))) (.cond (.seq (.reg (.op 0 (.op 1 (.op 2 (.op 3 (.op 4 (.op 5 .done))))))) .nop) .nop))) (.reg (.op 0 (.op 1 (.op 2 .done))))))))) (.seq (.seq (.reg (.op 0 (.op 1 (.op 2 .done)))) (.cond (.seq (.reg (.op 0 (.op 1 (.op 2 .done)))) .nop) .nop)) (.seq (.reg (.op 0 (.op 1 (.op 2 (.op 3 (.op 4 (.op 5 (.op 6 (.op 7 .done))))))))) .nop))))

theorem find_Last.ok : okC Tryd.f17.ntmps find_Last.sc (bodyOf Tryd.f17) = true := by kernel_rfl

theorem find_Last.eq {K : K1} {l0 at1 : Value} {w : World} : find_Last K l0 at1 w = codeS Tryd.prog find_Last.sc (bodyOf Tryd.f17) (argsF 0 [l0, at1]) w (retQ Tryd.prog Tryd.f17.results.toList K) := by kernel_rfl

theorem find_Last.call {K : K1} {l0 at1 : Value} {w : World} (h : find_Last K l0 at1 w) : sCall Tryd.prog 17 [l0, at1] w K := sCall_code mixed Tryd.func17 (by kernel_rfl) rfl rfl find_Last.ok find_Last.eq h

abbrev find_Last.n : Nat := 17

/-- 'bodkin find.Replace' -/
def find_Replace_L1 (K : K1) (Nx1 : List Value → World → Prop) (text1 x12 x13 : Value) (out5 x14 : Value) (w : World) : Prop :=
  sBin Tryd.prog .lss 3 false false x14 x13 w fun x15 w =>
  sIf x15 (
    sIdxA Tryd.prog 29 x12 x14 w fun x16 w =>
    sLoad Tryd.prog 41 x16 w fun x17 w =>
    sAlloc Tryd.prog 41 w fun x7 w =>
    sStore Tryd.prog 41 x7 x17 w fun w =>
    sFldA Tryd.prog 41 x7 0 w fun x19 w =>
    sLoad Tryd.prog 3 x19 w fun x20 w =>
    sFldA Tryd.prog 41 x7 1 w fun x21 w =>
    sLoad Tryd.prog 3 x21 w fun x22 w =>
    sBuild Tryd.prog 49 [(0, x20), (1, x22), (2, text1)] w fun x24 w =>
    sBuildSlice Tryd.prog 46 1 [(0, x24)] w fun x25 w =>
    sBuiltin Tryd.prog .append [46, 46] 46 [out5, x25] w fun x26 w =>
    sBin Tryd.prog .add 3 false true x14 (.int .i64 1) w fun x27 w =>
    Nx1 [x26, x27] w) (
    K out5 w)

def find_Replace (K : K1) (l0 text1 : Value) (w : World) : Prop :=
  sBuiltin Tryd.prog .len [29] 3 [l0] w fun x10 w =>
  sBuiltin Tryd.prog .min [3, 3] 3 [x10, (.int .i64 64)] w fun x11 w =>
  sSlice Tryd.prog 29 l0 none (some x11) none w fun x12 w =>
  sBuiltin Tryd.prog .len [29] 3 [x12] w fun x13 w =>
  LoopS [(.slice none 0 0), (.int .i64 0)] 2 14 w fun us _ w Nx1 =>
    find_Replace_L1 K Nx1 text1 x12 x13 (hd us) (hd (tl us)) w

def find_Replace.sc : SC := (.seq (.reg (.op 0 .done)) (.seq (.reg (.op 0 .done)) (.seq (.seq (.reg (.op 0 (.op 1 (.op 2 (.op 3 (.op 4 (.op 5 (.op 6 .done)))))))) (.sub (.loop [5, 14] [15, 16, 17, 7, 18, 19, 20, 21, 22, 23, 24, 25, 26, 27] (.seq (.reg (.op 0 .done)) (.seq (.cond .nop .nop) (.seq (.sub (.seq (.reg (.op 0 (.op 1 (.op 2 (.op 3 .done))))) (.reg (.op 0 (.op 1 (.op 2 (.op 3 (.op 4 (.op 5 (.op 6 (.op 7 (.op 8 (.op 9 .done))))))))))))) (.reg (.op 0 (.op 1 .done))))))))) (.seq (.reg (.op 0 (.op 1 .done))) .nop))))

theorem find_Replace.ok : okC Tryd.f18.ntmps find_Replace.sc (bodyOf Tryd.f18) = true := by kernel_rfl

theorem find_Replace.eq {K : K1} {l0 text1 : Value} {w : World} : find_Replace K l0 text1 w = codeS Tryd.prog find_Replace.sc (bodyOf Tryd.f18) (argsF 0 [l0, text1]) w (retQ Tryd.prog Tryd.f18.results.toList K) := by kernel_rfl

theorem find_Replace.call {K : K1} {l0 text1 : Value} {w : World} (h : find_Replace K l0 text1 w) : sCall Tryd.prog 18 [l0, text1] w K := sCall_code mixed Tryd.func18 (by kernel_rfl) rfl rfl find_Replace.ok find_Replace.eq h

abbrev find_Replace.n : Nat := 18

/-- 'bodkin utf.Decode' -/
def utf_Decode_L1 (K : K1) (Nx1 : List Value → World → Prop) (x7 : Value) (out3 : Value) (w : World) : Prop :=
  sNext Tryd.prog x7 true 0 w fun x8 w =>
  sExtract x8 0 w fun x9 w =>
  sIf x9 (
    sExtract x8 2 w fun x10 w =>
    sBuildSlice Tryd.prog 32 1 [(0, x10)] w fun x13 w =>
    sBuiltin Tryd.prog .append [32, 32] 32 [out3, x13] w fun x14 w =>
    Nx1 [x14] w) (
    K out3 w)

def utf_Decode (K : K1) (s0 : Value) (w : World) : Prop :=
  sRange Tryd.prog 9 s0 w fun x7 w =>
  LoopS [(.slice none 0 0)] 1 8 w fun us _ w Nx1 =>
    utf_Decode_L1 K Nx1 x7 (hd us) w

def utf_Decode.sc : SC := (.seq (.reg (.op 0 .done)) (.seq (.reg (.op 0 .done)) (.seq (.seq (.reg (.op 0 (.op 1 .done))) (.sub (.loop [3] [8, 9, 10, 5, 11, 12, 13, 14] (.seq (.reg (.op 0 (.op 1 .done))) (.seq (.cond .nop .nop) (.sub (.seq (.reg (.op 0 (.op 1 .done))) (.reg (.op 0 (.op 1 (.op 2 (.op 3 (.op 4 .done))))))))))))) (.seq (.reg (.op 0 (.op 1 .done))) .nop))))

theorem utf_Decode.ok : okC Tryd.f19.ntmps utf_Decode.sc (bodyOf Tryd.f19) = true := by kernel_rfl

theorem utf_Decode.eq {K : K1} {s0 : Value} {w : World} : utf_Decode K s0 w = codeS Tryd.prog utf_Decode.sc (bodyOf Tryd.f19) (argsF 0 [s0]) w (retQ Tryd.prog Tryd.f19.results.toList K) := by kernel_rfl

theorem utf_Decode.call {K : K1} {s0 : Value} {w : World} (h : utf_Decode K s0 w) : sCall Tryd.prog 19 [s0] w K := sCall_code mixed Tryd.func19 (by kernel_rfl) rfl rfl utf_Decode.ok utf_Decode.eq h

abbrev utf_Decode.n : Nat := 19

/-- 'bodkin tree.New' -/
def tree_New_L1 (K : K1) (Nx1 : List Value → World → Prop) (l0 x13 : Value) (root4 x14 : Value) (w : World) : Prop :=
  sBin Tryd.prog .lss 3 false false x14 x13 w fun x15 w =>
  sIf x15 (
    sIdxA Tryd.prog 54 l0 x14 w fun x17 w =>
    sLoad Tryd.prog 73 x17 w fun x18 w =>
    sAlloc Tryd.prog 73 w fun x6 w =>
    sStore Tryd.prog 73 x6 x18 w fun w =>
    sLoad Tryd.prog 73 x6 w fun x19 w =>
    sCall Tryd.prog 32 [x19] w fun x20 w =>
    sBin Tryd.prog .neq 26 false true x20 (.int .i64 0) w fun x22 w =>
    sIf x22 (
      K (.tuple #[(.pointer none), x20]) w) (
      sBin Tryd.prog .rem 3 false true x14 (.int .i64 8) w fun x25 w =>
      sBin Tryd.prog .eql 3 false true x25 (.int .i64 0) w fun x26 w =>
      sIf x26 (
        sBuiltin Tryd.prog .len [54] 3 [l0] w fun x28 w =>
        sBin Tryd.prog .sub 3 false false x28 x14 w fun x30 w =>
        sBuiltin Tryd.prog .min [3, 3] 3 [(.int .i64 8), x30] w fun x31 w =>
        sMake Tryd.prog 54 x31 x31 w fun x32 w =>
        sSlice Tryd.prog 54 l0 (some x14) none none w fun x36 w =>
        sBuiltin Tryd.prog .copy [54, 54] 3 [x32, x36] w fun x37 w =>
        sCall Tryd.prog 34 [x32] w fun x40 w =>
        sIface Tryd.prog 76 x40 w fun x41 w =>
        sCall Tryd.prog 33 [root4, x41] w fun x42 w =>
        sBin Tryd.prog .add 3 false true x14 (.int .i64 1) w fun x43 w =>
        Nx1 [x42, x43] w) (
        sBin Tryd.prog .add 3 false true x14 (.int .i64 1) w fun x43_1 w =>
        Nx1 [root4, x43_1] w))) (
    sBuild Tryd.prog 79 [(0, root4)] w fun x45 w =>
    sBox Tryd.prog 79 x45 w fun x46 w =>
    K (.tuple #[x46, (.int .i64 0)]) w)

def tree_New (K : K1) (l0 : Value) (w : World) : Prop :=
  sBuiltin Tryd.prog .len [54] 3 [l0] w fun x10 w =>
  sBin Tryd.prog .gtr 3 false true x10 (.int .i64 30000) w fun x11 w =>
  sIf x11 (
    K (.tuple #[(.pointer none), (.int .i64 5)]) w) (
    sBuiltin Tryd.prog .len [54] 3 [l0] w fun x13 w =>
    LoopS [.nilIface, (.int .i64 0)] 2 35 w fun us _ w Nx1 =>
      tree_New_L1 K Nx1 l0 x13 (hd us) (hd (tl us)) w)

def tree_New.sc : SC := (.seq (.reg (.op 0 (.op 1 .done))) (.seq (.seq (.reg (.op 0 (.op 1 (.op 2 .done)))) (.cond (.seq (.reg (.op 0 (.op 1 .done))) .nop) .nop)) (.seq (.reg (.op 0 .done)) (.seq (.seq (.reg (.op 0 (.op 1 (.op 2 .done)))) (.sub (.loop [4, 14] [15, 16, 17, 18, 6, 5, 19, 20, 7, 21, 22, 23, 2, 3, 24, 25, 26, 27, 28, 29, 30, 31, 32, 8, 33, 34, 35, 36, 37, 38, 39, 40, 41, 42, 43] (.seq (.reg (.op 0 .done)) (.seq (.cond .nop .nop) (.seq (.sub (.seq (.reg (.op 0 (.op 1 (.op 2 (.op 3 (.op 4 (.op 5 .done))))))) (.seq (.seq (.reg (.op 0 (.op 1 (.op 2 .done)))) (.seq (.reg (.op 0 (.op 1 .done))) (.cond (.seq (.reg (.op 0 (.op 1 (.op 2 .done)))) .nop) .nop))) (.seq (.reg (.op 0 (.op 1 (.op 2 .done)))) (.cond (.seq (.reg (.op 0 (.op 1 (.op 2 (.op 3 (.op 4 (.op 5 (.op 6 .done)))))))) (.seq (.reg (.op 0 (.op 1 (.op 2 (.op 3 (.op 4 .done)))))) (.reg (.op 0 (.op 1 (.op 2 (.op 3 (.op 4 (.op 5 .done))))))))) .nop))))) (.reg (.op 0 (.op 1 .done))))))))) (.seq (.reg (.op 0 (.op 1 (.op 2 (.op 3 (.op 4 .done)))))) .nop)))))

theorem tree_New.ok : okC Tryd.f20.ntmps tree_New.sc (bodyOf Tryd.f20) = true := by kernel_rfl

theorem tree_New.eq {K : K1} {l0 : Value} {w : World} : tree_New K l0 w = codeS Tryd.prog tree_New.sc (bodyOf Tryd.f20) (argsF 0 [l0]) w (retQ Tryd.prog Tryd.f20.results.toList K) := by kernel_rfl

theorem tree_New.call {K : K1} {l0 : Value} {w : World} (h : tree_New K l0 w) : sCall Tryd.prog 20 [l0] w K := sCall_code mixed Tryd.func20 (by kernel_rfl) rfl rfl tree_New.ok tree_New.eq h

abbrev tree_New.n : Nat := 20

/-- 'bodkin rope.cut' -/
def rope_cut_L1 (K : K1) (Nx1 : List Value → World → Prop) (out3 l0_1 k4 : Value) (w : World) : Prop :=
  sBin Tryd.prog .gtr 3 false true k4 (.int .i64 0) w fun x12 w =>
  sIf x12 (
    sBuiltin Tryd.prog .len [32] 3 [l0_1] w fun x16 w =>
    sBin Tryd.prog .quo 3 false false x16 k4 w fun x18 w =>
    sSlice Tryd.prog 32 l0_1 none (some x18) none w fun x22 w =>
    sCall Tryd.prog 35 [x22] w fun x23 w =>
    sBuildSlice Tryd.prog 54 1 [(0, x23)] w fun x24 w =>
    sBuiltin Tryd.prog .append [54, 54] 54 [out3, x24] w fun x25 w =>
    sSlice Tryd.prog 32 l0_1 (some x18) none none w fun x28 w =>
    sBin Tryd.prog .sub 3 false true k4 (.int .i64 1) w fun x14 w =>
    Nx1 [x25, x28, x14] w) (
    K out3 w)

def rope_cut (K : K1) (l0 : Value) (w : World) : Prop :=
  sBuiltin Tryd.prog .len [32] 3 [l0] w fun x7 w =>
  sBin Tryd.prog .add 3 false true x7 (.int .i64 16) w fun x8 w =>
  sBin Tryd.prog .sub 3 false true x8 (.int .i64 1) w fun x9 w =>
  sBin Tryd.prog .quo 3 false true x9 (.int .i64 16) w fun x10 w =>
  LoopS [(.slice none 0 0), l0, x10] 3 19 w fun us _ w Nx1 =>
    rope_cut_L1 K Nx1 (hd us) (hd (tl us)) (hd (tl (tl us))) w

def rope_cut.sc : SC := (.seq (.reg (.op 0 .done)) (.seq (.reg (.op 0 .done)) (.seq (.seq (.reg (.op 0 (.op 1 (.op 2 (.op 3 (.op 4 (.op 5 .done))))))) (.sub (.loop [3, 0, 4] [11, 12, 15, 16, 17, 18, 5, 19, 20, 21, 22, 23, 24, 25, 26, 27, 28, 13, 14] (.seq (.seq (.reg (.op 0 (.op 1 .done))) (.cond .nop .nop)) (.seq (.sub (.seq (.reg (.op 0 (.op 1 (.op 2 (.op 3 (.op 4 .done)))))) (.seq (.reg (.op 0 (.op 1 (.op 2 (.op 3 (.op 4 (.op 5 (.op 6 (.op 7 .done))))))))) (.reg (.op 0 (.op 1 (.op 2 (.op 3 .done)))))))) (.reg (.op 0 (.op 1 (.op 2 .done))))))))) (.seq (.reg (.op 0 (.op 1 .done))) .nop))))

theorem rope_cut.ok : okC Tryd.f21.ntmps rope_cut.sc (bodyOf Tryd.f21) = true := by kernel_rfl

theorem rope_cut.eq {K : K1} {l0 : Value} {w : World} : rope_cut K l0 w = codeS Tryd.prog rope_cut.sc (bodyOf Tryd.f21) (argsF 0 [l0]) w (retQ Tryd.prog Tryd.f21.results.toList K) := by kernel_rfl

theorem rope_cut.call {K : K1} {l0 : Value} {w : World} (h : rope_cut K l0 w) : sCall Tryd.prog 21 [l0] w K := sCall_code mixed Tryd.func21 (by kernel_rfl) rfl rfl rope_cut.ok rope_cut.eq h

abbrev rope_cut.n : Nat := 21

/-- '(*bodkin rope.Rope).Text' -/
def rope_Rope_Text (K : K1) (r0 : Value) (w : World) : Prop :=
  sCall Tryd.prog 37 [r0] w fun x4 w =>
  sCall Tryd.prog 36 [x4, (.string ⟨#[]⟩)] w fun x5 w =>
  K x5 w

def rope_Rope_Text.sc : SC := (.seq (.reg (.op 0 .done)) (.seq (.reg (.op 0 (.op 1 (.op 2 (.op 3 .done))))) .nop))

theorem rope_Rope_Text.ok : okC Tryd.f22.ntmps rope_Rope_Text.sc (bodyOf Tryd.f22) = true := by kernel_rfl

theorem rope_Rope_Text.eq {K : K1} {r0 : Value} {w : World} : rope_Rope_Text K r0 w = codeS Tryd.prog rope_Rope_Text.sc (bodyOf Tryd.f22) (argsF 0 [r0]) w (retQ Tryd.prog Tryd.f22.results.toList K) := by kernel_rfl

theorem rope_Rope_Text.call {K : K1} {r0 : Value} {w : World} (h : rope_Rope_Text K r0 w) : sCall Tryd.prog 22 [r0] w K := sCall_code mixed Tryd.func22 (by kernel_rfl) rfl rfl rope_Rope_Text.ok rope_Rope_Text.eq h

abbrev rope_Rope_Text.n : Nat := 22

/-- 'bodkin find.All$1' -/
def find_All_1 (K : K1) (a0 b1 : Value) (w : World) : Prop :=
  sBin Tryd.prog .eql 21 false false a0 b1 w fun x7 w =>
  K x7 w

def find_All_1.sc : SC := (.seq (.reg (.op 0 .done)) (.seq (.reg (.op 0 (.op 1 (.op 2 (.op 3 .done))))) .nop))

theorem find_All_1.ok : okC Tryd.f23.ntmps find_All_1.sc (bodyOf Tryd.f23) = true := by kernel_rfl

theorem find_All_1.eq {K : K1} {a0 b1 : Value} {w : World} : find_All_1 K a0 b1 w = codeS Tryd.prog find_All_1.sc (bodyOf Tryd.f23) (argsF 0 [a0, b1]) w (retQ Tryd.prog Tryd.f23.results.toList K) := by kernel_rfl

theorem find_All_1.call {K : K1} {a0 b1 : Value} {w : World} (h : find_All_1 K a0 b1 w) : sCall Tryd.prog 23 [a0, b1] w K := sCall_code mixed Tryd.func23 (by kernel_rfl) rfl rfl find_All_1.ok find_All_1.eq h

abbrev find_All_1.n : Nat := 23

/-- 'bodkin find.All$2' -/
def find_All_2 (K : K1) (a0 b1 : Value) (w : World) : Prop :=
  sCall Tryd.prog 25 [a0] w fun x6 w =>
  sCall Tryd.prog 25 [b1] w fun x8 w =>
  sBin Tryd.prog .eql 21 false false x6 x8 w fun x9 w =>
  K x9 w

def find_All_2.sc : SC := (.seq (.reg (.op 0 .done)) (.seq (.reg (.op 0 (.op 1 (.op 2 (.op 3 (.op 4 (.op 5 .done))))))) .nop))

theorem find_All_2.ok : okC Tryd.f24.ntmps find_All_2.sc (bodyOf Tryd.f24) = true := by kernel_rfl

theorem find_All_2.eq {K : K1} {a0 b1 : Value} {w : World} : find_All_2 K a0 b1 w = codeS Tryd.prog find_All_2.sc (bodyOf Tryd.f24) (argsF 0 [a0, b1]) w (retQ Tryd.prog Tryd.f24.results.toList K) := by kernel_rfl

theorem find_All_2.call {K : K1} {a0 b1 : Value} {w : World} (h : find_All_2 K a0 b1 w) : sCall Tryd.prog 24 [a0, b1] w K := sCall_code mixed Tryd.func24 (by kernel_rfl) rfl rfl find_All_2.ok find_All_2.eq h

abbrev find_All_2.n : Nat := 24

/-- 'bodkin find.small' -/
def find_small_J1 (K : K1) (r0 : Value) (x8 : Value) (w : World) : Prop :=
  sIf x8 (
    sBin Tryd.prog .sub 21 false true r0 (.int .i32 65) w fun x10 w =>
    sBin Tryd.prog .add 21 false true x10 (.int .i32 97) w fun x11 w =>
    K x11 w) (
    K r0 w)

def find_small (K : K1) (r0 : Value) (w : World) : Prop :=
  JoinS 1 5 (fun M1 =>
    sBin Tryd.prog .geq 21 false true r0 (.int .i32 65) w fun x4 w =>
    sIf x4 (
      sBin Tryd.prog .leq 21 false true r0 (.int .i32 90) w fun x7 w =>
      M1 [x7] w) (
      M1 [(.bool false)] w)) fun us _ w =>
    find_small_J1 K r0 (hd us) w

def find_small.sc : SC := (.seq (.reg (.op 0 .done)) (.seq (.join [8] [3, 4, 5, 6, 7] (.reg (.op 0 (.op 1 (.op 2 (.test 2 (.op 3 (.op 4 (.op 5 .done))) (.skip 3 (.skip 4 (.op 5 .done)))))))) (.cond (.seq (.reg (.op 0 (.op 1 (.op 2 (.op 3 .done))))) .nop) .nop)) (.seq (.reg (.op 0 (.op 1 .done))) .nop)))

theorem find_small.ok : okC Tryd.f25.ntmps find_small.sc (bodyOf Tryd.f25) = true := by kernel_rfl

theorem find_small.eq {K : K1} {r0 : Value} {w : World} : find_small K r0 w = codeS Tryd.prog find_small.sc (bodyOf Tryd.f25) (argsF 0 [r0]) w (retQ Tryd.prog Tryd.f25.results.toList K) := by kernel_rfl

theorem find_small.call {K : K1} {r0 : Value} {w : World} (h : find_small K r0 w) : sCall Tryd.prog 25 [r0] w K := sCall_code mixed Tryd.func25 (by kernel_rfl) rfl rfl find_small.ok find_small.eq h

abbrev find_small.n : Nat := 25

/-- '(*bodkin find.search).found' -/
def find_search_found (K : K1) (s0 at1 : Value) (w : World) : Prop :=
  sNil s0 w fun x8 w =>
  sFldA Tryd.prog 62 x8 1 w fun x9 w =>
  sLoad Tryd.prog 32 x9 w fun x10 w =>
  sBuiltin Tryd.prog .len [32] 3 [x10] w fun x11 w =>
  sBin Tryd.prog .add 3 false false at1 x11 w fun x12 w =>
  DrawS w fun C w =>
  sNil s0 w fun x15 w =>
  stillS C w (fun w k => sFldA Tryd.prog 62 x15 0 w k) fun x16 =>
  stillS C w (fun w k => sLoad Tryd.prog 32 x16 w k) fun x17 =>
  stillS C w (fun w k => sBuiltin Tryd.prog .len [32] 3 [x17] w k) fun x18 =>
  stillS C w (fun w k => sBin Tryd.prog .leq 3 false false x12 x18 w k) fun x19 =>
  sIf x19 (
    sNil s0 w fun x22 w =>
    stillS C w (fun w k => sFldA Tryd.prog 62 x22 0 w k) fun x23 =>
    stillS C w (fun w k => sLoad Tryd.prog 32 x23 w k) fun x24 =>
    stillS C w (fun w k => sSlice Tryd.prog 32 x24 (some at1) (some x12) none w k) fun x27 =>
    sNil s0 w fun x29 w =>
    stillS C w (fun w k => sFldA Tryd.prog 62 x29 1 w k) fun x30 =>
    stillS C w (fun w k => sLoad Tryd.prog 32 x30 w k) fun x31 =>
    sNil s0 w fun x33 w =>
    stillS C w (fun w k => sFldA Tryd.prog 62 x33 3 w k) fun x34 =>
    stillS C w (fun w k => sLoad Tryd.prog 60 x34 w k) fun x35 =>
    sCall Tryd.prog 38 [x27, x31, x35] w fun x36 w => C w ∧
    sIf x36 (
      sNil s0 w fun x40 w =>
      stillS C w (fun w k => sFldA Tryd.prog 62 x40 2 w k) fun x41 =>
      stillS C w (fun w k => sLoad Tryd.prog 4 x41 w k) fun x42 =>
      stillS C w (fun w k => sUn Tryd.prog .not x42 w k) fun x43 =>
      sIf x43 (
        K (.bool true) w) (
        sCall Tryd.prog 39 [s0, at1, x12] w fun x48 w => C w ∧
        K x48 w)) (
      K (.bool false) w)) (
    K (.bool false) w)

def find_search_found.sc : SC := (.seq (.reg (.op 0 .done)) (.seq (.reg (.op 0 (.op 1 (.op 2 (.op 3 (.op 4 (.op 5 (.op 6 (.op 7 .done))))))))) (.seq (.draw (.op 0 (.op 1 (.op 2 (.op 3 (.op 4 (.op 5 (.op 6 (.op 7 (.test 7 (.op 8 (.op 9 (.op 10 (.op 11 (.op 12 (.op 13 (.op 14 (.op 15 (.op 16 (.op 17 (.op 18 (.op 19 (.op 20 (.op 21 (.op 22 (.op 23 (.op 24 (.op 25 (.test 25 (.op 26 (.op 27 (.op 28 (.op 29 (.op 30 (.op 31 (.test 31 (.skip 32 (.skip 33 (.skip 34 (.skip 35 (.op 36 (.op 37 (.op 38 .done))))))) (.op 32 (.op 33 (.op 34 (.op 35 (.op 36 (.op 37 (.op 38 .done)))))))))))))) (.skip 26 (.skip 27 (.skip 28 (.skip 29 (.skip 30 (.skip 31 (.skip 32 (.skip 33 (.skip 34 (.skip 35 (.skip 36 (.op 37 (.op 38 .done)))))))))))))))))))))))))))))))) (.skip 8 (.skip 9 (.skip 10 (.skip 11 (.skip 12 (.skip 13 (.skip 14 (.skip 15 (.skip 16 (.skip 17 (.skip 18 (.skip 19 (.skip 20 (.skip 21 (.skip 22 (.skip 23 (.op 24 (.op 25 (.know 25 false (.skip 26 (.skip 27 (.skip 28 (.skip 29 (.skip 30 (.skip 31 (.skip 32 (.skip 33 (.skip 34 (.skip 35 (.skip 36 (.op 37 (.op 38 .done)))))))))))))))))))))))))))))))))))))))))) .nop)))

theorem find_search_found.ok : okC Tryd.f26.ntmps find_search_found.sc (bodyOf Tryd.f26) = true := by kernel_rfl

theorem find_search_found.eq {K : K1} {s0 at1 : Value} {w : World} : find_search_found K s0 at1 w = codeS Tryd.prog find_search_found.sc (bodyOf Tryd.f26) (argsF 0 [s0, at1]) w (retQ Tryd.prog Tryd.f26.results.toList K) := by kernel_rfl

theorem find_search_found.call {K : K1} {s0 at1 : Value} {w : World} (h : find_search_found K s0 at1 w) : sCall Tryd.prog 26 [s0, at1] w K := sCall_code mixed Tryd.func26 (by kernel_rfl) rfl rfl find_search_found.ok find_search_found.eq h

abbrev find_search_found.n : Nat := 26

/-- 'bodkin bodkinref01.Step' -/
def bodkinref01_Step_J2 (K : K1) (Nx1 : List Value → World → Prop) (n5 x36 x4 : Value) (x47 : Value) (w : World) : Prop :=
  sIf x47 (
    sBuild Tryd.prog 66 [(0, x36), (1, n5)] w fun x50 w =>
    sStore Tryd.prog 66 x4 x50 w fun w =>
    sLoad Tryd.prog 66 x4 w fun v w' => w' = w ∧ K v w) (
    sBin Tryd.prog .add 3 false true n5 (.int .i64 1) w fun x28 w =>
    Nx1 [x28] w)

def bodkinref01_Step_L1 (K : K1) (Nx1 : List Value → World → Prop) (at1 s0 x4 : Value) (n5 : Value) (w : World) : Prop :=
  sBin Tryd.prog .leq 3 false true n5 (.int .i64 4) w fun x18 w =>
  sIf x18 (
    sBuiltin Tryd.prog .len [9] 3 [s0] w fun x22 w =>
    sBin Tryd.prog .sub 3 false false x22 at1 w fun x24 w =>
    sBin Tryd.prog .leq 3 false false n5 x24 w fun x25 w =>
    sIf x25 (
      sBin Tryd.prog .add 3 false false at1 n5 w fun x33 w =>
      sSlice Tryd.prog 9 s0 (some at1) (some x33) none w fun x34 w =>
      sCall Tryd.prog 40 [x34] w fun x36 w =>
      JoinS 1 10 (fun M2 =>
        sCall Tryd.prog 41 [x36] w fun x38 w =>
        sBin Tryd.prog .eql 3 false false x38 n5 w fun x40 w =>
        sIf x40 (
          sCall Tryd.prog 42 [x36, n5] w fun x44 w =>
          sBin Tryd.prog .eql 9 false false x44 x34 w fun x46 w =>
          M2 [x46] w) (
          M2 [(.bool false)] w)) fun us _ w =>
        bodkinref01_Step_J2 K Nx1 n5 x36 x4 (hd us) w) (
      sBuild Tryd.prog 66 [(0, (.int .i32 65533)), (1, (.int .i64 1))] w fun x51 w =>
      sStore Tryd.prog 66 x4 x51 w fun w =>
      sLoad Tryd.prog 66 x4 w fun v w' => w' = w ∧ K v w)) (
    sBuild Tryd.prog 66 [(0, (.int .i32 65533)), (1, (.int .i64 1))] w fun x51_1 w =>
    sStore Tryd.prog 66 x4 x51_1 w fun w =>
    sLoad Tryd.prog 66 x4 w fun v w' => w' = w ∧ K v w)

def bodkinref01_Step (K : K1) (s0 at1 : Value) (w : World) : Prop :=
  sAlloc Tryd.prog 66 w fun x4 w =>
  sBin Tryd.prog .lss 3 false true at1 (.int .i64 0) w fun x9 w =>
  sIf x9 (
    sBuild Tryd.prog 66 [] w fun x16 w =>
    sStore Tryd.prog 66 x4 x16 w fun w =>
    sLoad Tryd.prog 66 x4 w fun v w' => w' = w ∧ K v w) (
    sBuiltin Tryd.prog .len [9] 3 [s0] w fun x13 w =>
    sBin Tryd.prog .geq 3 false false at1 x13 w fun x14 w =>
    sIf x14 (
      sBuild Tryd.prog 66 [] w fun x16_1 w =>
      sStore Tryd.prog 66 x4 x16_1 w fun w =>
      sLoad Tryd.prog 66 x4 w fun v w' => w' = w ∧ K v w) (
      LoopS [(.int .i64 1)] 1 36 w fun us _ w Nx1 =>
        bodkinref01_Step_L1 K Nx1 at1 s0 x4 (hd us) w))

def bodkinref01_Step.sc : SC := (.seq (.reg (.op 0 .done)) (.seq (.seq (.reg (.op 0 (.op 1 (.op 2 (.test 2 (.skip 3 (.skip 4 (.skip 5 (.skip 6 (.op 7 .done))))) (.op 3 (.op 4 (.op 5 (.op 6 (.op 7 .done)))))))))) (.cond (.seq (.reg (.op 0 (.op 1 .done))) .nop) .nop)) (.seq (.seq (.reg (.op 0 .done)) (.sub (.loop [5] [17, 18, 19, 20, 21, 22, 23, 24, 25, 26, 29, 30, 31, 32, 33, 34, 6, 35, 36, 7, 37, 38, 39, 40, 41, 42, 43, 44, 45, 46, 47, 48, 49, 50, 27, 28] (.seq (.seq (.reg (.op 0 (.op 1 (.op 2 (.test 2 (.op 3 (.op 4 (.op 5 (.op 6 (.op 7 (.op 8 (.op 9 .done))))))) (.skip 3 (.skip 4 (.skip 5 (.skip 6 (.skip 7 (.skip 8 (.op 9 .done)))))))))))) (.cond .nop .nop)) (.seq (.sub (.seq (.reg (.op 0 (.op 1 (.op 2 (.op 3 (.op 4 (.op 5 (.op 6 .done)))))))) (.seq (.reg (.op 0 (.op 1 (.op 2 .done)))) (.join [47] [37, 38, 39, 40, 41, 42, 43, 44, 45, 46] (.reg (.op 0 (.op 1 (.op 2 (.op 3 (.op 4 (.test 4 (.op 5 (.op 6 (.op 7 (.op 8 (.op 9 (.op 10 .done)))))) (.skip 5 (.skip 6 (.skip 7 (.skip 8 (.skip 9 (.op 10 .done))))))))))))) (.cond (.seq (.reg (.op 0 (.op 1 (.op 2 (.op 3 .done))))) .nop) .nop))))) (.reg (.op 0 (.op 1 (.op 2 .done))))))))) (.seq (.reg (.op 0 (.op 1 .done))) .nop))))

theorem bodkinref01_Step.ok : okC Tryd.f27.ntmps bodkinref01_Step.sc (bodyOf Tryd.f27) = true := by kernel_rfl

theorem bodkinref01_Step.eq {K : K1} {s0 at1 : Value} {w : World} : bodkinref01_Step K s0 at1 w = codeS Tryd.prog bodkinref01_Step.sc (bodyOf Tryd.f27) (argsF 0 [s0, at1]) w (retQ Tryd.prog Tryd.f27.results.toList K) := by kernel_rfl

theorem bodkinref01_Step.call {K : K1} {s0 at1 : Value} {w : World} (h : bodkinref01_Step K s0 at1 w) : sCall Tryd.prog 27 [s0, at1] w K := sCall_code mixed Tryd.func27 (by kernel_rfl) rfl rfl bodkinref01_Step.ok bodkinref01_Step.eq h

abbrev bodkinref01_Step.n : Nat := 27

/-- 'bodkin bodkinref39.small' -/
def bodkinref39_small_J1 (K : K1) (r0 : Value) (x8 : Value) (w : World) : Prop :=
  sIf x8 (
    sBin Tryd.prog .add 21 false true r0 (.int .i32 32) w fun x10 w =>
    K x10 w) (
    K r0 w)

def bodkinref39_small (K : K1) (r0 : Value) (w : World) : Prop :=
  JoinS 1 5 (fun M1 =>
    sBin Tryd.prog .geq 21 false true r0 (.int .i32 65) w fun x4 w =>
    sIf x4 (
      sBin Tryd.prog .leq 21 false true r0 (.int .i32 90) w fun x7 w =>
      M1 [x7] w) (
      M1 [(.bool false)] w)) fun us _ w =>
    bodkinref39_small_J1 K r0 (hd us) w

def bodkinref39_small.sc : SC := (.seq (.reg (.op 0 .done)) (.seq (.join [8] [3, 4, 5, 6, 7] (.reg (.op 0 (.op 1 (.op 2 (.test 2 (.op 3 (.op 4 (.op 5 .done))) (.skip 3 (.skip 4 (.op 5 .done)))))))) (.cond (.seq (.reg (.op 0 (.op 1 (.op 2 .done)))) .nop) .nop)) (.seq (.reg (.op 0 (.op 1 .done))) .nop)))

theorem bodkinref39_small.ok : okC Tryd.f28.ntmps bodkinref39_small.sc (bodyOf Tryd.f28) = true := by kernel_rfl

theorem bodkinref39_small.eq {K : K1} {r0 : Value} {w : World} : bodkinref39_small K r0 w = codeS Tryd.prog bodkinref39_small.sc (bodyOf Tryd.f28) (argsF 0 [r0]) w (retQ Tryd.prog Tryd.f28.results.toList K) := by kernel_rfl

theorem bodkinref39_small.call {K : K1} {r0 : Value} {w : World} (h : bodkinref39_small K r0 w) : sCall Tryd.prog 28 [r0] w K := sCall_code mixed Tryd.func28 (by kernel_rfl) rfl rfl bodkinref39_small.ok bodkinref39_small.eq h

abbrev bodkinref39_small.n : Nat := 28

/-- 'bodkin bodkinref39.letter' -/
def bodkinref39_letter (K : K1) (l0 at1 : Value) (w : World) : Prop :=
  sBin Tryd.prog .geq 3 false true at1 (.int .i64 0) w fun x6 w =>
  sIf x6 (
    sBuiltin Tryd.prog .len [32] 3 [l0] w fun x10 w =>
    sBin Tryd.prog .lss 3 false false at1 x10 w fun x11 w =>
    sIf x11 (
      sIdxA Tryd.prog 32 l0 at1 w fun x16 w =>
      sLoad Tryd.prog 21 x16 w fun x17 w =>
      sCall Tryd.prog 43 [x17] w fun x18 w =>
      sBin Tryd.prog .eql 3 false true x18 (.int .i64 1) w fun x19 w =>
      K x19 w) (
      K (.bool false) w)) (
    K (.bool false) w)

def bodkinref39_letter.sc : SC := (.seq (.reg (.op 0 .done)) (.seq (.reg (.op 0 (.op 1 (.op 2 (.test 2 (.op 3 (.op 4 (.op 5 (.op 6 (.op 7 (.op 8 (.test 8 (.op 9 (.op 10 (.op 11 (.op 12 (.op 13 (.op 14 (.op 15 (.op 16 .done)))))))) (.skip 9 (.skip 10 (.skip 11 (.skip 12 (.skip 13 (.skip 14 (.op 15 (.op 16 .done))))))))))))))) (.skip 3 (.skip 4 (.skip 5 (.skip 6 (.op 7 (.op 8 (.know 8 false (.skip 9 (.skip 10 (.skip 11 (.skip 12 (.skip 13 (.skip 14 (.op 15 (.op 16 .done)))))))))))))))))))) .nop))

theorem bodkinref39_letter.ok : okC Tryd.f29.ntmps bodkinref39_letter.sc (bodyOf Tryd.f29) = true := by kernel_rfl

theorem bodkinref39_letter.eq {K : K1} {l0 at1 : Value} {w : World} : bodkinref39_letter K l0 at1 w = codeS Tryd.prog bodkinref39_letter.sc (bodyOf Tryd.f29) (argsF 0 [l0, at1]) w (retQ Tryd.prog Tryd.f29.results.toList K) := by kernel_rfl

theorem bodkinref39_letter.call {K : K1} {l0 at1 : Value} {w : World} (h : bodkinref39_letter K l0 at1 w) : sCall Tryd.prog 29 [l0, at1] w K := sCall_code mixed Tryd.func29 (by kernel_rfl) rfl rfl bodkinref39_letter.ok bodkinref39_letter.eq h

abbrev bodkinref39_letter.n : Nat := 29

/-- 'slices.IndexFunc[[]bodkin api.Span,bodkin api.Span]' -/
def slices_IndexFunc_L1 (K : K1) (Nx1 : List Value → World → Prop) (f1 s0 x7 : Value) (x8 : Value) (w : World) : Prop :=
  sBin Tryd.prog .lss 3 false false x8 x7 w fun x9 w =>
  sIf x9 (
    sIdxA Tryd.prog 29 s0 x8 w fun x14 w =>
    sLoad Tryd.prog 41 x14 w fun x15 w =>
    sDyn Tryd.prog f1 [x15] w fun x16 w =>
    sIf x16 (
      K x8 w) (
      sBin Tryd.prog .add 3 false true x8 (.int .i64 1) w fun x18 w =>
      Nx1 [x18] w)) (
    K (.int .i64 (-1)) w)

def slices_IndexFunc (K : K1) (s0 f1 : Value) (w : World) : Prop :=
  sBuiltin Tryd.prog .len [29] 3 [s0] w fun x7 w =>
  LoopS [(.int .i64 0)] 1 12 w fun us _ w Nx1 =>
    slices_IndexFunc_L1 K Nx1 f1 s0 x7 (hd us) w

def slices_IndexFunc.sc : SC := (.seq (.reg (.op 0 .done)) (.seq (.seq (.reg (.op 0 (.op 1 (.op 2 .done)))) (.sub (.loop [8] [9, 10, 5, 11, 12, 13, 14, 15, 16, 17, 4, 18] (.seq (.reg (.op 0 .done)) (.seq (.cond .nop .nop) (.seq (.sub (.seq (.reg (.op 0 (.op 1 .done))) (.seq (.reg (.op 0 (.op 1 (.op 2 (.op 3 (.op 4 (.op 5 .done))))))) (.cond (.seq (.reg (.op 0 (.op 1 .done))) .nop) .nop)))) (.reg (.op 0 (.op 1 .done))))))))) (.seq (.reg (.op 0 .done)) .nop)))

theorem slices_IndexFunc.ok : okC Tryd.f30.ntmps slices_IndexFunc.sc (bodyOf Tryd.f30) = true := by kernel_rfl

theorem slices_IndexFunc.eq {K : K1} {s0 f1 : Value} {w : World} : slices_IndexFunc K s0 f1 w = codeS Tryd.prog slices_IndexFunc.sc (bodyOf Tryd.f30) (argsF 0 [s0, f1]) w (retQ Tryd.prog Tryd.f30.results.toList K) := by kernel_rfl

theorem slices_IndexFunc.call {K : K1} {s0 f1 : Value} {w : World} (h : slices_IndexFunc K s0 f1 w) : sCall Tryd.prog 30 [s0, f1] w K := sCall_code mixed Tryd.func30 (by kernel_rfl) rfl rfl slices_IndexFunc.ok slices_IndexFunc.eq h

abbrev slices_IndexFunc.n : Nat := 30

/-- 'bodkin find.Next$1' -/
def find_Next_1 (K : K1) (x0 x1 : Value) (w : World) : Prop :=
  sBox Tryd.prog 41 x0 w fun x2 w =>
  sFldA Tryd.prog 41 x2 0 w fun x4 w =>
  sLoad Tryd.prog 3 x4 w fun x5 w =>
  sLoad Tryd.prog 3 x1 w fun x6 w =>
  sBin Tryd.prog .geq 3 false false x5 x6 w fun x7 w =>
  K x7 w

def find_Next_1.sc : SC := (.seq (.reg (.op 0 (.op 1 .done))) (.seq (.reg (.op 0 (.op 1 (.op 2 (.op 3 (.op 4 .done)))))) .nop))

theorem find_Next_1.ok : okC Tryd.f31.ntmps find_Next_1.sc (bodyOf Tryd.f31) = true := by kernel_rfl

theorem find_Next_1.eq {K : K1} {x0 x1 : Value} {w : World} : find_Next_1 K x0 x1 w = codeS Tryd.prog find_Next_1.sc (bodyOf Tryd.f31) (argsF 0 [x0, x1]) w (retQ Tryd.prog Tryd.f31.results.toList K) := by kernel_rfl

theorem find_Next_1.call {K : K1} {x0 x1 : Value} {w : World} (h : find_Next_1 K x0 x1 w) : sCall Tryd.prog 31 [x0, x1] w K := sCall_code mixed Tryd.func31 (by kernel_rfl) rfl rfl find_Next_1.ok find_Next_1.eq h

abbrev find_Next_1.n : Nat := 31

/-- 'bodkin item.Check' -/
def item_Check_L1 (K : K1) (Nx1 : List Value → World → Prop) (x10 : Value) (ok3 x11 : Value) (w : World) : Prop :=
  sBin Tryd.prog .lss 3 false true x11 (.int .i64 3) w fun x12 w =>
  sIf x12 (
    sIdx Tryd.prog 71 x10 x11 w fun x13 w =>
    sIf ok3 (
      sCall Tryd.prog 44 [x13] w fun x17 w =>
      sBin Tryd.prog .add 3 false true x11 (.int .i64 1) w fun x19 w =>
      Nx1 [x17, x19] w) (
      sBin Tryd.prog .add 3 false true x11 (.int .i64 1) w fun x19_1 w =>
      Nx1 [(.bool false), x19_1] w)) (
    sUn Tryd.prog .not ok3 w fun x21 w =>
    sIf x21 (
      K (.int .i64 1) w) (
      K (.int .i64 0) w))

def item_Check (K : K1) (i0 : Value) (w : World) : Prop :=
  sBox Tryd.prog 73 i0 w fun i1 w =>
  sFldA Tryd.prog 73 i1 3 w fun x6 w =>
  sLoad Tryd.prog 3 x6 w fun x7 w =>
  sCall Tryd.prog 44 [x7] w fun x8 w =>
  sFldA Tryd.prog 73 i1 2 w fun x9 w =>
  sLoad Tryd.prog 71 x9 w fun x10 w =>
  LoopS [x8, (.int .i64 0)] 2 9 w fun us _ w Nx1 =>
    item_Check_L1 K Nx1 x10 (hd us) (hd (tl us)) w

def item_Check.sc : SC := (.seq (.reg (.op 0 (.op 1 .done))) (.seq (.reg (.op 0 (.op 1 (.op 2 (.op 3 .done))))) (.seq (.seq (.reg (.op 0 (.op 1 (.op 2 .done)))) (.sub (.loop [3, 11] [12, 13, 5, 14, 15, 16, 17, 18, 19] (.seq (.reg (.op 0 .done)) (.seq (.cond .nop .nop) (.seq (.sub (.seq (.reg (.op 0 (.op 1 .done))) (.reg (.op 0 (.op 1 (.test 1 (.op 2 (.op 3 (.op 4 (.op 5 .done)))) (.skip 2 (.skip 3 (.op 4 (.op 5 .done)))))))))) (.reg (.op 0 (.op 1 .done))))))))) (.seq (.seq (.reg (.op 0 (.op 1 .done))) (.cond (.seq (.reg (.op 0 .done)) .nop) .nop)) (.seq (.reg (.op 0 .done)) .nop)))))

theorem item_Check.ok : okC Tryd.f32.ntmps item_Check.sc (bodyOf Tryd.f32) = true := by kernel_rfl

theorem item_Check.eq {K : K1} {i0 : Value} {w : World} : item_Check K i0 w = codeS Tryd.prog item_Check.sc (bodyOf Tryd.f32) (argsF 0 [i0]) w (retQ Tryd.prog Tryd.f32.results.toList K) := by kernel_rfl

theorem item_Check.call {K : K1} {i0 : Value} {w : World} (h : item_Check K i0 w) : sCall Tryd.prog 32 [i0] w K := sCall_code mixed Tryd.func32 (by kernel_rfl) rfl rfl item_Check.ok item_Check.eq h

abbrev item_Check.n : Nat := 32

/-- 'bodkin tree.join' -/
def tree_join (K : K1) (a0 b1 : Value) (w : World) : Prop :=
  sBin Tryd.prog .eql 70 false true a0 .nilIface w fun x8 w =>
  sIf x8 (
    K b1 w) (
    sBin Tryd.prog .eql 70 false true b1 .nilIface w fun x12 w =>
    sIf x12 (
      K a0 w) (
      sCall Tryd.prog 45 [a0, b1] w fun x16 w =>
      sBuiltin Tryd.prog .len [89] 3 [x16] w fun x18 w =>
      sBin Tryd.prog .eql 3 false true x18 (.int .i64 1) w fun x19 w =>
      sIf x19 (
        sIdxA Tryd.prog 89 x16 (.int .i64 0) w fun x21 w =>
        sLoad Tryd.prog 70 x21 w fun x22 w =>
        K x22 w) (
        sCall Tryd.prog 46 [x16] w fun x24 w =>
        sIface Tryd.prog 91 x24 w fun x25 w =>
        K x25 w)))

def tree_join.sc : SC := (.seq (.reg (.op 0 .done)) (.seq (.sub (.seq (.reg (.op 0 (.op 1 (.op 2 .done)))) (.cond (.seq (.reg (.op 0 (.op 1 .done))) .nop) (.seq (.reg (.op 0 (.op 1 (.op 2 .done)))) (.cond (.seq (.reg (.op 0 (.op 1 .done))) .nop) .nop))))) (.seq (.reg (.op 0 (.op 1 (.op 2 (.op 3 .done))))) (.seq (.seq (.reg (.op 0 (.op 1 (.op 2 .done)))) (.cond (.seq (.reg (.op 0 (.op 1 (.op 2 (.op 3 .done))))) .nop) .nop)) (.seq (.reg (.op 0 (.op 1 (.op 2 (.op 3 .done))))) .nop)))))

theorem tree_join.ok : okC Tryd.f33.ntmps tree_join.sc (bodyOf Tryd.f33) = true := by kernel_rfl

theorem tree_join.eq {K : K1} {a0 b1 : Value} {w : World} : tree_join K a0 b1 w = codeS Tryd.prog tree_join.sc (bodyOf Tryd.f33) (argsF 0 [a0, b1]) w (retQ Tryd.prog Tryd.f33.results.toList K) := by kernel_rfl

theorem tree_join.call {K : K1} {a0 b1 : Value} {w : World} (h : tree_join K a0 b1 w) : sCall Tryd.prog 33 [a0, b1] w K := sCall_code mixed Tryd.func33 (by kernel_rfl) rfl rfl tree_join.ok tree_join.eq h

abbrev tree_join.n : Nat := 33

/-- 'bodkin tree.leafOf' -/
def tree_leafOf (K : K1) (l0 : Value) (w : World) : Prop :=
  sCall Tryd.prog 47 [l0] w fun x5 w =>
  sBuild Tryd.prog 97 [(0, l0), (1, x5)] w fun x6 w =>
  sBox Tryd.prog 97 x6 w fun x7 w =>
  K x7 w

def tree_leafOf.sc : SC := (.seq (.reg (.op 0 .done)) (.seq (.reg (.op 0 (.op 1 (.op 2 (.op 3 (.op 4 (.op 5 .done))))))) .nop))

theorem tree_leafOf.ok : okC Tryd.f34.ntmps tree_leafOf.sc (bodyOf Tryd.f34) = true := by kernel_rfl

theorem tree_leafOf.eq {K : K1} {l0 : Value} {w : World} : tree_leafOf K l0 w = codeS Tryd.prog tree_leafOf.sc (bodyOf Tryd.f34) (argsF 0 [l0]) w (retQ Tryd.prog Tryd.f34.results.toList K) := by kernel_rfl

theorem tree_leafOf.call {K : K1} {l0 : Value} {w : World} (h : tree_leafOf K l0 w) : sCall Tryd.prog 34 [l0] w K := sCall_code mixed Tryd.func34 (by kernel_rfl) rfl rfl tree_leafOf.ok tree_leafOf.eq h

abbrev tree_leafOf.n : Nat := 34

/-- 'bodkin rope.pieceOf' -/
def rope_pieceOf_L1 (K : K1) (Nx1 : List Value → World → Prop) (i3 l0 x19 x2 : Value) (x20 : Value) (w : World) : Prop :=
  sBin Tryd.prog .lss 3 false false x20 x19 w fun x21 w =>
  sIf x21 (
    sIdxA Tryd.prog 32 l0 x20 w fun x22 w =>
    sLoad Tryd.prog 21 x22 w fun x23 w =>
    sBin Tryd.prog .eql 21 false true x23 (.int .i32 10) w fun x25 w =>
    sIf x25 (
      sFldA Tryd.prog 73 i3 2 w fun x26 w =>
      sIdxA Tryd.prog 71 x26 (.int .i64 2) w fun x27 w =>
      sLoad Tryd.prog 3 x27 w fun x28 w =>
      sBin Tryd.prog .add 3 false true x28 (.int .i64 1) w fun x29 w =>
      sFldA Tryd.prog 73 i3 2 w fun x30 w =>
      sIdxA Tryd.prog 71 x30 (.int .i64 2) w fun x31 w =>
      sStore Tryd.prog 3 x31 x29 w fun w =>
      sBin Tryd.prog .add 3 false true x20 (.int .i64 1) w fun x32 w =>
      Nx1 [x32] w) (
      sBin Tryd.prog .add 3 false true x20 (.int .i64 1) w fun x32_1 w =>
      Nx1 [x32_1] w)) (
    sLoad Tryd.prog 73 i3 w fun x33 w =>
    sStore Tryd.prog 73 x2 x33 w fun w =>
    sLoad Tryd.prog 73 x2 w fun v w' => w' = w ∧ K v w)

def rope_pieceOf (K : K1) (l0 : Value) (w : World) : Prop :=
  sAlloc Tryd.prog 73 w fun x2 w =>
  sCall Tryd.prog 48 [l0] w fun x7 w =>
  sBuild Tryd.prog 73 [(4, x7)] w fun x8 w =>
  sAlloc Tryd.prog 73 w fun i3 w =>
  sStore Tryd.prog 73 i3 x8 w fun w =>
  sFldA Tryd.prog 73 i3 4 w fun x9 w =>
  sLoad Tryd.prog 9 x9 w fun x10 w =>
  sBuiltin Tryd.prog .len [9] 3 [x10] w fun x11 w =>
  sBuiltin Tryd.prog .len [32] 3 [l0] w fun x13 w =>
  sFldA Tryd.prog 73 i3 2 w fun x14 w =>
  sIdxA Tryd.prog 71 x14 (.int .i64 0) w fun x15 w =>
  sStore Tryd.prog 3 x15 x11 w fun w =>
  sFldA Tryd.prog 73 i3 2 w fun x16 w =>
  sIdxA Tryd.prog 71 x16 (.int .i64 1) w fun x17 w =>
  sStore Tryd.prog 3 x17 x13 w fun w =>
  sBuiltin Tryd.prog .len [32] 3 [l0] w fun x19 w =>
  LoopS [(.int .i64 0)] 1 13 w fun us _ w Nx1 =>
    rope_pieceOf_L1 K Nx1 i3 l0 x19 x2 (hd us) w

def rope_pieceOf.sc : SC := (.seq (.reg (.op 0 .done)) (.seq (.reg (.op 0 (.op 1 (.op 2 (.op 3 (.op 4 .done)))))) (.seq (.reg (.op 0 (.op 1 (.op 2 (.op 3 (.op 4 (.op 5 (.op 6 (.op 7 (.op 8 (.op 9 (.op 10 .done)))))))))))) (.seq (.seq (.reg (.op 0 (.op 1 (.op 2 .done)))) (.sub (.loop [20] [21, 22, 23, 5, 24, 25, 26, 27, 28, 29, 30, 31, 32] (.seq (.reg (.op 0 .done)) (.seq (.cond .nop .nop) (.seq (.sub (.seq (.reg (.op 0 (.op 1 (.op 2 .done)))) (.seq (.reg (.op 0 (.op 1 .done))) (.cond (.reg (.op 0 (.op 1 (.op 2 (.op 3 (.op 4 (.op 5 (.op 6 .done)))))))) .nop)))) (.reg (.op 0 (.op 1 .done))))))))) (.seq (.reg (.op 0 (.op 1 .done))) .nop)))))

theorem rope_pieceOf.ok : okC Tryd.f35.ntmps rope_pieceOf.sc (bodyOf Tryd.f35) = true := by kernel_rfl

theorem rope_pieceOf.eq {K : K1} {l0 : Value} {w : World} : rope_pieceOf K l0 w = codeS Tryd.prog rope_pieceOf.sc (bodyOf Tryd.f35) (argsF 0 [l0]) w (retQ Tryd.prog Tryd.f35.results.toList K) := by kernel_rfl

theorem rope_pieceOf.call {K : K1} {l0 : Value} {w : World} (h : rope_pieceOf K l0 w) : sCall Tryd.prog 35 [l0] w K := sCall_code mixed Tryd.func35 (by kernel_rfl) rfl rfl rope_pieceOf.ok rope_pieceOf.eq h

abbrev rope_pieceOf.n : Nat := 35

/-- '(*bodkin rope.Rope).Pieces' -/
def rope_Rope_Pieces_L1 (K : K1) (Nx1 : List Value → World → Prop) (x8 x9 : Value) (out3 x10 : Value) (w : World) : Prop :=
  sBin Tryd.prog .lss 3 false false x10 x9 w fun x11 w =>
  sIf x11 (
    sIdxA Tryd.prog 54 x8 x10 w fun x12 w =>
    sLoad Tryd.prog 73 x12 w fun x13 w =>
    sAlloc Tryd.prog 73 w fun i5 w =>
    sStore Tryd.prog 73 i5 x13 w fun w =>
    sFldA Tryd.prog 73 i5 4 w fun x15 w =>
    sLoad Tryd.prog 9 x15 w fun x16 w =>
    sBuildSlice Tryd.prog 82 1 [(0, x16)] w fun x17 w =>
    sBuiltin Tryd.prog .append [82, 82] 82 [out3, x17] w fun x18 w =>
    sBin Tryd.prog .add 3 false true x10 (.int .i64 1) w fun x19 w =>
    Nx1 [x18, x19] w) (
    K out3 w)

def rope_Rope_Pieces (K : K1) (r0 : Value) (w : World) : Prop :=
  sCall Tryd.prog 52 [r0] w fun x7 w =>
  sCall Tryd.prog 53 [x7] w fun x8 w =>
  sBuiltin Tryd.prog .len [54] 3 [x8] w fun x9 w =>
  LoopS [(.slice none 0 0), (.int .i64 0)] 2 10 w fun us _ w Nx1 =>
    rope_Rope_Pieces_L1 K Nx1 x8 x9 (hd us) (hd (tl us)) w

def rope_Rope_Pieces.sc : SC := (.seq (.reg (.op 0 .done)) (.seq (.reg (.op 0 .done)) (.seq (.seq (.reg (.op 0 (.op 1 (.op 2 (.op 3 (.op 4 .done)))))) (.sub (.loop [3, 10] [11, 12, 13, 5, 14, 15, 16, 17, 18, 19] (.seq (.reg (.op 0 .done)) (.seq (.cond .nop .nop) (.seq (.sub (.seq (.reg (.op 0 (.op 1 (.op 2 (.op 3 .done))))) (.reg (.op 0 (.op 1 (.op 2 (.op 3 (.op 4 (.op 5 .done))))))))) (.reg (.op 0 (.op 1 .done))))))))) (.seq (.reg (.op 0 (.op 1 .done))) .nop))))

theorem rope_Rope_Pieces.ok : okC Tryd.f37.ntmps rope_Rope_Pieces.sc (bodyOf Tryd.f37) = true := by kernel_rfl

theorem rope_Rope_Pieces.eq {K : K1} {r0 : Value} {w : World} : rope_Rope_Pieces K r0 w = codeS Tryd.prog rope_Rope_Pieces.sc (bodyOf Tryd.f37) (argsF 0 [r0]) w (retQ Tryd.prog Tryd.f37.results.toList K) := by kernel_rfl

theorem rope_Rope_Pieces.call {K : K1} {r0 : Value} {w : World} (h : rope_Rope_Pieces K r0 w) : sCall Tryd.prog 37 [r0] w K := sCall_code mixed Tryd.func37 (by kernel_rfl) rfl rfl rope_Rope_Pieces.ok rope_Rope_Pieces.eq h

abbrev rope_Rope_Pieces.n : Nat := 37

/-- 'slices.EqualFunc[[]rune,[]rune,rune,rune]' -/
def slices_EqualFunc_L1 (K : K1) (Nx1 : List Value → World → Prop) (eq2 s10 s21 x16 : Value) (x17 : Value) (w : World) : Prop :=
  sBin Tryd.prog .lss 3 false false x17 x16 w fun x18 w =>
  sIf x18 (
    sIdxA Tryd.prog 32 s10 x17 w fun x20 w =>
    sLoad Tryd.prog 21 x20 w fun x21 w =>
    sIdxA Tryd.prog 32 s21 x17 w fun x24 w =>
    sLoad Tryd.prog 21 x24 w fun x25 w =>
    sDyn Tryd.prog eq2 [x21, x25] w fun x29 w =>
    sUn Tryd.prog .not x29 w fun x30 w =>
    sIf x30 (
      K (.bool false) w) (
      sBin Tryd.prog .add 3 false true x17 (.int .i64 1) w fun x31 w =>
      Nx1 [x31] w)) (
    K (.bool true) w)

def slices_EqualFunc (K : K1) (s10 s21 eq2 : Value) (w : World) : Prop :=
  sBuiltin Tryd.prog .len [32] 3 [s10] w fun x11 w =>
  sBuiltin Tryd.prog .len [32] 3 [s21] w fun x13 w =>
  sBin Tryd.prog .neq 3 false false x11 x13 w fun x14 w =>
  sIf x14 (
    K (.bool false) w) (
    sBuiltin Tryd.prog .len [32] 3 [s10] w fun x16 w =>
    LoopS [(.int .i64 0)] 1 18 w fun us _ w Nx1 =>
      slices_EqualFunc_L1 K Nx1 eq2 s10 s21 x16 (hd us) w)

def slices_EqualFunc.sc : SC := (.seq (.reg (.op 0 .done)) (.seq (.seq (.reg (.op 0 (.op 1 (.op 2 (.op 3 (.op 4 .done)))))) (.cond (.seq (.reg (.op 0 .done)) .nop) .nop)) (.seq (.seq (.reg (.op 0 (.op 1 (.op 2 .done)))) (.sub (.loop [17] [18, 19, 20, 21, 7, 8, 22, 23, 24, 25, 9, 26, 27, 28, 29, 30, 6, 31] (.seq (.reg (.op 0 .done)) (.seq (.cond .nop .nop) (.seq (.sub (.seq (.reg (.op 0 (.op 1 (.op 2 (.op 3 (.op 4 .done)))))) (.seq (.reg (.op 0 (.op 1 (.op 2 (.op 3 (.op 4 .done)))))) (.seq (.reg (.op 0 (.op 1 (.op 2 (.op 3 (.op 4 .done)))))) (.cond (.seq (.reg (.op 0 .done)) .nop) .nop))))) (.reg (.op 0 (.op 1 .done))))))))) (.seq (.reg (.op 0 .done)) .nop))))

theorem slices_EqualFunc.ok : okC Tryd.f38.ntmps slices_EqualFunc.sc (bodyOf Tryd.f38) = true := by kernel_rfl

theorem slices_EqualFunc.eq {K : K1} {s10 s21 eq2 : Value} {w : World} : slices_EqualFunc K s10 s21 eq2 w = codeS Tryd.prog slices_EqualFunc.sc (bodyOf Tryd.f38) (argsF 0 [s10, s21, eq2]) w (retQ Tryd.prog Tryd.f38.results.toList K) := by kernel_rfl

theorem slices_EqualFunc.call {K : K1} {s10 s21 eq2 : Value} {w : World} (h : slices_EqualFunc K s10 s21 eq2 w) : sCall Tryd.prog 38 [s10, s21, eq2] w K := sCall_code mixed Tryd.func38 (by kernel_rfl) rfl rfl slices_EqualFunc.ok slices_EqualFunc.eq h

abbrev slices_EqualFunc.n : Nat := 38

/-- '(*bodkin find.search).whole' -/
def find_search_whole_J2 (K : K1) (ahead7 : Value) (behind8 : Value) (w : World) : Prop :=
  sUn Tryd.prog .not ahead7 w fun x43 w =>
  sIf x43 (
    sUn Tryd.prog .not behind8 w fun x46 w =>
    K x46 w) (
    K (.bool false) w)

def find_search_whole_J1 (K : K1) (s0 to2 : Value) (ahead7 : Value) (w : World) : Prop :=
  JoinS 1 19 (fun M2 =>
    DrawS w fun C w =>
    sCall Tryd.prog 54 [s0, to2] w fun x25 w => C w ∧
    sIf x25 (
      sNil s0 w fun x28 w =>
      stillS C w (fun w k => sFldA Tryd.prog 62 x28 1 w k) fun x29 =>
      stillS C w (fun w k => sLoad Tryd.prog 32 x29 w k) fun x30 =>
      sNil s0 w fun x32 w =>
      stillS C w (fun w k => sFldA Tryd.prog 62 x32 1 w k) fun x33 =>
      stillS C w (fun w k => sLoad Tryd.prog 32 x33 w k) fun x34 =>
      stillS C w (fun w k => sBuiltin Tryd.prog .len [32] 3 [x34] w k) fun x35 =>
      stillS C w (fun w k => sBin Tryd.prog .sub 3 false true x35 (.int .i64 1) w k) fun x36 =>
      stillS C w (fun w k => sIdxA Tryd.prog 32 x30 x36 w k) fun x37 =>
      stillS C w (fun w k => sLoad Tryd.prog 21 x37 w k) fun x38 =>
      sCall Tryd.prog 55 [x38] w fun x39 w => C w ∧
      stillS C w (fun w k => sBin Tryd.prog .eql 3 false true x39 (.int .i64 1) w k) fun x40 =>
      M2 [x40] w) (
      M2 [(.bool false)] w)) fun us _ w =>
    find_search_whole_J2 K ahead7 (hd us) w

def find_search_whole (K : K1) (s0 from1 to2 : Value) (w : World) : Prop :=
  JoinS 1 14 (fun M1 =>
    sBin Tryd.prog .sub 3 false true from1 (.int .i64 1) w fun x11 w =>
    sCall Tryd.prog 54 [s0, x11] w fun x12 w =>
    sIf x12 (
      sNil s0 w fun x15 w =>
      sFldA Tryd.prog 62 x15 1 w fun x16 w =>
      sLoad Tryd.prog 32 x16 w fun x17 w =>
      sIdxA Tryd.prog 32 x17 (.int .i64 0) w fun x18 w =>
      sLoad Tryd.prog 21 x18 w fun x19 w =>
      sCall Tryd.prog 55 [x19] w fun x20 w =>
      sBin Tryd.prog .eql 3 false true x20 (.int .i64 1) w fun x21 w =>
      M1 [x21] w) (
      M1 [(.bool false)] w)) fun us _ w =>
    find_search_whole_J1 K s0 to2 (hd us) w

def find_search_whole.sc : SC := (.seq (.reg (.op 0 .done)) (.join [7] [9, 10, 11, 12, 13, 14, 15, 16, 17, 18, 19, 20, 21, 22] (.reg (.op 0 (.op 1 (.op 2 (.op 3 (.op 4 (.test 4 (.op 5 (.op 6 (.op 7 (.op 8 (.op 9 (.op 10 (.op 11 (.op 12 (.op 13 (.op 14 .done)))))))))) (.skip 5 (.skip 6 (.skip 7 (.skip 8 (.skip 9 (.skip 10 (.skip 11 (.skip 12 (.op 13 (.op 14 .done))))))))))))))))) (.join [8] [23, 24, 25, 26, 27, 28, 29, 30, 31, 32, 33, 34, 35, 36, 37, 38, 39, 40, 41] (.draw (.op 0 (.op 1 (.op 2 (.op 3 (.test 3 (.op 4 (.op 5 (.op 6 (.op 7 (.op 8 (.op 9 (.op 10 (.op 11 (.op 12 (.op 13 (.op 14 (.op 15 (.op 16 (.op 17 (.op 18 (.op 19 .done)))))))))))))))) (.skip 4 (.skip 5 (.skip 6 (.skip 7 (.skip 8 (.skip 9 (.skip 10 (.skip 11 (.skip 12 (.skip 13 (.skip 14 (.skip 15 (.skip 16 (.skip 17 (.op 18 (.op 19 .done)))))))))))))))))))))) (.seq (.reg (.op 0 (.op 1 (.op 2 (.test 2 (.op 3 (.op 4 (.op 5 (.op 6 .done)))) (.skip 3 (.skip 4 (.op 5 (.op 6 .done))))))))) .nop))))

theorem find_search_whole.ok : okC Tryd.f39.ntmps find_search_whole.sc (bodyOf Tryd.f39) = true := by kernel_rfl

theorem find_search_whole.eq {K : K1} {s0 from1 to2 : Value} {w : World} : find_search_whole K s0 from1 to2 w = codeS Tryd.prog find_search_whole.sc (bodyOf Tryd.f39) (argsF 0 [s0, from1, to2]) w (retQ Tryd.prog Tryd.f39.results.toList K) := by kernel_rfl

theorem find_search_whole.call {K : K1} {s0 from1 to2 : Value} {w : World} (h : find_search_whole K s0 from1 to2 w) : sCall Tryd.prog 39 [s0, from1, to2] w K := sCall_code mixed Tryd.func39 (by kernel_rfl) rfl rfl find_search_whole.ok find_search_whole.eq h

abbrev find_search_whole.n : Nat := 39

/-- 'bodkin bodkinref01.number' -/
def bodkinref01_number_L2 (K : K1) (Nx2 : List Value → World → Prop) (s0 : Value) (first3_1 i4 : Value) (w : World) : Prop :=
  sBuiltin Tryd.prog .len [9] 3 [s0] w fun x25 w =>
  sBin Tryd.prog .lss 3 false false i4 x25 w fun x26 w =>
  sIf x26 (
    sBin Tryd.prog .mul 21 true false (.int .i32 64) first3_1 w fun x30 w =>
    sIdx Tryd.prog 9 s0 i4 w fun x33 w =>
    sConv Tryd.prog 5 21 x33 w fun x34 w =>
    sBin Tryd.prog .add 21 false false x30 x34 w fun x35 w =>
    sBin Tryd.prog .sub 21 false true x35 (.int .i32 128) w fun x36 w =>
    sBin Tryd.prog .add 3 false true i4 (.int .i64 1) w fun x28 w =>
    Nx2 [x36, x28] w) (
    K first3_1 w)

def bodkinref01_number_J1 (K : K1) (s0 : Value) (first3 : Value) (w : World) : Prop :=
  LoopS [first3, (.int .i64 1)] 2 14 w fun us _ w Nx2 =>
    bodkinref01_number_L2 K Nx2 s0 (hd us) (hd (tl us)) w

def bodkinref01_number (K : K1) (s0 : Value) (w : World) : Prop :=
  sIdx Tryd.prog 9 s0 (.int .i64 0) w fun x6 w =>
  sConv Tryd.prog 5 21 x6 w fun x7 w =>
  JoinS 1 16 (fun M1 =>
    sBuiltin Tryd.prog .len [9] 3 [s0] w fun x9 w =>
    sBin Tryd.prog .eql 3 false true x9 (.int .i64 1) w fun x13 w =>
    sIf x13 (
      K x7 w) (
      sBin Tryd.prog .eql 3 false true x9 (.int .i64 2) w fun x16 w =>
      sIf x16 (
        sBin Tryd.prog .sub 21 false true x7 (.int .i32 192) w fun x18 w =>
        M1 [x18] w) (
        sBin Tryd.prog .eql 3 false true x9 (.int .i64 3) w fun x20 w =>
        sIf x20 (
          sBin Tryd.prog .sub 21 false true x7 (.int .i32 224) w fun x22 w =>
          M1 [x22] w) (
          sBin Tryd.prog .sub 21 false true x7 (.int .i32 240) w fun x11 w =>
          M1 [x11] w)))) fun us _ w =>
    bodkinref01_number_J1 K s0 (hd us) w

def bodkinref01_number.sc : SC := (.seq (.reg (.op 0 .done)) (.seq (.reg (.op 0 (.op 1 (.op 2 (.op 3 .done))))) (.join [3] [8, 9, 13, 12, 14, 2, 16, 15, 17, 18, 20, 19, 21, 22, 10, 11] (.seq (.reg (.op 0 (.op 1 .done))) (.sub (.seq (.reg (.op 0 (.op 1 .done))) (.cond (.seq (.reg (.op 0 (.op 1 .done))) .nop) (.seq (.reg (.op 0 (.op 1 .done))) (.cond (.reg (.op 0 (.op 1 (.op 2 .done)))) (.seq (.reg (.op 0 (.op 1 .done))) (.cond (.reg (.op 0 (.op 1 (.op 2 .done)))) (.reg (.op 0 (.op 1 (.op 2 .done)))))))))))) (.seq (.seq (.reg (.op 0 .done)) (.sub (.loop [3, 4] [23, 24, 25, 26, 29, 30, 31, 32, 33, 34, 35, 36, 27, 28] (.seq (.seq (.reg (.op 0 (.op 1 (.op 2 (.op 3 .done))))) (.cond .nop .nop)) (.seq (.sub (.reg (.op 0 (.op 1 (.op 2 (.op 3 (.op 4 (.op 5 (.op 6 (.op 7 (.op 8 .done))))))))))) (.reg (.op 0 (.op 1 (.op 2 .done))))))))) (.seq (.reg (.op 0 (.op 1 .done))) .nop)))))

theorem bodkinref01_number.ok : okC Tryd.f40.ntmps bodkinref01_number.sc (bodyOf Tryd.f40) = true := by kernel_rfl

theorem bodkinref01_number.eq {K : K1} {s0 : Value} {w : World} : bodkinref01_number K s0 w = codeS Tryd.prog bodkinref01_number.sc (bodyOf Tryd.f40) (argsF 0 [s0]) w (retQ Tryd.prog Tryd.f40.results.toList K) := by kernel_rfl

theorem bodkinref01_number.call {K : K1} {s0 : Value} {w : World} (h : bodkinref01_number K s0 w) : sCall Tryd.prog 40 [s0] w K := sCall_code mixed Tryd.func40 (by kernel_rfl) rfl rfl bodkinref01_number.ok bodkinref01_number.eq h

abbrev bodkinref01_number.n : Nat := 40

/-- 'bodkin bodkinref01.size' -/
def bodkinref01_size_J1 (K : K1) (r0 : Value) (w : World) : Prop :=
  sBin Tryd.prog .lss 21 false true r0 (.int .i32 128) w fun x18 w =>
  sIf x18 (
    K (.int .i64 1) w) (
    sBin Tryd.prog .lss 21 false true r0 (.int .i32 2048) w fun x20 w =>
    sIf x20 (
      K (.int .i64 2) w) (
      sBin Tryd.prog .lss 21 false true r0 (.int .i32 65536) w fun x22 w =>
      sIf x22 (
        K (.int .i64 3) w) (
        K (.int .i64 4) w)))

def bodkinref01_size (K : K1) (r0 : Value) (w : World) : Prop :=
  JoinS 0 15 (fun M1 =>
    sBin Tryd.prog .lss 21 false true r0 (.int .i32 0) w fun x4 w =>
    sIf x4 (
      K (.int .i64 0) w) (
      sBin Tryd.prog .gtr 21 false true r0 (.int .i32 1114111) w fun x7 w =>
      sIf x7 (
        K (.int .i64 0) w) (
        sBin Tryd.prog .geq 21 false true r0 (.int .i32 55296) w fun x11 w =>
        sIf x11 (
          sBin Tryd.prog .leq 21 false true r0 (.int .i32 57343) w fun x14 w =>
          sIf x14 (
            K (.int .i64 0) w) (
            M1 [] w)) (
          M1 [] w)))) fun us _ w =>
    bodkinref01_size_J1 K r0 w

def bodkinref01_size.sc : SC := (.seq (.reg (.op 0 .done)) (.join [] [3, 4, 5, 6, 7, 8, 9, 10, 11, 12, 13, 14, 15, 16, 2] (.seq (.reg (.op 0 (.op 1 (.op 2 (.test 2 (.skip 3 (.skip 4 (.op 5 (.op 6 (.know 6 true (.skip 7 (.skip 8 (.skip 9 (.skip 10 (.skip 11 (.skip 12 (.op 13 .done)))))))))))) (.op 3 (.op 4 (.op 5 (.op 6 (.test 6 (.skip 7 (.skip 8 (.skip 9 (.skip 10 (.skip 11 (.skip 12 (.op 13 .done))))))) (.op 7 (.op 8 (.op 9 (.test 9 (.op 10 (.op 11 (.op 12 (.op 13 .done)))) (.skip 10 (.skip 11 (.op 12 (.op 13 .done)))))))))))))))))) (.cond (.seq (.reg (.op 0 .done)) .nop) .nop)) (.seq (.seq (.reg (.op 0 (.op 1 .done))) (.cond (.seq (.reg (.op 0 .done)) .nop) .nop)) (.seq (.seq (.reg (.op 0 (.op 1 .done))) (.cond (.seq (.reg (.op 0 .done)) .nop) .nop)) (.seq (.seq (.reg (.op 0 (.op 1 .done))) (.cond (.seq (.reg (.op 0 .done)) .nop) .nop)) (.seq (.reg (.op 0 .done)) .nop))))))

theorem bodkinref01_size.ok : okC Tryd.f41.ntmps bodkinref01_size.sc (bodyOf Tryd.f41) = true := by kernel_rfl

theorem bodkinref01_size.eq {K : K1} {r0 : Value} {w : World} : bodkinref01_size K r0 w = codeS Tryd.prog bodkinref01_size.sc (bodyOf Tryd.f41) (argsF 0 [r0]) w (retQ Tryd.prog Tryd.f41.results.toList K) := by kernel_rfl

theorem bodkinref01_size.call {K : K1} {r0 : Value} {w : World} (h : bodkinref01_size K r0 w) : sCall Tryd.prog 41 [r0] w K := sCall_code mixed Tryd.func41 (by kernel_rfl) rfl rfl bodkinref01_size.ok bodkinref01_size.eq h

abbrev bodkinref01_size.n : Nat := 41

/-- 'bodkin bodkinref01.one' -/
def bodkinref01_one (K : K1) (r0 n1 : Value) (w : World) : Prop :=
  sBin Tryd.prog .eql 3 false true n1 (.int .i64 1) w fun x7 w =>
  sIf x7 (
    sConv Tryd.prog 21 5 r0 w fun x9 w =>
    sBuildSlice Tryd.prog 100 1 [(0, x9)] w fun x10 w =>
    sConv Tryd.prog 100 9 x10 w fun x11 w =>
    K x11 w) (
    sBin Tryd.prog .eql 3 false true n1 (.int .i64 2) w fun x13 w =>
    sIf x13 (
      sBin Tryd.prog .quo 21 false true r0 (.int .i32 64) w fun x15 w =>
      sBin Tryd.prog .add 21 true false (.int .i32 192) x15 w fun x16 w =>
      sConv Tryd.prog 21 5 x16 w fun x17 w =>
      sBin Tryd.prog .rem 21 false true r0 (.int .i32 64) w fun x19 w =>
      sBin Tryd.prog .add 21 true false (.int .i32 128) x19 w fun x20 w =>
      sConv Tryd.prog 21 5 x20 w fun x21 w =>
      sBuildSlice Tryd.prog 100 2 [(0, x17), (1, x21)] w fun x22 w =>
      sConv Tryd.prog 100 9 x22 w fun x23 w =>
      K x23 w) (
      sBin Tryd.prog .eql 3 false true n1 (.int .i64 3) w fun x25 w =>
      sIf x25 (
        sBin Tryd.prog .quo 21 false true r0 (.int .i32 4096) w fun x27 w =>
        sBin Tryd.prog .add 21 true false (.int .i32 224) x27 w fun x28 w =>
        sConv Tryd.prog 21 5 x28 w fun x29 w =>
        sBin Tryd.prog .quo 21 false true r0 (.int .i32 64) w fun x31 w =>
        sBin Tryd.prog .rem 21 false true x31 (.int .i32 64) w fun x32 w =>
        sBin Tryd.prog .add 21 true false (.int .i32 128) x32 w fun x33 w =>
        sConv Tryd.prog 21 5 x33 w fun x34 w =>
        sBin Tryd.prog .rem 21 false true r0 (.int .i32 64) w fun x36 w =>
        sBin Tryd.prog .add 21 true false (.int .i32 128) x36 w fun x37 w =>
        sConv Tryd.prog 21 5 x37 w fun x38 w =>
        sBuildSlice Tryd.prog 100 3 [(0, x29), (1, x34), (2, x38)] w fun x39 w =>
        sConv Tryd.prog 100 9 x39 w fun x40 w =>
        K x40 w) (
        sBin Tryd.prog .quo 21 false true r0 (.int .i32 262144) w fun x42 w =>
        sBin Tryd.prog .add 21 true false (.int .i32 240) x42 w fun x43 w =>
        sConv Tryd.prog 21 5 x43 w fun x44 w =>
        sBin Tryd.prog .quo 21 false true r0 (.int .i32 4096) w fun x46 w =>
        sBin Tryd.prog .rem 21 false true x46 (.int .i32 64) w fun x47 w =>
        sBin Tryd.prog .add 21 true false (.int .i32 128) x47 w fun x48 w =>
        sConv Tryd.prog 21 5 x48 w fun x49 w =>
        sBin Tryd.prog .quo 21 false true r0 (.int .i32 64) w fun x51 w =>
        sBin Tryd.prog .rem 21 false true x51 (.int .i32 64) w fun x52 w =>
        sBin Tryd.prog .add 21 true false (.int .i32 128) x52 w fun x53 w =>
        sConv Tryd.prog 21 5 x53 w fun x54 w =>
        sBin Tryd.prog .rem 21 false true r0 (.int .i32 64) w fun x56 w =>
        sBin Tryd.prog .add 21 true false (.int .i32 128) x56 w fun x57 w =>
        sConv Tryd.prog 21 5 x57 w fun x58 w =>
        sBuildSlice Tryd.prog 100 4 [(0, x44), (1, x49), (2, x54), (3, x58)] w fun x59 w =>
        sConv Tryd.prog 100 9 x59 w fun x60 w =>
        K x60 w)))

def bodkinref01_one.sc : SC := (.seq (.reg (.op 0 .done)) (.seq (.seq (.reg (.op 0 .done)) (.sub (.seq (.reg (.op 0 (.op 1 .done))) (.cond (.seq (.reg (.op 0 (.op 1 (.op 2 (.op 3 (.op 4 .done)))))) .nop) (.seq (.reg (.op 0 (.op 1 .done))) (.cond (.seq (.reg (.op 0 (.op 1 (.op 2 (.op 3 (.op 4 (.op 5 (.op 6 (.op 7 (.op 8 (.op 9 (.op 10 .done)))))))))))) .nop) (.seq (.reg (.op 0 (.op 1 .done))) (.cond (.seq (.reg (.op 0 (.op 1 (.op 2 (.op 3 (.op 4 (.op 5 (.op 6 (.op 7 (.op 8 (.op 9 (.op 10 (.op 11 (.op 12 (.op 13 (.op 14 (.op 15 .done))))))))))))))))) .nop) .nop)))))))) (.seq (.reg (.op 0 (.op 1 (.op 2 (.op 3 (.op 4 (.op 5 (.op 6 (.op 7 (.op 8 (.op 9 (.op 10 (.op 11 (.op 12 (.op 13 (.op 14 (.op 15 (.op 16 (.op 17 (.op 18 (.op 19 (.op 20 .done)))))))))))))))))))))) .nop)))

theorem bodkinref01_one.ok : okC Tryd.f42.ntmps bodkinref01_one.sc (bodyOf Tryd.f42) = true := by kernel_rfl

theorem bodkinref01_one.eq {K : K1} {r0 n1 : Value} {w : World} : bodkinref01_one K r0 n1 w = codeS Tryd.prog bodkinref01_one.sc (bodyOf Tryd.f42) (argsF 0 [r0, n1]) w (retQ Tryd.prog Tryd.f42.results.toList K) := by kernel_rfl

theorem bodkinref01_one.call {K : K1} {r0 n1 : Value} {w : World} (h : bodkinref01_one K r0 n1 w) : sCall Tryd.prog 42 [r0, n1] w K := sCall_code mixed Tryd.func42 (by kernel_rfl) rfl rfl bodkinref01_one.ok bodkinref01_one.eq h

abbrev bodkinref01_one.n : Nat := 42

/-- 'bodkin bodkinref37.Class' -/
def bodkinref37_Class (K : K1) (r0 : Value) (w : World) : Prop :=
  sBin Tryd.prog .eql 21 false true r0 (.int .i32 32) w fun x4 w =>
  sIf x4 (
    K (.int .i64 0) w) (
    sBin Tryd.prog .eql 21 false true r0 (.int .i32 9) w fun x7 w =>
    sIf x7 (
      K (.int .i64 0) w) (
      sBin Tryd.prog .eql 21 false true r0 (.int .i32 10) w fun x11 w =>
      sIf x11 (
        K (.int .i64 0) w) (
        sBin Tryd.prog .geq 21 false true r0 (.int .i32 128) w fun x14 w =>
        sIf x14 (
          K (.int .i64 1) w) (
          sBin Tryd.prog .eql 21 false true r0 (.int .i32 95) w fun x17 w =>
          sIf x17 (
            K (.int .i64 1) w) (
            sBin Tryd.prog .geq 21 false true r0 (.int .i32 48) w fun x21 w =>
            sIf x21 (
              sBin Tryd.prog .leq 21 false true r0 (.int .i32 57) w fun x24 w =>
              sIf x24 (
                K (.int .i64 1) w) (
                sBin Tryd.prog .geq 21 false true r0 (.int .i32 65) w fun x29 w =>
                sIf x29 (
                  sBin Tryd.prog .leq 21 false true r0 (.int .i32 90) w fun x32 w =>
                  sIf x32 (
                    K (.int .i64 1) w) (
                    sBin Tryd.prog .geq 21 false true r0 (.int .i32 97) w fun x37 w =>
                    sIf x37 (
                      sBin Tryd.prog .leq 21 false true r0 (.int .i32 122) w fun x40 w =>
                      sIf x40 (
                        K (.int .i64 1) w) (
                        K (.int .i64 2) w)) (
                      K (.int .i64 2) w))) (
                  sBin Tryd.prog .geq 21 false true r0 (.int .i32 97) w fun x37_1 w =>
                  sIf x37_1 (
                    sBin Tryd.prog .leq 21 false true r0 (.int .i32 122) w fun x40_1 w =>
                    sIf x40_1 (
                      K (.int .i64 1) w) (
                      K (.int .i64 2) w)) (
                    K (.int .i64 2) w)))) (
              sBin Tryd.prog .geq 21 false true r0 (.int .i32 65) w fun x29_1 w =>
              sIf x29_1 (
                sBin Tryd.prog .leq 21 false true r0 (.int .i32 90) w fun x32_1 w =>
                sIf x32_1 (
                  K (.int .i64 1) w) (
                  sBin Tryd.prog .geq 21 false true r0 (.int .i32 97) w fun x37_2 w =>
                  sIf x37_2 (
                    sBin Tryd.prog .leq 21 false true r0 (.int .i32 122) w fun x40_2 w =>
                    sIf x40_2 (
                      K (.int .i64 1) w) (
                      K (.int .i64 2) w)) (
                    K (.int .i64 2) w))) (
                sBin Tryd.prog .geq 21 false true r0 (.int .i32 97) w fun x37_3 w =>
                sIf x37_3 (
                  sBin Tryd.prog .leq 21 false true r0 (.int .i32 122) w fun x40_3 w =>
                  sIf x40_3 (
                    K (.int .i64 1) w) (
                    K (.int .i64 2) w)) (
                  K (.int .i64 2) w))))))))

def bodkinref37_Class.sc : SC := (.seq (.reg (.op 0 .done)) (.seq (.seq (.reg (.op 0 (.op 1 (.op 2 (.test 2 (.skip 3 (.skip 4 (.op 5 (.op 6 (.know 6 true (.skip 7 (.skip 8 (.op 9 .done)))))))) (.op 3 (.op 4 (.op 5 (.op 6 (.test 6 (.skip 7 (.skip 8 (.op 9 .done))) (.op 7 (.op 8 (.op 9 .done))))))))))))) (.cond (.seq (.reg (.op 0 .done)) .nop) .nop)) (.seq (.seq (.reg (.op 0 (.op 1 (.op 2 (.test 2 (.skip 3 (.skip 4 (.op 5 (.op 6 (.know 6 true (.skip 7 (.skip 8 (.skip 9 (.skip 10 (.skip 11 (.skip 12 (.op 13 (.op 14 (.know 14 true (.skip 15 (.skip 16 (.skip 17 (.skip 18 (.skip 19 (.skip 20 (.op 21 (.op 22 (.know 22 true (.skip 23 (.skip 24 (.skip 25 (.skip 26 (.skip 27 (.skip 28 (.op 29 .done)))))))))))))))))))))))))))))) (.op 3 (.op 4 (.op 5 (.op 6 (.test 6 (.skip 7 (.skip 8 (.skip 9 (.skip 10 (.skip 11 (.skip 12 (.op 13 (.op 14 (.know 14 true (.skip 15 (.skip 16 (.skip 17 (.skip 18 (.skip 19 (.skip 20 (.op 21 (.op 22 (.know 22 true (.skip 23 (.skip 24 (.skip 25 (.skip 26 (.skip 27 (.skip 28 (.op 29 .done))))))))))))))))))))))))) (.op 7 (.op 8 (.op 9 (.test 9 (.op 10 (.op 11 (.op 12 (.op 13 (.op 14 (.test 14 (.skip 15 (.skip 16 (.skip 17 (.skip 18 (.skip 19 (.skip 20 (.op 21 (.op 22 (.know 22 true (.skip 23 (.skip 24 (.skip 25 (.skip 26 (.skip 27 (.skip 28 (.op 29 .done)))))))))))))))) (.op 15 (.op 16 (.op 17 (.test 17 (.op 18 (.op 19 (.op 20 (.op 21 (.op 22 (.test 22 (.skip 23 (.skip 24 (.skip 25 (.skip 26 (.skip 27 (.skip 28 (.op 29 .done))))))) (.op 23 (.op 24 (.op 25 (.test 25 (.op 26 (.op 27 (.op 28 (.op 29 .done)))) (.skip 26 (.skip 27 (.op 28 (.op 29 .done)))))))))))))) (.skip 18 (.skip 19 (.op 20 (.op 21 (.op 22 (.know 22 false (.op 23 (.op 24 (.op 25 (.test 25 (.op 26 (.op 27 (.op 28 (.op 29 .done)))) (.skip 26 (.skip 27 (.op 28 (.op 29 .done)))))))))))))))))))))))) (.skip 10 (.skip 11 (.op 12 (.op 13 (.op 14 (.know 14 false (.op 15 (.op 16 (.op 17 (.test 17 (.op 18 (.op 19 (.op 20 (.op 21 (.op 22 (.test 22 (.skip 23 (.skip 24 (.skip 25 (.skip 26 (.skip 27 (.skip 28 (.op 29 .done))))))) (.op 23 (.op 24 (.op 25 (.test 25 (.op 26 (.op 27 (.op 28 (.op 29 .done)))) (.skip 26 (.skip 27 (.op 28 (.op 29 .done)))))))))))))) (.skip 18 (.skip 19 (.op 20 (.op 21 (.op 22 (.know 22 false (.op 23 (.op 24 (.op 25 (.test 25 (.op 26 (.op 27 (.op 28 (.op 29 .done)))) (.skip 26 (.skip 27 (.op 28 (.op 29 .done)))))))))))))))))))))))))))))))))))))) (.cond (.seq (.reg (.op 0 .done)) .nop) .nop)) (.seq (.reg (.op 0 .done)) .nop))))

theorem bodkinref37_Class.ok : okC Tryd.f43.ntmps bodkinref37_Class.sc (bodyOf Tryd.f43) = true := by kernel_rfl

theorem bodkinref37_Class.eq {K : K1} {r0 : Value} {w : World} : bodkinref37_Class K r0 w = codeS Tryd.prog bodkinref37_Class.sc (bodyOf Tryd.f43) (argsF 0 [r0]) w (retQ Tryd.prog Tryd.f43.results.toList K) := by kernel_rfl

theorem bodkinref37_Class.call {K : K1} {r0 : Value} {w : World} (h : bodkinref37_Class K r0 w) : sCall Tryd.prog 43 [r0] w K := sCall_code mixed Tryd.func43 (by kernel_rfl) rfl rfl bodkinref37_Class.ok bodkinref37_Class.eq h

abbrev bodkinref37_Class.n : Nat := 43

/-- 'bodkin item.within' -/
def item_within (K : K1) (n0 : Value) (w : World) : Prop :=
  sBin Tryd.prog .geq 3 false true n0 (.int .i64 0) w fun x4 w =>
  sIf x4 (
    sBin Tryd.prog .leq 3 false true n0 (.int .i64 1099511627776) w fun x7 w =>
    K x7 w) (
    K (.bool false) w)

def item_within.sc : SC := (.seq (.reg (.op 0 .done)) (.seq (.reg (.op 0 (.op 1 (.op 2 (.test 2 (.op 3 (.op 4 (.op 5 (.op 6 .done)))) (.skip 3 (.skip 4 (.op 5 (.op 6 .done))))))))) .nop))

theorem item_within.ok : okC Tryd.f44.ntmps item_within.sc (bodyOf Tryd.f44) = true := by kernel_rfl

theorem item_within.eq {K : K1} {n0 : Value} {w : World} : item_within K n0 w = codeS Tryd.prog item_within.sc (bodyOf Tryd.f44) (argsF 0 [n0]) w (retQ Tryd.prog Tryd.f44.results.toList K) := by kernel_rfl

theorem item_within.call {K : K1} {n0 : Value} {w : World} (h : item_within K n0 w) : sCall Tryd.prog 44 [n0] w K := sCall_code mixed Tryd.func44 (by kernel_rfl) rfl rfl item_within.ok item_within.eq h

abbrev item_within.n : Nat := 44

/-- 'bodkin tree.meld' -/
def tree_meld (K : K1) (a0 b1 : Value) (w : World) : Prop :=
  sCall Tryd.prog 56 [a0] w fun x15 w =>
  sCall Tryd.prog 56 [b1] w fun x17 w =>
  sBin Tryd.prog .gtr 3 false false x15 x17 w fun x21 w =>
  sIf x21 (
    sAssert Tryd.prog a0 70 91 false w fun x23 w =>
    sNil x23 w fun x25 w =>
    sFldA Tryd.prog 112 x25 0 w fun x26 w =>
    sLoad Tryd.prog 89 x26 w fun x27 w =>
    sBuiltin Tryd.prog .len [89] 3 [x27] w fun x28 w =>
    sBin Tryd.prog .sub 3 false true x28 (.int .i64 1) w fun x29 w =>
    DrawS w fun C w =>
    sNil x23 w fun x31 w =>
    stillS C w (fun w k => sFldA Tryd.prog 112 x31 0 w k) fun x32 =>
    stillS C w (fun w k => sLoad Tryd.prog 89 x32 w k) fun x33 =>
    stillS C w (fun w k => sSlice Tryd.prog 89 x33 none (some x29) none w k) fun x35 =>
    sNil x23 w fun x37 w =>
    stillS C w (fun w k => sFldA Tryd.prog 112 x37 0 w k) fun x38 =>
    stillS C w (fun w k => sLoad Tryd.prog 89 x38 w k) fun x39 =>
    stillS C w (fun w k => sIdxA Tryd.prog 89 x39 x29 w k) fun x41 =>
    stillS C w (fun w k => sLoad Tryd.prog 70 x41 w k) fun x42 =>
    sCall Tryd.prog 45 [x42, b1] w fun x44 w => C w ∧
    sCall Tryd.prog 58 [x35, x44] w fun x45 w => C w ∧
    sCall Tryd.prog 57 [x45] w fun x46 w => C w ∧
    K x46 w) (
    sBin Tryd.prog .lss 3 false false x15 x17 w fun x50 w =>
    sIf x50 (
      sAssert Tryd.prog b1 70 91 false w fun x52 w =>
      DrawS w fun C w =>
      sNil x52 w fun x55 w =>
      stillS C w (fun w k => sFldA Tryd.prog 112 x55 0 w k) fun x56 =>
      stillS C w (fun w k => sLoad Tryd.prog 89 x56 w k) fun x57 =>
      stillS C w (fun w k => sIdxA Tryd.prog 89 x57 (.int .i64 0) w k) fun x58 =>
      stillS C w (fun w k => sLoad Tryd.prog 70 x58 w k) fun x59 =>
      sNil x52 w fun x62 w =>
      stillS C w (fun w k => sFldA Tryd.prog 112 x62 0 w k) fun x63 =>
      stillS C w (fun w k => sLoad Tryd.prog 89 x63 w k) fun x64 =>
      stillS C w (fun w k => sSlice Tryd.prog 89 x64 (some (.int .i64 1)) none none w k) fun x65 =>
      sCall Tryd.prog 45 [a0, x59] w fun x60 w => C w ∧
      sCall Tryd.prog 58 [x60, x65] w fun x66 w => C w ∧
      sCall Tryd.prog 57 [x66] w fun x67 w => C w ∧
      K x67 w) (
      sAssert Tryd.prog a0 70 76 true w fun x70 w =>
      sExtract x70 0 w fun x71 w =>
      sExtract x70 1 w fun x72 w =>
      sIf x72 (
        sAssert Tryd.prog b1 70 76 false w fun x75 w =>
        DrawS w fun C w =>
        sNil x71 w fun x77 w =>
        stillS C w (fun w k => sFldA Tryd.prog 97 x77 0 w k) fun x78 =>
        stillS C w (fun w k => sLoad Tryd.prog 54 x78 w k) fun x79 =>
        stillS C w (fun w k => sBuiltin Tryd.prog .len [54] 3 [x79] w k) fun x80 =>
        sNil x75 w fun x82 w =>
        stillS C w (fun w k => sFldA Tryd.prog 97 x82 0 w k) fun x83 =>
        stillS C w (fun w k => sLoad Tryd.prog 54 x83 w k) fun x84 =>
        stillS C w (fun w k => sBuiltin Tryd.prog .len [54] 3 [x84] w k) fun x85 =>
        stillS C w (fun w k => sBin Tryd.prog .add 3 false false x80 x85 w k) fun x86 =>
        sMake Tryd.prog 54 (.int .i64 0) x86 w fun x87 w => C w ∧
        sNil x71 w fun x90 w =>
        sFldA Tryd.prog 97 x90 0 w fun x91 w =>
        sLoad Tryd.prog 54 x91 w fun x92 w =>
        sBuiltin Tryd.prog .append [54, 54] 54 [x87, x92] w fun x93 w =>
        sNil x75 w fun x96 w =>
        sFldA Tryd.prog 97 x96 0 w fun x97 w =>
        sLoad Tryd.prog 54 x97 w fun x98 w =>
        sBuiltin Tryd.prog .append [54, 54] 54 [x93, x98] w fun x99 w =>
        sCall Tryd.prog 59 [x99] w fun x100 w =>
        K x100 w) (
        DrawS w fun C w =>
        stillS C w (fun w k => sAssert Tryd.prog a0 70 91 false w k) fun x102 =>
        sNil x102 w fun x103 w =>
        stillS C w (fun w k => sFldA Tryd.prog 112 x103 0 w k) fun x104 =>
        stillS C w (fun w k => sLoad Tryd.prog 89 x104 w k) fun x105 =>
        stillS C w (fun w k => sAssert Tryd.prog b1 70 91 false w k) fun x107 =>
        sNil x107 w fun x108 w =>
        stillS C w (fun w k => sFldA Tryd.prog 112 x108 0 w k) fun x109 =>
        stillS C w (fun w k => sLoad Tryd.prog 89 x109 w k) fun x110 =>
        sCall Tryd.prog 58 [x105, x110] w fun x111 w => C w ∧
        sCall Tryd.prog 57 [x111] w fun x112 w => C w ∧
        K x112 w)))

def tree_meld.sc : SC := (.seq (.reg (.op 0 .done)) (.seq (.reg (.op 0 (.op 1 (.op 2 (.op 3 (.op 4 (.op 5 .done))))))) (.seq (.sub (.seq (.reg (.op 0 (.op 1 (.op 2 (.op 3 .done))))) (.cond (.seq (.reg (.op 0 (.op 1 (.op 2 .done)))) (.seq (.reg (.op 0 (.op 1 (.op 2 (.op 3 (.op 4 (.op 5 (.op 6 .done)))))))) (.seq (.draw (.op 0 (.op 1 (.op 2 (.op 3 (.op 4 (.op 5 (.op 6 (.op 7 (.op 8 (.op 9 (.op 10 (.op 11 (.op 12 (.op 13 (.op 14 (.op 15 (.op 16 (.op 17 .done))))))))))))))))))) .nop))) (.seq (.reg (.op 0 (.op 1 (.op 2 (.op 3 .done))))) (.cond (.seq (.reg (.op 0 (.op 1 (.op 2 .done)))) (.seq (.draw (.op 0 (.op 1 (.op 2 (.op 3 (.op 4 (.op 5 (.op 6 (.op 8 (.op 9 (.op 10 (.op 11 (.op 12 (.op 7 (.op 13 (.op 14 (.op 15 .done))))))))))))))))) .nop)) .nop))))) (.seq (.seq (.reg (.op 0 (.op 1 (.op 2 (.op 3 (.op 4 (.op 5 (.op 6 .done)))))))) (.seq (.reg (.op 0 .done)) (.cond (.seq (.reg (.op 0 (.op 1 (.op 2 .done)))) (.seq (.draw (.op 0 (.op 1 (.op 2 (.op 3 (.op 4 (.op 5 (.op 6 (.op 7 (.op 8 (.op 9 (.op 10 (.op 11 (.op 12 .done)))))))))))))) (.seq (.reg (.op 0 (.op 1 (.op 2 (.op 3 (.op 4 (.op 5 (.op 6 .done)))))))) (.seq (.reg (.op 0 (.op 1 (.op 2 (.op 3 (.op 4 (.op 5 (.op 6 (.op 7 .done))))))))) .nop)))) .nop))) (.seq (.draw (.op 0 (.op 1 (.op 2 (.op 3 (.op 4 (.op 5 (.op 6 (.op 7 (.op 8 (.op 9 (.op 10 (.op 11 (.op 12 .done)))))))))))))) .nop)))))

theorem tree_meld.ok : okC Tryd.f45.ntmps tree_meld.sc (bodyOf Tryd.f45) = true := by kernel_rfl

theorem tree_meld.eq {K : K1} {a0 b1 : Value} {w : World} : tree_meld K a0 b1 w = codeS Tryd.prog tree_meld.sc (bodyOf Tryd.f45) (argsF 0 [a0, b1]) w (retQ Tryd.prog Tryd.f45.results.toList K) := by kernel_rfl

theorem tree_meld.call {K : K1} {a0 b1 : Value} {w : World} (h : tree_meld K a0 b1 w) : sCall Tryd.prog 45 [a0, b1] w K := sCall_code mixed Tryd.func45 (by kernel_rfl) rfl rfl tree_meld.ok tree_meld.eq h

abbrev tree_meld.n : Nat := 45

/-- 'bodkin tree.innerOf' -/
def tree_innerOf_L1 (K : K1) (Nx1 : List Value → World → Prop) (kids0 x13 x15 : Value) (x16 : Value) (w : World) : Prop :=
  sBin Tryd.prog .lss 3 false false x16 x15 w fun x17 w =>
  sIf x17 (
    sIdxA Tryd.prog 89 kids0 x16 w fun x18 w =>
    sLoad Tryd.prog 70 x18 w fun x19 w =>
    DrawS w fun C w =>
    sNil x13 w fun x22 w =>
    stillS C w (fun w k => sFldA Tryd.prog 112 x22 2 w k) fun x23 =>
    stillS C w (fun w k => sLoad Tryd.prog 94 x23 w k) fun x24 =>
    sCall Tryd.prog 61 [x19] w fun x26 w => C w ∧
    sCall Tryd.prog 60 [x24, x26] w fun x27 w => C w ∧
    sNil x13 w fun x28 w =>
    stillS C w (fun w k => sFldA Tryd.prog 112 x28 2 w k) fun x29 =>
    sStore Tryd.prog 94 x29 x27 w fun w =>
    sBin Tryd.prog .add 3 false true x16 (.int .i64 1) w fun x30 w =>
    Nx1 [x30] w) (
    K x13 w)

def tree_innerOf (K : K1) (kids0 : Value) (w : World) : Prop :=
  sIdxA Tryd.prog 89 kids0 (.int .i64 0) w fun x8 w =>
  sLoad Tryd.prog 70 x8 w fun x9 w =>
  sCall Tryd.prog 56 [x9] w fun x10 w =>
  sBin Tryd.prog .add 3 false true x10 (.int .i64 1) w fun x11 w =>
  sBuild Tryd.prog 112 [(0, kids0), (1, x11)] w fun x12 w =>
  sBox Tryd.prog 112 x12 w fun x13 w =>
  sBuiltin Tryd.prog .len [89] 3 [kids0] w fun x15 w =>
  LoopS [(.int .i64 0)] 1 15 w fun us _ w Nx1 =>
    tree_innerOf_L1 K Nx1 kids0 x13 x15 (hd us) w

def tree_innerOf.sc : SC := (.seq (.reg (.op 0 .done)) (.seq (.reg (.op 0 (.op 1 (.op 2 (.op 3 (.op 4 (.op 5 (.op 6 (.op 7 (.op 8 .done)))))))))) (.seq (.seq (.reg (.op 0 (.op 1 (.op 2 .done)))) (.sub (.loop [16] [17, 18, 19, 5, 20, 21, 22, 23, 24, 25, 26, 27, 28, 29, 30] (.seq (.reg (.op 0 .done)) (.seq (.cond .nop .nop) (.seq (.sub (.seq (.reg (.op 0 (.op 1 (.op 2 .done)))) (.draw (.op 0 (.op 1 (.op 2 (.op 3 (.op 4 (.op 5 (.op 6 (.op 7 (.op 8 (.op 9 (.fin 10 .done)))))))))))))) (.reg (.op 0 (.op 1 .done))))))))) (.seq (.reg (.op 0 (.op 1 .done))) .nop))))

theorem tree_innerOf.ok : okC Tryd.f46.ntmps tree_innerOf.sc (bodyOf Tryd.f46) = true := by kernel_rfl

theorem tree_innerOf.eq {K : K1} {kids0 : Value} {w : World} : tree_innerOf K kids0 w = codeS Tryd.prog tree_innerOf.sc (bodyOf Tryd.f46) (argsF 0 [kids0]) w (retQ Tryd.prog Tryd.f46.results.toList K) := by kernel_rfl

theorem tree_innerOf.call {K : K1} {kids0 : Value} {w : World} (h : tree_innerOf K kids0 w) : sCall Tryd.prog 46 [kids0] w K := sCall_code mixed Tryd.func46 (by kernel_rfl) rfl rfl tree_innerOf.ok tree_innerOf.eq h

abbrev tree_innerOf.n : Nat := 46

/-- 'bodkin item.All' -/
def item_All_L1 (K : K1) (Nx1 : List Value → World → Prop) (l0 s3 x2 x7 : Value) (x8 : Value) (w : World) : Prop :=
  sBin Tryd.prog .lss 3 false false x8 x7 w fun x9 w =>
  sIf x9 (
    sIdxA Tryd.prog 54 l0 x8 w fun x10 w =>
    sLoad Tryd.prog 73 x10 w fun x11 w =>
    sAlloc Tryd.prog 73 w fun i5 w =>
    sStore Tryd.prog 73 i5 x11 w fun w =>
    DrawS w fun C w =>
    stillS C w (fun w k => sLoad Tryd.prog 94 s3 w k) fun x12 =>
    stillS C w (fun w k => sLoad Tryd.prog 73 i5 w k) fun x13 =>
    sCall Tryd.prog 62 [x13] w fun x14 w => C w ∧
    sCall Tryd.prog 60 [x12, x14] w fun x15 w =>
    sStore Tryd.prog 94 s3 x15 w fun w =>
    sBin Tryd.prog .add 3 false true x8 (.int .i64 1) w fun x16 w =>
    Nx1 [x16] w) (
    sLoad Tryd.prog 94 s3 w fun x17 w =>
    sStore Tryd.prog 94 x2 x17 w fun w =>
    sLoad Tryd.prog 94 x2 w fun v w' => w' = w ∧ K v w)

def item_All (K : K1) (l0 : Value) (w : World) : Prop :=
  sAlloc Tryd.prog 94 w fun x2 w =>
  sAlloc Tryd.prog 94 w fun s3 w =>
  sBuiltin Tryd.prog .len [54] 3 [l0] w fun x7 w =>
  LoopS [(.int .i64 0)] 1 9 w fun us _ w Nx1 =>
    item_All_L1 K Nx1 l0 s3 x2 x7 (hd us) w

def item_All.sc : SC := (.seq (.reg (.op 0 .done)) (.seq (.reg (.op 0 .done)) (.seq (.seq (.reg (.op 0 (.op 1 (.op 2 .done)))) (.sub (.loop [8] [9, 10, 11, 5, 12, 13, 14, 15, 16] (.seq (.reg (.op 0 .done)) (.seq (.cond .nop .nop) (.seq (.sub (.seq (.reg (.op 0 (.op 1 (.op 2 (.op 3 .done))))) (.draw (.op 0 (.op 1 (.op 2 (.fin 3 (.fin 4 .done)))))))) (.reg (.op 0 (.op 1 .done))))))))) (.seq (.reg (.op 0 (.op 1 .done))) .nop))))

theorem item_All.ok : okC Tryd.f47.ntmps item_All.sc (bodyOf Tryd.f47) = true := by kernel_rfl

theorem item_All.eq {K : K1} {l0 : Value} {w : World} : item_All K l0 w = codeS Tryd.prog item_All.sc (bodyOf Tryd.f47) (argsF 0 [l0]) w (retQ Tryd.prog Tryd.f47.results.toList K) := by kernel_rfl

theorem item_All.call {K : K1} {l0 : Value} {w : World} (h : item_All K l0 w) : sCall Tryd.prog 47 [l0] w K := sCall_code mixed Tryd.func47 (by kernel_rfl) rfl rfl item_All.ok item_All.eq h

abbrev item_All.n : Nat := 47

/-- 'bodkin utf.Encode' -/
def utf_Encode_J2 (Nx1 : List Value → World → Prop) (out3 x8 : Value) (r5 : Value) (w : World) : Prop :=
  sConv Tryd.prog 21 9 r5 w fun x17 w =>
  sBuiltin Tryd.prog .append [100, 9] 100 [out3, x17] w fun x18 w =>
  sBin Tryd.prog .add 3 false true x8 (.int .i64 1) w fun x19 w =>
  Nx1 [x18, x19] w

def utf_Encode_L1 (K : K1) (Nx1 : List Value → World → Prop) (l0 x7 : Value) (out3 x8 : Value) (w : World) : Prop :=
  sBin Tryd.prog .lss 3 false false x8 x7 w fun x9 w =>
  sIf x9 (
    sIdxA Tryd.prog 32 l0 x8 w fun x10 w =>
    sLoad Tryd.prog 21 x10 w fun x11 w =>
    JoinS 1 3 (fun M2 =>
      sCall Tryd.prog 63 [x11] w fun x13 w =>
      sUn Tryd.prog .not x13 w fun x14 w =>
      sIf x14 (
        M2 [(.int .i32 65533)] w) (
        M2 [x11] w)) fun us _ w =>
      utf_Encode_J2 Nx1 out3 x8 (hd us) w) (
    sConv Tryd.prog 100 9 out3 w fun x21 w =>
    K x21 w)

def utf_Encode (K : K1) (l0 : Value) (w : World) : Prop :=
  sBuiltin Tryd.prog .len [32] 3 [l0] w fun x7 w =>
  LoopS [(.slice none 0 0), (.int .i64 0)] 2 12 w fun us _ w Nx1 =>
    utf_Encode_L1 K Nx1 l0 x7 (hd us) (hd (tl us)) w

def utf_Encode.sc : SC := (.seq (.reg (.op 0 .done)) (.seq (.reg (.op 0 .done)) (.seq (.seq (.reg (.op 0 (.op 1 (.op 2 .done)))) (.sub (.loop [3, 8] [9, 10, 11, 5, 12, 13, 14, 15, 16, 17, 18, 19] (.seq (.reg (.op 0 .done)) (.seq (.cond .nop .nop) (.seq (.sub (.seq (.reg (.op 0 (.op 1 (.op 2 .done)))) (.join [5] [12, 13, 14] (.seq (.reg (.op 0 (.op 1 (.op 2 .done)))) (.cond (.reg (.op 0 .done)) .nop)) (.reg (.op 0 (.op 1 (.op 2 (.op 3 (.op 4 .done))))))))) (.reg (.op 0 (.op 1 .done))))))))) (.seq (.reg (.op 0 (.op 1 (.op 2 .done)))) .nop))))

theorem utf_Encode.ok : okC Tryd.f48.ntmps utf_Encode.sc (bodyOf Tryd.f48) = true := by kernel_rfl

theorem utf_Encode.eq {K : K1} {l0 : Value} {w : World} : utf_Encode K l0 w = codeS Tryd.prog utf_Encode.sc (bodyOf Tryd.f48) (argsF 0 [l0]) w (retQ Tryd.prog Tryd.f48.results.toList K) := by kernel_rfl

theorem utf_Encode.call {K : K1} {l0 : Value} {w : World} (h : utf_Encode K l0 w) : sCall Tryd.prog 48 [l0] w K := sCall_code mixed Tryd.func48 (by kernel_rfl) rfl rfl utf_Encode.ok utf_Encode.eq h

abbrev utf_Encode.n : Nat := 48

/-- '(*strings.Builder).WriteString' -/
def strings_Builder_WriteString (K : K1) (b0 s1 : Value) (w : World) : Prop :=
  sCall Tryd.prog 64 [b0] w fun x7 w =>
  sNil b0 w fun x10 w =>
  sFldA Tryd.prog 102 x10 1 w fun x11 w =>
  sLoad Tryd.prog 100 x11 w fun x12 w =>
  sBuiltin Tryd.prog .append [100, 9] 100 [x12, s1] w fun x14 w =>
  sNil b0 w fun x15 w =>
  sFldA Tryd.prog 102 x15 1 w fun x16 w =>
  sStore Tryd.prog 100 x16 x14 w fun w =>
  sBuiltin Tryd.prog .len [9] 3 [s1] w fun x18 w =>
  K (.tuple #[x18, .nilIface]) w

def strings_Builder_WriteString.sc : SC := (.seq (.reg (.op 0 (.op 1 .done))) (.seq (.reg (.op 0 (.op 1 .done))) (.seq (.reg (.op 0 (.op 1 (.op 2 (.op 3 (.op 4 (.op 5 (.op 6 (.op 7 (.op 8 (.op 9 .done))))))))))) (.seq (.reg (.op 0 (.op 1 (.op 2 (.op 3 .done))))) .nop))))

theorem strings_Builder_WriteString.ok : okC Tryd.f50.ntmps strings_Builder_WriteString.sc (bodyOf Tryd.f50) = true := by kernel_rfl

theorem strings_Builder_WriteString.eq {K : K1} {b0 s1 : Value} {w : World} : strings_Builder_WriteString K b0 s1 w = codeS Tryd.prog strings_Builder_WriteString.sc (bodyOf Tryd.f50) (argsF 0 [b0, s1]) w (retQ Tryd.prog Tryd.f50.results.toList K) := by kernel_rfl

theorem strings_Builder_WriteString.call {K : K1} {b0 s1 : Value} {w : World} (h : strings_Builder_WriteString K b0 s1 w) : sCall Tryd.prog 50 [b0, s1] w K := sCall_code mixed Tryd.func50 (by kernel_rfl) rfl rfl strings_Builder_WriteString.ok strings_Builder_WriteString.eq h

abbrev strings_Builder_WriteString.n : Nat := 50

/-- '(*bodkin rope.Rope).tree' -/
def rope_Rope_tree (K : K1) (r0 : Value) (w : World) : Prop :=
  sBin Tryd.prog .eql 25 false true r0 (.pointer none) w fun x4 w =>
  sIf x4 (
    K (.pointer none) w) (
    sNil r0 w fun x6 w =>
    sFldA Tryd.prog 57 x6 0 w fun x7 w =>
    sLoad Tryd.prog 51 x7 w fun x8 w =>
    K x8 w)

def rope_Rope_tree.sc : SC := (.seq (.reg (.op 0 .done)) (.seq (.seq (.reg (.op 0 (.op 1 .done))) (.cond (.seq (.reg (.op 0 .done)) .nop) .nop)) (.seq (.reg (.op 0 (.op 1 (.op 2 (.op 3 (.op 4 .done)))))) .nop)))

theorem rope_Rope_tree.ok : okC Tryd.f52.ntmps rope_Rope_tree.sc (bodyOf Tryd.f52) = true := by kernel_rfl

theorem rope_Rope_tree.eq {K : K1} {r0 : Value} {w : World} : rope_Rope_tree K r0 w = codeS Tryd.prog rope_Rope_tree.sc (bodyOf Tryd.f52) (argsF 0 [r0]) w (retQ Tryd.prog Tryd.f52.results.toList K) := by kernel_rfl

theorem rope_Rope_tree.call {K : K1} {r0 : Value} {w : World} (h : rope_Rope_tree K r0 w) : sCall Tryd.prog 52 [r0] w K := sCall_code mixed Tryd.func52 (by kernel_rfl) rfl rfl rope_Rope_tree.ok rope_Rope_tree.eq h

abbrev rope_Rope_tree.n : Nat := 52

/-- '(*bodkin tree.Tree).Items' -/
def tree_Tree_Items (K : K1) (t0 : Value) (w : World) : Prop :=
  sAlloc Tryd.prog 54 w fun out3 w =>
  sCall Tryd.prog 67 [t0] w fun x5 w =>
  sFunc Tryd.prog (.func 68) [] [out3] w fun x6 w =>
  sCall Tryd.prog 66 [x5, x6] w fun x7 w =>
  sLoad Tryd.prog 54 out3 w fun x8 w =>
  K x8 w

def tree_Tree_Items.sc : SC := (.seq (.reg (.op 0 .done)) (.seq (.reg (.op 0 .done)) (.seq (.reg (.op 0 (.op 1 (.op 2 (.op 3 .done))))) (.seq (.reg (.op 0 (.op 1 .done))) .nop))))

theorem tree_Tree_Items.ok : okC Tryd.f53.ntmps tree_Tree_Items.sc (bodyOf Tryd.f53) = true := by kernel_rfl

theorem tree_Tree_Items.eq {K : K1} {t0 : Value} {w : World} : tree_Tree_Items K t0 w = codeS Tryd.prog tree_Tree_Items.sc (bodyOf Tryd.f53) (argsF 0 [t0]) w (retQ Tryd.prog Tryd.f53.results.toList K) := by kernel_rfl

theorem tree_Tree_Items.call {K : K1} {t0 : Value} {w : World} (h : tree_Tree_Items K t0 w) : sCall Tryd.prog 53 [t0] w K := sCall_code mixed Tryd.func53 (by kernel_rfl) rfl rfl tree_Tree_Items.ok tree_Tree_Items.eq h

abbrev tree_Tree_Items.n : Nat := 53

/-- '(*bodkin find.search).letterAt' -/
def find_search_letterAt (K : K1) (s0 at1 : Value) (w : World) : Prop :=
  sBin Tryd.prog .geq 3 false true at1 (.int .i64 0) w fun x6 w =>
  sIf x6 (
    sNil s0 w fun x10 w =>
    sFldA Tryd.prog 62 x10 0 w fun x11 w =>
    sLoad Tryd.prog 32 x11 w fun x12 w =>
    sBuiltin Tryd.prog .len [32] 3 [x12] w fun x13 w =>
    sBin Tryd.prog .lss 3 false false at1 x13 w fun x14 w =>
    sIf x14 (
      sNil s0 w fun x18 w =>
      sFldA Tryd.prog 62 x18 0 w fun x19 w =>
      sLoad Tryd.prog 32 x19 w fun x20 w =>
      sIdxA Tryd.prog 32 x20 at1 w fun x22 w =>
      sLoad Tryd.prog 21 x22 w fun x23 w =>
      sCall Tryd.prog 55 [x23] w fun x24 w =>
      sBin Tryd.prog .eql 3 false true x24 (.int .i64 1) w fun x25 w =>
      K x25 w) (
      K (.bool false) w)) (
    K (.bool false) w)

def find_search_letterAt.sc : SC := (.seq (.reg (.op 0 .done)) (.seq (.reg (.op 0 (.op 1 (.op 2 (.test 2 (.op 3 (.op 4 (.op 5 (.op 6 (.op 7 (.op 8 (.op 9 (.op 10 (.op 11 (.test 11 (.op 12 (.op 13 (.op 14 (.op 15 (.op 16 (.op 17 (.op 18 (.op 19 (.op 20 (.op 21 (.op 22 .done))))))))))) (.skip 12 (.skip 13 (.skip 14 (.skip 15 (.skip 16 (.skip 17 (.skip 18 (.skip 19 (.skip 20 (.op 21 (.op 22 .done))))))))))))))))))))) (.skip 3 (.skip 4 (.skip 5 (.skip 6 (.skip 7 (.skip 8 (.skip 9 (.op 10 (.op 11 (.know 11 false (.skip 12 (.skip 13 (.skip 14 (.skip 15 (.skip 16 (.skip 17 (.skip 18 (.skip 19 (.skip 20 (.op 21 (.op 22 .done)))))))))))))))))))))))))) .nop))

theorem find_search_letterAt.ok : okC Tryd.f54.ntmps find_search_letterAt.sc (bodyOf Tryd.f54) = true := by kernel_rfl

theorem find_search_letterAt.eq {K : K1} {s0 at1 : Value} {w : World} : find_search_letterAt K s0 at1 w = codeS Tryd.prog find_search_letterAt.sc (bodyOf Tryd.f54) (argsF 0 [s0, at1]) w (retQ Tryd.prog Tryd.f54.results.toList K) := by kernel_rfl

theorem find_search_letterAt.call {K : K1} {s0 at1 : Value} {w : World} (h : find_search_letterAt K s0 at1 w) : sCall Tryd.prog 54 [s0, at1] w K := sCall_code mixed Tryd.func54 (by kernel_rfl) rfl rfl find_search_letterAt.ok find_search_letterAt.eq h

abbrev find_search_letterAt.n : Nat := 54

/-- 'bodkin moves.Class' -/
def moves_Class_J4 (K : K1) (r0 : Value) (x14_2 : Value) (w : World) : Prop :=
  sIf x14_2 (
    sIf x14_2 (
      K (.int .i64 1) w) (
      K (.int .i64 2) w)) (
    sBin Tryd.prog .eql 21 false true r0 (.int .i32 95) w fun x34 w =>
    sIf x34 (
      sIf x34 (
        K (.int .i64 1) w) (
        K (.int .i64 2) w)) (
      sBin Tryd.prog .geq 21 false true r0 (.int .i32 128) w fun x36 w =>
      sIf x36 (
        K (.int .i64 1) w) (
        K (.int .i64 2) w)))

def moves_Class_J3 (K : K1) (r0 : Value) (x14_1 : Value) (w : World) : Prop :=
  sIf x14_1 (
    sIf x14_1 (
      K (.int .i64 1) w) (
      K (.int .i64 2) w)) (
    JoinS 1 6 (fun M4 =>
      sBin Tryd.prog .geq 21 false true r0 (.int .i32 48) w fun x28 w =>
      sIf x28 (
        sBin Tryd.prog .leq 21 false true r0 (.int .i32 57) w fun x31 w =>
        M4 [x31] w) (
        M4 [(.bool false)] w)) fun us _ w =>
      moves_Class_J4 K r0 (hd us) w)

def moves_Class_J2 (K : K1) (r0 : Value) (x14 : Value) (w : World) : Prop :=
  sIf x14 (
    sIf x14 (
      K (.int .i64 1) w) (
      K (.int .i64 2) w)) (
    JoinS 1 6 (fun M3 =>
      sBin Tryd.prog .geq 21 false true r0 (.int .i32 65) w fun x22 w =>
      sIf x22 (
        sBin Tryd.prog .leq 21 false true r0 (.int .i32 90) w fun x25 w =>
        M3 [x25] w) (
        M3 [(.bool false)] w)) fun us _ w =>
      moves_Class_J3 K r0 (hd us) w)

def moves_Class_J1 (K : K1) (r0 : Value) (x3 : Value) (w : World) : Prop :=
  sIf x3 (
    K (.int .i64 0) w) (
    JoinS 1 6 (fun M2 =>
      sBin Tryd.prog .geq 21 false true r0 (.int .i32 97) w fun x16 w =>
      sIf x16 (
        sBin Tryd.prog .leq 21 false true r0 (.int .i32 122) w fun x19 w =>
        M2 [x19] w) (
        M2 [(.bool false)] w)) fun us _ w =>
      moves_Class_J2 K r0 (hd us) w)

def moves_Class (K : K1) (r0 : Value) (w : World) : Prop :=
  JoinS 1 10 (fun M1 =>
    sBin Tryd.prog .eql 21 false true r0 (.int .i32 32) w fun x5 w =>
    sIf x5 (
      M1 [(.bool true)] w) (
      sBin Tryd.prog .eql 21 false true r0 (.int .i32 9) w fun x8 w =>
      sIf x8 (
        M1 [(.bool true)] w) (
        sBin Tryd.prog .eql 21 false true r0 (.int .i32 10) w fun x12 w =>
        M1 [x12] w))) fun us _ w =>
    moves_Class_J1 K r0 (hd us) w

def moves_Class.sc : SC := (.seq (.reg (.op 0 .done)) (.seq (.sub (.join [3] [4, 5, 6, 7, 8, 9, 10, 11, 12, 13] (.reg (.op 0 (.op 1 (.op 2 (.test 2 (.skip 3 (.skip 4 (.op 5 (.op 6 (.know 6 true (.skip 7 (.skip 8 (.op 9 (.op 10 .done))))))))) (.op 3 (.op 4 (.op 5 (.op 6 (.test 6 (.skip 7 (.skip 8 (.op 9 (.op 10 .done)))) (.op 7 (.op 8 (.op 9 (.op 10 .done)))))))))))))) (.cond (.seq (.reg (.op 0 .done)) .nop) (.seq (.join [14] [15, 16, 17, 18, 19, 20] (.reg (.op 0 (.op 1 (.op 2 (.test 2 (.op 3 (.op 4 (.op 5 (.op 6 .done)))) (.skip 3 (.skip 4 (.op 5 (.op 6 .done))))))))) (.cond .nop (.join [14] [21, 22, 23, 24, 25, 26] (.reg (.op 0 (.op 1 (.op 2 (.test 2 (.op 3 (.op 4 (.op 5 (.op 6 .done)))) (.skip 3 (.skip 4 (.op 5 (.op 6 .done))))))))) (.cond .nop (.join [14] [27, 28, 29, 30, 31, 32] (.reg (.op 0 (.op 1 (.op 2 (.test 2 (.op 3 (.op 4 (.op 5 (.op 6 .done)))) (.skip 3 (.skip 4 (.op 5 (.op 6 .done))))))))) (.cond .nop (.seq (.reg (.op 0 (.op 1 (.op 2 .done)))) (.cond .nop (.reg (.op 0 (.op 1 (.op 2 .done)))))))))))) (.cond (.seq (.reg (.op 0 .done)) .nop) .nop))))) (.seq (.reg (.op 0 .done)) .nop)))

theorem moves_Class.ok : okC Tryd.f55.ntmps moves_Class.sc (bodyOf Tryd.f55) = true := by kernel_rfl

theorem moves_Class.eq {K : K1} {r0 : Value} {w : World} : moves_Class K r0 w = codeS Tryd.prog moves_Class.sc (bodyOf Tryd.f55) (argsF 0 [r0]) w (retQ Tryd.prog Tryd.f55.results.toList K) := by kernel_rfl

theorem moves_Class.call {K : K1} {r0 : Value} {w : World} (h : moves_Class K r0 w) : sCall Tryd.prog 55 [r0] w K := sCall_code mixed Tryd.func55 (by kernel_rfl) rfl rfl moves_Class.ok moves_Class.eq h

abbrev moves_Class.n : Nat := 55

/-- 'bodkin tree.heightOf' -/
def tree_heightOf (K : K1) (n0 : Value) (w : World) : Prop :=
  sAssert Tryd.prog n0 70 76 true w fun x6 w =>
  sExtract x6 1 w fun x7 w =>
  sExtract x6 0 w fun x8 w =>
  sIf x7 (
    K (.int .i64 1) w) (
    sAssert Tryd.prog n0 70 91 true w fun x9 w =>
    sExtract x9 1 w fun x10 w =>
    sExtract x9 0 w fun x11 w =>
    sIf x10 (
      sNil x11 w fun x13 w =>
      sFldA Tryd.prog 112 x13 1 w fun x14 w =>
      sLoad Tryd.prog 3 x14 w fun x15 w =>
      K x15 w) (
      K (.int .i64 0) w))

def tree_heightOf.sc : SC := (.seq (.reg (.op 0 .done)) (.seq (.seq (.reg (.op 0 .done)) (.sub (.seq (.reg (.op 0 (.op 1 (.op 2 .done)))) (.cond (.seq (.reg (.op 0 .done)) (.seq (.reg (.op 0 .done)) .nop)) (.seq (.reg (.op 0 (.op 1 (.op 2 .done)))) (.cond (.seq (.reg (.op 0 .done)) (.seq (.reg (.op 0 (.op 1 (.op 2 (.op 3 (.op 4 .done)))))) .nop)) .nop)))))) (.seq (.reg (.op 0 .done)) .nop)))

theorem tree_heightOf.ok : okC Tryd.f56.ntmps tree_heightOf.sc (bodyOf Tryd.f56) = true := by kernel_rfl

theorem tree_heightOf.eq {K : K1} {n0 : Value} {w : World} : tree_heightOf K n0 w = codeS Tryd.prog tree_heightOf.sc (bodyOf Tryd.f56) (argsF 0 [n0]) w (retQ Tryd.prog Tryd.f56.results.toList K) := by kernel_rfl

theorem tree_heightOf.call {K : K1} {n0 : Value} {w : World} (h : tree_heightOf K n0 w) : sCall Tryd.prog 56 [n0] w K := sCall_code mixed Tryd.func56 (by kernel_rfl) rfl rfl tree_heightOf.ok tree_heightOf.eq h

abbrev tree_heightOf.n : Nat := 56

/-- 'bodkin tree.raise' -/
def tree_raise (K : K1) (kids0 : Value) (w : World) : Prop :=
  sBuiltin Tryd.prog .len [89] 3 [kids0] w fun x5 w =>
  sBin Tryd.prog .leq 3 false true x5 (.int .i64 8) w fun x6 w =>
  sIf x6 (
    sCall Tryd.prog 46 [kids0] w fun x8 w =>
    sIface Tryd.prog 91 x8 w fun x9 w =>
    sBuildSlice Tryd.prog 89 1 [(0, x9)] w fun x10 w =>
    K x10 w) (
    sBuiltin Tryd.prog .len [89] 3 [kids0] w fun x12 w =>
    sBin Tryd.prog .quo 3 false true x12 (.int .i64 2) w fun x13 w =>
    DrawS w fun C w =>
    stillS C w (fun w k => sSlice Tryd.prog 89 kids0 none (some x13) (some x13) w k) fun x17 =>
    stillS C w (fun w k => sSlice Tryd.prog 89 kids0 (some x13) none none w k) fun x22 =>
    sCall Tryd.prog 46 [x17] w fun x18 w => C w ∧
    stillS C w (fun w k => sIface Tryd.prog 91 x18 w k) fun x19 =>
    sCall Tryd.prog 46 [x22] w fun x23 w => C w ∧
    stillS C w (fun w k => sIface Tryd.prog 91 x23 w k) fun x24 =>
    sBuildSlice Tryd.prog 89 2 [(0, x19), (1, x24)] w fun x25 w => C w ∧
    K x25 w)

def tree_raise.sc : SC := (.seq (.reg (.op 0 .done)) (.seq (.seq (.reg (.op 0 (.op 1 (.op 2 .done)))) (.cond (.seq (.reg (.op 0 (.op 1 (.op 2 (.op 3 (.op 4 .done)))))) .nop) .nop)) (.seq (.reg (.op 0 (.op 1 (.op 2 (.op 3 .done))))) (.seq (.draw (.op 0 (.op 1 (.op 2 (.op 3 (.op 6 (.op 7 (.op 8 (.op 4 (.op 5 (.op 9 (.op 10 (.op 11 (.op 12 .done)))))))))))))) .nop))))

theorem tree_raise.ok : okC Tryd.f57.ntmps tree_raise.sc (bodyOf Tryd.f57) = true := by kernel_rfl

theorem tree_raise.eq {K : K1} {kids0 : Value} {w : World} : tree_raise K kids0 w = codeS Tryd.prog tree_raise.sc (bodyOf Tryd.f57) (argsF 0 [kids0]) w (retQ Tryd.prog Tryd.f57.results.toList K) := by kernel_rfl

theorem tree_raise.call {K : K1} {kids0 : Value} {w : World} (h : tree_raise K kids0 w) : sCall Tryd.prog 57 [kids0] w K := sCall_code mixed Tryd.func57 (by kernel_rfl) rfl rfl tree_raise.ok tree_raise.eq h

abbrev tree_raise.n : Nat := 57

/-- 'bodkin tree.put' -/
def tree_put (K : K1) (a0 b1 : Value) (w : World) : Prop :=
  sBuiltin Tryd.prog .len [89] 3 [a0] w fun x7 w =>
  sBuiltin Tryd.prog .len [89] 3 [b1] w fun x9 w =>
  sBin Tryd.prog .add 3 false false x7 x9 w fun x10 w =>
  sMake Tryd.prog 89 (.int .i64 0) x10 w fun x11 w =>
  sBuiltin Tryd.prog .append [89, 89] 89 [x11, a0] w fun x14 w =>
  sBuiltin Tryd.prog .append [89, 89] 89 [x14, b1] w fun x17 w =>
  K x17 w

def tree_put.sc : SC := (.seq (.reg (.op 0 .done)) (.seq (.reg (.op 0 (.op 1 (.op 2 (.op 3 (.op 4 (.op 5 (.op 6 .done)))))))) (.seq (.reg (.op 0 (.op 1 (.op 2 (.op 3 .done))))) (.seq (.reg (.op 0 (.op 1 (.op 2 (.op 3 .done))))) .nop))))

theorem tree_put.ok : okC Tryd.f58.ntmps tree_put.sc (bodyOf Tryd.f58) = true := by kernel_rfl

theorem tree_put.eq {K : K1} {a0 b1 : Value} {w : World} : tree_put K a0 b1 w = codeS Tryd.prog tree_put.sc (bodyOf Tryd.f58) (argsF 0 [a0, b1]) w (retQ Tryd.prog Tryd.f58.results.toList K) := by kernel_rfl

theorem tree_put.call {K : K1} {a0 b1 : Value} {w : World} (h : tree_put K a0 b1 w) : sCall Tryd.prog 58 [a0, b1] w K := sCall_code mixed Tryd.func58 (by kernel_rfl) rfl rfl tree_put.ok tree_put.eq h

abbrev tree_put.n : Nat := 58

/-- 'bodkin tree.spread' -/
def tree_spread (K : K1) (l0 : Value) (w : World) : Prop :=
  sBuiltin Tryd.prog .len [54] 3 [l0] w fun x5 w =>
  sBin Tryd.prog .leq 3 false true x5 (.int .i64 8) w fun x6 w =>
  sIf x6 (
    sCall Tryd.prog 34 [l0] w fun x8 w =>
    sIface Tryd.prog 76 x8 w fun x9 w =>
    sBuildSlice Tryd.prog 89 1 [(0, x9)] w fun x10 w =>
    K x10 w) (
    sBuiltin Tryd.prog .len [54] 3 [l0] w fun x12 w =>
    sBin Tryd.prog .quo 3 false true x12 (.int .i64 2) w fun x13 w =>
    DrawS w fun C w =>
    stillS C w (fun w k => sSlice Tryd.prog 54 l0 none (some x13) (some x13) w k) fun x17 =>
    stillS C w (fun w k => sSlice Tryd.prog 54 l0 (some x13) none none w k) fun x22 =>
    sCall Tryd.prog 34 [x17] w fun x18 w => C w ∧
    stillS C w (fun w k => sIface Tryd.prog 76 x18 w k) fun x19 =>
    sCall Tryd.prog 34 [x22] w fun x23 w => C w ∧
    stillS C w (fun w k => sIface Tryd.prog 76 x23 w k) fun x24 =>
    sBuildSlice Tryd.prog 89 2 [(0, x19), (1, x24)] w fun x25 w => C w ∧
    K x25 w)

def tree_spread.sc : SC := (.seq (.reg (.op 0 .done)) (.seq (.seq (.reg (.op 0 (.op 1 (.op 2 .done)))) (.cond (.seq (.reg (.op 0 (.op 1 (.op 2 (.op 3 (.op 4 .done)))))) .nop) .nop)) (.seq (.reg (.op 0 (.op 1 (.op 2 (.op 3 .done))))) (.seq (.draw (.op 0 (.op 1 (.op 2 (.op 3 (.op 6 (.op 7 (.op 8 (.op 4 (.op 5 (.op 9 (.op 10 (.op 11 (.op 12 .done)))))))))))))) .nop))))

theorem tree_spread.ok : okC Tryd.f59.ntmps tree_spread.sc (bodyOf Tryd.f59) = true := by kernel_rfl

theorem tree_spread.eq {K : K1} {l0 : Value} {w : World} : tree_spread K l0 w = codeS Tryd.prog tree_spread.sc (bodyOf Tryd.f59) (argsF 0 [l0]) w (retQ Tryd.prog Tryd.f59.results.toList K) := by kernel_rfl

theorem tree_spread.call {K : K1} {l0 : Value} {w : World} (h : tree_spread K l0 w) : sCall Tryd.prog 59 [l0] w K := sCall_code mixed Tryd.func59 (by kernel_rfl) rfl rfl tree_spread.ok tree_spread.eq h

abbrev tree_spread.n : Nat := 59

/-- 'bodkin item.Add' -/
def item_Add_J2 (K : K1) (a2 b3 s5 x4 : Value) (x47 : Value) (w : World) : Prop :=
  sIf x47 (
    DrawS w fun C w =>
    stillS C w (fun w k => sFldA Tryd.prog 94 b3 2 w k) fun x48 =>
    stillS C w (fun w k => sLoad Tryd.prog 3 x48 w k) fun x49 =>
    stillS C w (fun w k => sFldA Tryd.prog 94 a2 0 w k) fun x50 =>
    stillS C w (fun w k => sLoad Tryd.prog 3 x50 w k) fun x51 =>
    stillS C w (fun w k => sFldA Tryd.prog 94 b3 3 w k) fun x52 =>
    stillS C w (fun w k => sLoad Tryd.prog 3 x52 w k) fun x53 =>
    stillS C w (fun w k => sBin Tryd.prog .add 3 false false x51 x53 w k) fun x54 =>
    stillS C w (fun w k => sFldA Tryd.prog 94 s5 2 w k) fun x55 =>
    sStore Tryd.prog 3 x55 x49 w fun w => C w ∧
    stillS C w (fun w k => sFldA Tryd.prog 94 s5 3 w k) fun x56 =>
    sStore Tryd.prog 3 x56 x54 w fun w =>
    sLoad Tryd.prog 94 s5 w fun x57 w =>
    sStore Tryd.prog 94 x4 x57 w fun w =>
    sLoad Tryd.prog 94 x4 w fun v w' => w' = w ∧ K v w) (
    sLoad Tryd.prog 94 s5 w fun x57_1 w =>
    sStore Tryd.prog 94 x4 x57_1 w fun w =>
    sLoad Tryd.prog 94 x4 w fun v w' => w' = w ∧ K v w)

def item_Add_L1 (K : K1) (Nx1 : List Value → World → Prop) (a2 b3 s5 x4 : Value) (x17 : Value) (w : World) : Prop :=
  sBin Tryd.prog .lss 3 false true x17 (.int .i64 3) w fun x18 w =>
  sIf x18 (
    DrawS w fun C w =>
    stillS C w (fun w k => sFldA Tryd.prog 94 a2 1 w k) fun x22 =>
    stillS C w (fun w k => sIdxA Tryd.prog 71 x22 x17 w k) fun x23 =>
    stillS C w (fun w k => sLoad Tryd.prog 3 x23 w k) fun x24 =>
    stillS C w (fun w k => sFldA Tryd.prog 94 b3 1 w k) fun x26 =>
    stillS C w (fun w k => sIdxA Tryd.prog 71 x26 x17 w k) fun x27 =>
    stillS C w (fun w k => sLoad Tryd.prog 3 x27 w k) fun x28 =>
    stillS C w (fun w k => sBin Tryd.prog .add 3 false false x24 x28 w k) fun x29 =>
    stillS C w (fun w k => sFldA Tryd.prog 94 s5 1 w k) fun x30 =>
    stillS C w (fun w k => sIdxA Tryd.prog 71 x30 x17 w k) fun x31 =>
    sStore Tryd.prog 3 x31 x29 w fun w =>
    sBin Tryd.prog .add 3 false true x17 (.int .i64 1) w fun x32 w =>
    Nx1 [x32] w) (
    JoinS 1 14 (fun M2 =>
      sFldA Tryd.prog 94 b3 0 w fun x33 w =>
      sLoad Tryd.prog 3 x33 w fun x34 w =>
      sBin Tryd.prog .gtr 3 false true x34 (.int .i64 0) w fun x35 w =>
      sIf x35 (
        sFldA Tryd.prog 94 a2 0 w fun x37 w =>
        sLoad Tryd.prog 3 x37 w fun x38 w =>
        sBin Tryd.prog .eql 3 false true x38 (.int .i64 0) w fun x39 w =>
        sIf x39 (
          M2 [(.bool true)] w) (
          sFldA Tryd.prog 94 b3 2 w fun x41 w =>
          sLoad Tryd.prog 3 x41 w fun x42 w =>
          sFldA Tryd.prog 94 a2 2 w fun x43 w =>
          sLoad Tryd.prog 3 x43 w fun x44 w =>
          sBin Tryd.prog .gtr 3 false false x42 x44 w fun x45 w =>
          M2 [x45] w)) (
        M2 [(.bool false)] w)) fun us _ w =>
      item_Add_J2 K a2 b3 s5 x4 (hd us) w)

def item_Add (K : K1) (a0 b1 : Value) (w : World) : Prop :=
  sBox Tryd.prog 94 a0 w fun a2 w =>
  sBox Tryd.prog 94 b1 w fun b3 w =>
  sAlloc Tryd.prog 94 w fun x4 w =>
  sFldA Tryd.prog 94 a2 0 w fun x7 w =>
  sLoad Tryd.prog 3 x7 w fun x8 w =>
  sFldA Tryd.prog 94 b3 0 w fun x9 w =>
  sLoad Tryd.prog 3 x9 w fun x10 w =>
  sBin Tryd.prog .add 3 false false x8 x10 w fun x11 w =>
  sFldA Tryd.prog 94 a2 2 w fun x12 w =>
  sLoad Tryd.prog 3 x12 w fun x13 w =>
  sFldA Tryd.prog 94 a2 3 w fun x14 w =>
  sLoad Tryd.prog 3 x14 w fun x15 w =>
  sBuild Tryd.prog 94 [(0, x11), (2, x13), (3, x15)] w fun x16 w =>
  sAlloc Tryd.prog 94 w fun s5 w =>
  sStore Tryd.prog 94 s5 x16 w fun w =>
  LoopS [(.int .i64 0)] 1 16 w fun us _ w Nx1 =>
    item_Add_L1 K Nx1 a2 b3 s5 x4 (hd us) w

def item_Add.sc : SC := (.seq (.reg (.op 0 (.op 1 (.op 2 .done)))) (.seq (.reg (.op 0 (.op 1 (.op 2 (.op 3 (.op 4 (.op 5 (.op 6 (.op 7 (.op 8 (.op 9 (.op 10 (.op 11 .done))))))))))))) (.seq (.seq (.reg (.op 0 .done)) (.sub (.loop [17] [18, 19, 6, 20, 21, 22, 23, 24, 25, 26, 27, 28, 29, 30, 31, 32] (.seq (.reg (.op 0 .done)) (.seq (.cond .nop .nop) (.seq (.sub (.seq (.reg (.op 0 (.op 1 .done))) (.draw (.op 0 (.op 1 (.op 2 (.op 3 (.op 4 (.op 5 (.op 6 (.op 7 (.op 8 (.op 9 (.op 10 (.op 11 (.fin 12 .done)))))))))))))))) (.reg (.op 0 (.op 1 .done))))))))) (.seq (.join [47] [33, 34, 35, 36, 37, 38, 39, 40, 41, 42, 43, 44, 45, 46] (.reg (.op 0 (.op 1 (.op 2 (.op 3 (.test 3 (.op 4 (.op 5 (.op 6 (.op 7 (.test 7 (.skip 8 (.skip 9 (.skip 10 (.skip 11 (.skip 12 (.op 13 (.op 14 .done))))))) (.op 8 (.op 9 (.op 10 (.op 11 (.op 12 (.op 13 (.op 14 .done)))))))))))) (.skip 4 (.skip 5 (.skip 6 (.skip 7 (.skip 8 (.skip 9 (.skip 10 (.skip 11 (.skip 12 (.skip 13 (.op 14 .done))))))))))))))))) (.cond (.draw (.op 0 (.op 1 (.op 2 (.op 3 (.op 4 (.op 5 (.op 6 (.op 7 (.op 8 (.op 9 (.fin 10 .done)))))))))))) .nop)) (.seq (.reg (.op 0 (.op 1 .done))) .nop)))))

theorem item_Add.ok : okC Tryd.f60.ntmps item_Add.sc (bodyOf Tryd.f60) = true := by kernel_rfl

theorem item_Add.eq {K : K1} {a0 b1 : Value} {w : World} : item_Add K a0 b1 w = codeS Tryd.prog item_Add.sc (bodyOf Tryd.f60) (argsF 0 [a0, b1]) w (retQ Tryd.prog Tryd.f60.results.toList K) := by kernel_rfl

theorem item_Add.call {K : K1} {a0 b1 : Value} {w : World} (h : item_Add K a0 b1 w) : sCall Tryd.prog 60 [a0, b1] w K := sCall_code mixed Tryd.func60 (by kernel_rfl) rfl rfl item_Add.ok item_Add.eq h

abbrev item_Add.n : Nat := 60

/-- 'bodkin tree.sumOf' -/
def tree_sumOf (K : K1) (n0 : Value) (w : World) : Prop :=
  sAlloc Tryd.prog 94 w fun x2 w =>
  sAssert Tryd.prog n0 70 76 true w fun x6 w =>
  sExtract x6 1 w fun x7 w =>
  sExtract x6 0 w fun x8 w =>
  sIf x7 (
    sNil x8 w fun x10 w =>
    sFldA Tryd.prog 97 x10 1 w fun x11 w =>
    sLoad Tryd.prog 94 x11 w fun x12 w =>
    sStore Tryd.prog 94 x2 x12 w fun w =>
    sLoad Tryd.prog 94 x2 w fun v w' => w' = w ∧ K v w) (
    sAssert Tryd.prog n0 70 91 true w fun x13 w =>
    sExtract x13 1 w fun x14 w =>
    sExtract x13 0 w fun x15 w =>
    sIf x14 (
      sNil x15 w fun x17 w =>
      sFldA Tryd.prog 112 x17 2 w fun x18 w =>
      sLoad Tryd.prog 94 x18 w fun x19 w =>
      sStore Tryd.prog 94 x2 x19 w fun w =>
      sLoad Tryd.prog 94 x2 w fun v w' => w' = w ∧ K v w) (
      sBuild Tryd.prog 94 [] w fun x20 w =>
      sStore Tryd.prog 94 x2 x20 w fun w =>
      sLoad Tryd.prog 94 x2 w fun v w' => w' = w ∧ K v w))

def tree_sumOf.sc : SC := (.seq (.reg (.op 0 .done)) (.seq (.seq (.reg (.op 0 .done)) (.sub (.seq (.reg (.op 0 (.op 1 (.op 2 .done)))) (.cond (.seq (.reg (.op 0 .done)) (.seq (.reg (.op 0 (.op 1 (.op 2 (.op 3 (.op 4 .done)))))) .nop)) (.seq (.reg (.op 0 (.op 1 (.op 2 .done)))) (.cond (.seq (.reg (.op 0 .done)) (.seq (.reg (.op 0 (.op 1 (.op 2 (.op 3 (.op 4 .done)))))) .nop)) .nop)))))) (.seq (.reg (.op 0 (.op 1 .done))) .nop)))

theorem tree_sumOf.ok : okC Tryd.f61.ntmps tree_sumOf.sc (bodyOf Tryd.f61) = true := by kernel_rfl

theorem tree_sumOf.eq {K : K1} {n0 : Value} {w : World} : tree_sumOf K n0 w = codeS Tryd.prog tree_sumOf.sc (bodyOf Tryd.f61) (argsF 0 [n0]) w (retQ Tryd.prog Tryd.f61.results.toList K) := by kernel_rfl

theorem tree_sumOf.call {K : K1} {n0 : Value} {w : World} (h : tree_sumOf K n0 w) : sCall Tryd.prog 61 [n0] w K := sCall_code mixed Tryd.func61 (by kernel_rfl) rfl rfl tree_sumOf.ok tree_sumOf.eq h

abbrev tree_sumOf.n : Nat := 61

/-- 'bodkin item.Of' -/
def item_Of (K : K1) (i0 : Value) (w : World) : Prop :=
  sBox Tryd.prog 73 i0 w fun i1 w =>
  sAlloc Tryd.prog 94 w fun x2 w =>
  sFldA Tryd.prog 73 i1 2 w fun x3 w =>
  sLoad Tryd.prog 71 x3 w fun x4 w =>
  sFldA Tryd.prog 73 i1 3 w fun x5 w =>
  sLoad Tryd.prog 3 x5 w fun x6 w =>
  sBuild Tryd.prog 94 [(0, (.int .i64 1)), (1, x4), (2, x6)] w fun x7 w =>
  sStore Tryd.prog 94 x2 x7 w fun w =>
  sLoad Tryd.prog 94 x2 w fun v w' => w' = w ∧ K v w

def item_Of.sc : SC := (.seq (.reg (.op 0 (.op 1 .done))) (.seq (.reg (.op 0 (.op 1 (.op 2 (.op 3 (.op 4 (.op 5 .done))))))) .nop))

theorem item_Of.ok : okC Tryd.f62.ntmps item_Of.sc (bodyOf Tryd.f62) = true := by kernel_rfl

theorem item_Of.eq {K : K1} {i0 : Value} {w : World} : item_Of K i0 w = codeS Tryd.prog item_Of.sc (bodyOf Tryd.f62) (argsF 0 [i0]) w (retQ Tryd.prog Tryd.f62.results.toList K) := by kernel_rfl

theorem item_Of.call {K : K1} {i0 : Value} {w : World} (h : item_Of K i0 w) : sCall Tryd.prog 62 [i0] w K := sCall_code mixed Tryd.func62 (by kernel_rfl) rfl rfl item_Of.ok item_Of.eq h

abbrev item_Of.n : Nat := 62

/-- 'bodkin utf.right' -/
def utf_right (K : K1) (r0 : Value) (w : World) : Prop :=
  sBin Tryd.prog .geq 21 false true r0 (.int .i32 0) w fun x4 w =>
  sIf x4 (
    sIdxA Tryd.prog 125 (.pointer (some ⟨0, 0, none⟩)) (.int .i64 3) w fun x7 w =>
    sLoad Tryd.prog 21 x7 w fun x8 w =>
    sBin Tryd.prog .leq 21 false false r0 x8 w fun x9 w =>
    sIf x9 (
      sBin Tryd.prog .lss 21 false true r0 (.int .i32 55296) w fun x13 w =>
      sIf x13 (
        K (.bool true) w) (
        sBin Tryd.prog .gtr 21 false true r0 (.int .i32 57343) w fun x16 w =>
        K x16 w)) (
      K (.bool false) w)) (
    K (.bool false) w)

def utf_right.sc : SC := (.seq (.reg (.op 0 .done)) (.seq (.reg (.op 0 (.op 1 (.op 2 (.test 2 (.op 3 (.op 4 (.op 5 (.op 6 (.op 7 (.op 8 (.test 8 (.op 9 (.op 10 (.op 11 (.test 11 (.skip 12 (.skip 13 (.op 14 (.op 15 (.op 16 .done))))) (.op 12 (.op 13 (.op 14 (.op 15 (.op 16 .done))))))))) (.skip 9 (.skip 10 (.skip 11 (.skip 12 (.skip 13 (.skip 14 (.op 15 (.op 16 .done))))))))))))))) (.skip 3 (.skip 4 (.skip 5 (.skip 6 (.op 7 (.op 8 (.know 8 false (.skip 9 (.skip 10 (.skip 11 (.skip 12 (.skip 13 (.skip 14 (.op 15 (.op 16 .done)))))))))))))))))))) .nop))

theorem utf_right.ok : okC Tryd.f63.ntmps utf_right.sc (bodyOf Tryd.f63) = true := by kernel_rfl

theorem utf_right.eq {K : K1} {r0 : Value} {w : World} : utf_right K r0 w = codeS Tryd.prog utf_right.sc (bodyOf Tryd.f63) (argsF 0 [r0]) w (retQ Tryd.prog Tryd.f63.results.toList K) := by kernel_rfl

theorem utf_right.call {K : K1} {r0 : Value} {w : World} (h : utf_right K r0 w) : sCall Tryd.prog 63 [r0] w K := sCall_code mixed Tryd.func63 (by kernel_rfl) rfl rfl utf_right.ok utf_right.eq h

abbrev utf_right.n : Nat := 63

/-- '(*strings.Builder).copyCheck' -/
def strings_Builder_copyCheck (K : K1) (b0 : Value) (w : World) : Prop :=
  sNil b0 w fun x3 w =>
  sFldA Tryd.prog 102 x3 0 w fun x4 w =>
  sLoad Tryd.prog 99 x4 w fun x5 w =>
  sBin Tryd.prog .eql 99 false true x5 (.pointer none) w fun x6 w =>
  sIf x6 (
    sConv Tryd.prog 99 126 b0 w fun x9 w =>
    sCall Tryd.prog 69 [x9] w fun x10 w =>
    sConv Tryd.prog 126 99 x10 w fun x11 w =>
    sNil b0 w fun x12 w =>
    sFldA Tryd.prog 102 x12 0 w fun x13 w =>
    sStore Tryd.prog 99 x13 x11 w fun w =>
    K (.tuple #[]) w) (
    sNil b0 w fun x15 w =>
    sFldA Tryd.prog 102 x15 0 w fun x16 w =>
    sLoad Tryd.prog 99 x16 w fun x17 w =>
    sBin Tryd.prog .neq 99 false false x17 b0 w fun x19 w =>
    sIf x19 (
      False) (
      K (.tuple #[]) w))

def strings_Builder_copyCheck.sc : SC := (.seq (.reg (.op 0 (.op 1 (.op 2 (.op 3 (.op 4 .done)))))) (.cond (.reg (.op 0 (.op 1 (.op 2 (.op 3 (.op 4 (.op 5 (.op 6 (.op 7 .done))))))))) (.seq (.reg (.op 0 (.op 1 (.op 2 (.op 3 (.op 4 (.op 5 .done))))))) (.cond .nop .nop))))

theorem strings_Builder_copyCheck.ok : okC Tryd.f64.ntmps strings_Builder_copyCheck.sc (bodyOf Tryd.f64) = true := by kernel_rfl

theorem strings_Builder_copyCheck.eq {K : K1} {b0 : Value} {w : World} : strings_Builder_copyCheck K b0 w = codeS Tryd.prog strings_Builder_copyCheck.sc (bodyOf Tryd.f64) (argsF 0 [b0]) w (retQ Tryd.prog Tryd.f64.results.toList K) := by kernel_rfl

theorem strings_Builder_copyCheck.call {K : K1} {b0 : Value} {w : World} (h : strings_Builder_copyCheck K b0 w) : sCall Tryd.prog 64 [b0] w K := sCall_code mixed Tryd.func64 (by kernel_rfl) rfl rfl strings_Builder_copyCheck.ok strings_Builder_copyCheck.eq h

abbrev strings_Builder_copyCheck.n : Nat := 64

/-- 'bodkin tree.each' -/
def tree_each_L1 (K : K1) (Nx1 : List Value → World → Prop) (f1 x17 x18 : Value) (x19 : Value) (w : World) : Prop :=
  sBin Tryd.prog .lss 3 false false x19 x18 w fun x20 w =>
  sIf x20 (
    sIdxA Tryd.prog 54 x17 x19 w fun x21 w =>
    sLoad Tryd.prog 73 x21 w fun x22 w =>
    sAlloc Tryd.prog 73 w fun i6 w =>
    sStore Tryd.prog 73 i6 x22 w fun w =>
    sLoad Tryd.prog 73 i6 w fun x24 w =>
    sDyn Tryd.prog f1 [x24] w fun x25 w =>
    sBin Tryd.prog .add 3 false true x19 (.int .i64 1) w fun x26 w =>
    Nx1 [x26] w) (
    K (.tuple #[]) w)

def tree_each_L2 (K : K1) (Nx2 : List Value → World → Prop) (f1 x33 x34 : Value) (x35 : Value) (w : World) : Prop :=
  sBin Tryd.prog .lss 3 false false x35 x34 w fun x36 w =>
  sIf x36 (
    sIdxA Tryd.prog 89 x33 x35 w fun x37 w =>
    sLoad Tryd.prog 70 x37 w fun x38 w =>
    sCall Tryd.prog 66 [x38, f1] w fun x41 w =>
    sBin Tryd.prog .add 3 false true x35 (.int .i64 1) w fun x42 w =>
    Nx2 [x42] w) (
    K (.tuple #[]) w)

def tree_each (K : K1) (n0 f1 : Value) (w : World) : Prop :=
  sAssert Tryd.prog n0 70 76 true w fun x11 w =>
  sExtract x11 1 w fun x12 w =>
  sExtract x11 0 w fun x13 w =>
  sIf x12 (
    sNil x13 w fun x15 w =>
    sFldA Tryd.prog 97 x15 0 w fun x16 w =>
    sLoad Tryd.prog 54 x16 w fun x17 w =>
    sBuiltin Tryd.prog .len [54] 3 [x17] w fun x18 w =>
    LoopS [(.int .i64 0)] 1 8 w fun us _ w Nx1 =>
      tree_each_L1 K Nx1 f1 x17 x18 (hd us) w) (
    sAssert Tryd.prog n0 70 91 true w fun x27 w =>
    sExtract x27 1 w fun x28 w =>
    sExtract x27 0 w fun x29 w =>
    sIf x28 (
      sNil x29 w fun x31 w =>
      sFldA Tryd.prog 112 x31 0 w fun x32 w =>
      sLoad Tryd.prog 89 x32 w fun x33 w =>
      sBuiltin Tryd.prog .len [89] 3 [x33] w fun x34 w =>
      LoopS [(.int .i64 0)] 1 8 w fun us _ w Nx2 =>
        tree_each_L2 K Nx2 f1 x33 x34 (hd us) w) (
      K (.tuple #[]) w))

def tree_each.sc : SC := (.seq (.reg (.op 0 .done)) (.sub (.seq (.reg (.op 0 (.op 1 (.op 2 .done)))) (.cond (.seq (.reg (.op 0 .done)) (.seq (.reg (.op 0 (.op 1 (.op 2 (.op 3 (.op 4 (.op 5 .done))))))) (.sub (.loop [19] [20, 21, 22, 6, 23, 24, 25, 26] (.seq (.reg (.op 0 .done)) (.seq (.cond .nop .nop) (.seq (.sub (.seq (.reg (.op 0 (.op 1 (.op 2 (.op 3 .done))))) (.reg (.op 0 (.op 1 (.op 2 .done)))))) (.reg (.op 0 (.op 1 .done)))))))))) (.seq (.reg (.op 0 (.op 1 (.op 2 .done)))) (.cond (.seq (.reg (.op 0 .done)) (.seq (.reg (.op 0 (.op 1 (.op 2 (.op 3 (.op 4 (.op 5 .done))))))) (.sub (.loop [35] [36, 37, 38, 9, 39, 40, 41, 42] (.seq (.reg (.op 0 .done)) (.seq (.cond .nop .nop) (.seq (.sub (.seq (.reg (.op 0 (.op 1 (.op 2 .done)))) (.reg (.op 0 (.op 1 (.op 2 .done)))))) (.reg (.op 0 (.op 1 .done)))))))))) .nop))))))

theorem tree_each.ok : okC Tryd.f66.ntmps tree_each.sc (bodyOf Tryd.f66) = true := by kernel_rfl

theorem tree_each.eq {K : K1} {n0 f1 : Value} {w : World} : tree_each K n0 f1 w = codeS Tryd.prog tree_each.sc (bodyOf Tryd.f66) (argsF 0 [n0, f1]) w (retQ Tryd.prog Tryd.f66.results.toList K) := by kernel_rfl

theorem tree_each.call {K : K1} {n0 f1 : Value} {w : World} (h : tree_each K n0 f1 w) : sCall Tryd.prog 66 [n0, f1] w K := sCall_code mixed Tryd.func66 (by kernel_rfl) rfl rfl tree_each.ok tree_each.eq h

abbrev tree_each.n : Nat := 66

/-- '(*bodkin tree.Tree).top' -/
def tree_Tree_top (K : K1) (t0 : Value) (w : World) : Prop :=
  sBin Tryd.prog .eql 51 false true t0 (.pointer none) w fun x4 w =>
  sIf x4 (
    K .nilIface w) (
    sNil t0 w fun x6 w =>
    sFldA Tryd.prog 79 x6 0 w fun x7 w =>
    sLoad Tryd.prog 70 x7 w fun x8 w =>
    K x8 w)

def tree_Tree_top.sc : SC := (.seq (.reg (.op 0 .done)) (.seq (.seq (.reg (.op 0 (.op 1 .done))) (.cond (.seq (.reg (.op 0 .done)) .nop) .nop)) (.seq (.reg (.op 0 (.op 1 (.op 2 (.op 3 (.op 4 .done)))))) .nop)))

theorem tree_Tree_top.ok : okC Tryd.f67.ntmps tree_Tree_top.sc (bodyOf Tryd.f67) = true := by kernel_rfl

theorem tree_Tree_top.eq {K : K1} {t0 : Value} {w : World} : tree_Tree_top K t0 w = codeS Tryd.prog tree_Tree_top.sc (bodyOf Tryd.f67) (argsF 0 [t0]) w (retQ Tryd.prog Tryd.f67.results.toList K) := by kernel_rfl

theorem tree_Tree_top.call {K : K1} {t0 : Value} {w : World} (h : tree_Tree_top K t0 w) : sCall Tryd.prog 67 [t0] w K := sCall_code mixed Tryd.func67 (by kernel_rfl) rfl rfl tree_Tree_top.ok tree_Tree_top.eq h

abbrev tree_Tree_top.n : Nat := 67

/-- '(*bodkin tree.Tree).Items$1' -/
def tree_Tree_Items_1 (K : K1) (i0 x1 : Value) (w : World) : Prop :=
  sBox Tryd.prog 73 i0 w fun i2 w =>
  sLoad Tryd.prog 54 x1 w fun x3 w =>
  sLoad Tryd.prog 73 i2 w fun x4 w =>
  sBuildSlice Tryd.prog 54 1 [(0, x4)] w fun x5 w =>
  sBuiltin Tryd.prog .append [54, 54] 54 [x3, x5] w fun x6 w =>
  sStore Tryd.prog 54 x1 x6 w fun w =>
  K (.tuple #[]) w

def tree_Tree_Items_1.sc : SC := (.seq (.reg (.op 0 .done)) (.reg (.op 0 (.op 1 (.op 2 (.op 3 (.op 4 .done)))))))

theorem tree_Tree_Items_1.ok : okC Tryd.f68.ntmps tree_Tree_Items_1.sc (bodyOf Tryd.f68) = true := by kernel_rfl

theorem tree_Tree_Items_1.eq {K : K1} {i0 x1 : Value} {w : World} : tree_Tree_Items_1 K i0 x1 w = codeS Tryd.prog tree_Tree_Items_1.sc (bodyOf Tryd.f68) (argsF 0 [i0, x1]) w (retQ Tryd.prog Tryd.f68.results.toList K) := by kernel_rfl

theorem tree_Tree_Items_1.call {K : K1} {i0 x1 : Value} {w : World} (h : tree_Tree_Items_1 K i0 x1 w) : sCall Tryd.prog 68 [i0, x1] w K := sCall_code mixed Tryd.func68 (by kernel_rfl) rfl rfl tree_Tree_Items_1.ok tree_Tree_Items_1.eq h

abbrev tree_Tree_Items_1.n : Nat := 68

end S
end Go.Proofs.YthpngnngoamlpaaDoor

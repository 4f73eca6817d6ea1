/- The functions of this seat, their code without slots, and that a call of each is what its code says: by program (lift.py). No conditions. -/
import Derived.Test.YtplpkeoakclobaaDoorRs4
import Derived.Test.YtplpkeoakclobaaDoorRows
import Derived.KernelRfl
namespace Go.Proofs.YtplpkeoakclobaaDoor
open Go Go.Lift
namespace S
set_option maxRecDepth 10000
set_option linter.unusedVariables false
theorem mixed : Tryd.prog.follows .mixedOrders = true := by kernel_rfl
abbrev T.int64 : Nat := 2
theorem tcell_int64 : cellQ Tryd.prog 2 = true := by kernel_rfl
theorem tsz_int64 : szQ Tryd.prog 2 = 1 := by kernel_rfl
theorem tby_int64 : byQ Tryd.prog 2 = 8 := by kernel_rfl
theorem tze_int64 : zeroQ Tryd.prog 2 = some [(.int .i64 0)] := by kernel_rfl
abbrev T.int : Nat := 3
theorem tcell_int : cellQ Tryd.prog 3 = true := by kernel_rfl
theorem tsz_int : szQ Tryd.prog 3 = 1 := by kernel_rfl
theorem tby_int : byQ Tryd.prog 3 = 8 := by kernel_rfl
theorem tze_int : zeroQ Tryd.prog 3 = some [(.int .i64 0)] := by kernel_rfl
abbrev T.bool : Nat := 4
theorem tcell_bool : cellQ Tryd.prog 4 = true := by kernel_rfl
theorem tsz_bool : szQ Tryd.prog 4 = 1 := by kernel_rfl
theorem tby_bool : byQ Tryd.prog 4 = 1 := by kernel_rfl
theorem tze_bool : zeroQ Tryd.prog 4 = some [(.bool false)] := by kernel_rfl
abbrev T.uint8 : Nat := 5
theorem tcell_uint8 : cellQ Tryd.prog 5 = true := by kernel_rfl
theorem tsz_uint8 : szQ Tryd.prog 5 = 1 := by kernel_rfl
theorem tby_uint8 : byQ Tryd.prog 5 = 1 := by kernel_rfl
theorem tze_uint8 : zeroQ Tryd.prog 5 = some [(.int .u8 0)] := by kernel_rfl
abbrev T.abi_BoundsErrorCode : Nat := 6
theorem tcell_abi_BoundsErrorCode : cellQ Tryd.prog 6 = true := by kernel_rfl
theorem tsz_abi_BoundsErrorCode : szQ Tryd.prog 6 = 1 := by kernel_rfl
theorem tby_abi_BoundsErrorCode : byQ Tryd.prog 6 = 1 := by kernel_rfl
theorem tze_abi_BoundsErrorCode : zeroQ Tryd.prog 6 = some [(.int .u8 0)] := by kernel_rfl
abbrev T.runtime_boundsError : Nat := 8
theorem tagg_runtime_boundsError : aggN Tryd.prog 8 = some 4 := by kernel_rfl
theorem tsz_runtime_boundsError : szQ Tryd.prog 8 = 4 := by kernel_rfl
theorem tby_runtime_boundsError : byQ Tryd.prog 8 = 24 := by kernel_rfl
theorem tze_runtime_boundsError : zeroQ Tryd.prog 8 = some [(.int .i64 0), (.int .i64 0), (.bool false), (.int .u8 0)] := by kernel_rfl
theorem tfl_runtime_boundsError_x : flQ Tryd.prog 8 0 = some 0 := by kernel_rfl
theorem tfl_runtime_boundsError_y : flQ Tryd.prog 8 1 = some 1 := by kernel_rfl
theorem tfl_runtime_boundsError_signed : flQ Tryd.prog 8 2 = some 2 := by kernel_rfl
theorem tfl_runtime_boundsError_code : flQ Tryd.prog 8 3 = some 3 := by kernel_rfl
theorem tpl_runtime_boundsError : plQ Tryd.prog 8 = some [(0, 1), (1, 1), (2, 1), (3, 1)] := by kernel_rfl
theorem tfd_runtime_boundsError_x : fdT Tryd.prog 8 0 = some (2, 0) := by kernel_rfl
theorem tfd_runtime_boundsError_y : fdT Tryd.prog 8 1 = some (3, 1) := by kernel_rfl
theorem tfd_runtime_boundsError_signed : fdT Tryd.prog 8 2 = some (4, 2) := by kernel_rfl
theorem tfd_runtime_boundsError_code : fdT Tryd.prog 8 3 = some (6, 3) := by kernel_rfl
abbrev T.dl_runtime_boundsError : List Nat := [2, 3, 4, 6]
theorem tdq_runtime_boundsError : deepQ Tryd.prog 20 8 = some T.dl_runtime_boundsError := by kernel_rfl
theorem taq_runtime_boundsError : aggQ Tryd.prog 8 = true := by kernel_rfl
theorem tgq_runtime_boundsError : Tryd.prog.eqGuardType Tryd.prog.depth 8 = false := by kernel_rfl
abbrev T.string : Nat := 9
theorem tcell_string : cellQ Tryd.prog 9 = true := by kernel_rfl
theorem tsz_string : szQ Tryd.prog 9 = 1 := by kernel_rfl
theorem tby_string : byQ Tryd.prog 9 = 16 := by kernel_rfl
theorem tze_string : zeroQ Tryd.prog 9 = some [(.string ⟨#[]⟩)] := by kernel_rfl
abbrev T.interface___ : Nat := 20
theorem tcell_interface___ : cellQ Tryd.prog 20 = true := by kernel_rfl
theorem tsz_interface___ : szQ Tryd.prog 20 = 1 := by kernel_rfl
theorem tby_interface___ : byQ Tryd.prog 20 = 16 := by kernel_rfl
theorem tze_interface___ : zeroQ Tryd.prog 20 = some [.nilIface] := by kernel_rfl
theorem tif_interface___ : ifcQ Tryd.prog 20 = true := by kernel_rfl
abbrev T.int32 : Nat := 21
theorem tcell_int32 : cellQ Tryd.prog 21 = true := by kernel_rfl
theorem tsz_int32 : szQ Tryd.prog 21 = 1 := by kernel_rfl
theorem tby_int32 : byQ Tryd.prog 21 = 4 := by kernel_rfl
theorem tze_int32 : zeroQ Tryd.prog 21 = some [(.int .i32 0)] := by kernel_rfl
abbrev T.P_rope_Rope : Nat := 23
theorem tcell_P_rope_Rope : cellQ Tryd.prog 23 = true := by kernel_rfl
theorem tsz_P_rope_Rope : szQ Tryd.prog 23 = 1 := by kernel_rfl
theorem tby_P_rope_Rope : byQ Tryd.prog 23 = 8 := by kernel_rfl
theorem tze_P_rope_Rope : zeroQ Tryd.prog 23 = some [(.pointer none)] := by kernel_rfl
theorem tpt_P_rope_Rope : ptQ Tryd.prog 23 = true := by kernel_rfl
theorem tcq_P_rope_Rope : concQ Tryd.prog 23 = true := by kernel_rfl
abbrev T.api_Errno : Nat := 24
theorem tcell_api_Errno : cellQ Tryd.prog 24 = true := by kernel_rfl
theorem tsz_api_Errno : szQ Tryd.prog 24 = 1 := by kernel_rfl
theorem tby_api_Errno : byQ Tryd.prog 24 = 8 := by kernel_rfl
theorem tze_api_Errno : zeroQ Tryd.prog 24 = some [(.int .i64 0)] := by kernel_rfl
abbrev T.L_int : Nat := 27
theorem tcell_L_int : cellQ Tryd.prog 27 = true := by kernel_rfl
theorem tsz_L_int : szQ Tryd.prog 27 = 1 := by kernel_rfl
theorem tby_L_int : byQ Tryd.prog 27 = 24 := by kernel_rfl
theorem tze_L_int : zeroQ Tryd.prog 27 = some [(.slice none 0 0)] := by kernel_rfl
theorem tel_L_int : elQ Tryd.prog 27 = some 3 := by kernel_rfl
abbrev T.L_int32 : Nat := 33
theorem tcell_L_int32 : cellQ Tryd.prog 33 = true := by kernel_rfl
theorem tsz_L_int32 : szQ Tryd.prog 33 = 1 := by kernel_rfl
theorem tby_L_int32 : byQ Tryd.prog 33 = 24 := by kernel_rfl
theorem tze_L_int32 : zeroQ Tryd.prog 33 = some [(.slice none 0 0)] := by kernel_rfl
theorem tel_L_int32 : elQ Tryd.prog 33 = some 21 := by kernel_rfl
abbrev T.L_outline_Range : Nat := 36
theorem tcell_L_outline_Range : cellQ Tryd.prog 36 = true := by kernel_rfl
theorem tsz_L_outline_Range : szQ Tryd.prog 36 = 1 := by kernel_rfl
theorem tby_L_outline_Range : byQ Tryd.prog 36 = 24 := by kernel_rfl
theorem tze_L_outline_Range : zeroQ Tryd.prog 36 = some [(.slice none 0 0)] := by kernel_rfl
theorem tel_L_outline_Range : elQ Tryd.prog 36 = some 42 := by kernel_rfl
abbrev T.api_Span : Nat := 40
theorem tagg_api_Span : aggN Tryd.prog 40 = some 2 := by kernel_rfl
theorem tsz_api_Span : szQ Tryd.prog 40 = 2 := by kernel_rfl
theorem tby_api_Span : byQ Tryd.prog 40 = 16 := by kernel_rfl
theorem tze_api_Span : zeroQ Tryd.prog 40 = some [(.int .i64 0), (.int .i64 0)] := by kernel_rfl
theorem tfl_api_Span_From : flQ Tryd.prog 40 0 = some 0 := by kernel_rfl
theorem tfl_api_Span_To : flQ Tryd.prog 40 1 = some 1 := by kernel_rfl
theorem tpl_api_Span : plQ Tryd.prog 40 = some [(0, 1), (1, 1)] := by kernel_rfl
theorem tfd_api_Span_From : fdT Tryd.prog 40 0 = some (3, 0) := by kernel_rfl
theorem tfd_api_Span_To : fdT Tryd.prog 40 1 = some (3, 1) := by kernel_rfl
abbrev T.dl_api_Span : List Nat := [3, 3]
theorem tdq_api_Span : deepQ Tryd.prog 20 40 = some T.dl_api_Span := by kernel_rfl
theorem taq_api_Span : aggQ Tryd.prog 40 = true := by kernel_rfl
theorem tgq_api_Span : Tryd.prog.eqGuardType Tryd.prog.depth 40 = false := by kernel_rfl
abbrev T.outline_Range : Nat := 42
theorem tagg_outline_Range : aggN Tryd.prog 42 = some 4 := by kernel_rfl
theorem tsz_outline_Range : szQ Tryd.prog 42 = 4 := by kernel_rfl
theorem tby_outline_Range : byQ Tryd.prog 42 = 32 := by kernel_rfl
theorem tze_outline_Range : zeroQ Tryd.prog 42 = some [(.int .i64 0), (.int .i64 0), (.int .i64 0), (.int .i64 0)] := by kernel_rfl
theorem tfl_outline_Range_Row : flQ Tryd.prog 42 0 = some 0 := by kernel_rfl
theorem tfl_outline_Range_Last : flQ Tryd.prog 42 1 = some 1 := by kernel_rfl
theorem tfl_outline_Range_Fold : flQ Tryd.prog 42 2 = some 2 := by kernel_rfl
theorem tpl_outline_Range : plQ Tryd.prog 42 = some [(0, 1), (1, 1), (2, 2)] := by kernel_rfl
theorem tfd_outline_Range_Row : fdT Tryd.prog 42 0 = some (3, 0) := by kernel_rfl
theorem tfd_outline_Range_Last : fdT Tryd.prog 42 1 = some (3, 1) := by kernel_rfl
theorem tfd_outline_Range_Fold : fdT Tryd.prog 42 2 = some (40, 2) := by kernel_rfl
abbrev T.dl_outline_Range : List Nat := [3, 3, 3, 3]
theorem tdq_outline_Range : deepQ Tryd.prog 20 42 = some T.dl_outline_Range := by kernel_rfl
theorem taq_outline_Range : aggQ Tryd.prog 42 = true := by kernel_rfl
theorem tgq_outline_Range : Tryd.prog.eqGuardType Tryd.prog.depth 42 = false := by kernel_rfl
abbrev T.L_api_Span : Nat := 43
theorem tcell_L_api_Span : cellQ Tryd.prog 43 = true := by kernel_rfl
theorem tsz_L_api_Span : szQ Tryd.prog 43 = 1 := by kernel_rfl
theorem tby_L_api_Span : byQ Tryd.prog 43 = 24 := by kernel_rfl
theorem tze_L_api_Span : zeroQ Tryd.prog 43 = some [(.slice none 0 0)] := by kernel_rfl
theorem tel_L_api_Span : elQ Tryd.prog 43 = some 40 := by kernel_rfl
abbrev T.bodkinref15_Set : Nat := 45
theorem tagg_bodkinref15_Set : aggN Tryd.prog 45 = some 3 := by kernel_rfl
theorem tsz_bodkinref15_Set : szQ Tryd.prog 45 = 3 := by kernel_rfl
theorem tby_bodkinref15_Set : byQ Tryd.prog 45 = 40 := by kernel_rfl
theorem tze_bodkinref15_Set : zeroQ Tryd.prog 45 = some [(.int .i64 0), (.slice none 0 0), (.int .i64 0)] := by kernel_rfl
theorem tfl_bodkinref15_Set_N : flQ Tryd.prog 45 0 = some 0 := by kernel_rfl
theorem tfl_bodkinref15_Set_L : flQ Tryd.prog 45 1 = some 1 := by kernel_rfl
theorem tfl_bodkinref15_Set_Err : flQ Tryd.prog 45 2 = some 2 := by kernel_rfl
theorem tpl_bodkinref15_Set : plQ Tryd.prog 45 = some [(0, 1), (1, 1), (2, 1)] := by kernel_rfl
theorem tfd_bodkinref15_Set_N : fdT Tryd.prog 45 0 = some (3, 0) := by kernel_rfl
theorem tfd_bodkinref15_Set_L : fdT Tryd.prog 45 1 = some (43, 1) := by kernel_rfl
theorem tfd_bodkinref15_Set_Err : fdT Tryd.prog 45 2 = some (3, 2) := by kernel_rfl
abbrev T.L_bodkinref43_Range : Nat := 49
theorem tcell_L_bodkinref43_Range : cellQ Tryd.prog 49 = true := by kernel_rfl
theorem tsz_L_bodkinref43_Range : szQ Tryd.prog 49 = 1 := by kernel_rfl
theorem tby_L_bodkinref43_Range : byQ Tryd.prog 49 = 24 := by kernel_rfl
theorem tze_L_bodkinref43_Range : zeroQ Tryd.prog 49 = some [(.slice none 0 0)] := by kernel_rfl
theorem tel_L_bodkinref43_Range : elQ Tryd.prog 49 = some 52 := by kernel_rfl
abbrev T.bodkinref43_Range : Nat := 52
theorem tagg_bodkinref43_Range : aggN Tryd.prog 52 = some 4 := by kernel_rfl
theorem tsz_bodkinref43_Range : szQ Tryd.prog 52 = 4 := by kernel_rfl
theorem tby_bodkinref43_Range : byQ Tryd.prog 52 = 32 := by kernel_rfl
theorem tze_bodkinref43_Range : zeroQ Tryd.prog 52 = some [(.int .i64 0), (.int .i64 0), (.int .i64 0), (.int .i64 0)] := by kernel_rfl
theorem tfl_bodkinref43_Range_Row : flQ Tryd.prog 52 0 = some 0 := by kernel_rfl
theorem tfl_bodkinref43_Range_Last : flQ Tryd.prog 52 1 = some 1 := by kernel_rfl
theorem tfl_bodkinref43_Range_Fold : flQ Tryd.prog 52 2 = some 2 := by kernel_rfl
theorem tpl_bodkinref43_Range : plQ Tryd.prog 52 = some [(0, 1), (1, 1), (2, 2)] := by kernel_rfl
theorem tfd_bodkinref43_Range_Row : fdT Tryd.prog 52 0 = some (3, 0) := by kernel_rfl
theorem tfd_bodkinref43_Range_Last : fdT Tryd.prog 52 1 = some (3, 1) := by kernel_rfl
theorem tfd_bodkinref43_Range_Fold : fdT Tryd.prog 52 2 = some (40, 2) := by kernel_rfl
abbrev T.dl_bodkinref43_Range : List Nat := [3, 3, 3, 3]
theorem tdq_bodkinref43_Range : deepQ Tryd.prog 20 52 = some T.dl_bodkinref43_Range := by kernel_rfl
theorem taq_bodkinref43_Range : aggQ Tryd.prog 52 = true := by kernel_rfl
theorem tgq_bodkinref43_Range : Tryd.prog.eqGuardType Tryd.prog.depth 52 = false := by kernel_rfl
abbrev T.P_tree_Tree : Nat := 60
theorem tcell_P_tree_Tree : cellQ Tryd.prog 60 = true := by kernel_rfl
theorem tsz_P_tree_Tree : szQ Tryd.prog 60 = 1 := by kernel_rfl
theorem tby_P_tree_Tree : byQ Tryd.prog 60 = 8 := by kernel_rfl
theorem tze_P_tree_Tree : zeroQ Tryd.prog 60 = some [(.pointer none)] := by kernel_rfl
theorem tpt_P_tree_Tree : ptQ Tryd.prog 60 = true := by kernel_rfl
theorem tcq_P_tree_Tree : concQ Tryd.prog 60 = true := by kernel_rfl
abbrev T.L_item_Item : Nat := 63
theorem tcell_L_item_Item : cellQ Tryd.prog 63 = true := by kernel_rfl
theorem tsz_L_item_Item : szQ Tryd.prog 63 = 1 := by kernel_rfl
theorem tby_L_item_Item : byQ Tryd.prog 63 = 24 := by kernel_rfl
theorem tze_L_item_Item : zeroQ Tryd.prog 63 = some [(.slice none 0 0)] := by kernel_rfl
theorem tel_L_item_Item : elQ Tryd.prog 63 = some 91 := by kernel_rfl
abbrev T.rope_Rope : Nat := 66
theorem tagg_rope_Rope : aggN Tryd.prog 66 = some 1 := by kernel_rfl
theorem tsz_rope_Rope : szQ Tryd.prog 66 = 1 := by kernel_rfl
theorem tby_rope_Rope : byQ Tryd.prog 66 = 8 := by kernel_rfl
theorem tze_rope_Rope : zeroQ Tryd.prog 66 = some [(.pointer none)] := by kernel_rfl
theorem tfl_rope_Rope_t : flQ Tryd.prog 66 0 = some 0 := by kernel_rfl
theorem tpl_rope_Rope : plQ Tryd.prog 66 = some [(0, 1)] := by kernel_rfl
theorem tfd_rope_Rope_t : fdT Tryd.prog 66 0 = some (60, 0) := by kernel_rfl
abbrev T.bodkinref01_Rune : Nat := 72
theorem tagg_bodkinref01_Rune : aggN Tryd.prog 72 = some 2 := by kernel_rfl
theorem tsz_bodkinref01_Rune : szQ Tryd.prog 72 = 2 := by kernel_rfl
theorem tby_bodkinref01_Rune : byQ Tryd.prog 72 = 16 := by kernel_rfl
theorem tze_bodkinref01_Rune : zeroQ Tryd.prog 72 = some [(.int .i32 0), (.int .i64 0)] := by kernel_rfl
theorem tfl_bodkinref01_Rune_R : flQ Tryd.prog 72 0 = some 0 := by kernel_rfl
theorem tfl_bodkinref01_Rune_N : flQ Tryd.prog 72 1 = some 1 := by kernel_rfl
theorem tpl_bodkinref01_Rune : plQ Tryd.prog 72 = some [(0, 1), (1, 1)] := by kernel_rfl
theorem tfd_bodkinref01_Rune_R : fdT Tryd.prog 72 0 = some (21, 0) := by kernel_rfl
theorem tfd_bodkinref01_Rune_N : fdT Tryd.prog 72 1 = some (3, 1) := by kernel_rfl
abbrev T.dl_bodkinref01_Rune : List Nat := [21, 3]
theorem tdq_bodkinref01_Rune : deepQ Tryd.prog 20 72 = some T.dl_bodkinref01_Rune := by kernel_rfl
theorem taq_bodkinref01_Rune : aggQ Tryd.prog 72 = true := by kernel_rfl
theorem tgq_bodkinref01_Rune : Tryd.prog.eqGuardType Tryd.prog.depth 72 = false := by kernel_rfl
abbrev T.tree_node : Nat := 88
theorem tcell_tree_node : cellQ Tryd.prog 88 = true := by kernel_rfl
theorem tsz_tree_node : szQ Tryd.prog 88 = 1 := by kernel_rfl
theorem tby_tree_node : byQ Tryd.prog 88 = 16 := by kernel_rfl
theorem tze_tree_node : zeroQ Tryd.prog 88 = some [.nilIface] := by kernel_rfl
theorem tif_tree_node : ifcQ Tryd.prog 88 = true := by kernel_rfl
abbrev T.A3_int : Nat := 89
theorem tagg_A3_int : aggN Tryd.prog 89 = some 3 := by kernel_rfl
theorem tsz_A3_int : szQ Tryd.prog 89 = 3 := by kernel_rfl
theorem tby_A3_int : byQ Tryd.prog 89 = 24 := by kernel_rfl
theorem tze_A3_int : zeroQ Tryd.prog 89 = some [(.int .i64 0), (.int .i64 0), (.int .i64 0)] := by kernel_rfl
theorem tpl_A3_int : plQ Tryd.prog 89 = some [(0, 1), (1, 1), (2, 1)] := by kernel_rfl
theorem tar_A3_int : arQ Tryd.prog 89 = some (3, 3) := by kernel_rfl
abbrev T.dl_A3_int : List Nat := [3, 3, 3]
theorem tdq_A3_int : deepQ Tryd.prog 20 89 = some T.dl_A3_int := by kernel_rfl
theorem taq_A3_int : aggQ Tryd.prog 89 = true := by kernel_rfl
theorem tgq_A3_int : Tryd.prog.eqGuardType Tryd.prog.depth 89 = false := by kernel_rfl
abbrev T.item_Item : Nat := 91
theorem tagg_item_Item : aggN Tryd.prog 91 = some 7 := by kernel_rfl
theorem tsz_item_Item : szQ Tryd.prog 91 = 7 := by kernel_rfl
theorem tby_item_Item : byQ Tryd.prog 91 = 64 := by kernel_rfl
theorem tze_item_Item : zeroQ Tryd.prog 91 = some [(.int .i64 0), (.int .i64 0), (.int .i64 0), (.int .i64 0), (.int .i64 0), (.int .i64 0), (.string ⟨#[]⟩)] := by kernel_rfl
theorem tfl_item_Item_Tag : flQ Tryd.prog 91 0 = some 0 := by kernel_rfl
theorem tfl_item_Item_ID : flQ Tryd.prog 91 1 = some 1 := by kernel_rfl
theorem tfl_item_Item_D : flQ Tryd.prog 91 2 = some 2 := by kernel_rfl
theorem tfl_item_Item_Max : flQ Tryd.prog 91 3 = some 5 := by kernel_rfl
theorem tfl_item_Item_Text : flQ Tryd.prog 91 4 = some 6 := by kernel_rfl
theorem tpl_item_Item : plQ Tryd.prog 91 = some [(0, 1), (1, 1), (2, 3), (5, 1), (6, 1)] := by kernel_rfl
theorem tfd_item_Item_Tag : fdT Tryd.prog 91 0 = some (3, 0) := by kernel_rfl
theorem tfd_item_Item_ID : fdT Tryd.prog 91 1 = some (3, 1) := by kernel_rfl
theorem tfd_item_Item_D : fdT Tryd.prog 91 2 = some (89, 2) := by kernel_rfl
theorem tfd_item_Item_Max : fdT Tryd.prog 91 3 = some (3, 5) := by kernel_rfl
theorem tfd_item_Item_Text : fdT Tryd.prog 91 4 = some (9, 6) := by kernel_rfl
abbrev T.dl_item_Item : List Nat := [3, 3, 3, 3, 3, 3, 9]
theorem tdq_item_Item : deepQ Tryd.prog 20 91 = some T.dl_item_Item := by kernel_rfl
theorem taq_item_Item : aggQ Tryd.prog 91 = true := by kernel_rfl
theorem tgq_item_Item : Tryd.prog.eqGuardType Tryd.prog.depth 91 = false := by kernel_rfl
abbrev T.P_tree_leaf : Nat := 94
theorem tcell_P_tree_leaf : cellQ Tryd.prog 94 = true := by kernel_rfl
theorem tsz_P_tree_leaf : szQ Tryd.prog 94 = 1 := by kernel_rfl
theorem tby_P_tree_leaf : byQ Tryd.prog 94 = 8 := by kernel_rfl
theorem tze_P_tree_leaf : zeroQ Tryd.prog 94 = some [(.pointer none)] := by kernel_rfl
theorem tpt_P_tree_leaf : ptQ Tryd.prog 94 = true := by kernel_rfl
theorem tcq_P_tree_leaf : concQ Tryd.prog 94 = true := by kernel_rfl
abbrev T.tree_Tree : Nat := 97
theorem tagg_tree_Tree : aggN Tryd.prog 97 = some 1 := by kernel_rfl
theorem tsz_tree_Tree : szQ Tryd.prog 97 = 1 := by kernel_rfl
theorem tby_tree_Tree : byQ Tryd.prog 97 = 16 := by kernel_rfl
theorem tze_tree_Tree : zeroQ Tryd.prog 97 = some [.nilIface] := by kernel_rfl
theorem tfl_tree_Tree_root : flQ Tryd.prog 97 0 = some 0 := by kernel_rfl
theorem tpl_tree_Tree : plQ Tryd.prog 97 = some [(0, 1)] := by kernel_rfl
theorem tfd_tree_Tree_root : fdT Tryd.prog 97 0 = some (88, 0) := by kernel_rfl
abbrev T.P_width_Table : Nat := 103
theorem tcell_P_width_Table : cellQ Tryd.prog 103 = true := by kernel_rfl
theorem tsz_P_width_Table : szQ Tryd.prog 103 = 1 := by kernel_rfl
theorem tby_P_width_Table : byQ Tryd.prog 103 = 8 := by kernel_rfl
theorem tze_P_width_Table : zeroQ Tryd.prog 103 = some [(.pointer none)] := by kernel_rfl
theorem tpt_P_width_Table : ptQ Tryd.prog 103 = true := by kernel_rfl
theorem tcq_P_width_Table : concQ Tryd.prog 103 = true := by kernel_rfl
abbrev T.stops_Ask : Nat := 106
theorem tagg_stops_Ask : aggN Tryd.prog 106 = some 2 := by kernel_rfl
theorem tsz_stops_Ask : szQ Tryd.prog 106 = 2 := by kernel_rfl
theorem tby_stops_Ask : byQ Tryd.prog 106 = 16 := by kernel_rfl
theorem tze_stops_Ask : zeroQ Tryd.prog 106 = some [(.int .i64 0), (.int .i64 0)] := by kernel_rfl
theorem tfl_stops_Ask_Tab : flQ Tryd.prog 106 0 = some 0 := by kernel_rfl
theorem tfl_stops_Ask_At : flQ Tryd.prog 106 1 = some 1 := by kernel_rfl
theorem tpl_stops_Ask : plQ Tryd.prog 106 = some [(0, 1), (1, 1)] := by kernel_rfl
theorem tfd_stops_Ask_Tab : fdT Tryd.prog 106 0 = some (3, 0) := by kernel_rfl
theorem tfd_stops_Ask_At : fdT Tryd.prog 106 1 = some (3, 1) := by kernel_rfl
abbrev T.dl_stops_Ask : List Nat := [3, 3]
theorem tdq_stops_Ask : deepQ Tryd.prog 20 106 = some T.dl_stops_Ask := by kernel_rfl
theorem taq_stops_Ask : aggQ Tryd.prog 106 = true := by kernel_rfl
theorem tgq_stops_Ask : Tryd.prog.eqGuardType Tryd.prog.depth 106 = false := by kernel_rfl
abbrev T.P_bodkinref02_Table : Nat := 108
theorem tcell_P_bodkinref02_Table : cellQ Tryd.prog 108 = true := by kernel_rfl
theorem tsz_P_bodkinref02_Table : szQ Tryd.prog 108 = 1 := by kernel_rfl
theorem tby_P_bodkinref02_Table : byQ Tryd.prog 108 = 8 := by kernel_rfl
theorem tze_P_bodkinref02_Table : zeroQ Tryd.prog 108 = some [(.pointer none)] := by kernel_rfl
theorem tpt_P_bodkinref02_Table : ptQ Tryd.prog 108 = true := by kernel_rfl
theorem tcq_P_bodkinref02_Table : concQ Tryd.prog 108 = true := by kernel_rfl
abbrev T.item_Sum : Nat := 114
theorem tagg_item_Sum : aggN Tryd.prog 114 = some 6 := by kernel_rfl
theorem tsz_item_Sum : szQ Tryd.prog 114 = 6 := by kernel_rfl
theorem tby_item_Sum : byQ Tryd.prog 114 = 48 := by kernel_rfl
theorem tze_item_Sum : zeroQ Tryd.prog 114 = some [(.int .i64 0), (.int .i64 0), (.int .i64 0), (.int .i64 0), (.int .i64 0), (.int .i64 0)] := by kernel_rfl
theorem tfl_item_Sum_N : flQ Tryd.prog 114 0 = some 0 := by kernel_rfl
theorem tfl_item_Sum_D : flQ Tryd.prog 114 1 = some 1 := by kernel_rfl
theorem tfl_item_Sum_Max : flQ Tryd.prog 114 2 = some 4 := by kernel_rfl
theorem tfl_item_Sum_At : flQ Tryd.prog 114 3 = some 5 := by kernel_rfl
theorem tpl_item_Sum : plQ Tryd.prog 114 = some [(0, 1), (1, 3), (4, 1), (5, 1)] := by kernel_rfl
theorem tfd_item_Sum_N : fdT Tryd.prog 114 0 = some (3, 0) := by kernel_rfl
theorem tfd_item_Sum_D : fdT Tryd.prog 114 1 = some (89, 1) := by kernel_rfl
theorem tfd_item_Sum_Max : fdT Tryd.prog 114 2 = some (3, 4) := by kernel_rfl
theorem tfd_item_Sum_At : fdT Tryd.prog 114 3 = some (3, 5) := by kernel_rfl
abbrev T.dl_item_Sum : List Nat := [3, 3, 3, 3, 3, 3]
theorem tdq_item_Sum : deepQ Tryd.prog 20 114 = some T.dl_item_Sum := by kernel_rfl
theorem taq_item_Sum : aggQ Tryd.prog 114 = true := by kernel_rfl
theorem tgq_item_Sum : Tryd.prog.eqGuardType Tryd.prog.depth 114 = false := by kernel_rfl
abbrev T.rope_spot : Nat := 119
theorem tagg_rope_spot : aggN Tryd.prog 119 = some 14 := by kernel_rfl
theorem tsz_rope_spot : szQ Tryd.prog 119 = 14 := by kernel_rfl
theorem tby_rope_spot : byQ Tryd.prog 119 = 120 := by kernel_rfl
theorem tze_rope_spot : zeroQ Tryd.prog 119 = some [(.int .i64 0), (.int .i64 0), (.int .i64 0), (.int .i64 0), (.int .i64 0), (.int .i64 0), (.int .i64 0), (.int .i64 0), (.int .i64 0), (.int .i64 0), (.int .i64 0), (.int .i64 0), (.string ⟨#[]⟩), (.int .i64 0)] := by kernel_rfl
theorem tfl_rope_spot_before : flQ Tryd.prog 119 0 = some 0 := by kernel_rfl
theorem tfl_rope_spot_piece : flQ Tryd.prog 119 1 = some 6 := by kernel_rfl
theorem tfl_rope_spot_bytes : flQ Tryd.prog 119 2 = some 13 := by kernel_rfl
theorem tpl_rope_spot : plQ Tryd.prog 119 = some [(0, 6), (6, 7), (13, 1)] := by kernel_rfl
theorem tfd_rope_spot_before : fdT Tryd.prog 119 0 = some (114, 0) := by kernel_rfl
theorem tfd_rope_spot_piece : fdT Tryd.prog 119 1 = some (91, 6) := by kernel_rfl
theorem tfd_rope_spot_bytes : fdT Tryd.prog 119 2 = some (3, 13) := by kernel_rfl
abbrev T.dl_rope_spot : List Nat := [3, 3, 3, 3, 3, 3, 3, 3, 3, 3, 3, 3, 9, 3]
theorem tdq_rope_spot : deepQ Tryd.prog 20 119 = some T.dl_rope_spot := by kernel_rfl
theorem taq_rope_spot : aggQ Tryd.prog 119 = true := by kernel_rfl
theorem tgq_rope_spot : Tryd.prog.eqGuardType Tryd.prog.depth 119 = false := by kernel_rfl
abbrev T.L_string : Nat := 124
theorem tcell_L_string : cellQ Tryd.prog 124 = true := by kernel_rfl
theorem tsz_L_string : szQ Tryd.prog 124 = 1 := by kernel_rfl
theorem tby_L_string : byQ Tryd.prog 124 = 24 := by kernel_rfl
theorem tze_L_string : zeroQ Tryd.prog 124 = some [(.slice none 0 0)] := by kernel_rfl
theorem tel_L_string : elQ Tryd.prog 124 = some 9 := by kernel_rfl
abbrev T.L_tree_node : Nat := 126
theorem tcell_L_tree_node : cellQ Tryd.prog 126 = true := by kernel_rfl
theorem tsz_L_tree_node : szQ Tryd.prog 126 = 1 := by kernel_rfl
theorem tby_L_tree_node : byQ Tryd.prog 126 = 24 := by kernel_rfl
theorem tze_L_tree_node : zeroQ Tryd.prog 126 = some [(.slice none 0 0)] := by kernel_rfl
theorem tel_L_tree_node : elQ Tryd.prog 126 = some 88 := by kernel_rfl
abbrev T.P_tree_inner : Nat := 128
theorem tcell_P_tree_inner : cellQ Tryd.prog 128 = true := by kernel_rfl
theorem tsz_P_tree_inner : szQ Tryd.prog 128 = 1 := by kernel_rfl
theorem tby_P_tree_inner : byQ Tryd.prog 128 = 8 := by kernel_rfl
theorem tze_P_tree_inner : zeroQ Tryd.prog 128 = some [(.pointer none)] := by kernel_rfl
theorem tpt_P_tree_inner : ptQ Tryd.prog 128 = true := by kernel_rfl
theorem tcq_P_tree_inner : concQ Tryd.prog 128 = true := by kernel_rfl
abbrev T.tree_leaf : Nat := 132
theorem tagg_tree_leaf : aggN Tryd.prog 132 = some 7 := by kernel_rfl
theorem tsz_tree_leaf : szQ Tryd.prog 132 = 7 := by kernel_rfl
theorem tby_tree_leaf : byQ Tryd.prog 132 = 72 := by kernel_rfl
theorem tze_tree_leaf : zeroQ Tryd.prog 132 = some [(.slice none 0 0), (.int .i64 0), (.int .i64 0), (.int .i64 0), (.int .i64 0), (.int .i64 0), (.int .i64 0)] := by kernel_rfl
theorem tfl_tree_leaf_items : flQ Tryd.prog 132 0 = some 0 := by kernel_rfl
theorem tfl_tree_leaf_sum : flQ Tryd.prog 132 1 = some 1 := by kernel_rfl
theorem tpl_tree_leaf : plQ Tryd.prog 132 = some [(0, 1), (1, 6)] := by kernel_rfl
theorem tfd_tree_leaf_items : fdT Tryd.prog 132 0 = some (63, 0) := by kernel_rfl
theorem tfd_tree_leaf_sum : fdT Tryd.prog 132 1 = some (114, 1) := by kernel_rfl
abbrev T.P_seek_Cursor : Nat := 134
theorem tcell_P_seek_Cursor : cellQ Tryd.prog 134 = true := by kernel_rfl
theorem tsz_P_seek_Cursor : szQ Tryd.prog 134 = 1 := by kernel_rfl
theorem tby_P_seek_Cursor : byQ Tryd.prog 134 = 8 := by kernel_rfl
theorem tze_P_seek_Cursor : zeroQ Tryd.prog 134 = some [(.pointer none)] := by kernel_rfl
theorem tpt_P_seek_Cursor : ptQ Tryd.prog 134 = true := by kernel_rfl
theorem tcq_P_seek_Cursor : concQ Tryd.prog 134 = true := by kernel_rfl
abbrev T.P_strings_Builder : Nat := 137
theorem tcell_P_strings_Builder : cellQ Tryd.prog 137 = true := by kernel_rfl
theorem tsz_P_strings_Builder : szQ Tryd.prog 137 = 1 := by kernel_rfl
theorem tby_P_strings_Builder : byQ Tryd.prog 137 = 8 := by kernel_rfl
theorem tze_P_strings_Builder : zeroQ Tryd.prog 137 = some [(.pointer none)] := by kernel_rfl
theorem tpt_P_strings_Builder : ptQ Tryd.prog 137 = true := by kernel_rfl
theorem tcq_P_strings_Builder : concQ Tryd.prog 137 = true := by kernel_rfl
abbrev T.L_uint8 : Nat := 138
theorem tcell_L_uint8 : cellQ Tryd.prog 138 = true := by kernel_rfl
theorem tsz_L_uint8 : szQ Tryd.prog 138 = 1 := by kernel_rfl
theorem tby_L_uint8 : byQ Tryd.prog 138 = 24 := by kernel_rfl
theorem tze_L_uint8 : zeroQ Tryd.prog 138 = some [(.slice none 0 0)] := by kernel_rfl
theorem tel_L_uint8 : elQ Tryd.prog 138 = some 5 := by kernel_rfl
abbrev T.strings_Builder : Nat := 140
theorem tagg_strings_Builder : aggN Tryd.prog 140 = some 2 := by kernel_rfl
theorem tsz_strings_Builder : szQ Tryd.prog 140 = 2 := by kernel_rfl
theorem tby_strings_Builder : byQ Tryd.prog 140 = 32 := by kernel_rfl
theorem tze_strings_Builder : zeroQ Tryd.prog 140 = some [(.pointer none), (.slice none 0 0)] := by kernel_rfl
theorem tfl_strings_Builder_addr : flQ Tryd.prog 140 0 = some 0 := by kernel_rfl
theorem tfl_strings_Builder_buf : flQ Tryd.prog 140 1 = some 1 := by kernel_rfl
theorem tpl_strings_Builder : plQ Tryd.prog 140 = some [(0, 1), (1, 1)] := by kernel_rfl
theorem tfd_strings_Builder_addr : fdT Tryd.prog 140 0 = some (137, 0) := by kernel_rfl
theorem tfd_strings_Builder_buf : fdT Tryd.prog 140 1 = some (138, 1) := by kernel_rfl
abbrev T.interface___Error___string__ : Nat := 143
theorem tcell_interface___Error___string__ : cellQ Tryd.prog 143 = true := by kernel_rfl
theorem tsz_interface___Error___string__ : szQ Tryd.prog 143 = 1 := by kernel_rfl
theorem tby_interface___Error___string__ : byQ Tryd.prog 143 = 16 := by kernel_rfl
theorem tze_interface___Error___string__ : zeroQ Tryd.prog 143 = some [.nilIface] := by kernel_rfl
abbrev T.error : Nat := 144
theorem tcell_error : cellQ Tryd.prog 144 = true := by kernel_rfl
theorem tsz_error : szQ Tryd.prog 144 = 1 := by kernel_rfl
theorem tby_error : byQ Tryd.prog 144 = 16 := by kernel_rfl
theorem tze_error : zeroQ Tryd.prog 144 = some [.nilIface] := by kernel_rfl
abbrev T.L_width_Range : Nat := 149
theorem tcell_L_width_Range : cellQ Tryd.prog 149 = true := by kernel_rfl
theorem tsz_L_width_Range : szQ Tryd.prog 149 = 1 := by kernel_rfl
theorem tby_L_width_Range : byQ Tryd.prog 149 = 24 := by kernel_rfl
theorem tze_L_width_Range : zeroQ Tryd.prog 149 = some [(.slice none 0 0)] := by kernel_rfl
theorem tel_L_width_Range : elQ Tryd.prog 149 = some 153 := by kernel_rfl
abbrev T.width_Table : Nat := 151
theorem tagg_width_Table : aggN Tryd.prog 151 = some 2 := by kernel_rfl
theorem tsz_width_Table : szQ Tryd.prog 151 = 2 := by kernel_rfl
theorem tby_width_Table : byQ Tryd.prog 151 = 48 := by kernel_rfl
theorem tze_width_Table : zeroQ Tryd.prog 151 = some [(.slice none 0 0), (.slice none 0 0)] := by kernel_rfl
theorem tfl_width_Table_zero : flQ Tryd.prog 151 0 = some 0 := by kernel_rfl
theorem tfl_width_Table_wide : flQ Tryd.prog 151 1 = some 1 := by kernel_rfl
theorem tpl_width_Table : plQ Tryd.prog 151 = some [(0, 1), (1, 1)] := by kernel_rfl
theorem tfd_width_Table_zero : fdT Tryd.prog 151 0 = some (149, 0) := by kernel_rfl
theorem tfd_width_Table_wide : fdT Tryd.prog 151 1 = some (149, 1) := by kernel_rfl
abbrev T.width_Range : Nat := 153
theorem tagg_width_Range : aggN Tryd.prog 153 = some 2 := by kernel_rfl
theorem tsz_width_Range : szQ Tryd.prog 153 = 2 := by kernel_rfl
theorem tby_width_Range : byQ Tryd.prog 153 = 8 := by kernel_rfl
theorem tze_width_Range : zeroQ Tryd.prog 153 = some [(.int .i32 0), (.int .i32 0)] := by kernel_rfl
theorem tfl_width_Range_From : flQ Tryd.prog 153 0 = some 0 := by kernel_rfl
theorem tfl_width_Range_To : flQ Tryd.prog 153 1 = some 1 := by kernel_rfl
theorem tpl_width_Range : plQ Tryd.prog 153 = some [(0, 1), (1, 1)] := by kernel_rfl
theorem tfd_width_Range_From : fdT Tryd.prog 153 0 = some (21, 0) := by kernel_rfl
theorem tfd_width_Range_To : fdT Tryd.prog 153 1 = some (21, 1) := by kernel_rfl
abbrev T.dl_width_Range : List Nat := [21, 21]
theorem tdq_width_Range : deepQ Tryd.prog 20 153 = some T.dl_width_Range := by kernel_rfl
theorem taq_width_Range : aggQ Tryd.prog 153 = true := by kernel_rfl
theorem tgq_width_Range : Tryd.prog.eqGuardType Tryd.prog.depth 153 = false := by kernel_rfl
abbrev T.A3_width_Range : Nat := 154
theorem tagg_A3_width_Range : aggN Tryd.prog 154 = some 6 := by kernel_rfl
theorem tsz_A3_width_Range : szQ Tryd.prog 154 = 6 := by kernel_rfl
theorem tby_A3_width_Range : byQ Tryd.prog 154 = 24 := by kernel_rfl
theorem tze_A3_width_Range : zeroQ Tryd.prog 154 = some [(.int .i32 0), (.int .i32 0), (.int .i32 0), (.int .i32 0), (.int .i32 0), (.int .i32 0)] := by kernel_rfl
theorem tpl_A3_width_Range : plQ Tryd.prog 154 = some [(0, 2), (2, 2), (4, 2)] := by kernel_rfl
theorem tar_A3_width_Range : arQ Tryd.prog 154 = some (3, 153) := by kernel_rfl
abbrev T.dl_A3_width_Range : List Nat := [21, 21, 21, 21, 21, 21]
theorem tdq_A3_width_Range : deepQ Tryd.prog 20 154 = some T.dl_A3_width_Range := by kernel_rfl
theorem taq_A3_width_Range : aggQ Tryd.prog 154 = true := by kernel_rfl
theorem tgq_A3_width_Range : Tryd.prog.eqGuardType Tryd.prog.depth 154 = false := by kernel_rfl
abbrev T.A8_width_Range : Nat := 155
theorem tagg_A8_width_Range : aggN Tryd.prog 155 = some 16 := by kernel_rfl
theorem tsz_A8_width_Range : szQ Tryd.prog 155 = 16 := by kernel_rfl
theorem tby_A8_width_Range : byQ Tryd.prog 155 = 64 := by kernel_rfl
theorem tze_A8_width_Range : zeroQ Tryd.prog 155 = some [(.int .i32 0), (.int .i32 0), (.int .i32 0), (.int .i32 0), (.int .i32 0), (.int .i32 0), (.int .i32 0), (.int .i32 0), (.int .i32 0), (.int .i32 0), (.int .i32 0), (.int .i32 0), (.int .i32 0), (.int .i32 0), (.int .i32 0), (.int .i32 0)] := by kernel_rfl
theorem tpl_A8_width_Range : plQ Tryd.prog 155 = some [(0, 2), (2, 2), (4, 2), (6, 2), (8, 2), (10, 2), (12, 2), (14, 2)] := by kernel_rfl
theorem tar_A8_width_Range : arQ Tryd.prog 155 = some (8, 153) := by kernel_rfl
abbrev T.dl_A8_width_Range : List Nat := [21, 21, 21, 21, 21, 21, 21, 21, 21, 21, 21, 21, 21, 21, 21, 21]
theorem tdq_A8_width_Range : deepQ Tryd.prog 20 155 = some T.dl_A8_width_Range := by kernel_rfl
theorem taq_A8_width_Range : aggQ Tryd.prog 155 = true := by kernel_rfl
theorem tgq_A8_width_Range : Tryd.prog.eqGuardType Tryd.prog.depth 155 = false := by kernel_rfl
abbrev T.bodkinref02_Range : Nat := 156
theorem tagg_bodkinref02_Range : aggN Tryd.prog 156 = some 2 := by kernel_rfl
theorem tsz_bodkinref02_Range : szQ Tryd.prog 156 = 2 := by kernel_rfl
theorem tby_bodkinref02_Range : byQ Tryd.prog 156 = 8 := by kernel_rfl
theorem tze_bodkinref02_Range : zeroQ Tryd.prog 156 = some [(.int .i32 0), (.int .i32 0)] := by kernel_rfl
theorem tfl_bodkinref02_Range_From : flQ Tryd.prog 156 0 = some 0 := by kernel_rfl
theorem tfl_bodkinref02_Range_To : flQ Tryd.prog 156 1 = some 1 := by kernel_rfl
theorem tpl_bodkinref02_Range : plQ Tryd.prog 156 = some [(0, 1), (1, 1)] := by kernel_rfl
theorem tfd_bodkinref02_Range_From : fdT Tryd.prog 156 0 = some (21, 0) := by kernel_rfl
theorem tfd_bodkinref02_Range_To : fdT Tryd.prog 156 1 = some (21, 1) := by kernel_rfl
abbrev T.dl_bodkinref02_Range : List Nat := [21, 21]
theorem tdq_bodkinref02_Range : deepQ Tryd.prog 20 156 = some T.dl_bodkinref02_Range := by kernel_rfl
theorem taq_bodkinref02_Range : aggQ Tryd.prog 156 = true := by kernel_rfl
theorem tgq_bodkinref02_Range : Tryd.prog.eqGuardType Tryd.prog.depth 156 = false := by kernel_rfl
abbrev T.L_bodkinref02_Range : Nat := 157
theorem tcell_L_bodkinref02_Range : cellQ Tryd.prog 157 = true := by kernel_rfl
theorem tsz_L_bodkinref02_Range : szQ Tryd.prog 157 = 1 := by kernel_rfl
theorem tby_L_bodkinref02_Range : byQ Tryd.prog 157 = 24 := by kernel_rfl
theorem tze_L_bodkinref02_Range : zeroQ Tryd.prog 157 = some [(.slice none 0 0)] := by kernel_rfl
theorem tel_L_bodkinref02_Range : elQ Tryd.prog 157 = some 156 := by kernel_rfl
abbrev T.bodkinref02_Table : Nat := 159
theorem tagg_bodkinref02_Table : aggN Tryd.prog 159 = some 2 := by kernel_rfl
theorem tsz_bodkinref02_Table : szQ Tryd.prog 159 = 2 := by kernel_rfl
theorem tby_bodkinref02_Table : byQ Tryd.prog 159 = 48 := by kernel_rfl
theorem tze_bodkinref02_Table : zeroQ Tryd.prog 159 = some [(.slice none 0 0), (.slice none 0 0)] := by kernel_rfl
theorem tfl_bodkinref02_Table_Zero : flQ Tryd.prog 159 0 = some 0 := by kernel_rfl
theorem tfl_bodkinref02_Table_Wide : flQ Tryd.prog 159 1 = some 1 := by kernel_rfl
theorem tpl_bodkinref02_Table : plQ Tryd.prog 159 = some [(0, 1), (1, 1)] := by kernel_rfl
theorem tfd_bodkinref02_Table_Zero : fdT Tryd.prog 159 0 = some (157, 0) := by kernel_rfl
theorem tfd_bodkinref02_Table_Wide : fdT Tryd.prog 159 1 = some (157, 1) := by kernel_rfl
abbrev T.tree_inner : Nat := 166
theorem tagg_tree_inner : aggN Tryd.prog 166 = some 8 := by kernel_rfl
theorem tsz_tree_inner : szQ Tryd.prog 166 = 8 := by kernel_rfl
theorem tby_tree_inner : byQ Tryd.prog 166 = 80 := by kernel_rfl
theorem tze_tree_inner : zeroQ Tryd.prog 166 = some [(.slice none 0 0), (.int .i64 0), (.int .i64 0), (.int .i64 0), (.int .i64 0), (.int .i64 0), (.int .i64 0), (.int .i64 0)] := by kernel_rfl
theorem tfl_tree_inner_kids : flQ Tryd.prog 166 0 = some 0 := by kernel_rfl
theorem tfl_tree_inner_height : flQ Tryd.prog 166 1 = some 1 := by kernel_rfl
theorem tfl_tree_inner_sum : flQ Tryd.prog 166 2 = some 2 := by kernel_rfl
theorem tpl_tree_inner : plQ Tryd.prog 166 = some [(0, 1), (1, 1), (2, 6)] := by kernel_rfl
theorem tfd_tree_inner_kids : fdT Tryd.prog 166 0 = some (126, 0) := by kernel_rfl
theorem tfd_tree_inner_height : fdT Tryd.prog 166 1 = some (3, 1) := by kernel_rfl
theorem tfd_tree_inner_sum : fdT Tryd.prog 166 2 = some (114, 2) := by kernel_rfl
abbrev T.tree_Place : Nat := 176
theorem tagg_tree_Place : aggN Tryd.prog 176 = some 8 := by kernel_rfl
theorem tsz_tree_Place : szQ Tryd.prog 176 = 8 := by kernel_rfl
theorem tby_tree_Place : byQ Tryd.prog 176 = 64 := by kernel_rfl
theorem tze_tree_Place : zeroQ Tryd.prog 176 = some [(.int .i64 0), (.int .i64 0), (.int .i64 0), (.int .i64 0), (.int .i64 0), (.int .i64 0), (.int .i64 0), (.int .i64 0)] := by kernel_rfl
theorem tfl_tree_Place_Index : flQ Tryd.prog 176 0 = some 0 := by kernel_rfl
theorem tfl_tree_Place_Before : flQ Tryd.prog 176 1 = some 1 := by kernel_rfl
theorem tfl_tree_Place_Visits : flQ Tryd.prog 176 2 = some 7 := by kernel_rfl
theorem tpl_tree_Place : plQ Tryd.prog 176 = some [(0, 1), (1, 6), (7, 1)] := by kernel_rfl
theorem tfd_tree_Place_Index : fdT Tryd.prog 176 0 = some (3, 0) := by kernel_rfl
theorem tfd_tree_Place_Before : fdT Tryd.prog 176 1 = some (114, 1) := by kernel_rfl
theorem tfd_tree_Place_Visits : fdT Tryd.prog 176 2 = some (3, 7) := by kernel_rfl
abbrev T.dl_tree_Place : List Nat := [3, 3, 3, 3, 3, 3, 3, 3]
theorem tdq_tree_Place : deepQ Tryd.prog 20 176 = some T.dl_tree_Place := by kernel_rfl
theorem taq_tree_Place : aggQ Tryd.prog 176 = true := by kernel_rfl
theorem tgq_tree_Place : Tryd.prog.eqGuardType Tryd.prog.depth 176 = false := by kernel_rfl
abbrev T.seek_Cursor : Nat := 178
theorem tagg_seek_Cursor : aggN Tryd.prog 178 = some 9 := by kernel_rfl
theorem tsz_seek_Cursor : szQ Tryd.prog 178 = 9 := by kernel_rfl
theorem tby_seek_Cursor : byQ Tryd.prog 178 = 72 := by kernel_rfl
theorem tze_seek_Cursor : zeroQ Tryd.prog 178 = some [(.pointer none), (.int .i64 0), (.int .i64 0), (.int .i64 0), (.int .i64 0), (.int .i64 0), (.int .i64 0), (.int .i64 0), (.int .i64 0)] := by kernel_rfl
theorem tfl_seek_Cursor_t : flQ Tryd.prog 178 0 = some 0 := by kernel_rfl
theorem tfl_seek_Cursor_at : flQ Tryd.prog 178 1 = some 1 := by kernel_rfl
theorem tpl_seek_Cursor : plQ Tryd.prog 178 = some [(0, 1), (1, 8)] := by kernel_rfl
theorem tfd_seek_Cursor_t : fdT Tryd.prog 178 0 = some (60, 0) := by kernel_rfl
theorem tfd_seek_Cursor_at : fdT Tryd.prog 178 1 = some (176, 1) := by kernel_rfl
abbrev T.A4_int32 : Nat := 185
theorem tagg_A4_int32 : aggN Tryd.prog 185 = some 4 := by kernel_rfl
theorem tsz_A4_int32 : szQ Tryd.prog 185 = 4 := by kernel_rfl
theorem tby_A4_int32 : byQ Tryd.prog 185 = 16 := by kernel_rfl
theorem tze_A4_int32 : zeroQ Tryd.prog 185 = some [(.int .i32 0), (.int .i32 0), (.int .i32 0), (.int .i32 0)] := by kernel_rfl
theorem tpl_A4_int32 : plQ Tryd.prog 185 = some [(0, 1), (1, 1), (2, 1), (3, 1)] := by kernel_rfl
theorem tar_A4_int32 : arQ Tryd.prog 185 = some (4, 21) := by kernel_rfl
abbrev T.dl_A4_int32 : List Nat := [21, 21, 21, 21]
theorem tdq_A4_int32 : deepQ Tryd.prog 20 185 = some T.dl_A4_int32 := by kernel_rfl
theorem taq_A4_int32 : aggQ Tryd.prog 185 = true := by kernel_rfl
theorem tgq_A4_int32 : Tryd.prog.eqGuardType Tryd.prog.depth 185 = false := by kernel_rfl
/-- 'bodkin bodkinlaw43.OutlineIndents' -/
def bodkinlaw43_OutlineIndents (K : K1) (s0 tab1 : Value) (w : World) : Prop :=
  sBuiltin Tryd.prog .len [9] 3 [s0] w fun x10 w =>
  sBin Tryd.prog .gtr 3 false true x10 (.int .i64 500) w fun x11 w =>
  sIf x11 (
    sCall Tryd.prog 9 [] w fun x12 w =>
    K x12 w) (
    sCall Tryd.prog 10 [s0] w fun x15 w =>
    sExtract x15 0 w fun x16 w =>
    sExtract x15 1 w fun x17 w =>
    sCall Tryd.prog 11 [x16, tab1] w fun x21 w =>
    sExtract x21 0 w fun x22 w =>
    sExtract x21 1 w fun x23 w =>
    sCall Tryd.prog 12 [tab1] w fun x25 w =>
    sUn Tryd.prog .not x25 w fun x26 w =>
    sIf x26 (
      sBin Tryd.prog .eql 24 false true x23 (.int .i64 1) w fun x28 w =>
      sIf x28 (
        sBuiltin Tryd.prog .len [27] 3 [x22] w fun x31 w =>
        sBin Tryd.prog .eql 3 false true x31 (.int .i64 0) w fun x32 w =>
        sIf x32 (
          sCall Tryd.prog 9 [] w fun x35 w =>
          K x35 w) (
          K (.bool false) w)) (
        K (.bool false) w)) (
      sBin Tryd.prog .eql 24 false true x17 (.int .i64 0) w fun x38 w =>
      sIf x38 (
        sBin Tryd.prog .eql 24 false true x23 (.int .i64 0) w fun x41 w =>
        sIf x41 (
          sCall Tryd.prog 15 [s0] w fun x46 w =>
          sCall Tryd.prog 14 [x46, tab1] w fun x48 w =>
          sCall Tryd.prog 13 [x22, x48] w fun x49 w =>
          sIf x49 (
            sCall Tryd.prog 9 [] w fun x52 w =>
            K x52 w) (
            K (.bool false) w)) (
          K (.bool false) w)) (
        K (.bool false) w)))

def bodkinlaw43_OutlineIndents.sc : SC := (.seq (.reg (.op 0 .done)) (.seq (.seq (.reg (.op 0 (.op 1 (.op 2 .done)))) (.cond (.seq (.reg (.op 0 (.op 1 .done))) .nop) .nop)) (.seq (.reg (.op 0 (.op 1 (.op 2 (.op 3 (.op 4 (.op 5 (.op 6 .done)))))))) (.seq (.reg (.op 0 (.op 1 (.op 2 (.op 3 (.op 4 (.op 5 (.op 6 (.op 7 .done))))))))) (.seq (.seq (.reg (.op 0 (.op 1 (.op 2 .done)))) (.cond (.seq (.reg (.op 0 (.op 1 (.op 2 (.test 2 (.op 3 (.op 4 (.op 5 (.op 6 (.op 7 (.test 7 (.op 8 (.op 9 (.op 10 .done))) (.skip 8 (.op 9 (.op 10 .done))))))))) (.skip 3 (.skip 4 (.skip 5 (.op 6 (.op 7 (.know 7 false (.skip 8 (.op 9 (.op 10 .done)))))))))))))) .nop) .nop)) (.seq (.reg (.op 0 (.op 1 (.op 2 (.test 2 (.op 3 (.op 4 (.op 5 (.op 6 (.test 6 (.op 7 (.op 8 (.op 9 (.op 10 (.op 11 (.op 12 (.op 13 (.op 14 (.test 14 (.op 15 (.op 16 (.op 17 .done))) (.skip 15 (.op 16 (.op 17 .done)))))))))))) (.skip 7 (.skip 8 (.skip 9 (.skip 10 (.skip 11 (.skip 12 (.op 13 (.op 14 (.know 14 false (.skip 15 (.op 16 (.op 17 .done))))))))))))))))) (.skip 3 (.skip 4 (.op 5 (.op 6 (.know 6 false (.skip 7 (.skip 8 (.skip 9 (.skip 10 (.skip 11 (.skip 12 (.op 13 (.op 14 (.know 14 false (.skip 15 (.op 16 (.op 17 .done)))))))))))))))))))))) .nop))))))

theorem bodkinlaw43_OutlineIndents.ok : okC Tryd.f3.ntmps bodkinlaw43_OutlineIndents.sc (bodyOf Tryd.f3) = true := by kernel_rfl

theorem bodkinlaw43_OutlineIndents.eq {K : K1} {s0 tab1 : Value} {w : World} : bodkinlaw43_OutlineIndents K s0 tab1 w = codeS Tryd.prog bodkinlaw43_OutlineIndents.sc (bodyOf Tryd.f3) (argsF 0 [s0, tab1]) w (retQ Tryd.prog Tryd.f3.results.toList K) := by kernel_rfl

theorem bodkinlaw43_OutlineIndents.call {K : K1} {s0 tab1 : Value} {w : World} (h : bodkinlaw43_OutlineIndents K s0 tab1 w) : sCall Tryd.prog 3 [s0, tab1] w K := sCall_code mixed Tryd.func3 (by kernel_rfl) rfl rfl bodkinlaw43_OutlineIndents.ok bodkinlaw43_OutlineIndents.eq h

abbrev bodkinlaw43_OutlineIndents.n : Nat := 3

/-- 'bodkin bodkinlaw43.OutlineNests' -/
def bodkinlaw43_OutlineNests_L3 (K : K1) (Nx1 : List Value → World → Prop) (Nx3 : List Value → World → Prop) (x10 x41 x56 x57 : Value) (x58 : Value) (w : World) : Prop :=
  sBin Tryd.prog .lss 3 false false x58 x57 w fun x59 w =>
  sIf x59 (
    sIdxA Tryd.prog 36 x56 x58 w fun x60 w =>
    sLoad Tryd.prog 42 x60 w fun x61 w =>
    sAlloc Tryd.prog 42 w fun y12 w =>
    sStore Tryd.prog 42 y12 x61 w fun w =>
    sFldA Tryd.prog 42 y12 0 w fun x62 w =>
    sLoad Tryd.prog 3 x62 w fun x63 w =>
    sFldA Tryd.prog 42 x10 0 w fun x64 w =>
    sLoad Tryd.prog 3 x64 w fun x65 w =>
    sBin Tryd.prog .geq 3 false false x63 x65 w fun x66 w =>
    sIf x66 (
      K (.bool false) w) (
      sFldA Tryd.prog 42 y12 1 w fun x68 w =>
      sLoad Tryd.prog 3 x68 w fun x69 w =>
      sFldA Tryd.prog 42 x10 0 w fun x70 w =>
      sLoad Tryd.prog 3 x70 w fun x71 w =>
      sBin Tryd.prog .geq 3 false false x69 x71 w fun x72 w =>
      sIf x72 (
        sFldA Tryd.prog 42 y12 1 w fun x74 w =>
        sLoad Tryd.prog 3 x74 w fun x75 w =>
        sFldA Tryd.prog 42 x10 1 w fun x76 w =>
        sLoad Tryd.prog 3 x76 w fun x77 w =>
        sBin Tryd.prog .lss 3 false false x75 x77 w fun x78 w =>
        sIf x78 (
          K (.bool false) w) (
          sBin Tryd.prog .add 3 false true x58 (.int .i64 1) w fun x81 w =>
          Nx3 [x81] w)) (
        sBin Tryd.prog .add 3 false true x58 (.int .i64 1) w fun x81_1 w =>
        Nx3 [x81_1] w))) (
    sBin Tryd.prog .add 3 false true x41 (.int .i64 1) w fun x82 w =>
    Nx1 [x82] w)

def bodkinlaw43_OutlineNests_J2 (K : K1) (Nx1 : List Value → World → Prop) (x10 x31 x41 : Value) (w : World) : Prop :=
  sSlice Tryd.prog 36 x31 none (some x41) none w fun x56 w =>
  sBuiltin Tryd.prog .len [36] 3 [x56] w fun x57 w =>
  LoopS [(.int .i64 0)] 1 25 w fun us _ w Nx3 =>
    bodkinlaw43_OutlineNests_L3 K Nx1 Nx3 x10 x41 x56 x57 (hd us) w

def bodkinlaw43_OutlineNests_L1 (K : K1) (Nx1 : List Value → World → Prop) (x25 x31 x40 : Value) (x41 : Value) (w : World) : Prop :=
  sBin Tryd.prog .lss 3 false false x41 x40 w fun x42 w =>
  sIf x42 (
    sIdxA Tryd.prog 36 x31 x41 w fun x44 w =>
    sLoad Tryd.prog 42 x44 w fun x45 w =>
    sAlloc Tryd.prog 42 w fun x10 w =>
    sStore Tryd.prog 42 x10 x45 w fun w =>
    JoinS 0 9 (fun M2 =>
      DrawS w fun C w =>
      stillS C w (fun w k => sFldA Tryd.prog 42 x10 2 w k) fun x48 =>
      stillS C w (fun w k => sLoad Tryd.prog 40 x48 w k) fun x49 =>
      (
        sCall Tryd.prog 18 [x25] w fun x47 w => C w ∧
        sBuildSlice Tryd.prog 43 1 [(0, x49)] w fun x50 w => C w ∧
        sCall Tryd.prog 17 [x47, x50] w fun x51 w => C w ∧
        stillS C w (fun w k => sFld Tryd.prog 45 x51 2 w k) fun x52 =>
        stillS C w (fun w k => sBin Tryd.prog .neq 3 false true x52 (.int .i64 0) w k) fun x53 =>
        sIf x53 (
          K (.bool false) w) (
          M2 [] w)) ∧ (
        sBuildSlice Tryd.prog 43 1 [(0, x49)] w fun x50_1 w => C w ∧
        sCall Tryd.prog 18 [x25] w fun x47_1 w => C w ∧
        sCall Tryd.prog 17 [x47_1, x50_1] w fun x51_1 w => C w ∧
        stillS C w (fun w k => sFld Tryd.prog 45 x51_1 2 w k) fun x52_1 =>
        stillS C w (fun w k => sBin Tryd.prog .neq 3 false true x52_1 (.int .i64 0) w k) fun x53_1 =>
        sIf x53_1 (
          K (.bool false) w) (
          M2 [] w))) fun us _ w =>
      bodkinlaw43_OutlineNests_J2 K Nx1 x10 x31 x41 w) (
    sCall Tryd.prog 9 [] w fun x83 w =>
    K x83 w)

def bodkinlaw43_OutlineNests (K : K1) (s0 tab1 : Value) (w : World) : Prop :=
  sBuiltin Tryd.prog .len [9] 3 [s0] w fun x14 w =>
  sBin Tryd.prog .gtr 3 false true x14 (.int .i64 300) w fun x15 w =>
  sIf x15 (
    sCall Tryd.prog 9 [] w fun x21 w =>
    K x21 w) (
    sCall Tryd.prog 12 [tab1] w fun x18 w =>
    sUn Tryd.prog .not x18 w fun x19 w =>
    sIf x19 (
      sCall Tryd.prog 9 [] w fun x21_1 w =>
      K x21_1 w) (
      sCall Tryd.prog 10 [s0] w fun x24 w =>
      sExtract x24 0 w fun x25 w =>
      sExtract x24 1 w fun x26 w =>
      sCall Tryd.prog 16 [x25, tab1] w fun x30 w =>
      sExtract x30 0 w fun x31 w =>
      sExtract x30 1 w fun x32 w =>
      sBin Tryd.prog .neq 24 false true x26 (.int .i64 0) w fun x34 w =>
      sIf x34 (
        K (.bool false) w) (
        sBin Tryd.prog .neq 24 false true x32 (.int .i64 0) w fun x37 w =>
        sIf x37 (
          K (.bool false) w) (
          sBuiltin Tryd.prog .len [36] 3 [x31] w fun x40 w =>
          LoopS [(.int .i64 0)] 1 45 w fun us _ w Nx1 =>
            bodkinlaw43_OutlineNests_L1 K Nx1 x25 x31 x40 (hd us) w))))

def bodkinlaw43_OutlineNests.sc : SC := (.seq (.reg (.op 0 .done)) (.seq (.seq (.reg (.op 0 (.op 1 (.op 2 (.op 3 (.test 3 (.skip 4 (.skip 5 (.skip 6 (.op 7 .done)))) (.op 4 (.op 5 (.op 6 (.op 7 .done)))))))))) (.cond (.seq (.reg (.op 0 (.op 1 .done))) .nop) .nop)) (.seq (.reg (.op 0 (.op 1 (.op 2 (.op 3 (.op 4 (.op 5 (.op 6 .done)))))))) (.seq (.reg (.op 0 (.op 1 (.op 2 (.op 3 (.op 4 (.op 5 (.op 6 (.op 7 .done))))))))) (.seq (.seq (.reg (.op 0 (.op 1 (.op 2 (.test 2 (.skip 3 (.skip 4 (.op 5 .done))) (.op 3 (.op 4 (.op 5 .done)))))))) (.cond (.seq (.reg (.op 0 .done)) .nop) .nop)) (.seq (.seq (.reg (.op 0 (.op 1 (.op 2 .done)))) (.sub (.loop [41] [42, 43, 44, 45, 10, 9, 46, 47, 48, 49, 50, 51, 52, 53, 4, 54, 55, 56, 57, 58, 59, 60, 61, 12, 62, 63, 64, 65, 66, 67, 68, 69, 70, 71, 72, 73, 74, 75, 76, 77, 78, 79, 80, 81, 82] (.seq (.reg (.op 0 .done)) (.seq (.cond .nop .nop) (.seq (.sub (.seq (.reg (.op 0 (.op 1 (.op 2 (.op 3 (.op 4 (.op 5 .done))))))) (.join [] [46, 47, 48, 49, 50, 51, 52, 53, 4] (.seq (.draw (.op 0 (.op 2 (.op 3 (.alt 1 (.op 4 (.op 5 (.op 6 (.op 7 .done)))) 4 (.op 1 (.op 5 (.op 6 (.op 7 .done))))))))) (.cond (.seq (.reg (.op 0 .done)) .nop) .nop)) (.seq (.reg (.op 0 (.op 1 (.op 2 (.op 3 (.op 4 .done)))))) (.sub (.loop [58] [59, 60, 61, 12, 62, 63, 64, 65, 66, 67, 68, 69, 70, 71, 72, 73, 74, 75, 76, 77, 78, 79, 80, 4, 81] (.seq (.reg (.op 0 .done)) (.seq (.cond .nop .nop) (.seq (.sub (.seq (.reg (.op 0 (.op 1 (.op 2 (.op 3 .done))))) (.seq (.reg (.op 0 (.op 1 (.op 2 (.op 3 (.op 4 (.op 5 (.test 5 (.skip 6 (.skip 7 (.skip 8 (.skip 9 (.skip 10 (.skip 11 (.skip 12 (.skip 13 (.skip 14 (.skip 15 (.skip 16 (.skip 17 (.op 18 .done))))))))))))) (.op 6 (.op 7 (.op 8 (.op 9 (.op 10 (.op 11 (.test 11 (.op 12 (.op 13 (.op 14 (.op 15 (.op 16 (.op 17 (.op 18 .done))))))) (.skip 12 (.skip 13 (.skip 14 (.skip 15 (.skip 16 (.op 17 (.op 18 .done)))))))))))))))))))))) (.cond (.seq (.reg (.op 0 .done)) .nop) .nop)))) (.reg (.op 0 (.op 1 .done)))))))))))) (.reg (.op 0 (.op 1 .done))))))))) (.seq (.reg (.op 0 (.op 1 .done))) .nop)))))))

theorem bodkinlaw43_OutlineNests.ok : okC Tryd.f4.ntmps bodkinlaw43_OutlineNests.sc (bodyOf Tryd.f4) = true := by kernel_rfl

theorem bodkinlaw43_OutlineNests.eq {K : K1} {s0 tab1 : Value} {w : World} : bodkinlaw43_OutlineNests K s0 tab1 w = codeS Tryd.prog bodkinlaw43_OutlineNests.sc (bodyOf Tryd.f4) (argsF 0 [s0, tab1]) w (retQ Tryd.prog Tryd.f4.results.toList K) := by kernel_rfl

theorem bodkinlaw43_OutlineNests.call {K : K1} {s0 tab1 : Value} {w : World} (h : bodkinlaw43_OutlineNests K s0 tab1 w) : sCall Tryd.prog 4 [s0, tab1] w K := sCall_code mixed Tryd.func4 (by kernel_rfl) rfl rfl bodkinlaw43_OutlineNests.ok bodkinlaw43_OutlineNests.eq h

abbrev bodkinlaw43_OutlineNests.n : Nat := 4

/-- 'bodkin bodkinlaw43.OutlineRanges' -/
def bodkinlaw43_OutlineRanges_J3 (K : K1) (Nx2 : List Value → World → Prop) (k15 x18 x39 x92 : Value) (x116 : Value) (w : World) : Prop :=
  sIf x116 (
    DrawS w fun C w =>
    stillS C w (fun w k => sBuiltin Tryd.prog .len [36] 3 [x39] w k) fun x119 =>
    stillS C w (fun w k => sBin Tryd.prog .geq 3 false false k15 x119 w k) fun x120 =>
    sIf x120 (
      K (.bool false) w) (
      stillS C w (fun w k => sIdxA Tryd.prog 36 x39 k15 w k) fun x124 =>
      stillS C w (fun w k => sLoad Tryd.prog 42 x124 w k) fun x125 =>
      stillS C w (fun w k => sLoad Tryd.prog 52 x18 w k) fun x127 =>
      sCall Tryd.prog 22 [x125] w fun x126 w => C w ∧
      stillS C w (fun w k => sBin Tryd.prog .neq 52 false false x126 x127 w k) fun x128 =>
      sIf x128 (
        K (.bool false) w) (
        sBin Tryd.prog .add 3 false true k15 (.int .i64 1) w fun x131 w =>
        sBin Tryd.prog .add 3 false true x92 (.int .i64 1) w fun x132 w =>
        Nx2 [x131, x132] w))) (
    sBin Tryd.prog .add 3 false true x92 (.int .i64 1) w fun x132_1 w =>
    Nx2 [k15, x132_1] w)

def bodkinlaw43_OutlineRanges_L2 (K : K1) (Nx2 : List Value → World → Prop) (row2 there16 x32 x39 x40 x67 x91 : Value) (k15 x92 : Value) (w : World) : Prop :=
  sBin Tryd.prog .lss 3 false false x92 x91 w fun x93 w =>
  sIf x93 (
    sIdxA Tryd.prog 49 x67 x92 w fun x95 w =>
    sLoad Tryd.prog 52 x95 w fun x96 w =>
    sAlloc Tryd.prog 52 w fun x18 w =>
    sStore Tryd.prog 52 x18 x96 w fun w =>
    DrawS w fun C w =>
    stillS C w (fun w k => sIdxA Tryd.prog 36 x32 x92 w k) fun x99 =>
    stillS C w (fun w k => sLoad Tryd.prog 42 x99 w k) fun x100 =>
    stillS C w (fun w k => sLoad Tryd.prog 52 x18 w k) fun x102 =>
    sCall Tryd.prog 22 [x100] w fun x101 w => C w ∧
    stillS C w (fun w k => sBin Tryd.prog .neq 52 false false x101 x102 w k) fun x103 =>
    sIf x103 (
      K (.bool false) w) (
      JoinS 1 12 (fun M3 =>
        sIf there16 (
          sFldA Tryd.prog 52 x18 0 w fun x106 w =>
          sLoad Tryd.prog 3 x106 w fun x107 w =>
          sBin Tryd.prog .leq 3 false false x107 row2 w fun x109 w =>
          sIf x109 (
            sFldA Tryd.prog 52 x18 1 w fun x113 w =>
            sLoad Tryd.prog 3 x113 w fun x114 w =>
            sBin Tryd.prog .leq 3 false false row2 x114 w fun x115 w =>
            M3 [x115] w) (
            M3 [(.bool false)] w)) (
          M3 [(.bool false)] w)) fun us _ w =>
        bodkinlaw43_OutlineRanges_J3 K Nx2 k15 x18 x39 x92 (hd us) w)) (
    sBuiltin Tryd.prog .len [36] 3 [x39] w fun x135 w =>
    sBin Tryd.prog .eql 3 false false k15 x135 w fun x136 w =>
    sIf x136 (
      sBin Tryd.prog .eql 24 false true x40 (.int .i64 0) w fun x139 w =>
      sBin Tryd.prog .eql 4 false false x139 there16 w fun x141 w =>
      sIf x141 (
        sBin Tryd.prog .eql 24 false true x40 (.int .i64 1) w fun x145 w =>
        sUn Tryd.prog .not there16 w fun x147 w =>
        sBin Tryd.prog .eql 4 false false x145 x147 w fun x148 w =>
        sIf x148 (
          sCall Tryd.prog 9 [] w fun x151 w =>
          K x151 w) (
          K (.bool false) w)) (
        K (.bool false) w)) (
      K (.bool false) w))

def bodkinlaw43_OutlineRanges_J1 (K : K1) (row2 x32 x39 x40 x67 : Value) (there16 : Value) (w : World) : Prop :=
  sBuiltin Tryd.prog .len [49] 3 [x67] w fun x91 w =>
  LoopS [(.int .i64 0), (.int .i64 0)] 2 43 w fun us _ w Nx2 =>
    bodkinlaw43_OutlineRanges_L2 K Nx2 row2 there16 x32 x39 x40 x67 x91 (hd us) (hd (tl us)) w

def bodkinlaw43_OutlineRanges (K : K1) (s0 tab1 row2 : Value) (w : World) : Prop :=
  sBuiltin Tryd.prog .len [9] 3 [s0] w fun x20 w =>
  sBin Tryd.prog .gtr 3 false true x20 (.int .i64 300) w fun x21 w =>
  sIf x21 (
    sCall Tryd.prog 9 [] w fun x22 w =>
    K x22 w) (
    sCall Tryd.prog 10 [s0] w fun x25 w =>
    sExtract x25 0 w fun x26 w =>
    sExtract x25 1 w fun x27 w =>
    sCall Tryd.prog 16 [x26, tab1] w fun x31 w =>
    sExtract x31 0 w fun x32 w =>
    sExtract x31 1 w fun x33 w =>
    sCall Tryd.prog 19 [x26, tab1, row2] w fun x38 w =>
    sExtract x38 0 w fun x39 w =>
    sExtract x38 1 w fun x40 w =>
    sCall Tryd.prog 12 [tab1] w fun x42 w =>
    sUn Tryd.prog .not x42 w fun x43 w =>
    sIf x43 (
      sBin Tryd.prog .eql 24 false true x33 (.int .i64 1) w fun x45 w =>
      sIf x45 (
        sBin Tryd.prog .eql 24 false true x40 (.int .i64 1) w fun x48 w =>
        sIf x48 (
          sBuiltin Tryd.prog .len [36] 3 [x32] w fun x52 w =>
          sBin Tryd.prog .eql 3 false true x52 (.int .i64 0) w fun x53 w =>
          sIf x53 (
            sBuiltin Tryd.prog .len [36] 3 [x39] w fun x57 w =>
            sBin Tryd.prog .eql 3 false true x57 (.int .i64 0) w fun x58 w =>
            sIf x58 (
              sCall Tryd.prog 9 [] w fun x61 w =>
              K x61 w) (
              K (.bool false) w)) (
            K (.bool false) w)) (
          K (.bool false) w)) (
        K (.bool false) w)) (
      sCall Tryd.prog 15 [s0] w fun x64 w =>
      sCall Tryd.prog 20 [x64, tab1] w fun x67 w =>
      sBin Tryd.prog .neq 24 false true x27 (.int .i64 0) w fun x69 w =>
      sIf x69 (
        K (.bool false) w) (
        sBin Tryd.prog .neq 24 false true x33 (.int .i64 0) w fun x72 w =>
        sIf x72 (
          K (.bool false) w) (
          sBuiltin Tryd.prog .len [36] 3 [x32] w fun x76 w =>
          sBuiltin Tryd.prog .len [49] 3 [x67] w fun x78 w =>
          sBin Tryd.prog .neq 3 false false x76 x78 w fun x79 w =>
          sIf x79 (
            K (.bool false) w) (
            JoinS 1 9 (fun M1 =>
              sBin Tryd.prog .geq 3 false true row2 (.int .i64 0) w fun x82 w =>
              sIf x82 (
                sCall Tryd.prog 21 [x64] w fun x86 w =>
                sBuiltin Tryd.prog .len [43] 3 [x86] w fun x87 w =>
                sBin Tryd.prog .lss 3 false false row2 x87 w fun x88 w =>
                M1 [x88] w) (
                M1 [(.bool false)] w)) fun us _ w =>
              bodkinlaw43_OutlineRanges_J1 K row2 x32 x39 x40 x67 (hd us) w)))))

def bodkinlaw43_OutlineRanges.sc : SC := (.seq (.reg (.op 0 .done)) (.seq (.seq (.reg (.op 0 (.op 1 (.op 2 .done)))) (.cond (.seq (.reg (.op 0 (.op 1 .done))) .nop) .nop)) (.seq (.reg (.op 0 (.op 1 (.op 2 (.op 3 (.op 4 (.op 5 (.op 6 .done)))))))) (.seq (.reg (.op 0 (.op 1 (.op 2 (.op 3 (.op 4 (.op 5 (.op 6 (.op 7 .done))))))))) (.seq (.reg (.op 0 (.op 1 (.op 2 (.op 3 (.op 4 (.op 5 (.op 6 (.op 7 (.op 8 .done)))))))))) (.seq (.seq (.reg (.op 0 (.op 1 (.op 2 .done)))) (.cond (.seq (.reg (.op 0 (.op 1 (.op 2 (.test 2 (.op 3 (.op 4 (.op 5 (.op 6 (.test 6 (.op 7 (.op 8 (.op 9 (.op 10 (.op 11 (.test 11 (.op 12 (.op 13 (.op 14 (.op 15 (.op 16 (.test 16 (.op 17 (.op 18 (.op 19 .done))) (.skip 17 (.op 18 (.op 19 .done))))))))) (.skip 12 (.skip 13 (.skip 14 (.op 15 (.op 16 (.know 16 false (.skip 17 (.op 18 (.op 19 .done))))))))))))))) (.skip 7 (.skip 8 (.skip 9 (.op 10 (.op 11 (.know 11 false (.skip 12 (.skip 13 (.skip 14 (.op 15 (.op 16 (.know 16 false (.skip 17 (.op 18 (.op 19 .done)))))))))))))))))))) (.skip 3 (.skip 4 (.op 5 (.op 6 (.know 6 false (.skip 7 (.skip 8 (.skip 9 (.op 10 (.op 11 (.know 11 false (.skip 12 (.skip 13 (.skip 14 (.op 15 (.op 16 (.know 16 false (.skip 17 (.op 18 (.op 19 .done))))))))))))))))))))))))) .nop) .nop)) (.seq (.reg (.op 0 (.op 1 (.op 2 .done)))) (.seq (.reg (.op 0 (.op 1 (.op 2 (.op 3 .done))))) (.seq (.seq (.reg (.op 0 (.op 1 (.op 2 (.test 2 (.skip 3 (.skip 4 (.op 5 (.op 6 (.know 6 true (.skip 7 (.skip 8 (.skip 9 (.skip 10 (.skip 11 (.op 12 .done))))))))))) (.op 3 (.op 4 (.op 5 (.op 6 (.test 6 (.skip 7 (.skip 8 (.skip 9 (.skip 10 (.skip 11 (.op 12 .done)))))) (.op 7 (.op 8 (.op 9 (.op 10 (.op 11 (.op 12 .done)))))))))))))))) (.cond (.seq (.reg (.op 0 .done)) .nop) .nop)) (.seq (.reg (.op 0 .done)) (.join [16] [81, 82, 83, 84, 85, 86, 87, 88, 89] (.reg (.op 0 (.op 1 (.op 2 (.test 2 (.op 3 (.op 4 (.op 5 (.op 6 (.op 7 (.op 8 (.op 9 .done))))))) (.skip 3 (.skip 4 (.skip 5 (.skip 6 (.skip 7 (.op 8 (.op 9 .done)))))))))))) (.seq (.seq (.reg (.op 0 (.op 1 (.op 2 .done)))) (.sub (.loop [15, 92] [93, 94, 95, 96, 18, 17, 97, 98, 99, 100, 101, 102, 103, 6, 104, 105, 106, 107, 108, 109, 110, 111, 112, 113, 114, 115, 116, 117, 118, 119, 120, 121, 122, 123, 124, 125, 126, 127, 128, 129, 130, 131, 132] (.seq (.reg (.op 0 .done)) (.seq (.cond .nop .nop) (.seq (.sub (.seq (.reg (.op 0 (.op 1 (.op 2 (.op 3 (.op 4 (.op 5 .done))))))) (.seq (.seq (.draw (.op 0 (.op 1 (.op 2 (.op 3 (.op 5 (.op 4 (.op 6 .done)))))))) (.cond (.seq (.reg (.op 0 .done)) .nop) .nop)) (.join [116] [104, 105, 106, 107, 108, 109, 110, 111, 112, 113, 114, 115] (.reg (.op 0 (.op 1 (.test 1 (.op 2 (.op 3 (.op 4 (.op 5 (.op 6 (.op 7 (.test 7 (.op 8 (.op 9 (.op 10 (.op 11 (.op 12 .done))))) (.skip 8 (.skip 9 (.skip 10 (.skip 11 (.op 12 .done)))))))))))) (.skip 2 (.skip 3 (.skip 4 (.skip 5 (.op 6 (.op 7 (.know 7 false (.skip 8 (.skip 9 (.skip 10 (.skip 11 (.op 12 .done)))))))))))))))) (.cond (.seq (.seq (.draw (.op 0 (.op 1 (.op 2 (.op 3 (.op 4 (.test 4 (.skip 5 (.skip 6 (.skip 7 (.skip 8 (.skip 9 (.skip 10 (.skip 11 (.op 12 .done)))))))) (.op 5 (.op 6 (.op 7 (.op 8 (.op 10 (.op 9 (.op 11 (.op 12 .done))))))))))))))) (.cond (.seq (.reg (.op 0 .done)) .nop) .nop)) (.reg (.op 0 (.op 1 (.op 2 .done))))) .nop))))) (.reg (.op 0 (.op 1 .done))))))))) (.seq (.reg (.op 0 (.op 1 (.op 2 (.op 3 (.op 4 (.test 4 (.op 5 (.op 6 (.op 7 (.op 8 (.op 9 (.op 10 (.test 10 (.op 11 (.op 12 (.op 13 (.op 14 (.op 15 (.op 16 (.op 17 (.test 17 (.op 18 (.op 19 (.op 20 .done))) (.skip 18 (.op 19 (.op 20 .done))))))))))) (.skip 11 (.skip 12 (.skip 13 (.skip 14 (.skip 15 (.op 16 (.op 17 (.know 17 false (.skip 18 (.op 19 (.op 20 .done)))))))))))))))))) (.skip 5 (.skip 6 (.skip 7 (.skip 8 (.op 9 (.op 10 (.know 10 false (.skip 11 (.skip 12 (.skip 13 (.skip 14 (.skip 15 (.op 16 (.op 17 (.know 17 false (.skip 18 (.op 19 (.op 20 .done))))))))))))))))))))))))) .nop)))))))))))))

theorem bodkinlaw43_OutlineRanges.ok : okC Tryd.f5.ntmps bodkinlaw43_OutlineRanges.sc (bodyOf Tryd.f5) = true := by kernel_rfl

theorem bodkinlaw43_OutlineRanges.eq {K : K1} {s0 tab1 row2 : Value} {w : World} : bodkinlaw43_OutlineRanges K s0 tab1 row2 w = codeS Tryd.prog bodkinlaw43_OutlineRanges.sc (bodyOf Tryd.f5) (argsF 0 [s0, tab1, row2]) w (retQ Tryd.prog Tryd.f5.results.toList K) := by kernel_rfl

theorem bodkinlaw43_OutlineRanges.call {K : K1} {s0 tab1 row2 : Value} {w : World} (h : bodkinlaw43_OutlineRanges K s0 tab1 row2 w) : sCall Tryd.prog 5 [s0, tab1, row2] w K := sCall_code mixed Tryd.func5 (by kernel_rfl) rfl rfl bodkinlaw43_OutlineRanges.ok bodkinlaw43_OutlineRanges.eq h

abbrev bodkinlaw43_OutlineRanges.n : Nat := 5

/-- 'bodkin bodkinlaw43.OutlinePartners' -/
def bodkinlaw43_OutlinePartners (K : K1) (s0 at1 : Value) (w : World) : Prop :=
  sBuiltin Tryd.prog .len [9] 3 [s0] w fun x12 w =>
  sBin Tryd.prog .gtr 3 false true x12 (.int .i64 500) w fun x13 w =>
  sIf x13 (
    sCall Tryd.prog 9 [] w fun x14 w =>
    K x14 w) (
    sCall Tryd.prog 10 [s0] w fun x17 w =>
    sExtract x17 0 w fun x18 w =>
    sExtract x17 1 w fun x19 w =>
    sCall Tryd.prog 23 [x18, at1] w fun x23 w =>
    sExtract x23 0 w fun x24 w =>
    sExtract x23 1 w fun x25 w =>
    sCall Tryd.prog 15 [s0] w fun x28 w =>
    sCall Tryd.prog 24 [x28, at1] w fun x30 w =>
    sExtract x30 0 w fun x31 w =>
    sExtract x30 1 w fun x32 w =>
    sBin Tryd.prog .eql 24 false true x19 (.int .i64 0) w fun x34 w =>
    sIf x34 (
      sBin Tryd.prog .eql 3 false false x24 x31 w fun x38 w =>
      sIf x38 (
        sBin Tryd.prog .eql 3 false false x25 x32 w fun x43 w =>
        sIf x43 (
          sCall Tryd.prog 9 [] w fun x46 w =>
          K x46 w) (
          K (.bool false) w)) (
        K (.bool false) w)) (
      K (.bool false) w))

def bodkinlaw43_OutlinePartners.sc : SC := (.seq (.reg (.op 0 .done)) (.seq (.seq (.reg (.op 0 (.op 1 (.op 2 .done)))) (.cond (.seq (.reg (.op 0 (.op 1 .done))) .nop) .nop)) (.seq (.reg (.op 0 (.op 1 (.op 2 (.op 3 (.op 4 (.op 5 (.op 6 .done)))))))) (.seq (.reg (.op 0 (.op 1 (.op 2 (.op 3 (.op 4 (.op 5 (.op 6 (.op 7 .done))))))))) (.seq (.reg (.op 0 (.op 1 (.op 2 (.op 3 (.op 4 (.op 5 (.op 6 (.op 7 (.op 8 .done)))))))))) (.seq (.reg (.op 0 (.op 1 (.op 2 (.test 2 (.op 3 (.op 4 (.op 5 (.op 6 (.op 7 (.test 7 (.op 8 (.op 9 (.op 10 (.op 11 (.op 12 (.test 12 (.op 13 (.op 14 (.op 15 .done))) (.skip 13 (.op 14 (.op 15 .done))))))))) (.skip 8 (.skip 9 (.skip 10 (.op 11 (.op 12 (.know 12 false (.skip 13 (.op 14 (.op 15 .done))))))))))))))) (.skip 3 (.skip 4 (.skip 5 (.op 6 (.op 7 (.know 7 false (.skip 8 (.skip 9 (.skip 10 (.op 11 (.op 12 (.know 12 false (.skip 13 (.op 14 (.op 15 .done)))))))))))))))))))) .nop))))))

theorem bodkinlaw43_OutlinePartners.ok : okC Tryd.f6.ntmps bodkinlaw43_OutlinePartners.sc (bodyOf Tryd.f6) = true := by kernel_rfl

theorem bodkinlaw43_OutlinePartners.eq {K : K1} {s0 at1 : Value} {w : World} : bodkinlaw43_OutlinePartners K s0 at1 w = codeS Tryd.prog bodkinlaw43_OutlinePartners.sc (bodyOf Tryd.f6) (argsF 0 [s0, at1]) w (retQ Tryd.prog Tryd.f6.results.toList K) := by kernel_rfl

theorem bodkinlaw43_OutlinePartners.call {K : K1} {s0 at1 : Value} {w : World} (h : bodkinlaw43_OutlinePartners K s0 at1 w) : sCall Tryd.prog 6 [s0, at1] w K := sCall_code mixed Tryd.func6 (by kernel_rfl) rfl rfl bodkinlaw43_OutlinePartners.ok bodkinlaw43_OutlinePartners.eq h

abbrev bodkinlaw43_OutlinePartners.n : Nat := 6

/-- 'bodkin bodkinlaw43.OutlineBack' -/
def bodkinlaw43_OutlineBack_L1 (K : K1) (Nx1 : List Value → World → Prop) (x17 x23 : Value) (x24 : Value) (w : World) : Prop :=
  sBin Tryd.prog .lss 3 false false x24 x23 w fun x25 w =>
  sIf x25 (
    sCall Tryd.prog 23 [x17, x24] w fun x30 w =>
    sExtract x30 0 w fun x31 w =>
    sExtract x30 1 w fun x32 w =>
    sBin Tryd.prog .neq 24 false true x32 (.int .i64 0) w fun x34 w =>
    sIf x34 (
      sBin Tryd.prog .add 3 false true x24 (.int .i64 1) w fun x53 w =>
      Nx1 [x53] w) (
      sCall Tryd.prog 23 [x17, x31] w fun x38 w =>
      sExtract x38 0 w fun x39 w =>
      sExtract x38 1 w fun x40 w =>
      sBin Tryd.prog .neq 24 false true x40 (.int .i64 0) w fun x42 w =>
      sIf x42 (
        K (.bool false) w) (
        sBin Tryd.prog .neq 3 false false x39 x24 w fun x46 w =>
        sIf x46 (
          K (.bool false) w) (
          sBin Tryd.prog .eql 3 false false x31 x24 w fun x51 w =>
          sIf x51 (
            K (.bool false) w) (
            sBin Tryd.prog .add 3 false true x24 (.int .i64 1) w fun x53_1 w =>
            Nx1 [x53_1] w))))) (
    sCall Tryd.prog 9 [] w fun x54 w =>
    K x54 w)

def bodkinlaw43_OutlineBack (K : K1) (s0 : Value) (w : World) : Prop :=
  sBuiltin Tryd.prog .len [9] 3 [s0] w fun x11 w =>
  sBin Tryd.prog .gtr 3 false true x11 (.int .i64 120) w fun x12 w =>
  sIf x12 (
    sCall Tryd.prog 9 [] w fun x13 w =>
    K x13 w) (
    sCall Tryd.prog 10 [s0] w fun x16 w =>
    sExtract x16 0 w fun x17 w =>
    sExtract x16 1 w fun x18 w =>
    sBin Tryd.prog .neq 24 false true x18 (.int .i64 0) w fun x20 w =>
    sIf x20 (
      K (.bool false) w) (
      sCall Tryd.prog 15 [s0] w fun x22 w =>
      sBuiltin Tryd.prog .len [33] 3 [x22] w fun x23 w =>
      LoopS [(.int .i64 0)] 1 35 w fun us _ w Nx1 =>
        bodkinlaw43_OutlineBack_L1 K Nx1 x17 x23 (hd us) w))

def bodkinlaw43_OutlineBack.sc : SC := (.seq (.reg (.op 0 .done)) (.seq (.seq (.reg (.op 0 (.op 1 (.op 2 .done)))) (.cond (.seq (.reg (.op 0 (.op 1 .done))) .nop) .nop)) (.seq (.reg (.op 0 (.op 1 (.op 2 (.op 3 (.op 4 (.op 5 (.op 6 .done)))))))) (.seq (.seq (.reg (.op 0 (.op 1 .done))) (.cond (.seq (.reg (.op 0 .done)) .nop) .nop)) (.seq (.seq (.reg (.op 0 (.op 1 (.op 2 (.op 3 .done))))) (.sub (.loop [24] [25, 26, 5, 28, 29, 30, 27, 31, 32, 6, 7, 33, 34, 36, 37, 38, 35, 39, 40, 8, 9, 41, 42, 43, 44, 45, 46, 47, 48, 49, 50, 51, 52, 2, 53] (.seq (.reg (.op 0 .done)) (.seq (.cond .nop .nop) (.seq (.sub (.seq (.reg (.op 0 (.op 1 .done))) (.seq (.reg (.op 0 (.op 1 (.op 2 (.op 3 (.op 4 (.op 5 (.op 6 (.op 7 .done))))))))) (.seq (.seq (.reg (.op 0 (.op 1 .done))) (.cond .nop .nop)) (.seq (.reg (.op 0 (.op 1 (.op 2 (.op 3 (.op 4 (.op 5 (.op 6 (.op 7 .done))))))))) (.seq (.reg (.op 0 (.op 1 (.op 2 (.test 2 (.skip 3 (.skip 4 (.skip 5 (.op 6 (.op 7 (.know 7 true (.skip 8 (.skip 9 (.skip 10 (.op 11 .done)))))))))) (.op 3 (.op 4 (.op 5 (.op 6 (.op 7 (.test 7 (.skip 8 (.skip 9 (.skip 10 (.op 11 .done)))) (.op 8 (.op 9 (.op 10 (.op 11 .done))))))))))))))) (.cond (.seq (.reg (.op 0 .done)) .nop) .nop))))))) (.reg (.op 0 (.op 1 .done))))))))) (.seq (.reg (.op 0 (.op 1 .done))) .nop))))))

theorem bodkinlaw43_OutlineBack.ok : okC Tryd.f7.ntmps bodkinlaw43_OutlineBack.sc (bodyOf Tryd.f7) = true := by kernel_rfl

theorem bodkinlaw43_OutlineBack.eq {K : K1} {s0 : Value} {w : World} : bodkinlaw43_OutlineBack K s0 w = codeS Tryd.prog bodkinlaw43_OutlineBack.sc (bodyOf Tryd.f7) (argsF 0 [s0]) w (retQ Tryd.prog Tryd.f7.results.toList K) := by kernel_rfl

theorem bodkinlaw43_OutlineBack.call {K : K1} {s0 : Value} {w : World} (h : bodkinlaw43_OutlineBack K s0 w) : sCall Tryd.prog 7 [s0] w K := sCall_code mixed Tryd.func7 (by kernel_rfl) rfl rfl bodkinlaw43_OutlineBack.ok bodkinlaw43_OutlineBack.eq h

abbrev bodkinlaw43_OutlineBack.n : Nat := 7

/-- 'bodkin bodkinlaw43.OutlineNil' -/
def bodkinlaw43_OutlineNil (K : K1) (at0 : Value) (w : World) : Prop :=
  sCall Tryd.prog 11 [(.pointer none), (.int .i64 4)] w fun x10 w =>
  sExtract x10 0 w fun x11 w =>
  sExtract x10 1 w fun x12 w =>
  sCall Tryd.prog 16 [(.pointer none), (.int .i64 4)] w fun x14 w =>
  sExtract x14 0 w fun x15 w =>
  sExtract x14 1 w fun x16 w =>
  sCall Tryd.prog 23 [(.pointer none), at0] w fun x19 w =>
  sExtract x19 0 w fun x20 w =>
  sExtract x19 1 w fun x21 w =>
  sBin Tryd.prog .eql 24 false true x12 (.int .i64 0) w fun x23 w =>
  sIf x23 (
    sBin Tryd.prog .eql 24 false true x16 (.int .i64 0) w fun x26 w =>
    sIf x26 (
      sBin Tryd.prog .eql 24 false true x21 (.int .i64 1) w fun x30 w =>
      sIf x30 (
        sBuildSlice Tryd.prog 27 1 [(0, (.int .i64 (-1)))] w fun x34 w =>
        sCall Tryd.prog 13 [x11, x34] w fun x35 w =>
        sIf x35 (
          sBuiltin Tryd.prog .len [36] 3 [x15] w fun x39 w =>
          sBin Tryd.prog .eql 3 false true x39 (.int .i64 0) w fun x40 w =>
          sIf x40 (
            sCall Tryd.prog 9 [] w fun x43 w =>
            K x43 w) (
            K (.bool false) w)) (
          K (.bool false) w)) (
        K (.bool false) w)) (
      K (.bool false) w)) (
    K (.bool false) w)

def bodkinlaw43_OutlineNil.sc : SC := (.seq (.reg (.op 0 .done)) (.seq (.reg (.op 0 (.op 1 (.op 2 (.op 3 (.op 4 (.op 5 .done))))))) (.seq (.reg (.op 0 (.op 1 (.op 2 (.op 3 (.op 4 (.op 5 .done))))))) (.seq (.reg (.op 0 (.op 1 (.op 2 (.op 3 (.op 4 (.op 5 (.op 6 .done)))))))) (.seq (.reg (.op 0 (.op 1 (.op 2 (.test 2 (.op 3 (.op 4 (.op 5 (.op 6 (.test 6 (.op 7 (.op 8 (.op 9 (.op 10 (.test 10 (.op 11 (.op 12 (.op 13 (.op 14 (.op 15 (.test 15 (.op 16 (.op 17 (.op 18 (.op 19 (.op 20 (.test 20 (.op 21 (.op 22 (.op 23 .done))) (.skip 21 (.op 22 (.op 23 .done))))))))) (.skip 16 (.skip 17 (.skip 18 (.op 19 (.op 20 (.know 20 false (.skip 21 (.op 22 (.op 23 .done))))))))))))))) (.skip 11 (.skip 12 (.skip 13 (.op 14 (.op 15 (.know 15 false (.skip 16 (.skip 17 (.skip 18 (.op 19 (.op 20 (.know 20 false (.skip 21 (.op 22 (.op 23 .done)))))))))))))))))))) (.skip 7 (.skip 8 (.op 9 (.op 10 (.know 10 false (.skip 11 (.skip 12 (.skip 13 (.op 14 (.op 15 (.know 15 false (.skip 16 (.skip 17 (.skip 18 (.op 19 (.op 20 (.know 20 false (.skip 21 (.op 22 (.op 23 .done))))))))))))))))))))))))) (.skip 3 (.skip 4 (.op 5 (.op 6 (.know 6 false (.skip 7 (.skip 8 (.op 9 (.op 10 (.know 10 false (.skip 11 (.skip 12 (.skip 13 (.op 14 (.op 15 (.know 15 false (.skip 16 (.skip 17 (.skip 18 (.op 19 (.op 20 (.know 20 false (.skip 21 (.op 22 (.op 23 .done)))))))))))))))))))))))))))))) .nop)))))

theorem bodkinlaw43_OutlineNil.ok : okC Tryd.f8.ntmps bodkinlaw43_OutlineNil.sc (bodyOf Tryd.f8) = true := by kernel_rfl

theorem bodkinlaw43_OutlineNil.eq {K : K1} {at0 : Value} {w : World} : bodkinlaw43_OutlineNil K at0 w = codeS Tryd.prog bodkinlaw43_OutlineNil.sc (bodyOf Tryd.f8) (argsF 0 [at0]) w (retQ Tryd.prog Tryd.f8.results.toList K) := by kernel_rfl

theorem bodkinlaw43_OutlineNil.call {K : K1} {at0 : Value} {w : World} (h : bodkinlaw43_OutlineNil K at0 w) : sCall Tryd.prog 8 [at0] w K := sCall_code mixed Tryd.func8 (by kernel_rfl) rfl rfl bodkinlaw43_OutlineNil.ok bodkinlaw43_OutlineNil.eq h

abbrev bodkinlaw43_OutlineNil.n : Nat := 8

/-- 'bodkin bodkinlaw43.one' -/
def bodkinlaw43_one (K : K1) (w : World) : Prop :=
  sCall Tryd.prog 10 [(.string ⟨#[97, 10, 32, 32, 98, 10, 99]⟩)] w fun x6 w =>
  sExtract x6 0 w fun x7 w =>
  sExtract x6 1 w fun x8 w =>
  sCall Tryd.prog 16 [x7, (.int .i64 4)] w fun x11 w =>
  sExtract x11 0 w fun x12 w =>
  sExtract x11 1 w fun x13 w =>
  sBin Tryd.prog .eql 24 false true x8 (.int .i64 0) w fun x15 w =>
  sIf x15 (
    sBin Tryd.prog .eql 24 false true x13 (.int .i64 0) w fun x18 w =>
    sIf x18 (
      sBuiltin Tryd.prog .len [36] 3 [x12] w fun x22 w =>
      sBin Tryd.prog .eql 3 false true x22 (.int .i64 1) w fun x23 w =>
      sIf x23 (
        sIdxA Tryd.prog 36 x12 (.int .i64 0) w fun x27 w =>
        sLoad Tryd.prog 42 x27 w fun x28 w =>
        sBuild Tryd.prog 40 [(0, (.int .i64 1)), (1, (.int .i64 5))] w fun x29 w =>
        sBuild Tryd.prog 42 [(0, (.int .i64 0)), (1, (.int .i64 1)), (2, x29)] w fun x30 w =>
        sBin Tryd.prog .eql 42 false false x28 x30 w fun x31 w =>
        K x31 w) (
        K (.bool false) w)) (
      K (.bool false) w)) (
    K (.bool false) w)

def bodkinlaw43_one.sc : SC := (.seq (.reg (.op 0 .done)) (.seq (.reg (.op 0 (.op 1 (.op 2 (.op 3 (.op 4 (.op 5 .done))))))) (.seq (.reg (.op 0 (.op 1 (.op 2 (.op 3 (.op 4 (.op 5 (.op 6 .done)))))))) (.seq (.reg (.op 0 (.op 1 (.op 2 (.test 2 (.op 3 (.op 4 (.op 5 (.op 6 (.test 6 (.op 7 (.op 8 (.op 9 (.op 10 (.op 11 (.test 11 (.op 12 (.op 13 (.op 14 (.op 15 (.op 16 (.op 17 (.op 18 (.op 19 .done)))))))) (.skip 12 (.skip 13 (.skip 14 (.skip 15 (.skip 16 (.skip 17 (.op 18 (.op 19 .done)))))))))))))) (.skip 7 (.skip 8 (.skip 9 (.op 10 (.op 11 (.know 11 false (.skip 12 (.skip 13 (.skip 14 (.skip 15 (.skip 16 (.skip 17 (.op 18 (.op 19 .done))))))))))))))))))) (.skip 3 (.skip 4 (.op 5 (.op 6 (.know 6 false (.skip 7 (.skip 8 (.skip 9 (.op 10 (.op 11 (.know 11 false (.skip 12 (.skip 13 (.skip 14 (.skip 15 (.skip 16 (.skip 17 (.op 18 (.op 19 .done)))))))))))))))))))))))) .nop))))

theorem bodkinlaw43_one.ok : okC Tryd.f9.ntmps bodkinlaw43_one.sc (bodyOf Tryd.f9) = true := by kernel_rfl

theorem bodkinlaw43_one.eq {K : K1} {w : World} : bodkinlaw43_one K  w = codeS Tryd.prog bodkinlaw43_one.sc (bodyOf Tryd.f9) (argsF 0 []) w (retQ Tryd.prog Tryd.f9.results.toList K) := by kernel_rfl

theorem bodkinlaw43_one.call {K : K1} {w : World} (h : bodkinlaw43_one K  w) : sCall Tryd.prog 9 [] w K := sCall_code mixed Tryd.func9 (by kernel_rfl) rfl rfl bodkinlaw43_one.ok bodkinlaw43_one.eq h

abbrev bodkinlaw43_one.n : Nat := 9

/-- 'bodkin rope.New' -/
def rope_New (K : K1) (s0 : Value) (w : World) : Prop :=
  sCall Tryd.prog 25 [s0] w fun x8 w =>
  sBuiltin Tryd.prog .len [33] 3 [x8] w fun x10 w =>
  sBin Tryd.prog .gtr 3 false true x10 (.int .i64 20000) w fun x11 w =>
  sIf x11 (
    K (.tuple #[(.pointer none), (.int .i64 5)]) w) (
    sCall Tryd.prog 27 [x8] w fun x14 w =>
    sCall Tryd.prog 26 [x14] w fun x15 w =>
    sExtract x15 0 w fun x16 w =>
    sExtract x15 1 w fun x17 w =>
    sBin Tryd.prog .neq 24 false true x17 (.int .i64 0) w fun x19 w =>
    sIf x19 (
      K (.tuple #[(.pointer none), x17]) w) (
      sBuild Tryd.prog 66 [(0, x16)] w fun x22 w =>
      sBox Tryd.prog 66 x22 w fun x23 w =>
      K (.tuple #[x23, (.int .i64 0)]) w))

def rope_New.sc : SC := (.seq (.reg (.op 0 (.op 1 .done))) (.seq (.reg (.op 0 (.op 1 (.op 2 .done)))) (.seq (.seq (.reg (.op 0 (.op 1 (.op 2 .done)))) (.cond (.seq (.reg (.op 0 (.op 1 .done))) .nop) .nop)) (.seq (.reg (.op 0 (.op 1 (.op 2 (.op 3 (.op 4 (.op 5 (.op 6 (.op 7 .done))))))))) (.seq (.seq (.reg (.op 0 (.op 1 .done))) (.cond (.seq (.reg (.op 0 (.op 1 (.op 2 .done)))) .nop) .nop)) (.seq (.reg (.op 0 (.op 1 (.op 2 (.op 3 (.op 4 .done)))))) .nop))))))

theorem rope_New.ok : okC Tryd.f10.ntmps rope_New.sc (bodyOf Tryd.f10) = true := by kernel_rfl

theorem rope_New.eq {K : K1} {s0 : Value} {w : World} : rope_New K s0 w = codeS Tryd.prog rope_New.sc (bodyOf Tryd.f10) (argsF 0 [s0]) w (retQ Tryd.prog Tryd.f10.results.toList K) := by kernel_rfl

theorem rope_New.call {K : K1} {s0 : Value} {w : World} (h : rope_New K s0 w) : sCall Tryd.prog 10 [s0] w K := sCall_code mixed Tryd.func10 (by kernel_rfl) rfl rfl rope_New.ok rope_New.eq h

abbrev rope_New.n : Nat := 10

/-- 'bodkin outline.Indents' -/
def outline_Indents_L1 (K : K1) (Nx1 : List Value → World → Prop) (r0 tab1 x17 : Value) (out6 x18 : Value) (w : World) : Prop :=
  sBin Tryd.prog .lss 3 false false x18 x17 w fun x19 w =>
  sIf x19 (
    sCall Tryd.prog 29 [r0, x18] w fun x24 w =>
    sExtract x24 0 w fun x25 w =>
    sExtract x24 1 w fun x26 w =>
    sCall Tryd.prog 25 [x25] w fun x29 w =>
    sCall Tryd.prog 30 [x29, tab1] w fun x31 w =>
    sBuildSlice Tryd.prog 27 1 [(0, x31)] w fun x32 w =>
    sBuiltin Tryd.prog .append [27, 27] 27 [out6, x32] w fun x33 w =>
    sBin Tryd.prog .add 3 false true x18 (.int .i64 1) w fun x34 w =>
    Nx1 [x33, x34] w) (
    K (.tuple #[out6, (.int .i64 0)]) w)

def outline_Indents (K : K1) (r0 tab1 : Value) (w : World) : Prop :=
  sBin Tryd.prog .lss 3 false true tab1 (.int .i64 1) w fun x11 w =>
  sIf x11 (
    K (.tuple #[(.slice none 0 0), (.int .i64 1)]) w) (
    sBin Tryd.prog .gtr 3 false true tab1 (.int .i64 16) w fun x14 w =>
    sIf x14 (
      K (.tuple #[(.slice none 0 0), (.int .i64 1)]) w) (
      sCall Tryd.prog 28 [r0] w fun x17 w =>
      LoopS [(.slice none 0 0), (.int .i64 0)] 2 19 w fun us _ w Nx1 =>
        outline_Indents_L1 K Nx1 r0 tab1 x17 (hd us) (hd (tl us)) w))

def outline_Indents.sc : SC := (.seq (.reg (.op 0 (.op 1 .done))) (.seq (.seq (.reg (.op 0 (.op 1 (.op 2 (.test 2 (.skip 3 (.skip 4 (.op 5 .done))) (.op 3 (.op 4 (.op 5 .done)))))))) (.cond (.seq (.reg (.op 0 (.op 1 .done))) .nop) .nop)) (.seq (.reg (.op 0 .done)) (.seq (.seq (.reg (.op 0 (.op 1 (.op 2 .done)))) (.sub (.loop [6, 18] [19, 20, 7, 22, 23, 24, 21, 25, 26, 8, 9, 27, 28, 29, 30, 31, 32, 33, 34] (.seq (.reg (.op 0 .done)) (.seq (.cond .nop .nop) (.seq (.sub (.seq (.reg (.op 0 (.op 1 .done))) (.seq (.reg (.op 0 (.op 1 (.op 2 (.op 3 (.op 4 (.op 5 (.op 6 (.op 7 .done))))))))) (.reg (.op 0 (.op 1 (.op 2 (.op 3 (.op 4 (.op 5 (.op 6 (.op 7 .done)))))))))))) (.reg (.op 0 (.op 1 .done))))))))) (.seq (.reg (.op 0 (.op 1 (.op 2 .done)))) .nop)))))

theorem outline_Indents.ok : okC Tryd.f11.ntmps outline_Indents.sc (bodyOf Tryd.f11) = true := by kernel_rfl

theorem outline_Indents.eq {K : K1} {r0 tab1 : Value} {w : World} : outline_Indents K r0 tab1 w = codeS Tryd.prog outline_Indents.sc (bodyOf Tryd.f11) (argsF 0 [r0, tab1]) w (retQ Tryd.prog Tryd.f11.results.toList K) := by kernel_rfl

theorem outline_Indents.call {K : K1} {r0 tab1 : Value} {w : World} (h : outline_Indents K r0 tab1 w) : sCall Tryd.prog 11 [r0, tab1] w K := sCall_code mixed Tryd.func11 (by kernel_rfl) rfl rfl outline_Indents.ok outline_Indents.eq h

abbrev outline_Indents.n : Nat := 11

/-- 'bodkin bodkinref17.Right' -/
def bodkinref17_Right (K : K1) (tab0 : Value) (w : World) : Prop :=
  sBin Tryd.prog .geq 3 false true tab0 (.int .i64 1) w fun x4 w =>
  sIf x4 (
    sBin Tryd.prog .leq 3 false true tab0 (.int .i64 16) w fun x7 w =>
    K x7 w) (
    K (.bool false) w)

def bodkinref17_Right.sc : SC := (.seq (.reg (.op 0 .done)) (.seq (.reg (.op 0 (.op 1 (.op 2 (.test 2 (.op 3 (.op 4 (.op 5 (.op 6 .done)))) (.skip 3 (.skip 4 (.op 5 (.op 6 .done))))))))) .nop))

theorem bodkinref17_Right.ok : okC Tryd.f12.ntmps bodkinref17_Right.sc (bodyOf Tryd.f12) = true := by kernel_rfl

theorem bodkinref17_Right.eq {K : K1} {tab0 : Value} {w : World} : bodkinref17_Right K tab0 w = codeS Tryd.prog bodkinref17_Right.sc (bodyOf Tryd.f12) (argsF 0 [tab0]) w (retQ Tryd.prog Tryd.f12.results.toList K) := by kernel_rfl

theorem bodkinref17_Right.call {K : K1} {tab0 : Value} {w : World} (h : bodkinref17_Right K tab0 w) : sCall Tryd.prog 12 [tab0] w K := sCall_code mixed Tryd.func12 (by kernel_rfl) rfl rfl bodkinref17_Right.ok bodkinref17_Right.eq h

abbrev bodkinref17_Right.n : Nat := 12

/-- 'bodkin bodkinplain.Ints' -/
def bodkinplain_Ints_L1 (K : K1) (Nx1 : List Value → World → Prop) (a0 b1 x7 : Value) (x8 : Value) (w : World) : Prop :=
  sBin Tryd.prog .lss 3 false false x8 x7 w fun x9 w =>
  sIf x9 (
    DrawS w fun C w =>
    stillS C w (fun w k => sBuiltin Tryd.prog .len [27] 3 [b1] w k) fun x13 =>
    stillS C w (fun w k => sBin Tryd.prog .geq 3 false false x8 x13 w k) fun x14 =>
    sIf x14 (
      K (.bool false) w) (
      stillS C w (fun w k => sIdxA Tryd.prog 27 a0 x8 w k) fun x18 =>
      stillS C w (fun w k => sLoad Tryd.prog 3 x18 w k) fun x19 =>
      stillS C w (fun w k => sIdxA Tryd.prog 27 b1 x8 w k) fun x22 =>
      stillS C w (fun w k => sLoad Tryd.prog 3 x22 w k) fun x23 =>
      stillS C w (fun w k => sBin Tryd.prog .neq 3 false false x19 x23 w k) fun x24 =>
      sIf x24 (
        K (.bool false) w) (
        sBin Tryd.prog .add 3 false true x8 (.int .i64 1) w fun x26 w =>
        Nx1 [x26] w))) (
    sBuiltin Tryd.prog .len [27] 3 [a0] w fun x28 w =>
    sBuiltin Tryd.prog .len [27] 3 [b1] w fun x30 w =>
    sBin Tryd.prog .eql 3 false false x28 x30 w fun x31 w =>
    K x31 w)

def bodkinplain_Ints (K : K1) (a0 b1 : Value) (w : World) : Prop :=
  sBuiltin Tryd.prog .len [27] 3 [a0] w fun x7 w =>
  LoopS [(.int .i64 0)] 1 20 w fun us _ w Nx1 =>
    bodkinplain_Ints_L1 K Nx1 a0 b1 x7 (hd us) w

def bodkinplain_Ints.sc : SC := (.seq (.reg (.op 0 .done)) (.seq (.seq (.reg (.op 0 (.op 1 (.op 2 .done)))) (.sub (.loop [8] [9, 10, 5, 11, 12, 13, 14, 15, 16, 17, 18, 19, 20, 21, 22, 23, 24, 25, 4, 26] (.seq (.reg (.op 0 .done)) (.seq (.cond .nop .nop) (.seq (.sub (.seq (.reg (.op 0 (.op 1 .done))) (.seq (.draw (.op 0 (.op 1 (.op 2 (.op 3 (.op 4 (.test 4 (.skip 5 (.skip 6 (.skip 7 (.skip 8 (.skip 9 (.skip 10 (.skip 11 (.skip 12 (.skip 13 (.op 14 .done)))))))))) (.op 5 (.op 6 (.op 7 (.op 8 (.op 9 (.op 10 (.op 11 (.op 12 (.op 13 (.op 14 .done))))))))))))))))) (.cond (.seq (.reg (.op 0 .done)) .nop) .nop)))) (.reg (.op 0 (.op 1 .done))))))))) (.seq (.reg (.op 0 (.op 1 (.op 2 (.op 3 (.op 4 (.op 5 .done))))))) .nop)))

theorem bodkinplain_Ints.ok : okC Tryd.f13.ntmps bodkinplain_Ints.sc (bodyOf Tryd.f13) = true := by kernel_rfl

theorem bodkinplain_Ints.eq {K : K1} {a0 b1 : Value} {w : World} : bodkinplain_Ints K a0 b1 w = codeS Tryd.prog bodkinplain_Ints.sc (bodyOf Tryd.f13) (argsF 0 [a0, b1]) w (retQ Tryd.prog Tryd.f13.results.toList K) := by kernel_rfl

theorem bodkinplain_Ints.call {K : K1} {a0 b1 : Value} {w : World} (h : bodkinplain_Ints K a0 b1 w) : sCall Tryd.prog 13 [a0, b1] w K := sCall_code mixed Tryd.func13 (by kernel_rfl) rfl rfl bodkinplain_Ints.ok bodkinplain_Ints.eq h

abbrev bodkinplain_Ints.n : Nat := 13

/-- 'bodkin bodkinref43.Indents' -/
def bodkinref43_Indents_L1 (K : K1) (Nx1 : List Value → World → Prop) (l0 tab1 x10 x9 : Value) (out5 x11 : Value) (w : World) : Prop :=
  sBin Tryd.prog .lss 3 false false x11 x10 w fun x12 w =>
  sIf x12 (
    sIdxA Tryd.prog 43 x9 x11 w fun x13 w =>
    sLoad Tryd.prog 40 x13 w fun x14 w =>
    sAlloc Tryd.prog 40 w fun s7 w =>
    sStore Tryd.prog 40 s7 x14 w fun w =>
    sFldA Tryd.prog 40 s7 0 w fun x17 w =>
    sLoad Tryd.prog 3 x17 w fun x18 w =>
    sFldA Tryd.prog 40 s7 1 w fun x19 w =>
    sLoad Tryd.prog 3 x19 w fun x20 w =>
    sSlice Tryd.prog 33 l0 (some x18) (some x20) none w fun x21 w =>
    sCall Tryd.prog 31 [x21, tab1] w fun x23 w =>
    sBuildSlice Tryd.prog 27 1 [(0, x23)] w fun x24 w =>
    sBuiltin Tryd.prog .append [27, 27] 27 [out5, x24] w fun x25 w =>
    sBin Tryd.prog .add 3 false true x11 (.int .i64 1) w fun x26 w =>
    Nx1 [x25, x26] w) (
    K out5 w)

def bodkinref43_Indents (K : K1) (l0 tab1 : Value) (w : World) : Prop :=
  sCall Tryd.prog 21 [l0] w fun x9 w =>
  sBuiltin Tryd.prog .len [43] 3 [x9] w fun x10 w =>
  LoopS [(.slice none 0 0), (.int .i64 0)] 2 16 w fun us _ w Nx1 =>
    bodkinref43_Indents_L1 K Nx1 l0 tab1 x10 x9 (hd us) (hd (tl us)) w

def bodkinref43_Indents.sc : SC := (.seq (.reg (.op 0 .done)) (.seq (.reg (.op 0 .done)) (.seq (.seq (.reg (.op 0 (.op 1 (.op 2 (.op 3 .done))))) (.sub (.loop [5, 11] [12, 13, 14, 7, 15, 16, 17, 18, 19, 20, 21, 22, 23, 24, 25, 26] (.seq (.reg (.op 0 .done)) (.seq (.cond .nop .nop) (.seq (.sub (.seq (.reg (.op 0 (.op 1 (.op 2 (.op 3 .done))))) (.reg (.op 0 (.op 1 (.op 2 (.op 3 (.op 4 (.op 5 (.op 6 (.op 7 (.op 8 (.op 9 (.op 10 (.op 11 .done))))))))))))))) (.reg (.op 0 (.op 1 .done))))))))) (.seq (.reg (.op 0 (.op 1 .done))) .nop))))

theorem bodkinref43_Indents.ok : okC Tryd.f14.ntmps bodkinref43_Indents.sc (bodyOf Tryd.f14) = true := by kernel_rfl

theorem bodkinref43_Indents.eq {K : K1} {l0 tab1 : Value} {w : World} : bodkinref43_Indents K l0 tab1 w = codeS Tryd.prog bodkinref43_Indents.sc (bodyOf Tryd.f14) (argsF 0 [l0, tab1]) w (retQ Tryd.prog Tryd.f14.results.toList K) := by kernel_rfl

theorem bodkinref43_Indents.call {K : K1} {l0 tab1 : Value} {w : World} (h : bodkinref43_Indents K l0 tab1 w) : sCall Tryd.prog 14 [l0, tab1] w K := sCall_code mixed Tryd.func14 (by kernel_rfl) rfl rfl bodkinref43_Indents.ok bodkinref43_Indents.eq h

abbrev bodkinref43_Indents.n : Nat := 14

/-- 'bodkin bodkinref01.Decode' -/
def bodkinref01_Decode_L1 (K : K1) (Nx1 : List Value → World → Prop) (s0 : Value) (out3 at4 : Value) (w : World) : Prop :=
  sBuiltin Tryd.prog .len [9] 3 [s0] w fun x8 w =>
  sBin Tryd.prog .lss 3 false false at4 x8 w fun x9 w =>
  sIf x9 (
    sCall Tryd.prog 32 [s0, at4] w fun x12 w =>
    sAlloc Tryd.prog 72 w fun x5 w =>
    sStore Tryd.prog 72 x5 x12 w fun w =>
    sFldA Tryd.prog 72 x5 0 w fun x14 w =>
    sLoad Tryd.prog 21 x14 w fun x15 w =>
    sBuildSlice Tryd.prog 33 1 [(0, x15)] w fun x16 w =>
    sBuiltin Tryd.prog .append [33, 33] 33 [out3, x16] w fun x17 w =>
    sFldA Tryd.prog 72 x5 1 w fun x19 w =>
    sLoad Tryd.prog 3 x19 w fun x20 w =>
    sBin Tryd.prog .add 3 false false at4 x20 w fun x21 w =>
    Nx1 [x17, x21] w) (
    K out3 w)

def bodkinref01_Decode (K : K1) (s0 : Value) (w : World) : Prop :=
  LoopS [(.slice none 0 0), (.int .i64 0)] 2 17 w fun us _ w Nx1 =>
    bodkinref01_Decode_L1 K Nx1 s0 (hd us) (hd (tl us)) w

def bodkinref01_Decode.sc : SC := (.seq (.reg (.op 0 .done)) (.seq (.reg (.op 0 .done)) (.seq (.reg (.op 0 .done)) (.seq (.sub (.loop [3, 4] [6, 7, 8, 9, 10, 11, 12, 5, 13, 14, 15, 16, 17, 18, 19, 20, 21] (.seq (.seq (.reg (.op 0 (.op 1 (.op 2 (.op 3 .done))))) (.cond .nop .nop)) (.sub (.seq (.reg (.op 0 (.op 1 (.op 2 (.op 3 (.op 4 .done)))))) (.seq (.reg (.op 0 (.op 1 (.op 2 (.op 3 (.op 4 (.op 5 .done))))))) (.reg (.op 0 (.op 1 (.op 2 (.op 3 (.op 4 .done)))))))))))) (.seq (.reg (.op 0 (.op 1 .done))) .nop)))))

theorem bodkinref01_Decode.ok : okC Tryd.f15.ntmps bodkinref01_Decode.sc (bodyOf Tryd.f15) = true := by kernel_rfl

theorem bodkinref01_Decode.eq {K : K1} {s0 : Value} {w : World} : bodkinref01_Decode K s0 w = codeS Tryd.prog bodkinref01_Decode.sc (bodyOf Tryd.f15) (argsF 0 [s0]) w (retQ Tryd.prog Tryd.f15.results.toList K) := by kernel_rfl

theorem bodkinref01_Decode.call {K : K1} {s0 : Value} {w : World} (h : bodkinref01_Decode K s0 w) : sCall Tryd.prog 15 [s0] w K := sCall_code mixed Tryd.func15 (by kernel_rfl) rfl rfl bodkinref01_Decode.ok bodkinref01_Decode.eq h

abbrev bodkinref01_Decode.n : Nat := 15

/-- 'bodkin outline.Ranges' -/
def outline_Ranges_L1 (K : K1) (Nx1 : List Value → World → Prop) (r0 x19 x25 : Value) (out8 x26 : Value) (w : World) : Prop :=
  sBin Tryd.prog .lss 3 false false x26 x25 w fun x27 w =>
  sIf x27 (
    sCall Tryd.prog 33 [x19, x26] w fun x31 w =>
    sBin Tryd.prog .eql 3 false false x31 x26 w fun x34 w =>
    sIf x34 (
      sBin Tryd.prog .add 3 false true x26 (.int .i64 1) w fun x58 w =>
      Nx1 [out8, x58] w) (
      sCall Tryd.prog 34 [r0, x26] w fun x38 w =>
      sExtract x38 0 w fun x39 w =>
      sExtract x38 1 w fun x40 w =>
      sAlloc Tryd.prog 40 w fun a11 w =>
      sStore Tryd.prog 40 a11 x39 w fun w =>
      sCall Tryd.prog 34 [r0, x31] w fun x44 w =>
      sExtract x44 0 w fun x45 w =>
      sExtract x44 1 w fun x46 w =>
      sAlloc Tryd.prog 40 w fun b13 w =>
      sStore Tryd.prog 40 b13 x45 w fun w =>
      sFldA Tryd.prog 40 a11 1 w fun x50 w =>
      sLoad Tryd.prog 3 x50 w fun x51 w =>
      sFldA Tryd.prog 40 b13 1 w fun x52 w =>
      sLoad Tryd.prog 3 x52 w fun x53 w =>
      sBuild Tryd.prog 40 [(0, x51), (1, x53)] w fun x54 w =>
      sBuild Tryd.prog 42 [(0, x26), (1, x31), (2, x54)] w fun x55 w =>
      sBuildSlice Tryd.prog 36 1 [(0, x55)] w fun x56 w =>
      sBuiltin Tryd.prog .append [36, 36] 36 [out8, x56] w fun x57 w =>
      sBin Tryd.prog .add 3 false true x26 (.int .i64 1) w fun x58_1 w =>
      Nx1 [x57, x58_1] w)) (
    K (.tuple #[out8, (.int .i64 0)]) w)

def outline_Ranges (K : K1) (r0 tab1 : Value) (w : World) : Prop :=
  sCall Tryd.prog 11 [r0, tab1] w fun x18 w =>
  sExtract x18 0 w fun x19 w =>
  sExtract x18 1 w fun x20 w =>
  sBin Tryd.prog .neq 24 false true x20 (.int .i64 0) w fun x22 w =>
  sIf x22 (
    K (.tuple #[(.slice none 0 0), x20]) w) (
    sBuiltin Tryd.prog .len [27] 3 [x19] w fun x25 w =>
    LoopS [(.slice none 0 0), (.int .i64 0)] 2 38 w fun us _ w Nx1 =>
      outline_Ranges_L1 K Nx1 r0 x19 x25 (hd us) (hd (tl us)) w)

def outline_Ranges.sc : SC := (.seq (.reg (.op 0 (.op 1 .done))) (.seq (.reg (.op 0 (.op 1 (.op 2 (.op 3 (.op 4 (.op 5 (.op 6 (.op 7 .done))))))))) (.seq (.seq (.reg (.op 0 (.op 1 .done))) (.cond (.seq (.reg (.op 0 (.op 1 (.op 2 .done)))) .nop) .nop)) (.seq (.reg (.op 0 .done)) (.seq (.seq (.reg (.op 0 (.op 1 (.op 2 .done)))) (.sub (.loop [8, 26] [27, 28, 9, 29, 30, 31, 10, 32, 33, 34, 36, 37, 38, 35, 39, 40, 11, 12, 42, 43, 44, 41, 45, 46, 13, 14, 47, 48, 49, 50, 51, 52, 53, 54, 55, 56, 57, 58] (.seq (.reg (.op 0 .done)) (.seq (.cond .nop .nop) (.seq (.sub (.seq (.reg (.op 0 (.op 1 .done))) (.seq (.reg (.op 0 (.op 1 (.op 2 (.op 3 .done))))) (.seq (.seq (.reg (.op 0 (.op 1 (.op 2 .done)))) (.cond .nop .nop)) (.seq (.reg (.op 0 (.op 1 (.op 2 (.op 3 (.op 4 (.op 5 (.op 6 (.op 7 (.op 8 .done)))))))))) (.seq (.reg (.op 0 (.op 1 (.op 2 (.op 3 (.op 4 (.op 5 (.op 6 (.op 7 (.op 8 .done)))))))))) (.reg (.op 0 (.op 1 (.op 2 (.op 3 (.op 4 (.op 5 (.op 6 (.op 7 (.op 8 (.op 9 (.op 10 (.op 11 .done))))))))))))))))))) (.reg (.op 0 (.op 1 .done))))))))) (.seq (.reg (.op 0 (.op 1 (.op 2 .done)))) .nop))))))

theorem outline_Ranges.ok : okC Tryd.f16.ntmps outline_Ranges.sc (bodyOf Tryd.f16) = true := by kernel_rfl

theorem outline_Ranges.eq {K : K1} {r0 tab1 : Value} {w : World} : outline_Ranges K r0 tab1 w = codeS Tryd.prog outline_Ranges.sc (bodyOf Tryd.f16) (argsF 0 [r0, tab1]) w (retQ Tryd.prog Tryd.f16.results.toList K) := by kernel_rfl

theorem outline_Ranges.call {K : K1} {r0 tab1 : Value} {w : World} (h : outline_Ranges K r0 tab1 w) : sCall Tryd.prog 16 [r0, tab1] w K := sCall_code mixed Tryd.func16 (by kernel_rfl) rfl rfl outline_Ranges.ok outline_Ranges.eq h

abbrev outline_Ranges.n : Nat := 16

/-- 'bodkin bodkinref15.New' -/
def bodkinref15_New_J5 (M4 : List Value → World → Prop) (next10 put11 x7 : Value) (x90 : Value) (w : World) : Prop :=
  sIf x90 (
    sLoad Tryd.prog 40 x7 w fun x92 w =>
    sBuildSlice Tryd.prog 43 1 [(0, x92)] w fun x93 w =>
    sBuiltin Tryd.prog .append [43, 43] 43 [next10, x93] w fun x94 w =>
    M4 [x94, (.bool true)] w) (
    M4 [next10, put11] w)

def bodkinref15_New_J4 (Nx3 : List Value → World → Prop) (x64 y13 : Value) (next10_1 put11_1 : Value) (w : World) : Prop :=
  sLoad Tryd.prog 40 y13 w fun x96 w =>
  sBuildSlice Tryd.prog 43 1 [(0, x96)] w fun x97 w =>
  sBuiltin Tryd.prog .append [43, 43] 43 [next10_1, x97] w fun x98 w =>
  sBin Tryd.prog .add 3 false true x64 (.int .i64 1) w fun x99 w =>
  Nx3 [x98, put11_1, x99] w

def bodkinref15_New_L3 (Nx1 : List Value → World → Prop) (Nx3 : List Value → World → Prop) (out5 x27 x63 x7 : Value) (next10 put11 x64 : Value) (w : World) : Prop :=
  sBin Tryd.prog .lss 3 false false x64 x63 w fun x65 w =>
  sIf x65 (
    sIdxA Tryd.prog 43 out5 x64 w fun x66 w =>
    sLoad Tryd.prog 40 x66 w fun x67 w =>
    sAlloc Tryd.prog 40 w fun y13 w =>
    sStore Tryd.prog 40 y13 x67 w fun w =>
    JoinS 2 27 (fun M4 =>
      JoinS 1 22 (fun M5 =>
        sUn Tryd.prog .not put11 w fun x69 w =>
        sIf x69 (
          sFldA Tryd.prog 40 x7 0 w fun x71 w =>
          sLoad Tryd.prog 3 x71 w fun x72 w =>
          sFldA Tryd.prog 40 y13 0 w fun x73 w =>
          sLoad Tryd.prog 3 x73 w fun x74 w =>
          sBin Tryd.prog .lss 3 false false x72 x74 w fun x75 w =>
          sIf x75 (
            M5 [(.bool true)] w) (
            sFldA Tryd.prog 40 x7 0 w fun x77 w =>
            sLoad Tryd.prog 3 x77 w fun x78 w =>
            sFldA Tryd.prog 40 y13 0 w fun x79 w =>
            sLoad Tryd.prog 3 x79 w fun x80 w =>
            sBin Tryd.prog .eql 3 false false x78 x80 w fun x81 w =>
            sIf x81 (
              sFldA Tryd.prog 40 x7 1 w fun x83 w =>
              sLoad Tryd.prog 3 x83 w fun x84 w =>
              sFldA Tryd.prog 40 y13 1 w fun x85 w =>
              sLoad Tryd.prog 3 x85 w fun x86 w =>
              sBin Tryd.prog .lss 3 false false x84 x86 w fun x87 w =>
              M5 [x87] w) (
              M5 [(.bool false)] w))) (
          M5 [(.bool false)] w)) fun us _ w =>
        bodkinref15_New_J5 M4 next10 put11 x7 (hd us) w) fun us _ w =>
      bodkinref15_New_J4 Nx3 x64 y13 (hd us) (hd (tl us)) w) (
    sUn Tryd.prog .not put11 w fun x101 w =>
    sIf x101 (
      sLoad Tryd.prog 40 x7 w fun x103 w =>
      sBuildSlice Tryd.prog 43 1 [(0, x103)] w fun x104 w =>
      sBuiltin Tryd.prog .append [43, 43] 43 [next10, x104] w fun x105 w =>
      sBin Tryd.prog .add 3 false true x27 (.int .i64 1) w fun x107 w =>
      Nx1 [x105, x107] w) (
      sBin Tryd.prog .add 3 false true x27 (.int .i64 1) w fun x107_1 w =>
      Nx1 [next10, x107_1] w))

def bodkinref15_New_L2 (K : K1) (Nx1 : List Value → World → Prop) (Nx2 : List Value → World → Prop) (out5 x27 x4 x51 x52 x7 : Value) (x53 : Value) (w : World) : Prop :=
  sBin Tryd.prog .lss 3 false false x53 x52 w fun x54 w =>
  sIf x54 (
    sIdxA Tryd.prog 43 x51 x53 w fun x55 w =>
    sLoad Tryd.prog 40 x55 w fun x56 w =>
    sAlloc Tryd.prog 40 w fun y9 w =>
    sStore Tryd.prog 40 y9 x56 w fun w =>
    sLoad Tryd.prog 40 x7 w fun x57 w =>
    sLoad Tryd.prog 40 y9 w fun x58 w =>
    sBin Tryd.prog .eql 40 false false x57 x58 w fun x59 w =>
    sIf x59 (
      sBuild Tryd.prog 45 [(2, (.int .i64 8))] w fun x60 w =>
      sStore Tryd.prog 45 x4 x60 w fun w =>
      sLoad Tryd.prog 45 x4 w fun v w' => w' = w ∧ K v w) (
      sBin Tryd.prog .add 3 false true x53 (.int .i64 1) w fun x61 w =>
      Nx2 [x61] w)) (
    sBuiltin Tryd.prog .len [43] 3 [out5] w fun x63 w =>
    LoopS [(.slice none 0 0), (.bool false), (.int .i64 0)] 3 36 w fun us _ w Nx3 =>
      bodkinref15_New_L3 Nx1 Nx3 out5 x27 x63 x7 (hd us) (hd (tl us)) (hd (tl (tl us))) w)

def bodkinref15_New_L1 (K : K1) (Nx1 : List Value → World → Prop) (l1 n0 x26 x4 : Value) (out5 x27 : Value) (w : World) : Prop :=
  sBin Tryd.prog .lss 3 false false x27 x26 w fun x28 w =>
  sIf x28 (
    sIdxA Tryd.prog 43 l1 x27 w fun x30 w =>
    sLoad Tryd.prog 40 x30 w fun x31 w =>
    sAlloc Tryd.prog 40 w fun x7 w =>
    sStore Tryd.prog 40 x7 x31 w fun w =>
    sFldA Tryd.prog 40 x7 0 w fun x32 w =>
    sLoad Tryd.prog 3 x32 w fun x33 w =>
    sBin Tryd.prog .lss 3 false true x33 (.int .i64 0) w fun x34 w =>
    sIf x34 (
      sBuild Tryd.prog 45 [(2, (.int .i64 1))] w fun x48 w =>
      sStore Tryd.prog 45 x4 x48 w fun w =>
      sLoad Tryd.prog 45 x4 w fun v w' => w' = w ∧ K v w) (
      sFldA Tryd.prog 40 x7 0 w fun x36 w =>
      sLoad Tryd.prog 3 x36 w fun x37 w =>
      sFldA Tryd.prog 40 x7 1 w fun x38 w =>
      sLoad Tryd.prog 3 x38 w fun x39 w =>
      sBin Tryd.prog .geq 3 false false x37 x39 w fun x40 w =>
      sIf x40 (
        sBuild Tryd.prog 45 [(2, (.int .i64 1))] w fun x48_1 w =>
        sStore Tryd.prog 45 x4 x48_1 w fun w =>
        sLoad Tryd.prog 45 x4 w fun v w' => w' = w ∧ K v w) (
        sFldA Tryd.prog 40 x7 1 w fun x43 w =>
        sLoad Tryd.prog 3 x43 w fun x44 w =>
        sBin Tryd.prog .gtr 3 false false x44 n0 w fun x46 w =>
        sIf x46 (
          sBuild Tryd.prog 45 [(2, (.int .i64 1))] w fun x48_2 w =>
          sStore Tryd.prog 45 x4 x48_2 w fun w =>
          sLoad Tryd.prog 45 x4 w fun v w' => w' = w ∧ K v w) (
          sSlice Tryd.prog 43 l1 none (some x27) none w fun x51 w =>
          sBuiltin Tryd.prog .len [43] 3 [x51] w fun x52 w =>
          LoopS [(.int .i64 0)] 1 9 w fun us _ w Nx2 =>
            bodkinref15_New_L2 K Nx1 Nx2 out5 x27 x4 x51 x52 x7 (hd us) w)))) (
    sBuild Tryd.prog 45 [(0, n0), (1, out5)] w fun x110 w =>
    sStore Tryd.prog 45 x4 x110 w fun w =>
    sLoad Tryd.prog 45 x4 w fun v w' => w' = w ∧ K v w)

def bodkinref15_New (K : K1) (n0 l1 : Value) (w : World) : Prop :=
  sAlloc Tryd.prog 45 w fun x4 w =>
  sBin Tryd.prog .lss 3 false true n0 (.int .i64 0) w fun x15 w =>
  sIf x15 (
    sBuild Tryd.prog 45 [(2, (.int .i64 1))] w fun x20 w =>
    sStore Tryd.prog 45 x4 x20 w fun w =>
    sLoad Tryd.prog 45 x4 w fun v w' => w' = w ∧ K v w) (
    sBin Tryd.prog .gtr 3 false true n0 (.int .i64 1099511627776) w fun x18 w =>
    sIf x18 (
      sBuild Tryd.prog 45 [(2, (.int .i64 1))] w fun x20_1 w =>
      sStore Tryd.prog 45 x4 x20_1 w fun w =>
      sLoad Tryd.prog 45 x4 w fun v w' => w' = w ∧ K v w) (
      sBuiltin Tryd.prog .len [43] 3 [l1] w fun x22 w =>
      sBin Tryd.prog .gtr 3 false true x22 (.int .i64 60) w fun x23 w =>
      sIf x23 (
        sBuild Tryd.prog 45 [(2, (.int .i64 5))] w fun x24 w =>
        sStore Tryd.prog 45 x4 x24 w fun w =>
        sLoad Tryd.prog 45 x4 w fun v w' => w' = w ∧ K v w) (
        sBuiltin Tryd.prog .len [43] 3 [l1] w fun x26 w =>
        LoopS [(.slice none 0 0), (.int .i64 0)] 2 86 w fun us _ w Nx1 =>
          bodkinref15_New_L1 K Nx1 l1 n0 x26 x4 (hd us) (hd (tl us)) w)))

def bodkinref15_New.sc : SC := (.seq (.reg (.op 0 .done)) (.seq (.seq (.reg (.op 0 (.op 1 (.op 2 (.test 2 (.skip 3 (.skip 4 (.op 5 .done))) (.op 3 (.op 4 (.op 5 .done)))))))) (.cond (.seq (.reg (.op 0 (.op 1 .done))) .nop) .nop)) (.seq (.seq (.reg (.op 0 (.op 1 (.op 2 .done)))) (.cond (.seq (.reg (.op 0 (.op 1 .done))) .nop) .nop)) (.seq (.reg (.op 0 .done)) (.seq (.seq (.reg (.op 0 (.op 1 (.op 2 .done)))) (.sub (.loop [5, 27] [28, 29, 30, 31, 7, 6, 32, 33, 34, 35, 36, 37, 38, 39, 40, 41, 42, 43, 44, 45, 46, 47, 48, 49, 50, 51, 52, 53, 54, 55, 56, 9, 57, 58, 59, 60, 61, 10, 11, 62, 63, 64, 65, 66, 67, 13, 68, 69, 70, 71, 72, 73, 74, 75, 76, 77, 78, 79, 80, 81, 82, 83, 84, 85, 86, 87, 88, 89, 90, 91, 92, 93, 94, 95, 96, 97, 98, 99, 100, 101, 102, 103, 104, 105, 106, 107] (.seq (.reg (.op 0 .done)) (.seq (.cond .nop .nop) (.seq (.sub (.seq (.reg (.op 0 (.op 1 (.op 2 (.op 3 (.op 4 (.op 5 .done))))))) (.seq (.seq (.reg (.op 0 (.op 1 (.op 2 (.op 3 (.test 3 (.skip 4 (.skip 5 (.skip 6 (.skip 7 (.skip 8 (.op 9 (.op 10 (.know 10 true (.skip 11 (.skip 12 (.skip 13 (.skip 14 (.op 15 .done))))))))))))) (.op 4 (.op 5 (.op 6 (.op 7 (.op 8 (.op 9 (.op 10 (.test 10 (.skip 11 (.skip 12 (.skip 13 (.skip 14 (.op 15 .done))))) (.op 11 (.op 12 (.op 13 (.op 14 (.op 15 .done))))))))))))))))))) (.cond (.seq (.reg (.op 0 (.op 1 .done))) .nop) .nop)) (.seq (.seq (.reg (.op 0 (.op 1 (.op 2 (.op 3 (.op 4 .done)))))) (.sub (.loop [53] [54, 55, 56, 9, 57, 58, 59, 60, 61] (.seq (.reg (.op 0 .done)) (.seq (.cond .nop .nop) (.seq (.sub (.seq (.reg (.op 0 (.op 1 (.op 2 (.op 3 .done))))) (.seq (.reg (.op 0 (.op 1 (.op 2 .done)))) (.cond (.seq (.reg (.op 0 (.op 1 .done))) .nop) .nop)))) (.reg (.op 0 (.op 1 .done))))))))) (.seq (.reg (.op 0 .done)) (.seq (.reg (.op 0 .done)) (.seq (.seq (.reg (.op 0 (.op 1 (.op 2 .done)))) (.sub (.loop [10, 11, 64] [65, 66, 67, 13, 68, 69, 70, 71, 72, 73, 74, 75, 76, 77, 78, 79, 80, 81, 82, 83, 84, 85, 86, 87, 88, 89, 90, 91, 92, 93, 94, 95, 96, 97, 98, 99] (.seq (.reg (.op 0 .done)) (.seq (.cond .nop .nop) (.seq (.sub (.seq (.reg (.op 0 (.op 1 (.op 2 (.op 3 .done))))) (.join [10, 11] [68, 69, 70, 71, 72, 73, 74, 75, 76, 77, 78, 79, 80, 81, 82, 83, 84, 85, 86, 87, 88, 89, 90, 91, 92, 93, 94] (.join [90] [68, 69, 70, 71, 72, 73, 74, 75, 76, 77, 78, 79, 80, 81, 82, 83, 84, 85, 86, 87, 88, 89] (.reg (.op 0 (.op 1 (.op 2 (.test 2 (.op 3 (.op 4 (.op 5 (.op 6 (.op 7 (.op 8 (.test 8 (.skip 9 (.skip 10 (.skip 11 (.skip 12 (.skip 13 (.skip 14 (.skip 15 (.skip 16 (.skip 17 (.skip 18 (.skip 19 (.skip 20 (.op 21 (.op 22 .done)))))))))))))) (.op 9 (.op 10 (.op 11 (.op 12 (.op 13 (.op 14 (.test 14 (.op 15 (.op 16 (.op 17 (.op 18 (.op 19 (.op 20 (.op 21 (.op 22 .done)))))))) (.skip 15 (.skip 16 (.skip 17 (.skip 18 (.skip 19 (.op 20 (.op 21 (.op 22 .done)))))))))))))))))))))) (.skip 3 (.skip 4 (.skip 5 (.skip 6 (.skip 7 (.skip 8 (.skip 9 (.skip 10 (.skip 11 (.skip 12 (.skip 13 (.skip 14 (.skip 15 (.skip 16 (.skip 17 (.skip 18 (.skip 19 (.skip 20 (.skip 21 (.op 22 .done))))))))))))))))))))))))) (.cond (.seq (.reg (.op 0 (.op 1 (.op 2 (.op 3 (.op 4 .done)))))) (.reg (.op 0 .done))) .nop)) (.reg (.op 0 (.op 1 (.op 2 (.op 3 (.op 4 .done))))))))) (.reg (.op 0 (.op 1 .done))))))))) (.seq (.seq (.reg (.op 0 (.op 1 .done))) (.cond (.reg (.op 0 (.op 1 (.op 2 (.op 3 (.op 4 .done)))))) .nop)) (.reg (.op 0 (.op 1 .done))))))))))) (.reg (.op 0 (.op 1 .done))))))))) (.seq (.reg (.op 0 (.op 1 (.op 2 (.op 3 .done))))) .nop))))))

theorem bodkinref15_New.ok : okC Tryd.f17.ntmps bodkinref15_New.sc (bodyOf Tryd.f17) = true := by kernel_rfl

theorem bodkinref15_New.eq {K : K1} {n0 l1 : Value} {w : World} : bodkinref15_New K n0 l1 w = codeS Tryd.prog bodkinref15_New.sc (bodyOf Tryd.f17) (argsF 0 [n0, l1]) w (retQ Tryd.prog Tryd.f17.results.toList K) := by kernel_rfl

theorem bodkinref15_New.call {K : K1} {n0 l1 : Value} {w : World} (h : bodkinref15_New K n0 l1 w) : sCall Tryd.prog 17 [n0, l1] w K := sCall_code mixed Tryd.func17 (by kernel_rfl) rfl rfl bodkinref15_New.ok bodkinref15_New.eq h

abbrev bodkinref15_New.n : Nat := 17

/-- '(*bodkin rope.Rope).Runes' -/
def rope_Rope_Runes (K : K1) (r0 : Value) (w : World) : Prop :=
  sCall Tryd.prog 35 [r0, (.int .i64 1)] w fun x4 w =>
  K x4 w

def rope_Rope_Runes.sc : SC := (.seq (.reg (.op 0 .done)) (.seq (.reg (.op 0 (.op 1 (.op 2 .done)))) .nop))

theorem rope_Rope_Runes.ok : okC Tryd.f18.ntmps rope_Rope_Runes.sc (bodyOf Tryd.f18) = true := by kernel_rfl

theorem rope_Rope_Runes.eq {K : K1} {r0 : Value} {w : World} : rope_Rope_Runes K r0 w = codeS Tryd.prog rope_Rope_Runes.sc (bodyOf Tryd.f18) (argsF 0 [r0]) w (retQ Tryd.prog Tryd.f18.results.toList K) := by kernel_rfl

theorem rope_Rope_Runes.call {K : K1} {r0 : Value} {w : World} (h : rope_Rope_Runes K r0 w) : sCall Tryd.prog 18 [r0] w K := sCall_code mixed Tryd.func18 (by kernel_rfl) rfl rfl rope_Rope_Runes.ok rope_Rope_Runes.eq h

abbrev rope_Rope_Runes.n : Nat := 18

/-- 'bodkin outline.Around' -/
def outline_Around (K : K1) (r0 tab1 row2 : Value) (w : World) : Prop :=
  sBox Tryd.prog 3 row2 w fun row5 w =>
  sCall Tryd.prog 16 [r0, tab1] w fun x13 w =>
  sExtract x13 0 w fun x14 w =>
  sExtract x13 1 w fun x15 w =>
  sBin Tryd.prog .neq 24 false true x15 (.int .i64 0) w fun x18 w =>
  sIf x18 (
    K (.tuple #[(.slice none 0 0), x15]) w) (
    DrawS w fun C w =>
    stillS C w (fun w k => sLoad Tryd.prog 3 row5 w k) fun x21 =>
    stillS C w (fun w k => sBin Tryd.prog .lss 3 false true x21 (.int .i64 0) w k) fun x22 =>
    sIf x22 (
      K (.tuple #[(.slice none 0 0), (.int .i64 1)]) w) (
      stillS C w (fun w k => sLoad Tryd.prog 3 row5 w k) fun x24 =>
      sCall Tryd.prog 28 [r0] w fun x26 w => C w ∧
      stillS C w (fun w k => sBin Tryd.prog .geq 3 false false x24 x26 w k) fun x27 =>
      sIf x27 (
        K (.tuple #[(.slice none 0 0), (.int .i64 1)]) w) (
        sFunc Tryd.prog (.func 37) [] [row5] w fun x30 w =>
        sCall Tryd.prog 36 [x14, x30] w fun x31 w =>
        K (.tuple #[x31, (.int .i64 0)]) w)))

def outline_Around.sc : SC := (.seq (.reg (.op 0 (.op 1 (.op 2 .done)))) (.seq (.reg (.op 0 (.op 1 (.op 2 (.op 3 (.op 4 (.op 5 (.op 6 (.op 7 .done))))))))) (.seq (.sub (.seq (.reg (.op 0 (.op 1 (.op 2 .done)))) (.cond (.seq (.reg (.op 0 (.op 1 (.op 2 .done)))) .nop) (.seq (.draw (.op 0 (.op 1 (.op 2 (.test 2 (.skip 3 (.skip 4 (.skip 5 (.skip 6 (.op 7 (.op 8 .done)))))) (.op 3 (.op 4 (.op 5 (.op 6 (.op 7 (.op 8 .done))))))))))) (.cond (.seq (.reg (.op 0 (.op 1 .done))) .nop) .nop))))) (.seq (.reg (.op 0 (.op 1 (.op 2 (.op 3 (.op 4 .done)))))) .nop))))

theorem outline_Around.ok : okC Tryd.f19.ntmps outline_Around.sc (bodyOf Tryd.f19) = true := by kernel_rfl

theorem outline_Around.eq {K : K1} {r0 tab1 row2 : Value} {w : World} : outline_Around K r0 tab1 row2 w = codeS Tryd.prog outline_Around.sc (bodyOf Tryd.f19) (argsF 0 [r0, tab1, row2]) w (retQ Tryd.prog Tryd.f19.results.toList K) := by kernel_rfl

theorem outline_Around.call {K : K1} {r0 tab1 row2 : Value} {w : World} (h : outline_Around K r0 tab1 row2 w) : sCall Tryd.prog 19 [r0, tab1, row2] w K := sCall_code mixed Tryd.func19 (by kernel_rfl) rfl rfl outline_Around.ok outline_Around.eq h

abbrev outline_Around.n : Nat := 19

/-- 'bodkin bodkinref43.Ranges' -/
def bodkinref43_Ranges_J3 (Nx2 : List Value → World → Prop) (to11 : Value) (last10_1 : Value) (w : World) : Prop :=
  sBin Tryd.prog .add 3 false true to11 (.int .i64 1) w fun x32 w =>
  Nx2 [last10_1, x32] w

def bodkinref43_Ranges_L2 (Nx1 : List Value → World → Prop) (Nx2 : List Value → World → Prop) (out5 x14 x16 x19 x23 : Value) (last10 to11 : Value) (w : World) : Prop :=
  sBuiltin Tryd.prog .len [27] 3 [x14] w fun x29 w =>
  sBin Tryd.prog .lss 3 false false to11 x29 w fun x30 w =>
  sIf x30 (
    JoinS 1 16 (fun M3 =>
      sBin Tryd.prog .geq 3 false true x23 (.int .i64 0) w fun x34 w =>
      sIf x34 (
        sIdxA Tryd.prog 27 x14 to11 w fun x38 w =>
        sLoad Tryd.prog 3 x38 w fun x39 w =>
        sBin Tryd.prog .geq 3 false true x39 (.int .i64 0) w fun x40 w =>
        sIf x40 (
          sCall Tryd.prog 38 [x14, x19, to11] w fun x46 w =>
          sIf x46 (
            M3 [to11] w) (
            M3 [last10] w)) (
          M3 [last10] w)) (
        M3 [last10] w)) fun us _ w =>
      bodkinref43_Ranges_J3 Nx2 to11 (hd us) w) (
    sBin Tryd.prog .gtr 3 false false last10 x19 w fun x51 w =>
    sIf x51 (
      DrawS w fun C w =>
      stillS C w (fun w k => sIdxA Tryd.prog 43 x16 x19 w k) fun x57 =>
      stillS C w (fun w k => sFldA Tryd.prog 40 x57 1 w k) fun x58 =>
      stillS C w (fun w k => sLoad Tryd.prog 3 x58 w k) fun x59 =>
      stillS C w (fun w k => sIdxA Tryd.prog 43 x16 last10 w k) fun x62 =>
      stillS C w (fun w k => sFldA Tryd.prog 40 x62 1 w k) fun x63 =>
      stillS C w (fun w k => sLoad Tryd.prog 3 x63 w k) fun x64 =>
      stillS C w (fun w k => sBuild Tryd.prog 40 [(0, x59), (1, x64)] w k) fun x65 =>
      stillS C w (fun w k => sBuild Tryd.prog 52 [(0, x19), (1, last10), (2, x65)] w k) fun x66 =>
      sBuildSlice Tryd.prog 49 1 [(0, x66)] w fun x67 w => C w ∧
      sBuiltin Tryd.prog .append [49, 49] 49 [out5, x67] w fun x68 w => C w ∧
      sBin Tryd.prog .add 3 false true x19 (.int .i64 1) w fun x69 w =>
      Nx1 [x68, x69] w) (
      sBin Tryd.prog .add 3 false true x19 (.int .i64 1) w fun x69_1 w =>
      Nx1 [out5, x69_1] w))

def bodkinref43_Ranges_L1 (K : K1) (Nx1 : List Value → World → Prop) (x14 x16 x18 : Value) (out5 x19 : Value) (w : World) : Prop :=
  sBin Tryd.prog .lss 3 false false x19 x18 w fun x20 w =>
  sIf x20 (
    sIdxA Tryd.prog 27 x14 x19 w fun x22 w =>
    sLoad Tryd.prog 3 x22 w fun x23 w =>
    sBin Tryd.prog .add 3 false true x19 (.int .i64 1) w fun x26 w =>
    LoopS [x19, x26] 2 22 w fun us _ w Nx2 =>
      bodkinref43_Ranges_L2 Nx1 Nx2 out5 x14 x16 x19 x23 (hd us) (hd (tl us)) w) (
    K out5 w)

def bodkinref43_Ranges (K : K1) (l0 tab1 : Value) (w : World) : Prop :=
  sCall Tryd.prog 14 [l0, tab1] w fun x14 w =>
  sCall Tryd.prog 21 [l0] w fun x16 w =>
  sBuiltin Tryd.prog .len [27] 3 [x14] w fun x18 w =>
  LoopS [(.slice none 0 0), (.int .i64 0)] 2 54 w fun us _ w Nx1 =>
    bodkinref43_Ranges_L1 K Nx1 x14 x16 x18 (hd us) (hd (tl us)) w

def bodkinref43_Ranges.sc : SC := (.seq (.reg (.op 0 .done)) (.seq (.reg (.op 0 .done)) (.seq (.reg (.op 0 (.op 1 (.op 2 (.op 3 .done))))) (.seq (.reg (.op 0 (.op 1 (.op 2 .done)))) (.seq (.seq (.reg (.op 0 (.op 1 (.op 2 .done)))) (.sub (.loop [5, 19] [20, 21, 22, 23, 8, 9, 24, 10, 25, 26, 11, 27, 28, 29, 30, 33, 34, 35, 36, 37, 38, 39, 40, 41, 42, 43, 44, 45, 46, 47, 48, 31, 32, 49, 50, 51, 52, 53, 54, 55, 56, 57, 58, 59, 60, 61, 62, 63, 64, 65, 66, 67, 68, 69] (.seq (.reg (.op 0 .done)) (.seq (.cond .nop .nop) (.seq (.sub (.seq (.reg (.op 0 (.op 1 (.op 2 (.op 3 (.op 4 .done)))))) (.seq (.reg (.op 0 (.op 1 .done))) (.seq (.seq (.reg (.op 0 (.op 1 (.op 2 .done)))) (.sub (.loop [10, 11] [27, 28, 29, 30, 33, 34, 35, 36, 37, 38, 39, 40, 41, 42, 43, 44, 45, 46, 47, 48, 31, 32] (.seq (.seq (.reg (.op 0 (.op 1 (.op 2 (.op 3 .done))))) (.cond .nop .nop)) (.join [10] [33, 34, 35, 36, 37, 38, 39, 40, 41, 42, 43, 44, 45, 46, 47, 48] (.sub (.seq (.reg (.op 0 (.op 1 (.op 2 (.test 2 (.op 3 (.op 4 (.op 5 (.op 6 (.op 7 (.op 8 (.op 9 (.test 9 (.op 10 (.op 11 (.op 12 (.op 13 (.op 14 .done))))) (.skip 10 (.skip 11 (.skip 12 (.skip 13 (.op 14 .done))))))))))))) (.skip 3 (.skip 4 (.skip 5 (.skip 6 (.skip 7 (.op 8 (.op 9 (.know 9 false (.skip 10 (.skip 11 (.skip 12 (.skip 13 (.op 14 .done)))))))))))))))))) (.cond (.reg (.op 0 (.op 1 .done))) .nop))) (.reg (.op 0 (.op 1 (.op 2 .done))))))))) (.seq (.reg (.op 0 (.op 1 (.op 2 .done)))) (.cond (.draw (.op 0 (.op 1 (.op 2 (.op 3 (.op 4 (.op 5 (.op 6 (.op 7 (.op 8 (.op 9 (.op 10 (.op 11 (.op 12 (.op 13 (.op 14 (.op 15 (.op 16 (.op 17 .done))))))))))))))))))) .nop)))))) (.reg (.op 0 (.op 1 .done))))))))) (.seq (.reg (.op 0 (.op 1 .done))) .nop))))))

theorem bodkinref43_Ranges.ok : okC Tryd.f20.ntmps bodkinref43_Ranges.sc (bodyOf Tryd.f20) = true := by kernel_rfl

theorem bodkinref43_Ranges.eq {K : K1} {l0 tab1 : Value} {w : World} : bodkinref43_Ranges K l0 tab1 w = codeS Tryd.prog bodkinref43_Ranges.sc (bodyOf Tryd.f20) (argsF 0 [l0, tab1]) w (retQ Tryd.prog Tryd.f20.results.toList K) := by kernel_rfl

theorem bodkinref43_Ranges.call {K : K1} {l0 tab1 : Value} {w : World} (h : bodkinref43_Ranges K l0 tab1 w) : sCall Tryd.prog 20 [l0, tab1] w K := sCall_code mixed Tryd.func20 (by kernel_rfl) rfl rfl bodkinref43_Ranges.ok bodkinref43_Ranges.eq h

abbrev bodkinref43_Ranges.n : Nat := 20

/-- 'bodkin bodkinref08.Spans' -/
def bodkinref08_Spans_L1 (K : K1) (Nx1 : List Value → World → Prop) (l0 x8 : Value) (out3 from4 x9 : Value) (w : World) : Prop :=
  sBin Tryd.prog .lss 3 false false x9 x8 w fun x10 w =>
  sIf x10 (
    sIdxA Tryd.prog 33 l0 x9 w fun x12 w =>
    sLoad Tryd.prog 21 x12 w fun x13 w =>
    sBin Tryd.prog .eql 21 false true x13 (.int .i32 10) w fun x15 w =>
    sIf x15 (
      sBuild Tryd.prog 40 [(0, from4), (1, x9)] w fun x19 w =>
      sBuildSlice Tryd.prog 43 1 [(0, x19)] w fun x20 w =>
      sBuiltin Tryd.prog .append [43, 43] 43 [out3, x20] w fun x21 w =>
      sBin Tryd.prog .add 3 false true x9 (.int .i64 1) w fun x23 w =>
      sBin Tryd.prog .add 3 false true x9 (.int .i64 1) w fun x24 w =>
      Nx1 [x21, x23, x24] w) (
      sBin Tryd.prog .add 3 false true x9 (.int .i64 1) w fun x24_1 w =>
      Nx1 [out3, from4, x24_1] w)) (
    sBuiltin Tryd.prog .len [33] 3 [l0] w fun x28 w =>
    sBuild Tryd.prog 40 [(0, from4), (1, x28)] w fun x29 w =>
    sBuildSlice Tryd.prog 43 1 [(0, x29)] w fun x30 w =>
    sBuiltin Tryd.prog .append [43, 43] 43 [out3, x30] w fun x31 w =>
    K x31 w)

def bodkinref08_Spans (K : K1) (l0 : Value) (w : World) : Prop :=
  sBuiltin Tryd.prog .len [33] 3 [l0] w fun x8 w =>
  LoopS [(.slice none 0 0), (.int .i64 0), (.int .i64 0)] 3 17 w fun us _ w Nx1 =>
    bodkinref08_Spans_L1 K Nx1 l0 x8 (hd us) (hd (tl us)) (hd (tl (tl us))) w

def bodkinref08_Spans.sc : SC := (.seq (.reg (.op 0 .done)) (.seq (.reg (.op 0 .done)) (.seq (.reg (.op 0 .done)) (.seq (.seq (.reg (.op 0 (.op 1 (.op 2 .done)))) (.sub (.loop [3, 4, 9] [10, 11, 12, 13, 5, 6, 14, 15, 16, 17, 18, 19, 20, 21, 22, 23, 24] (.seq (.reg (.op 0 .done)) (.seq (.cond .nop .nop) (.seq (.sub (.seq (.reg (.op 0 (.op 1 (.op 2 (.op 3 (.op 4 .done)))))) (.seq (.reg (.op 0 (.op 1 .done))) (.cond (.seq (.reg (.op 0 (.op 1 (.op 2 (.op 3 (.op 4 (.op 5 (.op 6 .done)))))))) (.reg (.op 0 (.op 1 (.op 2 .done))))) .nop)))) (.reg (.op 0 (.op 1 .done))))))))) (.seq (.reg (.op 0 (.op 1 (.op 2 (.op 3 (.op 4 (.op 5 (.op 6 (.op 7 .done))))))))) (.seq (.reg (.op 0 (.op 1 .done))) .nop))))))

theorem bodkinref08_Spans.ok : okC Tryd.f21.ntmps bodkinref08_Spans.sc (bodyOf Tryd.f21) = true := by kernel_rfl

theorem bodkinref08_Spans.eq {K : K1} {l0 : Value} {w : World} : bodkinref08_Spans K l0 w = codeS Tryd.prog bodkinref08_Spans.sc (bodyOf Tryd.f21) (argsF 0 [l0]) w (retQ Tryd.prog Tryd.f21.results.toList K) := by kernel_rfl

theorem bodkinref08_Spans.call {K : K1} {l0 : Value} {w : World} (h : bodkinref08_Spans K l0 w) : sCall Tryd.prog 21 [l0] w K := sCall_code mixed Tryd.func21 (by kernel_rfl) rfl rfl bodkinref08_Spans.ok bodkinref08_Spans.eq h

abbrev bodkinref08_Spans.n : Nat := 21

/-- 'bodkin bodkinlaw43.ref' -/
def bodkinlaw43_ref (K : K1) (x0 : Value) (w : World) : Prop :=
  sBox Tryd.prog 42 x0 w fun x1 w =>
  sAlloc Tryd.prog 52 w fun x2 w =>
  sFldA Tryd.prog 42 x1 0 w fun x3 w =>
  sLoad Tryd.prog 3 x3 w fun x4 w =>
  sFldA Tryd.prog 42 x1 1 w fun x5 w =>
  sLoad Tryd.prog 3 x5 w fun x6 w =>
  sFldA Tryd.prog 42 x1 2 w fun x7 w =>
  sLoad Tryd.prog 40 x7 w fun x8 w =>
  sBuild Tryd.prog 52 [(0, x4), (1, x6), (2, x8)] w fun x9 w =>
  sStore Tryd.prog 52 x2 x9 w fun w =>
  sLoad Tryd.prog 52 x2 w fun v w' => w' = w ∧ K v w

def bodkinlaw43_ref.sc : SC := (.seq (.reg (.op 0 (.op 1 .done))) (.seq (.reg (.op 0 (.op 1 (.op 2 (.op 3 (.op 4 (.op 5 (.op 6 (.op 7 .done))))))))) .nop))

theorem bodkinlaw43_ref.ok : okC Tryd.f22.ntmps bodkinlaw43_ref.sc (bodyOf Tryd.f22) = true := by kernel_rfl

theorem bodkinlaw43_ref.eq {K : K1} {x0 : Value} {w : World} : bodkinlaw43_ref K x0 w = codeS Tryd.prog bodkinlaw43_ref.sc (bodyOf Tryd.f22) (argsF 0 [x0]) w (retQ Tryd.prog Tryd.f22.results.toList K) := by kernel_rfl

theorem bodkinlaw43_ref.call {K : K1} {x0 : Value} {w : World} (h : bodkinlaw43_ref K x0 w) : sCall Tryd.prog 22 [x0] w K := sCall_code mixed Tryd.func22 (by kernel_rfl) rfl rfl bodkinlaw43_ref.ok bodkinlaw43_ref.eq h

abbrev bodkinlaw43_ref.n : Nat := 22

/-- 'bodkin outline.Partner' -/
def outline_Partner_J2 (K : K1) (Nx1 : List Value → World → Prop) (i12 x26 : Value) (depth11_1 : Value) (w : World) : Prop :=
  sBin Tryd.prog .eql 3 false true depth11_1 (.int .i64 0) w fun x59 w =>
  sIf x59 (
    K (.tuple #[i12, (.int .i64 0)]) w) (
    sBin Tryd.prog .add 3 false false i12 x26 w fun x43 w =>
    Nx1 [depth11_1, x43] w)

def outline_Partner_L1 (K : K1) (Nx1 : List Value → World → Prop) (x17 x25 x26 x31 : Value) (depth11 i12 : Value) (w : World) : Prop :=
  sBin Tryd.prog .geq 3 false true i12 (.int .i64 0) w fun x34 w =>
  sIf x34 (
    sBuiltin Tryd.prog .len [33] 3 [x31] w fun x38 w =>
    sBin Tryd.prog .lss 3 false false i12 x38 w fun x39 w =>
    sIf x39 (
      JoinS 1 14 (fun M2 =>
        sIdxA Tryd.prog 33 x31 i12 w fun x46 w =>
        sLoad Tryd.prog 21 x46 w fun x47 w =>
        sBin Tryd.prog .eql 21 false false x47 x17 w fun x50 w =>
        sIf x50 (
          sBin Tryd.prog .add 3 false true depth11 (.int .i64 1) w fun x52 w =>
          M2 [x52] w) (
          sBin Tryd.prog .eql 21 false false x47 x25 w fun x55 w =>
          sIf x55 (
            sBin Tryd.prog .sub 3 false true depth11 (.int .i64 1) w fun x57 w =>
            M2 [x57] w) (
            M2 [depth11] w))) fun us _ w =>
        outline_Partner_J2 K Nx1 i12 x26 (hd us) w) (
      K (.tuple #[(.int .i64 0), (.int .i64 6)]) w)) (
    K (.tuple #[(.int .i64 0), (.int .i64 6)]) w)

def outline_Partner (K : K1) (r0 at1 : Value) (w : World) : Prop :=
  sCall Tryd.prog 39 [r0, at1] w fun x16 w =>
  sExtract x16 0 w fun x17 w =>
  sExtract x16 1 w fun x18 w =>
  sBin Tryd.prog .neq 24 false true x18 (.int .i64 0) w fun x20 w =>
  sIf x20 (
    K (.tuple #[(.int .i64 0), x18]) w) (
    sCall Tryd.prog 40 [x17] w fun x24 w =>
    sExtract x24 0 w fun x25 w =>
    sExtract x24 1 w fun x26 w =>
    sBin Tryd.prog .eql 3 false true x26 (.int .i64 0) w fun x28 w =>
    sIf x28 (
      K (.tuple #[(.int .i64 0), (.int .i64 4)]) w) (
      sCall Tryd.prog 41 [r0] w fun x30 w =>
      sCall Tryd.prog 25 [x30] w fun x31 w =>
      LoopS [(.int .i64 0), at1] 2 30 w fun us _ w Nx1 =>
        outline_Partner_L1 K Nx1 x17 x25 x26 x31 (hd us) (hd (tl us)) w))

def outline_Partner.sc : SC := (.seq (.reg (.op 0 (.op 1 .done))) (.seq (.reg (.op 0 (.op 1 (.op 2 (.op 3 (.op 4 (.op 5 (.op 6 (.op 7 .done))))))))) (.seq (.seq (.reg (.op 0 (.op 1 .done))) (.cond (.seq (.reg (.op 0 (.op 1 (.op 2 .done)))) .nop) .nop)) (.seq (.reg (.op 0 (.op 1 (.op 2 (.op 3 (.op 4 (.op 5 (.op 6 .done)))))))) (.seq (.seq (.reg (.op 0 (.op 1 .done))) (.cond (.seq (.reg (.op 0 (.op 1 .done))) .nop) .nop)) (.seq (.reg (.op 0 (.op 1 (.op 2 (.op 3 .done))))) (.seq (.reg (.op 0 .done)) (.seq (.seq (.reg (.op 0 (.op 1 .done))) (.sub (.loop [11, 12] [33, 34, 35, 36, 37, 38, 39, 40, 44, 45, 46, 47, 49, 50, 48, 51, 52, 54, 55, 53, 56, 57, 58, 59, 60, 4, 5, 41, 42, 43] (.seq (.seq (.reg (.op 0 (.op 1 (.op 2 (.test 2 (.op 3 (.op 4 (.op 5 (.op 6 (.op 7 .done))))) (.skip 3 (.skip 4 (.skip 5 (.skip 6 (.op 7 .done)))))))))) (.cond .nop .nop)) (.seq (.sub (.join [11] [44, 45, 46, 47, 49, 50, 48, 51, 52, 54, 55, 53, 56, 57] (.seq (.reg (.op 0 (.op 1 (.op 2 (.op 3 .done))))) (.sub (.seq (.reg (.op 0 (.op 1 (.op 2 .done)))) (.cond (.reg (.op 0 (.op 1 (.op 2 .done)))) (.seq (.reg (.op 0 (.op 1 (.op 2 .done)))) (.cond (.reg (.op 0 (.op 1 (.op 2 .done)))) .nop)))))) (.seq (.reg (.op 0 (.op 1 .done))) (.cond (.seq (.reg (.op 0 (.op 1 (.op 2 .done)))) .nop) .nop)))) (.reg (.op 0 (.op 1 (.op 2 (.op 3 .done)))))))))) (.seq (.reg (.op 0 (.op 1 .done))) .nop)))))))))

theorem outline_Partner.ok : okC Tryd.f23.ntmps outline_Partner.sc (bodyOf Tryd.f23) = true := by kernel_rfl

theorem outline_Partner.eq {K : K1} {r0 at1 : Value} {w : World} : outline_Partner K r0 at1 w = codeS Tryd.prog outline_Partner.sc (bodyOf Tryd.f23) (argsF 0 [r0, at1]) w (retQ Tryd.prog Tryd.f23.results.toList K) := by kernel_rfl

theorem outline_Partner.call {K : K1} {r0 at1 : Value} {w : World} (h : outline_Partner K r0 at1 w) : sCall Tryd.prog 23 [r0, at1] w K := sCall_code mixed Tryd.func23 (by kernel_rfl) rfl rfl outline_Partner.ok outline_Partner.eq h

abbrev outline_Partner.n : Nat := 23

/-- 'bodkin bodkinref43.Partner' -/
def bodkinref43_Partner_J3 (K : K1) (Nx1 : List Value → World → Prop) (at1 i9 l0 opened7_1 : Value) (shut8_1 : Value) (w : World) : Prop :=
  sBin Tryd.prog .eql 3 false false opened7_1 shut8_1 w fun x62 w =>
  sIf x62 (
    K (.tuple #[i9, (.int .i64 0)]) w) (
    sIdxA Tryd.prog 33 l0 at1 w fun x37 w =>
    sLoad Tryd.prog 21 x37 w fun x38 w =>
    sCall Tryd.prog 43 [x38] w fun x39 w =>
    sBin Tryd.prog .add 3 false false i9 x39 w fun x40 w =>
    Nx1 [opened7_1, shut8_1, x40] w)

def bodkinref43_Partner_J2 (K : K1) (Nx1 : List Value → World → Prop) (at1 i9 l0 shut8 x22 : Value) (opened7_1 : Value) (w : World) : Prop :=
  JoinS 1 8 (fun M3 =>
    sIdxA Tryd.prog 33 l0 i9 w fun x54 w =>
    sLoad Tryd.prog 21 x54 w fun x55 w =>
    sBin Tryd.prog .eql 21 false false x55 x22 w fun x57 w =>
    sIf x57 (
      sBin Tryd.prog .add 3 false true shut8 (.int .i64 1) w fun x59 w =>
      M3 [x59] w) (
      M3 [shut8] w)) fun us _ w =>
    bodkinref43_Partner_J3 K Nx1 at1 i9 l0 opened7_1 (hd us) w

def bodkinref43_Partner_L1 (K : K1) (Nx1 : List Value → World → Prop) (at1 l0 x22 : Value) (opened7 shut8 i9 : Value) (w : World) : Prop :=
  sBin Tryd.prog .geq 3 false true i9 (.int .i64 0) w fun x27 w =>
  sIf x27 (
    sBuiltin Tryd.prog .len [33] 3 [l0] w fun x31 w =>
    sBin Tryd.prog .lss 3 false false i9 x31 w fun x32 w =>
    sIf x32 (
      JoinS 1 11 (fun M2 =>
        DrawS w fun C w =>
        stillS C w (fun w k => sIdxA Tryd.prog 33 l0 i9 w k) fun x43 =>
        stillS C w (fun w k => sLoad Tryd.prog 21 x43 w k) fun x44 =>
        stillS C w (fun w k => sIdxA Tryd.prog 33 l0 at1 w k) fun x47 =>
        stillS C w (fun w k => sLoad Tryd.prog 21 x47 w k) fun x48 =>
        stillS C w (fun w k => sBin Tryd.prog .eql 21 false false x44 x48 w k) fun x49 =>
        sIf x49 (
          sBin Tryd.prog .add 3 false true opened7 (.int .i64 1) w fun x51 w =>
          M2 [x51] w) (
          M2 [opened7] w)) fun us _ w =>
        bodkinref43_Partner_J2 K Nx1 at1 i9 l0 shut8 x22 (hd us) w) (
      K (.tuple #[(.int .i64 0), (.int .i64 6)]) w)) (
    K (.tuple #[(.int .i64 0), (.int .i64 6)]) w)

def bodkinref43_Partner (K : K1) (l0 at1 : Value) (w : World) : Prop :=
  sBin Tryd.prog .lss 3 false true at1 (.int .i64 0) w fun x11 w =>
  sIf x11 (
    K (.tuple #[(.int .i64 0), (.int .i64 1)]) w) (
    sBuiltin Tryd.prog .len [33] 3 [l0] w fun x15 w =>
    sBin Tryd.prog .geq 3 false false at1 x15 w fun x16 w =>
    sIf x16 (
      K (.tuple #[(.int .i64 0), (.int .i64 1)]) w) (
      sIdxA Tryd.prog 33 l0 at1 w fun x20 w =>
      sLoad Tryd.prog 21 x20 w fun x21 w =>
      sCall Tryd.prog 42 [x21] w fun x22 w =>
      sBin Tryd.prog .eql 21 false true x22 (.int .i32 0) w fun x24 w =>
      sIf x24 (
        K (.tuple #[(.int .i64 0), (.int .i64 4)]) w) (
        LoopS [(.int .i64 0), (.int .i64 0), at1] 3 40 w fun us _ w Nx1 =>
          bodkinref43_Partner_L1 K Nx1 at1 l0 x22 (hd us) (hd (tl us)) (hd (tl (tl us))) w)))

def bodkinref43_Partner.sc : SC := (.seq (.reg (.op 0 (.op 1 .done))) (.seq (.seq (.reg (.op 0 (.op 1 (.op 2 (.test 2 (.skip 3 (.skip 4 (.skip 5 (.skip 6 (.op 7 .done))))) (.op 3 (.op 4 (.op 5 (.op 6 (.op 7 .done)))))))))) (.cond (.seq (.reg (.op 0 (.op 1 .done))) .nop) .nop)) (.seq (.reg (.op 0 (.op 1 (.op 2 (.op 3 (.op 4 (.op 5 .done))))))) (.seq (.seq (.reg (.op 0 (.op 1 .done))) (.cond (.seq (.reg (.op 0 (.op 1 .done))) .nop) .nop)) (.seq (.reg (.op 0 .done)) (.seq (.reg (.op 0 .done)) (.seq (.seq (.reg (.op 0 (.op 1 .done))) (.sub (.loop [7, 8, 9] [26, 27, 28, 29, 30, 31, 32, 33, 41, 42, 43, 44, 45, 46, 47, 48, 49, 50, 51, 52, 53, 54, 55, 56, 57, 58, 59, 60, 61, 62, 63, 4, 5, 34, 35, 36, 37, 38, 39, 40] (.seq (.seq (.reg (.op 0 (.op 1 (.op 2 (.test 2 (.op 3 (.op 4 (.op 5 (.op 6 (.op 7 .done))))) (.skip 3 (.skip 4 (.skip 5 (.skip 6 (.op 7 .done)))))))))) (.cond .nop .nop)) (.seq (.sub (.join [7] [41, 42, 43, 44, 45, 46, 47, 48, 49, 50, 51] (.seq (.draw (.op 0 (.op 1 (.op 2 (.op 3 (.op 4 (.op 5 (.op 6 (.op 7 (.op 8 .done)))))))))) (.cond (.reg (.op 0 (.op 1 (.op 2 .done)))) .nop)) (.join [8] [52, 53, 54, 55, 56, 57, 58, 59] (.seq (.reg (.op 0 (.op 1 (.op 2 (.op 3 (.op 4 (.op 5 .done))))))) (.cond (.reg (.op 0 (.op 1 (.op 2 .done)))) .nop)) (.seq (.reg (.op 0 (.op 1 (.op 2 .done)))) (.cond (.seq (.reg (.op 0 (.op 1 (.op 2 .done)))) .nop) .nop))))) (.reg (.op 0 (.op 1 (.op 2 (.op 3 (.op 4 (.op 5 (.op 6 (.op 7 .done)))))))))))))) (.seq (.reg (.op 0 (.op 1 .done))) .nop))))))))

theorem bodkinref43_Partner.ok : okC Tryd.f24.ntmps bodkinref43_Partner.sc (bodyOf Tryd.f24) = true := by kernel_rfl

theorem bodkinref43_Partner.eq {K : K1} {l0 at1 : Value} {w : World} : bodkinref43_Partner K l0 at1 w = codeS Tryd.prog bodkinref43_Partner.sc (bodyOf Tryd.f24) (argsF 0 [l0, at1]) w (retQ Tryd.prog Tryd.f24.results.toList K) := by kernel_rfl

theorem bodkinref43_Partner.call {K : K1} {l0 at1 : Value} {w : World} (h : bodkinref43_Partner K l0 at1 w) : sCall Tryd.prog 24 [l0, at1] w K := sCall_code mixed Tryd.func24 (by kernel_rfl) rfl rfl bodkinref43_Partner.ok bodkinref43_Partner.eq h

abbrev bodkinref43_Partner.n : Nat := 24

/-- 'bodkin utf.Decode' -/
def utf_Decode_L1 (K : K1) (Nx1 : List Value → World → Prop) (x7 : Value) (out3 : Value) (w : World) : Prop :=
  sNext Tryd.prog x7 true 0 w fun x8 w =>
  sExtract x8 0 w fun x9 w =>
  sIf x9 (
    sExtract x8 2 w fun x10 w =>
    sBuildSlice Tryd.prog 33 1 [(0, x10)] w fun x13 w =>
    sBuiltin Tryd.prog .append [33, 33] 33 [out3, x13] w fun x14 w =>
    Nx1 [x14] w) (
    K out3 w)

def utf_Decode (K : K1) (s0 : Value) (w : World) : Prop :=
  sRange Tryd.prog 9 s0 w fun x7 w =>
  LoopS [(.slice none 0 0)] 1 8 w fun us _ w Nx1 =>
    utf_Decode_L1 K Nx1 x7 (hd us) w

def utf_Decode.sc : SC := (.seq (.reg (.op 0 .done)) (.seq (.reg (.op 0 .done)) (.seq (.seq (.reg (.op 0 (.op 1 .done))) (.sub (.loop [3] [8, 9, 10, 5, 11, 12, 13, 14] (.seq (.reg (.op 0 (.op 1 .done))) (.seq (.cond .nop .nop) (.sub (.seq (.reg (.op 0 (.op 1 .done))) (.reg (.op 0 (.op 1 (.op 2 (.op 3 (.op 4 .done))))))))))))) (.seq (.reg (.op 0 (.op 1 .done))) .nop))))

theorem utf_Decode.ok : okC Tryd.f25.ntmps utf_Decode.sc (bodyOf Tryd.f25) = true := by kernel_rfl

theorem utf_Decode.eq {K : K1} {s0 : Value} {w : World} : utf_Decode K s0 w = codeS Tryd.prog utf_Decode.sc (bodyOf Tryd.f25) (argsF 0 [s0]) w (retQ Tryd.prog Tryd.f25.results.toList K) := by kernel_rfl

theorem utf_Decode.call {K : K1} {s0 : Value} {w : World} (h : utf_Decode K s0 w) : sCall Tryd.prog 25 [s0] w K := sCall_code mixed Tryd.func25 (by kernel_rfl) rfl rfl utf_Decode.ok utf_Decode.eq h

abbrev utf_Decode.n : Nat := 25

/-- 'bodkin tree.New' -/
def tree_New_L1 (K : K1) (Nx1 : List Value → World → Prop) (l0 x13 : Value) (root4 x14 : Value) (w : World) : Prop :=
  sBin Tryd.prog .lss 3 false false x14 x13 w fun x15 w =>
  sIf x15 (
    sIdxA Tryd.prog 63 l0 x14 w fun x17 w =>
    sLoad Tryd.prog 91 x17 w fun x18 w =>
    sAlloc Tryd.prog 91 w fun x6 w =>
    sStore Tryd.prog 91 x6 x18 w fun w =>
    sLoad Tryd.prog 91 x6 w fun x19 w =>
    sCall Tryd.prog 44 [x19] w fun x20 w =>
    sBin Tryd.prog .neq 24 false true x20 (.int .i64 0) w fun x22 w =>
    sIf x22 (
      K (.tuple #[(.pointer none), x20]) w) (
      sBin Tryd.prog .rem 3 false true x14 (.int .i64 8) w fun x25 w =>
      sBin Tryd.prog .eql 3 false true x25 (.int .i64 0) w fun x26 w =>
      sIf x26 (
        sBuiltin Tryd.prog .len [63] 3 [l0] w fun x28 w =>
        sBin Tryd.prog .sub 3 false false x28 x14 w fun x30 w =>
        sBuiltin Tryd.prog .min [3, 3] 3 [(.int .i64 8), x30] w fun x31 w =>
        sMake Tryd.prog 63 x31 x31 w fun x32 w =>
        sSlice Tryd.prog 63 l0 (some x14) none none w fun x36 w =>
        sBuiltin Tryd.prog .copy [63, 63] 3 [x32, x36] w fun x37 w =>
        sCall Tryd.prog 46 [x32] w fun x40 w =>
        sIface Tryd.prog 94 x40 w fun x41 w =>
        sCall Tryd.prog 45 [root4, x41] w fun x42 w =>
        sBin Tryd.prog .add 3 false true x14 (.int .i64 1) w fun x43 w =>
        Nx1 [x42, x43] w) (
        sBin Tryd.prog .add 3 false true x14 (.int .i64 1) w fun x43_1 w =>
        Nx1 [root4, x43_1] w))) (
    sBuild Tryd.prog 97 [(0, root4)] w fun x45 w =>
    sBox Tryd.prog 97 x45 w fun x46 w =>
    K (.tuple #[x46, (.int .i64 0)]) w)

def tree_New (K : K1) (l0 : Value) (w : World) : Prop :=
  sBuiltin Tryd.prog .len [63] 3 [l0] w fun x10 w =>
  sBin Tryd.prog .gtr 3 false true x10 (.int .i64 30000) w fun x11 w =>
  sIf x11 (
    K (.tuple #[(.pointer none), (.int .i64 5)]) w) (
    sBuiltin Tryd.prog .len [63] 3 [l0] w fun x13 w =>
    LoopS [.nilIface, (.int .i64 0)] 2 35 w fun us _ w Nx1 =>
      tree_New_L1 K Nx1 l0 x13 (hd us) (hd (tl us)) w)

def tree_New.sc : SC := (.seq (.reg (.op 0 (.op 1 .done))) (.seq (.seq (.reg (.op 0 (.op 1 (.op 2 .done)))) (.cond (.seq (.reg (.op 0 (.op 1 .done))) .nop) .nop)) (.seq (.reg (.op 0 .done)) (.seq (.seq (.reg (.op 0 (.op 1 (.op 2 .done)))) (.sub (.loop [4, 14] [15, 16, 17, 18, 6, 5, 19, 20, 7, 21, 22, 23, 2, 3, 24, 25, 26, 27, 28, 29, 30, 31, 32, 8, 33, 34, 35, 36, 37, 38, 39, 40, 41, 42, 43] (.seq (.reg (.op 0 .done)) (.seq (.cond .nop .nop) (.seq (.sub (.seq (.reg (.op 0 (.op 1 (.op 2 (.op 3 (.op 4 (.op 5 .done))))))) (.seq (.seq (.reg (.op 0 (.op 1 (.op 2 .done)))) (.seq (.reg (.op 0 (.op 1 .done))) (.cond (.seq (.reg (.op 0 (.op 1 (.op 2 .done)))) .nop) .nop))) (.seq (.reg (.op 0 (.op 1 (.op 2 .done)))) (.cond (.seq (.reg (.op 0 (.op 1 (.op 2 (.op 3 (.op 4 (.op 5 (.op 6 .done)))))))) (.seq (.reg (.op 0 (.op 1 (.op 2 (.op 3 (.op 4 .done)))))) (.reg (.op 0 (.op 1 (.op 2 (.op 3 (.op 4 (.op 5 .done))))))))) .nop))))) (.reg (.op 0 (.op 1 .done))))))))) (.seq (.reg (.op 0 (.op 1 (.op 2 (.op 3 (.op 4 .done)))))) .nop)))))

theorem tree_New.ok : okC Tryd.f26.ntmps tree_New.sc (bodyOf Tryd.f26) = true := by kernel_rfl

theorem tree_New.eq {K : K1} {l0 : Value} {w : World} : tree_New K l0 w = codeS Tryd.prog tree_New.sc (bodyOf Tryd.f26) (argsF 0 [l0]) w (retQ Tryd.prog Tryd.f26.results.toList K) := by kernel_rfl

theorem tree_New.call {K : K1} {l0 : Value} {w : World} (h : tree_New K l0 w) : sCall Tryd.prog 26 [l0] w K := sCall_code mixed Tryd.func26 (by kernel_rfl) rfl rfl tree_New.ok tree_New.eq h

abbrev tree_New.n : Nat := 26

/-- 'bodkin rope.cut' -/
def rope_cut_L1 (K : K1) (Nx1 : List Value → World → Prop) (out3 l0_1 k4 : Value) (w : World) : Prop :=
  sBin Tryd.prog .gtr 3 false true k4 (.int .i64 0) w fun x12 w =>
  sIf x12 (
    sBuiltin Tryd.prog .len [33] 3 [l0_1] w fun x16 w =>
    sBin Tryd.prog .quo 3 false false x16 k4 w fun x18 w =>
    sSlice Tryd.prog 33 l0_1 none (some x18) none w fun x22 w =>
    sCall Tryd.prog 47 [x22] w fun x23 w =>
    sBuildSlice Tryd.prog 63 1 [(0, x23)] w fun x24 w =>
    sBuiltin Tryd.prog .append [63, 63] 63 [out3, x24] w fun x25 w =>
    sSlice Tryd.prog 33 l0_1 (some x18) none none w fun x28 w =>
    sBin Tryd.prog .sub 3 false true k4 (.int .i64 1) w fun x14 w =>
    Nx1 [x25, x28, x14] w) (
    K out3 w)

def rope_cut (K : K1) (l0 : Value) (w : World) : Prop :=
  sBuiltin Tryd.prog .len [33] 3 [l0] w fun x7 w =>
  sBin Tryd.prog .add 3 false true x7 (.int .i64 16) w fun x8 w =>
  sBin Tryd.prog .sub 3 false true x8 (.int .i64 1) w fun x9 w =>
  sBin Tryd.prog .quo 3 false true x9 (.int .i64 16) w fun x10 w =>
  LoopS [(.slice none 0 0), l0, x10] 3 19 w fun us _ w Nx1 =>
    rope_cut_L1 K Nx1 (hd us) (hd (tl us)) (hd (tl (tl us))) w

def rope_cut.sc : SC := (.seq (.reg (.op 0 .done)) (.seq (.reg (.op 0 .done)) (.seq (.seq (.reg (.op 0 (.op 1 (.op 2 (.op 3 (.op 4 (.op 5 .done))))))) (.sub (.loop [3, 0, 4] [11, 12, 15, 16, 17, 18, 5, 19, 20, 21, 22, 23, 24, 25, 26, 27, 28, 13, 14] (.seq (.seq (.reg (.op 0 (.op 1 .done))) (.cond .nop .nop)) (.seq (.sub (.seq (.reg (.op 0 (.op 1 (.op 2 (.op 3 (.op 4 .done)))))) (.seq (.reg (.op 0 (.op 1 (.op 2 (.op 3 (.op 4 (.op 5 (.op 6 (.op 7 .done))))))))) (.reg (.op 0 (.op 1 (.op 2 (.op 3 .done)))))))) (.reg (.op 0 (.op 1 (.op 2 .done))))))))) (.seq (.reg (.op 0 (.op 1 .done))) .nop))))

theorem rope_cut.ok : okC Tryd.f27.ntmps rope_cut.sc (bodyOf Tryd.f27) = true := by kernel_rfl

theorem rope_cut.eq {K : K1} {l0 : Value} {w : World} : rope_cut K l0 w = codeS Tryd.prog rope_cut.sc (bodyOf Tryd.f27) (argsF 0 [l0]) w (retQ Tryd.prog Tryd.f27.results.toList K) := by kernel_rfl

theorem rope_cut.call {K : K1} {l0 : Value} {w : World} (h : rope_cut K l0 w) : sCall Tryd.prog 27 [l0] w K := sCall_code mixed Tryd.func27 (by kernel_rfl) rfl rfl rope_cut.ok rope_cut.eq h

abbrev rope_cut.n : Nat := 27

/-- 'bodkin lines.Rows' -/
def lines_Rows (K : K1) (r0 : Value) (w : World) : Prop :=
  sCall Tryd.prog 48 [r0] w fun x4 w =>
  sBin Tryd.prog .add 3 false true x4 (.int .i64 1) w fun x5 w =>
  K x5 w

def lines_Rows.sc : SC := (.seq (.reg (.op 0 .done)) (.seq (.reg (.op 0 (.op 1 (.op 2 (.op 3 .done))))) .nop))

theorem lines_Rows.ok : okC Tryd.f28.ntmps lines_Rows.sc (bodyOf Tryd.f28) = true := by kernel_rfl

theorem lines_Rows.eq {K : K1} {r0 : Value} {w : World} : lines_Rows K r0 w = codeS Tryd.prog lines_Rows.sc (bodyOf Tryd.f28) (argsF 0 [r0]) w (retQ Tryd.prog Tryd.f28.results.toList K) := by kernel_rfl

theorem lines_Rows.call {K : K1} {r0 : Value} {w : World} (h : lines_Rows K r0 w) : sCall Tryd.prog 28 [r0] w K := sCall_code mixed Tryd.func28 (by kernel_rfl) rfl rfl lines_Rows.ok lines_Rows.eq h

abbrev lines_Rows.n : Nat := 28

/-- 'bodkin lines.Text' -/
def lines_Text (K : K1) (r0 row1 : Value) (w : World) : Prop :=
  sCall Tryd.prog 34 [r0, row1] w fun x11 w =>
  sExtract x11 0 w fun x12 w =>
  sExtract x11 1 w fun x13 w =>
  sAlloc Tryd.prog 40 w fun s6 w =>
  sStore Tryd.prog 40 s6 x12 w fun w =>
  sBin Tryd.prog .neq 24 false true x13 (.int .i64 0) w fun x15 w =>
  sIf x15 (
    K (.tuple #[(.string ⟨#[]⟩), x13]) w) (
    sFldA Tryd.prog 40 s6 0 w fun x18 w =>
    sLoad Tryd.prog 3 x18 w fun x19 w =>
    sFldA Tryd.prog 40 s6 1 w fun x20 w =>
    sLoad Tryd.prog 3 x20 w fun x21 w =>
    sCall Tryd.prog 49 [r0, x19, x21] w fun x22 w =>
    sExtract x22 0 w fun x23 w =>
    sExtract x22 1 w fun x24 w =>
    K (.tuple #[x23, x24]) w)

def lines_Text.sc : SC := (.seq (.reg (.op 0 (.op 1 .done))) (.seq (.reg (.op 0 (.op 1 (.op 2 (.op 3 (.op 4 (.op 5 (.op 6 (.op 7 (.op 8 .done)))))))))) (.seq (.seq (.reg (.op 0 (.op 1 .done))) (.cond (.seq (.reg (.op 0 (.op 1 (.op 2 .done)))) .nop) .nop)) (.seq (.reg (.op 0 (.op 1 (.op 2 (.op 3 (.op 4 (.op 5 (.op 6 (.op 7 (.op 8 (.op 9 .done))))))))))) .nop))))

theorem lines_Text.ok : okC Tryd.f29.ntmps lines_Text.sc (bodyOf Tryd.f29) = true := by kernel_rfl

theorem lines_Text.eq {K : K1} {r0 row1 : Value} {w : World} : lines_Text K r0 row1 w = codeS Tryd.prog lines_Text.sc (bodyOf Tryd.f29) (argsF 0 [r0, row1]) w (retQ Tryd.prog Tryd.f29.results.toList K) := by kernel_rfl

theorem lines_Text.call {K : K1} {r0 row1 : Value} {w : World} (h : lines_Text K r0 row1 w) : sCall Tryd.prog 29 [r0, row1] w K := sCall_code mixed Tryd.func29 (by kernel_rfl) rfl rfl lines_Text.ok lines_Text.eq h

abbrev lines_Text.n : Nat := 29

/-- 'bodkin outline.indent' -/
def outline_indent (K : K1) (line0 tab1 : Value) (w : World) : Prop :=
  sCall Tryd.prog 50 [line0, (.func (.func 51) #[] #[])] w fun x9 w =>
  sBin Tryd.prog .lss 3 false true x9 (.int .i64 0) w fun x11 w =>
  sIf x11 (
    K (.int .i64 (-1)) w) (
    sCall Tryd.prog 53 [] w fun x13 w =>
    sBuild Tryd.prog 106 [(0, tab1), (1, x9)] w fun x17 w =>
    sCall Tryd.prog 52 [x13, line0, x17] w fun x18 w =>
    sExtract x18 0 w fun x19 w =>
    sExtract x18 1 w fun x20 w =>
    K x19 w)

def outline_indent.sc : SC := (.seq (.reg (.op 0 .done)) (.seq (.reg (.op 0 (.op 1 (.op 2 .done)))) (.seq (.seq (.reg (.op 0 (.op 1 .done))) (.cond (.seq (.reg (.op 0 .done)) .nop) .nop)) (.seq (.reg (.op 0 (.op 1 (.op 2 (.op 3 (.op 4 (.op 5 (.op 6 (.op 7 (.op 8 (.op 9 (.op 10 .done)))))))))))) (.seq (.reg (.op 0 (.op 1 .done))) .nop)))))

theorem outline_indent.ok : okC Tryd.f30.ntmps outline_indent.sc (bodyOf Tryd.f30) = true := by kernel_rfl

theorem outline_indent.eq {K : K1} {line0 tab1 : Value} {w : World} : outline_indent K line0 tab1 w = codeS Tryd.prog outline_indent.sc (bodyOf Tryd.f30) (argsF 0 [line0, tab1]) w (retQ Tryd.prog Tryd.f30.results.toList K) := by kernel_rfl

theorem outline_indent.call {K : K1} {line0 tab1 : Value} {w : World} (h : outline_indent K line0 tab1 w) : sCall Tryd.prog 30 [line0, tab1] w K := sCall_code mixed Tryd.func30 (by kernel_rfl) rfl rfl outline_indent.ok outline_indent.eq h

abbrev outline_indent.n : Nat := 30

/-- 'bodkin bodkinref43.indent' -/
def bodkinref43_indent_J2 (K : K1) (Nx1 : List Value → World → Prop) (line0 tab1 x9 : Value) (x19 : Value) (w : World) : Prop :=
  sIf x19 (
    sCall Tryd.prog 55 [] w fun x20 w =>
    sCall Tryd.prog 54 [x20, line0, tab1] w fun x23 w =>
    sIdxA Tryd.prog 27 x23 x9 w fun x25 w =>
    sLoad Tryd.prog 3 x25 w fun x26 w =>
    K x26 w) (
    sBin Tryd.prog .add 3 false true x9 (.int .i64 1) w fun x27 w =>
    Nx1 [x27] w)

def bodkinref43_indent_L1 (K : K1) (Nx1 : List Value → World → Prop) (line0 tab1 x8 : Value) (x9 : Value) (w : World) : Prop :=
  sBin Tryd.prog .lss 3 false false x9 x8 w fun x10 w =>
  sIf x10 (
    sIdxA Tryd.prog 33 line0 x9 w fun x12 w =>
    sLoad Tryd.prog 21 x12 w fun x13 w =>
    JoinS 1 5 (fun M2 =>
      sBin Tryd.prog .neq 21 false true x13 (.int .i32 32) w fun x15 w =>
      sIf x15 (
        sBin Tryd.prog .neq 21 false true x13 (.int .i32 9) w fun x18 w =>
        M2 [x18] w) (
        M2 [(.bool false)] w)) fun us _ w =>
      bodkinref43_indent_J2 K Nx1 line0 tab1 x9 (hd us) w) (
    K (.int .i64 (-1)) w)

def bodkinref43_indent (K : K1) (line0 tab1 : Value) (w : World) : Prop :=
  sBuiltin Tryd.prog .len [33] 3 [line0] w fun x8 w =>
  LoopS [(.int .i64 0)] 1 21 w fun us _ w Nx1 =>
    bodkinref43_indent_L1 K Nx1 line0 tab1 x8 (hd us) w

def bodkinref43_indent.sc : SC := (.seq (.reg (.op 0 .done)) (.seq (.seq (.reg (.op 0 (.op 1 (.op 2 .done)))) (.sub (.loop [9] [10, 11, 12, 13, 5, 6, 14, 15, 16, 17, 18, 19, 20, 21, 22, 23, 24, 25, 26, 4, 27] (.seq (.reg (.op 0 .done)) (.seq (.cond .nop .nop) (.seq (.sub (.seq (.reg (.op 0 (.op 1 (.op 2 (.op 3 (.op 4 .done)))))) (.join [19] [14, 15, 16, 17, 18] (.reg (.op 0 (.op 1 (.op 2 (.test 2 (.op 3 (.op 4 (.op 5 .done))) (.skip 3 (.skip 4 (.op 5 .done)))))))) (.cond (.seq (.reg (.op 0 (.op 1 (.op 2 (.op 3 (.op 4 (.op 5 (.op 6 (.op 7 .done))))))))) .nop) .nop)))) (.reg (.op 0 (.op 1 .done))))))))) (.seq (.reg (.op 0 .done)) .nop)))

theorem bodkinref43_indent.ok : okC Tryd.f31.ntmps bodkinref43_indent.sc (bodyOf Tryd.f31) = true := by kernel_rfl

theorem bodkinref43_indent.eq {K : K1} {line0 tab1 : Value} {w : World} : bodkinref43_indent K line0 tab1 w = codeS Tryd.prog bodkinref43_indent.sc (bodyOf Tryd.f31) (argsF 0 [line0, tab1]) w (retQ Tryd.prog Tryd.f31.results.toList K) := by kernel_rfl

theorem bodkinref43_indent.call {K : K1} {line0 tab1 : Value} {w : World} (h : bodkinref43_indent K line0 tab1 w) : sCall Tryd.prog 31 [line0, tab1] w K := sCall_code mixed Tryd.func31 (by kernel_rfl) rfl rfl bodkinref43_indent.ok bodkinref43_indent.eq h

abbrev bodkinref43_indent.n : Nat := 31

/-- 'bodkin bodkinref01.Step' -/
def bodkinref01_Step_J2 (K : K1) (Nx1 : List Value → World → Prop) (n5 x36 x4 : Value) (x47 : Value) (w : World) : Prop :=
  sIf x47 (
    sBuild Tryd.prog 72 [(0, x36), (1, n5)] w fun x50 w =>
    sStore Tryd.prog 72 x4 x50 w fun w =>
    sLoad Tryd.prog 72 x4 w fun v w' => w' = w ∧ K v w) (
    sBin Tryd.prog .add 3 false true n5 (.int .i64 1) w fun x28 w =>
    Nx1 [x28] w)

def bodkinref01_Step_L1 (K : K1) (Nx1 : List Value → World → Prop) (at1 s0 x4 : Value) (n5 : Value) (w : World) : Prop :=
  sBin Tryd.prog .leq 3 false true n5 (.int .i64 4) w fun x18 w =>
  sIf x18 (
    sBuiltin Tryd.prog .len [9] 3 [s0] w fun x22 w =>
    sBin Tryd.prog .sub 3 false false x22 at1 w fun x24 w =>
    sBin Tryd.prog .leq 3 false false n5 x24 w fun x25 w =>
    sIf x25 (
      sBin Tryd.prog .add 3 false false at1 n5 w fun x33 w =>
      sSlice Tryd.prog 9 s0 (some at1) (some x33) none w fun x34 w =>
      sCall Tryd.prog 56 [x34] w fun x36 w =>
      JoinS 1 10 (fun M2 =>
        sCall Tryd.prog 57 [x36] w fun x38 w =>
        sBin Tryd.prog .eql 3 false false x38 n5 w fun x40 w =>
        sIf x40 (
          sCall Tryd.prog 58 [x36, n5] w fun x44 w =>
          sBin Tryd.prog .eql 9 false false x44 x34 w fun x46 w =>
          M2 [x46] w) (
          M2 [(.bool false)] w)) fun us _ w =>
        bodkinref01_Step_J2 K Nx1 n5 x36 x4 (hd us) w) (
      sBuild Tryd.prog 72 [(0, (.int .i32 65533)), (1, (.int .i64 1))] w fun x51 w =>
      sStore Tryd.prog 72 x4 x51 w fun w =>
      sLoad Tryd.prog 72 x4 w fun v w' => w' = w ∧ K v w)) (
    sBuild Tryd.prog 72 [(0, (.int .i32 65533)), (1, (.int .i64 1))] w fun x51_1 w =>
    sStore Tryd.prog 72 x4 x51_1 w fun w =>
    sLoad Tryd.prog 72 x4 w fun v w' => w' = w ∧ K v w)

def bodkinref01_Step (K : K1) (s0 at1 : Value) (w : World) : Prop :=
  sAlloc Tryd.prog 72 w fun x4 w =>
  sBin Tryd.prog .lss 3 false true at1 (.int .i64 0) w fun x9 w =>
  sIf x9 (
    sBuild Tryd.prog 72 [] w fun x16 w =>
    sStore Tryd.prog 72 x4 x16 w fun w =>
    sLoad Tryd.prog 72 x4 w fun v w' => w' = w ∧ K v w) (
    sBuiltin Tryd.prog .len [9] 3 [s0] w fun x13 w =>
    sBin Tryd.prog .geq 3 false false at1 x13 w fun x14 w =>
    sIf x14 (
      sBuild Tryd.prog 72 [] w fun x16_1 w =>
      sStore Tryd.prog 72 x4 x16_1 w fun w =>
      sLoad Tryd.prog 72 x4 w fun v w' => w' = w ∧ K v w) (
      LoopS [(.int .i64 1)] 1 36 w fun us _ w Nx1 =>
        bodkinref01_Step_L1 K Nx1 at1 s0 x4 (hd us) w))

def bodkinref01_Step.sc : SC := (.seq (.reg (.op 0 .done)) (.seq (.seq (.reg (.op 0 (.op 1 (.op 2 (.test 2 (.skip 3 (.skip 4 (.skip 5 (.skip 6 (.op 7 .done))))) (.op 3 (.op 4 (.op 5 (.op 6 (.op 7 .done)))))))))) (.cond (.seq (.reg (.op 0 (.op 1 .done))) .nop) .nop)) (.seq (.seq (.reg (.op 0 .done)) (.sub (.loop [5] [17, 18, 19, 20, 21, 22, 23, 24, 25, 26, 29, 30, 31, 32, 33, 34, 6, 35, 36, 7, 37, 38, 39, 40, 41, 42, 43, 44, 45, 46, 47, 48, 49, 50, 27, 28] (.seq (.seq (.reg (.op 0 (.op 1 (.op 2 (.test 2 (.op 3 (.op 4 (.op 5 (.op 6 (.op 7 (.op 8 (.op 9 .done))))))) (.skip 3 (.skip 4 (.skip 5 (.skip 6 (.skip 7 (.skip 8 (.op 9 .done)))))))))))) (.cond .nop .nop)) (.seq (.sub (.seq (.reg (.op 0 (.op 1 (.op 2 (.op 3 (.op 4 (.op 5 (.op 6 .done)))))))) (.seq (.reg (.op 0 (.op 1 (.op 2 .done)))) (.join [47] [37, 38, 39, 40, 41, 42, 43, 44, 45, 46] (.reg (.op 0 (.op 1 (.op 2 (.op 3 (.op 4 (.test 4 (.op 5 (.op 6 (.op 7 (.op 8 (.op 9 (.op 10 .done)))))) (.skip 5 (.skip 6 (.skip 7 (.skip 8 (.skip 9 (.op 10 .done))))))))))))) (.cond (.seq (.reg (.op 0 (.op 1 (.op 2 (.op 3 .done))))) .nop) .nop))))) (.reg (.op 0 (.op 1 (.op 2 .done))))))))) (.seq (.reg (.op 0 (.op 1 .done))) .nop))))

theorem bodkinref01_Step.ok : okC Tryd.f32.ntmps bodkinref01_Step.sc (bodyOf Tryd.f32) = true := by kernel_rfl

theorem bodkinref01_Step.eq {K : K1} {s0 at1 : Value} {w : World} : bodkinref01_Step K s0 at1 w = codeS Tryd.prog bodkinref01_Step.sc (bodyOf Tryd.f32) (argsF 0 [s0, at1]) w (retQ Tryd.prog Tryd.f32.results.toList K) := by kernel_rfl

theorem bodkinref01_Step.call {K : K1} {s0 at1 : Value} {w : World} (h : bodkinref01_Step K s0 at1 w) : sCall Tryd.prog 32 [s0, at1] w K := sCall_code mixed Tryd.func32 (by kernel_rfl) rfl rfl bodkinref01_Step.ok bodkinref01_Step.eq h

abbrev bodkinref01_Step.n : Nat := 32

/-- 'bodkin outline.last' -/
def outline_last_J2 (Nx1 : List Value → World → Prop) (i6 : Value) (end5_1 : Value) (w : World) : Prop :=
  sBin Tryd.prog .add 3 false true i6 (.int .i64 1) w fun x15 w =>
  Nx1 [end5_1, x15] w

def outline_last_L1 (K : K1) (Nx1 : List Value → World → Prop) (in0 row1 : Value) (end5 i6 : Value) (w : World) : Prop :=
  sBuiltin Tryd.prog .len [27] 3 [in0] w fun x12 w =>
  sBin Tryd.prog .lss 3 false false i6 x12 w fun x13 w =>
  sIf x13 (
    JoinS 1 23 (fun M2 =>
      sIdxA Tryd.prog 27 in0 row1 w fun x19 w =>
      sLoad Tryd.prog 3 x19 w fun x20 w =>
      sBin Tryd.prog .eql 3 false true x20 (.int .i64 (-1)) w fun x21 w =>
      sIf x21 (
        K end5 w) (
        sIdxA Tryd.prog 27 in0 i6 w fun x25 w =>
        sLoad Tryd.prog 3 x25 w fun x26 w =>
        sBin Tryd.prog .eql 3 false true x26 (.int .i64 (-1)) w fun x27 w =>
        sIf x27 (
          M2 [end5] w) (
          DrawS w fun C w =>
          stillS C w (fun w k => sIdxA Tryd.prog 27 in0 i6 w k) fun x31 =>
          stillS C w (fun w k => sLoad Tryd.prog 3 x31 w k) fun x32 =>
          stillS C w (fun w k => sIdxA Tryd.prog 27 in0 row1 w k) fun x35 =>
          stillS C w (fun w k => sLoad Tryd.prog 3 x35 w k) fun x36 =>
          stillS C w (fun w k => sBin Tryd.prog .leq 3 false false x32 x36 w k) fun x37 =>
          sIf x37 (
            K end5 w) (
            M2 [i6] w)))) fun us _ w =>
      outline_last_J2 Nx1 i6 (hd us) w) (
    K end5 w)

def outline_last (K : K1) (in0 row1 : Value) (w : World) : Prop :=
  sBin Tryd.prog .add 3 false true row1 (.int .i64 1) w fun x9 w =>
  LoopS [row1, x9] 2 29 w fun us _ w Nx1 =>
    outline_last_L1 K Nx1 in0 row1 (hd us) (hd (tl us)) w

def outline_last.sc : SC := (.seq (.reg (.op 0 .done)) (.sub (.seq (.reg (.op 0 (.op 1 .done))) (.seq .nop (.seq (.seq (.reg (.op 0 (.op 1 (.op 2 .done)))) (.sub (.loop [5, 6] [10, 11, 12, 13, 17, 18, 19, 20, 21, 16, 23, 24, 25, 26, 27, 22, 29, 30, 31, 32, 33, 34, 35, 36, 37, 28, 38, 14, 15] (.seq (.seq (.reg (.op 0 (.op 1 (.op 2 (.op 3 .done))))) (.cond .nop .nop)) (.join [5] [17, 18, 19, 20, 21, 16, 23, 24, 25, 26, 27, 22, 29, 30, 31, 32, 33, 34, 35, 36, 37, 28, 38] (.sub (.seq (.sub (.seq (.reg (.op 0 (.op 1 (.op 2 (.op 3 (.op 4 (.op 5 .done))))))) (.cond .nop (.seq (.reg (.op 0 (.op 1 (.op 2 (.op 3 (.op 4 (.op 5 .done))))))) (.cond .nop (.seq (.draw (.op 0 (.op 1 (.op 2 (.op 3 (.op 4 (.op 5 (.op 6 (.op 7 (.op 8 (.op 9 .done))))))))))) (.cond .nop .nop))))))) (.reg (.op 0 (.op 1 .done))))) (.reg (.op 0 (.op 1 (.op 2 .done))))))))) (.seq (.reg (.op 0 (.op 1 .done))) .nop))))))

theorem outline_last.ok : okC Tryd.f33.ntmps outline_last.sc (bodyOf Tryd.f33) = true := by kernel_rfl

theorem outline_last.eq {K : K1} {in0 row1 : Value} {w : World} : outline_last K in0 row1 w = codeS Tryd.prog outline_last.sc (bodyOf Tryd.f33) (argsF 0 [in0, row1]) w (retQ Tryd.prog Tryd.f33.results.toList K) := by kernel_rfl

theorem outline_last.call {K : K1} {in0 row1 : Value} {w : World} (h : outline_last K in0 row1 w) : sCall Tryd.prog 33 [in0, row1] w K := sCall_code mixed Tryd.func33 (by kernel_rfl) rfl rfl outline_last.ok outline_last.eq h

abbrev outline_last.n : Nat := 33

/-- 'bodkin lines.Span' -/
def lines_Span_J1 (K : K1) (r2 row1 x4 : Value) (x14 : Value) (w : World) : Prop :=
  sIf x14 (
    sBuild Tryd.prog 40 [] w fun x15 w =>
    sStore Tryd.prog 40 x4 x15 w fun w =>
    sLoad Tryd.prog 40 x4 w fun v w' => w' = w ∧ K (.tuple #[v, (.int .i64 1)]) w) (
    sFunc Tryd.prog (.func 59) [] [r2] w fun x16 w =>
    sLoad Tryd.prog 23 r2 w fun x18 w =>
    sCall Tryd.prog 48 [x18] w fun x19 w =>
    sBin Tryd.prog .eql 3 false false row1 x19 w fun x20 w =>
    sIf x20 (
      DrawS w fun C w =>
      stillS C w (fun w k => sLoad Tryd.prog 23 r2 w k) fun x24 =>
      sDyn Tryd.prog x16 [row1] w fun x23 w => C w ∧
      sCall Tryd.prog 18 [x24] w fun x25 w => C w ∧
      stillS C w (fun w k => sBuild Tryd.prog 40 [(0, x23), (1, x25)] w k) fun x26 =>
      sStore Tryd.prog 40 x4 x26 w fun w => C w ∧
      sLoad Tryd.prog 40 x4 w fun v w' => w' = w ∧ K (.tuple #[v, (.int .i64 0)]) w) (
      sDyn Tryd.prog x16 [row1] w fun x29 w =>
      sBin Tryd.prog .add 3 false true row1 (.int .i64 1) w fun x32 w =>
      sDyn Tryd.prog x16 [x32] w fun x33 w =>
      sBin Tryd.prog .sub 3 false true x33 (.int .i64 1) w fun x34 w =>
      sBuild Tryd.prog 40 [(0, x29), (1, x34)] w fun x35 w =>
      sStore Tryd.prog 40 x4 x35 w fun w =>
      sLoad Tryd.prog 40 x4 w fun v w' => w' = w ∧ K (.tuple #[v, (.int .i64 0)]) w))

def lines_Span (K : K1) (r0 row1 : Value) (w : World) : Prop :=
  sBox Tryd.prog 23 r0 w fun r2 w =>
  sAlloc Tryd.prog 40 w fun x4 w =>
  JoinS 1 7 (fun M1 =>
    sBin Tryd.prog .lss 3 false true row1 (.int .i64 0) w fun x8 w =>
    sIf x8 (
      M1 [(.bool true)] w) (
      sLoad Tryd.prog 23 r2 w fun x11 w =>
      sCall Tryd.prog 28 [x11] w fun x12 w =>
      sBin Tryd.prog .geq 3 false false row1 x12 w fun x13 w =>
      M1 [x13] w)) fun us _ w =>
    lines_Span_J1 K r2 row1 x4 (hd us) w

def lines_Span.sc : SC := (.seq (.reg (.op 0 (.op 1 (.op 2 .done)))) (.seq (.join [14] [7, 8, 9, 10, 11, 12, 13] (.reg (.op 0 (.op 1 (.op 2 (.test 2 (.skip 3 (.skip 4 (.skip 5 (.skip 6 (.op 7 .done))))) (.op 3 (.op 4 (.op 5 (.op 6 (.op 7 .done)))))))))) (.cond (.seq (.reg (.op 0 (.op 1 (.op 2 .done)))) .nop) .nop)) (.seq (.reg (.op 0 (.op 1 .done))) (.seq (.seq (.reg (.op 0 (.op 1 (.op 2 (.op 3 .done))))) (.cond (.seq (.draw (.op 0 (.op 1 (.op 3 (.op 2 (.op 4 (.op 5 (.op 6 (.op 7 .done))))))))) .nop) .nop)) (.seq (.reg (.op 0 (.op 1 (.op 2 (.op 3 (.op 4 (.op 5 (.op 6 (.op 7 (.op 8 (.op 9 (.op 10 .done)))))))))))) .nop)))))

theorem lines_Span.ok : okC Tryd.f34.ntmps lines_Span.sc (bodyOf Tryd.f34) = true := by kernel_rfl

theorem lines_Span.eq {K : K1} {r0 row1 : Value} {w : World} : lines_Span K r0 row1 w = codeS Tryd.prog lines_Span.sc (bodyOf Tryd.f34) (argsF 0 [r0, row1]) w (retQ Tryd.prog Tryd.f34.results.toList K) := by kernel_rfl

theorem lines_Span.call {K : K1} {r0 row1 : Value} {w : World} (h : lines_Span K r0 row1 w) : sCall Tryd.prog 34 [r0, row1] w K := sCall_code mixed Tryd.func34 (by kernel_rfl) rfl rfl lines_Span.ok lines_Span.eq h

abbrev lines_Span.n : Nat := 34

/-- '(*bodkin rope.Rope).size' -/
def rope_Rope_size (K : K1) (r0 dim1 : Value) (w : World) : Prop :=
  sCall Tryd.prog 61 [r0] w fun x6 w =>
  sCall Tryd.prog 62 [x6] w fun x7 w =>
  sFld Tryd.prog 114 x7 1 w fun x8 w =>
  sIdx Tryd.prog 89 x8 dim1 w fun x10 w =>
  K x10 w

def rope_Rope_size.sc : SC := (.seq (.reg (.op 0 .done)) (.seq (.reg (.op 0 (.op 1 (.op 2 (.op 3 (.op 4 (.op 5 (.op 6 .done)))))))) .nop))

theorem rope_Rope_size.ok : okC Tryd.f35.ntmps rope_Rope_size.sc (bodyOf Tryd.f35) = true := by kernel_rfl

theorem rope_Rope_size.eq {K : K1} {r0 dim1 : Value} {w : World} : rope_Rope_size K r0 dim1 w = codeS Tryd.prog rope_Rope_size.sc (bodyOf Tryd.f35) (argsF 0 [r0, dim1]) w (retQ Tryd.prog Tryd.f35.results.toList K) := by kernel_rfl

theorem rope_Rope_size.call {K : K1} {r0 dim1 : Value} {w : World} (h : rope_Rope_size K r0 dim1 w) : sCall Tryd.prog 35 [r0, dim1] w K := sCall_code mixed Tryd.func35 (by kernel_rfl) rfl rfl rope_Rope_size.ok rope_Rope_size.eq h

abbrev rope_Rope_size.n : Nat := 35

/-- 'slices.DeleteFunc[[]bodkin outline.Range,bodkin outline.Range]' -/
def slices_DeleteFunc_J2 (Nx1 : List Value → World → Prop) (j6 : Value) (i5_1 : Value) (w : World) : Prop :=
  sBin Tryd.prog .add 3 false true j6 (.int .i64 1) w fun x21 w =>
  Nx1 [i5_1, x21] w

def slices_DeleteFunc_L1 (K : K1) (Nx1 : List Value → World → Prop) (del1 s0 : Value) (i5 j6 : Value) (w : World) : Prop :=
  sBuiltin Tryd.prog .len [36] 3 [s0] w fun x18 w =>
  sBin Tryd.prog .lss 3 false false j6 x18 w fun x19 w =>
  sIf x19 (
    JoinS 1 15 (fun M2 =>
      sIdxA Tryd.prog 36 s0 j6 w fun x24 w =>
      sLoad Tryd.prog 42 x24 w fun x25 w =>
      sAlloc Tryd.prog 42 w fun v7 w =>
      sStore Tryd.prog 42 v7 x25 w fun w =>
      sLoad Tryd.prog 42 v7 w fun x27 w =>
      sDyn Tryd.prog del1 [x27] w fun x28 w =>
      sUn Tryd.prog .not x28 w fun x29 w =>
      sIf x29 (
        sLoad Tryd.prog 42 v7 w fun x32 w =>
        sIdxA Tryd.prog 36 s0 i5 w fun x33 w =>
        sStore Tryd.prog 42 x33 x32 w fun w =>
        sBin Tryd.prog .add 3 false true i5 (.int .i64 1) w fun x35 w =>
        M2 [x35] w) (
        M2 [i5] w)) fun us _ w =>
      slices_DeleteFunc_J2 Nx1 j6 (hd us) w) (
    sSlice Tryd.prog 36 s0 (some i5) none none w fun x38 w =>
    sBuiltin Tryd.prog .clear [36] 0 [x38] w fun _ w =>
    sSlice Tryd.prog 36 s0 none (some i5) none w fun x41 w =>
    K x41 w)

def slices_DeleteFunc (K : K1) (s0 del1 : Value) (w : World) : Prop :=
  sCall Tryd.prog 63 [s0, del1] w fun x10 w =>
  sBin Tryd.prog .eql 3 false true x10 (.int .i64 (-1)) w fun x12 w =>
  sIf x12 (
    K s0 w) (
    sBin Tryd.prog .add 3 false true x10 (.int .i64 1) w fun x15 w =>
    LoopS [x10, x15] 2 21 w fun us _ w Nx1 =>
      slices_DeleteFunc_L1 K Nx1 del1 s0 (hd us) (hd (tl us)) w)

def slices_DeleteFunc.sc : SC := (.seq (.reg (.op 0 .done)) (.seq (.reg (.op 0 (.op 1 (.op 2 (.op 3 .done))))) (.seq (.seq (.reg (.op 0 (.op 1 .done))) (.cond (.seq (.reg (.op 0 (.op 1 .done))) .nop) .nop)) (.seq (.seq (.reg (.op 0 (.op 1 (.op 2 .done)))) (.sub (.loop [5, 6] [16, 17, 18, 19, 22, 23, 24, 25, 7, 26, 27, 28, 29, 30, 31, 32, 33, 34, 35, 20, 21] (.seq (.seq (.reg (.op 0 (.op 1 (.op 2 (.op 3 .done))))) (.cond .nop .nop)) (.join [5] [22, 23, 24, 25, 7, 26, 27, 28, 29, 30, 31, 32, 33, 34, 35] (.sub (.seq (.reg (.op 0 (.op 1 (.op 2 (.op 3 (.op 4 (.op 5 .done))))))) (.seq (.reg (.op 0 (.op 1 (.op 2 (.op 3 .done))))) (.cond (.seq (.reg (.op 0 (.op 1 (.op 2 (.op 3 (.op 4 .done)))))) (.reg (.op 0 (.op 1 (.op 2 .done))))) .nop)))) (.reg (.op 0 (.op 1 (.op 2 .done))))))))) (.seq (.reg (.op 0 (.op 1 (.op 2 (.op 3 .done))))) (.seq (.reg (.op 0 (.op 1 (.op 2 (.op 3 .done))))) .nop))))))

theorem slices_DeleteFunc.ok : okC Tryd.f36.ntmps slices_DeleteFunc.sc (bodyOf Tryd.f36) = true := by kernel_rfl

theorem slices_DeleteFunc.eq {K : K1} {s0 del1 : Value} {w : World} : slices_DeleteFunc K s0 del1 w = codeS Tryd.prog slices_DeleteFunc.sc (bodyOf Tryd.f36) (argsF 0 [s0, del1]) w (retQ Tryd.prog Tryd.f36.results.toList K) := by kernel_rfl

theorem slices_DeleteFunc.call {K : K1} {s0 del1 : Value} {w : World} (h : slices_DeleteFunc K s0 del1 w) : sCall Tryd.prog 36 [s0, del1] w K := sCall_code mixed Tryd.func36 (by kernel_rfl) rfl rfl slices_DeleteFunc.ok slices_DeleteFunc.eq h

abbrev slices_DeleteFunc.n : Nat := 36

/-- 'bodkin outline.Around$1' -/
def outline_Around_1 (K : K1) (x0 x1 : Value) (w : World) : Prop :=
  sBox Tryd.prog 42 x0 w fun x2 w =>
  sLoad Tryd.prog 3 x1 w fun x4 w =>
  sFldA Tryd.prog 42 x2 0 w fun x5 w =>
  sLoad Tryd.prog 3 x5 w fun x6 w =>
  sBin Tryd.prog .lss 3 false false x4 x6 w fun x7 w =>
  sIf x7 (
    K (.bool true) w) (
    sLoad Tryd.prog 3 x1 w fun x9 w =>
    sFldA Tryd.prog 42 x2 1 w fun x10 w =>
    sLoad Tryd.prog 3 x10 w fun x11 w =>
    sBin Tryd.prog .gtr 3 false false x9 x11 w fun x12 w =>
    K x12 w)

def outline_Around_1.sc : SC := (.seq (.reg (.op 0 (.op 1 .done))) (.seq (.reg (.op 0 (.op 1 (.op 2 (.op 3 (.op 4 (.test 4 (.skip 5 (.skip 6 (.skip 7 (.skip 8 (.op 9 (.op 10 .done)))))) (.op 5 (.op 6 (.op 7 (.op 8 (.op 9 (.op 10 .done))))))))))))) .nop))

theorem outline_Around_1.ok : okC Tryd.f37.ntmps outline_Around_1.sc (bodyOf Tryd.f37) = true := by kernel_rfl

theorem outline_Around_1.eq {K : K1} {x0 x1 : Value} {w : World} : outline_Around_1 K x0 x1 w = codeS Tryd.prog outline_Around_1.sc (bodyOf Tryd.f37) (argsF 0 [x0, x1]) w (retQ Tryd.prog Tryd.f37.results.toList K) := by kernel_rfl

theorem outline_Around_1.call {K : K1} {x0 x1 : Value} {w : World} (h : outline_Around_1 K x0 x1 w) : sCall Tryd.prog 37 [x0, x1] w K := sCall_code mixed Tryd.func37 (by kernel_rfl) rfl rfl outline_Around_1.ok outline_Around_1.eq h

abbrev outline_Around_1.n : Nat := 37

/-- 'bodkin bodkinref43.deeper' -/
def bodkinref43_deeper_J2 (Nx1 : List Value → World → Prop) (i7 : Value) (w : World) : Prop :=
  sBin Tryd.prog .add 3 false true i7 (.int .i64 1) w fun x14 w =>
  Nx1 [x14] w

def bodkinref43_deeper_L1 (K : K1) (Nx1 : List Value → World → Prop) (in0 row1 to2 : Value) (i7 : Value) (w : World) : Prop :=
  sBin Tryd.prog .leq 3 false false i7 to2 w fun x12 w =>
  sIf x12 (
    JoinS 0 17 (fun M2 =>
      DrawS w fun C w =>
      stillS C w (fun w k => sIdxA Tryd.prog 27 in0 i7 w k) fun x17 =>
      stillS C w (fun w k => sLoad Tryd.prog 3 x17 w k) fun x18 =>
      stillS C w (fun w k => sBin Tryd.prog .geq 3 false true x18 (.int .i64 0) w k) fun x19 =>
      sIf x19 (
        stillS C w (fun w k => sIdxA Tryd.prog 27 in0 i7 w k) fun x23 =>
        stillS C w (fun w k => sLoad Tryd.prog 3 x23 w k) fun x24 =>
        stillS C w (fun w k => sIdxA Tryd.prog 27 in0 row1 w k) fun x27 =>
        stillS C w (fun w k => sLoad Tryd.prog 3 x27 w k) fun x28 =>
        stillS C w (fun w k => sBin Tryd.prog .leq 3 false false x24 x28 w k) fun x29 =>
        sIf x29 (
          K (.bool false) w) (
          M2 [] w)) (
        M2 [] w)) fun us _ w =>
      bodkinref43_deeper_J2 Nx1 i7 w) (
    K (.bool true) w)

def bodkinref43_deeper (K : K1) (in0 row1 to2 : Value) (w : World) : Prop :=
  sBin Tryd.prog .add 3 false true row1 (.int .i64 1) w fun x9 w =>
  LoopS [x9] 1 22 w fun us _ w Nx1 =>
    bodkinref43_deeper_L1 K Nx1 in0 row1 to2 (hd us) w

def bodkinref43_deeper.sc : SC := (.seq (.reg (.op 0 .done)) (.seq (.seq (.reg (.op 0 (.op 1 (.op 2 .done)))) (.sub (.loop [7] [10, 11, 12, 15, 16, 17, 18, 19, 20, 21, 22, 23, 24, 25, 26, 27, 28, 29, 30, 6, 13, 14] (.seq (.seq (.reg (.op 0 (.op 1 (.op 2 .done)))) (.cond .nop .nop)) (.join [] [15, 16, 17, 18, 19, 20, 21, 22, 23, 24, 25, 26, 27, 28, 29, 30, 6] (.sub (.seq (.draw (.op 0 (.op 1 (.op 2 (.op 3 (.op 4 (.op 5 (.test 5 (.op 6 (.op 7 (.op 8 (.op 9 (.op 10 (.op 11 (.op 12 (.op 13 (.op 14 (.op 15 .done)))))))))) (.skip 6 (.skip 7 (.skip 8 (.skip 9 (.skip 10 (.skip 11 (.skip 12 (.skip 13 (.skip 14 (.op 15 .done)))))))))))))))))) (.cond (.seq (.reg (.op 0 .done)) .nop) .nop))) (.reg (.op 0 (.op 1 (.op 2 .done))))))))) (.seq (.reg (.op 0 .done)) .nop)))

theorem bodkinref43_deeper.ok : okC Tryd.f38.ntmps bodkinref43_deeper.sc (bodyOf Tryd.f38) = true := by kernel_rfl

theorem bodkinref43_deeper.eq {K : K1} {in0 row1 to2 : Value} {w : World} : bodkinref43_deeper K in0 row1 to2 w = codeS Tryd.prog bodkinref43_deeper.sc (bodyOf Tryd.f38) (argsF 0 [in0, row1, to2]) w (retQ Tryd.prog Tryd.f38.results.toList K) := by kernel_rfl

theorem bodkinref43_deeper.call {K : K1} {in0 row1 to2 : Value} {w : World} (h : bodkinref43_deeper K in0 row1 to2 w) : sCall Tryd.prog 38 [in0, row1, to2] w K := sCall_code mixed Tryd.func38 (by kernel_rfl) rfl rfl bodkinref43_deeper.ok bodkinref43_deeper.eq h

abbrev bodkinref43_deeper.n : Nat := 38

/-- '(*bodkin rope.Rope).At' -/
def rope_Rope_At (K : K1) (r0 at1 : Value) (w : World) : Prop :=
  sCall Tryd.prog 64 [r0, at1] w fun x13 w =>
  sExtract x13 0 w fun x14 w =>
  sExtract x13 1 w fun x15 w =>
  sAlloc Tryd.prog 119 w fun s6 w =>
  sStore Tryd.prog 119 s6 x14 w fun w =>
  sBin Tryd.prog .neq 24 false true x15 (.int .i64 0) w fun x17 w =>
  sIf x17 (
    K (.tuple #[(.int .i32 0), (.int .i64 1)]) w) (
    sFldA Tryd.prog 119 s6 2 w fun x19 w =>
    sLoad Tryd.prog 3 x19 w fun x20 w =>
    sFldA Tryd.prog 119 s6 1 w fun x21 w =>
    sFldA Tryd.prog 91 x21 4 w fun x22 w =>
    sLoad Tryd.prog 9 x22 w fun x23 w =>
    sBuiltin Tryd.prog .len [9] 3 [x23] w fun x24 w =>
    sBin Tryd.prog .eql 3 false false x20 x24 w fun x25 w =>
    sIf x25 (
      K (.tuple #[(.int .i32 0), (.int .i64 1)]) w) (
      sFldA Tryd.prog 119 s6 1 w fun x28 w =>
      sFldA Tryd.prog 91 x28 4 w fun x29 w =>
      sLoad Tryd.prog 9 x29 w fun x30 w =>
      sFldA Tryd.prog 119 s6 2 w fun x31 w =>
      sLoad Tryd.prog 3 x31 w fun x32 w =>
      sCall Tryd.prog 65 [x30, x32] w fun x33 w =>
      sExtract x33 0 w fun x34 w =>
      sExtract x33 1 w fun x35 w =>
      K (.tuple #[x34, (.int .i64 0)]) w))

def rope_Rope_At.sc : SC := (.seq (.reg (.op 0 (.op 1 .done))) (.seq (.reg (.op 0 (.op 1 (.op 2 (.op 3 (.op 4 (.op 5 (.op 6 (.op 7 (.op 8 .done)))))))))) (.seq (.seq (.reg (.op 0 (.op 1 (.op 2 (.test 2 (.skip 3 (.skip 4 (.skip 5 (.skip 6 (.skip 7 (.skip 8 (.skip 9 (.op 10 .done)))))))) (.op 3 (.op 4 (.op 5 (.op 6 (.op 7 (.op 8 (.op 9 (.op 10 .done))))))))))))) (.cond (.seq (.reg (.op 0 (.op 1 .done))) .nop) .nop)) (.seq (.reg (.op 0 (.op 1 (.op 2 (.op 3 (.op 4 (.op 5 (.op 6 (.op 7 (.op 8 (.op 9 (.op 10 .done)))))))))))) (.seq (.reg (.op 0 (.op 1 (.op 2 .done)))) .nop)))))

theorem rope_Rope_At.ok : okC Tryd.f39.ntmps rope_Rope_At.sc (bodyOf Tryd.f39) = true := by kernel_rfl

theorem rope_Rope_At.eq {K : K1} {r0 at1 : Value} {w : World} : rope_Rope_At K r0 at1 w = codeS Tryd.prog rope_Rope_At.sc (bodyOf Tryd.f39) (argsF 0 [r0, at1]) w (retQ Tryd.prog Tryd.f39.results.toList K) := by kernel_rfl

theorem rope_Rope_At.call {K : K1} {r0 at1 : Value} {w : World} (h : rope_Rope_At K r0 at1 w) : sCall Tryd.prog 39 [r0, at1] w K := sCall_code mixed Tryd.func39 (by kernel_rfl) rfl rfl rope_Rope_At.ok rope_Rope_At.eq h

abbrev rope_Rope_At.n : Nat := 39

/-- 'bodkin outline.pair' -/
def outline_pair_L1 (K : K1) (Nx1 : List Value → World → Prop) (c0 x7 : Value) (w : World) : Prop :=
  sNext Tryd.prog x7 true 0 w fun x8 w =>
  sExtract x8 0 w fun x9 w =>
  sIf x9 (
    sExtract x8 1 w fun x10 w =>
    sExtract x8 2 w fun x11 w =>
    sIdx Tryd.prog 9 (.string ⟨#[41, 93, 125]⟩) x10 w fun x13 w =>
    sConv Tryd.prog 5 21 x13 w fun x14 w =>
    sBin Tryd.prog .eql 21 false false c0 x11 w fun x18 w =>
    sIf x18 (
      K (.tuple #[x14, (.int .i64 1)]) w) (
      sBin Tryd.prog .eql 21 false false c0 x14 w fun x22 w =>
      sIf x22 (
        K (.tuple #[x11, (.int .i64 (-1))]) w) (
        Nx1 [] w))) (
    K (.tuple #[(.int .i32 0), (.int .i64 0)]) w)

def outline_pair (K : K1) (c0 : Value) (w : World) : Prop :=
  sRange Tryd.prog 9 (.string ⟨#[40, 91, 123]⟩) w fun x7 w =>
  LoopS [] 0 21 w fun us _ w Nx1 =>
    outline_pair_L1 K Nx1 c0 x7 w

def outline_pair.sc : SC := (.seq (.reg (.op 0 (.op 1 .done))) (.seq (.seq (.reg (.op 0 .done)) (.sub (.loop [] [8, 9, 10, 11, 4, 5, 12, 13, 14, 6, 15, 17, 18, 16, 19, 2, 3, 21, 22, 20, 23] (.seq (.reg (.op 0 (.op 1 .done))) (.seq (.cond .nop .nop) (.sub (.seq (.reg (.op 0 (.op 1 (.op 2 (.op 3 .done))))) (.seq (.reg (.op 0 (.op 1 (.op 2 (.op 3 .done))))) (.seq (.reg (.op 0 .done)) (.sub (.seq (.reg (.op 0 (.op 1 (.op 2 .done)))) (.cond (.seq (.reg (.op 0 (.op 1 (.op 2 .done)))) .nop) (.seq (.reg (.op 0 (.op 1 (.op 2 .done)))) (.cond (.seq (.reg (.op 0 (.op 1 (.op 2 .done)))) .nop) .nop)))))))))))))) (.seq (.reg (.op 0 (.op 1 .done))) .nop)))

theorem outline_pair.ok : okC Tryd.f40.ntmps outline_pair.sc (bodyOf Tryd.f40) = true := by kernel_rfl

theorem outline_pair.eq {K : K1} {c0 : Value} {w : World} : outline_pair K c0 w = codeS Tryd.prog outline_pair.sc (bodyOf Tryd.f40) (argsF 0 [c0]) w (retQ Tryd.prog Tryd.f40.results.toList K) := by kernel_rfl

theorem outline_pair.call {K : K1} {c0 : Value} {w : World} (h : outline_pair K c0 w) : sCall Tryd.prog 40 [c0] w K := sCall_code mixed Tryd.func40 (by kernel_rfl) rfl rfl outline_pair.ok outline_pair.eq h

abbrev outline_pair.n : Nat := 40

/-- '(*bodkin rope.Rope).Text' -/
def rope_Rope_Text (K : K1) (r0 : Value) (w : World) : Prop :=
  sCall Tryd.prog 67 [r0] w fun x4 w =>
  sCall Tryd.prog 66 [x4, (.string ⟨#[]⟩)] w fun x5 w =>
  K x5 w

def rope_Rope_Text.sc : SC := (.seq (.reg (.op 0 .done)) (.seq (.reg (.op 0 (.op 1 (.op 2 (.op 3 .done))))) .nop))

theorem rope_Rope_Text.ok : okC Tryd.f41.ntmps rope_Rope_Text.sc (bodyOf Tryd.f41) = true := by kernel_rfl

theorem rope_Rope_Text.eq {K : K1} {r0 : Value} {w : World} : rope_Rope_Text K r0 w = codeS Tryd.prog rope_Rope_Text.sc (bodyOf Tryd.f41) (argsF 0 [r0]) w (retQ Tryd.prog Tryd.f41.results.toList K) := by kernel_rfl

theorem rope_Rope_Text.call {K : K1} {r0 : Value} {w : World} (h : rope_Rope_Text K r0 w) : sCall Tryd.prog 41 [r0] w K := sCall_code mixed Tryd.func41 (by kernel_rfl) rfl rfl rope_Rope_Text.ok rope_Rope_Text.eq h

abbrev rope_Rope_Text.n : Nat := 41

/-- 'bodkin bodkinref43.Other' -/
def bodkinref43_Other (K : K1) (r0 : Value) (w : World) : Prop :=
  sBin Tryd.prog .eql 21 false true r0 (.int .i32 40) w fun x5 w =>
  sIf x5 (
    K (.int .i32 41) w) (
    sBin Tryd.prog .eql 21 false true r0 (.int .i32 41) w fun x7 w =>
    sIf x7 (
      K (.int .i32 40) w) (
      sBin Tryd.prog .eql 21 false true r0 (.int .i32 91) w fun x9 w =>
      sIf x9 (
        K (.int .i32 93) w) (
        sBin Tryd.prog .eql 21 false true r0 (.int .i32 93) w fun x11 w =>
        sIf x11 (
          K (.int .i32 91) w) (
          sBin Tryd.prog .eql 21 false true r0 (.int .i32 123) w fun x13 w =>
          sIf x13 (
            K (.int .i32 125) w) (
            sBin Tryd.prog .eql 21 false true r0 (.int .i32 125) w fun x15 w =>
            sIf x15 (
              K (.int .i32 123) w) (
              K (.int .i32 0) w))))))

def bodkinref43_Other.sc : SC := (.seq (.reg (.op 0 .done)) (.seq (.seq (.reg (.op 0 .done)) (.sub (.seq (.reg (.op 0 (.op 1 .done))) (.cond (.seq (.reg (.op 0 .done)) .nop) (.seq (.reg (.op 0 (.op 1 .done))) (.cond (.seq (.reg (.op 0 .done)) .nop) (.seq (.reg (.op 0 (.op 1 .done))) (.cond (.seq (.reg (.op 0 .done)) .nop) (.seq (.reg (.op 0 (.op 1 .done))) (.cond (.seq (.reg (.op 0 .done)) .nop) (.seq (.reg (.op 0 (.op 1 .done))) (.cond (.seq (.reg (.op 0 .done)) .nop) (.seq (.reg (.op 0 (.op 1 .done))) (.cond (.seq (.reg (.op 0 .done)) .nop) .nop)))))))))))))) (.seq (.reg (.op 0 .done)) .nop)))

theorem bodkinref43_Other.ok : okC Tryd.f42.ntmps bodkinref43_Other.sc (bodyOf Tryd.f42) = true := by kernel_rfl

theorem bodkinref43_Other.eq {K : K1} {r0 : Value} {w : World} : bodkinref43_Other K r0 w = codeS Tryd.prog bodkinref43_Other.sc (bodyOf Tryd.f42) (argsF 0 [r0]) w (retQ Tryd.prog Tryd.f42.results.toList K) := by kernel_rfl

theorem bodkinref43_Other.call {K : K1} {r0 : Value} {w : World} (h : bodkinref43_Other K r0 w) : sCall Tryd.prog 42 [r0] w K := sCall_code mixed Tryd.func42 (by kernel_rfl) rfl rfl bodkinref43_Other.ok bodkinref43_Other.eq h

abbrev bodkinref43_Other.n : Nat := 42

/-- 'bodkin bodkinref43.step' -/
def bodkinref43_step (K : K1) (r0 : Value) (w : World) : Prop :=
  sBin Tryd.prog .eql 21 false true r0 (.int .i32 40) w fun x4 w =>
  sIf x4 (
    K (.int .i64 1) w) (
    sBin Tryd.prog .eql 21 false true r0 (.int .i32 91) w fun x7 w =>
    sIf x7 (
      K (.int .i64 1) w) (
      sBin Tryd.prog .eql 21 false true r0 (.int .i32 123) w fun x11 w =>
      sIf x11 (
        K (.int .i64 1) w) (
        K (.int .i64 (-1)) w)))

def bodkinref43_step.sc : SC := (.seq (.reg (.op 0 .done)) (.seq (.seq (.reg (.op 0 (.op 1 (.op 2 (.test 2 (.skip 3 (.skip 4 (.op 5 (.op 6 (.know 6 true (.skip 7 (.skip 8 (.op 9 .done)))))))) (.op 3 (.op 4 (.op 5 (.op 6 (.test 6 (.skip 7 (.skip 8 (.op 9 .done))) (.op 7 (.op 8 (.op 9 .done))))))))))))) (.cond (.seq (.reg (.op 0 .done)) .nop) .nop)) (.seq (.reg (.op 0 .done)) .nop)))

theorem bodkinref43_step.ok : okC Tryd.f43.ntmps bodkinref43_step.sc (bodyOf Tryd.f43) = true := by kernel_rfl

theorem bodkinref43_step.eq {K : K1} {r0 : Value} {w : World} : bodkinref43_step K r0 w = codeS Tryd.prog bodkinref43_step.sc (bodyOf Tryd.f43) (argsF 0 [r0]) w (retQ Tryd.prog Tryd.f43.results.toList K) := by kernel_rfl

theorem bodkinref43_step.call {K : K1} {r0 : Value} {w : World} (h : bodkinref43_step K r0 w) : sCall Tryd.prog 43 [r0] w K := sCall_code mixed Tryd.func43 (by kernel_rfl) rfl rfl bodkinref43_step.ok bodkinref43_step.eq h

abbrev bodkinref43_step.n : Nat := 43

/-- 'bodkin item.Check' -/
def item_Check_L1 (K : K1) (Nx1 : List Value → World → Prop) (x10 : Value) (ok3 x11 : Value) (w : World) : Prop :=
  sBin Tryd.prog .lss 3 false true x11 (.int .i64 3) w fun x12 w =>
  sIf x12 (
    sIdx Tryd.prog 89 x10 x11 w fun x13 w =>
    sIf ok3 (
      sCall Tryd.prog 68 [x13] w fun x17 w =>
      sBin Tryd.prog .add 3 false true x11 (.int .i64 1) w fun x19 w =>
      Nx1 [x17, x19] w) (
      sBin Tryd.prog .add 3 false true x11 (.int .i64 1) w fun x19_1 w =>
      Nx1 [(.bool false), x19_1] w)) (
    sUn Tryd.prog .not ok3 w fun x21 w =>
    sIf x21 (
      K (.int .i64 1) w) (
      K (.int .i64 0) w))

def item_Check (K : K1) (i0 : Value) (w : World) : Prop :=
  sBox Tryd.prog 91 i0 w fun i1 w =>
  sFldA Tryd.prog 91 i1 3 w fun x6 w =>
  sLoad Tryd.prog 3 x6 w fun x7 w =>
  sCall Tryd.prog 68 [x7] w fun x8 w =>
  sFldA Tryd.prog 91 i1 2 w fun x9 w =>
  sLoad Tryd.prog 89 x9 w fun x10 w =>
  LoopS [x8, (.int .i64 0)] 2 9 w fun us _ w Nx1 =>
    item_Check_L1 K Nx1 x10 (hd us) (hd (tl us)) w

def item_Check.sc : SC := (.seq (.reg (.op 0 (.op 1 .done))) (.seq (.reg (.op 0 (.op 1 (.op 2 (.op 3 .done))))) (.seq (.seq (.reg (.op 0 (.op 1 (.op 2 .done)))) (.sub (.loop [3, 11] [12, 13, 5, 14, 15, 16, 17, 18, 19] (.seq (.reg (.op 0 .done)) (.seq (.cond .nop .nop) (.seq (.sub (.seq (.reg (.op 0 (.op 1 .done))) (.reg (.op 0 (.op 1 (.test 1 (.op 2 (.op 3 (.op 4 (.op 5 .done)))) (.skip 2 (.skip 3 (.op 4 (.op 5 .done)))))))))) (.reg (.op 0 (.op 1 .done))))))))) (.seq (.seq (.reg (.op 0 (.op 1 .done))) (.cond (.seq (.reg (.op 0 .done)) .nop) .nop)) (.seq (.reg (.op 0 .done)) .nop)))))

theorem item_Check.ok : okC Tryd.f44.ntmps item_Check.sc (bodyOf Tryd.f44) = true := by kernel_rfl

theorem item_Check.eq {K : K1} {i0 : Value} {w : World} : item_Check K i0 w = codeS Tryd.prog item_Check.sc (bodyOf Tryd.f44) (argsF 0 [i0]) w (retQ Tryd.prog Tryd.f44.results.toList K) := by kernel_rfl

theorem item_Check.call {K : K1} {i0 : Value} {w : World} (h : item_Check K i0 w) : sCall Tryd.prog 44 [i0] w K := sCall_code mixed Tryd.func44 (by kernel_rfl) rfl rfl item_Check.ok item_Check.eq h

abbrev item_Check.n : Nat := 44

/-- 'bodkin tree.join' -/
def tree_join (K : K1) (a0 b1 : Value) (w : World) : Prop :=
  sBin Tryd.prog .eql 88 false true a0 .nilIface w fun x8 w =>
  sIf x8 (
    K b1 w) (
    sBin Tryd.prog .eql 88 false true b1 .nilIface w fun x12 w =>
    sIf x12 (
      K a0 w) (
      sCall Tryd.prog 69 [a0, b1] w fun x16 w =>
      sBuiltin Tryd.prog .len [126] 3 [x16] w fun x18 w =>
      sBin Tryd.prog .eql 3 false true x18 (.int .i64 1) w fun x19 w =>
      sIf x19 (
        sIdxA Tryd.prog 126 x16 (.int .i64 0) w fun x21 w =>
        sLoad Tryd.prog 88 x21 w fun x22 w =>
        K x22 w) (
        sCall Tryd.prog 70 [x16] w fun x24 w =>
        sIface Tryd.prog 128 x24 w fun x25 w =>
        K x25 w)))

def tree_join.sc : SC := (.seq (.reg (.op 0 .done)) (.seq (.sub (.seq (.reg (.op 0 (.op 1 (.op 2 .done)))) (.cond (.seq (.reg (.op 0 (.op 1 .done))) .nop) (.seq (.reg (.op 0 (.op 1 (.op 2 .done)))) (.cond (.seq (.reg (.op 0 (.op 1 .done))) .nop) .nop))))) (.seq (.reg (.op 0 (.op 1 (.op 2 (.op 3 .done))))) (.seq (.seq (.reg (.op 0 (.op 1 (.op 2 .done)))) (.cond (.seq (.reg (.op 0 (.op 1 (.op 2 (.op 3 .done))))) .nop) .nop)) (.seq (.reg (.op 0 (.op 1 (.op 2 (.op 3 .done))))) .nop)))))

theorem tree_join.ok : okC Tryd.f45.ntmps tree_join.sc (bodyOf Tryd.f45) = true := by kernel_rfl

theorem tree_join.eq {K : K1} {a0 b1 : Value} {w : World} : tree_join K a0 b1 w = codeS Tryd.prog tree_join.sc (bodyOf Tryd.f45) (argsF 0 [a0, b1]) w (retQ Tryd.prog Tryd.f45.results.toList K) := by kernel_rfl

theorem tree_join.call {K : K1} {a0 b1 : Value} {w : World} (h : tree_join K a0 b1 w) : sCall Tryd.prog 45 [a0, b1] w K := sCall_code mixed Tryd.func45 (by kernel_rfl) rfl rfl tree_join.ok tree_join.eq h

abbrev tree_join.n : Nat := 45

/-- 'bodkin tree.leafOf' -/
def tree_leafOf (K : K1) (l0 : Value) (w : World) : Prop :=
  sCall Tryd.prog 71 [l0] w fun x5 w =>
  sBuild Tryd.prog 132 [(0, l0), (1, x5)] w fun x6 w =>
  sBox Tryd.prog 132 x6 w fun x7 w =>
  K x7 w

def tree_leafOf.sc : SC := (.seq (.reg (.op 0 .done)) (.seq (.reg (.op 0 (.op 1 (.op 2 (.op 3 (.op 4 (.op 5 .done))))))) .nop))

theorem tree_leafOf.ok : okC Tryd.f46.ntmps tree_leafOf.sc (bodyOf Tryd.f46) = true := by kernel_rfl

theorem tree_leafOf.eq {K : K1} {l0 : Value} {w : World} : tree_leafOf K l0 w = codeS Tryd.prog tree_leafOf.sc (bodyOf Tryd.f46) (argsF 0 [l0]) w (retQ Tryd.prog Tryd.f46.results.toList K) := by kernel_rfl

theorem tree_leafOf.call {K : K1} {l0 : Value} {w : World} (h : tree_leafOf K l0 w) : sCall Tryd.prog 46 [l0] w K := sCall_code mixed Tryd.func46 (by kernel_rfl) rfl rfl tree_leafOf.ok tree_leafOf.eq h

abbrev tree_leafOf.n : Nat := 46

/-- 'bodkin rope.pieceOf' -/
def rope_pieceOf_L1 (K : K1) (Nx1 : List Value → World → Prop) (i3 l0 x19 x2 : Value) (x20 : Value) (w : World) : Prop :=
  sBin Tryd.prog .lss 3 false false x20 x19 w fun x21 w =>
  sIf x21 (
    sIdxA Tryd.prog 33 l0 x20 w fun x22 w =>
    sLoad Tryd.prog 21 x22 w fun x23 w =>
    sBin Tryd.prog .eql 21 false true x23 (.int .i32 10) w fun x25 w =>
    sIf x25 (
      sFldA Tryd.prog 91 i3 2 w fun x26 w =>
      sIdxA Tryd.prog 89 x26 (.int .i64 2) w fun x27 w =>
      sLoad Tryd.prog 3 x27 w fun x28 w =>
      sBin Tryd.prog .add 3 false true x28 (.int .i64 1) w fun x29 w =>
      sFldA Tryd.prog 91 i3 2 w fun x30 w =>
      sIdxA Tryd.prog 89 x30 (.int .i64 2) w fun x31 w =>
      sStore Tryd.prog 3 x31 x29 w fun w =>
      sBin Tryd.prog .add 3 false true x20 (.int .i64 1) w fun x32 w =>
      Nx1 [x32] w) (
      sBin Tryd.prog .add 3 false true x20 (.int .i64 1) w fun x32_1 w =>
      Nx1 [x32_1] w)) (
    sLoad Tryd.prog 91 i3 w fun x33 w =>
    sStore Tryd.prog 91 x2 x33 w fun w =>
    sLoad Tryd.prog 91 x2 w fun v w' => w' = w ∧ K v w)

def rope_pieceOf (K : K1) (l0 : Value) (w : World) : Prop :=
  sAlloc Tryd.prog 91 w fun x2 w =>
  sCall Tryd.prog 72 [l0] w fun x7 w =>
  sBuild Tryd.prog 91 [(4, x7)] w fun x8 w =>
  sAlloc Tryd.prog 91 w fun i3 w =>
  sStore Tryd.prog 91 i3 x8 w fun w =>
  sFldA Tryd.prog 91 i3 4 w fun x9 w =>
  sLoad Tryd.prog 9 x9 w fun x10 w =>
  sBuiltin Tryd.prog .len [9] 3 [x10] w fun x11 w =>
  sBuiltin Tryd.prog .len [33] 3 [l0] w fun x13 w =>
  sFldA Tryd.prog 91 i3 2 w fun x14 w =>
  sIdxA Tryd.prog 89 x14 (.int .i64 0) w fun x15 w =>
  sStore Tryd.prog 3 x15 x11 w fun w =>
  sFldA Tryd.prog 91 i3 2 w fun x16 w =>
  sIdxA Tryd.prog 89 x16 (.int .i64 1) w fun x17 w =>
  sStore Tryd.prog 3 x17 x13 w fun w =>
  sBuiltin Tryd.prog .len [33] 3 [l0] w fun x19 w =>
  LoopS [(.int .i64 0)] 1 13 w fun us _ w Nx1 =>
    rope_pieceOf_L1 K Nx1 i3 l0 x19 x2 (hd us) w

def rope_pieceOf.sc : SC := (.seq (.reg (.op 0 .done)) (.seq (.reg (.op 0 (.op 1 (.op 2 (.op 3 (.op 4 .done)))))) (.seq (.reg (.op 0 (.op 1 (.op 2 (.op 3 (.op 4 (.op 5 (.op 6 (.op 7 (.op 8 (.op 9 (.op 10 .done)))))))))))) (.seq (.seq (.reg (.op 0 (.op 1 (.op 2 .done)))) (.sub (.loop [20] [21, 22, 23, 5, 24, 25, 26, 27, 28, 29, 30, 31, 32] (.seq (.reg (.op 0 .done)) (.seq (.cond .nop .nop) (.seq (.sub (.seq (.reg (.op 0 (.op 1 (.op 2 .done)))) (.seq (.reg (.op 0 (.op 1 .done))) (.cond (.reg (.op 0 (.op 1 (.op 2 (.op 3 (.op 4 (.op 5 (.op 6 .done)))))))) .nop)))) (.reg (.op 0 (.op 1 .done))))))))) (.seq (.reg (.op 0 (.op 1 .done))) .nop)))))

theorem rope_pieceOf.ok : okC Tryd.f47.ntmps rope_pieceOf.sc (bodyOf Tryd.f47) = true := by kernel_rfl

theorem rope_pieceOf.eq {K : K1} {l0 : Value} {w : World} : rope_pieceOf K l0 w = codeS Tryd.prog rope_pieceOf.sc (bodyOf Tryd.f47) (argsF 0 [l0]) w (retQ Tryd.prog Tryd.f47.results.toList K) := by kernel_rfl

theorem rope_pieceOf.call {K : K1} {l0 : Value} {w : World} (h : rope_pieceOf K l0 w) : sCall Tryd.prog 47 [l0] w K := sCall_code mixed Tryd.func47 (by kernel_rfl) rfl rfl rope_pieceOf.ok rope_pieceOf.eq h

abbrev rope_pieceOf.n : Nat := 47

/-- '(*bodkin rope.Rope).Breaks' -/
def rope_Rope_Breaks (K : K1) (r0 : Value) (w : World) : Prop :=
  sCall Tryd.prog 35 [r0, (.int .i64 2)] w fun x4 w =>
  K x4 w

def rope_Rope_Breaks.sc : SC := (.seq (.reg (.op 0 .done)) (.seq (.reg (.op 0 (.op 1 (.op 2 .done)))) .nop))

theorem rope_Rope_Breaks.ok : okC Tryd.f48.ntmps rope_Rope_Breaks.sc (bodyOf Tryd.f48) = true := by kernel_rfl

theorem rope_Rope_Breaks.eq {K : K1} {r0 : Value} {w : World} : rope_Rope_Breaks K r0 w = codeS Tryd.prog rope_Rope_Breaks.sc (bodyOf Tryd.f48) (argsF 0 [r0]) w (retQ Tryd.prog Tryd.f48.results.toList K) := by kernel_rfl

theorem rope_Rope_Breaks.call {K : K1} {r0 : Value} {w : World} (h : rope_Rope_Breaks K r0 w) : sCall Tryd.prog 48 [r0] w K := sCall_code mixed Tryd.func48 (by kernel_rfl) rfl rfl rope_Rope_Breaks.ok rope_Rope_Breaks.eq h

abbrev rope_Rope_Breaks.n : Nat := 48

/-- '(*bodkin rope.Rope).Slice' -/
def rope_Rope_Slice_L1 (K : K1) (Nx1 : List Value → World → Prop) (out14 x22 x35 x45 x50 : Value) (w : World) : Prop :=
  sCall Tryd.prog 76 [out14] w fun x52 w =>
  sBin Tryd.prog .add 3 false false x50 x52 w fun x53 w =>
  sBin Tryd.prog .lss 3 false false x53 x35 w fun x55 w =>
  sIf x55 (
    sCall Tryd.prog 77 [x45] w fun x58 w =>
    sExtract x58 0 w fun x59 w =>
    sExtract x58 1 w fun x60 w =>
    sAlloc Tryd.prog 91 w fun i16 w =>
    sStore Tryd.prog 91 i16 x59 w fun w =>
    sFldA Tryd.prog 91 i16 4 w fun x61 w =>
    sLoad Tryd.prog 9 x61 w fun x62 w =>
    sCall Tryd.prog 78 [out14, x62] w fun x63 w =>
    sCall Tryd.prog 79 [x45] w fun x65 w =>
    Nx1 [] w) (
    sCall Tryd.prog 76 [out14] w fun x66 w =>
    sBin Tryd.prog .eql 3 false true x66 (.int .i64 0) w fun x67 w =>
    sIf x67 (
      K (.tuple #[(.string ⟨#[]⟩), (.int .i64 0)]) w) (
      sCall Tryd.prog 80 [out14] w fun x68 w =>
      sBin Tryd.prog .sub 3 false false x22 x50 w fun x71 w =>
      sBin Tryd.prog .sub 3 false false x35 x50 w fun x74 w =>
      sSlice Tryd.prog 9 x68 (some x71) (some x74) none w fun x75 w =>
      K (.tuple #[x75, (.int .i64 0)]) w))

def rope_Rope_Slice (K : K1) (r0 from1 to2 : Value) (w : World) : Prop :=
  sCall Tryd.prog 73 [r0, from1] w fun x21 w =>
  sExtract x21 0 w fun x22 w =>
  sExtract x21 1 w fun x23 w =>
  sBin Tryd.prog .neq 24 false true x23 (.int .i64 0) w fun x25 w =>
  sIf x25 (
    K (.tuple #[(.string ⟨#[]⟩), (.int .i64 1)]) w) (
    sBin Tryd.prog .lss 3 false false to2 from1 w fun x29 w =>
    sIf x29 (
      K (.tuple #[(.string ⟨#[]⟩), (.int .i64 1)]) w) (
      sCall Tryd.prog 73 [r0, to2] w fun x34 w =>
      sExtract x34 0 w fun x35 w =>
      sExtract x34 1 w fun x36 w =>
      sBin Tryd.prog .neq 24 false true x36 (.int .i64 0) w fun x38 w =>
      sIf x38 (
        K (.tuple #[(.string ⟨#[]⟩), x36]) w) (
        sCall Tryd.prog 74 [r0, (.int .i64 1), from1, (.int .i64 1)] w fun x43 w =>
        sExtract x43 0 w fun x44 w =>
        sExtract x43 1 w fun x45 w =>
        sExtract x43 2 w fun x46 w =>
        sAlloc Tryd.prog 119 w fun x11 w =>
        sStore Tryd.prog 119 x11 x44 w fun w =>
        sAlloc Tryd.prog 140 w fun out14 w =>
        sCall Tryd.prog 75 [x45] w fun x48 w =>
        sFld Tryd.prog 114 x48 1 w fun x49 w =>
        sIdx Tryd.prog 89 x49 (.int .i64 0) w fun x50 w =>
        LoopS [] 0 17 w fun us _ w Nx1 =>
          rope_Rope_Slice_L1 K Nx1 out14 x22 x35 x45 x50 w)))

def rope_Rope_Slice.sc : SC := (.seq (.reg (.op 0 (.op 1 .done))) (.seq (.reg (.op 0 (.op 1 (.op 2 (.op 3 (.op 4 (.op 5 (.op 6 (.op 7 .done))))))))) (.seq (.seq (.reg (.op 0 (.op 1 (.op 2 (.test 2 (.skip 3 (.skip 4 (.skip 5 (.op 6 .done)))) (.op 3 (.op 4 (.op 5 (.op 6 .done))))))))) (.cond (.seq (.reg (.op 0 (.op 1 .done))) .nop) .nop)) (.seq (.reg (.op 0 (.op 1 (.op 2 (.op 3 (.op 4 (.op 5 (.op 6 (.op 7 .done))))))))) (.seq (.seq (.reg (.op 0 (.op 1 .done))) (.cond (.seq (.reg (.op 0 (.op 1 (.op 2 .done)))) .nop) .nop)) (.seq (.reg (.op 0 (.op 1 (.op 2 (.op 3 (.op 4 (.op 5 (.op 6 (.op 7 (.op 8 (.op 9 (.op 10 .done)))))))))))) (.seq (.reg (.op 0 .done)) (.seq (.reg (.op 0 (.op 1 (.op 2 (.op 3 (.op 4 .done)))))) (.seq (.sub (.loop [] [51, 52, 53, 54, 55, 57, 58, 56, 59, 60, 16, 17, 61, 62, 63, 64, 65] (.seq (.seq (.reg (.op 0 (.op 1 (.op 2 (.op 3 (.op 4 .done)))))) (.cond .nop .nop)) (.sub (.seq (.reg (.op 0 (.op 1 (.op 2 (.op 3 (.op 4 (.op 5 (.op 6 (.op 7 .done))))))))) (.seq (.reg (.op 0 (.op 1 (.op 2 .done)))) (.reg (.op 0 (.op 1 .done))))))))) (.seq (.seq (.reg (.op 0 (.op 1 .done))) (.cond (.seq (.reg (.op 0 (.op 1 .done))) .nop) .nop)) (.seq (.reg (.op 0 (.op 1 (.op 2 (.op 3 (.op 4 (.op 5 (.op 6 (.op 7 (.op 8 (.op 9 .done))))))))))) .nop)))))))))))

theorem rope_Rope_Slice.ok : okC Tryd.f49.ntmps rope_Rope_Slice.sc (bodyOf Tryd.f49) = true := by kernel_rfl

theorem rope_Rope_Slice.eq {K : K1} {r0 from1 to2 : Value} {w : World} : rope_Rope_Slice K r0 from1 to2 w = codeS Tryd.prog rope_Rope_Slice.sc (bodyOf Tryd.f49) (argsF 0 [r0, from1, to2]) w (retQ Tryd.prog Tryd.f49.results.toList K) := by kernel_rfl

theorem rope_Rope_Slice.call {K : K1} {r0 from1 to2 : Value} {w : World} (h : rope_Rope_Slice K r0 from1 to2 w) : sCall Tryd.prog 49 [r0, from1, to2] w K := sCall_code mixed Tryd.func49 (by kernel_rfl) rfl rfl rope_Rope_Slice.ok rope_Rope_Slice.eq h

abbrev rope_Rope_Slice.n : Nat := 49

/-- 'slices.IndexFunc[[]rune,rune]' -/
def slices_IndexFunc_rune_L1 (K : K1) (Nx1 : List Value → World → Prop) (f1 s0 x7 : Value) (x8 : Value) (w : World) : Prop :=
  sBin Tryd.prog .lss 3 false false x8 x7 w fun x9 w =>
  sIf x9 (
    sIdxA Tryd.prog 33 s0 x8 w fun x14 w =>
    sLoad Tryd.prog 21 x14 w fun x15 w =>
    sDyn Tryd.prog f1 [x15] w fun x16 w =>
    sIf x16 (
      K x8 w) (
      sBin Tryd.prog .add 3 false true x8 (.int .i64 1) w fun x18 w =>
      Nx1 [x18] w)) (
    K (.int .i64 (-1)) w)

def slices_IndexFunc_rune (K : K1) (s0 f1 : Value) (w : World) : Prop :=
  sBuiltin Tryd.prog .len [33] 3 [s0] w fun x7 w =>
  LoopS [(.int .i64 0)] 1 12 w fun us _ w Nx1 =>
    slices_IndexFunc_rune_L1 K Nx1 f1 s0 x7 (hd us) w

def slices_IndexFunc_rune.sc : SC := (.seq (.reg (.op 0 .done)) (.seq (.seq (.reg (.op 0 (.op 1 (.op 2 .done)))) (.sub (.loop [8] [9, 10, 5, 11, 12, 13, 14, 15, 16, 17, 4, 18] (.seq (.reg (.op 0 .done)) (.seq (.cond .nop .nop) (.seq (.sub (.seq (.reg (.op 0 (.op 1 .done))) (.seq (.reg (.op 0 (.op 1 (.op 2 (.op 3 (.op 4 (.op 5 .done))))))) (.cond (.seq (.reg (.op 0 (.op 1 .done))) .nop) .nop)))) (.reg (.op 0 (.op 1 .done))))))))) (.seq (.reg (.op 0 .done)) .nop)))

theorem slices_IndexFunc_rune.ok : okC Tryd.f50.ntmps slices_IndexFunc_rune.sc (bodyOf Tryd.f50) = true := by kernel_rfl

theorem slices_IndexFunc_rune.eq {K : K1} {s0 f1 : Value} {w : World} : slices_IndexFunc_rune K s0 f1 w = codeS Tryd.prog slices_IndexFunc_rune.sc (bodyOf Tryd.f50) (argsF 0 [s0, f1]) w (retQ Tryd.prog Tryd.f50.results.toList K) := by kernel_rfl

theorem slices_IndexFunc_rune.call {K : K1} {s0 f1 : Value} {w : World} (h : slices_IndexFunc_rune K s0 f1 w) : sCall Tryd.prog 50 [s0, f1] w K := sCall_code mixed Tryd.func50 (by kernel_rfl) rfl rfl slices_IndexFunc_rune.ok slices_IndexFunc_rune.eq h

abbrev slices_IndexFunc_rune.n : Nat := 50

/-- 'bodkin outline.indent$1' -/
def outline_indent_1 (K : K1) (r0 : Value) (w : World) : Prop :=
  sBin Tryd.prog .neq 21 false true r0 (.int .i32 32) w fun x4 w =>
  sIf x4 (
    sBin Tryd.prog .neq 21 false true r0 (.int .i32 9) w fun x7 w =>
    K x7 w) (
    K (.bool false) w)

def outline_indent_1.sc : SC := (.seq (.reg (.op 0 .done)) (.seq (.reg (.op 0 (.op 1 (.op 2 (.test 2 (.op 3 (.op 4 (.op 5 (.op 6 .done)))) (.skip 3 (.skip 4 (.op 5 (.op 6 .done))))))))) .nop))

theorem outline_indent_1.ok : okC Tryd.f51.ntmps outline_indent_1.sc (bodyOf Tryd.f51) = true := by kernel_rfl

theorem outline_indent_1.eq {K : K1} {r0 : Value} {w : World} : outline_indent_1 K r0 w = codeS Tryd.prog outline_indent_1.sc (bodyOf Tryd.f51) (argsF 0 [r0]) w (retQ Tryd.prog Tryd.f51.results.toList K) := by kernel_rfl

theorem outline_indent_1.call {K : K1} {r0 : Value} {w : World} (h : outline_indent_1 K r0 w) : sCall Tryd.prog 51 [r0] w K := sCall_code mixed Tryd.func51 (by kernel_rfl) rfl rfl outline_indent_1.ok outline_indent_1.eq h

abbrev outline_indent_1.n : Nat := 51

/-- 'bodkin stops.Cell' -/
def stops_Cell (K : K1) (t0 line1 q2 : Value) (w : World) : Prop :=
  sBox Tryd.prog 106 q2 w fun q5 w =>
  sFldA Tryd.prog 106 q5 0 w fun x9 w =>
  sLoad Tryd.prog 3 x9 w fun x10 w =>
  sCall Tryd.prog 81 [x10] w fun x11 w =>
  sUn Tryd.prog .not x11 w fun x12 w =>
  sIf x12 (
    K (.tuple #[(.int .i64 0), (.int .i64 1)]) w) (
    sFldA Tryd.prog 106 q5 1 w fun x14 w =>
    sLoad Tryd.prog 3 x14 w fun x15 w =>
    sBin Tryd.prog .lss 3 false true x15 (.int .i64 0) w fun x16 w =>
    sIf x16 (
      K (.tuple #[(.int .i64 0), (.int .i64 1)]) w) (
      sFldA Tryd.prog 106 q5 1 w fun x19 w =>
      sLoad Tryd.prog 3 x19 w fun x20 w =>
      sBuiltin Tryd.prog .len [33] 3 [line1] w fun x22 w =>
      sBin Tryd.prog .gtr 3 false false x20 x22 w fun x23 w =>
      sIf x23 (
        K (.tuple #[(.int .i64 0), (.int .i64 1)]) w) (
        sAlloc Tryd.prog 3 w fun cell8 w =>
        sStore Tryd.prog 3 cell8 (.int .i64 0) w fun w =>
        sFldA Tryd.prog 106 q5 0 w fun x27 w =>
        sLoad Tryd.prog 3 x27 w fun x28 w =>
        sFunc Tryd.prog (.func 83) [] [cell8, q5] w fun x29 w =>
        sCall Tryd.prog 82 [t0, line1, x28, x29] w fun x30 w =>
        sLoad Tryd.prog 3 cell8 w fun x31 w =>
        K (.tuple #[x31, (.int .i64 0)]) w)))

def stops_Cell.sc : SC := (.seq (.reg (.op 0 (.op 1 (.op 2 .done)))) (.seq (.seq (.reg (.op 0 (.op 1 (.op 2 (.op 3 (.op 4 (.test 4 (.skip 5 (.skip 6 (.skip 7 (.op 8 (.op 9 (.know 9 true (.skip 10 (.skip 11 (.skip 12 (.skip 13 (.skip 14 (.op 15 .done)))))))))))) (.op 5 (.op 6 (.op 7 (.op 8 (.op 9 (.test 9 (.skip 10 (.skip 11 (.skip 12 (.skip 13 (.skip 14 (.op 15 .done)))))) (.op 10 (.op 11 (.op 12 (.op 13 (.op 14 (.op 15 .done))))))))))))))))))) (.cond (.seq (.reg (.op 0 (.op 1 .done))) .nop) .nop)) (.seq (.reg (.op 0 (.op 1 .done))) (.seq (.reg (.op 0 (.op 1 (.op 2 (.op 3 (.op 4 (.op 5 .done))))))) (.seq (.reg (.op 0 (.op 1 (.op 2 .done)))) .nop)))))

theorem stops_Cell.ok : okC Tryd.f52.ntmps stops_Cell.sc (bodyOf Tryd.f52) = true := by kernel_rfl

theorem stops_Cell.eq {K : K1} {t0 line1 q2 : Value} {w : World} : stops_Cell K t0 line1 q2 w = codeS Tryd.prog stops_Cell.sc (bodyOf Tryd.f52) (argsF 0 [t0, line1, q2]) w (retQ Tryd.prog Tryd.f52.results.toList K) := by kernel_rfl

theorem stops_Cell.call {K : K1} {t0 line1 q2 : Value} {w : World} (h : stops_Cell K t0 line1 q2 w) : sCall Tryd.prog 52 [t0, line1, q2] w K := sCall_code mixed Tryd.func52 (by kernel_rfl) rfl rfl stops_Cell.ok stops_Cell.eq h

abbrev stops_Cell.n : Nat := 52

/-- 'bodkin width.Plain' -/
def width_Plain_L2 (K : K1) (Nx2 : List Value → World → Prop) (t1 x17 : Value) (x18 : Value) (w : World) : Prop :=
  sBin Tryd.prog .lss 3 false true x18 (.int .i64 8) w fun x19 w =>
  sIf x19 (
    sIdx Tryd.prog 155 x17 x18 w fun x20 w =>
    sAlloc Tryd.prog 153 w fun r5 w =>
    sStore Tryd.prog 153 r5 x20 w fun w =>
    sFldA Tryd.prog 151 t1 1 w fun x21 w =>
    sLoad Tryd.prog 149 x21 w fun x22 w =>
    sLoad Tryd.prog 153 r5 w fun x23 w =>
    sBuildSlice Tryd.prog 149 1 [(0, x23)] w fun x24 w =>
    sBuiltin Tryd.prog .append [149, 149] 149 [x22, x24] w fun x25 w =>
    sFldA Tryd.prog 151 t1 1 w fun x26 w =>
    sStore Tryd.prog 149 x26 x25 w fun w =>
    sBin Tryd.prog .add 3 false true x18 (.int .i64 1) w fun x27 w =>
    Nx2 [x27] w) (
    K t1 w)

def width_Plain_L1 (K : K1) (Nx1 : List Value → World → Prop) (t1 x6 : Value) (x7 : Value) (w : World) : Prop :=
  sBin Tryd.prog .lss 3 false true x7 (.int .i64 3) w fun x8 w =>
  sIf x8 (
    sIdx Tryd.prog 154 x6 x7 w fun x9 w =>
    sAlloc Tryd.prog 153 w fun r3 w =>
    sStore Tryd.prog 153 r3 x9 w fun w =>
    sFldA Tryd.prog 151 t1 0 w fun x10 w =>
    sLoad Tryd.prog 149 x10 w fun x11 w =>
    sLoad Tryd.prog 153 r3 w fun x12 w =>
    sBuildSlice Tryd.prog 149 1 [(0, x12)] w fun x13 w =>
    sBuiltin Tryd.prog .append [149, 149] 149 [x11, x13] w fun x14 w =>
    sFldA Tryd.prog 151 t1 0 w fun x15 w =>
    sStore Tryd.prog 149 x15 x14 w fun w =>
    sBin Tryd.prog .add 3 false true x7 (.int .i64 1) w fun x16 w =>
    Nx1 [x16] w) (
    sLoad Tryd.prog 155 (.pointer (some ⟨1, 0, none⟩)) w fun x17 w =>
    LoopS [(.int .i64 0)] 1 10 w fun us _ w Nx2 =>
      width_Plain_L2 K Nx2 t1 x17 (hd us) w)

def width_Plain (K : K1) (w : World) : Prop :=
  sAlloc Tryd.prog 151 w fun t1 w =>
  sLoad Tryd.prog 154 (.pointer (some ⟨0, 0, none⟩)) w fun x6 w =>
  LoopS [(.int .i64 0)] 1 10 w fun us _ w Nx1 =>
    width_Plain_L1 K Nx1 t1 x6 (hd us) w

def width_Plain.sc : SC := (.seq (.reg (.op 0 .done)) (.seq (.reg (.op 0 .done)) (.seq (.seq (.reg (.op 0 (.op 1 .done))) (.sub (.loop [7] [8, 9, 3, 10, 11, 12, 13, 14, 15, 16] (.seq (.reg (.op 0 .done)) (.seq (.cond .nop .nop) (.seq (.sub (.seq (.reg (.op 0 (.op 1 (.op 2 .done)))) (.reg (.op 0 (.op 1 (.op 2 (.op 3 (.op 4 (.op 5 (.op 6 .done)))))))))) (.reg (.op 0 (.op 1 .done))))))))) (.seq (.seq (.reg (.op 0 (.op 1 .done))) (.sub (.loop [18] [19, 20, 5, 21, 22, 23, 24, 25, 26, 27] (.seq (.reg (.op 0 .done)) (.seq (.cond .nop .nop) (.seq (.sub (.seq (.reg (.op 0 (.op 1 (.op 2 .done)))) (.reg (.op 0 (.op 1 (.op 2 (.op 3 (.op 4 (.op 5 (.op 6 .done)))))))))) (.reg (.op 0 (.op 1 .done))))))))) (.seq (.reg (.op 0 .done)) .nop)))))

theorem width_Plain.ok : okC Tryd.f53.ntmps width_Plain.sc (bodyOf Tryd.f53) = true := by kernel_rfl

theorem width_Plain.eq {K : K1} {w : World} : width_Plain K  w = codeS Tryd.prog width_Plain.sc (bodyOf Tryd.f53) (argsF 0 []) w (retQ Tryd.prog Tryd.f53.results.toList K) := by kernel_rfl

theorem width_Plain.call {K : K1} {w : World} (h : width_Plain K  w) : sCall Tryd.prog 53 [] w K := sCall_code mixed Tryd.func53 (by kernel_rfl) rfl rfl width_Plain.ok width_Plain.eq h

abbrev width_Plain.n : Nat := 53

/-- 'bodkin bodkinref17.Cells' -/
def bodkinref17_Cells_L1 (K : K1) (Nx1 : List Value → World → Prop) (x14 x15 : Value) (out7 x16 : Value) (w : World) : Prop :=
  sBin Tryd.prog .lss 3 false false x16 x15 w fun x17 w =>
  sIf x17 (
    sIdxA Tryd.prog 27 x14 x16 w fun x19 w =>
    sLoad Tryd.prog 3 x19 w fun x20 w =>
    sIdxA Tryd.prog 27 out7 x16 w fun x24 w =>
    sLoad Tryd.prog 3 x24 w fun x25 w =>
    sBin Tryd.prog .add 3 false false x25 x20 w fun x27 w =>
    sBuildSlice Tryd.prog 27 1 [(0, x27)] w fun x28 w =>
    sBuiltin Tryd.prog .append [27, 27] 27 [out7, x28] w fun x29 w =>
    sBin Tryd.prog .add 3 false true x16 (.int .i64 1) w fun x30 w =>
    Nx1 [x29, x30] w) (
    K out7 w)

def bodkinref17_Cells (K : K1) (t0 line1 tab2 : Value) (w : World) : Prop :=
  sBuildSlice Tryd.prog 27 1 [(0, (.int .i64 0))] w fun x10 w =>
  sCall Tryd.prog 84 [t0, line1, tab2] w fun x14 w =>
  sBuiltin Tryd.prog .len [27] 3 [x14] w fun x15 w =>
  LoopS [x10, (.int .i64 0)] 2 16 w fun us _ w Nx1 =>
    bodkinref17_Cells_L1 K Nx1 x14 x15 (hd us) (hd (tl us)) w

def bodkinref17_Cells.sc : SC := (.seq (.reg (.op 0 .done)) (.seq (.reg (.op 0 (.op 1 .done))) (.seq (.seq (.reg (.op 0 (.op 1 (.op 2 (.op 3 (.op 4 (.op 5 .done))))))) (.sub (.loop [7, 16] [17, 18, 19, 20, 8, 9, 21, 22, 23, 24, 25, 26, 27, 28, 29, 30] (.seq (.reg (.op 0 .done)) (.seq (.cond .nop .nop) (.seq (.sub (.seq (.reg (.op 0 (.op 1 (.op 2 (.op 3 (.op 4 .done)))))) (.reg (.op 0 (.op 1 (.op 2 (.op 3 (.op 4 (.op 5 (.op 6 (.op 7 (.op 8 (.op 9 .done))))))))))))) (.reg (.op 0 (.op 1 .done))))))))) (.seq (.reg (.op 0 (.op 1 .done))) .nop))))

theorem bodkinref17_Cells.ok : okC Tryd.f54.ntmps bodkinref17_Cells.sc (bodyOf Tryd.f54) = true := by kernel_rfl

theorem bodkinref17_Cells.eq {K : K1} {t0 line1 tab2 : Value} {w : World} : bodkinref17_Cells K t0 line1 tab2 w = codeS Tryd.prog bodkinref17_Cells.sc (bodyOf Tryd.f54) (argsF 0 [t0, line1, tab2]) w (retQ Tryd.prog Tryd.f54.results.toList K) := by kernel_rfl

theorem bodkinref17_Cells.call {K : K1} {t0 line1 tab2 : Value} {w : World} (h : bodkinref17_Cells K t0 line1 tab2 w) : sCall Tryd.prog 54 [t0, line1, tab2] w K := sCall_code mixed Tryd.func54 (by kernel_rfl) rfl rfl bodkinref17_Cells.ok bodkinref17_Cells.eq h

abbrev bodkinref17_Cells.n : Nat := 54

/-- 'bodkin bodkinref02.Plain' -/
def bodkinref02_Plain (K : K1) (w : World) : Prop :=
  sBuild Tryd.prog 156 [(0, (.int .i32 768)), (1, (.int .i32 879))] w fun x1 w =>
  sBuild Tryd.prog 156 [(0, (.int .i32 8203)), (1, (.int .i32 8207))] w fun x2 w =>
  sBuild Tryd.prog 156 [(0, (.int .i32 65024)), (1, (.int .i32 65039))] w fun x3 w =>
  sBuildSlice Tryd.prog 157 3 [(0, x1), (1, x2), (2, x3)] w fun x4 w =>
  sBuild Tryd.prog 156 [(0, (.int .i32 4352)), (1, (.int .i32 4447))] w fun x5 w =>
  sBuild Tryd.prog 156 [(0, (.int .i32 11904)), (1, (.int .i32 12350))] w fun x6 w =>
  sBuild Tryd.prog 156 [(0, (.int .i32 12353)), (1, (.int .i32 19903))] w fun x7 w =>
  sBuild Tryd.prog 156 [(0, (.int .i32 19968)), (1, (.int .i32 40959))] w fun x8 w =>
  sBuild Tryd.prog 156 [(0, (.int .i32 44032)), (1, (.int .i32 55203))] w fun x9 w =>
  sBuild Tryd.prog 156 [(0, (.int .i32 63744)), (1, (.int .i32 64255))] w fun x10 w =>
  sBuild Tryd.prog 156 [(0, (.int .i32 65280)), (1, (.int .i32 65376))] w fun x11 w =>
  sBuild Tryd.prog 156 [(0, (.int .i32 127744)), (1, (.int .i32 128591))] w fun x12 w =>
  sBuildSlice Tryd.prog 157 8 [(0, x5), (1, x6), (2, x7), (3, x8), (4, x9), (5, x10), (6, x11), (7, x12)] w fun x13 w =>
  sBuild Tryd.prog 159 [(0, x4), (1, x13)] w fun x14 w =>
  sBox Tryd.prog 159 x14 w fun x15 w =>
  K x15 w

def bodkinref02_Plain.sc : SC := (.seq (.reg (.op 0 .done)) (.seq (.reg (.op 0 (.op 1 (.op 2 (.op 3 (.op 4 (.op 5 (.op 6 (.op 7 (.op 8 (.op 9 (.op 10 (.op 11 (.op 12 (.op 13 (.op 14 (.op 15 .done))))))))))))))))) .nop))

theorem bodkinref02_Plain.ok : okC Tryd.f55.ntmps bodkinref02_Plain.sc (bodyOf Tryd.f55) = true := by kernel_rfl

theorem bodkinref02_Plain.eq {K : K1} {w : World} : bodkinref02_Plain K  w = codeS Tryd.prog bodkinref02_Plain.sc (bodyOf Tryd.f55) (argsF 0 []) w (retQ Tryd.prog Tryd.f55.results.toList K) := by kernel_rfl

theorem bodkinref02_Plain.call {K : K1} {w : World} (h : bodkinref02_Plain K  w) : sCall Tryd.prog 55 [] w K := sCall_code mixed Tryd.func55 (by kernel_rfl) rfl rfl bodkinref02_Plain.ok bodkinref02_Plain.eq h

abbrev bodkinref02_Plain.n : Nat := 55

/-- 'bodkin bodkinref01.number' -/
def bodkinref01_number_L2 (K : K1) (Nx2 : List Value → World → Prop) (s0 : Value) (first3_1 i4 : Value) (w : World) : Prop :=
  sBuiltin Tryd.prog .len [9] 3 [s0] w fun x25 w =>
  sBin Tryd.prog .lss 3 false false i4 x25 w fun x26 w =>
  sIf x26 (
    sBin Tryd.prog .mul 21 true false (.int .i32 64) first3_1 w fun x30 w =>
    sIdx Tryd.prog 9 s0 i4 w fun x33 w =>
    sConv Tryd.prog 5 21 x33 w fun x34 w =>
    sBin Tryd.prog .add 21 false false x30 x34 w fun x35 w =>
    sBin Tryd.prog .sub 21 false true x35 (.int .i32 128) w fun x36 w =>
    sBin Tryd.prog .add 3 false true i4 (.int .i64 1) w fun x28 w =>
    Nx2 [x36, x28] w) (
    K first3_1 w)

def bodkinref01_number_J1 (K : K1) (s0 : Value) (first3 : Value) (w : World) : Prop :=
  LoopS [first3, (.int .i64 1)] 2 14 w fun us _ w Nx2 =>
    bodkinref01_number_L2 K Nx2 s0 (hd us) (hd (tl us)) w

def bodkinref01_number (K : K1) (s0 : Value) (w : World) : Prop :=
  sIdx Tryd.prog 9 s0 (.int .i64 0) w fun x6 w =>
  sConv Tryd.prog 5 21 x6 w fun x7 w =>
  JoinS 1 16 (fun M1 =>
    sBuiltin Tryd.prog .len [9] 3 [s0] w fun x9 w =>
    sBin Tryd.prog .eql 3 false true x9 (.int .i64 1) w fun x13 w =>
    sIf x13 (
      K x7 w) (
      sBin Tryd.prog .eql 3 false true x9 (.int .i64 2) w fun x16 w =>
      sIf x16 (
        sBin Tryd.prog .sub 21 false true x7 (.int .i32 192) w fun x18 w =>
        M1 [x18] w) (
        sBin Tryd.prog .eql 3 false true x9 (.int .i64 3) w fun x20 w =>
        sIf x20 (
          sBin Tryd.prog .sub 21 false true x7 (.int .i32 224) w fun x22 w =>
          M1 [x22] w) (
          sBin Tryd.prog .sub 21 false true x7 (.int .i32 240) w fun x11 w =>
          M1 [x11] w)))) fun us _ w =>
    bodkinref01_number_J1 K s0 (hd us) w

def bodkinref01_number.sc : SC := (.seq (.reg (.op 0 .done)) (.seq (.reg (.op 0 (.op 1 (.op 2 (.op 3 .done))))) (.join [3] [8, 9, 13, 12, 14, 2, 16, 15, 17, 18, 20, 19, 21, 22, 10, 11] (.seq (.reg (.op 0 (.op 1 .done))) (.sub (.seq (.reg (.op 0 (.op 1 .done))) (.cond (.seq (.reg (.op 0 (.op 1 .done))) .nop) (.seq (.reg (.op 0 (.op 1 .done))) (.cond (.reg (.op 0 (.op 1 (.op 2 .done)))) (.seq (.reg (.op 0 (.op 1 .done))) (.cond (.reg (.op 0 (.op 1 (.op 2 .done)))) (.reg (.op 0 (.op 1 (.op 2 .done)))))))))))) (.seq (.seq (.reg (.op 0 .done)) (.sub (.loop [3, 4] [23, 24, 25, 26, 29, 30, 31, 32, 33, 34, 35, 36, 27, 28] (.seq (.seq (.reg (.op 0 (.op 1 (.op 2 (.op 3 .done))))) (.cond .nop .nop)) (.seq (.sub (.reg (.op 0 (.op 1 (.op 2 (.op 3 (.op 4 (.op 5 (.op 6 (.op 7 (.op 8 .done))))))))))) (.reg (.op 0 (.op 1 (.op 2 .done))))))))) (.seq (.reg (.op 0 (.op 1 .done))) .nop)))))

theorem bodkinref01_number.ok : okC Tryd.f56.ntmps bodkinref01_number.sc (bodyOf Tryd.f56) = true := by kernel_rfl

theorem bodkinref01_number.eq {K : K1} {s0 : Value} {w : World} : bodkinref01_number K s0 w = codeS Tryd.prog bodkinref01_number.sc (bodyOf Tryd.f56) (argsF 0 [s0]) w (retQ Tryd.prog Tryd.f56.results.toList K) := by kernel_rfl

theorem bodkinref01_number.call {K : K1} {s0 : Value} {w : World} (h : bodkinref01_number K s0 w) : sCall Tryd.prog 56 [s0] w K := sCall_code mixed Tryd.func56 (by kernel_rfl) rfl rfl bodkinref01_number.ok bodkinref01_number.eq h

abbrev bodkinref01_number.n : Nat := 56

/-- 'bodkin bodkinref01.size' -/
def bodkinref01_size_J1 (K : K1) (r0 : Value) (w : World) : Prop :=
  sBin Tryd.prog .lss 21 false true r0 (.int .i32 128) w fun x18 w =>
  sIf x18 (
    K (.int .i64 1) w) (
    sBin Tryd.prog .lss 21 false true r0 (.int .i32 2048) w fun x20 w =>
    sIf x20 (
      K (.int .i64 2) w) (
      sBin Tryd.prog .lss 21 false true r0 (.int .i32 65536) w fun x22 w =>
      sIf x22 (
        K (.int .i64 3) w) (
        K (.int .i64 4) w)))

def bodkinref01_size (K : K1) (r0 : Value) (w : World) : Prop :=
  JoinS 0 15 (fun M1 =>
    sBin Tryd.prog .lss 21 false true r0 (.int .i32 0) w fun x4 w =>
    sIf x4 (
      K (.int .i64 0) w) (
      sBin Tryd.prog .gtr 21 false true r0 (.int .i32 1114111) w fun x7 w =>
      sIf x7 (
        K (.int .i64 0) w) (
        sBin Tryd.prog .geq 21 false true r0 (.int .i32 55296) w fun x11 w =>
        sIf x11 (
          sBin Tryd.prog .leq 21 false true r0 (.int .i32 57343) w fun x14 w =>
          sIf x14 (
            K (.int .i64 0) w) (
            M1 [] w)) (
          M1 [] w)))) fun us _ w =>
    bodkinref01_size_J1 K r0 w

def bodkinref01_size.sc : SC := (.seq (.reg (.op 0 .done)) (.join [] [3, 4, 5, 6, 7, 8, 9, 10, 11, 12, 13, 14, 15, 16, 2] (.seq (.reg (.op 0 (.op 1 (.op 2 (.test 2 (.skip 3 (.skip 4 (.op 5 (.op 6 (.know 6 true (.skip 7 (.skip 8 (.skip 9 (.skip 10 (.skip 11 (.skip 12 (.op 13 .done)))))))))))) (.op 3 (.op 4 (.op 5 (.op 6 (.test 6 (.skip 7 (.skip 8 (.skip 9 (.skip 10 (.skip 11 (.skip 12 (.op 13 .done))))))) (.op 7 (.op 8 (.op 9 (.test 9 (.op 10 (.op 11 (.op 12 (.op 13 .done)))) (.skip 10 (.skip 11 (.op 12 (.op 13 .done)))))))))))))))))) (.cond (.seq (.reg (.op 0 .done)) .nop) .nop)) (.seq (.seq (.reg (.op 0 (.op 1 .done))) (.cond (.seq (.reg (.op 0 .done)) .nop) .nop)) (.seq (.seq (.reg (.op 0 (.op 1 .done))) (.cond (.seq (.reg (.op 0 .done)) .nop) .nop)) (.seq (.seq (.reg (.op 0 (.op 1 .done))) (.cond (.seq (.reg (.op 0 .done)) .nop) .nop)) (.seq (.reg (.op 0 .done)) .nop))))))

theorem bodkinref01_size.ok : okC Tryd.f57.ntmps bodkinref01_size.sc (bodyOf Tryd.f57) = true := by kernel_rfl

theorem bodkinref01_size.eq {K : K1} {r0 : Value} {w : World} : bodkinref01_size K r0 w = codeS Tryd.prog bodkinref01_size.sc (bodyOf Tryd.f57) (argsF 0 [r0]) w (retQ Tryd.prog Tryd.f57.results.toList K) := by kernel_rfl

theorem bodkinref01_size.call {K : K1} {r0 : Value} {w : World} (h : bodkinref01_size K r0 w) : sCall Tryd.prog 57 [r0] w K := sCall_code mixed Tryd.func57 (by kernel_rfl) rfl rfl bodkinref01_size.ok bodkinref01_size.eq h

abbrev bodkinref01_size.n : Nat := 57

/-- 'bodkin bodkinref01.one' -/
def bodkinref01_one (K : K1) (r0 n1 : Value) (w : World) : Prop :=
  sBin Tryd.prog .eql 3 false true n1 (.int .i64 1) w fun x7 w =>
  sIf x7 (
    sConv Tryd.prog 21 5 r0 w fun x9 w =>
    sBuildSlice Tryd.prog 138 1 [(0, x9)] w fun x10 w =>
    sConv Tryd.prog 138 9 x10 w fun x11 w =>
    K x11 w) (
    sBin Tryd.prog .eql 3 false true n1 (.int .i64 2) w fun x13 w =>
    sIf x13 (
      sBin Tryd.prog .quo 21 false true r0 (.int .i32 64) w fun x15 w =>
      sBin Tryd.prog .add 21 true false (.int .i32 192) x15 w fun x16 w =>
      sConv Tryd.prog 21 5 x16 w fun x17 w =>
      sBin Tryd.prog .rem 21 false true r0 (.int .i32 64) w fun x19 w =>
      sBin Tryd.prog .add 21 true false (.int .i32 128) x19 w fun x20 w =>
      sConv Tryd.prog 21 5 x20 w fun x21 w =>
      sBuildSlice Tryd.prog 138 2 [(0, x17), (1, x21)] w fun x22 w =>
      sConv Tryd.prog 138 9 x22 w fun x23 w =>
      K x23 w) (
      sBin Tryd.prog .eql 3 false true n1 (.int .i64 3) w fun x25 w =>
      sIf x25 (
        sBin Tryd.prog .quo 21 false true r0 (.int .i32 4096) w fun x27 w =>
        sBin Tryd.prog .add 21 true false (.int .i32 224) x27 w fun x28 w =>
        sConv Tryd.prog 21 5 x28 w fun x29 w =>
        sBin Tryd.prog .quo 21 false true r0 (.int .i32 64) w fun x31 w =>
        sBin Tryd.prog .rem 21 false true x31 (.int .i32 64) w fun x32 w =>
        sBin Tryd.prog .add 21 true false (.int .i32 128) x32 w fun x33 w =>
        sConv Tryd.prog 21 5 x33 w fun x34 w =>
        sBin Tryd.prog .rem 21 false true r0 (.int .i32 64) w fun x36 w =>
        sBin Tryd.prog .add 21 true false (.int .i32 128) x36 w fun x37 w =>
        sConv Tryd.prog 21 5 x37 w fun x38 w =>
        sBuildSlice Tryd.prog 138 3 [(0, x29), (1, x34), (2, x38)] w fun x39 w =>
        sConv Tryd.prog 138 9 x39 w fun x40 w =>
        K x40 w) (
        sBin Tryd.prog .quo 21 false true r0 (.int .i32 262144) w fun x42 w =>
        sBin Tryd.prog .add 21 true false (.int .i32 240) x42 w fun x43 w =>
        sConv Tryd.prog 21 5 x43 w fun x44 w =>
        sBin Tryd.prog .quo 21 false true r0 (.int .i32 4096) w fun x46 w =>
        sBin Tryd.prog .rem 21 false true x46 (.int .i32 64) w fun x47 w =>
        sBin Tryd.prog .add 21 true false (.int .i32 128) x47 w fun x48 w =>
        sConv Tryd.prog 21 5 x48 w fun x49 w =>
        sBin Tryd.prog .quo 21 false true r0 (.int .i32 64) w fun x51 w =>
        sBin Tryd.prog .rem 21 false true x51 (.int .i32 64) w fun x52 w =>
        sBin Tryd.prog .add 21 true false (.int .i32 128) x52 w fun x53 w =>
        sConv Tryd.prog 21 5 x53 w fun x54 w =>
        sBin Tryd.prog .rem 21 false true r0 (.int .i32 64) w fun x56 w =>
        sBin Tryd.prog .add 21 true false (.int .i32 128) x56 w fun x57 w =>
        sConv Tryd.prog 21 5 x57 w fun x58 w =>
        sBuildSlice Tryd.prog 138 4 [(0, x44), (1, x49), (2, x54), (3, x58)] w fun x59 w =>
        sConv Tryd.prog 138 9 x59 w fun x60 w =>
        K x60 w)))

def bodkinref01_one.sc : SC := (.seq (.reg (.op 0 .done)) (.seq (.seq (.reg (.op 0 .done)) (.sub (.seq (.reg (.op 0 (.op 1 .done))) (.cond (.seq (.reg (.op 0 (.op 1 (.op 2 (.op 3 (.op 4 .done)))))) .nop) (.seq (.reg (.op 0 (.op 1 .done))) (.cond (.seq (.reg (.op 0 (.op 1 (.op 2 (.op 3 (.op 4 (.op 5 (.op 6 (.op 7 (.op 8 (.op 9 (.op 10 .done)))))))))))) .nop) (.seq (.reg (.op 0 (.op 1 .done))) (.cond (.seq (.reg (.op 0 (.op 1 (.op 2 (.op 3 (.op 4 (.op 5 (.op 6 (.op 7 (.op 8 (.op 9 (.op 10 (.op 11 (.op 12 (.op 13 (.op 14 (.op 15 .done))))))))))))))))) .nop) .nop)))))))) (.seq (.reg (.op 0 (.op 1 (.op 2 (.op 3 (.op 4 (.op 5 (.op 6 (.op 7 (.op 8 (.op 9 (.op 10 (.op 11 (.op 12 (.op 13 (.op 14 (.op 15 (.op 16 (.op 17 (.op 18 (.op 19 (.op 20 .done)))))))))))))))))))))) .nop)))

theorem bodkinref01_one.ok : okC Tryd.f58.ntmps bodkinref01_one.sc (bodyOf Tryd.f58) = true := by kernel_rfl

theorem bodkinref01_one.eq {K : K1} {r0 n1 : Value} {w : World} : bodkinref01_one K r0 n1 w = codeS Tryd.prog bodkinref01_one.sc (bodyOf Tryd.f58) (argsF 0 [r0, n1]) w (retQ Tryd.prog Tryd.f58.results.toList K) := by kernel_rfl

theorem bodkinref01_one.call {K : K1} {r0 n1 : Value} {w : World} (h : bodkinref01_one K r0 n1 w) : sCall Tryd.prog 58 [r0, n1] w K := sCall_code mixed Tryd.func58 (by kernel_rfl) rfl rfl bodkinref01_one.ok bodkinref01_one.eq h

abbrev bodkinref01_one.n : Nat := 58

/-- 'bodkin lines.Span$1' -/
def lines_Span_1 (K : K1) (k0 x1 : Value) (w : World) : Prop :=
  sLoad Tryd.prog 23 x1 w fun x7 w =>
  sCall Tryd.prog 60 [x7, k0] w fun x9 w =>
  sExtract x9 0 w fun x10 w =>
  sExtract x9 1 w fun x11 w =>
  K x10 w

def lines_Span_1.sc : SC := (.seq (.reg (.op 0 .done)) (.seq (.reg (.op 0 (.op 1 (.op 2 (.op 3 (.op 4 (.op 5 (.op 6 (.op 7 .done))))))))) (.seq (.reg (.op 0 (.op 1 .done))) .nop)))

theorem lines_Span_1.ok : okC Tryd.f59.ntmps lines_Span_1.sc (bodyOf Tryd.f59) = true := by kernel_rfl

theorem lines_Span_1.eq {K : K1} {k0 x1 : Value} {w : World} : lines_Span_1 K k0 x1 w = codeS Tryd.prog lines_Span_1.sc (bodyOf Tryd.f59) (argsF 0 [k0, x1]) w (retQ Tryd.prog Tryd.f59.results.toList K) := by kernel_rfl

theorem lines_Span_1.call {K : K1} {k0 x1 : Value} {w : World} (h : lines_Span_1 K k0 x1 w) : sCall Tryd.prog 59 [k0, x1] w K := sCall_code mixed Tryd.func59 (by kernel_rfl) rfl rfl lines_Span_1.ok lines_Span_1.eq h

abbrev lines_Span_1.n : Nat := 59

/-- '(*bodkin rope.Rope).Behind' -/
def rope_Rope_Behind_J3 (M1 : List Value → World → Prop) (Nx2 : List Value → World → Prop) (k1 x41 : Value) (seen10_1 : Value) (w : World) : Prop :=
  sBin Tryd.prog .eql 3 false false seen10_1 k1 w fun x48 w =>
  sIf x48 (
    M1 [x41] w) (
    Nx2 [x41, seen10_1] w)

def rope_Rope_Behind_L2 (M1 : List Value → World → Prop) (Nx2 : List Value → World → Prop) (k1 x36 : Value) (n9 seen10 : Value) (w : World) : Prop :=
  sNext Tryd.prog x36 true 0 w fun x37 w =>
  sExtract x37 0 w fun x38 w =>
  sIf x38 (
    sExtract x37 2 w fun x39 w =>
    sBin Tryd.prog .add 3 false true n9 (.int .i64 1) w fun x41 w =>
    JoinS 1 4 (fun M3 =>
      sBin Tryd.prog .eql 21 false true x39 (.int .i32 10) w fun x43 w =>
      sIf x43 (
        sBin Tryd.prog .add 3 false true seen10 (.int .i64 1) w fun x45 w =>
        M3 [x45] w) (
        M3 [seen10] w)) fun us _ w =>
      rope_Rope_Behind_J3 M1 Nx2 k1 x41 (hd us) w) (
    M1 [n9] w)

def rope_Rope_Behind_J1 (K : K1) (n9_1 : Value) (w : World) : Prop :=
  K (.tuple #[n9_1, (.int .i64 0)]) w

def rope_Rope_Behind (K : K1) (r0 k1 : Value) (w : World) : Prop :=
  sBin Tryd.prog .eql 3 false true k1 (.int .i64 0) w fun x14 w =>
  sIf x14 (
    K (.tuple #[(.int .i64 0), (.int .i64 0)]) w) (
    sCall Tryd.prog 74 [r0, (.int .i64 2), k1, (.int .i64 0)] w fun x18 w =>
    sExtract x18 0 w fun x19 w =>
    sExtract x18 1 w fun x20 w =>
    sExtract x18 2 w fun x21 w =>
    sAlloc Tryd.prog 119 w fun s6 w =>
    sStore Tryd.prog 119 s6 x19 w fun w =>
    sBin Tryd.prog .neq 24 false true x21 (.int .i64 0) w fun x23 w =>
    sIf x23 (
      K (.tuple #[(.int .i64 0), x21]) w) (
      DrawS w fun C w =>
      stillS C w (fun w k => sFldA Tryd.prog 119 s6 0 w k) fun x25 =>
      stillS C w (fun w k => sFldA Tryd.prog 114 x25 1 w k) fun x26 =>
      stillS C w (fun w k => sIdxA Tryd.prog 89 x26 (.int .i64 1) w k) fun x27 =>
      stillS C w (fun w k => sLoad Tryd.prog 3 x27 w k) fun x28 =>
      stillS C w (fun w k => sFldA Tryd.prog 119 s6 0 w k) fun x29 =>
      stillS C w (fun w k => sFldA Tryd.prog 114 x29 1 w k) fun x30 =>
      stillS C w (fun w k => sIdxA Tryd.prog 89 x30 (.int .i64 2) w k) fun x31 =>
      stillS C w (fun w k => sLoad Tryd.prog 3 x31 w k) fun x32 =>
      JoinS 1 18 (fun M1 =>
        sFldA Tryd.prog 119 s6 1 w fun x33 w =>
        sFldA Tryd.prog 91 x33 4 w fun x34 w =>
        sLoad Tryd.prog 9 x34 w fun x35 w =>
        sRange Tryd.prog 9 x35 w fun x36 w =>
        LoopS [x28, x32] 2 13 w fun us _ w Nx2 =>
          rope_Rope_Behind_L2 M1 Nx2 k1 x36 (hd us) (hd (tl us)) w) fun us _ w =>
        rope_Rope_Behind_J1 K (hd us) w))

def rope_Rope_Behind.sc : SC := (.seq (.reg (.op 0 (.op 1 .done))) (.seq (.seq (.reg (.op 0 (.op 1 .done))) (.cond (.seq (.reg (.op 0 (.op 1 .done))) .nop) .nop)) (.seq (.reg (.op 0 (.op 1 (.op 2 (.op 3 (.op 4 (.op 5 (.op 6 (.op 7 (.op 8 (.op 9 (.op 10 .done)))))))))))) (.seq (.seq (.reg (.op 0 (.op 1 .done))) (.cond (.seq (.reg (.op 0 (.op 1 (.op 2 .done)))) .nop) .nop)) (.seq (.draw (.op 0 (.op 1 (.op 2 (.op 3 (.op 4 (.op 5 (.op 6 (.op 7 (.op 8 (.op 9 .done))))))))))) (.join [9] [33, 34, 35, 36, 37, 38, 39, 12, 40, 41, 42, 43, 44, 45, 10, 46, 47, 48] (.seq (.reg (.op 0 (.op 1 (.op 2 (.op 3 .done))))) (.sub (.loop [9, 10] [37, 38, 39, 12, 40, 41, 42, 43, 44, 45, 46, 47, 48] (.seq (.reg (.op 0 (.op 1 .done))) (.seq (.cond .nop .nop) (.sub (.seq (.reg (.op 0 (.op 1 .done))) (.seq (.reg (.op 0 (.op 1 (.op 2 .done)))) (.join [10] [42, 43, 44, 45] (.seq (.reg (.op 0 (.op 1 .done))) (.cond (.reg (.op 0 (.op 1 (.op 2 .done)))) .nop)) (.seq (.reg (.op 0 (.op 1 (.op 2 .done)))) (.cond .nop .nop))))))))))) (.seq (.reg (.op 0 (.op 1 (.op 2 .done)))) .nop)))))))

theorem rope_Rope_Behind.ok : okC Tryd.f60.ntmps rope_Rope_Behind.sc (bodyOf Tryd.f60) = true := by kernel_rfl

theorem rope_Rope_Behind.eq {K : K1} {r0 k1 : Value} {w : World} : rope_Rope_Behind K r0 k1 w = codeS Tryd.prog rope_Rope_Behind.sc (bodyOf Tryd.f60) (argsF 0 [r0, k1]) w (retQ Tryd.prog Tryd.f60.results.toList K) := by kernel_rfl

theorem rope_Rope_Behind.call {K : K1} {r0 k1 : Value} {w : World} (h : rope_Rope_Behind K r0 k1 w) : sCall Tryd.prog 60 [r0, k1] w K := sCall_code mixed Tryd.func60 (by kernel_rfl) rfl rfl rope_Rope_Behind.ok rope_Rope_Behind.eq h

abbrev rope_Rope_Behind.n : Nat := 60

/-- '(*bodkin rope.Rope).tree' -/
def rope_Rope_tree (K : K1) (r0 : Value) (w : World) : Prop :=
  sBin Tryd.prog .eql 23 false true r0 (.pointer none) w fun x4 w =>
  sIf x4 (
    K (.pointer none) w) (
    sNil r0 w fun x6 w =>
    sFldA Tryd.prog 66 x6 0 w fun x7 w =>
    sLoad Tryd.prog 60 x7 w fun x8 w =>
    K x8 w)

def rope_Rope_tree.sc : SC := (.seq (.reg (.op 0 .done)) (.seq (.seq (.reg (.op 0 (.op 1 .done))) (.cond (.seq (.reg (.op 0 .done)) .nop) .nop)) (.seq (.reg (.op 0 (.op 1 (.op 2 (.op 3 (.op 4 .done)))))) .nop)))

theorem rope_Rope_tree.ok : okC Tryd.f61.ntmps rope_Rope_tree.sc (bodyOf Tryd.f61) = true := by kernel_rfl

theorem rope_Rope_tree.eq {K : K1} {r0 : Value} {w : World} : rope_Rope_tree K r0 w = codeS Tryd.prog rope_Rope_tree.sc (bodyOf Tryd.f61) (argsF 0 [r0]) w (retQ Tryd.prog Tryd.f61.results.toList K) := by kernel_rfl

theorem rope_Rope_tree.call {K : K1} {r0 : Value} {w : World} (h : rope_Rope_tree K r0 w) : sCall Tryd.prog 61 [r0] w K := sCall_code mixed Tryd.func61 (by kernel_rfl) rfl rfl rope_Rope_tree.ok rope_Rope_tree.eq h

abbrev rope_Rope_tree.n : Nat := 61

/-- '(*bodkin tree.Tree).Sum' -/
def tree_Tree_Sum (K : K1) (t0 : Value) (w : World) : Prop :=
  sAlloc Tryd.prog 114 w fun x2 w =>
  sCall Tryd.prog 86 [t0] w fun x4 w =>
  sCall Tryd.prog 85 [x4] w fun x5 w =>
  sStore Tryd.prog 114 x2 x5 w fun w =>
  sLoad Tryd.prog 114 x2 w fun v w' => w' = w ∧ K v w

def tree_Tree_Sum.sc : SC := (.seq (.reg (.op 0 .done)) (.seq (.reg (.op 0 (.op 1 (.op 2 (.op 3 .done))))) .nop))

theorem tree_Tree_Sum.ok : okC Tryd.f62.ntmps tree_Tree_Sum.sc (bodyOf Tryd.f62) = true := by kernel_rfl

theorem tree_Tree_Sum.eq {K : K1} {t0 : Value} {w : World} : tree_Tree_Sum K t0 w = codeS Tryd.prog tree_Tree_Sum.sc (bodyOf Tryd.f62) (argsF 0 [t0]) w (retQ Tryd.prog Tryd.f62.results.toList K) := by kernel_rfl

theorem tree_Tree_Sum.call {K : K1} {t0 : Value} {w : World} (h : tree_Tree_Sum K t0 w) : sCall Tryd.prog 62 [t0] w K := sCall_code mixed Tryd.func62 (by kernel_rfl) rfl rfl tree_Tree_Sum.ok tree_Tree_Sum.eq h

abbrev tree_Tree_Sum.n : Nat := 62

/-- 'slices.IndexFunc[[]bodkin outline.Range,bodkin outline.Range]' -/
def slices_IndexFunc_outline_Range_L1 (K : K1) (Nx1 : List Value → World → Prop) (f1 s0 x7 : Value) (x8 : Value) (w : World) : Prop :=
  sBin Tryd.prog .lss 3 false false x8 x7 w fun x9 w =>
  sIf x9 (
    sIdxA Tryd.prog 36 s0 x8 w fun x14 w =>
    sLoad Tryd.prog 42 x14 w fun x15 w =>
    sDyn Tryd.prog f1 [x15] w fun x16 w =>
    sIf x16 (
      K x8 w) (
      sBin Tryd.prog .add 3 false true x8 (.int .i64 1) w fun x18 w =>
      Nx1 [x18] w)) (
    K (.int .i64 (-1)) w)

def slices_IndexFunc_outline_Range (K : K1) (s0 f1 : Value) (w : World) : Prop :=
  sBuiltin Tryd.prog .len [36] 3 [s0] w fun x7 w =>
  LoopS [(.int .i64 0)] 1 12 w fun us _ w Nx1 =>
    slices_IndexFunc_outline_Range_L1 K Nx1 f1 s0 x7 (hd us) w

def slices_IndexFunc_outline_Range.sc : SC := (.seq (.reg (.op 0 .done)) (.seq (.seq (.reg (.op 0 (.op 1 (.op 2 .done)))) (.sub (.loop [8] [9, 10, 5, 11, 12, 13, 14, 15, 16, 17, 4, 18] (.seq (.reg (.op 0 .done)) (.seq (.cond .nop .nop) (.seq (.sub (.seq (.reg (.op 0 (.op 1 .done))) (.seq (.reg (.op 0 (.op 1 (.op 2 (.op 3 (.op 4 (.op 5 .done))))))) (.cond (.seq (.reg (.op 0 (.op 1 .done))) .nop) .nop)))) (.reg (.op 0 (.op 1 .done))))))))) (.seq (.reg (.op 0 .done)) .nop)))

theorem slices_IndexFunc_outline_Range.ok : okC Tryd.f63.ntmps slices_IndexFunc_outline_Range.sc (bodyOf Tryd.f63) = true := by kernel_rfl

theorem slices_IndexFunc_outline_Range.eq {K : K1} {s0 f1 : Value} {w : World} : slices_IndexFunc_outline_Range K s0 f1 w = codeS Tryd.prog slices_IndexFunc_outline_Range.sc (bodyOf Tryd.f63) (argsF 0 [s0, f1]) w (retQ Tryd.prog Tryd.f63.results.toList K) := by kernel_rfl

theorem slices_IndexFunc_outline_Range.call {K : K1} {s0 f1 : Value} {w : World} (h : slices_IndexFunc_outline_Range K s0 f1 w) : sCall Tryd.prog 63 [s0, f1] w K := sCall_code mixed Tryd.func63 (by kernel_rfl) rfl rfl slices_IndexFunc_outline_Range.ok slices_IndexFunc_outline_Range.eq h

abbrev slices_IndexFunc_outline_Range.n : Nat := 63

/-- '(*bodkin rope.Rope).place' -/
def rope_Rope_place_L2 (M1 : List Value → World → Prop) (Nx2 : List Value → World → Prop) (at1 s6 x34 : Value) (n9 : Value) (w : World) : Prop :=
  sNext Tryd.prog x34 true 0 w fun x35 w =>
  sExtract x35 0 w fun x36 w =>
  sIf x36 (
    sExtract x35 1 w fun x37 w =>
    sBin Tryd.prog .eql 3 false false n9 at1 w fun x40 w =>
    sIf x40 (
      sFldA Tryd.prog 119 s6 2 w fun x42 w =>
      sStore Tryd.prog 3 x42 x37 w fun w =>
      M1 [] w) (
      sBin Tryd.prog .add 3 false true n9 (.int .i64 1) w fun x44 w =>
      Nx2 [x44] w)) (
    M1 [] w)

def rope_Rope_place_J1 (K : K1) (s6 x4 : Value) (w : World) : Prop :=
  sLoad Tryd.prog 119 s6 w fun x45 w =>
  sStore Tryd.prog 119 x4 x45 w fun w =>
  sLoad Tryd.prog 119 x4 w fun v w' => w' = w ∧ K (.tuple #[v, (.int .i64 0)]) w

def rope_Rope_place (K : K1) (r0 at1 : Value) (w : World) : Prop :=
  sAlloc Tryd.prog 119 w fun x4 w =>
  sCall Tryd.prog 74 [r0, (.int .i64 1), at1, (.int .i64 1)] w fun x14 w =>
  sExtract x14 0 w fun x15 w =>
  sExtract x14 1 w fun x16 w =>
  sExtract x14 2 w fun x17 w =>
  sAlloc Tryd.prog 119 w fun s6 w =>
  sStore Tryd.prog 119 s6 x15 w fun w =>
  sBin Tryd.prog .neq 24 false true x17 (.int .i64 0) w fun x19 w =>
  sIf x19 (
    sBuild Tryd.prog 119 [] w fun x20 w =>
    sStore Tryd.prog 119 x4 x20 w fun w =>
    sLoad Tryd.prog 119 x4 w fun v w' => w' = w ∧ K (.tuple #[v, x17]) w) (
    sFldA Tryd.prog 119 s6 0 w fun x22 w =>
    sFldA Tryd.prog 114 x22 1 w fun x23 w =>
    sIdxA Tryd.prog 89 x23 (.int .i64 1) w fun x24 w =>
    sLoad Tryd.prog 3 x24 w fun x25 w =>
    sFldA Tryd.prog 119 s6 1 w fun x26 w =>
    sFldA Tryd.prog 91 x26 4 w fun x27 w =>
    sLoad Tryd.prog 9 x27 w fun x28 w =>
    sBuiltin Tryd.prog .len [9] 3 [x28] w fun x29 w =>
    sFldA Tryd.prog 119 s6 2 w fun x30 w =>
    sStore Tryd.prog 3 x30 x29 w fun w =>
    JoinS 0 16 (fun M1 =>
      sFldA Tryd.prog 119 s6 1 w fun x31 w =>
      sFldA Tryd.prog 91 x31 4 w fun x32 w =>
      sLoad Tryd.prog 9 x32 w fun x33 w =>
      sRange Tryd.prog 9 x33 w fun x34 w =>
      LoopS [x25] 1 11 w fun us _ w Nx2 =>
        rope_Rope_place_L2 M1 Nx2 at1 s6 x34 (hd us) w) fun us _ w =>
      rope_Rope_place_J1 K s6 x4 w)

def rope_Rope_place.sc : SC := (.seq (.reg (.op 0 (.op 1 .done))) (.seq (.reg (.op 0 (.op 1 (.op 2 (.op 3 (.op 4 (.op 5 (.op 6 (.op 7 (.op 8 (.op 9 (.op 10 .done)))))))))))) (.seq (.seq (.reg (.op 0 (.op 1 .done))) (.cond (.seq (.reg (.op 0 (.op 1 (.op 2 (.op 3 .done))))) .nop) .nop)) (.seq (.reg (.op 0 (.op 1 (.op 2 (.op 3 (.op 4 .done)))))) (.seq (.reg (.op 0 (.op 1 (.op 2 (.op 3 (.op 4 (.op 5 .done))))))) (.join [] [31, 32, 33, 34, 35, 36, 37, 10, 38, 39, 40, 41, 42, 43, 44, 9] (.seq (.reg (.op 0 (.op 1 (.op 2 (.op 3 .done))))) (.sub (.loop [9] [35, 36, 37, 10, 38, 39, 40, 41, 42, 43, 44] (.seq (.reg (.op 0 (.op 1 .done))) (.seq (.cond .nop .nop) (.sub (.seq (.reg (.op 0 (.op 1 .done))) (.seq (.seq (.reg (.op 0 (.op 1 (.op 2 .done)))) (.cond (.seq (.reg (.op 0 (.op 1 (.op 2 .done)))) .nop) .nop)) (.reg (.op 0 (.op 1 (.op 2 .done)))))))))))) (.seq (.reg (.op 0 (.op 1 (.op 2 .done)))) .nop)))))))

theorem rope_Rope_place.ok : okC Tryd.f64.ntmps rope_Rope_place.sc (bodyOf Tryd.f64) = true := by kernel_rfl

theorem rope_Rope_place.eq {K : K1} {r0 at1 : Value} {w : World} : rope_Rope_place K r0 at1 w = codeS Tryd.prog rope_Rope_place.sc (bodyOf Tryd.f64) (argsF 0 [r0, at1]) w (retQ Tryd.prog Tryd.f64.results.toList K) := by kernel_rfl

theorem rope_Rope_place.call {K : K1} {r0 at1 : Value} {w : World} (h : rope_Rope_place K r0 at1 w) : sCall Tryd.prog 64 [r0, at1] w K := sCall_code mixed Tryd.func64 (by kernel_rfl) rfl rfl rope_Rope_place.ok rope_Rope_place.eq h

abbrev rope_Rope_place.n : Nat := 64

/-- 'bodkin utf.Step' -/
def utf_Step_L1 (K : K1) (Nx1 : List Value → World → Prop) (at1 s0 x20 : Value) (first6 : Value) (w : World) : Prop :=
  sNext Tryd.prog x20 true 0 w fun x21 w =>
  sExtract x21 0 w fun x22 w =>
  sIf x22 (
    sExtract x21 1 w fun x23 w =>
    sExtract x21 2 w fun x24 w =>
    sBin Tryd.prog .gtr 3 false true x23 (.int .i64 0) w fun x26 w =>
    sIf x26 (
      K (.tuple #[first6, x23]) w) (
      Nx1 [x24] w)) (
    sBuiltin Tryd.prog .len [9] 3 [s0] w fun x32 w =>
    sBin Tryd.prog .sub 3 false false x32 at1 w fun x34 w =>
    K (.tuple #[first6, x34]) w)

def utf_Step (K : K1) (s0 at1 : Value) (w : World) : Prop :=
  sBin Tryd.prog .lss 3 false true at1 (.int .i64 0) w fun x10 w =>
  sIf x10 (
    K (.tuple #[(.int .i32 0), (.int .i64 0)]) w) (
    sBuiltin Tryd.prog .len [9] 3 [s0] w fun x14 w =>
    sBin Tryd.prog .geq 3 false false at1 x14 w fun x15 w =>
    sIf x15 (
      K (.tuple #[(.int .i32 0), (.int .i64 0)]) w) (
      sSlice Tryd.prog 9 s0 (some at1) none none w fun x19 w =>
      sRange Tryd.prog 9 x19 w fun x20 w =>
      LoopS [(.int .i32 0)] 1 13 w fun us _ w Nx1 =>
        utf_Step_L1 K Nx1 at1 s0 x20 (hd us) w))

def utf_Step.sc : SC := (.seq (.reg (.op 0 (.op 1 .done))) (.seq (.seq (.reg (.op 0 (.op 1 (.op 2 (.test 2 (.skip 3 (.skip 4 (.skip 5 (.skip 6 (.op 7 .done))))) (.op 3 (.op 4 (.op 5 (.op 6 (.op 7 .done)))))))))) (.cond (.seq (.reg (.op 0 (.op 1 .done))) .nop) .nop)) (.seq (.reg (.op 0 .done)) (.seq (.seq (.reg (.op 0 (.op 1 (.op 2 (.op 3 .done))))) (.sub (.loop [6] [21, 22, 23, 24, 7, 8, 25, 26, 27, 28, 4, 5, 29] (.seq (.reg (.op 0 (.op 1 .done))) (.seq (.cond .nop .nop) (.sub (.seq (.reg (.op 0 (.op 1 (.op 2 (.op 3 .done))))) (.seq (.seq (.reg (.op 0 (.op 1 .done))) (.cond (.seq (.reg (.op 0 (.op 1 (.op 2 (.op 3 .done))))) .nop) .nop)) (.reg (.op 0 (.op 1 .done))))))))))) (.seq (.reg (.op 0 (.op 1 (.op 2 (.op 3 (.op 4 (.op 5 (.op 6 .done)))))))) .nop)))))

theorem utf_Step.ok : okC Tryd.f65.ntmps utf_Step.sc (bodyOf Tryd.f65) = true := by kernel_rfl

theorem utf_Step.eq {K : K1} {s0 at1 : Value} {w : World} : utf_Step K s0 at1 w = codeS Tryd.prog utf_Step.sc (bodyOf Tryd.f65) (argsF 0 [s0, at1]) w (retQ Tryd.prog Tryd.f65.results.toList K) := by kernel_rfl

theorem utf_Step.call {K : K1} {s0 at1 : Value} {w : World} (h : utf_Step K s0 at1 w) : sCall Tryd.prog 65 [s0, at1] w K := sCall_code mixed Tryd.func65 (by kernel_rfl) rfl rfl utf_Step.ok utf_Step.eq h

abbrev utf_Step.n : Nat := 65

/-- '(*bodkin rope.Rope).Pieces' -/
def rope_Rope_Pieces_L1 (K : K1) (Nx1 : List Value → World → Prop) (x8 x9 : Value) (out3 x10 : Value) (w : World) : Prop :=
  sBin Tryd.prog .lss 3 false false x10 x9 w fun x11 w =>
  sIf x11 (
    sIdxA Tryd.prog 63 x8 x10 w fun x12 w =>
    sLoad Tryd.prog 91 x12 w fun x13 w =>
    sAlloc Tryd.prog 91 w fun i5 w =>
    sStore Tryd.prog 91 i5 x13 w fun w =>
    sFldA Tryd.prog 91 i5 4 w fun x15 w =>
    sLoad Tryd.prog 9 x15 w fun x16 w =>
    sBuildSlice Tryd.prog 124 1 [(0, x16)] w fun x17 w =>
    sBuiltin Tryd.prog .append [124, 124] 124 [out3, x17] w fun x18 w =>
    sBin Tryd.prog .add 3 false true x10 (.int .i64 1) w fun x19 w =>
    Nx1 [x18, x19] w) (
    K out3 w)

def rope_Rope_Pieces (K : K1) (r0 : Value) (w : World) : Prop :=
  sCall Tryd.prog 61 [r0] w fun x7 w =>
  sCall Tryd.prog 88 [x7] w fun x8 w =>
  sBuiltin Tryd.prog .len [63] 3 [x8] w fun x9 w =>
  LoopS [(.slice none 0 0), (.int .i64 0)] 2 10 w fun us _ w Nx1 =>
    rope_Rope_Pieces_L1 K Nx1 x8 x9 (hd us) (hd (tl us)) w

def rope_Rope_Pieces.sc : SC := (.seq (.reg (.op 0 .done)) (.seq (.reg (.op 0 .done)) (.seq (.seq (.reg (.op 0 (.op 1 (.op 2 (.op 3 (.op 4 .done)))))) (.sub (.loop [3, 10] [11, 12, 13, 5, 14, 15, 16, 17, 18, 19] (.seq (.reg (.op 0 .done)) (.seq (.cond .nop .nop) (.seq (.sub (.seq (.reg (.op 0 (.op 1 (.op 2 (.op 3 .done))))) (.reg (.op 0 (.op 1 (.op 2 (.op 3 (.op 4 (.op 5 .done))))))))) (.reg (.op 0 (.op 1 .done))))))))) (.seq (.reg (.op 0 (.op 1 .done))) .nop))))

theorem rope_Rope_Pieces.ok : okC Tryd.f67.ntmps rope_Rope_Pieces.sc (bodyOf Tryd.f67) = true := by kernel_rfl

theorem rope_Rope_Pieces.eq {K : K1} {r0 : Value} {w : World} : rope_Rope_Pieces K r0 w = codeS Tryd.prog rope_Rope_Pieces.sc (bodyOf Tryd.f67) (argsF 0 [r0]) w (retQ Tryd.prog Tryd.f67.results.toList K) := by kernel_rfl

theorem rope_Rope_Pieces.call {K : K1} {r0 : Value} {w : World} (h : rope_Rope_Pieces K r0 w) : sCall Tryd.prog 67 [r0] w K := sCall_code mixed Tryd.func67 (by kernel_rfl) rfl rfl rope_Rope_Pieces.ok rope_Rope_Pieces.eq h

abbrev rope_Rope_Pieces.n : Nat := 67

/-- 'bodkin item.within' -/
def item_within (K : K1) (n0 : Value) (w : World) : Prop :=
  sBin Tryd.prog .geq 3 false true n0 (.int .i64 0) w fun x4 w =>
  sIf x4 (
    sBin Tryd.prog .leq 3 false true n0 (.int .i64 1099511627776) w fun x7 w =>
    K x7 w) (
    K (.bool false) w)

def item_within.sc : SC := (.seq (.reg (.op 0 .done)) (.seq (.reg (.op 0 (.op 1 (.op 2 (.test 2 (.op 3 (.op 4 (.op 5 (.op 6 .done)))) (.skip 3 (.skip 4 (.op 5 (.op 6 .done))))))))) .nop))

theorem item_within.ok : okC Tryd.f68.ntmps item_within.sc (bodyOf Tryd.f68) = true := by kernel_rfl

theorem item_within.eq {K : K1} {n0 : Value} {w : World} : item_within K n0 w = codeS Tryd.prog item_within.sc (bodyOf Tryd.f68) (argsF 0 [n0]) w (retQ Tryd.prog Tryd.f68.results.toList K) := by kernel_rfl

theorem item_within.call {K : K1} {n0 : Value} {w : World} (h : item_within K n0 w) : sCall Tryd.prog 68 [n0] w K := sCall_code mixed Tryd.func68 (by kernel_rfl) rfl rfl item_within.ok item_within.eq h

abbrev item_within.n : Nat := 68

/-- 'bodkin tree.meld' -/
def tree_meld (K : K1) (a0 b1 : Value) (w : World) : Prop :=
  sCall Tryd.prog 89 [a0] w fun x15 w =>
  sCall Tryd.prog 89 [b1] w fun x17 w =>
  sBin Tryd.prog .gtr 3 false false x15 x17 w fun x21 w =>
  sIf x21 (
    sAssert Tryd.prog a0 88 128 false w fun x23 w =>
    sNil x23 w fun x25 w =>
    sFldA Tryd.prog 166 x25 0 w fun x26 w =>
    sLoad Tryd.prog 126 x26 w fun x27 w =>
    sBuiltin Tryd.prog .len [126] 3 [x27] w fun x28 w =>
    sBin Tryd.prog .sub 3 false true x28 (.int .i64 1) w fun x29 w =>
    DrawS w fun C w =>
    sNil x23 w fun x31 w =>
    stillS C w (fun w k => sFldA Tryd.prog 166 x31 0 w k) fun x32 =>
    stillS C w (fun w k => sLoad Tryd.prog 126 x32 w k) fun x33 =>
    stillS C w (fun w k => sSlice Tryd.prog 126 x33 none (some x29) none w k) fun x35 =>
    sNil x23 w fun x37 w =>
    stillS C w (fun w k => sFldA Tryd.prog 166 x37 0 w k) fun x38 =>
    stillS C w (fun w k => sLoad Tryd.prog 126 x38 w k) fun x39 =>
    stillS C w (fun w k => sIdxA Tryd.prog 126 x39 x29 w k) fun x41 =>
    stillS C w (fun w k => sLoad Tryd.prog 88 x41 w k) fun x42 =>
    sCall Tryd.prog 69 [x42, b1] w fun x44 w => C w ∧
    sCall Tryd.prog 91 [x35, x44] w fun x45 w => C w ∧
    sCall Tryd.prog 90 [x45] w fun x46 w => C w ∧
    K x46 w) (
    sBin Tryd.prog .lss 3 false false x15 x17 w fun x50 w =>
    sIf x50 (
      sAssert Tryd.prog b1 88 128 false w fun x52 w =>
      DrawS w fun C w =>
      sNil x52 w fun x55 w =>
      stillS C w (fun w k => sFldA Tryd.prog 166 x55 0 w k) fun x56 =>
      stillS C w (fun w k => sLoad Tryd.prog 126 x56 w k) fun x57 =>
      stillS C w (fun w k => sIdxA Tryd.prog 126 x57 (.int .i64 0) w k) fun x58 =>
      stillS C w (fun w k => sLoad Tryd.prog 88 x58 w k) fun x59 =>
      sNil x52 w fun x62 w =>
      stillS C w (fun w k => sFldA Tryd.prog 166 x62 0 w k) fun x63 =>
      stillS C w (fun w k => sLoad Tryd.prog 126 x63 w k) fun x64 =>
      stillS C w (fun w k => sSlice Tryd.prog 126 x64 (some (.int .i64 1)) none none w k) fun x65 =>
      sCall Tryd.prog 69 [a0, x59] w fun x60 w => C w ∧
      sCall Tryd.prog 91 [x60, x65] w fun x66 w => C w ∧
      sCall Tryd.prog 90 [x66] w fun x67 w => C w ∧
      K x67 w) (
      sAssert Tryd.prog a0 88 94 true w fun x70 w =>
      sExtract x70 0 w fun x71 w =>
      sExtract x70 1 w fun x72 w =>
      sIf x72 (
        sAssert Tryd.prog b1 88 94 false w fun x75 w =>
        DrawS w fun C w =>
        sNil x71 w fun x77 w =>
        stillS C w (fun w k => sFldA Tryd.prog 132 x77 0 w k) fun x78 =>
        stillS C w (fun w k => sLoad Tryd.prog 63 x78 w k) fun x79 =>
        stillS C w (fun w k => sBuiltin Tryd.prog .len [63] 3 [x79] w k) fun x80 =>
        sNil x75 w fun x82 w =>
        stillS C w (fun w k => sFldA Tryd.prog 132 x82 0 w k) fun x83 =>
        stillS C w (fun w k => sLoad Tryd.prog 63 x83 w k) fun x84 =>
        stillS C w (fun w k => sBuiltin Tryd.prog .len [63] 3 [x84] w k) fun x85 =>
        stillS C w (fun w k => sBin Tryd.prog .add 3 false false x80 x85 w k) fun x86 =>
        sMake Tryd.prog 63 (.int .i64 0) x86 w fun x87 w => C w ∧
        sNil x71 w fun x90 w =>
        sFldA Tryd.prog 132 x90 0 w fun x91 w =>
        sLoad Tryd.prog 63 x91 w fun x92 w =>
        sBuiltin Tryd.prog .append [63, 63] 63 [x87, x92] w fun x93 w =>
        sNil x75 w fun x96 w =>
        sFldA Tryd.prog 132 x96 0 w fun x97 w =>
        sLoad Tryd.prog 63 x97 w fun x98 w =>
        sBuiltin Tryd.prog .append [63, 63] 63 [x93, x98] w fun x99 w =>
        sCall Tryd.prog 92 [x99] w fun x100 w =>
        K x100 w) (
        DrawS w fun C w =>
        stillS C w (fun w k => sAssert Tryd.prog a0 88 128 false w k) fun x102 =>
        sNil x102 w fun x103 w =>
        stillS C w (fun w k => sFldA Tryd.prog 166 x103 0 w k) fun x104 =>
        stillS C w (fun w k => sLoad Tryd.prog 126 x104 w k) fun x105 =>
        stillS C w (fun w k => sAssert Tryd.prog b1 88 128 false w k) fun x107 =>
        sNil x107 w fun x108 w =>
        stillS C w (fun w k => sFldA Tryd.prog 166 x108 0 w k) fun x109 =>
        stillS C w (fun w k => sLoad Tryd.prog 126 x109 w k) fun x110 =>
        sCall Tryd.prog 91 [x105, x110] w fun x111 w => C w ∧
        sCall Tryd.prog 90 [x111] w fun x112 w => C w ∧
        K x112 w)))

def tree_meld.sc : SC := (.seq (.reg (.op 0 .done)) (.seq (.reg (.op 0 (.op 1 (.op 2 (.op 3 (.op 4 (.op 5 .done))))))) (.seq (.sub (.seq (.reg (.op 0 (.op 1 (.op 2 (.op 3 .done))))) (.cond (.seq (.reg (.op 0 (.op 1 (.op 2 .done)))) (.seq (.reg (.op 0 (.op 1 (.op 2 (.op 3 (.op 4 (.op 5 (.op 6 .done)))))))) (.seq (.draw (.op 0 (.op 1 (.op 2 (.op 3 (.op 4 (.op 5 (.op 6 (.op 7 (.op 8 (.op 9 (.op 10 (.op 11 (.op 12 (.op 13 (.op 14 (.op 15 (.op 16 (.op 17 .done))))))))))))))))))) .nop))) (.seq (.reg (.op 0 (.op 1 (.op 2 (.op 3 .done))))) (.cond (.seq (.reg (.op 0 (.op 1 (.op 2 .done)))) (.seq (.draw (.op 0 (.op 1 (.op 2 (.op 3 (.op 4 (.op 5 (.op 6 (.op 8 (.op 9 (.op 10 (.op 11 (.op 12 (.op 7 (.op 13 (.op 14 (.op 15 .done))))))))))))))))) .nop)) .nop))))) (.seq (.seq (.reg (.op 0 (.op 1 (.op 2 (.op 3 (.op 4 (.op 5 (.op 6 .done)))))))) (.seq (.reg (.op 0 .done)) (.cond (.seq (.reg (.op 0 (.op 1 (.op 2 .done)))) (.seq (.draw (.op 0 (.op 1 (.op 2 (.op 3 (.op 4 (.op 5 (.op 6 (.op 7 (.op 8 (.op 9 (.op 10 (.op 11 (.op 12 .done)))))))))))))) (.seq (.reg (.op 0 (.op 1 (.op 2 (.op 3 (.op 4 (.op 5 (.op 6 .done)))))))) (.seq (.reg (.op 0 (.op 1 (.op 2 (.op 3 (.op 4 (.op 5 (.op 6 (.op 7 .done))))))))) .nop)))) .nop))) (.seq (.draw (.op 0 (.op 1 (.op 2 (.op 3 (.op 4 (.op 5 (.op 6 (.op 7 (.op 8 (.op 9 (.op 10 (.op 11 (.op 12 .done)))))))))))))) .nop)))))

theorem tree_meld.ok : okC Tryd.f69.ntmps tree_meld.sc (bodyOf Tryd.f69) = true := by kernel_rfl

theorem tree_meld.eq {K : K1} {a0 b1 : Value} {w : World} : tree_meld K a0 b1 w = codeS Tryd.prog tree_meld.sc (bodyOf Tryd.f69) (argsF 0 [a0, b1]) w (retQ Tryd.prog Tryd.f69.results.toList K) := by kernel_rfl

theorem tree_meld.call {K : K1} {a0 b1 : Value} {w : World} (h : tree_meld K a0 b1 w) : sCall Tryd.prog 69 [a0, b1] w K := sCall_code mixed Tryd.func69 (by kernel_rfl) rfl rfl tree_meld.ok tree_meld.eq h

abbrev tree_meld.n : Nat := 69

/-- 'bodkin tree.innerOf' -/
def tree_innerOf_L1 (K : K1) (Nx1 : List Value → World → Prop) (kids0 x13 x15 : Value) (x16 : Value) (w : World) : Prop :=
  sBin Tryd.prog .lss 3 false false x16 x15 w fun x17 w =>
  sIf x17 (
    sIdxA Tryd.prog 126 kids0 x16 w fun x18 w =>
    sLoad Tryd.prog 88 x18 w fun x19 w =>
    DrawS w fun C w =>
    sNil x13 w fun x22 w =>
    stillS C w (fun w k => sFldA Tryd.prog 166 x22 2 w k) fun x23 =>
    stillS C w (fun w k => sLoad Tryd.prog 114 x23 w k) fun x24 =>
    sCall Tryd.prog 85 [x19] w fun x26 w => C w ∧
    sCall Tryd.prog 93 [x24, x26] w fun x27 w => C w ∧
    sNil x13 w fun x28 w =>
    stillS C w (fun w k => sFldA Tryd.prog 166 x28 2 w k) fun x29 =>
    sStore Tryd.prog 114 x29 x27 w fun w =>
    sBin Tryd.prog .add 3 false true x16 (.int .i64 1) w fun x30 w =>
    Nx1 [x30] w) (
    K x13 w)

def tree_innerOf (K : K1) (kids0 : Value) (w : World) : Prop :=
  sIdxA Tryd.prog 126 kids0 (.int .i64 0) w fun x8 w =>
  sLoad Tryd.prog 88 x8 w fun x9 w =>
  sCall Tryd.prog 89 [x9] w fun x10 w =>
  sBin Tryd.prog .add 3 false true x10 (.int .i64 1) w fun x11 w =>
  sBuild Tryd.prog 166 [(0, kids0), (1, x11)] w fun x12 w =>
  sBox Tryd.prog 166 x12 w fun x13 w =>
  sBuiltin Tryd.prog .len [126] 3 [kids0] w fun x15 w =>
  LoopS [(.int .i64 0)] 1 15 w fun us _ w Nx1 =>
    tree_innerOf_L1 K Nx1 kids0 x13 x15 (hd us) w

def tree_innerOf.sc : SC := (.seq (.reg (.op 0 .done)) (.seq (.reg (.op 0 (.op 1 (.op 2 (.op 3 (.op 4 (.op 5 (.op 6 (.op 7 (.op 8 .done)))))))))) (.seq (.seq (.reg (.op 0 (.op 1 (.op 2 .done)))) (.sub (.loop [16] [17, 18, 19, 5, 20, 21, 22, 23, 24, 25, 26, 27, 28, 29, 30] (.seq (.reg (.op 0 .done)) (.seq (.cond .nop .nop) (.seq (.sub (.seq (.reg (.op 0 (.op 1 (.op 2 .done)))) (.draw (.op 0 (.op 1 (.op 2 (.op 3 (.op 4 (.op 5 (.op 6 (.op 7 (.op 8 (.op 9 (.fin 10 .done)))))))))))))) (.reg (.op 0 (.op 1 .done))))))))) (.seq (.reg (.op 0 (.op 1 .done))) .nop))))

theorem tree_innerOf.ok : okC Tryd.f70.ntmps tree_innerOf.sc (bodyOf Tryd.f70) = true := by kernel_rfl

theorem tree_innerOf.eq {K : K1} {kids0 : Value} {w : World} : tree_innerOf K kids0 w = codeS Tryd.prog tree_innerOf.sc (bodyOf Tryd.f70) (argsF 0 [kids0]) w (retQ Tryd.prog Tryd.f70.results.toList K) := by kernel_rfl

theorem tree_innerOf.call {K : K1} {kids0 : Value} {w : World} (h : tree_innerOf K kids0 w) : sCall Tryd.prog 70 [kids0] w K := sCall_code mixed Tryd.func70 (by kernel_rfl) rfl rfl tree_innerOf.ok tree_innerOf.eq h

abbrev tree_innerOf.n : Nat := 70

/-- 'bodkin item.All' -/
def item_All_L1 (K : K1) (Nx1 : List Value → World → Prop) (l0 s3 x2 x7 : Value) (x8 : Value) (w : World) : Prop :=
  sBin Tryd.prog .lss 3 false false x8 x7 w fun x9 w =>
  sIf x9 (
    sIdxA Tryd.prog 63 l0 x8 w fun x10 w =>
    sLoad Tryd.prog 91 x10 w fun x11 w =>
    sAlloc Tryd.prog 91 w fun i5 w =>
    sStore Tryd.prog 91 i5 x11 w fun w =>
    DrawS w fun C w =>
    stillS C w (fun w k => sLoad Tryd.prog 114 s3 w k) fun x12 =>
    stillS C w (fun w k => sLoad Tryd.prog 91 i5 w k) fun x13 =>
    sCall Tryd.prog 94 [x13] w fun x14 w => C w ∧
    sCall Tryd.prog 93 [x12, x14] w fun x15 w =>
    sStore Tryd.prog 114 s3 x15 w fun w =>
    sBin Tryd.prog .add 3 false true x8 (.int .i64 1) w fun x16 w =>
    Nx1 [x16] w) (
    sLoad Tryd.prog 114 s3 w fun x17 w =>
    sStore Tryd.prog 114 x2 x17 w fun w =>
    sLoad Tryd.prog 114 x2 w fun v w' => w' = w ∧ K v w)

def item_All (K : K1) (l0 : Value) (w : World) : Prop :=
  sAlloc Tryd.prog 114 w fun x2 w =>
  sAlloc Tryd.prog 114 w fun s3 w =>
  sBuiltin Tryd.prog .len [63] 3 [l0] w fun x7 w =>
  LoopS [(.int .i64 0)] 1 9 w fun us _ w Nx1 =>
    item_All_L1 K Nx1 l0 s3 x2 x7 (hd us) w

def item_All.sc : SC := (.seq (.reg (.op 0 .done)) (.seq (.reg (.op 0 .done)) (.seq (.seq (.reg (.op 0 (.op 1 (.op 2 .done)))) (.sub (.loop [8] [9, 10, 11, 5, 12, 13, 14, 15, 16] (.seq (.reg (.op 0 .done)) (.seq (.cond .nop .nop) (.seq (.sub (.seq (.reg (.op 0 (.op 1 (.op 2 (.op 3 .done))))) (.draw (.op 0 (.op 1 (.op 2 (.fin 3 (.fin 4 .done)))))))) (.reg (.op 0 (.op 1 .done))))))))) (.seq (.reg (.op 0 (.op 1 .done))) .nop))))

theorem item_All.ok : okC Tryd.f71.ntmps item_All.sc (bodyOf Tryd.f71) = true := by kernel_rfl

theorem item_All.eq {K : K1} {l0 : Value} {w : World} : item_All K l0 w = codeS Tryd.prog item_All.sc (bodyOf Tryd.f71) (argsF 0 [l0]) w (retQ Tryd.prog Tryd.f71.results.toList K) := by kernel_rfl

theorem item_All.call {K : K1} {l0 : Value} {w : World} (h : item_All K l0 w) : sCall Tryd.prog 71 [l0] w K := sCall_code mixed Tryd.func71 (by kernel_rfl) rfl rfl item_All.ok item_All.eq h

abbrev item_All.n : Nat := 71

/-- 'bodkin utf.Encode' -/
def utf_Encode_J2 (Nx1 : List Value → World → Prop) (out3 x8 : Value) (r5 : Value) (w : World) : Prop :=
  sConv Tryd.prog 21 9 r5 w fun x17 w =>
  sBuiltin Tryd.prog .append [138, 9] 138 [out3, x17] w fun x18 w =>
  sBin Tryd.prog .add 3 false true x8 (.int .i64 1) w fun x19 w =>
  Nx1 [x18, x19] w

def utf_Encode_L1 (K : K1) (Nx1 : List Value → World → Prop) (l0 x7 : Value) (out3 x8 : Value) (w : World) : Prop :=
  sBin Tryd.prog .lss 3 false false x8 x7 w fun x9 w =>
  sIf x9 (
    sIdxA Tryd.prog 33 l0 x8 w fun x10 w =>
    sLoad Tryd.prog 21 x10 w fun x11 w =>
    JoinS 1 3 (fun M2 =>
      sCall Tryd.prog 95 [x11] w fun x13 w =>
      sUn Tryd.prog .not x13 w fun x14 w =>
      sIf x14 (
        M2 [(.int .i32 65533)] w) (
        M2 [x11] w)) fun us _ w =>
      utf_Encode_J2 Nx1 out3 x8 (hd us) w) (
    sConv Tryd.prog 138 9 out3 w fun x21 w =>
    K x21 w)

def utf_Encode (K : K1) (l0 : Value) (w : World) : Prop :=
  sBuiltin Tryd.prog .len [33] 3 [l0] w fun x7 w =>
  LoopS [(.slice none 0 0), (.int .i64 0)] 2 12 w fun us _ w Nx1 =>
    utf_Encode_L1 K Nx1 l0 x7 (hd us) (hd (tl us)) w

def utf_Encode.sc : SC := (.seq (.reg (.op 0 .done)) (.seq (.reg (.op 0 .done)) (.seq (.seq (.reg (.op 0 (.op 1 (.op 2 .done)))) (.sub (.loop [3, 8] [9, 10, 11, 5, 12, 13, 14, 15, 16, 17, 18, 19] (.seq (.reg (.op 0 .done)) (.seq (.cond .nop .nop) (.seq (.sub (.seq (.reg (.op 0 (.op 1 (.op 2 .done)))) (.join [5] [12, 13, 14] (.seq (.reg (.op 0 (.op 1 (.op 2 .done)))) (.cond (.reg (.op 0 .done)) .nop)) (.reg (.op 0 (.op 1 (.op 2 (.op 3 (.op 4 .done))))))))) (.reg (.op 0 (.op 1 .done))))))))) (.seq (.reg (.op 0 (.op 1 (.op 2 .done)))) .nop))))

theorem utf_Encode.ok : okC Tryd.f72.ntmps utf_Encode.sc (bodyOf Tryd.f72) = true := by kernel_rfl

theorem utf_Encode.eq {K : K1} {l0 : Value} {w : World} : utf_Encode K l0 w = codeS Tryd.prog utf_Encode.sc (bodyOf Tryd.f72) (argsF 0 [l0]) w (retQ Tryd.prog Tryd.f72.results.toList K) := by kernel_rfl

theorem utf_Encode.call {K : K1} {l0 : Value} {w : World} (h : utf_Encode K l0 w) : sCall Tryd.prog 72 [l0] w K := sCall_code mixed Tryd.func72 (by kernel_rfl) rfl rfl utf_Encode.ok utf_Encode.eq h

abbrev utf_Encode.n : Nat := 72

/-- '(*bodkin rope.Rope).ByteAt' -/
def rope_Rope_ByteAt (K : K1) (r0 at1 : Value) (w : World) : Prop :=
  sCall Tryd.prog 64 [r0, at1] w fun x11 w =>
  sExtract x11 0 w fun x12 w =>
  sExtract x11 1 w fun x13 w =>
  sAlloc Tryd.prog 119 w fun s6 w =>
  sStore Tryd.prog 119 s6 x12 w fun w =>
  sBin Tryd.prog .neq 24 false true x13 (.int .i64 0) w fun x15 w =>
  sIf x15 (
    K (.tuple #[(.int .i64 0), x13]) w) (
    sFldA Tryd.prog 119 s6 0 w fun x17 w =>
    sFldA Tryd.prog 114 x17 1 w fun x18 w =>
    sIdxA Tryd.prog 89 x18 (.int .i64 0) w fun x19 w =>
    sLoad Tryd.prog 3 x19 w fun x20 w =>
    sFldA Tryd.prog 119 s6 2 w fun x21 w =>
    sLoad Tryd.prog 3 x21 w fun x22 w =>
    sBin Tryd.prog .add 3 false false x20 x22 w fun x23 w =>
    K (.tuple #[x23, (.int .i64 0)]) w)

def rope_Rope_ByteAt.sc : SC := (.seq (.reg (.op 0 (.op 1 .done))) (.seq (.reg (.op 0 (.op 1 (.op 2 (.op 3 (.op 4 (.op 5 (.op 6 (.op 7 (.op 8 .done)))))))))) (.seq (.seq (.reg (.op 0 (.op 1 .done))) (.cond (.seq (.reg (.op 0 (.op 1 (.op 2 .done)))) .nop) .nop)) (.seq (.reg (.op 0 (.op 1 (.op 2 (.op 3 (.op 4 (.op 5 (.op 6 (.op 7 (.op 8 .done)))))))))) .nop))))

theorem rope_Rope_ByteAt.ok : okC Tryd.f73.ntmps rope_Rope_ByteAt.sc (bodyOf Tryd.f73) = true := by kernel_rfl

theorem rope_Rope_ByteAt.eq {K : K1} {r0 at1 : Value} {w : World} : rope_Rope_ByteAt K r0 at1 w = codeS Tryd.prog rope_Rope_ByteAt.sc (bodyOf Tryd.f73) (argsF 0 [r0, at1]) w (retQ Tryd.prog Tryd.f73.results.toList K) := by kernel_rfl

theorem rope_Rope_ByteAt.call {K : K1} {r0 at1 : Value} {w : World} (h : rope_Rope_ByteAt K r0 at1 w) : sCall Tryd.prog 73 [r0, at1] w K := sCall_code mixed Tryd.func73 (by kernel_rfl) rfl rfl rope_Rope_ByteAt.ok rope_Rope_ByteAt.eq h

abbrev rope_Rope_ByteAt.n : Nat := 73

/-- '(*bodkin rope.Rope).find' -/
def rope_Rope_find (K : K1) (r0 dim1 at2 bias3 : Value) (w : World) : Prop :=
  sAlloc Tryd.prog 119 w fun x8 w =>
  sCall Tryd.prog 61 [r0] w fun x16 w =>
  sCall Tryd.prog 96 [x16] w fun x17 w =>
  sCall Tryd.prog 97 [x17, dim1, at2, bias3] w fun x22 w =>
  sBin Tryd.prog .neq 24 false true x22 (.int .i64 0) w fun x24 w =>
  sIf x24 (
    sBuild Tryd.prog 119 [] w fun x25 w =>
    sStore Tryd.prog 119 x8 x25 w fun w =>
    sLoad Tryd.prog 119 x8 w fun v w' => w' = w ∧ K (.tuple #[v, (.pointer none), x22]) w) (
    sCall Tryd.prog 77 [x17] w fun x29 w =>
    sExtract x29 0 w fun x30 w =>
    sExtract x29 1 w fun x31 w =>
    sAlloc Tryd.prog 91 w fun i13 w =>
    sStore Tryd.prog 91 i13 x30 w fun w =>
    DrawS w fun C w =>
    stillS C w (fun w k => sLoad Tryd.prog 91 i13 w k) fun x34 =>
    sCall Tryd.prog 75 [x17] w fun x33 w => C w ∧
    stillS C w (fun w k => sBuild Tryd.prog 119 [(0, x33), (1, x34)] w k) fun x35 =>
    sStore Tryd.prog 119 x8 x35 w fun w => C w ∧
    sLoad Tryd.prog 119 x8 w fun v w' => w' = w ∧ K (.tuple #[v, x17, (.int .i64 0)]) w)

def rope_Rope_find.sc : SC := (.seq (.reg (.op 0 (.op 1 (.op 2 .done)))) (.seq (.reg (.op 0 (.op 1 (.op 2 (.op 3 .done))))) (.seq (.seq (.reg (.op 0 (.op 1 (.op 2 (.op 3 (.op 4 (.op 5 .done))))))) (.seq (.reg (.op 0 (.op 1 .done))) (.cond (.seq (.reg (.op 0 (.op 1 (.op 2 (.op 3 (.op 4 .done)))))) .nop) .nop))) (.seq (.reg (.op 0 (.op 1 (.op 2 (.op 3 (.op 4 (.op 5 (.op 6 (.op 7 .done))))))))) (.seq (.draw (.op 0 (.op 2 (.op 4 (.op 1 (.op 3 (.op 5 (.op 6 (.op 7 .done))))))))) .nop)))))

theorem rope_Rope_find.ok : okC Tryd.f74.ntmps rope_Rope_find.sc (bodyOf Tryd.f74) = true := by kernel_rfl

theorem rope_Rope_find.eq {K : K1} {r0 dim1 at2 bias3 : Value} {w : World} : rope_Rope_find K r0 dim1 at2 bias3 w = codeS Tryd.prog rope_Rope_find.sc (bodyOf Tryd.f74) (argsF 0 [r0, dim1, at2, bias3]) w (retQ Tryd.prog Tryd.f74.results.toList K) := by kernel_rfl

theorem rope_Rope_find.call {K : K1} {r0 dim1 at2 bias3 : Value} {w : World} (h : rope_Rope_find K r0 dim1 at2 bias3 w) : sCall Tryd.prog 74 [r0, dim1, at2, bias3] w K := sCall_code mixed Tryd.func74 (by kernel_rfl) rfl rfl rope_Rope_find.ok rope_Rope_find.eq h

abbrev rope_Rope_find.n : Nat := 74

/-- '(*bodkin seek.Cursor).Start' -/
def seek_Cursor_Start (K : K1) (c0 : Value) (w : World) : Prop :=
  sAlloc Tryd.prog 114 w fun x2 w =>
  sBin Tryd.prog .eql 134 false true c0 (.pointer none) w fun x4 w =>
  sIf x4 (
    sBuild Tryd.prog 114 [] w fun x5 w =>
    sStore Tryd.prog 114 x2 x5 w fun w =>
    sLoad Tryd.prog 114 x2 w fun v w' => w' = w ∧ K v w) (
    sNil c0 w fun x7 w =>
    sFldA Tryd.prog 178 x7 1 w fun x8 w =>
    sFldA Tryd.prog 176 x8 1 w fun x9 w =>
    sLoad Tryd.prog 114 x9 w fun x10 w =>
    sStore Tryd.prog 114 x2 x10 w fun w =>
    sLoad Tryd.prog 114 x2 w fun v w' => w' = w ∧ K v w)

def seek_Cursor_Start.sc : SC := (.seq (.reg (.op 0 .done)) (.seq (.seq (.reg (.op 0 (.op 1 .done))) (.cond (.seq (.reg (.op 0 (.op 1 .done))) .nop) .nop)) (.seq (.reg (.op 0 (.op 1 (.op 2 (.op 3 (.op 4 (.op 5 .done))))))) .nop)))

theorem seek_Cursor_Start.ok : okC Tryd.f75.ntmps seek_Cursor_Start.sc (bodyOf Tryd.f75) = true := by kernel_rfl

theorem seek_Cursor_Start.eq {K : K1} {c0 : Value} {w : World} : seek_Cursor_Start K c0 w = codeS Tryd.prog seek_Cursor_Start.sc (bodyOf Tryd.f75) (argsF 0 [c0]) w (retQ Tryd.prog Tryd.f75.results.toList K) := by kernel_rfl

theorem seek_Cursor_Start.call {K : K1} {c0 : Value} {w : World} (h : seek_Cursor_Start K c0 w) : sCall Tryd.prog 75 [c0] w K := sCall_code mixed Tryd.func75 (by kernel_rfl) rfl rfl seek_Cursor_Start.ok seek_Cursor_Start.eq h

abbrev seek_Cursor_Start.n : Nat := 75

end S
end Go.Proofs.YtplpkeoakclobaaDoor

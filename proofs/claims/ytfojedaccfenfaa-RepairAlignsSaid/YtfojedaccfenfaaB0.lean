/- Printed by wip/tools/codes.py: the functions' numbers. -/
import Derived.Test.YtfojedaccfenfaaA21
import Derived.Test.YtfojedaccfenfaaProg
namespace Go.Proofs.Ytfojedaccfenfaa
namespace Abs
set_option linter.unusedVariables false
noncomputable section

noncomputable abbrev prog : Program := Try.prog
abbrev F_parlkeep4_TreePutAt : FuncId := 3
abbrev F_parllaw4_TreeParts : FuncId := 4
abbrev F_parllaw4_EditApplies : FuncId := 5
abbrev F_parlkeep4_EditUndone : FuncId := 6
abbrev F_parlkeep4_EditComposed : FuncId := 7
abbrev F_parllaw4_TreeOrder : FuncId := 8
abbrev F_parlkeep4_EditDiamond : FuncId := 9
abbrev F_parlkeep4_TreeOrderTotal : FuncId := 10
abbrev F_parllaw4_TreePlaces : FuncId := 11
abbrev F_parlkeep4_TreePlaced : FuncId := 12
abbrev F_parllaw4_RepairAligns : FuncId := 13
abbrev F_parlkeep4_RepairRun : FuncId := 14
abbrev F_tree_Size : FuncId := 15
abbrev F_parlkeep4_two : FuncId := 16
abbrev F_parlmake_Grammar : FuncId := 17
abbrev F_parlmake_Tree : FuncId := 18
abbrev F_parlkeep4_Path : FuncId := 19
abbrev F_tree_At : FuncId := 20
abbrev F_tree_Put : FuncId := 21
abbrev F_parlkeep4_same : FuncId := 22
abbrev F_parllaw4_two : FuncId := 23
abbrev F_slices_Equal_int_int : FuncId := 24
abbrev F_tree_Word : FuncId := 25
abbrev F_parlref4_Below : FuncId := 26
abbrev F_parlref4_SameTree : FuncId := 27
abbrev F_parlref4_With : FuncId := 28
abbrev F_tree_Clone : FuncId := 29
abbrev F_parlref4_Nodes : FuncId := 30
abbrev F_parlref4_Yield : FuncId := 31
abbrev F_edit_Apply : FuncId := 32
abbrev F_parlref4_EditFault : FuncId := 33
abbrev F_edit_Inverse : FuncId := 34
abbrev F_edit_Check : FuncId := 35
abbrev F_parlref4_SameEdit : FuncId := 36
abbrev F_parlref4_Edited : FuncId := 37
abbrev F_parlmake_Word : FuncId := 38
abbrev F_parlkeep4_Edit : FuncId := 39
abbrev F_edit_Compose : FuncId := 40
abbrev F_tree_Compare : FuncId := 41
abbrev F_parlref4_Order : FuncId := 42
abbrev F_edit_Over : FuncId := 43
abbrev F_tree_Places : FuncId := 44
abbrev F_parlref4_Paths : FuncId := 45
abbrev F_parlref4_Range : FuncId := 46
abbrev F_tree_Leaf : FuncId := 47
abbrev F_tree_Cover : FuncId := 48
abbrev F_parlref4_Inside : FuncId := 49
abbrev F_parlmake_Below : FuncId := 50
abbrev F_parlkeep4_contains : FuncId := 51
abbrev F_repair_Align : FuncId := 52
abbrev F_parllaw4_costs : FuncId := 53
abbrev F_parlref4_Weigh : FuncId := 54
abbrev F_slices_Equal_repair_Op_repair_Op : FuncId := 55
abbrev F_parllaw4_aligned : FuncId := 56
abbrev F_repair_Run : FuncId := 57
abbrev F_parllaw4_performed : FuncId := 58
abbrev F_parlkeep4_price : FuncId := 59
abbrev F_tree_leaf : FuncId := 60
abbrev F_parlmake_stream_next : FuncId := 61
abbrev F_parlmake_has : FuncId := 62
abbrev F_parlmake_tree : FuncId := 63
abbrev F_parlkeep4_reader_next : FuncId := 64
abbrev F_slices_EqualFunc_api_Tree_api_Tree_api_Tree_api_Tree : FuncId := 65
abbrev F_tree_word : FuncId := 66
abbrev F_slices_Clone_api_Tree_api_Tree : FuncId := 67
abbrev F_edit_apply : FuncId := 68
abbrev F_slices_Clone_int_int : FuncId := 69
abbrev F_edit_Edit_shift : FuncId := 70
abbrev F_cmp_Compare_int : FuncId := 71
abbrev F_slices_Compare_int_int : FuncId := 72
abbrev F_tree_rules : FuncId := 73
abbrev F_parlref4_Codes : FuncId := 74
abbrev F_parlref4_sign : FuncId := 75
abbrev F_tree_walk : FuncId := 76
abbrev F_slices_IndexFunc_api_Tree_api_Tree : FuncId := 77
abbrev F_tree_Cover_1 : FuncId := 78
abbrev F_repair_costs : FuncId := 79
abbrev F_repair_distances : FuncId := 80
abbrev F_parlref4_Weigh_1 : FuncId := 81
abbrev F_slices_Concat_int_int : FuncId := 82
abbrev F_cmp_isNaN_int : FuncId := 83
abbrev F_slices_ContainsFunc_int_int : FuncId := 84
abbrev F_repair_costs_1 : FuncId := 85
abbrev F_slices_Grow_int_int : FuncId := 86
abbrev F_slices_IndexFunc_int_int : FuncId := 87

end
end Abs
end Go.Proofs.Ytfojedaccfenfaa

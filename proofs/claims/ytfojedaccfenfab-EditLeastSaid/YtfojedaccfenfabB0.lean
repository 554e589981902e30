/- Printed by wip/tools/codes.py: the functions' numbers. -/
import Derived.Test.YtfojedaccfenfabA21
import Derived.Test.YtfojedaccfenfabProg
namespace Go.Proofs.Ytfojedaccfenfab
namespace Abs
set_option linter.unusedVariables false
noncomputable section

noncomputable abbrev prog : Program := Try.prog
abbrev F_parllaw4_EditCombines : FuncId := 3
abbrev F_parlkeep4_EditLeast : FuncId := 4
abbrev F_parllaw4_EditScripts : FuncId := 5
abbrev F_parllaw4_TreeChecks : FuncId := 6
abbrev F_parlref4_SameEdit : FuncId := 7
abbrev F_edit_Between : FuncId := 8
abbrev F_edit_Compose : FuncId := 9
abbrev F_parlref4_Joined : FuncId := 10
abbrev F_parlref4_Change : FuncId := 11
abbrev F_parlref4_EditFault : FuncId := 12
abbrev F_parlref4_Moved : FuncId := 13
abbrev F_edit_Over : FuncId := 14
abbrev F_edit_Distance : FuncId := 15
abbrev F_parlmake_Word : FuncId := 16
abbrev F_edit_Script : FuncId := 17
abbrev F_edit_Run : FuncId := 18
abbrev F_slices_Equal_int_int : FuncId := 19
abbrev F_slices_EqualFunc_edit_Edit_edit_Edit_edit_Edit_edit_Edit : FuncId := 20
abbrev F_parlref4_Edits : FuncId := 21
abbrev F_parlref4_Common : FuncId := 22
abbrev F_parlref4_RunFault : FuncId := 23
abbrev F_parlref4_Ran : FuncId := 24
abbrev F_tree_Check : FuncId := 25
abbrev F_parllaw4_list : FuncId := 26
abbrev F_parllaw4_two : FuncId := 27
abbrev F_gram_Check : FuncId := 28
abbrev F_parlref4_TreeFault : FuncId := 29
abbrev F_parlref4_Label : FuncId := 30
abbrev F_tree_Symbol : FuncId := 31
abbrev F_slices_Clone_int_int : FuncId := 32
abbrev F_edit_Apply : FuncId := 33
abbrev F_edit_Edit_shift : FuncId := 34
abbrev F_parlref4_Edited : FuncId := 35
abbrev F_parlref4_Before : FuncId := 36
abbrev F_edit_Check : FuncId := 37
abbrev F_edit_distances : FuncId := 38
abbrev F_parlmake_Below : FuncId := 39
abbrev F_slices_Backward_edit_Edit_edit_Edit : FuncId := 40
abbrev F_edit_apply : FuncId := 41
abbrev F_tree_Size : FuncId := 42
abbrev F_tree_valid : FuncId := 43
abbrev F_gram_Compare : FuncId := 44
abbrev F_parlref4_Nodes : FuncId := 45
abbrev F_slices_Equal_api_Sym_api_Sym : FuncId := 46
abbrev F_tree_symbol : FuncId := 47
abbrev F_slices_Backward_edit_Edit_edit_Edit_1 : FuncId := 48
abbrev F_slices_Concat_int_int : FuncId := 49
abbrev F_tree_leaf : FuncId := 50
abbrev F_cmp_Compare_int : FuncId := 51
abbrev F_slices_CompareFunc_api_Sym_api_Sym_api_Sym_api_Sym : FuncId := 52
abbrev F_gram_Order : FuncId := 53
abbrev F_slices_Grow_int_int : FuncId := 54
abbrev F_cmp_isNaN_int : FuncId := 55

end
end Abs
end Go.Proofs.Ytfojedaccfenfab

/- Printed by wip/tools/codes.py: the functions' numbers. -/
import Derived.Test.YtcdbikoonobodaaA21
import Derived.Test.YtcdbikoonobodaaProg
namespace Go.Proofs.Ytcdbikoonobodaa
namespace Abs
set_option linter.unusedVariables false
noncomputable section

noncomputable abbrev prog : Program := Try.prog
abbrev F_parllaw4_EditApplies : FuncId := 3
abbrev F_parllaw4_EditCombines : FuncId := 4
abbrev F_edit_Apply : FuncId := 5
abbrev F_slices_Equal_int_int : FuncId := 6
abbrev F_parlref4_EditFault : FuncId := 7
abbrev F_edit_Inverse : FuncId := 8
abbrev F_edit_Check : FuncId := 9
abbrev F_parlref4_SameEdit : FuncId := 10
abbrev F_parlref4_Edited : FuncId := 11
abbrev F_edit_Between : FuncId := 12
abbrev F_edit_Compose : FuncId := 13
abbrev F_parlref4_Joined : FuncId := 14
abbrev F_parlref4_Change : FuncId := 15
abbrev F_parlref4_Moved : FuncId := 16
abbrev F_edit_Over : FuncId := 17
abbrev F_edit_apply : FuncId := 18
abbrev F_slices_Clone_int_int : FuncId := 19
abbrev F_edit_Edit_shift : FuncId := 20
abbrev F_parlref4_Before : FuncId := 21
abbrev F_slices_Concat_int_int : FuncId := 22
abbrev F_slices_Grow_int_int : FuncId := 23

end
end Abs
end Go.Proofs.Ytcdbikoonobodaa

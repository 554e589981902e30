/- Printed by wip/tools/codes.py: the functions' numbers. -/
import Derived.Test.YtbdcklchcdkhbaaA21
import Derived.Test.YtbdcklchcdkhbaaProg
namespace Go.Proofs.Ytbdcklchcdkhbaa
namespace Abs
set_option linter.unusedVariables false
noncomputable section

noncomputable abbrev prog : Program := Try.prog
abbrev F_parllaw4_AttrChecks : FuncId := 3
abbrev F_attr_Check : FuncId := 4
abbrev F_parllaw4_list : FuncId := 5
abbrev F_parllaw4_leaves : FuncId := 6
abbrev F_parllaw4_faulty : FuncId := 7
abbrev F_attr_Find : FuncId := 8
abbrev F_parllaw4_sameExpr : FuncId := 9
abbrev F_gram_Check : FuncId := 10
abbrev F_attr_System_attrs : FuncId := 11
abbrev F_attr_System_equation : FuncId := 12
abbrev F_attr_System_occurrences : FuncId := 13
abbrev F_parlref4_SystemFault : FuncId := 14
abbrev F_slices_EqualFunc_attr_Expr_attr_Expr_attr_Expr_attr_Expr : FuncId := 15
abbrev F_gram_Compare : FuncId := 16
abbrev F_attr_size : FuncId := 17
abbrev F_attr_System_occurs : FuncId := 18
abbrev F_attr_System_defined : FuncId := 19
abbrev F_attr_System_expr : FuncId := 20
abbrev F_parlref4_exprs : FuncId := 21
abbrev F_parlref4_occurs : FuncId := 22
abbrev F_parlref4_wellFormed : FuncId := 23
abbrev F_slices_ContainsFunc_attr_Eq_attr_Eq : FuncId := 24
abbrev F_parlref4_SystemFault_1 : FuncId := 25
abbrev F_cmp_Compare_int : FuncId := 26
abbrev F_slices_CompareFunc_api_Sym_api_Sym_api_Sym_api_Sym : FuncId := 27
abbrev F_gram_Order : FuncId := 28
abbrev F_attr_symbol : FuncId := 29
abbrev F_slices_ContainsFunc_attr_Expr_attr_Expr : FuncId := 30
abbrev F_attr_System_expr_1 : FuncId := 31
abbrev F_parlref4_at : FuncId := 32
abbrev F_slices_IndexFunc_attr_Eq_attr_Eq : FuncId := 33
abbrev F_cmp_isNaN_int : FuncId := 34
abbrev F_slices_IndexFunc_attr_Expr_attr_Expr : FuncId := 35

end
end Abs
end Go.Proofs.Ytbdcklchcdkhbaa

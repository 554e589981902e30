/- Printed by wip/tools/codes.py: the functions' numbers. -/
import Derived.Test.YtoeehfnkcfeoaaaA21
import Derived.Test.YtoeehfnkcfeoaaaProg
namespace Go.Proofs.Ytoeehfnkcfeoaaa
namespace Abs
set_option linter.unusedVariables false
noncomputable section

noncomputable abbrev prog : Program := Try.prog
abbrev F_parlkeep4_AttrConstant : FuncId := 3
abbrev F_attr_Calc : FuncId := 4
abbrev F_parlkeep4_AttrConstant_1 : FuncId := 5
abbrev F_parlmake_Grammar : FuncId := 6
abbrev F_parlkeep4_AttrConstant_2 : FuncId := 7
abbrev F_parlmake_Below : FuncId := 8
abbrev F_parlkeep4_System : FuncId := 9
abbrev F_parlkeep4_constant : FuncId := 10
abbrev F_attr_Refs : FuncId := 11
abbrev F_slices_Max_int_int : FuncId := 12
abbrev F_parlmake_stream_next : FuncId := 13
abbrev F_parlmake_has : FuncId := 14
abbrev F_parlkeep4_system : FuncId := 15
abbrev F_slices_SortFunc_attr_Ref_attr_Ref : FuncId := 16
abbrev F_attr_Refs_1 : FuncId := 17
abbrev F_cmp_Or_int : FuncId := 18
abbrev F_cmp_Compare_int : FuncId := 19
abbrev F_slices_Compact_attr_Ref_attr_Ref : FuncId := 20
abbrev F_parlkeep4_attributes : FuncId := 21
abbrev F_parlkeep4_occurrences : FuncId := 22
abbrev F_slices_Clone_attr_Ref_attr_Ref : FuncId := 23
abbrev F_parlkeep4_value : FuncId := 24
abbrev F_slices_pdqsortCmpFunc_attr_Ref : FuncId := 25
abbrev F_math_bits_Len : FuncId := 26
abbrev F_cmp_isNaN_int : FuncId := 27
abbrev F_parlkeep4_reader_next : FuncId := 28
abbrev F_slices_insertionSortCmpFunc_attr_Ref : FuncId := 29
abbrev F_slices_heapSortCmpFunc_attr_Ref : FuncId := 30
abbrev F_slices_breakPatternsCmpFunc_attr_Ref : FuncId := 31
abbrev F_slices_choosePivotCmpFunc_attr_Ref : FuncId := 32
abbrev F_slices_reverseRangeCmpFunc_attr_Ref : FuncId := 33
abbrev F_slices_partialInsertionSortCmpFunc_attr_Ref : FuncId := 34
abbrev F_slices_partitionEqualCmpFunc_attr_Ref : FuncId := 35
abbrev F_slices_partitionCmpFunc_attr_Ref : FuncId := 36
abbrev F_math_bits_Len32 : FuncId := 37
abbrev F_math_bits_Len64 : FuncId := 38
abbrev F_slices_siftDownCmpFunc_attr_Ref : FuncId := 39
abbrev F_slices_nextPowerOfTwo : FuncId := 40
abbrev F_slices_xorshift_Next : FuncId := 41
abbrev F_slices_medianAdjacentCmpFunc_attr_Ref : FuncId := 42
abbrev F_slices_medianCmpFunc_attr_Ref : FuncId := 43
abbrev F_slices_order2CmpFunc_attr_Ref : FuncId := 44

end
end Abs
end Go.Proofs.Ytoeehfnkcfeoaaa

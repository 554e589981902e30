/- Printed by wip/tools/codes.py: the functions' numbers. -/
import Derived.Test.YtokdeeagghhliaaA21
import Derived.Test.YtokdeeagghhliaaProg
namespace Go.Proofs.Ytokdeeagghhliaa
namespace Abs
set_option linter.unusedVariables false
noncomputable section

noncomputable abbrev prog : Program := Try.prog
abbrev F_parlkeep4_HoleFits : FuncId := 3
abbrev F_parlkeep4_HoleTrees : FuncId := 4
abbrev F_hole_Fill : FuncId := 5
abbrev F_parlkeep4_list : FuncId := 6
abbrev F_parlmake_Grammar : FuncId := 7
abbrev F_parlmake_Tree : FuncId := 8
abbrev F_tree_Word : FuncId := 9
abbrev F_parlkeep4_terminals : FuncId := 10
abbrev F_parlmake_Below : FuncId := 11
abbrev F_mean_Accepts : FuncId := 12
abbrev F_slices_Compare_int_int : FuncId := 13
abbrev F_parlkeep4_Path : FuncId := 14
abbrev F_tree_At : FuncId := 15
abbrev F_tree_Symbol : FuncId := 16
abbrev F_parlkeep4_frontier : FuncId := 17
abbrev F_hole_Check : FuncId := 18
abbrev F_hole_whole : FuncId := 19
abbrev F_slices_Clone_int_int : FuncId := 20
abbrev F_parlmake_stream_next : FuncId := 21
abbrev F_parlmake_has : FuncId := 22
abbrev F_parlmake_tree : FuncId := 23
abbrev F_tree_word : FuncId := 24
abbrev F_mean_check : FuncId := 25
abbrev F_mean_derived : FuncId := 26
abbrev F_mean_ends_is : FuncId := 27
abbrev F_cmp_Compare_int : FuncId := 28
abbrev F_parlkeep4_reader_next : FuncId := 29
abbrev F_tree_leaf : FuncId := 30
abbrev F_tree_Clone : FuncId := 31
abbrev F_tree_Check : FuncId := 32
abbrev F_tree_symbol : FuncId := 33
abbrev F_gram_Check : FuncId := 34
abbrev F_hole_table_words : FuncId := 35
abbrev F_hole_table_parts : FuncId := 36
abbrev F_hole_table_symbol : FuncId := 37
abbrev F_gram_Word : FuncId := 38
abbrev F_mean_ends_after : FuncId := 39
abbrev F_cmp_isNaN_int : FuncId := 40
abbrev F_slices_Clone_api_Tree_api_Tree : FuncId := 41
abbrev F_tree_Size : FuncId := 42
abbrev F_tree_valid : FuncId := 43
abbrev F_gram_Compare : FuncId := 44
abbrev F_hole_table_free : FuncId := 45
abbrev F_hole_join : FuncId := 46
abbrev F_hole_shorter : FuncId := 47
abbrev F_hole_table_row : FuncId := 48
abbrev F_hole_table_cell : FuncId := 49
abbrev F_slices_CompareFunc_api_Sym_api_Sym_api_Sym_api_Sym : FuncId := 50
abbrev F_gram_Order : FuncId := 51
abbrev F_slices_Concat_int_int : FuncId := 52
abbrev F_slices_Grow_int_int : FuncId := 53

end
end Abs
end Go.Proofs.Ytokdeeagghhliaa

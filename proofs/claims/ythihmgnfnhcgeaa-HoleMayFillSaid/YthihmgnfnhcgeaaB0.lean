/- Printed by wip/tools/codes.py: the functions' numbers. -/
import Derived.Test.YthihmgnfnhcgeaaA21
import Derived.Test.YthihmgnfnhcgeaaProg
namespace Go.Proofs.Ythihmgnfnhcgeaa
namespace Abs
set_option linter.unusedVariables false
noncomputable section

noncomputable abbrev prog : Program := Try.prog
abbrev F_parllaw4_HoleFills : FuncId := 3
abbrev F_parlkeep4_HoleMayFill : FuncId := 4
abbrev F_parlkeep4_HoleFits : FuncId := 5
abbrev F_parlkeep4_HoleTrees : FuncId := 6
abbrev F_parllaw4_HoleTells : FuncId := 7
abbrev F_hole_Fill : FuncId := 8
abbrev F_parllaw4_pairs : FuncId := 9
abbrev F_parllaw4_any : FuncId := 10
abbrev F_slices_Equal_int_int : FuncId := 11
abbrev F_parllaw4_patternFault : FuncId := 12
abbrev F_hole_Check : FuncId := 13
abbrev F_parlref4_Complete : FuncId := 14
abbrev F_hole_May : FuncId := 15
abbrev F_parlkeep4_list : FuncId := 16
abbrev F_slices_Equal_bool_bool : FuncId := 17
abbrev F_parlmake_Grammar : FuncId := 18
abbrev F_parlkeep4_terminals : FuncId := 19
abbrev F_parlmake_Word : FuncId := 20
abbrev F_parlmake_Below : FuncId := 21
abbrev F_slices_Contains_bool_bool : FuncId := 22
abbrev F_parlmake_Tree : FuncId := 23
abbrev F_tree_Word : FuncId := 24
abbrev F_mean_Accepts : FuncId := 25
abbrev F_slices_Compare_int_int : FuncId := 26
abbrev F_parlkeep4_Path : FuncId := 27
abbrev F_tree_At : FuncId := 28
abbrev F_tree_Symbol : FuncId := 29
abbrev F_parlkeep4_frontier : FuncId := 30
abbrev F_hole_Next : FuncId := 31
abbrev F_parllaw4_mays : FuncId := 32
abbrev F_parllaw4_nexts : FuncId := 33
abbrev F_hole_whole : FuncId := 34
abbrev F_slices_Clone_int_int : FuncId := 35
abbrev F_gram_Check : FuncId := 36
abbrev F_parlref4_Shortest : FuncId := 37
abbrev F_parlref4_Complete_1 : FuncId := 38
abbrev F_parlref4_fits : FuncId := 39
abbrev F_parlref4_Complete_2 : FuncId := 40
abbrev F_parlref4_solve : FuncId := 41
abbrev F_parlref4_grid_of : FuncId := 42
abbrev F_slices_Clone_api_Sym_api_Sym : FuncId := 43
abbrev F_parlmake_stream_next : FuncId := 44
abbrev F_parlmake_has : FuncId := 45
abbrev F_slices_Index_bool_bool : FuncId := 46
abbrev F_parlmake_tree : FuncId := 47
abbrev F_tree_word : FuncId := 48
abbrev F_mean_check : FuncId := 49
abbrev F_mean_derived : FuncId := 50
abbrev F_mean_ends_is : FuncId := 51
abbrev F_cmp_Compare_int : FuncId := 52
abbrev F_parlkeep4_reader_next : FuncId := 53
abbrev F_tree_leaf : FuncId := 54
abbrev F_tree_Clone : FuncId := 55
abbrev F_tree_Check : FuncId := 56
abbrev F_tree_symbol : FuncId := 57
abbrev F_hole_begins : FuncId := 58
abbrev F_parlref4_Begins : FuncId := 59
abbrev F_hole_table_words : FuncId := 60
abbrev F_hole_table_parts : FuncId := 61
abbrev F_hole_table_symbol : FuncId := 62
abbrev F_gram_Compare : FuncId := 63
abbrev F_parlref4_Shortest_1 : FuncId := 64
abbrev F_parlref4_Shortest_2 : FuncId := 65
abbrev F_parlref4_Shortest_3 : FuncId := 66
abbrev F_parlref4_grid_list : FuncId := 67
abbrev F_parlref4_less : FuncId := 68
abbrev F_gram_Word : FuncId := 69
abbrev F_mean_ends_after : FuncId := 70
abbrev F_cmp_isNaN_int : FuncId := 71
abbrev F_slices_Clone_api_Tree_api_Tree : FuncId := 72
abbrev F_tree_Size : FuncId := 73
abbrev F_tree_valid : FuncId := 74
abbrev F_hole_table_opens : FuncId := 75
abbrev F_hole_table_goes : FuncId := 76
abbrev F_parlref4_Begins_1 : FuncId := 77
abbrev F_parlref4_Begins_2 : FuncId := 78
abbrev F_parlref4_Opening : FuncId := 79
abbrev F_parlref4_Begins_3 : FuncId := 80
abbrev F_hole_table_free : FuncId := 81
abbrev F_hole_join : FuncId := 82
abbrev F_hole_shorter : FuncId := 83
abbrev F_hole_table_row : FuncId := 84
abbrev F_hole_table_cell : FuncId := 85
abbrev F_slices_CompareFunc_api_Sym_api_Sym_api_Sym_api_Sym : FuncId := 86
abbrev F_gram_Order : FuncId := 87
abbrev F_parlref4_both : FuncId := 88
abbrev F_slices_ContainsFunc_api_Sym_api_Sym : FuncId := 89
abbrev F_hole_table_opens_1 : FuncId := 90
abbrev F_slices_ContainsFunc_int_int : FuncId := 91
abbrev F_hole_table_opens_2 : FuncId := 92
abbrev F_hole_table_opens_3 : FuncId := 93
abbrev F_slices_Contains_int_int : FuncId := 94
abbrev F_parlref4_Opening_1 : FuncId := 95
abbrev F_slices_Concat_int_int : FuncId := 96
abbrev F_slices_IndexFunc_api_Sym_api_Sym : FuncId := 97
abbrev F_slices_IndexFunc_int_int : FuncId := 98
abbrev F_slices_Index_int_int : FuncId := 99
abbrev F_slices_Grow_int_int : FuncId := 100

end
end Abs
end Go.Proofs.Ythihmgnfnhcgeaa

/- wellFormed. Printed by tools/genQ8.py. -/
import Derived.Test.YtbdcklchcdkhbaaQ7
namespace Go.Proofs.Ytbdcklchcdkhbaa
namespace Abs
set_option linter.unusedVariables false
set_option linter.unusedSimpArgs false
set_option maxRecDepth 20000

section
variable (s : Sys) (g : Gr) (rule : Nat) (k m a r : Int) (xs : List Ex)

theorem wf0a (b0 : (k == 0) = true) (b1 : ((xs.length : Int) == 0) = false) : Pure prog F_parlref4_wellFormed [gramD g, sysD s, .int .i64 rule, exD (.mk k m a r xs)] (.bool (false)) := by
  intro n h
  rw [exD_mk]
  refine K_parlref4_wellFormed.calls fun hl => ?_
  unfold C_parlref4_wellFormed
  have hlr := low_rules n g.rules
  have hla := low_ats n s.attrs
  have hle := low_eqs n s.eqs
  have hlx := low_exs n xs
  unfold sysD gramD
  simp -implicitDefEqProofs only [↓symPre, symPost, y_condP, y_condG, run, lver, minD, intsD, eqAll, tupD, splice, Nat.zero_add, Nat.add_zero, Nat.zero_mul, Nat.mul_one, Nat.one_mul, Nat.reduceAdd, Nat.reduceSub, Nat.reduceMul, Nat.reduceLT, Nat.reduceLeDiff, Nat.reduceEqDiff, true_and, and_true, true_implies, if_true, if_false, ite_true, reduceIte, ne_eq, not_false_eq_true, reduceCtorEq, forall_const, bne_self_eq_false, Bool.true_eq_false, Bool.false_eq_true, false_implies, and_self, implies_true, Int.toNat_zero, beq_self_eq_true, decide_true, decide_false, Bool.not_true, Bool.not_false, ↓y_lookv, y_key1, y_mlook, y_mlookn, y_mres1, y_mres0, ↓y_call, List.length_map, b0, b1]
  exact fin_bool hl rfl
theorem wf0b (b0 : (k == 0) = true) (b1 : ((xs.length : Int) == 0) = true) (b2 : decide (m ≥ 0) = false) : Pure prog F_parlref4_wellFormed [gramD g, sysD s, .int .i64 rule, exD (.mk k m a r xs)] (.bool (false)) := by
  intro n h
  rw [exD_mk]
  refine K_parlref4_wellFormed.calls fun hl => ?_
  unfold C_parlref4_wellFormed
  have hlr := low_rules n g.rules
  have hla := low_ats n s.attrs
  have hle := low_eqs n s.eqs
  have hlx := low_exs n xs
  unfold sysD gramD
  simp -implicitDefEqProofs only [↓symPre, symPost, y_condP, y_condG, run, lver, minD, intsD, eqAll, tupD, splice, Nat.zero_add, Nat.add_zero, Nat.zero_mul, Nat.mul_one, Nat.one_mul, Nat.reduceAdd, Nat.reduceSub, Nat.reduceMul, Nat.reduceLT, Nat.reduceLeDiff, Nat.reduceEqDiff, true_and, and_true, true_implies, if_true, if_false, ite_true, reduceIte, ne_eq, not_false_eq_true, reduceCtorEq, forall_const, bne_self_eq_false, Bool.true_eq_false, Bool.false_eq_true, false_implies, and_self, implies_true, Int.toNat_zero, beq_self_eq_true, decide_true, decide_false, Bool.not_true, Bool.not_false, ↓y_lookv, y_key1, y_mlook, y_mlookn, y_mres1, y_mres0, ↓y_call, List.length_map, b0, b1, b2]
  exact fin_bool hl rfl
theorem wf0c (b0 : (k == 0) = true) (b1 : ((xs.length : Int) == 0) = true) (b2 : decide (m ≥ 0) = true) (b3 : decide (m < 1000003) = false) : Pure prog F_parlref4_wellFormed [gramD g, sysD s, .int .i64 rule, exD (.mk k m a r xs)] (.bool (false)) := by
  intro n h
  rw [exD_mk]
  refine K_parlref4_wellFormed.calls fun hl => ?_
  unfold C_parlref4_wellFormed
  have hlr := low_rules n g.rules
  have hla := low_ats n s.attrs
  have hle := low_eqs n s.eqs
  have hlx := low_exs n xs
  unfold sysD gramD
  simp -implicitDefEqProofs only [↓symPre, symPost, y_condP, y_condG, run, lver, minD, intsD, eqAll, tupD, splice, Nat.zero_add, Nat.add_zero, Nat.zero_mul, Nat.mul_one, Nat.one_mul, Nat.reduceAdd, Nat.reduceSub, Nat.reduceMul, Nat.reduceLT, Nat.reduceLeDiff, Nat.reduceEqDiff, true_and, and_true, true_implies, if_true, if_false, ite_true, reduceIte, ne_eq, not_false_eq_true, reduceCtorEq, forall_const, bne_self_eq_false, Bool.true_eq_false, Bool.false_eq_true, false_implies, and_self, implies_true, Int.toNat_zero, beq_self_eq_true, decide_true, decide_false, Bool.not_true, Bool.not_false, ↓y_lookv, y_key1, y_mlook, y_mlookn, y_mres1, y_mres0, ↓y_call, List.length_map, b0, b1, b2, b3]
  exact fin_bool hl rfl
theorem wf0d (b0 : (k == 0) = true) (b1 : ((xs.length : Int) == 0) = true) (b2 : decide (m ≥ 0) = true) (b3 : decide (m < 1000003) = true) : Pure prog F_parlref4_wellFormed [gramD g, sysD s, .int .i64 rule, exD (.mk k m a r xs)] (.bool ((a == 0 && r == 0))) := by
  intro n h
  rw [exD_mk]
  refine K_parlref4_wellFormed.calls fun hl => ?_
  unfold C_parlref4_wellFormed
  have hlr := low_rules n g.rules
  have hla := low_ats n s.attrs
  have hle := low_eqs n s.eqs
  have hlx := low_exs n xs
  unfold sysD gramD
  simp -implicitDefEqProofs only [↓symPre, symPost, y_condP, y_condG, run, lver, minD, intsD, eqAll, tupD, splice, Nat.zero_add, Nat.add_zero, Nat.zero_mul, Nat.mul_one, Nat.one_mul, Nat.reduceAdd, Nat.reduceSub, Nat.reduceMul, Nat.reduceLT, Nat.reduceLeDiff, Nat.reduceEqDiff, true_and, and_true, true_implies, if_true, if_false, ite_true, reduceIte, ne_eq, not_false_eq_true, reduceCtorEq, forall_const, bne_self_eq_false, Bool.true_eq_false, Bool.false_eq_true, false_implies, and_self, implies_true, Int.toNat_zero, beq_self_eq_true, decide_true, decide_false, Bool.not_true, Bool.not_false, ↓y_lookv, y_key1, y_mlook, y_mlookn, y_mres1, y_mres0, ↓y_call, List.length_map, b0, b1, b2, b3]
  exact fin_bool hl (by simp)
theorem wf1a (b0 : (k == 0) = false) (b1 : (k == 1) = true) (b2 : ((xs.length : Int) == 0) = false) : Pure prog F_parlref4_wellFormed [gramD g, sysD s, .int .i64 rule, exD (.mk k m a r xs)] (.bool (false)) := by
  intro n h
  rw [exD_mk]
  refine K_parlref4_wellFormed.calls fun hl => ?_
  unfold C_parlref4_wellFormed
  have hlr := low_rules n g.rules
  have hla := low_ats n s.attrs
  have hle := low_eqs n s.eqs
  have hlx := low_exs n xs
  unfold sysD gramD
  simp -implicitDefEqProofs only [↓symPre, symPost, y_condP, y_condG, run, lver, minD, intsD, eqAll, tupD, splice, Nat.zero_add, Nat.add_zero, Nat.zero_mul, Nat.mul_one, Nat.one_mul, Nat.reduceAdd, Nat.reduceSub, Nat.reduceMul, Nat.reduceLT, Nat.reduceLeDiff, Nat.reduceEqDiff, true_and, and_true, true_implies, if_true, if_false, ite_true, reduceIte, ne_eq, not_false_eq_true, reduceCtorEq, forall_const, bne_self_eq_false, Bool.true_eq_false, Bool.false_eq_true, false_implies, and_self, implies_true, Int.toNat_zero, beq_self_eq_true, decide_true, decide_false, Bool.not_true, Bool.not_false, ↓y_lookv, y_key1, y_mlook, y_mlookn, y_mres1, y_mres0, ↓y_call, List.length_map, b0, b1, b2]
  exact fin_bool hl rfl
theorem wf1b (b0 : (k == 0) = false) (b1 : (k == 1) = true) (b2 : ((xs.length : Int) == 0) = true) (b3 : (m == 0) = false) : Pure prog F_parlref4_wellFormed [gramD g, sysD s, .int .i64 rule, exD (.mk k m a r xs)] (.bool (false)) := by
  intro n h
  rw [exD_mk]
  refine K_parlref4_wellFormed.calls fun hl => ?_
  unfold C_parlref4_wellFormed
  have hlr := low_rules n g.rules
  have hla := low_ats n s.attrs
  have hle := low_eqs n s.eqs
  have hlx := low_exs n xs
  unfold sysD gramD
  simp -implicitDefEqProofs only [↓symPre, symPost, y_condP, y_condG, run, lver, minD, intsD, eqAll, tupD, splice, Nat.zero_add, Nat.add_zero, Nat.zero_mul, Nat.mul_one, Nat.one_mul, Nat.reduceAdd, Nat.reduceSub, Nat.reduceMul, Nat.reduceLT, Nat.reduceLeDiff, Nat.reduceEqDiff, true_and, and_true, true_implies, if_true, if_false, ite_true, reduceIte, ne_eq, not_false_eq_true, reduceCtorEq, forall_const, bne_self_eq_false, Bool.true_eq_false, Bool.false_eq_true, false_implies, and_self, implies_true, Int.toNat_zero, beq_self_eq_true, decide_true, decide_false, Bool.not_true, Bool.not_false, ↓y_lookv, y_key1, y_mlook, y_mlookn, y_mres1, y_mres0, ↓y_call, List.length_map, b0, b1, b2, b3]
  exact fin_bool hl rfl
theorem wf1c (hr : rule < g.rules.length) (hx : ∀ r ∈ g.rules, r.right.length < 2 ^ 40) (b0 : (k == 0) = false) (b1 : (k == 1) = true) (b2 : ((xs.length : Int) == 0) = true) (b3 : (m == 0) = true) : Pure prog F_parlref4_wellFormed [gramD g, sysD s, .int .i64 rule, exD (.mk k m a r xs)] (.bool (occN s g rule a r)) := by
  intro n h
  rw [exD_mk]
  refine K_parlref4_wellFormed.calls fun hl => ?_
  unfold C_parlref4_wellFormed
  have ps := pure_occursR s g rule a r hr hx
  have hlr := low_rules n g.rules
  have hla := low_ats n s.attrs
  have hle := low_eqs n s.eqs
  have hlx := low_exs n xs
  unfold sysD gramD at *
  simp -implicitDefEqProofs only [↓symPre, symPost, y_condP, y_condG, run, lver, minD, intsD, eqAll, tupD, splice, Nat.zero_add, Nat.add_zero, Nat.zero_mul, Nat.mul_one, Nat.one_mul, Nat.reduceAdd, Nat.reduceSub, Nat.reduceMul, Nat.reduceLT, Nat.reduceLeDiff, Nat.reduceEqDiff, true_and, and_true, true_implies, if_true, if_false, ite_true, reduceIte, ne_eq, not_false_eq_true, reduceCtorEq, forall_const, bne_self_eq_false, Bool.true_eq_false, Bool.false_eq_true, false_implies, and_self, implies_true, Int.toNat_zero, beq_self_eq_true, decide_true, decide_false, Bool.not_true, Bool.not_false, ↓y_lookv, y_key1, y_mlook, y_mlookn, y_mres1, y_mres0, ↓y_call, List.length_map, b0, b1, b2, b3]
  refine ps.call rfl ?_
  simp -implicitDefEqProofs only [↓symPre, symPost, y_condP, y_condG, run, lver, minD, intsD, eqAll, tupD, splice, Nat.zero_add, Nat.add_zero, Nat.zero_mul, Nat.mul_one, Nat.one_mul, Nat.reduceAdd, Nat.reduceSub, Nat.reduceMul, Nat.reduceLT, Nat.reduceLeDiff, Nat.reduceEqDiff, true_and, and_true, true_implies, if_true, if_false, ite_true, reduceIte, ne_eq, not_false_eq_true, reduceCtorEq, forall_const, bne_self_eq_false, Bool.true_eq_false, Bool.false_eq_true, false_implies, and_self, implies_true, Int.toNat_zero, beq_self_eq_true, decide_true, decide_false, Bool.not_true, Bool.not_false, ↓y_lookv, y_key1, y_mlook, y_mlookn, y_mres1, y_mres0, ↓y_call]
  exact fin_bool hl rfl
theorem wf2a (b0 : (k == 0) = false) (b1 : (k == 1) = false) (b2 : (k == 2) = true) (b3 : (m == 0) = false) : Pure prog F_parlref4_wellFormed [gramD g, sysD s, .int .i64 rule, exD (.mk k m a r xs)] (.bool (false)) := by
  intro n h
  rw [exD_mk]
  refine K_parlref4_wellFormed.calls fun hl => ?_
  unfold C_parlref4_wellFormed
  have hlr := low_rules n g.rules
  have hla := low_ats n s.attrs
  have hle := low_eqs n s.eqs
  have hlx := low_exs n xs
  unfold sysD gramD
  simp -implicitDefEqProofs only [↓symPre, symPost, y_condP, y_condG, run, lver, minD, intsD, eqAll, tupD, splice, Nat.zero_add, Nat.add_zero, Nat.zero_mul, Nat.mul_one, Nat.one_mul, Nat.reduceAdd, Nat.reduceSub, Nat.reduceMul, Nat.reduceLT, Nat.reduceLeDiff, Nat.reduceEqDiff, true_and, and_true, true_implies, if_true, if_false, ite_true, reduceIte, ne_eq, not_false_eq_true, reduceCtorEq, forall_const, bne_self_eq_false, Bool.true_eq_false, Bool.false_eq_true, false_implies, and_self, implies_true, Int.toNat_zero, beq_self_eq_true, decide_true, decide_false, Bool.not_true, Bool.not_false, ↓y_lookv, y_key1, y_mlook, y_mlookn, y_mres1, y_mres0, ↓y_call, List.length_map, b0, b1, b2, b3]
  exact fin_bool hl rfl
theorem wf2b (b0 : (k == 0) = false) (b1 : (k == 1) = false) (b2 : (k == 2) = true) (b3 : (m == 0) = true) : Pure prog F_parlref4_wellFormed [gramD g, sysD s, .int .i64 rule, exD (.mk k m a r xs)] (.bool ((a == 0 && r == 0))) := by
  intro n h
  rw [exD_mk]
  refine K_parlref4_wellFormed.calls fun hl => ?_
  unfold C_parlref4_wellFormed
  have hlr := low_rules n g.rules
  have hla := low_ats n s.attrs
  have hle := low_eqs n s.eqs
  have hlx := low_exs n xs
  unfold sysD gramD
  simp -implicitDefEqProofs only [↓symPre, symPost, y_condP, y_condG, run, lver, minD, intsD, eqAll, tupD, splice, Nat.zero_add, Nat.add_zero, Nat.zero_mul, Nat.mul_one, Nat.one_mul, Nat.reduceAdd, Nat.reduceSub, Nat.reduceMul, Nat.reduceLT, Nat.reduceLeDiff, Nat.reduceEqDiff, true_and, and_true, true_implies, if_true, if_false, ite_true, reduceIte, ne_eq, not_false_eq_true, reduceCtorEq, forall_const, bne_self_eq_false, Bool.true_eq_false, Bool.false_eq_true, false_implies, and_self, implies_true, Int.toNat_zero, beq_self_eq_true, decide_true, decide_false, Bool.not_true, Bool.not_false, ↓y_lookv, y_key1, y_mlook, y_mlookn, y_mres1, y_mres0, ↓y_call, List.length_map, b0, b1, b2, b3]
  exact fin_bool hl (by simp)
theorem wf3a (b0 : (k == 0) = false) (b1 : (k == 1) = false) (b2 : (k == 2) = false) (b3 : (k == 3) = true) (b4 : (m == 0) = false) : Pure prog F_parlref4_wellFormed [gramD g, sysD s, .int .i64 rule, exD (.mk k m a r xs)] (.bool (false)) := by
  intro n h
  rw [exD_mk]
  refine K_parlref4_wellFormed.calls fun hl => ?_
  unfold C_parlref4_wellFormed
  have hlr := low_rules n g.rules
  have hla := low_ats n s.attrs
  have hle := low_eqs n s.eqs
  have hlx := low_exs n xs
  unfold sysD gramD
  simp -implicitDefEqProofs only [↓symPre, symPost, y_condP, y_condG, run, lver, minD, intsD, eqAll, tupD, splice, Nat.zero_add, Nat.add_zero, Nat.zero_mul, Nat.mul_one, Nat.one_mul, Nat.reduceAdd, Nat.reduceSub, Nat.reduceMul, Nat.reduceLT, Nat.reduceLeDiff, Nat.reduceEqDiff, true_and, and_true, true_implies, if_true, if_false, ite_true, reduceIte, ne_eq, not_false_eq_true, reduceCtorEq, forall_const, bne_self_eq_false, Bool.true_eq_false, Bool.false_eq_true, false_implies, and_self, implies_true, Int.toNat_zero, beq_self_eq_true, decide_true, decide_false, Bool.not_true, Bool.not_false, ↓y_lookv, y_key1, y_mlook, y_mlookn, y_mres1, y_mres0, ↓y_call, List.length_map, b0, b1, b2, b3, b4]
  exact fin_bool hl rfl
theorem wf3b (b0 : (k == 0) = false) (b1 : (k == 1) = false) (b2 : (k == 2) = false) (b3 : (k == 3) = true) (b4 : (m == 0) = true) : Pure prog F_parlref4_wellFormed [gramD g, sysD s, .int .i64 rule, exD (.mk k m a r xs)] (.bool ((a == 0 && r == 0))) := by
  intro n h
  rw [exD_mk]
  refine K_parlref4_wellFormed.calls fun hl => ?_
  unfold C_parlref4_wellFormed
  have hlr := low_rules n g.rules
  have hla := low_ats n s.attrs
  have hle := low_eqs n s.eqs
  have hlx := low_exs n xs
  unfold sysD gramD
  simp -implicitDefEqProofs only [↓symPre, symPost, y_condP, y_condG, run, lver, minD, intsD, eqAll, tupD, splice, Nat.zero_add, Nat.add_zero, Nat.zero_mul, Nat.mul_one, Nat.one_mul, Nat.reduceAdd, Nat.reduceSub, Nat.reduceMul, Nat.reduceLT, Nat.reduceLeDiff, Nat.reduceEqDiff, true_and, and_true, true_implies, if_true, if_false, ite_true, reduceIte, ne_eq, not_false_eq_true, reduceCtorEq, forall_const, bne_self_eq_false, Bool.true_eq_false, Bool.false_eq_true, false_implies, and_self, implies_true, Int.toNat_zero, beq_self_eq_true, decide_true, decide_false, Bool.not_true, Bool.not_false, ↓y_lookv, y_key1, y_mlook, y_mlookn, y_mres1, y_mres0, ↓y_call, List.length_map, b0, b1, b2, b3, b4]
  exact fin_bool hl (by simp)
theorem wf4a (b0 : (k == 0) = false) (b1 : (k == 1) = false) (b2 : (k == 2) = false) (b3 : (k == 3) = false) (b4 : (k == 4) = true) (b5 : decide ((xs.length : Int) > 0) = false) : Pure prog F_parlref4_wellFormed [gramD g, sysD s, .int .i64 rule, exD (.mk k m a r xs)] (.bool (false)) := by
  intro n h
  rw [exD_mk]
  refine K_parlref4_wellFormed.calls fun hl => ?_
  unfold C_parlref4_wellFormed
  have hlr := low_rules n g.rules
  have hla := low_ats n s.attrs
  have hle := low_eqs n s.eqs
  have hlx := low_exs n xs
  unfold sysD gramD
  simp -implicitDefEqProofs only [↓symPre, symPost, y_condP, y_condG, run, lver, minD, intsD, eqAll, tupD, splice, Nat.zero_add, Nat.add_zero, Nat.zero_mul, Nat.mul_one, Nat.one_mul, Nat.reduceAdd, Nat.reduceSub, Nat.reduceMul, Nat.reduceLT, Nat.reduceLeDiff, Nat.reduceEqDiff, true_and, and_true, true_implies, if_true, if_false, ite_true, reduceIte, ne_eq, not_false_eq_true, reduceCtorEq, forall_const, bne_self_eq_false, Bool.true_eq_false, Bool.false_eq_true, false_implies, and_self, implies_true, Int.toNat_zero, beq_self_eq_true, decide_true, decide_false, Bool.not_true, Bool.not_false, ↓y_lookv, y_key1, y_mlook, y_mlookn, y_mres1, y_mres0, ↓y_call, List.length_map, b0, b1, b2, b3, b4, b5]
  exact fin_bool hl rfl
theorem wf4b (b0 : (k == 0) = false) (b1 : (k == 1) = false) (b2 : (k == 2) = false) (b3 : (k == 3) = false) (b4 : (k == 4) = true) (b5 : decide ((xs.length : Int) > 0) = true) (b6 : (m == 0) = false) : Pure prog F_parlref4_wellFormed [gramD g, sysD s, .int .i64 rule, exD (.mk k m a r xs)] (.bool (false)) := by
  intro n h
  rw [exD_mk]
  refine K_parlref4_wellFormed.calls fun hl => ?_
  unfold C_parlref4_wellFormed
  have hlr := low_rules n g.rules
  have hla := low_ats n s.attrs
  have hle := low_eqs n s.eqs
  have hlx := low_exs n xs
  unfold sysD gramD
  simp -implicitDefEqProofs only [↓symPre, symPost, y_condP, y_condG, run, lver, minD, intsD, eqAll, tupD, splice, Nat.zero_add, Nat.add_zero, Nat.zero_mul, Nat.mul_one, Nat.one_mul, Nat.reduceAdd, Nat.reduceSub, Nat.reduceMul, Nat.reduceLT, Nat.reduceLeDiff, Nat.reduceEqDiff, true_and, and_true, true_implies, if_true, if_false, ite_true, reduceIte, ne_eq, not_false_eq_true, reduceCtorEq, forall_const, bne_self_eq_false, Bool.true_eq_false, Bool.false_eq_true, false_implies, and_self, implies_true, Int.toNat_zero, beq_self_eq_true, decide_true, decide_false, Bool.not_true, Bool.not_false, ↓y_lookv, y_key1, y_mlook, y_mlookn, y_mres1, y_mres0, ↓y_call, List.length_map, b0, b1, b2, b3, b4, b5, b6]
  exact fin_bool hl rfl
theorem wf4c (b0 : (k == 0) = false) (b1 : (k == 1) = false) (b2 : (k == 2) = false) (b3 : (k == 3) = false) (b4 : (k == 4) = true) (b5 : decide ((xs.length : Int) > 0) = true) (b6 : (m == 0) = true) : Pure prog F_parlref4_wellFormed [gramD g, sysD s, .int .i64 rule, exD (.mk k m a r xs)] (.bool ((a == 0 && r == 0))) := by
  intro n h
  rw [exD_mk]
  refine K_parlref4_wellFormed.calls fun hl => ?_
  unfold C_parlref4_wellFormed
  have hlr := low_rules n g.rules
  have hla := low_ats n s.attrs
  have hle := low_eqs n s.eqs
  have hlx := low_exs n xs
  unfold sysD gramD
  simp -implicitDefEqProofs only [↓symPre, symPost, y_condP, y_condG, run, lver, minD, intsD, eqAll, tupD, splice, Nat.zero_add, Nat.add_zero, Nat.zero_mul, Nat.mul_one, Nat.one_mul, Nat.reduceAdd, Nat.reduceSub, Nat.reduceMul, Nat.reduceLT, Nat.reduceLeDiff, Nat.reduceEqDiff, true_and, and_true, true_implies, if_true, if_false, ite_true, reduceIte, ne_eq, not_false_eq_true, reduceCtorEq, forall_const, bne_self_eq_false, Bool.true_eq_false, Bool.false_eq_true, false_implies, and_self, implies_true, Int.toNat_zero, beq_self_eq_true, decide_true, decide_false, Bool.not_true, Bool.not_false, ↓y_lookv, y_key1, y_mlook, y_mlookn, y_mres1, y_mres0, ↓y_call, List.length_map, b0, b1, b2, b3, b4, b5, b6]
  exact fin_bool hl (by simp)
theorem wf5a (b0 : (k == 0) = false) (b1 : (k == 1) = false) (b2 : (k == 2) = false) (b3 : (k == 3) = false) (b4 : (k == 4) = false) (b5 : (k == 5) = true) (b6 : ((xs.length : Int) == 2) = false) : Pure prog F_parlref4_wellFormed [gramD g, sysD s, .int .i64 rule, exD (.mk k m a r xs)] (.bool (false)) := by
  intro n h
  rw [exD_mk]
  refine K_parlref4_wellFormed.calls fun hl => ?_
  unfold C_parlref4_wellFormed
  have hlr := low_rules n g.rules
  have hla := low_ats n s.attrs
  have hle := low_eqs n s.eqs
  have hlx := low_exs n xs
  unfold sysD gramD
  simp -implicitDefEqProofs only [↓symPre, symPost, y_condP, y_condG, run, lver, minD, intsD, eqAll, tupD, splice, Nat.zero_add, Nat.add_zero, Nat.zero_mul, Nat.mul_one, Nat.one_mul, Nat.reduceAdd, Nat.reduceSub, Nat.reduceMul, Nat.reduceLT, Nat.reduceLeDiff, Nat.reduceEqDiff, true_and, and_true, true_implies, if_true, if_false, ite_true, reduceIte, ne_eq, not_false_eq_true, reduceCtorEq, forall_const, bne_self_eq_false, Bool.true_eq_false, Bool.false_eq_true, false_implies, and_self, implies_true, Int.toNat_zero, beq_self_eq_true, decide_true, decide_false, Bool.not_true, Bool.not_false, ↓y_lookv, y_key1, y_mlook, y_mlookn, y_mres1, y_mres0, ↓y_call, List.length_map, b0, b1, b2, b3, b4, b5, b6]
  exact fin_bool hl rfl
theorem wf5b (b0 : (k == 0) = false) (b1 : (k == 1) = false) (b2 : (k == 2) = false) (b3 : (k == 3) = false) (b4 : (k == 4) = false) (b5 : (k == 5) = true) (b6 : ((xs.length : Int) == 2) = true) (b7 : (m == 0) = false) : Pure prog F_parlref4_wellFormed [gramD g, sysD s, .int .i64 rule, exD (.mk k m a r xs)] (.bool (false)) := by
  intro n h
  rw [exD_mk]
  refine K_parlref4_wellFormed.calls fun hl => ?_
  unfold C_parlref4_wellFormed
  have hlr := low_rules n g.rules
  have hla := low_ats n s.attrs
  have hle := low_eqs n s.eqs
  have hlx := low_exs n xs
  unfold sysD gramD
  simp -implicitDefEqProofs only [↓symPre, symPost, y_condP, y_condG, run, lver, minD, intsD, eqAll, tupD, splice, Nat.zero_add, Nat.add_zero, Nat.zero_mul, Nat.mul_one, Nat.one_mul, Nat.reduceAdd, Nat.reduceSub, Nat.reduceMul, Nat.reduceLT, Nat.reduceLeDiff, Nat.reduceEqDiff, true_and, and_true, true_implies, if_true, if_false, ite_true, reduceIte, ne_eq, not_false_eq_true, reduceCtorEq, forall_const, bne_self_eq_false, Bool.true_eq_false, Bool.false_eq_true, false_implies, and_self, implies_true, Int.toNat_zero, beq_self_eq_true, decide_true, decide_false, Bool.not_true, Bool.not_false, ↓y_lookv, y_key1, y_mlook, y_mlookn, y_mres1, y_mres0, ↓y_call, List.length_map, b0, b1, b2, b3, b4, b5, b6, b7]
  exact fin_bool hl rfl
theorem wf5c (b0 : (k == 0) = false) (b1 : (k == 1) = false) (b2 : (k == 2) = false) (b3 : (k == 3) = false) (b4 : (k == 4) = false) (b5 : (k == 5) = true) (b6 : ((xs.length : Int) == 2) = true) (b7 : (m == 0) = true) : Pure prog F_parlref4_wellFormed [gramD g, sysD s, .int .i64 rule, exD (.mk k m a r xs)] (.bool ((a == 0 && r == 0))) := by
  intro n h
  rw [exD_mk]
  refine K_parlref4_wellFormed.calls fun hl => ?_
  unfold C_parlref4_wellFormed
  have hlr := low_rules n g.rules
  have hla := low_ats n s.attrs
  have hle := low_eqs n s.eqs
  have hlx := low_exs n xs
  unfold sysD gramD
  simp -implicitDefEqProofs only [↓symPre, symPost, y_condP, y_condG, run, lver, minD, intsD, eqAll, tupD, splice, Nat.zero_add, Nat.add_zero, Nat.zero_mul, Nat.mul_one, Nat.one_mul, Nat.reduceAdd, Nat.reduceSub, Nat.reduceMul, Nat.reduceLT, Nat.reduceLeDiff, Nat.reduceEqDiff, true_and, and_true, true_implies, if_true, if_false, ite_true, reduceIte, ne_eq, not_false_eq_true, reduceCtorEq, forall_const, bne_self_eq_false, Bool.true_eq_false, Bool.false_eq_true, false_implies, and_self, implies_true, Int.toNat_zero, beq_self_eq_true, decide_true, decide_false, Bool.not_true, Bool.not_false, ↓y_lookv, y_key1, y_mlook, y_mlookn, y_mres1, y_mres0, ↓y_call, List.length_map, b0, b1, b2, b3, b4, b5, b6, b7]
  exact fin_bool hl (by simp)
theorem wf6a (b0 : (k == 0) = false) (b1 : (k == 1) = false) (b2 : (k == 2) = false) (b3 : (k == 3) = false) (b4 : (k == 4) = false) (b5 : (k == 5) = false) (b6 : (k == 6) = true) (b7 : ((xs.length : Int) == 3) = false) : Pure prog F_parlref4_wellFormed [gramD g, sysD s, .int .i64 rule, exD (.mk k m a r xs)] (.bool (false)) := by
  intro n h
  rw [exD_mk]
  refine K_parlref4_wellFormed.calls fun hl => ?_
  unfold C_parlref4_wellFormed
  have hlr := low_rules n g.rules
  have hla := low_ats n s.attrs
  have hle := low_eqs n s.eqs
  have hlx := low_exs n xs
  unfold sysD gramD
  simp -implicitDefEqProofs only [↓symPre, symPost, y_condP, y_condG, run, lver, minD, intsD, eqAll, tupD, splice, Nat.zero_add, Nat.add_zero, Nat.zero_mul, Nat.mul_one, Nat.one_mul, Nat.reduceAdd, Nat.reduceSub, Nat.reduceMul, Nat.reduceLT, Nat.reduceLeDiff, Nat.reduceEqDiff, true_and, and_true, true_implies, if_true, if_false, ite_true, reduceIte, ne_eq, not_false_eq_true, reduceCtorEq, forall_const, bne_self_eq_false, Bool.true_eq_false, Bool.false_eq_true, false_implies, and_self, implies_true, Int.toNat_zero, beq_self_eq_true, decide_true, decide_false, Bool.not_true, Bool.not_false, ↓y_lookv, y_key1, y_mlook, y_mlookn, y_mres1, y_mres0, ↓y_call, List.length_map, b0, b1, b2, b3, b4, b5, b6, b7]
  exact fin_bool hl rfl
theorem wf6b (b0 : (k == 0) = false) (b1 : (k == 1) = false) (b2 : (k == 2) = false) (b3 : (k == 3) = false) (b4 : (k == 4) = false) (b5 : (k == 5) = false) (b6 : (k == 6) = true) (b7 : ((xs.length : Int) == 3) = true) (b8 : (m == 0) = false) : Pure prog F_parlref4_wellFormed [gramD g, sysD s, .int .i64 rule, exD (.mk k m a r xs)] (.bool (false)) := by
  intro n h
  rw [exD_mk]
  refine K_parlref4_wellFormed.calls fun hl => ?_
  unfold C_parlref4_wellFormed
  have hlr := low_rules n g.rules
  have hla := low_ats n s.attrs
  have hle := low_eqs n s.eqs
  have hlx := low_exs n xs
  unfold sysD gramD
  simp -implicitDefEqProofs only [↓symPre, symPost, y_condP, y_condG, run, lver, minD, intsD, eqAll, tupD, splice, Nat.zero_add, Nat.add_zero, Nat.zero_mul, Nat.mul_one, Nat.one_mul, Nat.reduceAdd, Nat.reduceSub, Nat.reduceMul, Nat.reduceLT, Nat.reduceLeDiff, Nat.reduceEqDiff, true_and, and_true, true_implies, if_true, if_false, ite_true, reduceIte, ne_eq, not_false_eq_true, reduceCtorEq, forall_const, bne_self_eq_false, Bool.true_eq_false, Bool.false_eq_true, false_implies, and_self, implies_true, Int.toNat_zero, beq_self_eq_true, decide_true, decide_false, Bool.not_true, Bool.not_false, ↓y_lookv, y_key1, y_mlook, y_mlookn, y_mres1, y_mres0, ↓y_call, List.length_map, b0, b1, b2, b3, b4, b5, b6, b7, b8]
  exact fin_bool hl rfl
theorem wf6c (b0 : (k == 0) = false) (b1 : (k == 1) = false) (b2 : (k == 2) = false) (b3 : (k == 3) = false) (b4 : (k == 4) = false) (b5 : (k == 5) = false) (b6 : (k == 6) = true) (b7 : ((xs.length : Int) == 3) = true) (b8 : (m == 0) = true) : Pure prog F_parlref4_wellFormed [gramD g, sysD s, .int .i64 rule, exD (.mk k m a r xs)] (.bool ((a == 0 && r == 0))) := by
  intro n h
  rw [exD_mk]
  refine K_parlref4_wellFormed.calls fun hl => ?_
  unfold C_parlref4_wellFormed
  have hlr := low_rules n g.rules
  have hla := low_ats n s.attrs
  have hle := low_eqs n s.eqs
  have hlx := low_exs n xs
  unfold sysD gramD
  simp -implicitDefEqProofs only [↓symPre, symPost, y_condP, y_condG, run, lver, minD, intsD, eqAll, tupD, splice, Nat.zero_add, Nat.add_zero, Nat.zero_mul, Nat.mul_one, Nat.one_mul, Nat.reduceAdd, Nat.reduceSub, Nat.reduceMul, Nat.reduceLT, Nat.reduceLeDiff, Nat.reduceEqDiff, true_and, and_true, true_implies, if_true, if_false, ite_true, reduceIte, ne_eq, not_false_eq_true, reduceCtorEq, forall_const, bne_self_eq_false, Bool.true_eq_false, Bool.false_eq_true, false_implies, and_self, implies_true, Int.toNat_zero, beq_self_eq_true, decide_true, decide_false, Bool.not_true, Bool.not_false, ↓y_lookv, y_key1, y_mlook, y_mlookn, y_mres1, y_mres0, ↓y_call, List.length_map, b0, b1, b2, b3, b4, b5, b6, b7, b8]
  exact fin_bool hl (by simp)
theorem wf7 (b0 : (k == 0) = false) (b1 : (k == 1) = false) (b2 : (k == 2) = false) (b3 : (k == 3) = false) (b4 : (k == 4) = false) (b5 : (k == 5) = false) (b6 : (k == 6) = false) : Pure prog F_parlref4_wellFormed [gramD g, sysD s, .int .i64 rule, exD (.mk k m a r xs)] (.bool (false)) := by
  intro n h
  rw [exD_mk]
  refine K_parlref4_wellFormed.calls fun hl => ?_
  unfold C_parlref4_wellFormed
  have hlr := low_rules n g.rules
  have hla := low_ats n s.attrs
  have hle := low_eqs n s.eqs
  have hlx := low_exs n xs
  unfold sysD gramD
  simp -implicitDefEqProofs only [↓symPre, symPost, y_condP, y_condG, run, lver, minD, intsD, eqAll, tupD, splice, Nat.zero_add, Nat.add_zero, Nat.zero_mul, Nat.mul_one, Nat.one_mul, Nat.reduceAdd, Nat.reduceSub, Nat.reduceMul, Nat.reduceLT, Nat.reduceLeDiff, Nat.reduceEqDiff, true_and, and_true, true_implies, if_true, if_false, ite_true, reduceIte, ne_eq, not_false_eq_true, reduceCtorEq, forall_const, bne_self_eq_false, Bool.true_eq_false, Bool.false_eq_true, false_implies, and_self, implies_true, Int.toNat_zero, beq_self_eq_true, decide_true, decide_false, Bool.not_true, Bool.not_false, ↓y_lookv, y_key1, y_mlook, y_mlookn, y_mres1, y_mres0, ↓y_call, List.length_map, b0, b1, b2, b3, b4, b5, b6]
  exact fin_bool hl rfl
end

def wfN (s : Sys) (g : Gr) (rule : Nat) : Ex → Bool
  | .mk k m a r xs =>
    if k = 0 then decide (xs.length = 0 ∧ 0 ≤ m ∧ m < 1000003) && (a == 0 && r == 0)
    else if k = 1 then decide (xs.length = 0 ∧ m = 0) && occN s g rule a r
    else decide ((k = 2 ∨ k = 3 ∨ k = 4 ∧ 0 < xs.length ∨ k = 5 ∧ xs.length = 2 ∨ k = 6 ∧ xs.length = 3) ∧ m = 0) && (a == 0 && r == 0)

theorem pure_wf (s : Sys) (g : Gr) (rule : Nat) (x : Ex) (hr : rule < g.rules.length) (hx : ∀ r ∈ g.rules, r.right.length < 2 ^ 40) : Pure prog F_parlref4_wellFormed [gramD g, sysD s, .int .i64 rule, exD x] (.bool (wfN s g rule x)) := by
  obtain ⟨k, m, a, r, xs⟩ := x
  have l0 : ((xs.length : Int) == 0) = decide (xs.length = 0) := by by_cases h : xs.length = 0 <;> simp [h]
  have l2 : ((xs.length : Int) == 2) = decide (xs.length = 2) := by by_cases h : xs.length = 2 <;> simp [h]; omega
  have l3 : ((xs.length : Int) == 3) = decide (xs.length = 3) := by by_cases h : xs.length = 3 <;> simp [h]; omega
  have l4 : decide ((xs.length : Int) > 0) = decide (0 < xs.length) := by by_cases h : 0 < xs.length <;> simp [h]
  by_cases k0 : k = 0
  · subst k0
    by_cases c1 : xs.length = 0
    · by_cases c2 : 0 ≤ m
      · by_cases c3 : m < 1000003
        · have e : wfN s g rule (.mk 0 m a r xs) = (a == 0 && r == 0) := by simp [wfN, c1, c2, c3]
          rw [e]; exact wf0d s g rule 0 m a r xs rfl (by simp [l0, c1]) (by simp [c2]) (by simp [c3])
        · have e : wfN s g rule (.mk 0 m a r xs) = false := by simp [wfN, c3]
          rw [e]; exact wf0c s g rule 0 m a r xs rfl (by simp [l0, c1]) (by simp [c2]) (by simpa using c3)
      · have e : wfN s g rule (.mk 0 m a r xs) = false := by simp [wfN, c2]
        rw [e]; exact wf0b s g rule 0 m a r xs rfl (by simp [l0, c1]) (by simpa using c2)
    · have e : wfN s g rule (.mk 0 m a r xs) = false := by simp only [wfN, c1]; simp
      rw [e]; exact wf0a s g rule 0 m a r xs rfl (by simp only [l0, c1]; simp)
  have b0 : (k == 0) = false := by simpa using k0
  by_cases k1 : k = 1
  · subst k1
    by_cases c1 : xs.length = 0
    · by_cases c2 : m = 0
      · have e : wfN s g rule (.mk 1 m a r xs) = occN s g rule a r := by simp [wfN, c1, c2]
        rw [e]; exact wf1c s g rule 1 m a r xs hr hx rfl rfl (by simp [l0, c1]) (by simp [c2])
      · have e : wfN s g rule (.mk 1 m a r xs) = false := by simp [wfN, c2]
        rw [e]; exact wf1b s g rule 1 m a r xs rfl rfl (by simp [l0, c1]) (by simpa using c2)
    · have e : wfN s g rule (.mk 1 m a r xs) = false := by simp only [wfN, c1]; simp
      rw [e]; exact wf1a s g rule 1 m a r xs rfl rfl (by simp only [l0, c1]; simp)
  have b1 : (k == 1) = false := by simpa using k1
  have ew : wfN s g rule (.mk k m a r xs) = (decide ((k = 2 ∨ k = 3 ∨ k = 4 ∧ 0 < xs.length ∨ k = 5 ∧ xs.length = 2 ∨ k = 6 ∧ xs.length = 3) ∧ m = 0) && (a == 0 && r == 0)) := by simp [wfN, k0, k1]
  rw [ew]
  by_cases k2 : k = 2
  · subst k2
    by_cases c2 : m = 0
    · have e := wf2b s g rule 2 m a r xs b0 b1 rfl (by simp [c2])
      simpa [c2] using e
    · have e := wf2a s g rule 2 m a r xs b0 b1 rfl (by simpa using c2)
      simpa [c2] using e
  have b2 : (k == 2) = false := by simpa using k2
  by_cases k3 : k = 3
  · subst k3
    by_cases c2 : m = 0
    · have e := wf3b s g rule 3 m a r xs b0 b1 b2 rfl (by simp [c2])
      simpa [c2] using e
    · have e := wf3a s g rule 3 m a r xs b0 b1 b2 rfl (by simpa using c2)
      simpa [c2] using e
  have b3 : (k == 3) = false := by simpa using k3
  by_cases k4 : k = 4
  · subst k4
    by_cases c1 : 0 < xs.length
    · by_cases c2 : m = 0
      · have e := wf4c s g rule 4 m a r xs b0 b1 b2 b3 rfl (by rw [l4]; simp only [c1]; rfl) (by simp [c2])
        simpa only [c1, c2, and_self, or_true, true_or, decide_true, Bool.true_and] using e
      · have e := wf4b s g rule 4 m a r xs b0 b1 b2 b3 rfl (by rw [l4]; simp only [c1]; rfl) (by simpa using c2)
        simpa only [c2, and_false, decide_false, Bool.false_and] using e
    · have e := wf4a s g rule 4 m a r xs b0 b1 b2 b3 rfl (by rw [l4]; simp only [c1]; rfl)
      have f : decide (((4 : Int) = 2 ∨ (4 : Int) = 3 ∨ (4 : Int) = 4 ∧ 0 < xs.length ∨ (4 : Int) = 5 ∧ xs.length = 2 ∨ (4 : Int) = 6 ∧ xs.length = 3) ∧ m = 0) = false := decide_eq_false (by omega)
      rw [f]; exact e
  have b4 : (k == 4) = false := by simpa using k4
  by_cases k5 : k = 5
  · subst k5
    by_cases c1 : xs.length = 2
    · by_cases c2 : m = 0
      · have e := wf5c s g rule 5 m a r xs b0 b1 b2 b3 b4 rfl (by rw [l2]; simp only [c1]; rfl) (by simp [c2])
        simpa only [c1, c2, and_self, or_true, true_or, decide_true, Bool.true_and] using e
      · have e := wf5b s g rule 5 m a r xs b0 b1 b2 b3 b4 rfl (by rw [l2]; simp only [c1]; rfl) (by simpa using c2)
        simpa only [c2, and_false, decide_false, Bool.false_and] using e
    · have e := wf5a s g rule 5 m a r xs b0 b1 b2 b3 b4 rfl (by rw [l2]; simp only [c1]; rfl)
      have f : decide (((5 : Int) = 2 ∨ (5 : Int) = 3 ∨ (5 : Int) = 4 ∧ 0 < xs.length ∨ (5 : Int) = 5 ∧ xs.length = 2 ∨ (5 : Int) = 6 ∧ xs.length = 3) ∧ m = 0) = false := decide_eq_false (by omega)
      rw [f]; exact e
  have b5 : (k == 5) = false := by simpa using k5
  by_cases k6 : k = 6
  · subst k6
    by_cases c1 : xs.length = 3
    · by_cases c2 : m = 0
      · have e := wf6c s g rule 6 m a r xs b0 b1 b2 b3 b4 b5 rfl (by rw [l3]; simp only [c1]; rfl) (by simp [c2])
        simpa only [c1, c2, and_self, or_true, true_or, decide_true, Bool.true_and] using e
      · have e := wf6b s g rule 6 m a r xs b0 b1 b2 b3 b4 b5 rfl (by rw [l3]; simp only [c1]; rfl) (by simpa using c2)
        simpa only [c2, and_false, decide_false, Bool.false_and] using e
    · have e := wf6a s g rule 6 m a r xs b0 b1 b2 b3 b4 b5 rfl (by rw [l3]; simp only [c1]; rfl)
      have f : decide (((6 : Int) = 2 ∨ (6 : Int) = 3 ∨ (6 : Int) = 4 ∧ 0 < xs.length ∨ (6 : Int) = 5 ∧ xs.length = 2 ∨ (6 : Int) = 6 ∧ xs.length = 3) ∧ m = 0) = false := decide_eq_false (by omega)
      rw [f]; exact e
  have b6 : (k == 6) = false := by simpa using k6
  have e := wf7 s g rule k m a r xs b0 b1 b2 b3 b4 b5 b6
  have f : decide ((k = 2 ∨ k = 3 ∨ k = 4 ∧ 0 < xs.length ∨ k = 5 ∧ xs.length = 2 ∨ k = 6 ∧ xs.length = 3) ∧ m = 0) = false := decide_eq_false (by omega)
  rw [f]; exact e

end Abs
end Go.Proofs.Ytbdcklchcdkhbaa

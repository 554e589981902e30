/- TreeOrder. -/
import Derived.Test.YtfojedaccfenfaaE7
namespace Go.Proofs.Ytfojedaccfenfaa
namespace Abs
set_option linter.unusedVariables false
set_option linter.unusedSimpArgs false
set_option maxRecDepth 20000

def leafU : Tree := .mk (-1) 0 []
def twoT : Tree := .mk 0 0 [.mk 1 0 [leafU], leafU]

theorem treeD_leafU : treeD leafU = .agg [.int .i64 (-1), .int .i64 0, .lst []] := by rw [leafU, treeD_mk]; rfl
theorem treeD_two : treeD twoT = .agg [.int .i64 0, .int .i64 0, .lst [.agg [.int .i64 1, .int .i64 0, .lst [.agg [.int .i64 (-1), .int .i64 0, .lst []]]], .agg [.int .i64 (-1), .int .i64 0, .lst []]]] := by
  rw [twoT, treeD_mk]
  simp only [List.map_cons, List.map_nil, treeD_mk, treeD_leafU]

theorem pure_two : Pure prog F_parllaw4_two [] (treeD twoT) := by
  intro n h
  refine K_parllaw4_two.calls fun hl => ?_
  unfold C_parllaw4_two
  simp -implicitDefEqProofs only [↓symPre, symPost, y_condP, y_condG, run, lver, minD, intsD, eqAll, tupD, splice, Nat.zero_add, Nat.add_zero, Nat.zero_mul, Nat.mul_one, Nat.one_mul, Nat.reduceAdd, Nat.reduceSub, Nat.reduceMul, Nat.reduceLT, Nat.reduceLeDiff, Nat.reduceEqDiff, true_and, and_true, true_implies, if_true, if_false, ite_true, reduceIte, ne_eq, not_false_eq_true, reduceCtorEq, forall_const, bne_self_eq_false, Bool.true_eq_false, Bool.false_eq_true, false_implies, and_self, implies_true, Int.toNat_zero, beq_self_eq_true, decide_true, decide_false, Bool.not_true, Bool.not_false, ↓y_call, List.length_append]
  refine fin_wk (d := treeD twoT) hl ?_ ⟨rfl, rfl, rfl⟩
  rw [treeD_two]
  have hleaf : ∀ {X : Wx} (j : Nat) (e : D), (D.agg [.int .i64 (-1), .int .i64 0, .lst []]).cells[j]? = some e → Wk X (nth [.int .i64 (-1), .int .i64 0, .nils] j) e := by
    intro X j e he
    rcases j with _ | _ | _ | j
    · simp [D.cells] at he; subst he; exact .low _ (.int ..)
    · simp [D.cells] at he; subst he; exact .low _ (.int ..)
    · simp [D.cells] at he; subst he; exact .nilsLst
    · simp [D.cells] at he
  refine .agg _ _ rfl fun i c c' hc hc' => ?_
  rcases i with _ | _ | _ | i
  · simp at hc hc'; subst hc; subst hc'; exact .low _ (.int ..)
  · simp at hc hc'; subst hc; subst hc'; exact .low _ (.int ..)
  · simp at hc hc'; subst hc; subst hc'
    refine .frz 3 7 1 0 2 _ _ rfl (by simp) rfl (Nat.le_of_ble_eq_true rfl) (by simp [D.cells]) fun i d hd j e he => ?_
    rcases i with _ | _ | i
    · simp at hd; subst hd
      rcases j with _ | _ | _ | j
      · simp [D.cells] at he; subst he; exact .low _ (.int ..)
      · simp [D.cells] at he; subst he; exact .low _ (.int ..)
      · simp [D.cells] at he; subst he
        refine .frz 3 4 1 0 1 _ _ rfl (by simp) rfl (Nat.le_of_ble_eq_true rfl) (by simp [D.cells]) fun i d hd j e he => ?_
        rcases i with _ | i
        · simp at hd; subst hd
          rw [show 0 + 0 * 3 + j = j by omega]
          exact hleaf j e he
        · simp at hd
      · simp [D.cells] at he
    · simp at hd; subst hd
      rcases j with _ | _ | _ | j
      · simp [D.cells] at he; subst he; exact .low _ (.int ..)
      · simp [D.cells] at he; subst he; exact .low _ (.int ..)
      · simp [D.cells] at he; subst he; exact .nilsLst
      · simp [D.cells] at he
    · simp at hd
  · simp at hc

theorem size_leafU : size leafU = 1 := by rw [leafU, size_mk]; rfl
theorem size_two : size twoT = 4 := by rw [twoT, size_mk]; simp [size_mk, size_leafU]
theorem ord_two : ordT twoT leafU = 1 := by
  rw [ordT, size_two, size_leafU]; rfl

theorem pure_TreeOrder (a b : Tree) (ha : size a * 40 ≤ 140737488355328) (hb : size b * 40 ≤ 140737488355328) : Pure prog F_parllaw4_TreeOrder [treeD a, treeD b] (.bool true) := by
  intro n h
  have p1 := pure_two
  have p2 := pure_Compare twoT leafU (by rw [size_two]; omega) (by rw [size_leafU]; omega)
  rw [ord_two, treeD_leafU] at p2
  have p3 := pure_Compare a b ha hb
  have p4 := pure_Order a b ha hb
  obtain ⟨ra0, ta0, ka0, rfl⟩ : ∃ r t' k, a = .mk r t' k := by cases a; exact ⟨_, _, _, rfl⟩
  obtain ⟨rb0, tb0, kb0, rfl⟩ : ∃ r t' k, b = .mk r t' k := by cases b; exact ⟨_, _, _, rfl⟩
  generalize ordT (.mk ra0 ta0 ka0) (.mk rb0 tb0 kb0) = o at *
  rw [treeD_mk, treeD_mk] at p3 p4
  rw [treeD_mk, treeD_mk]
  have hl2 := low_treeD 0 twoT
  rw [treeD_two] at p1 p2 hl2
  refine K_parllaw4_TreeOrder.calls fun hl => ?_
  unfold C_parllaw4_TreeOrder
  simp -implicitDefEqProofs only [↓symPre, symPost, y_condP, y_condG, run, lver, minD, intsD, eqAll, tupD, splice, Nat.zero_add, Nat.add_zero, Nat.zero_mul, Nat.mul_one, Nat.one_mul, Nat.reduceAdd, Nat.reduceSub, Nat.reduceMul, Nat.reduceLT, Nat.reduceLeDiff, Nat.reduceEqDiff, true_and, and_true, true_implies, if_true, if_false, ite_true, reduceIte, ne_eq, not_false_eq_true, reduceCtorEq, forall_const, bne_self_eq_false, Bool.true_eq_false, Bool.false_eq_true, false_implies, and_self, implies_true, Int.toNat_zero, beq_self_eq_true, decide_true, decide_false, Bool.not_true, Bool.not_false, ↓y_call]
  refine adrawq hmix [] ?_
  simp -implicitDefEqProofs only [↓symPre, symPost, y_condP, y_condG, run, lver, minD, intsD, eqAll, tupD, splice, Nat.zero_add, Nat.add_zero, Nat.zero_mul, Nat.mul_one, Nat.one_mul, Nat.reduceAdd, Nat.reduceSub, Nat.reduceMul, Nat.reduceLT, Nat.reduceLeDiff, Nat.reduceEqDiff, true_and, and_true, true_implies, if_true, if_false, ite_true, reduceIte, ne_eq, not_false_eq_true, reduceCtorEq, forall_const, bne_self_eq_false, Bool.true_eq_false, Bool.false_eq_true, false_implies, and_self, implies_true, Int.toNat_zero, beq_self_eq_true, decide_true, decide_false, Bool.not_true, Bool.not_false, ↓y_call, ↓drawPre, drawPost, isCall, isNew, isEff, Option.toList, or_false, false_or, cond_true, cond_false, not_true_eq_false, or_true, true_or, Nat.add_left_cancel_iff, Bool.false_eq_true]
  refine ⟨_, _, p1.draw rfl, (by simp [y_cov0, y_cov1, isNew, isEff, Option.toList]), ?_⟩
  simp -implicitDefEqProofs only [↓symPre, symPost, y_condP, y_condG, run, lver, minD, intsD, eqAll, tupD, splice, Nat.zero_add, Nat.add_zero, Nat.zero_mul, Nat.mul_one, Nat.one_mul, Nat.reduceAdd, Nat.reduceSub, Nat.reduceMul, Nat.reduceLT, Nat.reduceLeDiff, Nat.reduceEqDiff, true_and, and_true, true_implies, if_true, if_false, ite_true, reduceIte, ne_eq, not_false_eq_true, reduceCtorEq, forall_const, bne_self_eq_false, Bool.true_eq_false, Bool.false_eq_true, false_implies, and_self, implies_true, Int.toNat_zero, beq_self_eq_true, decide_true, decide_false, Bool.not_true, Bool.not_false, ↓y_call, ↓drawPre, drawPost, isCall, isNew, isEff, Option.toList, or_false, false_or, cond_true, cond_false, not_true_eq_false, or_true, true_or, Nat.add_left_cancel_iff, Bool.false_eq_true]
  refine ⟨_, _, p2.drawF (.int ..) (fun s hs => y_wkl (.low _ hl2) (y_wkl (.agg _ _ rfl fun i c c' hc hc' => ?_) trivial)), (by simp [y_cov0, y_cov1, isNew, isEff, Option.toList]), ?_⟩
  · rcases i with _ | _ | _ | i
    · simp at hc hc'; subst hc; subst hc'; exact .low _ (.int ..)
    · simp at hc hc'; subst hc; subst hc'; exact .low _ (.int ..)
    · simp at hc hc'; subst hc; subst hc'; exact .nilsLst
    · simp at hc
  simp -implicitDefEqProofs only [↓symPre, symPost, y_condP, y_condG, run, lver, minD, intsD, eqAll, tupD, splice, Nat.zero_add, Nat.add_zero, Nat.zero_mul, Nat.mul_one, Nat.one_mul, Nat.reduceAdd, Nat.reduceSub, Nat.reduceMul, Nat.reduceLT, Nat.reduceLeDiff, Nat.reduceEqDiff, true_and, and_true, true_implies, if_true, if_false, ite_true, reduceIte, ne_eq, not_false_eq_true, reduceCtorEq, forall_const, bne_self_eq_false, Bool.true_eq_false, Bool.false_eq_true, false_implies, and_self, implies_true, Int.toNat_zero, beq_self_eq_true, decide_true, decide_false, Bool.not_true, Bool.not_false, ↓y_call, ↓drawPre, drawPost, isCall, isNew, isEff, Option.toList, or_false, false_or, cond_true, cond_false, not_true_eq_false, or_true, true_or, Nat.add_left_cancel_iff, Bool.false_eq_true]
  refine ⟨_, _, p3.draw rfl, (by simp [y_cov0, y_cov1, isNew, isEff, Option.toList]), ?_⟩
  simp -implicitDefEqProofs only [↓symPre, symPost, y_condP, y_condG, run, lver, minD, intsD, eqAll, tupD, splice, Nat.zero_add, Nat.add_zero, Nat.zero_mul, Nat.mul_one, Nat.one_mul, Nat.reduceAdd, Nat.reduceSub, Nat.reduceMul, Nat.reduceLT, Nat.reduceLeDiff, Nat.reduceEqDiff, true_and, and_true, true_implies, if_true, if_false, ite_true, reduceIte, ne_eq, not_false_eq_true, reduceCtorEq, forall_const, bne_self_eq_false, Bool.true_eq_false, Bool.false_eq_true, false_implies, and_self, implies_true, Int.toNat_zero, beq_self_eq_true, decide_true, decide_false, Bool.not_true, Bool.not_false, ↓y_call, ↓drawPre, drawPost, isCall, isNew, isEff, Option.toList, or_false, false_or, cond_true, cond_false, not_true_eq_false, or_true, true_or, Nat.add_left_cancel_iff, Bool.false_eq_true]
  refine ⟨_, _, p4.draw rfl, (by simp [y_cov0, y_cov1, isNew, isEff, Option.toList]), ?_⟩
  simp -implicitDefEqProofs only [↓symPre, symPost, y_condP, y_condG, run, lver, minD, intsD, eqAll, tupD, splice, Nat.zero_add, Nat.add_zero, Nat.zero_mul, Nat.mul_one, Nat.one_mul, Nat.reduceAdd, Nat.reduceSub, Nat.reduceMul, Nat.reduceLT, Nat.reduceLeDiff, Nat.reduceEqDiff, true_and, and_true, true_implies, if_true, if_false, ite_true, reduceIte, ne_eq, not_false_eq_true, reduceCtorEq, forall_const, bne_self_eq_false, Bool.true_eq_false, Bool.false_eq_true, false_implies, and_self, implies_true, Int.toNat_zero, beq_self_eq_true, decide_true, decide_false, Bool.not_true, Bool.not_false, ↓y_call, ↓drawPre, drawPost, isCall, isNew, isEff, Option.toList, or_false, false_or, cond_true, cond_false, not_true_eq_false, or_true, true_or, Nat.add_left_cancel_iff, Bool.false_eq_true]
  exact fin_bool hl (by simp)

end Abs
end Go.Proofs.Ytfojedaccfenfaa

/- The reference's joined edits. -/
import Derived.Test.YtcdbikoonobodaaF4
namespace Go.Proofs.Ytcdbikoonobodaa
namespace Abs
set_option linter.unusedVariables false
set_option linter.unusedSimpArgs false
set_option maxRecDepth 20000

theorem pure_JoinedErr1 {w : List Int} {a b : Ed} (hw : w.length * 8 ≤ 140737488351232) (ha : a.w.length * 8 ≤ 140737488351232) (h1 : chk w.length a ≠ 0) :
    Pure prog F_parlref4_Joined [iD w, edD a, edD b] (.tup [edD ed0, .int .i64 (chk w.length a)]) := by
  intro n h
  have pA := pure_EditFault w.length a (by omega) (by omega)
  have hb' : (chk w.length a != 0) = true := by simpa using h1
  refine K_parlref4_Joined.calls fun hl => ?_
  unfold C_parlref4_Joined
  unfold ed0
  unfold edD at pA ⊢
  simp -implicitDefEqProofs only [↓symPre, symPost, y_condP, y_condG, run, lver, minD, intsD, eqAll, tupD, splice, Nat.zero_add, Nat.add_zero, Nat.zero_mul, Nat.mul_one, Nat.one_mul, Nat.reduceAdd, Nat.reduceSub, Nat.reduceMul, Nat.reduceLT, Nat.reduceLeDiff, Nat.reduceEqDiff, true_and, and_true, true_implies, if_true, if_false, ite_true, reduceIte, ne_eq, not_false_eq_true, reduceCtorEq, forall_const, bne_self_eq_false, Bool.true_eq_false, Bool.false_eq_true, false_implies, and_self, implies_true, Int.toNat_zero, beq_self_eq_true, decide_true, decide_false, Bool.not_true, Bool.not_false, ↓y_lookv, y_key1, y_mlook, y_mlookn, y_mres1, y_mres0, ↓y_call, List.length_map]
  refine pA.call rfl ?_
  simp -implicitDefEqProofs only [↓symPre, symPost, y_condP, y_condG, run, lver, minD, intsD, eqAll, tupD, splice, Nat.zero_add, Nat.add_zero, Nat.zero_mul, Nat.mul_one, Nat.one_mul, Nat.reduceAdd, Nat.reduceSub, Nat.reduceMul, Nat.reduceLT, Nat.reduceLeDiff, Nat.reduceEqDiff, true_and, and_true, true_implies, if_true, if_false, ite_true, reduceIte, ne_eq, not_false_eq_true, reduceCtorEq, forall_const, bne_self_eq_false, Bool.true_eq_false, Bool.false_eq_true, false_implies, and_self, implies_true, Int.toNat_zero, beq_self_eq_true, decide_true, decide_false, Bool.not_true, Bool.not_false, ↓y_lookv, y_key1, y_mlook, y_mlookn, y_mres1, y_mres0, ↓y_call, hb']
  exact fin_wk hl (wk_tup2 (wk_agg3 wk_i wk_i .nilsLst) wk_i) ⟨rfl, rfl, rfl⟩

theorem pure_JoinedErr2 {w : List Int} {a b : Ed} (hw : w.length * 8 ≤ 140737488351232) (ha : a.w.length * 8 ≤ 140737488351232) (hb : b.w.length * 8 ≤ 140737488351232) (h1 : chk w.length a = 0) (h2 : chk (applyL w a).length b ≠ 0) :
    Pure prog F_parlref4_Joined [iD w, edD a, edD b] (.tup [edD ed0, .int .i64 (chk (applyL w a).length b)]) := by
  intro n h
  have l1 := len_applyL (chk_ok h1)
  obtain ⟨a1, a2, a3⟩ := chk_ok h1
  have z1 := (chk_zero h1).2
  have hsa : shiftE a = a.w.length - (a.t - a.f) := rfl
  have pA := pure_EditFault w.length a (by omega) (by omega)
  rw [h1] at pA
  have pE := pure_Edited w a (by omega) (by omega) h1
  have pB := pure_EditFault (applyL w a).length b (by omega) (by omega)
  have hb' : (chk (applyL w a).length b != 0) = true := by simpa using h2
  refine K_parlref4_Joined.calls fun hl => ?_
  unfold C_parlref4_Joined
  unfold ed0
  unfold edD at pA pB pE ⊢
  simp -implicitDefEqProofs only [↓symPre, symPost, y_condP, y_condG, run, lver, minD, intsD, eqAll, tupD, splice, Nat.zero_add, Nat.add_zero, Nat.zero_mul, Nat.mul_one, Nat.one_mul, Nat.reduceAdd, Nat.reduceSub, Nat.reduceMul, Nat.reduceLT, Nat.reduceLeDiff, Nat.reduceEqDiff, true_and, and_true, true_implies, if_true, if_false, ite_true, reduceIte, ne_eq, not_false_eq_true, reduceCtorEq, forall_const, bne_self_eq_false, Bool.true_eq_false, Bool.false_eq_true, false_implies, and_self, implies_true, Int.toNat_zero, beq_self_eq_true, decide_true, decide_false, Bool.not_true, Bool.not_false, ↓y_lookv, y_key1, y_mlook, y_mlookn, y_mres1, y_mres0, ↓y_call, List.length_map]
  refine pA.call rfl ?_
  simp -implicitDefEqProofs only [↓symPre, symPost, y_condP, y_condG, run, lver, minD, intsD, eqAll, tupD, splice, Nat.zero_add, Nat.add_zero, Nat.zero_mul, Nat.mul_one, Nat.one_mul, Nat.reduceAdd, Nat.reduceSub, Nat.reduceMul, Nat.reduceLT, Nat.reduceLeDiff, Nat.reduceEqDiff, true_and, and_true, true_implies, if_true, if_false, ite_true, reduceIte, ne_eq, not_false_eq_true, reduceCtorEq, forall_const, bne_self_eq_false, Bool.true_eq_false, Bool.false_eq_true, false_implies, and_self, implies_true, Int.toNat_zero, beq_self_eq_true, decide_true, decide_false, Bool.not_true, Bool.not_false, ↓y_lookv, y_key1, y_mlook, y_mlookn, y_mres1, y_mres0, ↓y_call]
  refine pE.call rfl ?_
  simp -implicitDefEqProofs only [↓symPre, symPost, y_condP, y_condG, run, lver, minD, intsD, eqAll, tupD, splice, Nat.zero_add, Nat.add_zero, Nat.zero_mul, Nat.mul_one, Nat.one_mul, Nat.reduceAdd, Nat.reduceSub, Nat.reduceMul, Nat.reduceLT, Nat.reduceLeDiff, Nat.reduceEqDiff, true_and, and_true, true_implies, if_true, if_false, ite_true, reduceIte, ne_eq, not_false_eq_true, reduceCtorEq, forall_const, bne_self_eq_false, Bool.true_eq_false, Bool.false_eq_true, false_implies, and_self, implies_true, Int.toNat_zero, beq_self_eq_true, decide_true, decide_false, Bool.not_true, Bool.not_false, ↓y_lookv, y_key1, y_mlook, y_mlookn, y_mres1, y_mres0, ↓y_call, List.length_map]
  refine pB.call rfl ?_
  simp -implicitDefEqProofs only [↓symPre, symPost, y_condP, y_condG, run, lver, minD, intsD, eqAll, tupD, splice, Nat.zero_add, Nat.add_zero, Nat.zero_mul, Nat.mul_one, Nat.one_mul, Nat.reduceAdd, Nat.reduceSub, Nat.reduceMul, Nat.reduceLT, Nat.reduceLeDiff, Nat.reduceEqDiff, true_and, and_true, true_implies, if_true, if_false, ite_true, reduceIte, ne_eq, not_false_eq_true, reduceCtorEq, forall_const, bne_self_eq_false, Bool.true_eq_false, Bool.false_eq_true, false_implies, and_self, implies_true, Int.toNat_zero, beq_self_eq_true, decide_true, decide_false, Bool.not_true, Bool.not_false, ↓y_lookv, y_key1, y_mlook, y_mlookn, y_mres1, y_mres0, ↓y_call, hb']
  exact fin_wk hl (wk_tup2 (wk_agg3 wk_i wk_i .nilsLst) wk_i) ⟨rfl, rfl, rfl⟩

theorem pure_JoinedOk {w : List Int} {a b : Ed} (hw : w.length * 8 ≤ 140737488351232) (ha : a.w.length * 8 ≤ 140737488351232) (hb : b.w.length * 8 ≤ 140737488351232) (h1 : chk w.length a = 0) (h2 : chk (applyL w a).length b = 0) :
    Pure prog F_parlref4_Joined [iD w, edD a, edD b] (.tup [edD (compE w a b), .int .i64 0]) := by
  intro n h
  obtain ⟨a1, a2, a3⟩ := chk_ok h1
  have z1 := (chk_zero h1).2
  obtain ⟨b1, b2, b3⟩ := chk_ok h2
  have z2 := (chk_zero h2).2
  have l1 := len_applyL (chk_ok h1)
  have l2 := len_applyL (chk_ok h2)
  have hsa : shiftE a = a.w.length - (a.t - a.f) := rfl
  have hsb : shiftE b = b.w.length - (b.t - b.f) := rfl
  have pA := pure_EditFault w.length a (by omega) (by omega)
  rw [h1] at pA
  have pE := pure_Edited w a (by omega) (by omega) h1
  have pB := pure_EditFault (applyL w a).length b (by omega) (by omega)
  rw [h2] at pB
  have pE2 := pure_Edited (applyL w a) b (by omega) (by omega) h2
  unfold compE
  have hmi : (if b.f < a.f then b.f else a.f) = min a.f b.f := by split <;> omega
  generalize applyL (applyL w a) b = L at *
  generalize applyL w a = M at *
  have hmr : (if (M.length : Int) - b.t < (w.length : Int) - a.t then (M.length : Int) - b.t else (w.length : Int) - a.t) = min ((w.length : Int) - a.t) ((M.length : Int) - b.t) := by split <;> omega
  have v1 : IntKind.i64.wrap ((w.length : Int) - a.t) = (w.length : Int) - a.t := IntWalk.i64_in _ (by omega)
  have v2 : IntKind.i64.wrap ((M.length : Int) - b.t) = (M.length : Int) - b.t := IntWalk.i64_in _ (by omega)
  have v3 : IntKind.i64.wrap ((w.length : Int) - min ((w.length : Int) - a.t) ((M.length : Int) - b.t)) = max (a.f + (a.w.length : Int)) b.t - shiftE a := by rw [IntWalk.i64_in _ (by omega)]; omega
  have v4 : IntKind.i64.wrap ((L.length : Int) - min ((w.length : Int) - a.t) ((M.length : Int) - b.t)) = max (a.f + (a.w.length : Int)) b.t + shiftE b := by rw [IntWalk.i64_in _ (by omega)]; omega
  have c1 : 0 ≤ min a.f b.f := by omega
  have c2 : min a.f b.f ≤ max (a.f + (a.w.length : Int)) b.t + shiftE b := by omega
  have c3 : max (a.f + (a.w.length : Int)) b.t + shiftE b ≤ (L.length : Int) := by omega
  refine K_parlref4_Joined.calls fun hl => ?_
  unfold C_parlref4_Joined
  unfold edD at pA pB pE pE2 ⊢
  simp -implicitDefEqProofs only [↓symPre, symPost, y_condP, y_condG, run, lver, minD, intsD, eqAll, tupD, splice, Nat.zero_add, Nat.add_zero, Nat.zero_mul, Nat.mul_one, Nat.one_mul, Nat.reduceAdd, Nat.reduceSub, Nat.reduceMul, Nat.reduceLT, Nat.reduceLeDiff, Nat.reduceEqDiff, true_and, and_true, true_implies, if_true, if_false, ite_true, reduceIte, ne_eq, not_false_eq_true, reduceCtorEq, forall_const, bne_self_eq_false, Bool.true_eq_false, Bool.false_eq_true, false_implies, and_self, implies_true, Int.toNat_zero, beq_self_eq_true, decide_true, decide_false, Bool.not_true, Bool.not_false, ↓y_lookv, y_key1, y_mlook, y_mlookn, y_mres1, y_mres0, ↓y_call, List.length_map]
  refine pA.call rfl ?_
  simp -implicitDefEqProofs only [↓symPre, symPost, y_condP, y_condG, run, lver, minD, intsD, eqAll, tupD, splice, Nat.zero_add, Nat.add_zero, Nat.zero_mul, Nat.mul_one, Nat.one_mul, Nat.reduceAdd, Nat.reduceSub, Nat.reduceMul, Nat.reduceLT, Nat.reduceLeDiff, Nat.reduceEqDiff, true_and, and_true, true_implies, if_true, if_false, ite_true, reduceIte, ne_eq, not_false_eq_true, reduceCtorEq, forall_const, bne_self_eq_false, Bool.true_eq_false, Bool.false_eq_true, false_implies, and_self, implies_true, Int.toNat_zero, beq_self_eq_true, decide_true, decide_false, Bool.not_true, Bool.not_false, ↓y_lookv, y_key1, y_mlook, y_mlookn, y_mres1, y_mres0, ↓y_call]
  refine pE.call rfl ?_
  simp -implicitDefEqProofs only [↓symPre, symPost, y_condP, y_condG, run, lver, minD, intsD, eqAll, tupD, splice, Nat.zero_add, Nat.add_zero, Nat.zero_mul, Nat.mul_one, Nat.one_mul, Nat.reduceAdd, Nat.reduceSub, Nat.reduceMul, Nat.reduceLT, Nat.reduceLeDiff, Nat.reduceEqDiff, true_and, and_true, true_implies, if_true, if_false, ite_true, reduceIte, ne_eq, not_false_eq_true, reduceCtorEq, forall_const, bne_self_eq_false, Bool.true_eq_false, Bool.false_eq_true, false_implies, and_self, implies_true, Int.toNat_zero, beq_self_eq_true, decide_true, decide_false, Bool.not_true, Bool.not_false, ↓y_lookv, y_key1, y_mlook, y_mlookn, y_mres1, y_mres0, ↓y_call, List.length_map]
  refine pB.call rfl ?_
  simp -implicitDefEqProofs only [↓symPre, symPost, y_condP, y_condG, run, lver, minD, intsD, eqAll, tupD, splice, Nat.zero_add, Nat.add_zero, Nat.zero_mul, Nat.mul_one, Nat.one_mul, Nat.reduceAdd, Nat.reduceSub, Nat.reduceMul, Nat.reduceLT, Nat.reduceLeDiff, Nat.reduceEqDiff, true_and, and_true, true_implies, if_true, if_false, ite_true, reduceIte, ne_eq, not_false_eq_true, reduceCtorEq, forall_const, bne_self_eq_false, Bool.true_eq_false, Bool.false_eq_true, false_implies, and_self, implies_true, Int.toNat_zero, beq_self_eq_true, decide_true, decide_false, Bool.not_true, Bool.not_false, ↓y_lookv, y_key1, y_mlook, y_mlookn, y_mres1, y_mres0, ↓y_call]
  refine pE2.call rfl ?_
  simp -implicitDefEqProofs only [↓symPre, symPost, y_condP, y_condG, run, lver, minD, intsD, eqAll, tupD, splice, Nat.zero_add, Nat.add_zero, Nat.zero_mul, Nat.mul_one, Nat.one_mul, Nat.reduceAdd, Nat.reduceSub, Nat.reduceMul, Nat.reduceLT, Nat.reduceLeDiff, Nat.reduceEqDiff, true_and, and_true, true_implies, if_true, if_false, ite_true, reduceIte, ne_eq, not_false_eq_true, reduceCtorEq, forall_const, bne_self_eq_false, Bool.true_eq_false, Bool.false_eq_true, false_implies, and_self, implies_true, Int.toNat_zero, beq_self_eq_true, decide_true, decide_false, Bool.not_true, Bool.not_false, ↓y_lookv, y_key1, y_mlook, y_mlookn, y_mres1, y_mres0, ↓y_call, List.length_map, List.foldl_cons, List.foldl_nil, hmi, hmr, v1, v2, v3, v4, c1, c2, c3, ints_cells]
  exact fin_wk hl (wk_tup2 (wk_agg3 wk_i wk_i (by rw [← List.map_drop, ← List.map_take]; exact wk_iD)) wk_i) ⟨rfl, rfl, rfl⟩

end Abs
end Go.Proofs.Ytcdbikoonobodaa

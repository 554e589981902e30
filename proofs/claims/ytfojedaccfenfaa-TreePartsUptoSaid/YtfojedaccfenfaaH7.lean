/- TreePlaced. -/
import Derived.Test.YtfojedaccfenfaaH6
namespace Go.Proofs.Ytfojedaccfenfaa
namespace Abs
set_option linter.unusedVariables false
set_option linter.unusedSimpArgs false
set_option maxRecDepth 20000

theorem kid_size {t k : Tree} {i : Int} (h : kidT t i = some k) : size k + 1 ≤ size t := by
  obtain ⟨r, tm, ks, rfl⟩ : ∃ r t' k, t = .mk r t' k := by cases t; exact ⟨_, _, _, rfl⟩
  simp only [kidT] at h
  by_cases hn : r = -1 ∨ i < 0
  · rw [if_pos hn] at h; cases h
  · rw [if_neg hn] at h
    have := size_kid (List.mem_of_getElem? h)
    rw [size_mk, if_neg (by omega)]
    omega
theorem below_len : ∀ (p : List Int) (t s : Tree), belowT t p = some s → p.length + size s ≤ size t
  | [], t, s, h => by simp [belowT] at h; subst h; simp
  | i :: p, t, s, h => by
    simp only [belowT, Option.bind_eq_some_iff] at h
    obtain ⟨k, h1, h2⟩ := h
    have := below_len p k s h2
    have := kid_size h1
    simp; omega

theorem word_two : wordL twoT = [0, 0] := by simp [twoT, leafU, wordL_mk]
theorem leaf_two : leafP twoT 1 = [1] := by simp [twoT, leafU, leafP_mk, leafKs_cons, wordL_mk]

set_option maxHeartbeats 4000000 in
theorem pure_TreePlaced (l m : List Int) (i j : Int) (h1 : l.length < 2 ^ 60) (h2 : m.length < 2 ^ 60) : Pure prog F_parlkeep4_TreePlaced [iD l, iD m, .int .i64 i, .int .i64 j] (.bool true) := by
  intro n h
  have p1 := pure_two4
  have p2 := pure_LeafOk twoT 1 (by rw [size_two]; omega) (by rw [word_two]; decide)
  rw [leaf_two] at p2
  rw [treeD_two] at p1 p2
  refine K_parlkeep4_TreePlaced.calls fun hl => ?_
  unfold C_parlkeep4_TreePlaced
  have hz1 : (((1 : Nat) : Int) != 1) = false := by decide
  have hc1 : ((1 : Nat) : Int) = 1 := rfl
  simp -implicitDefEqProofs only [↓symPre, symPost, y_condP, y_condG, run, lver, minD, intsD, eqAll, tupD, splice, Nat.zero_add, Nat.add_zero, Nat.zero_mul, Nat.mul_one, Nat.one_mul, Nat.reduceAdd, Nat.reduceSub, Nat.reduceMul, Nat.reduceLT, Nat.reduceLeDiff, Nat.reduceEqDiff, true_and, and_true, true_implies, if_true, if_false, ite_true, reduceIte, ne_eq, not_false_eq_true, reduceCtorEq, forall_const, bne_self_eq_false, Bool.true_eq_false, Bool.false_eq_true, false_implies, and_self, implies_true, Int.toNat_zero, beq_self_eq_true, decide_true, decide_false, Bool.not_true, Bool.not_false, ↓y_call]
  refine p1.call rfl ?_
  simp -implicitDefEqProofs only [↓symPre, symPost, y_condP, y_condG, run, lver, minD, intsD, eqAll, tupD, splice, Nat.zero_add, Nat.add_zero, Nat.zero_mul, Nat.mul_one, Nat.one_mul, Nat.reduceAdd, Nat.reduceSub, Nat.reduceMul, Nat.reduceLT, Nat.reduceLeDiff, Nat.reduceEqDiff, true_and, and_true, true_implies, if_true, if_false, ite_true, reduceIte, ne_eq, not_false_eq_true, reduceCtorEq, forall_const, bne_self_eq_false, Bool.true_eq_false, Bool.false_eq_true, false_implies, and_self, implies_true, Int.toNat_zero, beq_self_eq_true, decide_true, decide_false, Bool.not_true, Bool.not_false, ↓y_call]
  refine p2.call rfl ?_
  simp -implicitDefEqProofs only [↓symPre, symPost, y_condP, y_condG, run, lver, minD, intsD, eqAll, tupD, splice, Nat.zero_add, Nat.add_zero, Nat.zero_mul, Nat.mul_one, Nat.one_mul, Nat.reduceAdd, Nat.reduceSub, Nat.reduceMul, Nat.reduceLT, Nat.reduceLeDiff, Nat.reduceEqDiff, true_and, and_true, true_implies, if_true, if_false, ite_true, reduceIte, ne_eq, not_false_eq_true, reduceCtorEq, forall_const, bne_self_eq_false, Bool.true_eq_false, Bool.false_eq_true, false_implies, and_self, implies_true, Int.toNat_zero, beq_self_eq_true, decide_true, decide_false, Bool.not_true, Bool.not_false, ↓y_call, hz1, bne_self_eq_false]
  refine gram_call h1 rfl fun g hg => ?_
  simp -implicitDefEqProofs only [↓symPre, symPost, y_condP, y_condG, run, lver, minD, intsD, eqAll, tupD, splice, Nat.zero_add, Nat.add_zero, Nat.zero_mul, Nat.mul_one, Nat.one_mul, Nat.reduceAdd, Nat.reduceSub, Nat.reduceMul, Nat.reduceLT, Nat.reduceLeDiff, Nat.reduceEqDiff, true_and, and_true, true_implies, if_true, if_false, ite_true, reduceIte, ne_eq, not_false_eq_true, reduceCtorEq, forall_const, bne_self_eq_false, Bool.true_eq_false, Bool.false_eq_true, false_implies, and_self, implies_true, Int.toNat_zero, beq_self_eq_true, decide_true, decide_false, Bool.not_true, Bool.not_false, ↓y_call]
  refine mtreeS_call hg h2 rfl fun r tm ks ok hd hs => ?_
  have pW := pure_Word (.mk r tm ks) (by omega)
  have hwl := wordL_len (.mk r tm ks)
  have hL := below_leafP (.mk r tm ks)
  have hC := below_coverP (.mk r tm ks)
  have hbl := fun p s => below_len p (.mk r tm ks) s
  have pL := fun f => pure_LeafOk (.mk r tm ks) f (by omega)
  have pC := fun a b => pure_CoverOk (.mk r tm ks) a b (by omega)
  have pA := fun p hf => pure_At (.mk r tm ks) p hf
  have hat : ∀ p s, belowT (.mk r tm ks) p = some s → atT (.mk r tm ks) p = (s, 0) := fun p s h => by rw [atT, h]
  rw [treeD_mk] at pW
  generalize wordL (.mk r tm ks) = W at *
  simp -implicitDefEqProofs only [↓symPre, symPost, y_condP, y_condG, run, lver, minD, intsD, eqAll, tupD, splice, Nat.zero_add, Nat.add_zero, Nat.zero_mul, Nat.mul_one, Nat.one_mul, Nat.reduceAdd, Nat.reduceSub, Nat.reduceMul, Nat.reduceLT, Nat.reduceLeDiff, Nat.reduceEqDiff, true_and, and_true, true_implies, if_true, if_false, ite_true, reduceIte, ne_eq, not_false_eq_true, reduceCtorEq, forall_const, bne_self_eq_false, Bool.true_eq_false, Bool.false_eq_true, false_implies, and_self, implies_true, Int.toNat_zero, beq_self_eq_true, decide_true, decide_false, Bool.not_true, Bool.not_false, ↓y_call]
  refine pW.call rfl ?_
  by_cases c1 : ok = true
  rotate_left
  · have c1 : ok = false := by simpa using c1
    subst c1
    simp -implicitDefEqProofs only [↓symPre, symPost, y_condP, y_condG, run, lver, minD, intsD, eqAll, tupD, splice, Nat.zero_add, Nat.add_zero, Nat.zero_mul, Nat.mul_one, Nat.one_mul, Nat.reduceAdd, Nat.reduceSub, Nat.reduceMul, Nat.reduceLT, Nat.reduceLeDiff, Nat.reduceEqDiff, true_and, and_true, true_implies, if_true, if_false, ite_true, reduceIte, ne_eq, not_false_eq_true, reduceCtorEq, forall_const, bne_self_eq_false, Bool.true_eq_false, Bool.false_eq_true, false_implies, and_self, implies_true, Int.toNat_zero, beq_self_eq_true, decide_true, decide_false, Bool.not_true, Bool.not_false, ↓y_call]
    exact fin_bool hl rfl
  subst c1
  have hfd := full_der (hd rfl)
  by_cases c2 : W.length = 0
  · have b2 : ((W.length : Int) == 0) = true := by simp [c2]
    simp -implicitDefEqProofs only [↓symPre, symPost, y_condP, y_condG, run, lver, minD, intsD, eqAll, tupD, splice, Nat.zero_add, Nat.add_zero, Nat.zero_mul, Nat.mul_one, Nat.one_mul, Nat.reduceAdd, Nat.reduceSub, Nat.reduceMul, Nat.reduceLT, Nat.reduceLeDiff, Nat.reduceEqDiff, true_and, and_true, true_implies, if_true, if_false, ite_true, reduceIte, ne_eq, not_false_eq_true, reduceCtorEq, forall_const, bne_self_eq_false, Bool.true_eq_false, Bool.false_eq_true, false_implies, and_self, implies_true, Int.toNat_zero, beq_self_eq_true, decide_true, decide_false, Bool.not_true, Bool.not_false, ↓y_call, List.length_map, b2]
    exact fin_bool hl rfl
  have b2 : ((W.length : Int) == 0) = false := beq_eq_false_iff_ne.2 (by omega)
  have r1 := below_range i W.length (by omega)
  have pB1 := pure_Below i W.length (by omega) (by omega)
  simp -implicitDefEqProofs only [↓symPre, symPost, y_condP, y_condG, run, lver, minD, intsD, eqAll, tupD, splice, Nat.zero_add, Nat.add_zero, Nat.zero_mul, Nat.mul_one, Nat.one_mul, Nat.reduceAdd, Nat.reduceSub, Nat.reduceMul, Nat.reduceLT, Nat.reduceLeDiff, Nat.reduceEqDiff, true_and, and_true, true_implies, if_true, if_false, ite_true, reduceIte, ne_eq, not_false_eq_true, reduceCtorEq, forall_const, bne_self_eq_false, Bool.true_eq_false, Bool.false_eq_true, false_implies, and_self, implies_true, Int.toNat_zero, beq_self_eq_true, decide_true, decide_false, Bool.not_true, Bool.not_false, ↓y_call, List.length_map, b2]
  refine pB1.call rfl ?_
  generalize belowI i W.length = f at *
  obtain ⟨f, rfl⟩ : ∃ q : Nat, f = q := ⟨f.toNat, by omega⟩
  have w1 : IntKind.i64.wrap ((f : Int) + 1) = (f : Int) + 1 := IntWalk.i64_in _ (by omega)
  have w2 : IntKind.i64.wrap ((W.length : Int) - (f : Int)) = (W.length : Int) - (f : Int) := IntWalk.i64_in _ (by omega)
  have r2 := below_range j ((W.length : Int) - f) (by omega)
  have pB2 := pure_Below j ((W.length : Int) - f) (by omega) (by omega)
  simp -implicitDefEqProofs only [↓symPre, symPost, y_condP, y_condG, run, lver, minD, intsD, eqAll, tupD, splice, Nat.zero_add, Nat.add_zero, Nat.zero_mul, Nat.mul_one, Nat.one_mul, Nat.reduceAdd, Nat.reduceSub, Nat.reduceMul, Nat.reduceLT, Nat.reduceLeDiff, Nat.reduceEqDiff, true_and, and_true, true_implies, if_true, if_false, ite_true, reduceIte, ne_eq, not_false_eq_true, reduceCtorEq, forall_const, bne_self_eq_false, Bool.true_eq_false, Bool.false_eq_true, false_implies, and_self, implies_true, Int.toNat_zero, beq_self_eq_true, decide_true, decide_false, Bool.not_true, Bool.not_false, ↓y_call, List.length_map, w1, w2]
  refine pB2.call rfl ?_
  generalize belowI j ((W.length : Int) - f) = e at *
  obtain ⟨e, rfl⟩ : ∃ q : Nat, e = q := ⟨e.toNat, by omega⟩
  have w3 : IntKind.i64.wrap ((f : Int) + 1 + (e : Int)) = ((f + 1 + e : Nat) : Int) := by rw [IntWalk.i64_in _ (by omega)]; omega
  obtain ⟨x, ks', hx1, hx2⟩ := hL f (by omega)
  obtain ⟨s, A, B, hy1, hy2⟩ := hC f (f + 1 + e) (by omega) (by omega)
  have pL := pL f (by omega)
  have pC := pC (f : Int) ((f + 1 + e : Nat) : Int) (by omega) (by omega) (by omega)
  have pA1 := pA _ (by omega) (show (leafP (.mk r tm ks) f).length < 2 ^ 60 by have := hbl _ _ hx1; omega)
  have pA2 := pA _ (by omega) (show (coverP (.mk r tm ks) (f : Int) ((f + 1 + e : Nat) : Int)).length < 2 ^ 60 by have := hbl _ _ hy1; omega)
  rw [hat _ _ hx1] at pA1
  rw [hat _ _ hy1] at pA2
  have hsz := hbl _ _ hy1
  have pWs := pure_Word s (by omega)
  have pCo := pure_contains A ((W.drop f).take (f + 1 + e - f)) B (by rw [← hy2]; have := wordL_len s; omega)
  rw [hy2] at pWs
  have hsl : ((W.map (D.int .i64)).drop f).take (f + 1 + e - f) = ((W.drop f).take (f + 1 + e - f)).map (D.int .i64) := by rw [List.map_take, List.map_drop]
  have hWf : nth (W.map (D.int .i64)) f = .int .i64 x := by
    rw [nth_int W f (by omega)]
    rw [List.getElem?_eq_getElem (by omega)] at hx2
    injection hx2 with hx2; rw [hx2]
  obtain ⟨sr, st, sk, rfl⟩ : ∃ r' t' k', s = .mk r' t' k' := by cases s; exact ⟨_, _, _, rfl⟩
  simp only [treeD_mk] at pL pC pA1 pA2 pWs
  generalize leafP (.mk r tm ks) f = P1 at *
  generalize coverP (.mk r tm ks) (f : Int) ((f + 1 + e : Nat) : Int) = P2 at *
  generalize (W.drop f).take (f + 1 + e - f) = v at *
  generalize A ++ v ++ B = Y at *
  have f0 : (0 : Int) ≤ (f : Int) := by omega
  have f1 : (f : Int) < (W.length : Int) := by omega
  have f2 : (f : Int) ≤ ((f + 1 + e : Nat) : Int) := by omega
  have f3 : ((f + 1 + e : Nat) : Int) ≤ (W.length : Int) := by omega
  clear hL hC hbl pA hat hd hfd hx1 hx2 hy1 hy2 hsz pB1 pB2 r1 r2 w1 w2
  simp -implicitDefEqProofs only [↓symPre, symPost, y_condP, y_condG, run, lver, minD, intsD, eqAll, tupD, splice, Nat.zero_add, Nat.add_zero, Nat.zero_mul, Nat.mul_one, Nat.one_mul, Nat.reduceAdd, Nat.reduceSub, Nat.reduceMul, Nat.reduceLT, Nat.reduceLeDiff, Nat.reduceEqDiff, true_and, and_true, true_implies, if_true, if_false, ite_true, reduceIte, ne_eq, not_false_eq_true, reduceCtorEq, forall_const, bne_self_eq_false, Bool.true_eq_false, Bool.false_eq_true, false_implies, and_self, implies_true, Int.toNat_zero, beq_self_eq_true, decide_true, decide_false, Bool.not_true, Bool.not_false, ↓y_call, w3]
  refine pL.call rfl ?_
  simp -implicitDefEqProofs only [↓symPre, symPost, y_condP, y_condG, run, lver, minD, intsD, eqAll, tupD, splice, Nat.zero_add, Nat.add_zero, Nat.zero_mul, Nat.mul_one, Nat.one_mul, Nat.reduceAdd, Nat.reduceSub, Nat.reduceMul, Nat.reduceLT, Nat.reduceLeDiff, Nat.reduceEqDiff, true_and, and_true, true_implies, if_true, if_false, ite_true, reduceIte, ne_eq, not_false_eq_true, reduceCtorEq, forall_const, bne_self_eq_false, Bool.true_eq_false, Bool.false_eq_true, false_implies, and_self, implies_true, Int.toNat_zero, beq_self_eq_true, decide_true, decide_false, Bool.not_true, Bool.not_false, ↓y_call]
  refine pC.call rfl ?_
  simp -implicitDefEqProofs only [↓symPre, symPost, y_condP, y_condG, run, lver, minD, intsD, eqAll, tupD, splice, Nat.zero_add, Nat.add_zero, Nat.zero_mul, Nat.mul_one, Nat.one_mul, Nat.reduceAdd, Nat.reduceSub, Nat.reduceMul, Nat.reduceLT, Nat.reduceLeDiff, Nat.reduceEqDiff, true_and, and_true, true_implies, if_true, if_false, ite_true, reduceIte, ne_eq, not_false_eq_true, reduceCtorEq, forall_const, bne_self_eq_false, Bool.true_eq_false, Bool.false_eq_true, false_implies, and_self, implies_true, Int.toNat_zero, beq_self_eq_true, decide_true, decide_false, Bool.not_true, Bool.not_false, ↓y_call]
  refine pA1.call rfl ?_
  simp -implicitDefEqProofs only [↓symPre, symPost, y_condP, y_condG, run, lver, minD, intsD, eqAll, tupD, splice, Nat.zero_add, Nat.add_zero, Nat.zero_mul, Nat.mul_one, Nat.one_mul, Nat.reduceAdd, Nat.reduceSub, Nat.reduceMul, Nat.reduceLT, Nat.reduceLeDiff, Nat.reduceEqDiff, true_and, and_true, true_implies, if_true, if_false, ite_true, reduceIte, ne_eq, not_false_eq_true, reduceCtorEq, forall_const, bne_self_eq_false, Bool.true_eq_false, Bool.false_eq_true, false_implies, and_self, implies_true, Int.toNat_zero, beq_self_eq_true, decide_true, decide_false, Bool.not_true, Bool.not_false, ↓y_call]
  refine pA2.call rfl ?_
  simp -implicitDefEqProofs only [↓symPre, symPost, y_condP, y_condG, run, lver, minD, intsD, eqAll, tupD, splice, Nat.zero_add, Nat.add_zero, Nat.zero_mul, Nat.mul_one, Nat.one_mul, Nat.reduceAdd, Nat.reduceSub, Nat.reduceMul, Nat.reduceLT, Nat.reduceLeDiff, Nat.reduceEqDiff, true_and, and_true, true_implies, if_true, if_false, ite_true, reduceIte, ne_eq, not_false_eq_true, reduceCtorEq, forall_const, bne_self_eq_false, Bool.true_eq_false, Bool.false_eq_true, false_implies, and_self, implies_true, Int.toNat_zero, beq_self_eq_true, decide_true, decide_false, Bool.not_true, Bool.not_false, ↓y_call, bne_self_eq_false]
  refine adrawq hmix [] ?_
  simp (maxSteps := 400000) -implicitDefEqProofs only [↓symPre, symPost, y_condP, y_condG, run, lver, minD, intsD, eqAll, tupD, splice, Nat.zero_add, Nat.add_zero, Nat.zero_mul, Nat.mul_one, Nat.one_mul, Nat.reduceAdd, Nat.reduceSub, Nat.reduceMul, Nat.reduceLT, Nat.reduceLeDiff, Nat.reduceEqDiff, true_and, and_true, true_implies, if_true, if_false, ite_true, reduceIte, ne_eq, not_false_eq_true, reduceCtorEq, forall_const, bne_self_eq_false, Bool.true_eq_false, Bool.false_eq_true, false_implies, and_self, implies_true, Int.toNat_zero, beq_self_eq_true, decide_true, decide_false, Bool.not_true, Bool.not_false, ↓y_call, ↓drawPre, drawPost, isCall, isNew, isEff, Option.toList, or_false, false_or, cond_true, cond_false, not_true_eq_false, or_true, true_or, Nat.add_left_cancel_iff, Bool.false_eq_true, List.length_map, f0, f1, f2, f3, hWf, Int.toNat_natCast, ints_cells, hsl]
  refine ⟨_, _, pWs.draw rfl, (by simp [y_cov0, y_cov1, isNew, isEff, Option.toList]), ?_⟩
  simp (maxSteps := 400000) -implicitDefEqProofs only [↓symPre, symPost, y_condP, y_condG, run, lver, minD, intsD, eqAll, tupD, splice, Nat.zero_add, Nat.add_zero, Nat.zero_mul, Nat.mul_one, Nat.one_mul, Nat.reduceAdd, Nat.reduceSub, Nat.reduceMul, Nat.reduceLT, Nat.reduceLeDiff, Nat.reduceEqDiff, true_and, and_true, true_implies, if_true, if_false, ite_true, reduceIte, ne_eq, not_false_eq_true, reduceCtorEq, forall_const, bne_self_eq_false, Bool.true_eq_false, Bool.false_eq_true, false_implies, and_self, implies_true, Int.toNat_zero, beq_self_eq_true, decide_true, decide_false, Bool.not_true, Bool.not_false, ↓y_call, ↓drawPre, drawPost, isCall, isNew, isEff, Option.toList, or_false, false_or, cond_true, cond_false, not_true_eq_false, or_true, true_or, Nat.add_left_cancel_iff, Bool.false_eq_true, List.length_map, f0, f1, f2, f3, hWf, Int.toNat_natCast, ints_cells, hsl]
  refine ⟨_, _, pCo.draw rfl, (by simp [y_cov0, y_cov1, isNew, isEff, Option.toList]), ?_⟩
  simp (maxSteps := 400000) -implicitDefEqProofs only [↓symPre, symPost, y_condP, y_condG, run, lver, minD, intsD, eqAll, tupD, splice, Nat.zero_add, Nat.add_zero, Nat.zero_mul, Nat.mul_one, Nat.one_mul, Nat.reduceAdd, Nat.reduceSub, Nat.reduceMul, Nat.reduceLT, Nat.reduceLeDiff, Nat.reduceEqDiff, true_and, and_true, true_implies, if_true, if_false, ite_true, reduceIte, ne_eq, not_false_eq_true, reduceCtorEq, forall_const, bne_self_eq_false, Bool.true_eq_false, Bool.false_eq_true, false_implies, and_self, implies_true, Int.toNat_zero, beq_self_eq_true, decide_true, decide_false, Bool.not_true, Bool.not_false, ↓y_call, ↓drawPre, drawPost, isCall, isNew, isEff, Option.toList, or_false, false_or, cond_true, cond_false, not_true_eq_false, or_true, true_or, Nat.add_left_cancel_iff, Bool.false_eq_true, List.length_map, f0, f1, f2, f3, hWf, Int.toNat_natCast, ints_cells, hsl]
  exact fin_bool hl rfl

end Abs
end Go.Proofs.Ytfojedaccfenfaa

/- EditLeast. -/
import Derived.Test.YtfojedaccfenfabW2
import Derived.Test.YtfojedaccfenfabX2
import Derived.Test.YtfojedaccfenfabD7
namespace Go.Proofs.Ytfojedaccfenfab
namespace Abs
set_option linter.unusedVariables false
set_option linter.unusedSimpArgs false
set_option maxRecDepth 20000

theorem costE_succ {l : List Ed} {i : Nat} (hi : i < l.length) : costE (l.take (i + 1)) = costE (l.take i) + ((edAt l i).t - (edAt l i).f + ((edAt l i).w.length : Nat)) := by
  rw [costE, List.take_succ_eq_append_getElem hi, List.map_append, List.sum_append, edAt_get hi]; simp [costE]
theorem costE_bound {n : Nat} {l : List Ed} (hok : okUp n l l.length) : ∀ {i : Nat}, i ≤ l.length → 0 ≤ costE (l.take i) ∧ costE (l.take i) ≤ (i * (n + newK l) : Nat)
  | 0, _ => by simp [costE]
  | i + 1, hi => by
    have h1 := costE_bound hok (i := i) (by omega)
    have h2 := hok i (by omega)
    have h3 := (atK_bound (n := n) (l := l) (k := i) fun j hj => hok j (by omega)).1
    have h4 := newK_at l (i := i) (by omega)
    rw [costE_succ (by omega)]
    unfold okIx at h2
    simp only [Nat.add_mul, Nat.one_mul]
    generalize i * (n + newK l) = X at *
    omega
theorem dst_2 : dstL [1] [2] = 2 := by
  rw [dstL, if_neg (by simp)]
  simp [dE_cons, dE_nil, dE_nil2]
theorem scrF_2 : scrF [1] [2] = 0 := by rw [scrF, if_neg (by simp)]

set_option maxHeartbeats 4000000 in
theorem pure_EditLeast (a b c : List Int) (ha : a.length < 2 ^ 60) (hb : b.length < 2 ^ 60) (hc : c.length < 2 ^ 60) : Pure prog F_parlkeep4_EditLeast [iD a, iD b, iD c] (.bool true) := by
  intro n h
  have p1 := pure_Distance [1] [2] (by simp) (by simp)
  rw [dst_2, scrF_2] at p1
  have wa := pure_MWord 3 30 a (by omega) (by omega) (by omega) ha
  have wb := pure_MWord 3 30 b (by omega) (by omega) (by omega) hb
  have wc := pure_MWord 3 30 c (by omega) (by omega) (by omega) hc
  rw [show ((30 : Nat) : Int) = 30 from rfl] at wa wb wc
  have la : (wordM 3 30 a).length ≤ 30 := by simp [wordM]; omega
  have lb : (wordM 3 30 b).length ≤ 30 := by simp [wordM]; omega
  have lc : (wordM 3 30 c).length ≤ 30 := by simp [wordM]; omega
  generalize wordM 3 30 a = A at *
  generalize wordM 3 30 b = B at *
  generalize wordM 3 30 c = C at *
  have f : ∀ {x y : List Int}, x.length ≤ 30 → y.length ≤ 30 → scrF x y = 0 ∧ dstL x y = dE x y ∧ scrL x y = scrAt x y 0 0 none := fun hx hy => by
    rw [scrF, dstL, scrL, if_neg (by omega), if_neg (by omega), if_neg (by omega)]; exact ⟨rfl, rfl, rfl⟩
  have pS := pure_Script A B (by omega) (by omega)
  have pAB := pure_Distance A B (by omega) (by omega)
  have pBA := pure_Distance B A (by omega) (by omega)
  have pBC := pure_Distance B C (by omega) (by omega)
  have pAC := pure_Distance A C (by omega) (by omega)
  rw [(f la lb).1, (f la lb).2.2] at pS
  rw [(f la lb).1, (f la lb).2.1] at pAB
  rw [(f lb la).1, (f lb la).2.1] at pBA
  rw [(f lb lc).1, (f lb lc).2.1] at pBC
  rw [(f la lc).1, (f la lc).2.1] at pAC
  obtain ⟨r1, r2, r3⟩ := scr_run A B (by omega)
  have hsb := scr0_bound A B
  generalize scrAt A B 0 0 none = l at *
  have hok := runF_ok r1
  have pR := pure_Run A l (by omega) (by omega)
  have hL : runL A l = B := by rw [runL, if_pos r1, r2]
  rw [hL, r1] at pR
  have pX := pure_Between A B (by omega) (by omega)
  have hX := change_al A B
  have hXl : (changeE A B).w.length ≤ 30 := by simp [changeE]; omega
  have hXf : 0 ≤ (changeE A B).f ∧ (changeE A B).f ≤ 30 := by have := lcp_le A B; simp only [changeE]; omega
  have hXt : (changeE A B).t ≤ 30 ∧ 0 ≤ (changeE A B).t := by have := lcs_le A B (lcp A B); simp only [changeE]; omega
  have pQ := pure_Equal B B (by omega) (by omega)
  rw [decide_eq_true rfl] at pQ
  have g1 := dE_range A B
  have g2 := dE_range B C
  have g3 := dE_range A C
  have tri := dE_tri A B C
  rw [dE_symm B A] at pBA
  rw [← r3] at pAB pBA hX tri g1
  generalize changeE A B = X at *
  generalize dE B C = bc at *
  generalize dE A C = ac at *
  have hlow := low_eds n l
  unfold edD at pX
  refine K_parlkeep4_EditLeast.calls fun hl => ?_
  unfold C_parlkeep4_EditLeast
  simp -implicitDefEqProofs only [↓symPre, symPost, y_condP, y_condG, run, lver, minD, intsD, eqAll, tupD, splice, Nat.zero_add, Nat.add_zero, Nat.zero_mul, Nat.mul_one, Nat.one_mul, Nat.reduceAdd, Nat.reduceSub, Nat.reduceMul, Nat.reduceLT, Nat.reduceLeDiff, Nat.reduceEqDiff, true_and, and_true, true_implies, if_true, if_false, ite_true, reduceIte, ne_eq, not_false_eq_true, reduceCtorEq, forall_const, bne_self_eq_false, Bool.true_eq_false, Bool.false_eq_true, false_implies, and_self, implies_true, Int.toNat_zero, beq_self_eq_true, decide_true, decide_false, Bool.not_true, Bool.not_false, ↓y_call]
  refine p1.callZ [27, 28] rfl rfl (by simp [Con.isOpq]) ⟨fz_loc (by simp) rfl rfl, fz_loc (by simp) rfl rfl, trivial⟩ ?_
  simp -implicitDefEqProofs only [↓symPre, symPost, y_condP, y_condG, run, lver, minD, intsD, eqAll, tupD, splice, Nat.zero_add, Nat.add_zero, Nat.zero_mul, Nat.mul_one, Nat.one_mul, Nat.reduceAdd, Nat.reduceSub, Nat.reduceMul, Nat.reduceLT, Nat.reduceLeDiff, Nat.reduceEqDiff, true_and, and_true, true_implies, if_true, if_false, ite_true, reduceIte, ne_eq, not_false_eq_true, reduceCtorEq, forall_const, bne_self_eq_false, Bool.true_eq_false, Bool.false_eq_true, false_implies, and_self, implies_true, Int.toNat_zero, beq_self_eq_true, decide_true, decide_false, Bool.not_true, Bool.not_false, ↓y_call]
  refine wa.call rfl ?_
  simp -implicitDefEqProofs only [↓symPre, symPost, y_condP, y_condG, run, lver, minD, intsD, eqAll, tupD, splice, Nat.zero_add, Nat.add_zero, Nat.zero_mul, Nat.mul_one, Nat.one_mul, Nat.reduceAdd, Nat.reduceSub, Nat.reduceMul, Nat.reduceLT, Nat.reduceLeDiff, Nat.reduceEqDiff, true_and, and_true, true_implies, if_true, if_false, ite_true, reduceIte, ne_eq, not_false_eq_true, reduceCtorEq, forall_const, bne_self_eq_false, Bool.true_eq_false, Bool.false_eq_true, false_implies, and_self, implies_true, Int.toNat_zero, beq_self_eq_true, decide_true, decide_false, Bool.not_true, Bool.not_false, ↓y_call]
  refine wb.call rfl ?_
  simp -implicitDefEqProofs only [↓symPre, symPost, y_condP, y_condG, run, lver, minD, intsD, eqAll, tupD, splice, Nat.zero_add, Nat.add_zero, Nat.zero_mul, Nat.mul_one, Nat.one_mul, Nat.reduceAdd, Nat.reduceSub, Nat.reduceMul, Nat.reduceLT, Nat.reduceLeDiff, Nat.reduceEqDiff, true_and, and_true, true_implies, if_true, if_false, ite_true, reduceIte, ne_eq, not_false_eq_true, reduceCtorEq, forall_const, bne_self_eq_false, Bool.true_eq_false, Bool.false_eq_true, false_implies, and_self, implies_true, Int.toNat_zero, beq_self_eq_true, decide_true, decide_false, Bool.not_true, Bool.not_false, ↓y_call]
  refine wc.call rfl ?_
  simp -implicitDefEqProofs only [↓symPre, symPost, y_condP, y_condG, run, lver, minD, intsD, eqAll, tupD, splice, Nat.zero_add, Nat.add_zero, Nat.zero_mul, Nat.mul_one, Nat.one_mul, Nat.reduceAdd, Nat.reduceSub, Nat.reduceMul, Nat.reduceLT, Nat.reduceLeDiff, Nat.reduceEqDiff, true_and, and_true, true_implies, if_true, if_false, ite_true, reduceIte, ne_eq, not_false_eq_true, reduceCtorEq, forall_const, bne_self_eq_false, Bool.true_eq_false, Bool.false_eq_true, false_implies, and_self, implies_true, Int.toNat_zero, beq_self_eq_true, decide_true, decide_false, Bool.not_true, Bool.not_false, ↓y_call]
  refine pS.call rfl ?_
  simp -implicitDefEqProofs only [↓symPre, symPost, y_condP, y_condG, run, lver, minD, intsD, eqAll, tupD, splice, Nat.zero_add, Nat.add_zero, Nat.zero_mul, Nat.mul_one, Nat.one_mul, Nat.reduceAdd, Nat.reduceSub, Nat.reduceMul, Nat.reduceLT, Nat.reduceLeDiff, Nat.reduceEqDiff, true_and, and_true, true_implies, if_true, if_false, ite_true, reduceIte, ne_eq, not_false_eq_true, reduceCtorEq, forall_const, bne_self_eq_false, Bool.true_eq_false, Bool.false_eq_true, false_implies, and_self, implies_true, Int.toNat_zero, beq_self_eq_true, decide_true, decide_false, Bool.not_true, Bool.not_false, ↓y_call]
  refine pR.call rfl ?_
  simp -implicitDefEqProofs only [↓symPre, symPost, y_condP, y_condG, run, lver, minD, intsD, eqAll, tupD, splice, Nat.zero_add, Nat.add_zero, Nat.zero_mul, Nat.mul_one, Nat.one_mul, Nat.reduceAdd, Nat.reduceSub, Nat.reduceMul, Nat.reduceLT, Nat.reduceLeDiff, Nat.reduceEqDiff, true_and, and_true, true_implies, if_true, if_false, ite_true, reduceIte, ne_eq, not_false_eq_true, reduceCtorEq, forall_const, bne_self_eq_false, Bool.true_eq_false, Bool.false_eq_true, false_implies, and_self, implies_true, Int.toNat_zero, beq_self_eq_true, decide_true, decide_false, Bool.not_true, Bool.not_false, ↓y_call]
  refine pAB.call rfl ?_
  simp -implicitDefEqProofs only [↓symPre, symPost, y_condP, y_condG, run, lver, minD, intsD, eqAll, tupD, splice, Nat.zero_add, Nat.add_zero, Nat.zero_mul, Nat.mul_one, Nat.one_mul, Nat.reduceAdd, Nat.reduceSub, Nat.reduceMul, Nat.reduceLT, Nat.reduceLeDiff, Nat.reduceEqDiff, true_and, and_true, true_implies, if_true, if_false, ite_true, reduceIte, ne_eq, not_false_eq_true, reduceCtorEq, forall_const, bne_self_eq_false, Bool.true_eq_false, Bool.false_eq_true, false_implies, and_self, implies_true, Int.toNat_zero, beq_self_eq_true, decide_true, decide_false, Bool.not_true, Bool.not_false, ↓y_call]
  refine pBA.call rfl ?_
  simp -implicitDefEqProofs only [↓symPre, symPost, y_condP, y_condG, run, lver, minD, intsD, eqAll, tupD, splice, Nat.zero_add, Nat.add_zero, Nat.zero_mul, Nat.mul_one, Nat.one_mul, Nat.reduceAdd, Nat.reduceSub, Nat.reduceMul, Nat.reduceLT, Nat.reduceLeDiff, Nat.reduceEqDiff, true_and, and_true, true_implies, if_true, if_false, ite_true, reduceIte, ne_eq, not_false_eq_true, reduceCtorEq, forall_const, bne_self_eq_false, Bool.true_eq_false, Bool.false_eq_true, false_implies, and_self, implies_true, Int.toNat_zero, beq_self_eq_true, decide_true, decide_false, Bool.not_true, Bool.not_false, ↓y_call]
  refine pBC.call rfl ?_
  simp -implicitDefEqProofs only [↓symPre, symPost, y_condP, y_condG, run, lver, minD, intsD, eqAll, tupD, splice, Nat.zero_add, Nat.add_zero, Nat.zero_mul, Nat.mul_one, Nat.one_mul, Nat.reduceAdd, Nat.reduceSub, Nat.reduceMul, Nat.reduceLT, Nat.reduceLeDiff, Nat.reduceEqDiff, true_and, and_true, true_implies, if_true, if_false, ite_true, reduceIte, ne_eq, not_false_eq_true, reduceCtorEq, forall_const, bne_self_eq_false, Bool.true_eq_false, Bool.false_eq_true, false_implies, and_self, implies_true, Int.toNat_zero, beq_self_eq_true, decide_true, decide_false, Bool.not_true, Bool.not_false, ↓y_call]
  refine pAC.call rfl ?_
  simp -implicitDefEqProofs only [↓symPre, symPost, y_condP, y_condG, run, lver, minD, intsD, eqAll, tupD, splice, Nat.zero_add, Nat.add_zero, Nat.zero_mul, Nat.mul_one, Nat.one_mul, Nat.reduceAdd, Nat.reduceSub, Nat.reduceMul, Nat.reduceLT, Nat.reduceLeDiff, Nat.reduceEqDiff, true_and, and_true, true_implies, if_true, if_false, ite_true, reduceIte, ne_eq, not_false_eq_true, reduceCtorEq, forall_const, bne_self_eq_false, Bool.true_eq_false, Bool.false_eq_true, false_implies, and_self, implies_true, Int.toNat_zero, beq_self_eq_true, decide_true, decide_false, Bool.not_true, Bool.not_false, ↓y_call, List.length_map]
  refine aloop (fun i : Nat => St.mk n ([iD A, iD B, iD C] ++ List.replicate 6 .top ++ [.lst (l.map edD), .int .i64 0, iD B, .int .i64 0, .int .i64 (costE l), .int .i64 0, .int .i64 (costE l), .int .i64 0, .int .i64 bc, .int .i64 0, .int .i64 ac, .int .i64 0, .int .i64 (costE (l.take i))] ++ List.replicate 58 .top ++ [.lst (l.map edD), .int .i64 l.length, .int .i64 i] ++ List.replicate 62 .top) h
      (List.replicate 145 blk0)) (fun i => i ≤ l.length) (fun i => l.length - i) 0 (Nat.zero_le _) ?_ ?_
  · have z : costE (l.take 0) = 0 := rfl
    rw [z]
    refine le_to (List.replicate 145 .hole) hl rfl ?_ ?_ <;> ((try simp only [y_blk_end, y_blk_hole, y_blk_nil, y_blk_old, y_wkl_end, y_wkl_top, List.replicate, List.cons_append, List.nil_append, and_true, true_and]) <;> (repeat' (first | apply And.intro | apply y_wkl | refine Exists.intro _ (And.intro rfl ?_))) <;> (try first | exact trivial | exact Wk.top _ | exact wk_int rfl | exact wk_bool rfl | exact wk_ptr rfl rfl rfl rfl | exact wk_ref rfl rfl rfl rfl rfl | exact wk_nil rfl rfl rfl | exact wk_ref rfl rfl rfl rfl (by simp) | exact wk_ref rfl rfl rfl rfl (by simp; omega) | exact wk_old (by assumption) (by simp) | exact wk_eq rfl (by first | exact Bd.int _ _ | exact Bd.bool _ | exact Bd.abool | exact Bd.nils | exact Bd.emp | exact Bd.nilp | exact Bd.nilfn | assumption | exact low_trees _ _ | exact low_treeD _ _ | exact low_ints _ _) | exact Nat.le_refl _ | exact wk_int (by simp) | exact wk_int (by omega) | exact Nat.succ_le_succ (Nat.zero_le _) | exact Nat.le_add_left _ _ | omega))
  · intro i hi
    obtain ⟨b1, b2⟩ := costE_bound hok hi
    by_cases hlt : i < l.length
    · have h1 : (i : Int) < (l.length : Int) := by omega
      have h0 : (0 : Int) ≤ (i : Int) := by omega
      have e0 := nth_eds l i hlt
      have w1 : IntKind.i64.wrap ((i : Int) + 1) = ((i + 1 : Nat) : Int) := by rw [IntWalk.i64_in _ (by omega)]; omega
      have hN := newK_at l hlt
      have hix := hok i hlt
      have hat := (atK_bound (n := A.length) (l := l) (k := i) fun j hj => hok j (by omega)).1
      have hcs := costE_succ hlt
      have c1 : i * (A.length + newK l) ≤ 100 * 100 := Nat.mul_le_mul (by omega) (by omega)
      unfold okIx at hix
      generalize edAt l i = e at *
      have u1 : IntKind.i64.wrap (e.t - e.f) = e.t - e.f := IntWalk.i64_in _ (by omega)
      have u2 : IntKind.i64.wrap (e.t - e.f + (e.w.length : Int)) = e.t - e.f + (e.w.length : Int) := IntWalk.i64_in _ (by omega)
      have u3 : IntKind.i64.wrap (costE (l.take i) + (e.t - e.f + (e.w.length : Int))) = costE (l.take (i + 1)) := by rw [hcs]; exact IntWalk.i64_in _ (by omega)
      simp -implicitDefEqProofs only [↓symPre, symPost, y_condP, y_condG, run, lver, minD, intsD, eqAll, tupD, splice, Nat.zero_add, Nat.add_zero, Nat.zero_mul, Nat.mul_one, Nat.one_mul, Nat.reduceAdd, Nat.reduceSub, Nat.reduceMul, Nat.reduceLT, Nat.reduceLeDiff, Nat.reduceEqDiff, true_and, and_true, true_implies, if_true, if_false, ite_true, reduceIte, ne_eq, not_false_eq_true, reduceCtorEq, forall_const, bne_self_eq_false, Bool.true_eq_false, Bool.false_eq_true, false_implies, and_self, implies_true, Int.toNat_zero, beq_self_eq_true, decide_true, decide_false, Bool.not_true, Bool.not_false, ↓y_call, List.length_map, h1, h0, e0, decide_true, Int.toNat_natCast, u1, u2, u3, w1, hlow]
      refine ⟨i + 1, by omega, by omega, ?_⟩
      refine le_to (List.replicate 145 .hole) hl rfl ?_ ?_ <;> ((try simp only [y_blk_end, y_blk_hole, y_blk_nil, y_blk_old, y_wkl_end, y_wkl_top, List.replicate, List.cons_append, List.nil_append, and_true, true_and]) <;> (repeat' (first | apply And.intro | apply y_wkl | refine Exists.intro _ (And.intro rfl ?_))) <;> (try first | exact trivial | exact Wk.top _ | exact wk_int rfl | exact wk_bool rfl | exact wk_ptr rfl rfl rfl rfl | exact wk_ref rfl rfl rfl rfl rfl | exact wk_nil rfl rfl rfl | exact wk_ref rfl rfl rfl rfl (by simp) | exact wk_ref rfl rfl rfl rfl (by simp; omega) | exact wk_old (by assumption) (by simp) | exact wk_eq rfl (by first | exact Bd.int _ _ | exact Bd.bool _ | exact Bd.abool | exact Bd.nils | exact Bd.emp | exact Bd.nilp | exact Bd.nilfn | assumption | exact low_trees _ _ | exact low_treeD _ _ | exact low_ints _ _) | exact Nat.le_refl _ | exact wk_int (by simp) | exact wk_int (by omega) | exact Nat.succ_le_succ (Nat.zero_le _) | exact Nat.le_add_left _ _ | omega))
    · have h1 : ¬ (i : Int) < (l.length : Int) := by omega
      obtain rfl : i = l.length := by omega
      rw [List.take_length]
      simp -implicitDefEqProofs only [↓symPre, symPost, y_condP, y_condG, run, lver, minD, intsD, eqAll, tupD, splice, Nat.zero_add, Nat.add_zero, Nat.zero_mul, Nat.mul_one, Nat.one_mul, Nat.reduceAdd, Nat.reduceSub, Nat.reduceMul, Nat.reduceLT, Nat.reduceLeDiff, Nat.reduceEqDiff, true_and, and_true, true_implies, if_true, if_false, ite_true, reduceIte, ne_eq, not_false_eq_true, reduceCtorEq, forall_const, bne_self_eq_false, Bool.true_eq_false, Bool.false_eq_true, false_implies, and_self, implies_true, Int.toNat_zero, beq_self_eq_true, decide_true, decide_false, Bool.not_true, Bool.not_false, ↓y_call, h1, decide_false]
      refine pX.call rfl ?_
      have v1 : IntKind.i64.wrap (X.t - X.f) = X.t - X.f := IntWalk.i64_in _ (by omega)
      have v2 : IntKind.i64.wrap (X.t - X.f + (X.w.length : Int)) = X.t - X.f + (X.w.length : Int) := IntWalk.i64_in _ (by omega)
      have v3 : IntKind.i64.wrap (costE l + bc) = costE l + bc := IntWalk.i64_in _ (by omega)
      have v4 : (costE l == costE l) = true := by simp
      have v5 : ¬ (0 : Int) > 0 := by omega
      simp -implicitDefEqProofs only [↓symPre, symPost, y_condP, y_condG, run, lver, minD, intsD, eqAll, tupD, splice, Nat.zero_add, Nat.add_zero, Nat.zero_mul, Nat.mul_one, Nat.one_mul, Nat.reduceAdd, Nat.reduceSub, Nat.reduceMul, Nat.reduceLT, Nat.reduceLeDiff, Nat.reduceEqDiff, true_and, and_true, true_implies, if_true, if_false, ite_true, reduceIte, ne_eq, not_false_eq_true, reduceCtorEq, forall_const, bne_self_eq_false, Bool.true_eq_false, Bool.false_eq_true, false_implies, and_self, implies_true, Int.toNat_zero, beq_self_eq_true, decide_true, decide_false, Bool.not_true, Bool.not_false, ↓y_call, v5, List.foldl_cons, List.foldl_nil]
      refine pQ.call rfl ?_
      have d2 : costE l ≤ X.t - X.f + (X.w.length : Int) := hX
      simp -implicitDefEqProofs only [↓symPre, symPost, y_condP, y_condG, run, lver, minD, intsD, eqAll, tupD, splice, Nat.zero_add, Nat.add_zero, Nat.zero_mul, Nat.mul_one, Nat.one_mul, Nat.reduceAdd, Nat.reduceSub, Nat.reduceMul, Nat.reduceLT, Nat.reduceLeDiff, Nat.reduceEqDiff, true_and, and_true, true_implies, if_true, if_false, ite_true, reduceIte, ne_eq, not_false_eq_true, reduceCtorEq, forall_const, bne_self_eq_false, Bool.true_eq_false, Bool.false_eq_true, false_implies, and_self, implies_true, Int.toNat_zero, beq_self_eq_true, decide_true, decide_false, Bool.not_true, Bool.not_false, ↓y_call, v1, v2, v3, v4, tri, d2, decide_true, List.length_map]
      exact fin_bool hl rfl

end Abs
end Go.Proofs.Ytfojedaccfenfab

/- Edits over each other. -/
import Derived.Test.YtcdbikoonobodaaD10
namespace Go.Proofs.Ytcdbikoonobodaa
namespace Abs
set_option linter.unusedVariables false
set_option linter.unusedSimpArgs false
set_option maxRecDepth 20000

def before (a b : Ed) : Prop := a.t ≤ b.f ∧ (a.f < b.t ∨ a.f < a.t)
instance (a b : Ed) : Decidable (before a b) := inferInstanceAs (Decidable (_ ∧ (_ ∨ _)))
def overE (a b : Ed) : Ed := if before a b then ⟨b.f + shiftE a, b.t + shiftE a, b.w⟩ else if before b a then b else ed0
def overC (a b : Ed) : Int := if before a b ∨ before b a then 0 else 8

set_option maxHeartbeats 2000000 in
theorem pure_OverOk {m : Nat} {a b : Ed} (hm : m * 8 ≤ 140737488351232) (ha : a.w.length * 8 ≤ 140737488351232) (hb : b.w.length * 8 ≤ 140737488351232) (h1 : chk m a = 0) (h2 : chk m b = 0) :
    Pure prog F_edit_Over [.int .i64 m, edD a, edD b] (.tup [edD (overE a b), .int .i64 (overC a b)]) := by
  intro n h
  obtain ⟨a1, a2, a3⟩ := chk_ok h1
  obtain ⟨b1, b2, b3⟩ := chk_ok h2
  have pA := pure_Check m a (by omega) (by omega)
  have pB := pure_Check m b (by omega) (by omega)
  have pS := pure_shift a (by omega) (by omega) (by omega)
  have pC := pure_CloneI b.w (by omega)
  have hsa : shiftE a = a.w.length - (a.t - a.f) := rfl
  have w1 : IntKind.i64.wrap (b.f + shiftE a) = b.f + shiftE a := IntWalk.i64_in _ (by omega)
  have w2 : IntKind.i64.wrap (b.t + shiftE a) = b.t + shiftE a := IntWalk.i64_in _ (by omega)
  rw [h1] at pA
  rw [h2] at pB
  refine K_edit_Over.calls fun hl => ?_
  obtain ⟨af, at', aw⟩ := a
  obtain ⟨bf, bt, bw⟩ := b
  unfold C_edit_Over
  unfold edD at pA pB pS ⊢
  simp only at pA pB pS pC a1 a2 a3 b1 b2 b3 ha hb w1 w2 ⊢
  unfold iD at *
  simp -implicitDefEqProofs only [↓symPre, symPost, y_condP, y_condG, run, lver, minD, intsD, eqAll, tupD, splice, Nat.zero_add, Nat.add_zero, Nat.zero_mul, Nat.mul_one, Nat.one_mul, Nat.reduceAdd, Nat.reduceSub, Nat.reduceMul, Nat.reduceLT, Nat.reduceLeDiff, Nat.reduceEqDiff, true_and, and_true, true_implies, if_true, if_false, ite_true, reduceIte, ne_eq, not_false_eq_true, reduceCtorEq, forall_const, bne_self_eq_false, Bool.true_eq_false, Bool.false_eq_true, false_implies, and_self, implies_true, Int.toNat_zero, beq_self_eq_true, decide_true, decide_false, Bool.not_true, Bool.not_false, ↓y_lookv, y_key1, y_mlook, y_mlookn, y_mres1, y_mres0, ↓y_call]
  refine aloop (fun i : Nat => St.mk n ([.int .i64 m, .top, .top, .top, .ptr (n + 4) 1 0, .ptr (n + 5) 1 0, .ptr (n + 6) 1 0, .int .i64 0] ++ List.replicate 6 .top ++ [.ref 3 (n + 14) 1 0 2, .int .i64 2, .int .i64 i] ++ List.replicate 73 .top) h
      (List.replicate 4 blk0 ++ [⟨1, .cells [.int .i64 af, .int .i64 at', iD aw]⟩, ⟨1, .cells [.int .i64 bf, .int .i64 bt, iD bw]⟩, ⟨1, .cells [.int .i64 0, .int .i64 0, .nils]⟩] ++ List.replicate 7 blk0 ++
        [⟨1, .cells [.int .i64 af, .int .i64 at', iD aw, .int .i64 bf, .int .i64 bt, iD bw]⟩] ++ List.replicate 75 blk0)) (fun i => i ≤ 2) (fun i => 2 - i) 0 (Nat.zero_le _) ?_ ?_
  · refine le_to (List.replicate 4 .hole ++ [.old 4, .old 5, .old 6] ++ List.replicate 7 .hole ++ [.old 14] ++ List.replicate 75 .hole) hl rfl ?_ ?_ <;> ((try simp only [y_blk_end, y_blk_hole, y_blk_nil, y_blk_old, y_wkl_end, y_wkl_top, List.replicate, List.cons_append, List.nil_append, and_true, true_and]) <;> (repeat' (first | apply And.intro | apply y_wkl | refine Exists.intro _ (And.intro rfl ?_))) <;> (try first | exact trivial | exact Wk.top _ | exact wk_int rfl | exact wk_bool rfl | exact wk_ptr rfl rfl rfl rfl | exact wk_ref rfl rfl rfl rfl rfl | exact wk_nil rfl rfl rfl | exact wk_ref rfl rfl rfl rfl (by simp) | exact wk_ref rfl rfl rfl rfl (by simp; omega) | exact wk_old (by assumption) (by simp) | exact wk_eq rfl (by first | exact Bd.int _ _ | exact Bd.bool _ | exact Bd.abool | exact Bd.nils | exact Bd.emp | exact Bd.nilp | exact Bd.nilfn | assumption | exact low_trees _ _ | exact low_treeD _ _ | exact low_ints _ _) | exact Nat.le_refl _ | exact wk_int (by simp) | exact wk_int (by omega) | exact Nat.succ_le_succ (Nat.zero_le _) | exact Nat.le_add_left _ _ | omega))
  · intro i hi
    rcases i with _ | _ | _ | i
    · have hz0 : ((0 : Nat) : Int) = 0 := rfl
      have hlt : (0 : Int) < 2 := by omega
      have w0 : IntKind.i64.wrap (0 + 1) = 1 := by rw [IntWalk.i64_in _ (by omega)]; omega
      have e2 : ((2 : Nat) : Int) = 2 := rfl
      simp -implicitDefEqProofs only [↓symPre, symPost, y_condP, y_condG, run, lver, minD, intsD, eqAll, tupD, splice, Nat.zero_add, Nat.add_zero, Nat.zero_mul, Nat.mul_one, Nat.one_mul, Nat.reduceAdd, Nat.reduceSub, Nat.reduceMul, Nat.reduceLT, Nat.reduceLeDiff, Nat.reduceEqDiff, true_and, and_true, true_implies, if_true, if_false, ite_true, reduceIte, ne_eq, not_false_eq_true, reduceCtorEq, forall_const, bne_self_eq_false, Bool.true_eq_false, Bool.false_eq_true, false_implies, and_self, implies_true, Int.toNat_zero, beq_self_eq_true, decide_true, decide_false, Bool.not_true, Bool.not_false, ↓y_lookv, y_key1, y_mlook, y_mlookn, y_mres1, y_mres0, ↓y_call, hz0, hlt, e2, Int.le_refl, decide_true, Nat.zero_lt_succ]
      refine pA.call rfl ?_
      simp -implicitDefEqProofs only [↓symPre, symPost, y_condP, y_condG, run, lver, minD, intsD, eqAll, tupD, splice, Nat.zero_add, Nat.add_zero, Nat.zero_mul, Nat.mul_one, Nat.one_mul, Nat.reduceAdd, Nat.reduceSub, Nat.reduceMul, Nat.reduceLT, Nat.reduceLeDiff, Nat.reduceEqDiff, true_and, and_true, true_implies, if_true, if_false, ite_true, reduceIte, ne_eq, not_false_eq_true, reduceCtorEq, forall_const, bne_self_eq_false, Bool.true_eq_false, Bool.false_eq_true, false_implies, and_self, implies_true, Int.toNat_zero, beq_self_eq_true, decide_true, decide_false, Bool.not_true, Bool.not_false, ↓y_lookv, y_key1, y_mlook, y_mlookn, y_mres1, y_mres0, ↓y_call, w0]
      refine ⟨1, by omega, by omega, ?_⟩
      have hz1 : ((1 : Nat) : Int) = 1 := rfl
      simp only [hz1]
      refine le_to (List.replicate 4 .hole ++ [.old 4, .old 5, .old 6] ++ List.replicate 7 .hole ++ [.old 14] ++ List.replicate 75 .hole) hl rfl ?_ ?_ <;> ((try simp only [y_blk_end, y_blk_hole, y_blk_nil, y_blk_old, y_wkl_end, y_wkl_top, List.replicate, List.cons_append, List.nil_append, and_true, true_and]) <;> (repeat' (first | apply And.intro | apply y_wkl | refine Exists.intro _ (And.intro rfl ?_))) <;> (try first | exact trivial | exact Wk.top _ | exact wk_int rfl | exact wk_bool rfl | exact wk_ptr rfl rfl rfl rfl | exact wk_ref rfl rfl rfl rfl rfl | exact wk_nil rfl rfl rfl | exact wk_ref rfl rfl rfl rfl (by simp) | exact wk_ref rfl rfl rfl rfl (by simp; omega) | exact wk_old (by assumption) (by simp) | exact wk_eq rfl (by first | exact Bd.int _ _ | exact Bd.bool _ | exact Bd.abool | exact Bd.nils | exact Bd.emp | exact Bd.nilp | exact Bd.nilfn | assumption | exact low_trees _ _ | exact low_treeD _ _ | exact low_ints _ _) | exact Nat.le_refl _ | exact wk_int (by simp) | exact wk_int (by omega) | exact Nat.succ_le_succ (Nat.zero_le _) | exact Nat.le_add_left _ _ | omega))
    · have hz1 : ((0 + 1 : Nat) : Int) = 1 := rfl
      have hlt : (1 : Int) < 2 := by omega
      have h01 : (0 : Int) ≤ 1 := by omega
      have t1 : (1 : Int).toNat = 1 := rfl
      have n12 : (1 : Nat) < 2 := by omega
      have w0 : IntKind.i64.wrap (1 + 1) = 2 := by rw [IntWalk.i64_in _ (by omega)]; omega
      have e2 : ((2 : Nat) : Int) = 2 := rfl
      simp -implicitDefEqProofs only [↓symPre, symPost, y_condP, y_condG, run, lver, minD, intsD, eqAll, tupD, splice, Nat.zero_add, Nat.add_zero, Nat.zero_mul, Nat.mul_one, Nat.one_mul, Nat.reduceAdd, Nat.reduceSub, Nat.reduceMul, Nat.reduceLT, Nat.reduceLeDiff, Nat.reduceEqDiff, true_and, and_true, true_implies, if_true, if_false, ite_true, reduceIte, ne_eq, not_false_eq_true, reduceCtorEq, forall_const, bne_self_eq_false, Bool.true_eq_false, Bool.false_eq_true, false_implies, and_self, implies_true, Int.toNat_zero, beq_self_eq_true, decide_true, decide_false, Bool.not_true, Bool.not_false, ↓y_lookv, y_key1, y_mlook, y_mlookn, y_mres1, y_mres0, ↓y_call, hz1, hlt, h01, t1, e2, decide_true, n12]
      refine pB.call rfl ?_
      simp -implicitDefEqProofs only [↓symPre, symPost, y_condP, y_condG, run, lver, minD, intsD, eqAll, tupD, splice, Nat.zero_add, Nat.add_zero, Nat.zero_mul, Nat.mul_one, Nat.one_mul, Nat.reduceAdd, Nat.reduceSub, Nat.reduceMul, Nat.reduceLT, Nat.reduceLeDiff, Nat.reduceEqDiff, true_and, and_true, true_implies, if_true, if_false, ite_true, reduceIte, ne_eq, not_false_eq_true, reduceCtorEq, forall_const, bne_self_eq_false, Bool.true_eq_false, Bool.false_eq_true, false_implies, and_self, implies_true, Int.toNat_zero, beq_self_eq_true, decide_true, decide_false, Bool.not_true, Bool.not_false, ↓y_lookv, y_key1, y_mlook, y_mlookn, y_mres1, y_mres0, ↓y_call, w0]
      refine ⟨2, by omega, by omega, ?_⟩
      have hz2 : ((2 : Nat) : Int) = 2 := rfl
      simp only [hz2]
      refine le_to (List.replicate 4 .hole ++ [.old 4, .old 5, .old 6] ++ List.replicate 7 .hole ++ [.old 14] ++ List.replicate 75 .hole) hl rfl ?_ ?_ <;> ((try simp only [y_blk_end, y_blk_hole, y_blk_nil, y_blk_old, y_wkl_end, y_wkl_top, List.replicate, List.cons_append, List.nil_append, and_true, true_and]) <;> (repeat' (first | apply And.intro | apply y_wkl | refine Exists.intro _ (And.intro rfl ?_))) <;> (try first | exact trivial | exact Wk.top _ | exact wk_int rfl | exact wk_bool rfl | exact wk_ptr rfl rfl rfl rfl | exact wk_ref rfl rfl rfl rfl rfl | exact wk_nil rfl rfl rfl | exact wk_ref rfl rfl rfl rfl (by simp) | exact wk_ref rfl rfl rfl rfl (by simp; omega) | exact wk_old (by assumption) (by simp) | exact wk_eq rfl (by first | exact Bd.int _ _ | exact Bd.bool _ | exact Bd.abool | exact Bd.nils | exact Bd.emp | exact Bd.nilp | exact Bd.nilfn | assumption | exact low_trees _ _ | exact low_treeD _ _ | exact low_ints _ _) | exact Nat.le_refl _ | exact wk_int (by simp) | exact wk_int (by omega) | exact Nat.succ_le_succ (Nat.zero_le _) | exact Nat.le_add_left _ _ | omega))
    · have hz2 : ((0 + 1 + 1 : Nat) : Int) = 2 := rfl
      have hlt : ¬ (2 : Int) < 2 := by omega
      have hz0 : ((0 : Nat) : Int) = 0 := rfl
      simp -implicitDefEqProofs only [↓symPre, symPost, y_condP, y_condG, run, lver, minD, intsD, eqAll, tupD, splice, Nat.zero_add, Nat.add_zero, Nat.zero_mul, Nat.mul_one, Nat.one_mul, Nat.reduceAdd, Nat.reduceSub, Nat.reduceMul, Nat.reduceLT, Nat.reduceLeDiff, Nat.reduceEqDiff, true_and, and_true, true_implies, if_true, if_false, ite_true, reduceIte, ne_eq, not_false_eq_true, reduceCtorEq, forall_const, bne_self_eq_false, Bool.true_eq_false, Bool.false_eq_true, false_implies, and_self, implies_true, Int.toNat_zero, beq_self_eq_true, decide_true, decide_false, Bool.not_true, Bool.not_false, ↓y_lookv, y_key1, y_mlook, y_mlookn, y_mres1, y_mres0, ↓y_call, hz2, hlt, decide_false]
      refine adrawq hmix ([[], [], [], [], [], [], [], [], [], [n + 11]]) ?_
      simp (maxSteps := 400000) -implicitDefEqProofs only [↓symPre, symPost, y_condP, y_condG, run, lver, minD, intsD, eqAll, tupD, splice, Nat.zero_add, Nat.add_zero, Nat.zero_mul, Nat.mul_one, Nat.one_mul, Nat.reduceAdd, Nat.reduceSub, Nat.reduceMul, Nat.reduceLT, Nat.reduceLeDiff, Nat.reduceEqDiff, true_and, and_true, true_implies, if_true, if_false, ite_true, reduceIte, ne_eq, not_false_eq_true, reduceCtorEq, forall_const, bne_self_eq_false, Bool.true_eq_false, Bool.false_eq_true, false_implies, and_self, implies_true, Int.toNat_zero, beq_self_eq_true, decide_true, decide_false, Bool.not_true, Bool.not_false, ↓y_lookv, y_key1, y_mlook, y_mlookn, y_mres1, y_mres0, ↓y_call, ↓y_adq0, ↓y_adq, ↓y_stepQ_call, ↓y_adq_onT, ↓y_adq_onF, ↓y_adq_onS, drawPost, isCall, isNew, isEff, Option.toList, or_false, false_or, cond_true, cond_false, not_true_eq_false, or_true, true_or, Nat.add_left_cancel_iff, Bool.false_eq_true, ↓y_q0, ↓y_q1, ↓y_q1e, y_qn, isMap, List.flatMap_cons, List.flatMap_nil, List.append_nil, List.getD_cons_succ, List.getD_cons_zero]
      refine ⟨_, _, pC.draw rfl, (by simp [y_cov0, y_cov1, isNew, isEff, Option.toList]), ?_⟩
      have hone : ∀ c, c = D.int .i64 bf ∨ c = D.int .i64 bt ∨ c = iD bw → c.one = true := by rintro c (rfl | rfl | rfl) <;> rfl
      by_cases c1 : at' ≤ bf
      · by_cases c2 : af < bt
        · have hbf : before ⟨af, at', aw⟩ ⟨bf, bt, bw⟩ := ⟨c1, .inl c2⟩
          have hE : overE ⟨af, at', aw⟩ ⟨bf, bt, bw⟩ = ⟨bf + shiftE ⟨af, at', aw⟩, bt + shiftE ⟨af, at', aw⟩, bw⟩ := if_pos hbf
          have hC : overC ⟨af, at', aw⟩ ⟨bf, bt, bw⟩ = 0 := if_pos (.inl hbf)
          rw [hE, hC]
          simp (maxSteps := 400000) -implicitDefEqProofs only [↓symPre, symPost, y_condP, y_condG, run, lver, minD, intsD, eqAll, tupD, splice, Nat.zero_add, Nat.add_zero, Nat.zero_mul, Nat.mul_one, Nat.one_mul, Nat.reduceAdd, Nat.reduceSub, Nat.reduceMul, Nat.reduceLT, Nat.reduceLeDiff, Nat.reduceEqDiff, true_and, and_true, true_implies, if_true, if_false, ite_true, reduceIte, ne_eq, not_false_eq_true, reduceCtorEq, forall_const, bne_self_eq_false, Bool.true_eq_false, Bool.false_eq_true, false_implies, and_self, implies_true, Int.toNat_zero, beq_self_eq_true, decide_true, decide_false, Bool.not_true, Bool.not_false, ↓y_lookv, y_key1, y_mlook, y_mlookn, y_mres1, y_mres0, ↓y_call, ↓y_adq0, ↓y_adq, ↓y_stepQ_call, ↓y_adq_onT, ↓y_adq_onF, ↓y_adq_onS, drawPost, isCall, isNew, isEff, Option.toList, or_false, false_or, cond_true, cond_false, not_true_eq_false, or_true, true_or, Nat.add_left_cancel_iff, Bool.false_eq_true, ↓y_q0, ↓y_q1, ↓y_q1e, y_qn, isMap, List.getD_cons_succ, List.getD_cons_zero, decide_true, decide_false, c1, c2]
          refine ⟨hone, ?_⟩
          refine adrawq hmix ([[], [], [], [], [], [], [], [], [], [], [], [n + 11], [], [n + 11]]) ?_
          simp (maxSteps := 400000) -implicitDefEqProofs only [↓symPre, symPost, y_condP, y_condG, run, lver, minD, intsD, eqAll, tupD, splice, Nat.zero_add, Nat.add_zero, Nat.zero_mul, Nat.mul_one, Nat.one_mul, Nat.reduceAdd, Nat.reduceSub, Nat.reduceMul, Nat.reduceLT, Nat.reduceLeDiff, Nat.reduceEqDiff, true_and, and_true, true_implies, if_true, if_false, ite_true, reduceIte, ne_eq, not_false_eq_true, reduceCtorEq, forall_const, bne_self_eq_false, Bool.true_eq_false, Bool.false_eq_true, false_implies, and_self, implies_true, Int.toNat_zero, beq_self_eq_true, decide_true, decide_false, Bool.not_true, Bool.not_false, ↓y_lookv, y_key1, y_mlook, y_mlookn, y_mres1, y_mres0, ↓y_call, ↓y_adq0, ↓y_adq, ↓y_stepQ_call, ↓y_adq_onT, ↓y_adq_onF, ↓y_adq_onS, drawPost, isCall, isNew, isEff, Option.toList, or_false, false_or, cond_true, cond_false, not_true_eq_false, or_true, true_or, Nat.add_left_cancel_iff, Bool.false_eq_true, ↓y_q0, ↓y_q1, ↓y_q1e, y_qn, isMap, List.flatMap_cons, List.flatMap_nil, List.append_nil, List.getD_cons_succ, List.getD_cons_zero]
          refine ⟨_, _, pS.draw rfl, (by simp [y_cov0, y_cov1, isNew, isEff, Option.toList]), ?_⟩
          simp (maxSteps := 400000) -implicitDefEqProofs only [↓symPre, symPost, y_condP, y_condG, run, lver, minD, intsD, eqAll, tupD, splice, Nat.zero_add, Nat.add_zero, Nat.zero_mul, Nat.mul_one, Nat.one_mul, Nat.reduceAdd, Nat.reduceSub, Nat.reduceMul, Nat.reduceLT, Nat.reduceLeDiff, Nat.reduceEqDiff, true_and, and_true, true_implies, if_true, if_false, ite_true, reduceIte, ne_eq, not_false_eq_true, reduceCtorEq, forall_const, bne_self_eq_false, Bool.true_eq_false, Bool.false_eq_true, false_implies, and_self, implies_true, Int.toNat_zero, beq_self_eq_true, decide_true, decide_false, Bool.not_true, Bool.not_false, ↓y_lookv, y_key1, y_mlook, y_mlookn, y_mres1, y_mres0, ↓y_call, ↓y_adq0, ↓y_adq, ↓y_stepQ_call, ↓y_adq_onT, ↓y_adq_onF, ↓y_adq_onS, drawPost, isCall, isNew, isEff, Option.toList, or_false, false_or, cond_true, cond_false, not_true_eq_false, or_true, true_or, Nat.add_left_cancel_iff, Bool.false_eq_true, ↓y_q0, ↓y_q1, ↓y_q1e, y_qn, isMap, w1, List.flatMap_cons, List.flatMap_nil, List.append_nil, List.getD_cons_succ, List.getD_cons_zero]
          refine ⟨_, _, pS.draw rfl, (by simp [y_cov0, y_cov1, isNew, isEff, Option.toList]), ?_⟩
          simp (maxSteps := 400000) -implicitDefEqProofs only [↓symPre, symPost, y_condP, y_condG, run, lver, minD, intsD, eqAll, tupD, splice, Nat.zero_add, Nat.add_zero, Nat.zero_mul, Nat.mul_one, Nat.one_mul, Nat.reduceAdd, Nat.reduceSub, Nat.reduceMul, Nat.reduceLT, Nat.reduceLeDiff, Nat.reduceEqDiff, true_and, and_true, true_implies, if_true, if_false, ite_true, reduceIte, ne_eq, not_false_eq_true, reduceCtorEq, forall_const, bne_self_eq_false, Bool.true_eq_false, Bool.false_eq_true, false_implies, and_self, implies_true, Int.toNat_zero, beq_self_eq_true, decide_true, decide_false, Bool.not_true, Bool.not_false, ↓y_lookv, y_key1, y_mlook, y_mlookn, y_mres1, y_mres0, ↓y_call, ↓y_adq0, ↓y_adq, ↓y_stepQ_call, ↓y_adq_onT, ↓y_adq_onF, ↓y_adq_onS, drawPost, isCall, isNew, isEff, Option.toList, or_false, false_or, cond_true, cond_false, not_true_eq_false, or_true, true_or, Nat.add_left_cancel_iff, Bool.false_eq_true, ↓y_q0, ↓y_q1, ↓y_q1e, y_qn, isMap, w2, List.flatMap_cons, List.flatMap_nil, List.append_nil, List.getD_cons_succ, List.getD_cons_zero]
          repeat (refine And.intro (by intro c hc; first | (rcases hc with rfl | rfl | rfl <;> rfl) | (subst hc; rfl)) ?_)
          exact fin_wk hl (wk_tup2 (wk_agg3 wk_i wk_i wk_iD) wk_i) ⟨rfl, rfl, rfl⟩
        · by_cases c3 : af < at'
          · have hbf : before ⟨af, at', aw⟩ ⟨bf, bt, bw⟩ := ⟨c1, .inr c3⟩
            have hE : overE ⟨af, at', aw⟩ ⟨bf, bt, bw⟩ = ⟨bf + shiftE ⟨af, at', aw⟩, bt + shiftE ⟨af, at', aw⟩, bw⟩ := if_pos hbf
            have hC : overC ⟨af, at', aw⟩ ⟨bf, bt, bw⟩ = 0 := if_pos (.inl hbf)
            rw [hE, hC]
            simp (maxSteps := 400000) -implicitDefEqProofs only [↓symPre, symPost, y_condP, y_condG, run, lver, minD, intsD, eqAll, tupD, splice, Nat.zero_add, Nat.add_zero, Nat.zero_mul, Nat.mul_one, Nat.one_mul, Nat.reduceAdd, Nat.reduceSub, Nat.reduceMul, Nat.reduceLT, Nat.reduceLeDiff, Nat.reduceEqDiff, true_and, and_true, true_implies, if_true, if_false, ite_true, reduceIte, ne_eq, not_false_eq_true, reduceCtorEq, forall_const, bne_self_eq_false, Bool.true_eq_false, Bool.false_eq_true, false_implies, and_self, implies_true, Int.toNat_zero, beq_self_eq_true, decide_true, decide_false, Bool.not_true, Bool.not_false, ↓y_lookv, y_key1, y_mlook, y_mlookn, y_mres1, y_mres0, ↓y_call, ↓y_adq0, ↓y_adq, ↓y_stepQ_call, ↓y_adq_onT, ↓y_adq_onF, ↓y_adq_onS, drawPost, isCall, isNew, isEff, Option.toList, or_false, false_or, cond_true, cond_false, not_true_eq_false, or_true, true_or, Nat.add_left_cancel_iff, Bool.false_eq_true, ↓y_q0, ↓y_q1, ↓y_q1e, y_qn, isMap, List.getD_cons_succ, List.getD_cons_zero, decide_true, decide_false, c1, c2, c3]
            refine ⟨hone, ?_⟩
            refine adrawq hmix ([[], [], [], [], [], [], [], [], [], [], [], [n + 11], [], [n + 11]]) ?_
            simp (maxSteps := 400000) -implicitDefEqProofs only [↓symPre, symPost, y_condP, y_condG, run, lver, minD, intsD, eqAll, tupD, splice, Nat.zero_add, Nat.add_zero, Nat.zero_mul, Nat.mul_one, Nat.one_mul, Nat.reduceAdd, Nat.reduceSub, Nat.reduceMul, Nat.reduceLT, Nat.reduceLeDiff, Nat.reduceEqDiff, true_and, and_true, true_implies, if_true, if_false, ite_true, reduceIte, ne_eq, not_false_eq_true, reduceCtorEq, forall_const, bne_self_eq_false, Bool.true_eq_false, Bool.false_eq_true, false_implies, and_self, implies_true, Int.toNat_zero, beq_self_eq_true, decide_true, decide_false, Bool.not_true, Bool.not_false, ↓y_lookv, y_key1, y_mlook, y_mlookn, y_mres1, y_mres0, ↓y_call, ↓y_adq0, ↓y_adq, ↓y_stepQ_call, ↓y_adq_onT, ↓y_adq_onF, ↓y_adq_onS, drawPost, isCall, isNew, isEff, Option.toList, or_false, false_or, cond_true, cond_false, not_true_eq_false, or_true, true_or, Nat.add_left_cancel_iff, Bool.false_eq_true, ↓y_q0, ↓y_q1, ↓y_q1e, y_qn, isMap, List.flatMap_cons, List.flatMap_nil, List.append_nil, List.getD_cons_succ, List.getD_cons_zero]
            refine ⟨_, _, pS.draw rfl, (by simp [y_cov0, y_cov1, isNew, isEff, Option.toList]), ?_⟩
            simp (maxSteps := 400000) -implicitDefEqProofs only [↓symPre, symPost, y_condP, y_condG, run, lver, minD, intsD, eqAll, tupD, splice, Nat.zero_add, Nat.add_zero, Nat.zero_mul, Nat.mul_one, Nat.one_mul, Nat.reduceAdd, Nat.reduceSub, Nat.reduceMul, Nat.reduceLT, Nat.reduceLeDiff, Nat.reduceEqDiff, true_and, and_true, true_implies, if_true, if_false, ite_true, reduceIte, ne_eq, not_false_eq_true, reduceCtorEq, forall_const, bne_self_eq_false, Bool.true_eq_false, Bool.false_eq_true, false_implies, and_self, implies_true, Int.toNat_zero, beq_self_eq_true, decide_true, decide_false, Bool.not_true, Bool.not_false, ↓y_lookv, y_key1, y_mlook, y_mlookn, y_mres1, y_mres0, ↓y_call, ↓y_adq0, ↓y_adq, ↓y_stepQ_call, ↓y_adq_onT, ↓y_adq_onF, ↓y_adq_onS, drawPost, isCall, isNew, isEff, Option.toList, or_false, false_or, cond_true, cond_false, not_true_eq_false, or_true, true_or, Nat.add_left_cancel_iff, Bool.false_eq_true, ↓y_q0, ↓y_q1, ↓y_q1e, y_qn, isMap, w1, List.flatMap_cons, List.flatMap_nil, List.append_nil, List.getD_cons_succ, List.getD_cons_zero]
            refine ⟨_, _, pS.draw rfl, (by simp [y_cov0, y_cov1, isNew, isEff, Option.toList]), ?_⟩
            simp (maxSteps := 400000) -implicitDefEqProofs only [↓symPre, symPost, y_condP, y_condG, run, lver, minD, intsD, eqAll, tupD, splice, Nat.zero_add, Nat.add_zero, Nat.zero_mul, Nat.mul_one, Nat.one_mul, Nat.reduceAdd, Nat.reduceSub, Nat.reduceMul, Nat.reduceLT, Nat.reduceLeDiff, Nat.reduceEqDiff, true_and, and_true, true_implies, if_true, if_false, ite_true, reduceIte, ne_eq, not_false_eq_true, reduceCtorEq, forall_const, bne_self_eq_false, Bool.true_eq_false, Bool.false_eq_true, false_implies, and_self, implies_true, Int.toNat_zero, beq_self_eq_true, decide_true, decide_false, Bool.not_true, Bool.not_false, ↓y_lookv, y_key1, y_mlook, y_mlookn, y_mres1, y_mres0, ↓y_call, ↓y_adq0, ↓y_adq, ↓y_stepQ_call, ↓y_adq_onT, ↓y_adq_onF, ↓y_adq_onS, drawPost, isCall, isNew, isEff, Option.toList, or_false, false_or, cond_true, cond_false, not_true_eq_false, or_true, true_or, Nat.add_left_cancel_iff, Bool.false_eq_true, ↓y_q0, ↓y_q1, ↓y_q1e, y_qn, isMap, w2, List.flatMap_cons, List.flatMap_nil, List.append_nil, List.getD_cons_succ, List.getD_cons_zero]
            repeat (refine And.intro (by intro c hc; first | (rcases hc with rfl | rfl | rfl <;> rfl) | (subst hc; rfl)) ?_)
            exact fin_wk hl (wk_tup2 (wk_agg3 wk_i wk_i wk_iD) wk_i) ⟨rfl, rfl, rfl⟩
          · have hnb : ¬ before ⟨af, at', aw⟩ ⟨bf, bt, bw⟩ := fun h => h.2.elim c2 c3
            by_cases c4 : bt ≤ af
            · by_cases c5 : bf < at'
              · have hbf : before ⟨bf, bt, bw⟩ ⟨af, at', aw⟩ := ⟨c4, .inl c5⟩
                have hE : overE ⟨af, at', aw⟩ ⟨bf, bt, bw⟩ = ⟨bf, bt, bw⟩ := by rw [overE, if_neg hnb, if_pos hbf]
                have hC : overC ⟨af, at', aw⟩ ⟨bf, bt, bw⟩ = 0 := if_pos (.inr hbf)
                rw [hE, hC]
                simp (maxSteps := 400000) -implicitDefEqProofs only [↓symPre, symPost, y_condP, y_condG, run, lver, minD, intsD, eqAll, tupD, splice, Nat.zero_add, Nat.add_zero, Nat.zero_mul, Nat.mul_one, Nat.one_mul, Nat.reduceAdd, Nat.reduceSub, Nat.reduceMul, Nat.reduceLT, Nat.reduceLeDiff, Nat.reduceEqDiff, true_and, and_true, true_implies, if_true, if_false, ite_true, reduceIte, ne_eq, not_false_eq_true, reduceCtorEq, forall_const, bne_self_eq_false, Bool.true_eq_false, Bool.false_eq_true, false_implies, and_self, implies_true, Int.toNat_zero, beq_self_eq_true, decide_true, decide_false, Bool.not_true, Bool.not_false, ↓y_lookv, y_key1, y_mlook, y_mlookn, y_mres1, y_mres0, ↓y_call, ↓y_adq0, ↓y_adq, ↓y_stepQ_call, ↓y_adq_onT, ↓y_adq_onF, ↓y_adq_onS, drawPost, isCall, isNew, isEff, Option.toList, or_false, false_or, cond_true, cond_false, not_true_eq_false, or_true, true_or, Nat.add_left_cancel_iff, Bool.false_eq_true, ↓y_q0, ↓y_q1, ↓y_q1e, y_qn, isMap, List.getD_cons_succ, List.getD_cons_zero, decide_true, decide_false, c1, c2, c3, c4, c5]
                refine ⟨hone, ?_⟩
                repeat (refine And.intro (by intro c hc; first | (rcases hc with rfl | rfl | rfl <;> rfl) | (subst hc; rfl)) ?_)
                exact fin_wk hl (wk_tup2 (wk_agg3 wk_i wk_i wk_iD) wk_i) ⟨rfl, rfl, rfl⟩
              · by_cases c6 : bf < bt
                · have hbf : before ⟨bf, bt, bw⟩ ⟨af, at', aw⟩ := ⟨c4, .inr c6⟩
                  have hE : overE ⟨af, at', aw⟩ ⟨bf, bt, bw⟩ = ⟨bf, bt, bw⟩ := by rw [overE, if_neg hnb, if_pos hbf]
                  have hC : overC ⟨af, at', aw⟩ ⟨bf, bt, bw⟩ = 0 := if_pos (.inr hbf)
                  rw [hE, hC]
                  simp (maxSteps := 400000) -implicitDefEqProofs only [↓symPre, symPost, y_condP, y_condG, run, lver, minD, intsD, eqAll, tupD, splice, Nat.zero_add, Nat.add_zero, Nat.zero_mul, Nat.mul_one, Nat.one_mul, Nat.reduceAdd, Nat.reduceSub, Nat.reduceMul, Nat.reduceLT, Nat.reduceLeDiff, Nat.reduceEqDiff, true_and, and_true, true_implies, if_true, if_false, ite_true, reduceIte, ne_eq, not_false_eq_true, reduceCtorEq, forall_const, bne_self_eq_false, Bool.true_eq_false, Bool.false_eq_true, false_implies, and_self, implies_true, Int.toNat_zero, beq_self_eq_true, decide_true, decide_false, Bool.not_true, Bool.not_false, ↓y_lookv, y_key1, y_mlook, y_mlookn, y_mres1, y_mres0, ↓y_call, ↓y_adq0, ↓y_adq, ↓y_stepQ_call, ↓y_adq_onT, ↓y_adq_onF, ↓y_adq_onS, drawPost, isCall, isNew, isEff, Option.toList, or_false, false_or, cond_true, cond_false, not_true_eq_false, or_true, true_or, Nat.add_left_cancel_iff, Bool.false_eq_true, ↓y_q0, ↓y_q1, ↓y_q1e, y_qn, isMap, List.getD_cons_succ, List.getD_cons_zero, decide_true, decide_false, c1, c2, c3, c4, c5, c6]
                  refine ⟨hone, ?_⟩
                  repeat (refine And.intro (by intro c hc; first | (rcases hc with rfl | rfl | rfl <;> rfl) | (subst hc; rfl)) ?_)
                  exact fin_wk hl (wk_tup2 (wk_agg3 wk_i wk_i wk_iD) wk_i) ⟨rfl, rfl, rfl⟩
                · have hnc : ¬ before ⟨bf, bt, bw⟩ ⟨af, at', aw⟩ := fun h => h.2.elim c5 c6
                  have hE : overE ⟨af, at', aw⟩ ⟨bf, bt, bw⟩ = ed0 := by rw [overE, if_neg hnb, if_neg hnc]
                  have hC : overC ⟨af, at', aw⟩ ⟨bf, bt, bw⟩ = 8 := if_neg (by rintro (h | h) <;> contradiction)
                  rw [hE, hC]
                  unfold ed0
                  simp (maxSteps := 400000) -implicitDefEqProofs only [↓symPre, symPost, y_condP, y_condG, run, lver, minD, intsD, eqAll, tupD, splice, Nat.zero_add, Nat.add_zero, Nat.zero_mul, Nat.mul_one, Nat.one_mul, Nat.reduceAdd, Nat.reduceSub, Nat.reduceMul, Nat.reduceLT, Nat.reduceLeDiff, Nat.reduceEqDiff, true_and, and_true, true_implies, if_true, if_false, ite_true, reduceIte, ne_eq, not_false_eq_true, reduceCtorEq, forall_const, bne_self_eq_false, Bool.true_eq_false, Bool.false_eq_true, false_implies, and_self, implies_true, Int.toNat_zero, beq_self_eq_true, decide_true, decide_false, Bool.not_true, Bool.not_false, ↓y_lookv, y_key1, y_mlook, y_mlookn, y_mres1, y_mres0, ↓y_call, ↓y_adq0, ↓y_adq, ↓y_stepQ_call, ↓y_adq_onT, ↓y_adq_onF, ↓y_adq_onS, drawPost, isCall, isNew, isEff, Option.toList, or_false, false_or, cond_true, cond_false, not_true_eq_false, or_true, true_or, Nat.add_left_cancel_iff, Bool.false_eq_true, ↓y_q0, ↓y_q1, ↓y_q1e, y_qn, isMap, List.getD_cons_succ, List.getD_cons_zero, decide_true, decide_false, c1, c2, c3, c4, c5, c6]
                  refine ⟨hone, ?_⟩
                  repeat (refine And.intro (by intro c hc; first | (rcases hc with rfl | rfl | rfl <;> rfl) | (subst hc; rfl)) ?_)
                  exact fin_wk hl (wk_tup2 (wk_agg3 wk_i wk_i .nilsLst) wk_i) ⟨rfl, rfl, rfl⟩
            · have hnc : ¬ before ⟨bf, bt, bw⟩ ⟨af, at', aw⟩ := fun h => c4 h.1
              have hE : overE ⟨af, at', aw⟩ ⟨bf, bt, bw⟩ = ed0 := by rw [overE, if_neg hnb, if_neg hnc]
              have hC : overC ⟨af, at', aw⟩ ⟨bf, bt, bw⟩ = 8 := if_neg (by rintro (h | h) <;> contradiction)
              rw [hE, hC]
              unfold ed0
              simp (maxSteps := 400000) -implicitDefEqProofs only [↓symPre, symPost, y_condP, y_condG, run, lver, minD, intsD, eqAll, tupD, splice, Nat.zero_add, Nat.add_zero, Nat.zero_mul, Nat.mul_one, Nat.one_mul, Nat.reduceAdd, Nat.reduceSub, Nat.reduceMul, Nat.reduceLT, Nat.reduceLeDiff, Nat.reduceEqDiff, true_and, and_true, true_implies, if_true, if_false, ite_true, reduceIte, ne_eq, not_false_eq_true, reduceCtorEq, forall_const, bne_self_eq_false, Bool.true_eq_false, Bool.false_eq_true, false_implies, and_self, implies_true, Int.toNat_zero, beq_self_eq_true, decide_true, decide_false, Bool.not_true, Bool.not_false, ↓y_lookv, y_key1, y_mlook, y_mlookn, y_mres1, y_mres0, ↓y_call, ↓y_adq0, ↓y_adq, ↓y_stepQ_call, ↓y_adq_onT, ↓y_adq_onF, ↓y_adq_onS, drawPost, isCall, isNew, isEff, Option.toList, or_false, false_or, cond_true, cond_false, not_true_eq_false, or_true, true_or, Nat.add_left_cancel_iff, Bool.false_eq_true, ↓y_q0, ↓y_q1, ↓y_q1e, y_qn, isMap, List.getD_cons_succ, List.getD_cons_zero, decide_true, decide_false, c1, c2, c3, c4]
              refine ⟨hone, ?_⟩
              repeat (refine And.intro (by intro c hc; first | (rcases hc with rfl | rfl | rfl <;> rfl) | (subst hc; rfl)) ?_)
              exact fin_wk hl (wk_tup2 (wk_agg3 wk_i wk_i .nilsLst) wk_i) ⟨rfl, rfl, rfl⟩
      · have hnb : ¬ before ⟨af, at', aw⟩ ⟨bf, bt, bw⟩ := fun h => c1 h.1
        by_cases c4 : bt ≤ af
        · by_cases c5 : bf < at'
          · have hbf : before ⟨bf, bt, bw⟩ ⟨af, at', aw⟩ := ⟨c4, .inl c5⟩
            have hE : overE ⟨af, at', aw⟩ ⟨bf, bt, bw⟩ = ⟨bf, bt, bw⟩ := by rw [overE, if_neg hnb, if_pos hbf]
            have hC : overC ⟨af, at', aw⟩ ⟨bf, bt, bw⟩ = 0 := if_pos (.inr hbf)
            rw [hE, hC]
            simp (maxSteps := 400000) -implicitDefEqProofs only [↓symPre, symPost, y_condP, y_condG, run, lver, minD, intsD, eqAll, tupD, splice, Nat.zero_add, Nat.add_zero, Nat.zero_mul, Nat.mul_one, Nat.one_mul, Nat.reduceAdd, Nat.reduceSub, Nat.reduceMul, Nat.reduceLT, Nat.reduceLeDiff, Nat.reduceEqDiff, true_and, and_true, true_implies, if_true, if_false, ite_true, reduceIte, ne_eq, not_false_eq_true, reduceCtorEq, forall_const, bne_self_eq_false, Bool.true_eq_false, Bool.false_eq_true, false_implies, and_self, implies_true, Int.toNat_zero, beq_self_eq_true, decide_true, decide_false, Bool.not_true, Bool.not_false, ↓y_lookv, y_key1, y_mlook, y_mlookn, y_mres1, y_mres0, ↓y_call, ↓y_adq0, ↓y_adq, ↓y_stepQ_call, ↓y_adq_onT, ↓y_adq_onF, ↓y_adq_onS, drawPost, isCall, isNew, isEff, Option.toList, or_false, false_or, cond_true, cond_false, not_true_eq_false, or_true, true_or, Nat.add_left_cancel_iff, Bool.false_eq_true, ↓y_q0, ↓y_q1, ↓y_q1e, y_qn, isMap, List.getD_cons_succ, List.getD_cons_zero, decide_true, decide_false, c1, c4, c5]
            refine ⟨hone, ?_⟩
            repeat (refine And.intro (by intro c hc; first | (rcases hc with rfl | rfl | rfl <;> rfl) | (subst hc; rfl)) ?_)
            exact fin_wk hl (wk_tup2 (wk_agg3 wk_i wk_i wk_iD) wk_i) ⟨rfl, rfl, rfl⟩
          · by_cases c6 : bf < bt
            · have hbf : before ⟨bf, bt, bw⟩ ⟨af, at', aw⟩ := ⟨c4, .inr c6⟩
              have hE : overE ⟨af, at', aw⟩ ⟨bf, bt, bw⟩ = ⟨bf, bt, bw⟩ := by rw [overE, if_neg hnb, if_pos hbf]
              have hC : overC ⟨af, at', aw⟩ ⟨bf, bt, bw⟩ = 0 := if_pos (.inr hbf)
              rw [hE, hC]
              simp (maxSteps := 400000) -implicitDefEqProofs only [↓symPre, symPost, y_condP, y_condG, run, lver, minD, intsD, eqAll, tupD, splice, Nat.zero_add, Nat.add_zero, Nat.zero_mul, Nat.mul_one, Nat.one_mul, Nat.reduceAdd, Nat.reduceSub, Nat.reduceMul, Nat.reduceLT, Nat.reduceLeDiff, Nat.reduceEqDiff, true_and, and_true, true_implies, if_true, if_false, ite_true, reduceIte, ne_eq, not_false_eq_true, reduceCtorEq, forall_const, bne_self_eq_false, Bool.true_eq_false, Bool.false_eq_true, false_implies, and_self, implies_true, Int.toNat_zero, beq_self_eq_true, decide_true, decide_false, Bool.not_true, Bool.not_false, ↓y_lookv, y_key1, y_mlook, y_mlookn, y_mres1, y_mres0, ↓y_call, ↓y_adq0, ↓y_adq, ↓y_stepQ_call, ↓y_adq_onT, ↓y_adq_onF, ↓y_adq_onS, drawPost, isCall, isNew, isEff, Option.toList, or_false, false_or, cond_true, cond_false, not_true_eq_false, or_true, true_or, Nat.add_left_cancel_iff, Bool.false_eq_true, ↓y_q0, ↓y_q1, ↓y_q1e, y_qn, isMap, List.getD_cons_succ, List.getD_cons_zero, decide_true, decide_false, c1, c4, c5, c6]
              refine ⟨hone, ?_⟩
              repeat (refine And.intro (by intro c hc; first | (rcases hc with rfl | rfl | rfl <;> rfl) | (subst hc; rfl)) ?_)
              exact fin_wk hl (wk_tup2 (wk_agg3 wk_i wk_i wk_iD) wk_i) ⟨rfl, rfl, rfl⟩
            · have hnc : ¬ before ⟨bf, bt, bw⟩ ⟨af, at', aw⟩ := fun h => h.2.elim c5 c6
              have hE : overE ⟨af, at', aw⟩ ⟨bf, bt, bw⟩ = ed0 := by rw [overE, if_neg hnb, if_neg hnc]
              have hC : overC ⟨af, at', aw⟩ ⟨bf, bt, bw⟩ = 8 := if_neg (by rintro (h | h) <;> contradiction)
              rw [hE, hC]
              unfold ed0
              simp (maxSteps := 400000) -implicitDefEqProofs only [↓symPre, symPost, y_condP, y_condG, run, lver, minD, intsD, eqAll, tupD, splice, Nat.zero_add, Nat.add_zero, Nat.zero_mul, Nat.mul_one, Nat.one_mul, Nat.reduceAdd, Nat.reduceSub, Nat.reduceMul, Nat.reduceLT, Nat.reduceLeDiff, Nat.reduceEqDiff, true_and, and_true, true_implies, if_true, if_false, ite_true, reduceIte, ne_eq, not_false_eq_true, reduceCtorEq, forall_const, bne_self_eq_false, Bool.true_eq_false, Bool.false_eq_true, false_implies, and_self, implies_true, Int.toNat_zero, beq_self_eq_true, decide_true, decide_false, Bool.not_true, Bool.not_false, ↓y_lookv, y_key1, y_mlook, y_mlookn, y_mres1, y_mres0, ↓y_call, ↓y_adq0, ↓y_adq, ↓y_stepQ_call, ↓y_adq_onT, ↓y_adq_onF, ↓y_adq_onS, drawPost, isCall, isNew, isEff, Option.toList, or_false, false_or, cond_true, cond_false, not_true_eq_false, or_true, true_or, Nat.add_left_cancel_iff, Bool.false_eq_true, ↓y_q0, ↓y_q1, ↓y_q1e, y_qn, isMap, List.getD_cons_succ, List.getD_cons_zero, decide_true, decide_false, c1, c4, c5, c6]
              refine ⟨hone, ?_⟩
              repeat (refine And.intro (by intro c hc; first | (rcases hc with rfl | rfl | rfl <;> rfl) | (subst hc; rfl)) ?_)
              exact fin_wk hl (wk_tup2 (wk_agg3 wk_i wk_i .nilsLst) wk_i) ⟨rfl, rfl, rfl⟩
        · have hnc : ¬ before ⟨bf, bt, bw⟩ ⟨af, at', aw⟩ := fun h => c4 h.1
          have hE : overE ⟨af, at', aw⟩ ⟨bf, bt, bw⟩ = ed0 := by rw [overE, if_neg hnb, if_neg hnc]
          have hC : overC ⟨af, at', aw⟩ ⟨bf, bt, bw⟩ = 8 := if_neg (by rintro (h | h) <;> contradiction)
          rw [hE, hC]
          unfold ed0
          simp (maxSteps := 400000) -implicitDefEqProofs only [↓symPre, symPost, y_condP, y_condG, run, lver, minD, intsD, eqAll, tupD, splice, Nat.zero_add, Nat.add_zero, Nat.zero_mul, Nat.mul_one, Nat.one_mul, Nat.reduceAdd, Nat.reduceSub, Nat.reduceMul, Nat.reduceLT, Nat.reduceLeDiff, Nat.reduceEqDiff, true_and, and_true, true_implies, if_true, if_false, ite_true, reduceIte, ne_eq, not_false_eq_true, reduceCtorEq, forall_const, bne_self_eq_false, Bool.true_eq_false, Bool.false_eq_true, false_implies, and_self, implies_true, Int.toNat_zero, beq_self_eq_true, decide_true, decide_false, Bool.not_true, Bool.not_false, ↓y_lookv, y_key1, y_mlook, y_mlookn, y_mres1, y_mres0, ↓y_call, ↓y_adq0, ↓y_adq, ↓y_stepQ_call, ↓y_adq_onT, ↓y_adq_onF, ↓y_adq_onS, drawPost, isCall, isNew, isEff, Option.toList, or_false, false_or, cond_true, cond_false, not_true_eq_false, or_true, true_or, Nat.add_left_cancel_iff, Bool.false_eq_true, ↓y_q0, ↓y_q1, ↓y_q1e, y_qn, isMap, List.getD_cons_succ, List.getD_cons_zero, decide_true, decide_false, c1, c4]
          refine ⟨hone, ?_⟩
          repeat (refine And.intro (by intro c hc; first | (rcases hc with rfl | rfl | rfl <;> rfl) | (subst hc; rfl)) ?_)
          exact fin_wk hl (wk_tup2 (wk_agg3 wk_i wk_i .nilsLst) wk_i) ⟨rfl, rfl, rfl⟩
    · omega

end Abs
end Go.Proofs.Ytcdbikoonobodaa

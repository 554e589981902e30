/- The change between two words. -/
import Derived.Test.YtcdbikoonobodaaF1
namespace Go.Proofs.Ytcdbikoonobodaa
namespace Abs
set_option linter.unusedVariables false
set_option linter.unusedSimpArgs false
set_option maxRecDepth 20000

set_option maxHeartbeats 4000000 in
theorem pure_Between (a b : List Int) (ha : a.length * 8 ≤ 140737488351232) (hb : b.length * 8 ≤ 140737488351232) : Pure prog F_edit_Between [iD a, iD b] (edD (changeE a b)) := by
  intro n h
  refine K_edit_Between.calls fun hl => ?_
  unfold C_edit_Between
  have hlc := lcp_le a b
  simp -implicitDefEqProofs only [↓symPre, symPost, y_condP, y_condG, run, lver, minD, intsD, eqAll, tupD, splice, Nat.zero_add, Nat.add_zero, Nat.zero_mul, Nat.mul_one, Nat.one_mul, Nat.reduceAdd, Nat.reduceSub, Nat.reduceMul, Nat.reduceLT, Nat.reduceLeDiff, Nat.reduceEqDiff, true_and, and_true, true_implies, if_true, if_false, ite_true, reduceIte, ne_eq, not_false_eq_true, reduceCtorEq, forall_const, bne_self_eq_false, Bool.true_eq_false, Bool.false_eq_true, false_implies, and_self, implies_true, Int.toNat_zero, beq_self_eq_true, decide_true, decide_false, Bool.not_true, Bool.not_false, ↓y_lookv, y_key1, y_mlook, y_mlookn, y_mres1, y_mres0, ↓y_call]
  refine aloop (fun i : Nat => St.mk n ([iD a, iD b, .top, .top, .ptr (n + 4) 1 0, .int .i64 i] ++ List.replicate 73 .top) h
      (List.replicate 4 blk0 ++ [⟨1, .cells [.int .i64 0, .int .i64 0, .nils]⟩] ++ List.replicate 74 blk0)) (fun i => i ≤ lcp a b) (fun i => lcp a b - i) 0 (Nat.zero_le _) ?_ ?_
  · refine le_to (List.replicate 4 .hole ++ [.old 4] ++ List.replicate 74 .hole) hl rfl ?_ ?_ <;> ((try simp only [y_blk_end, y_blk_hole, y_blk_nil, y_blk_old, y_wkl_end, y_wkl_top, List.replicate, List.cons_append, List.nil_append, and_true, true_and]) <;> (repeat' (first | apply And.intro | apply y_wkl | refine Exists.intro _ (And.intro rfl ?_))) <;> (try first | exact trivial | exact Wk.top _ | exact wk_int rfl | exact wk_bool rfl | exact wk_ptr rfl rfl rfl rfl | exact wk_ref rfl rfl rfl rfl rfl | exact wk_nil rfl rfl rfl | exact wk_ref rfl rfl rfl rfl (by simp) | exact wk_ref rfl rfl rfl rfl (by simp; omega) | exact wk_old (by assumption) (by simp) | exact wk_eq rfl (by first | exact Bd.int _ _ | exact Bd.bool _ | exact Bd.abool | exact Bd.nils | exact Bd.emp | exact Bd.nilp | exact Bd.nilfn | assumption | exact low_trees _ _ | exact low_treeD _ _ | exact low_ints _ _) | exact Nat.le_refl _ | exact wk_int (by simp) | exact wk_int (by omega) | exact Nat.succ_le_succ (Nat.zero_le _) | exact Nat.le_add_left _ _ | omega))
  · intro i hi
    have h0 : (0 : Int) ≤ (i : Int) := by omega
    have w1 : IntKind.i64.wrap ((i : Int) + 1) = ((i + 1 : Nat) : Int) := by rw [IntWalk.i64_in _ (by omega)]; omega
    simp -implicitDefEqProofs only [↓symPre, symPost, y_condP, y_condG, run, lver, minD, intsD, eqAll, tupD, splice, Nat.zero_add, Nat.add_zero, Nat.zero_mul, Nat.mul_one, Nat.one_mul, Nat.reduceAdd, Nat.reduceSub, Nat.reduceMul, Nat.reduceLT, Nat.reduceLeDiff, Nat.reduceEqDiff, true_and, and_true, true_implies, if_true, if_false, ite_true, reduceIte, ne_eq, not_false_eq_true, reduceCtorEq, forall_const, bne_self_eq_false, Bool.true_eq_false, Bool.false_eq_true, false_implies, and_self, implies_true, Int.toNat_zero, beq_self_eq_true, decide_true, decide_false, Bool.not_true, Bool.not_false, ↓y_lookv, y_key1, y_mlook, y_mlookn, y_mres1, y_mres0, ↓y_call]
    refine adrawq hmix [] ?_
    by_cases c1 : i < a.length
    · have f1 : (i : Int) < (a.length : Int) := by omega
      by_cases c2 : i < b.length
      · have f2 : (i : Int) < (b.length : Int) := by omega
        have hst := lcp_step a b i c1 c2 hi
        have e0 := nth_ints a i c1
        have e1 := nth_ints b i c2
        by_cases c3 : a[i] = b[i]
        · have hb' : (a[i] == b[i]) = true := by simpa using c3
          simp (maxSteps := 400000) -implicitDefEqProofs only [↓symPre, symPost, y_condP, y_condG, run, lver, minD, intsD, eqAll, tupD, splice, Nat.zero_add, Nat.add_zero, Nat.zero_mul, Nat.mul_one, Nat.one_mul, Nat.reduceAdd, Nat.reduceSub, Nat.reduceMul, Nat.reduceLT, Nat.reduceLeDiff, Nat.reduceEqDiff, true_and, and_true, true_implies, if_true, if_false, ite_true, reduceIte, ne_eq, not_false_eq_true, reduceCtorEq, forall_const, bne_self_eq_false, Bool.true_eq_false, Bool.false_eq_true, false_implies, and_self, implies_true, Int.toNat_zero, beq_self_eq_true, decide_true, decide_false, Bool.not_true, Bool.not_false, ↓y_lookv, y_key1, y_mlook, y_mlookn, y_mres1, y_mres0, ↓y_call, ↓y_adq0, ↓y_adq, ↓y_stepQ_call, ↓y_adq_onT, ↓y_adq_onF, ↓y_adq_onS, drawPost, isCall, isNew, isEff, Option.toList, or_false, false_or, cond_true, cond_false, not_true_eq_false, or_true, true_or, Nat.add_left_cancel_iff, Bool.false_eq_true, ↓y_q0, ↓y_q1, ↓y_q1e, y_qn, isMap, List.length_map, f1, f2, h0, e0, e1, hb', decide_true, Int.toNat_natCast, w1]
          refine ⟨i + 1, hst.1 c3, by have := hst.1 c3; omega, ?_⟩
          refine le_to (List.replicate 4 .hole ++ [.old 4] ++ List.replicate 74 .hole) hl rfl ?_ ?_ <;> ((try simp only [y_blk_end, y_blk_hole, y_blk_nil, y_blk_old, y_wkl_end, y_wkl_top, List.replicate, List.cons_append, List.nil_append, and_true, true_and]) <;> (repeat' (first | apply And.intro | apply y_wkl | refine Exists.intro _ (And.intro rfl ?_))) <;> (try first | exact trivial | exact Wk.top _ | exact wk_int rfl | exact wk_bool rfl | exact wk_ptr rfl rfl rfl rfl | exact wk_ref rfl rfl rfl rfl rfl | exact wk_nil rfl rfl rfl | exact wk_ref rfl rfl rfl rfl (by simp) | exact wk_ref rfl rfl rfl rfl (by simp; omega) | exact wk_old (by assumption) (by simp) | exact wk_eq rfl (by first | exact Bd.int _ _ | exact Bd.bool _ | exact Bd.abool | exact Bd.nils | exact Bd.emp | exact Bd.nilp | exact Bd.nilfn | assumption | exact low_trees _ _ | exact low_treeD _ _ | exact low_ints _ _) | exact Nat.le_refl _ | exact wk_int (by simp) | exact wk_int (by omega) | exact Nat.succ_le_succ (Nat.zero_le _) | exact Nat.le_add_left _ _ | omega))
        · have hb' : (a[i] == b[i]) = false := by simpa using c3
          obtain rfl : i = lcp a b := by have := mt hst.2 c3; omega
          clear hst
          simp (maxSteps := 400000) -implicitDefEqProofs only [↓symPre, symPost, y_condP, y_condG, run, lver, minD, intsD, eqAll, tupD, splice, Nat.zero_add, Nat.add_zero, Nat.zero_mul, Nat.mul_one, Nat.one_mul, Nat.reduceAdd, Nat.reduceSub, Nat.reduceMul, Nat.reduceLT, Nat.reduceLeDiff, Nat.reduceEqDiff, true_and, and_true, true_implies, if_true, if_false, ite_true, reduceIte, ne_eq, not_false_eq_true, reduceCtorEq, forall_const, bne_self_eq_false, Bool.true_eq_false, Bool.false_eq_true, false_implies, and_self, implies_true, Int.toNat_zero, beq_self_eq_true, decide_true, decide_false, Bool.not_true, Bool.not_false, ↓y_lookv, y_key1, y_mlook, y_mlookn, y_mres1, y_mres0, ↓y_call, ↓y_adq0, ↓y_adq, ↓y_stepQ_call, ↓y_adq_onT, ↓y_adq_onF, ↓y_adq_onS, drawPost, isCall, isNew, isEff, Option.toList, or_false, false_or, cond_true, cond_false, not_true_eq_false, or_true, true_or, Nat.add_left_cancel_iff, Bool.false_eq_true, ↓y_q0, ↓y_q1, ↓y_q1e, y_qn, isMap, List.length_map, f1, f2, h0, e0, e1, hb', decide_true, Int.toNat_natCast]
          clear e0 e1 hb' c3
          generalize hk : lcp a b = k at *
          refine aloop (fun j : Nat => St.mk n ([iD a, iD b, .top, .top, .ptr (n + 4) 1 0, .int .i64 k, .int .i64 j] ++ List.replicate 72 .top) h
              (List.replicate 4 blk0 ++ [⟨1, .cells [.int .i64 0, .int .i64 0, .nils]⟩] ++ List.replicate 74 blk0)) (fun j => j ≤ lcs a b k) (fun j => lcs a b k - j) 0 (Nat.zero_le _) ?_ ?_
          · refine le_to (List.replicate 4 .hole ++ [.old 4] ++ List.replicate 74 .hole) hl rfl ?_ ?_ <;> ((try simp only [y_blk_end, y_blk_hole, y_blk_nil, y_blk_old, y_wkl_end, y_wkl_top, List.replicate, List.cons_append, List.nil_append, and_true, true_and]) <;> (repeat' (first | apply And.intro | apply y_wkl | refine Exists.intro _ (And.intro rfl ?_))) <;> (try first | exact trivial | exact Wk.top _ | exact wk_int rfl | exact wk_bool rfl | exact wk_ptr rfl rfl rfl rfl | exact wk_ref rfl rfl rfl rfl rfl | exact wk_nil rfl rfl rfl | exact wk_ref rfl rfl rfl rfl (by simp) | exact wk_ref rfl rfl rfl rfl (by simp; omega) | exact wk_old (by assumption) (by simp) | exact wk_eq rfl (by first | exact Bd.int _ _ | exact Bd.bool _ | exact Bd.abool | exact Bd.nils | exact Bd.emp | exact Bd.nilp | exact Bd.nilfn | assumption | exact low_trees _ _ | exact low_treeD _ _ | exact low_ints _ _) | exact Nat.le_refl _ | exact wk_int (by simp) | exact wk_int (by omega) | exact Nat.succ_le_succ (Nat.zero_le _) | exact Nat.le_add_left _ _ | omega))
          · intro j hj
            have v1 : IntKind.i64.wrap ((a.length : Int) - k) = (a.length : Int) - k := IntWalk.i64_in _ (by omega)
            have v2 : IntKind.i64.wrap ((b.length : Int) - k) = (b.length : Int) - k := IntWalk.i64_in _ (by omega)
            have v3 : IntKind.i64.wrap ((a.length : Int) - 1) = (a.length : Int) - 1 := IntWalk.i64_in _ (by omega)
            have v4 : IntKind.i64.wrap ((b.length : Int) - 1) = (b.length : Int) - 1 := IntWalk.i64_in _ (by omega)
            have hle := lcs_le a b k
            have v5 : IntKind.i64.wrap ((a.length : Int) - 1 - j) = (a.length : Int) - 1 - j := IntWalk.i64_in _ (by omega)
            have v6 : IntKind.i64.wrap ((b.length : Int) - 1 - j) = (b.length : Int) - 1 - j := IntWalk.i64_in _ (by omega)
            have v7 : IntKind.i64.wrap ((a.length : Int) - j) = (a.length : Int) - j := IntWalk.i64_in _ (by omega)
            have v8 : IntKind.i64.wrap ((b.length : Int) - j) = (b.length : Int) - j := IntWalk.i64_in _ (by omega)
            have w1 : IntKind.i64.wrap ((j : Int) + 1) = ((j + 1 : Nat) : Int) := by rw [IntWalk.i64_in _ (by omega)]; omega
            have s1 : (0 : Int) ≤ (k : Int) := by omega
            have done : j = lcs a b k → (D.agg [.int .i64 k, .int .i64 ((a.length : Int) - j), .lst (((b.map (D.int .i64)).drop k).take (((b.length : Int) - j).toNat - k))]) = edD (changeE a b) := fun e => by
              have e1 : ((b.length : Int) - j).toNat = b.length - j := by omega
              unfold edD changeE
              rw [hk, ← e, e1]
              simp only [iD, List.map_drop, List.map_take, List.drop_take]
            have pC := pure_CloneI (((b.drop k).take (((b.length : Int) - j).toNat - k))) (by simp; omega)
            unfold iD at pC
            rw [List.map_take, List.map_drop] at pC
            refine ?_
            simp -implicitDefEqProofs only [↓symPre, symPost, y_condP, y_condG, run, lver, minD, intsD, eqAll, tupD, splice, Nat.zero_add, Nat.add_zero, Nat.zero_mul, Nat.mul_one, Nat.one_mul, Nat.reduceAdd, Nat.reduceSub, Nat.reduceMul, Nat.reduceLT, Nat.reduceLeDiff, Nat.reduceEqDiff, true_and, and_true, true_implies, if_true, if_false, ite_true, reduceIte, ne_eq, not_false_eq_true, reduceCtorEq, forall_const, bne_self_eq_false, Bool.true_eq_false, Bool.false_eq_true, false_implies, and_self, implies_true, Int.toNat_zero, beq_self_eq_true, decide_true, decide_false, Bool.not_true, Bool.not_false, ↓y_lookv, y_key1, y_mlook, y_mlookn, y_mres1, y_mres0, ↓y_call]
            refine adrawq hmix [] ?_
            by_cases c1 : j < a.length - k
            · have f1 : (j : Int) < (a.length : Int) - k := by omega
              by_cases c2 : j < b.length - k
              · have f2 : (j : Int) < (b.length : Int) - k := by omega
                have hst := lcs_step a b k j c1 c2 hj
                have g1 : (0 : Int) ≤ (a.length : Int) - 1 - j := by omega
                have g2 : (a.length : Int) - 1 - j < a.length := by omega
                have g3 : (0 : Int) ≤ (b.length : Int) - 1 - j := by omega
                have g4 : (b.length : Int) - 1 - j < b.length := by omega
                have t1 : ((a.length : Int) - 1 - j).toNat = a.length - 1 - j := by omega
                have t2 : ((b.length : Int) - 1 - j).toNat = b.length - 1 - j := by omega
                have e0 := nth_ints a (a.length - 1 - j) (by omega)
                have e1 := nth_ints b (b.length - 1 - j) (by omega)
                by_cases c3 : a[a.length - 1 - j]'(by omega) = b[b.length - 1 - j]'(by omega)
                · have hb : (a[a.length - 1 - j]'(by omega) == b[b.length - 1 - j]'(by omega)) = true := by simpa using c3
                  simp (maxSteps := 400000) -implicitDefEqProofs only [↓symPre, symPost, y_condP, y_condG, run, lver, minD, intsD, eqAll, tupD, splice, Nat.zero_add, Nat.add_zero, Nat.zero_mul, Nat.mul_one, Nat.one_mul, Nat.reduceAdd, Nat.reduceSub, Nat.reduceMul, Nat.reduceLT, Nat.reduceLeDiff, Nat.reduceEqDiff, true_and, and_true, true_implies, if_true, if_false, ite_true, reduceIte, ne_eq, not_false_eq_true, reduceCtorEq, forall_const, bne_self_eq_false, Bool.true_eq_false, Bool.false_eq_true, false_implies, and_self, implies_true, Int.toNat_zero, beq_self_eq_true, decide_true, decide_false, Bool.not_true, Bool.not_false, ↓y_lookv, y_key1, y_mlook, y_mlookn, y_mres1, y_mres0, ↓y_call, ↓y_adq0, ↓y_adq, ↓y_stepQ_call, ↓y_adq_onT, ↓y_adq_onF, ↓y_adq_onS, drawPost, isCall, isNew, isEff, Option.toList, or_false, false_or, cond_true, cond_false, not_true_eq_false, or_true, true_or, Nat.add_left_cancel_iff, Bool.false_eq_true, ↓y_q0, ↓y_q1, ↓y_q1e, y_qn, isMap, List.length_map, v1, v2, v3, v4, v5, v6, f1, f2, g1, g2, g3, g4, t1, t2, e0, e1, hb, decide_true, w1]
                  refine ⟨j + 1, hst.1 c3, by have := hst.1 c3; omega, ?_⟩
                  refine le_to (List.replicate 4 .hole ++ [.old 4] ++ List.replicate 74 .hole) hl rfl ?_ ?_ <;> ((try simp only [y_blk_end, y_blk_hole, y_blk_nil, y_blk_old, y_wkl_end, y_wkl_top, List.replicate, List.cons_append, List.nil_append, and_true, true_and]) <;> (repeat' (first | apply And.intro | apply y_wkl | refine Exists.intro _ (And.intro rfl ?_))) <;> (try first | exact trivial | exact Wk.top _ | exact wk_int rfl | exact wk_bool rfl | exact wk_ptr rfl rfl rfl rfl | exact wk_ref rfl rfl rfl rfl rfl | exact wk_nil rfl rfl rfl | exact wk_ref rfl rfl rfl rfl (by simp) | exact wk_ref rfl rfl rfl rfl (by simp; omega) | exact wk_old (by assumption) (by simp) | exact wk_eq rfl (by first | exact Bd.int _ _ | exact Bd.bool _ | exact Bd.abool | exact Bd.nils | exact Bd.emp | exact Bd.nilp | exact Bd.nilfn | assumption | exact low_trees _ _ | exact low_treeD _ _ | exact low_ints _ _) | exact Nat.le_refl _ | exact wk_int (by simp) | exact wk_int (by omega) | exact Nat.succ_le_succ (Nat.zero_le _) | exact Nat.le_add_left _ _ | omega))
                · have hb : (a[a.length - 1 - j]'(by omega) == b[b.length - 1 - j]'(by omega)) = false := by simpa using c3
                  have hj' : j = lcs a b k := by have := mt hst.2 c3; omega
                  have hd := done hj'
                  have s2 : (k : Int) ≤ (b.length : Int) - j := by omega
                  have s3 : (b.length : Int) - j ≤ b.length := by omega
                  simp (maxSteps := 400000) -implicitDefEqProofs only [↓symPre, symPost, y_condP, y_condG, run, lver, minD, intsD, eqAll, tupD, splice, Nat.zero_add, Nat.add_zero, Nat.zero_mul, Nat.mul_one, Nat.one_mul, Nat.reduceAdd, Nat.reduceSub, Nat.reduceMul, Nat.reduceLT, Nat.reduceLeDiff, Nat.reduceEqDiff, true_and, and_true, true_implies, if_true, if_false, ite_true, reduceIte, ne_eq, not_false_eq_true, reduceCtorEq, forall_const, bne_self_eq_false, Bool.true_eq_false, Bool.false_eq_true, false_implies, and_self, implies_true, Int.toNat_zero, beq_self_eq_true, decide_true, decide_false, Bool.not_true, Bool.not_false, ↓y_lookv, y_key1, y_mlook, y_mlookn, y_mres1, y_mres0, ↓y_call, ↓y_adq0, ↓y_adq, ↓y_stepQ_call, ↓y_adq_onT, ↓y_adq_onF, ↓y_adq_onS, drawPost, isCall, isNew, isEff, Option.toList, or_false, false_or, cond_true, cond_false, not_true_eq_false, or_true, true_or, Nat.add_left_cancel_iff, Bool.false_eq_true, ↓y_q0, ↓y_q1, ↓y_q1e, y_qn, isMap, List.length_map, v1, v2, v3, v4, v5, v6, v7, v8, f1, f2, g1, g2, g3, g4, t1, t2, e0, e1, hb, decide_true, s1, s2, s3, ints_cells, Int.toNat_natCast]
                  refine pC.call rfl ?_
                  simp -implicitDefEqProofs only [↓symPre, symPost, y_condP, y_condG, run, lver, minD, intsD, eqAll, tupD, splice, Nat.zero_add, Nat.add_zero, Nat.zero_mul, Nat.mul_one, Nat.one_mul, Nat.reduceAdd, Nat.reduceSub, Nat.reduceMul, Nat.reduceLT, Nat.reduceLeDiff, Nat.reduceEqDiff, true_and, and_true, true_implies, if_true, if_false, ite_true, reduceIte, ne_eq, not_false_eq_true, reduceCtorEq, forall_const, bne_self_eq_false, Bool.true_eq_false, Bool.false_eq_true, false_implies, and_self, implies_true, Int.toNat_zero, beq_self_eq_true, decide_true, decide_false, Bool.not_true, Bool.not_false, ↓y_lookv, y_key1, y_mlook, y_mlookn, y_mres1, y_mres0, ↓y_call]
                  repeat (refine And.intro (by intro c hc; first | (rcases hc with rfl | rfl | rfl <;> rfl) | (subst hc; rfl)) ?_)
                  rw [← hd]
                  exact fin_low hl (.agg _ (by
                    intro c hc
                    simp only [List.mem_cons, List.not_mem_nil, or_false] at hc
                    rcases hc with rfl | rfl | rfl
                    · exact .int ..
                    · exact .int ..
                    · rw [← List.map_drop, ← List.map_take]; exact low_ints _ _)) ⟨rfl, rfl, rfl⟩
              · have f2 : ¬ (j : Int) < (b.length : Int) - k := by omega
                have hj' : j = lcs a b k := lcs_end a b k j hj (by omega)
                have hd := done hj'
                have s2 : (k : Int) ≤ (b.length : Int) - j := by omega
                have s3 : (b.length : Int) - j ≤ b.length := by omega
                simp (maxSteps := 400000) -implicitDefEqProofs only [↓symPre, symPost, y_condP, y_condG, run, lver, minD, intsD, eqAll, tupD, splice, Nat.zero_add, Nat.add_zero, Nat.zero_mul, Nat.mul_one, Nat.one_mul, Nat.reduceAdd, Nat.reduceSub, Nat.reduceMul, Nat.reduceLT, Nat.reduceLeDiff, Nat.reduceEqDiff, true_and, and_true, true_implies, if_true, if_false, ite_true, reduceIte, ne_eq, not_false_eq_true, reduceCtorEq, forall_const, bne_self_eq_false, Bool.true_eq_false, Bool.false_eq_true, false_implies, and_self, implies_true, Int.toNat_zero, beq_self_eq_true, decide_true, decide_false, Bool.not_true, Bool.not_false, ↓y_lookv, y_key1, y_mlook, y_mlookn, y_mres1, y_mres0, ↓y_call, ↓y_adq0, ↓y_adq, ↓y_stepQ_call, ↓y_adq_onT, ↓y_adq_onF, ↓y_adq_onS, drawPost, isCall, isNew, isEff, Option.toList, or_false, false_or, cond_true, cond_false, not_true_eq_false, or_true, true_or, Nat.add_left_cancel_iff, Bool.false_eq_true, ↓y_q0, ↓y_q1, ↓y_q1e, y_qn, isMap, List.length_map, v1, v2, v7, v8, f1, f2, decide_true, decide_false, s1, s2, s3, ints_cells, Int.toNat_natCast]
                refine pC.call rfl ?_
                simp -implicitDefEqProofs only [↓symPre, symPost, y_condP, y_condG, run, lver, minD, intsD, eqAll, tupD, splice, Nat.zero_add, Nat.add_zero, Nat.zero_mul, Nat.mul_one, Nat.one_mul, Nat.reduceAdd, Nat.reduceSub, Nat.reduceMul, Nat.reduceLT, Nat.reduceLeDiff, Nat.reduceEqDiff, true_and, and_true, true_implies, if_true, if_false, ite_true, reduceIte, ne_eq, not_false_eq_true, reduceCtorEq, forall_const, bne_self_eq_false, Bool.true_eq_false, Bool.false_eq_true, false_implies, and_self, implies_true, Int.toNat_zero, beq_self_eq_true, decide_true, decide_false, Bool.not_true, Bool.not_false, ↓y_lookv, y_key1, y_mlook, y_mlookn, y_mres1, y_mres0, ↓y_call]
                repeat (refine And.intro (by intro c hc; first | (rcases hc with rfl | rfl | rfl <;> rfl) | (subst hc; rfl)) ?_)
                rw [← hd]
                exact fin_low hl (.agg _ (by
                  intro c hc
                  simp only [List.mem_cons, List.not_mem_nil, or_false] at hc
                  rcases hc with rfl | rfl | rfl
                  · exact .int ..
                  · exact .int ..
                  · rw [← List.map_drop, ← List.map_take]; exact low_ints _ _)) ⟨rfl, rfl, rfl⟩
            · have f1 : ¬ (j : Int) < (a.length : Int) - k := by omega
              have hj' : j = lcs a b k := lcs_end a b k j hj (by omega)
              have hd := done hj'
              have s2 : (k : Int) ≤ (b.length : Int) - j := by omega
              have s3 : (b.length : Int) - j ≤ b.length := by omega
              simp (maxSteps := 400000) -implicitDefEqProofs only [↓symPre, symPost, y_condP, y_condG, run, lver, minD, intsD, eqAll, tupD, splice, Nat.zero_add, Nat.add_zero, Nat.zero_mul, Nat.mul_one, Nat.one_mul, Nat.reduceAdd, Nat.reduceSub, Nat.reduceMul, Nat.reduceLT, Nat.reduceLeDiff, Nat.reduceEqDiff, true_and, and_true, true_implies, if_true, if_false, ite_true, reduceIte, ne_eq, not_false_eq_true, reduceCtorEq, forall_const, bne_self_eq_false, Bool.true_eq_false, Bool.false_eq_true, false_implies, and_self, implies_true, Int.toNat_zero, beq_self_eq_true, decide_true, decide_false, Bool.not_true, Bool.not_false, ↓y_lookv, y_key1, y_mlook, y_mlookn, y_mres1, y_mres0, ↓y_call, ↓y_adq0, ↓y_adq, ↓y_stepQ_call, ↓y_adq_onT, ↓y_adq_onF, ↓y_adq_onS, drawPost, isCall, isNew, isEff, Option.toList, or_false, false_or, cond_true, cond_false, not_true_eq_false, or_true, true_or, Nat.add_left_cancel_iff, Bool.false_eq_true, ↓y_q0, ↓y_q1, ↓y_q1e, y_qn, isMap, List.length_map, v1, v2, v7, v8, f1, decide_true, decide_false, s1, s2, s3, ints_cells, Int.toNat_natCast]
              refine pC.call rfl ?_
              simp -implicitDefEqProofs only [↓symPre, symPost, y_condP, y_condG, run, lver, minD, intsD, eqAll, tupD, splice, Nat.zero_add, Nat.add_zero, Nat.zero_mul, Nat.mul_one, Nat.one_mul, Nat.reduceAdd, Nat.reduceSub, Nat.reduceMul, Nat.reduceLT, Nat.reduceLeDiff, Nat.reduceEqDiff, true_and, and_true, true_implies, if_true, if_false, ite_true, reduceIte, ne_eq, not_false_eq_true, reduceCtorEq, forall_const, bne_self_eq_false, Bool.true_eq_false, Bool.false_eq_true, false_implies, and_self, implies_true, Int.toNat_zero, beq_self_eq_true, decide_true, decide_false, Bool.not_true, Bool.not_false, ↓y_lookv, y_key1, y_mlook, y_mlookn, y_mres1, y_mres0, ↓y_call]
              repeat (refine And.intro (by intro c hc; first | (rcases hc with rfl | rfl | rfl <;> rfl) | (subst hc; rfl)) ?_)
              rw [← hd]
              exact fin_low hl (.agg _ (by
                intro c hc
                simp only [List.mem_cons, List.not_mem_nil, or_false] at hc
                rcases hc with rfl | rfl | rfl
                · exact .int ..
                · exact .int ..
                · rw [← List.map_drop, ← List.map_take]; exact low_ints _ _)) ⟨rfl, rfl, rfl⟩
      · have f2 : ¬ (i : Int) < (b.length : Int) := by omega
        obtain rfl : i = lcp a b := lcp_end a b i hi (by omega)
        simp (maxSteps := 400000) -implicitDefEqProofs only [↓symPre, symPost, y_condP, y_condG, run, lver, minD, intsD, eqAll, tupD, splice, Nat.zero_add, Nat.add_zero, Nat.zero_mul, Nat.mul_one, Nat.one_mul, Nat.reduceAdd, Nat.reduceSub, Nat.reduceMul, Nat.reduceLT, Nat.reduceLeDiff, Nat.reduceEqDiff, true_and, and_true, true_implies, if_true, if_false, ite_true, reduceIte, ne_eq, not_false_eq_true, reduceCtorEq, forall_const, bne_self_eq_false, Bool.true_eq_false, Bool.false_eq_true, false_implies, and_self, implies_true, Int.toNat_zero, beq_self_eq_true, decide_true, decide_false, Bool.not_true, Bool.not_false, ↓y_lookv, y_key1, y_mlook, y_mlookn, y_mres1, y_mres0, ↓y_call, ↓y_adq0, ↓y_adq, ↓y_stepQ_call, ↓y_adq_onT, ↓y_adq_onF, ↓y_adq_onS, drawPost, isCall, isNew, isEff, Option.toList, or_false, false_or, cond_true, cond_false, not_true_eq_false, or_true, true_or, Nat.add_left_cancel_iff, Bool.false_eq_true, ↓y_q0, ↓y_q1, ↓y_q1e, y_qn, isMap, List.length_map, f1, f2, decide_true, decide_false]
        generalize hk : lcp a b = k at *
        refine aloop (fun j : Nat => St.mk n ([iD a, iD b, .top, .top, .ptr (n + 4) 1 0, .int .i64 k, .int .i64 j] ++ List.replicate 72 .top) h
            (List.replicate 4 blk0 ++ [⟨1, .cells [.int .i64 0, .int .i64 0, .nils]⟩] ++ List.replicate 74 blk0)) (fun j => j ≤ lcs a b k) (fun j => lcs a b k - j) 0 (Nat.zero_le _) ?_ ?_
        · refine le_to (List.replicate 4 .hole ++ [.old 4] ++ List.replicate 74 .hole) hl rfl ?_ ?_ <;> ((try simp only [y_blk_end, y_blk_hole, y_blk_nil, y_blk_old, y_wkl_end, y_wkl_top, List.replicate, List.cons_append, List.nil_append, and_true, true_and]) <;> (repeat' (first | apply And.intro | apply y_wkl | refine Exists.intro _ (And.intro rfl ?_))) <;> (try first | exact trivial | exact Wk.top _ | exact wk_int rfl | exact wk_bool rfl | exact wk_ptr rfl rfl rfl rfl | exact wk_ref rfl rfl rfl rfl rfl | exact wk_nil rfl rfl rfl | exact wk_ref rfl rfl rfl rfl (by simp) | exact wk_ref rfl rfl rfl rfl (by simp; omega) | exact wk_old (by assumption) (by simp) | exact wk_eq rfl (by first | exact Bd.int _ _ | exact Bd.bool _ | exact Bd.abool | exact Bd.nils | exact Bd.emp | exact Bd.nilp | exact Bd.nilfn | assumption | exact low_trees _ _ | exact low_treeD _ _ | exact low_ints _ _) | exact Nat.le_refl _ | exact wk_int (by simp) | exact wk_int (by omega) | exact Nat.succ_le_succ (Nat.zero_le _) | exact Nat.le_add_left _ _ | omega))
        · intro j hj
          have v1 : IntKind.i64.wrap ((a.length : Int) - k) = (a.length : Int) - k := IntWalk.i64_in _ (by omega)
          have v2 : IntKind.i64.wrap ((b.length : Int) - k) = (b.length : Int) - k := IntWalk.i64_in _ (by omega)
          have v3 : IntKind.i64.wrap ((a.length : Int) - 1) = (a.length : Int) - 1 := IntWalk.i64_in _ (by omega)
          have v4 : IntKind.i64.wrap ((b.length : Int) - 1) = (b.length : Int) - 1 := IntWalk.i64_in _ (by omega)
          have hle := lcs_le a b k
          have v5 : IntKind.i64.wrap ((a.length : Int) - 1 - j) = (a.length : Int) - 1 - j := IntWalk.i64_in _ (by omega)
          have v6 : IntKind.i64.wrap ((b.length : Int) - 1 - j) = (b.length : Int) - 1 - j := IntWalk.i64_in _ (by omega)
          have v7 : IntKind.i64.wrap ((a.length : Int) - j) = (a.length : Int) - j := IntWalk.i64_in _ (by omega)
          have v8 : IntKind.i64.wrap ((b.length : Int) - j) = (b.length : Int) - j := IntWalk.i64_in _ (by omega)
          have w1 : IntKind.i64.wrap ((j : Int) + 1) = ((j + 1 : Nat) : Int) := by rw [IntWalk.i64_in _ (by omega)]; omega
          have s1 : (0 : Int) ≤ (k : Int) := by omega
          have done : j = lcs a b k → (D.agg [.int .i64 k, .int .i64 ((a.length : Int) - j), .lst (((b.map (D.int .i64)).drop k).take (((b.length : Int) - j).toNat - k))]) = edD (changeE a b) := fun e => by
            have e1 : ((b.length : Int) - j).toNat = b.length - j := by omega
            unfold edD changeE
            rw [hk, ← e, e1]
            simp only [iD, List.map_drop, List.map_take, List.drop_take]
          have pC := pure_CloneI (((b.drop k).take (((b.length : Int) - j).toNat - k))) (by simp; omega)
          unfold iD at pC
          rw [List.map_take, List.map_drop] at pC
          refine ?_
          simp -implicitDefEqProofs only [↓symPre, symPost, y_condP, y_condG, run, lver, minD, intsD, eqAll, tupD, splice, Nat.zero_add, Nat.add_zero, Nat.zero_mul, Nat.mul_one, Nat.one_mul, Nat.reduceAdd, Nat.reduceSub, Nat.reduceMul, Nat.reduceLT, Nat.reduceLeDiff, Nat.reduceEqDiff, true_and, and_true, true_implies, if_true, if_false, ite_true, reduceIte, ne_eq, not_false_eq_true, reduceCtorEq, forall_const, bne_self_eq_false, Bool.true_eq_false, Bool.false_eq_true, false_implies, and_self, implies_true, Int.toNat_zero, beq_self_eq_true, decide_true, decide_false, Bool.not_true, Bool.not_false, ↓y_lookv, y_key1, y_mlook, y_mlookn, y_mres1, y_mres0, ↓y_call]
          refine adrawq hmix [] ?_
          by_cases c1 : j < a.length - k
          · have f1 : (j : Int) < (a.length : Int) - k := by omega
            by_cases c2 : j < b.length - k
            · have f2 : (j : Int) < (b.length : Int) - k := by omega
              have hst := lcs_step a b k j c1 c2 hj
              have g1 : (0 : Int) ≤ (a.length : Int) - 1 - j := by omega
              have g2 : (a.length : Int) - 1 - j < a.length := by omega
              have g3 : (0 : Int) ≤ (b.length : Int) - 1 - j := by omega
              have g4 : (b.length : Int) - 1 - j < b.length := by omega
              have t1 : ((a.length : Int) - 1 - j).toNat = a.length - 1 - j := by omega
              have t2 : ((b.length : Int) - 1 - j).toNat = b.length - 1 - j := by omega
              have e0 := nth_ints a (a.length - 1 - j) (by omega)
              have e1 := nth_ints b (b.length - 1 - j) (by omega)
              by_cases c3 : a[a.length - 1 - j]'(by omega) = b[b.length - 1 - j]'(by omega)
              · have hb : (a[a.length - 1 - j]'(by omega) == b[b.length - 1 - j]'(by omega)) = true := by simpa using c3
                simp (maxSteps := 400000) -implicitDefEqProofs only [↓symPre, symPost, y_condP, y_condG, run, lver, minD, intsD, eqAll, tupD, splice, Nat.zero_add, Nat.add_zero, Nat.zero_mul, Nat.mul_one, Nat.one_mul, Nat.reduceAdd, Nat.reduceSub, Nat.reduceMul, Nat.reduceLT, Nat.reduceLeDiff, Nat.reduceEqDiff, true_and, and_true, true_implies, if_true, if_false, ite_true, reduceIte, ne_eq, not_false_eq_true, reduceCtorEq, forall_const, bne_self_eq_false, Bool.true_eq_false, Bool.false_eq_true, false_implies, and_self, implies_true, Int.toNat_zero, beq_self_eq_true, decide_true, decide_false, Bool.not_true, Bool.not_false, ↓y_lookv, y_key1, y_mlook, y_mlookn, y_mres1, y_mres0, ↓y_call, ↓y_adq0, ↓y_adq, ↓y_stepQ_call, ↓y_adq_onT, ↓y_adq_onF, ↓y_adq_onS, drawPost, isCall, isNew, isEff, Option.toList, or_false, false_or, cond_true, cond_false, not_true_eq_false, or_true, true_or, Nat.add_left_cancel_iff, Bool.false_eq_true, ↓y_q0, ↓y_q1, ↓y_q1e, y_qn, isMap, List.length_map, v1, v2, v3, v4, v5, v6, f1, f2, g1, g2, g3, g4, t1, t2, e0, e1, hb, decide_true, w1]
                refine ⟨j + 1, hst.1 c3, by have := hst.1 c3; omega, ?_⟩
                refine le_to (List.replicate 4 .hole ++ [.old 4] ++ List.replicate 74 .hole) hl rfl ?_ ?_ <;> ((try simp only [y_blk_end, y_blk_hole, y_blk_nil, y_blk_old, y_wkl_end, y_wkl_top, List.replicate, List.cons_append, List.nil_append, and_true, true_and]) <;> (repeat' (first | apply And.intro | apply y_wkl | refine Exists.intro _ (And.intro rfl ?_))) <;> (try first | exact trivial | exact Wk.top _ | exact wk_int rfl | exact wk_bool rfl | exact wk_ptr rfl rfl rfl rfl | exact wk_ref rfl rfl rfl rfl rfl | exact wk_nil rfl rfl rfl | exact wk_ref rfl rfl rfl rfl (by simp) | exact wk_ref rfl rfl rfl rfl (by simp; omega) | exact wk_old (by assumption) (by simp) | exact wk_eq rfl (by first | exact Bd.int _ _ | exact Bd.bool _ | exact Bd.abool | exact Bd.nils | exact Bd.emp | exact Bd.nilp | exact Bd.nilfn | assumption | exact low_trees _ _ | exact low_treeD _ _ | exact low_ints _ _) | exact Nat.le_refl _ | exact wk_int (by simp) | exact wk_int (by omega) | exact Nat.succ_le_succ (Nat.zero_le _) | exact Nat.le_add_left _ _ | omega))
              · have hb : (a[a.length - 1 - j]'(by omega) == b[b.length - 1 - j]'(by omega)) = false := by simpa using c3
                have hj' : j = lcs a b k := by have := mt hst.2 c3; omega
                have hd := done hj'
                have s2 : (k : Int) ≤ (b.length : Int) - j := by omega
                have s3 : (b.length : Int) - j ≤ b.length := by omega
                simp (maxSteps := 400000) -implicitDefEqProofs only [↓symPre, symPost, y_condP, y_condG, run, lver, minD, intsD, eqAll, tupD, splice, Nat.zero_add, Nat.add_zero, Nat.zero_mul, Nat.mul_one, Nat.one_mul, Nat.reduceAdd, Nat.reduceSub, Nat.reduceMul, Nat.reduceLT, Nat.reduceLeDiff, Nat.reduceEqDiff, true_and, and_true, true_implies, if_true, if_false, ite_true, reduceIte, ne_eq, not_false_eq_true, reduceCtorEq, forall_const, bne_self_eq_false, Bool.true_eq_false, Bool.false_eq_true, false_implies, and_self, implies_true, Int.toNat_zero, beq_self_eq_true, decide_true, decide_false, Bool.not_true, Bool.not_false, ↓y_lookv, y_key1, y_mlook, y_mlookn, y_mres1, y_mres0, ↓y_call, ↓y_adq0, ↓y_adq, ↓y_stepQ_call, ↓y_adq_onT, ↓y_adq_onF, ↓y_adq_onS, drawPost, isCall, isNew, isEff, Option.toList, or_false, false_or, cond_true, cond_false, not_true_eq_false, or_true, true_or, Nat.add_left_cancel_iff, Bool.false_eq_true, ↓y_q0, ↓y_q1, ↓y_q1e, y_qn, isMap, List.length_map, v1, v2, v3, v4, v5, v6, v7, v8, f1, f2, g1, g2, g3, g4, t1, t2, e0, e1, hb, decide_true, s1, s2, s3, ints_cells, Int.toNat_natCast]
                refine pC.call rfl ?_
                simp -implicitDefEqProofs only [↓symPre, symPost, y_condP, y_condG, run, lver, minD, intsD, eqAll, tupD, splice, Nat.zero_add, Nat.add_zero, Nat.zero_mul, Nat.mul_one, Nat.one_mul, Nat.reduceAdd, Nat.reduceSub, Nat.reduceMul, Nat.reduceLT, Nat.reduceLeDiff, Nat.reduceEqDiff, true_and, and_true, true_implies, if_true, if_false, ite_true, reduceIte, ne_eq, not_false_eq_true, reduceCtorEq, forall_const, bne_self_eq_false, Bool.true_eq_false, Bool.false_eq_true, false_implies, and_self, implies_true, Int.toNat_zero, beq_self_eq_true, decide_true, decide_false, Bool.not_true, Bool.not_false, ↓y_lookv, y_key1, y_mlook, y_mlookn, y_mres1, y_mres0, ↓y_call]
                repeat (refine And.intro (by intro c hc; first | (rcases hc with rfl | rfl | rfl <;> rfl) | (subst hc; rfl)) ?_)
                rw [← hd]
                exact fin_low hl (.agg _ (by
                  intro c hc
                  simp only [List.mem_cons, List.not_mem_nil, or_false] at hc
                  rcases hc with rfl | rfl | rfl
                  · exact .int ..
                  · exact .int ..
                  · rw [← List.map_drop, ← List.map_take]; exact low_ints _ _)) ⟨rfl, rfl, rfl⟩
            · have f2 : ¬ (j : Int) < (b.length : Int) - k := by omega
              have hj' : j = lcs a b k := lcs_end a b k j hj (by omega)
              have hd := done hj'
              have s2 : (k : Int) ≤ (b.length : Int) - j := by omega
              have s3 : (b.length : Int) - j ≤ b.length := by omega
              simp (maxSteps := 400000) -implicitDefEqProofs only [↓symPre, symPost, y_condP, y_condG, run, lver, minD, intsD, eqAll, tupD, splice, Nat.zero_add, Nat.add_zero, Nat.zero_mul, Nat.mul_one, Nat.one_mul, Nat.reduceAdd, Nat.reduceSub, Nat.reduceMul, Nat.reduceLT, Nat.reduceLeDiff, Nat.reduceEqDiff, true_and, and_true, true_implies, if_true, if_false, ite_true, reduceIte, ne_eq, not_false_eq_true, reduceCtorEq, forall_const, bne_self_eq_false, Bool.true_eq_false, Bool.false_eq_true, false_implies, and_self, implies_true, Int.toNat_zero, beq_self_eq_true, decide_true, decide_false, Bool.not_true, Bool.not_false, ↓y_lookv, y_key1, y_mlook, y_mlookn, y_mres1, y_mres0, ↓y_call, ↓y_adq0, ↓y_adq, ↓y_stepQ_call, ↓y_adq_onT, ↓y_adq_onF, ↓y_adq_onS, drawPost, isCall, isNew, isEff, Option.toList, or_false, false_or, cond_true, cond_false, not_true_eq_false, or_true, true_or, Nat.add_left_cancel_iff, Bool.false_eq_true, ↓y_q0, ↓y_q1, ↓y_q1e, y_qn, isMap, List.length_map, v1, v2, v7, v8, f1, f2, decide_true, decide_false, s1, s2, s3, ints_cells, Int.toNat_natCast]
              refine pC.call rfl ?_
              simp -implicitDefEqProofs only [↓symPre, symPost, y_condP, y_condG, run, lver, minD, intsD, eqAll, tupD, splice, Nat.zero_add, Nat.add_zero, Nat.zero_mul, Nat.mul_one, Nat.one_mul, Nat.reduceAdd, Nat.reduceSub, Nat.reduceMul, Nat.reduceLT, Nat.reduceLeDiff, Nat.reduceEqDiff, true_and, and_true, true_implies, if_true, if_false, ite_true, reduceIte, ne_eq, not_false_eq_true, reduceCtorEq, forall_const, bne_self_eq_false, Bool.true_eq_false, Bool.false_eq_true, false_implies, and_self, implies_true, Int.toNat_zero, beq_self_eq_true, decide_true, decide_false, Bool.not_true, Bool.not_false, ↓y_lookv, y_key1, y_mlook, y_mlookn, y_mres1, y_mres0, ↓y_call]
              repeat (refine And.intro (by intro c hc; first | (rcases hc with rfl | rfl | rfl <;> rfl) | (subst hc; rfl)) ?_)
              rw [← hd]
              exact fin_low hl (.agg _ (by
                intro c hc
                simp only [List.mem_cons, List.not_mem_nil, or_false] at hc
                rcases hc with rfl | rfl | rfl
                · exact .int ..
                · exact .int ..
                · rw [← List.map_drop, ← List.map_take]; exact low_ints _ _)) ⟨rfl, rfl, rfl⟩
          · have f1 : ¬ (j : Int) < (a.length : Int) - k := by omega
            have hj' : j = lcs a b k := lcs_end a b k j hj (by omega)
            have hd := done hj'
            have s2 : (k : Int) ≤ (b.length : Int) - j := by omega
            have s3 : (b.length : Int) - j ≤ b.length := by omega
            simp (maxSteps := 400000) -implicitDefEqProofs only [↓symPre, symPost, y_condP, y_condG, run, lver, minD, intsD, eqAll, tupD, splice, Nat.zero_add, Nat.add_zero, Nat.zero_mul, Nat.mul_one, Nat.one_mul, Nat.reduceAdd, Nat.reduceSub, Nat.reduceMul, Nat.reduceLT, Nat.reduceLeDiff, Nat.reduceEqDiff, true_and, and_true, true_implies, if_true, if_false, ite_true, reduceIte, ne_eq, not_false_eq_true, reduceCtorEq, forall_const, bne_self_eq_false, Bool.true_eq_false, Bool.false_eq_true, false_implies, and_self, implies_true, Int.toNat_zero, beq_self_eq_true, decide_true, decide_false, Bool.not_true, Bool.not_false, ↓y_lookv, y_key1, y_mlook, y_mlookn, y_mres1, y_mres0, ↓y_call, ↓y_adq0, ↓y_adq, ↓y_stepQ_call, ↓y_adq_onT, ↓y_adq_onF, ↓y_adq_onS, drawPost, isCall, isNew, isEff, Option.toList, or_false, false_or, cond_true, cond_false, not_true_eq_false, or_true, true_or, Nat.add_left_cancel_iff, Bool.false_eq_true, ↓y_q0, ↓y_q1, ↓y_q1e, y_qn, isMap, List.length_map, v1, v2, v7, v8, f1, decide_true, decide_false, s1, s2, s3, ints_cells, Int.toNat_natCast]
            refine pC.call rfl ?_
            simp -implicitDefEqProofs only [↓symPre, symPost, y_condP, y_condG, run, lver, minD, intsD, eqAll, tupD, splice, Nat.zero_add, Nat.add_zero, Nat.zero_mul, Nat.mul_one, Nat.one_mul, Nat.reduceAdd, Nat.reduceSub, Nat.reduceMul, Nat.reduceLT, Nat.reduceLeDiff, Nat.reduceEqDiff, true_and, and_true, true_implies, if_true, if_false, ite_true, reduceIte, ne_eq, not_false_eq_true, reduceCtorEq, forall_const, bne_self_eq_false, Bool.true_eq_false, Bool.false_eq_true, false_implies, and_self, implies_true, Int.toNat_zero, beq_self_eq_true, decide_true, decide_false, Bool.not_true, Bool.not_false, ↓y_lookv, y_key1, y_mlook, y_mlookn, y_mres1, y_mres0, ↓y_call]
            repeat (refine And.intro (by intro c hc; first | (rcases hc with rfl | rfl | rfl <;> rfl) | (subst hc; rfl)) ?_)
            rw [← hd]
            exact fin_low hl (.agg _ (by
              intro c hc
              simp only [List.mem_cons, List.not_mem_nil, or_false] at hc
              rcases hc with rfl | rfl | rfl
              · exact .int ..
              · exact .int ..
              · rw [← List.map_drop, ← List.map_take]; exact low_ints _ _)) ⟨rfl, rfl, rfl⟩
    · have f1 : ¬ (i : Int) < (a.length : Int) := by omega
      obtain rfl : i = lcp a b := lcp_end a b i hi (by omega)
      simp (maxSteps := 400000) -implicitDefEqProofs only [↓symPre, symPost, y_condP, y_condG, run, lver, minD, intsD, eqAll, tupD, splice, Nat.zero_add, Nat.add_zero, Nat.zero_mul, Nat.mul_one, Nat.one_mul, Nat.reduceAdd, Nat.reduceSub, Nat.reduceMul, Nat.reduceLT, Nat.reduceLeDiff, Nat.reduceEqDiff, true_and, and_true, true_implies, if_true, if_false, ite_true, reduceIte, ne_eq, not_false_eq_true, reduceCtorEq, forall_const, bne_self_eq_false, Bool.true_eq_false, Bool.false_eq_true, false_implies, and_self, implies_true, Int.toNat_zero, beq_self_eq_true, decide_true, decide_false, Bool.not_true, Bool.not_false, ↓y_lookv, y_key1, y_mlook, y_mlookn, y_mres1, y_mres0, ↓y_call, ↓y_adq0, ↓y_adq, ↓y_stepQ_call, ↓y_adq_onT, ↓y_adq_onF, ↓y_adq_onS, drawPost, isCall, isNew, isEff, Option.toList, or_false, false_or, cond_true, cond_false, not_true_eq_false, or_true, true_or, Nat.add_left_cancel_iff, Bool.false_eq_true, ↓y_q0, ↓y_q1, ↓y_q1e, y_qn, isMap, List.length_map, f1, decide_false]
      generalize hk : lcp a b = k at *
      refine aloop (fun j : Nat => St.mk n ([iD a, iD b, .top, .top, .ptr (n + 4) 1 0, .int .i64 k, .int .i64 j] ++ List.replicate 72 .top) h
          (List.replicate 4 blk0 ++ [⟨1, .cells [.int .i64 0, .int .i64 0, .nils]⟩] ++ List.replicate 74 blk0)) (fun j => j ≤ lcs a b k) (fun j => lcs a b k - j) 0 (Nat.zero_le _) ?_ ?_
      · refine le_to (List.replicate 4 .hole ++ [.old 4] ++ List.replicate 74 .hole) hl rfl ?_ ?_ <;> ((try simp only [y_blk_end, y_blk_hole, y_blk_nil, y_blk_old, y_wkl_end, y_wkl_top, List.replicate, List.cons_append, List.nil_append, and_true, true_and]) <;> (repeat' (first | apply And.intro | apply y_wkl | refine Exists.intro _ (And.intro rfl ?_))) <;> (try first | exact trivial | exact Wk.top _ | exact wk_int rfl | exact wk_bool rfl | exact wk_ptr rfl rfl rfl rfl | exact wk_ref rfl rfl rfl rfl rfl | exact wk_nil rfl rfl rfl | exact wk_ref rfl rfl rfl rfl (by simp) | exact wk_ref rfl rfl rfl rfl (by simp; omega) | exact wk_old (by assumption) (by simp) | exact wk_eq rfl (by first | exact Bd.int _ _ | exact Bd.bool _ | exact Bd.abool | exact Bd.nils | exact Bd.emp | exact Bd.nilp | exact Bd.nilfn | assumption | exact low_trees _ _ | exact low_treeD _ _ | exact low_ints _ _) | exact Nat.le_refl _ | exact wk_int (by simp) | exact wk_int (by omega) | exact Nat.succ_le_succ (Nat.zero_le _) | exact Nat.le_add_left _ _ | omega))
      · intro j hj
        have v1 : IntKind.i64.wrap ((a.length : Int) - k) = (a.length : Int) - k := IntWalk.i64_in _ (by omega)
        have v2 : IntKind.i64.wrap ((b.length : Int) - k) = (b.length : Int) - k := IntWalk.i64_in _ (by omega)
        have v3 : IntKind.i64.wrap ((a.length : Int) - 1) = (a.length : Int) - 1 := IntWalk.i64_in _ (by omega)
        have v4 : IntKind.i64.wrap ((b.length : Int) - 1) = (b.length : Int) - 1 := IntWalk.i64_in _ (by omega)
        have hle := lcs_le a b k
        have v5 : IntKind.i64.wrap ((a.length : Int) - 1 - j) = (a.length : Int) - 1 - j := IntWalk.i64_in _ (by omega)
        have v6 : IntKind.i64.wrap ((b.length : Int) - 1 - j) = (b.length : Int) - 1 - j := IntWalk.i64_in _ (by omega)
        have v7 : IntKind.i64.wrap ((a.length : Int) - j) = (a.length : Int) - j := IntWalk.i64_in _ (by omega)
        have v8 : IntKind.i64.wrap ((b.length : Int) - j) = (b.length : Int) - j := IntWalk.i64_in _ (by omega)
        have w1 : IntKind.i64.wrap ((j : Int) + 1) = ((j + 1 : Nat) : Int) := by rw [IntWalk.i64_in _ (by omega)]; omega
        have s1 : (0 : Int) ≤ (k : Int) := by omega
        have done : j = lcs a b k → (D.agg [.int .i64 k, .int .i64 ((a.length : Int) - j), .lst (((b.map (D.int .i64)).drop k).take (((b.length : Int) - j).toNat - k))]) = edD (changeE a b) := fun e => by
          have e1 : ((b.length : Int) - j).toNat = b.length - j := by omega
          unfold edD changeE
          rw [hk, ← e, e1]
          simp only [iD, List.map_drop, List.map_take, List.drop_take]
        have pC := pure_CloneI (((b.drop k).take (((b.length : Int) - j).toNat - k))) (by simp; omega)
        unfold iD at pC
        rw [List.map_take, List.map_drop] at pC
        refine ?_
        simp -implicitDefEqProofs only [↓symPre, symPost, y_condP, y_condG, run, lver, minD, intsD, eqAll, tupD, splice, Nat.zero_add, Nat.add_zero, Nat.zero_mul, Nat.mul_one, Nat.one_mul, Nat.reduceAdd, Nat.reduceSub, Nat.reduceMul, Nat.reduceLT, Nat.reduceLeDiff, Nat.reduceEqDiff, true_and, and_true, true_implies, if_true, if_false, ite_true, reduceIte, ne_eq, not_false_eq_true, reduceCtorEq, forall_const, bne_self_eq_false, Bool.true_eq_false, Bool.false_eq_true, false_implies, and_self, implies_true, Int.toNat_zero, beq_self_eq_true, decide_true, decide_false, Bool.not_true, Bool.not_false, ↓y_lookv, y_key1, y_mlook, y_mlookn, y_mres1, y_mres0, ↓y_call]
        refine adrawq hmix [] ?_
        by_cases c1 : j < a.length - k
        · have f1 : (j : Int) < (a.length : Int) - k := by omega
          by_cases c2 : j < b.length - k
          · have f2 : (j : Int) < (b.length : Int) - k := by omega
            have hst := lcs_step a b k j c1 c2 hj
            have g1 : (0 : Int) ≤ (a.length : Int) - 1 - j := by omega
            have g2 : (a.length : Int) - 1 - j < a.length := by omega
            have g3 : (0 : Int) ≤ (b.length : Int) - 1 - j := by omega
            have g4 : (b.length : Int) - 1 - j < b.length := by omega
            have t1 : ((a.length : Int) - 1 - j).toNat = a.length - 1 - j := by omega
            have t2 : ((b.length : Int) - 1 - j).toNat = b.length - 1 - j := by omega
            have e0 := nth_ints a (a.length - 1 - j) (by omega)
            have e1 := nth_ints b (b.length - 1 - j) (by omega)
            by_cases c3 : a[a.length - 1 - j]'(by omega) = b[b.length - 1 - j]'(by omega)
            · have hb : (a[a.length - 1 - j]'(by omega) == b[b.length - 1 - j]'(by omega)) = true := by simpa using c3
              simp (maxSteps := 400000) -implicitDefEqProofs only [↓symPre, symPost, y_condP, y_condG, run, lver, minD, intsD, eqAll, tupD, splice, Nat.zero_add, Nat.add_zero, Nat.zero_mul, Nat.mul_one, Nat.one_mul, Nat.reduceAdd, Nat.reduceSub, Nat.reduceMul, Nat.reduceLT, Nat.reduceLeDiff, Nat.reduceEqDiff, true_and, and_true, true_implies, if_true, if_false, ite_true, reduceIte, ne_eq, not_false_eq_true, reduceCtorEq, forall_const, bne_self_eq_false, Bool.true_eq_false, Bool.false_eq_true, false_implies, and_self, implies_true, Int.toNat_zero, beq_self_eq_true, decide_true, decide_false, Bool.not_true, Bool.not_false, ↓y_lookv, y_key1, y_mlook, y_mlookn, y_mres1, y_mres0, ↓y_call, ↓y_adq0, ↓y_adq, ↓y_stepQ_call, ↓y_adq_onT, ↓y_adq_onF, ↓y_adq_onS, drawPost, isCall, isNew, isEff, Option.toList, or_false, false_or, cond_true, cond_false, not_true_eq_false, or_true, true_or, Nat.add_left_cancel_iff, Bool.false_eq_true, ↓y_q0, ↓y_q1, ↓y_q1e, y_qn, isMap, List.length_map, v1, v2, v3, v4, v5, v6, f1, f2, g1, g2, g3, g4, t1, t2, e0, e1, hb, decide_true, w1]
              refine ⟨j + 1, hst.1 c3, by have := hst.1 c3; omega, ?_⟩
              refine le_to (List.replicate 4 .hole ++ [.old 4] ++ List.replicate 74 .hole) hl rfl ?_ ?_ <;> ((try simp only [y_blk_end, y_blk_hole, y_blk_nil, y_blk_old, y_wkl_end, y_wkl_top, List.replicate, List.cons_append, List.nil_append, and_true, true_and]) <;> (repeat' (first | apply And.intro | apply y_wkl | refine Exists.intro _ (And.intro rfl ?_))) <;> (try first | exact trivial | exact Wk.top _ | exact wk_int rfl | exact wk_bool rfl | exact wk_ptr rfl rfl rfl rfl | exact wk_ref rfl rfl rfl rfl rfl | exact wk_nil rfl rfl rfl | exact wk_ref rfl rfl rfl rfl (by simp) | exact wk_ref rfl rfl rfl rfl (by simp; omega) | exact wk_old (by assumption) (by simp) | exact wk_eq rfl (by first | exact Bd.int _ _ | exact Bd.bool _ | exact Bd.abool | exact Bd.nils | exact Bd.emp | exact Bd.nilp | exact Bd.nilfn | assumption | exact low_trees _ _ | exact low_treeD _ _ | exact low_ints _ _) | exact Nat.le_refl _ | exact wk_int (by simp) | exact wk_int (by omega) | exact Nat.succ_le_succ (Nat.zero_le _) | exact Nat.le_add_left _ _ | omega))
            · have hb : (a[a.length - 1 - j]'(by omega) == b[b.length - 1 - j]'(by omega)) = false := by simpa using c3
              have hj' : j = lcs a b k := by have := mt hst.2 c3; omega
              have hd := done hj'
              have s2 : (k : Int) ≤ (b.length : Int) - j := by omega
              have s3 : (b.length : Int) - j ≤ b.length := by omega
              simp (maxSteps := 400000) -implicitDefEqProofs only [↓symPre, symPost, y_condP, y_condG, run, lver, minD, intsD, eqAll, tupD, splice, Nat.zero_add, Nat.add_zero, Nat.zero_mul, Nat.mul_one, Nat.one_mul, Nat.reduceAdd, Nat.reduceSub, Nat.reduceMul, Nat.reduceLT, Nat.reduceLeDiff, Nat.reduceEqDiff, true_and, and_true, true_implies, if_true, if_false, ite_true, reduceIte, ne_eq, not_false_eq_true, reduceCtorEq, forall_const, bne_self_eq_false, Bool.true_eq_false, Bool.false_eq_true, false_implies, and_self, implies_true, Int.toNat_zero, beq_self_eq_true, decide_true, decide_false, Bool.not_true, Bool.not_false, ↓y_lookv, y_key1, y_mlook, y_mlookn, y_mres1, y_mres0, ↓y_call, ↓y_adq0, ↓y_adq, ↓y_stepQ_call, ↓y_adq_onT, ↓y_adq_onF, ↓y_adq_onS, drawPost, isCall, isNew, isEff, Option.toList, or_false, false_or, cond_true, cond_false, not_true_eq_false, or_true, true_or, Nat.add_left_cancel_iff, Bool.false_eq_true, ↓y_q0, ↓y_q1, ↓y_q1e, y_qn, isMap, List.length_map, v1, v2, v3, v4, v5, v6, v7, v8, f1, f2, g1, g2, g3, g4, t1, t2, e0, e1, hb, decide_true, s1, s2, s3, ints_cells, Int.toNat_natCast]
              refine pC.call rfl ?_
              simp -implicitDefEqProofs only [↓symPre, symPost, y_condP, y_condG, run, lver, minD, intsD, eqAll, tupD, splice, Nat.zero_add, Nat.add_zero, Nat.zero_mul, Nat.mul_one, Nat.one_mul, Nat.reduceAdd, Nat.reduceSub, Nat.reduceMul, Nat.reduceLT, Nat.reduceLeDiff, Nat.reduceEqDiff, true_and, and_true, true_implies, if_true, if_false, ite_true, reduceIte, ne_eq, not_false_eq_true, reduceCtorEq, forall_const, bne_self_eq_false, Bool.true_eq_false, Bool.false_eq_true, false_implies, and_self, implies_true, Int.toNat_zero, beq_self_eq_true, decide_true, decide_false, Bool.not_true, Bool.not_false, ↓y_lookv, y_key1, y_mlook, y_mlookn, y_mres1, y_mres0, ↓y_call]
              repeat (refine And.intro (by intro c hc; first | (rcases hc with rfl | rfl | rfl <;> rfl) | (subst hc; rfl)) ?_)
              rw [← hd]
              exact fin_low hl (.agg _ (by
                intro c hc
                simp only [List.mem_cons, List.not_mem_nil, or_false] at hc
                rcases hc with rfl | rfl | rfl
                · exact .int ..
                · exact .int ..
                · rw [← List.map_drop, ← List.map_take]; exact low_ints _ _)) ⟨rfl, rfl, rfl⟩
          · have f2 : ¬ (j : Int) < (b.length : Int) - k := by omega
            have hj' : j = lcs a b k := lcs_end a b k j hj (by omega)
            have hd := done hj'
            have s2 : (k : Int) ≤ (b.length : Int) - j := by omega
            have s3 : (b.length : Int) - j ≤ b.length := by omega
            simp (maxSteps := 400000) -implicitDefEqProofs only [↓symPre, symPost, y_condP, y_condG, run, lver, minD, intsD, eqAll, tupD, splice, Nat.zero_add, Nat.add_zero, Nat.zero_mul, Nat.mul_one, Nat.one_mul, Nat.reduceAdd, Nat.reduceSub, Nat.reduceMul, Nat.reduceLT, Nat.reduceLeDiff, Nat.reduceEqDiff, true_and, and_true, true_implies, if_true, if_false, ite_true, reduceIte, ne_eq, not_false_eq_true, reduceCtorEq, forall_const, bne_self_eq_false, Bool.true_eq_false, Bool.false_eq_true, false_implies, and_self, implies_true, Int.toNat_zero, beq_self_eq_true, decide_true, decide_false, Bool.not_true, Bool.not_false, ↓y_lookv, y_key1, y_mlook, y_mlookn, y_mres1, y_mres0, ↓y_call, ↓y_adq0, ↓y_adq, ↓y_stepQ_call, ↓y_adq_onT, ↓y_adq_onF, ↓y_adq_onS, drawPost, isCall, isNew, isEff, Option.toList, or_false, false_or, cond_true, cond_false, not_true_eq_false, or_true, true_or, Nat.add_left_cancel_iff, Bool.false_eq_true, ↓y_q0, ↓y_q1, ↓y_q1e, y_qn, isMap, List.length_map, v1, v2, v7, v8, f1, f2, decide_true, decide_false, s1, s2, s3, ints_cells, Int.toNat_natCast]
            refine pC.call rfl ?_
            simp -implicitDefEqProofs only [↓symPre, symPost, y_condP, y_condG, run, lver, minD, intsD, eqAll, tupD, splice, Nat.zero_add, Nat.add_zero, Nat.zero_mul, Nat.mul_one, Nat.one_mul, Nat.reduceAdd, Nat.reduceSub, Nat.reduceMul, Nat.reduceLT, Nat.reduceLeDiff, Nat.reduceEqDiff, true_and, and_true, true_implies, if_true, if_false, ite_true, reduceIte, ne_eq, not_false_eq_true, reduceCtorEq, forall_const, bne_self_eq_false, Bool.true_eq_false, Bool.false_eq_true, false_implies, and_self, implies_true, Int.toNat_zero, beq_self_eq_true, decide_true, decide_false, Bool.not_true, Bool.not_false, ↓y_lookv, y_key1, y_mlook, y_mlookn, y_mres1, y_mres0, ↓y_call]
            repeat (refine And.intro (by intro c hc; first | (rcases hc with rfl | rfl | rfl <;> rfl) | (subst hc; rfl)) ?_)
            rw [← hd]
            exact fin_low hl (.agg _ (by
              intro c hc
              simp only [List.mem_cons, List.not_mem_nil, or_false] at hc
              rcases hc with rfl | rfl | rfl
              · exact .int ..
              · exact .int ..
              · rw [← List.map_drop, ← List.map_take]; exact low_ints _ _)) ⟨rfl, rfl, rfl⟩
        · have f1 : ¬ (j : Int) < (a.length : Int) - k := by omega
          have hj' : j = lcs a b k := lcs_end a b k j hj (by omega)
          have hd := done hj'
          have s2 : (k : Int) ≤ (b.length : Int) - j := by omega
          have s3 : (b.length : Int) - j ≤ b.length := by omega
          simp (maxSteps := 400000) -implicitDefEqProofs only [↓symPre, symPost, y_condP, y_condG, run, lver, minD, intsD, eqAll, tupD, splice, Nat.zero_add, Nat.add_zero, Nat.zero_mul, Nat.mul_one, Nat.one_mul, Nat.reduceAdd, Nat.reduceSub, Nat.reduceMul, Nat.reduceLT, Nat.reduceLeDiff, Nat.reduceEqDiff, true_and, and_true, true_implies, if_true, if_false, ite_true, reduceIte, ne_eq, not_false_eq_true, reduceCtorEq, forall_const, bne_self_eq_false, Bool.true_eq_false, Bool.false_eq_true, false_implies, and_self, implies_true, Int.toNat_zero, beq_self_eq_true, decide_true, decide_false, Bool.not_true, Bool.not_false, ↓y_lookv, y_key1, y_mlook, y_mlookn, y_mres1, y_mres0, ↓y_call, ↓y_adq0, ↓y_adq, ↓y_stepQ_call, ↓y_adq_onT, ↓y_adq_onF, ↓y_adq_onS, drawPost, isCall, isNew, isEff, Option.toList, or_false, false_or, cond_true, cond_false, not_true_eq_false, or_true, true_or, Nat.add_left_cancel_iff, Bool.false_eq_true, ↓y_q0, ↓y_q1, ↓y_q1e, y_qn, isMap, List.length_map, v1, v2, v7, v8, f1, decide_true, decide_false, s1, s2, s3, ints_cells, Int.toNat_natCast]
          refine pC.call rfl ?_
          simp -implicitDefEqProofs only [↓symPre, symPost, y_condP, y_condG, run, lver, minD, intsD, eqAll, tupD, splice, Nat.zero_add, Nat.add_zero, Nat.zero_mul, Nat.mul_one, Nat.one_mul, Nat.reduceAdd, Nat.reduceSub, Nat.reduceMul, Nat.reduceLT, Nat.reduceLeDiff, Nat.reduceEqDiff, true_and, and_true, true_implies, if_true, if_false, ite_true, reduceIte, ne_eq, not_false_eq_true, reduceCtorEq, forall_const, bne_self_eq_false, Bool.true_eq_false, Bool.false_eq_true, false_implies, and_self, implies_true, Int.toNat_zero, beq_self_eq_true, decide_true, decide_false, Bool.not_true, Bool.not_false, ↓y_lookv, y_key1, y_mlook, y_mlookn, y_mres1, y_mres0, ↓y_call]
          repeat (refine And.intro (by intro c hc; first | (rcases hc with rfl | rfl | rfl <;> rfl) | (subst hc; rfl)) ?_)
          rw [← hd]
          exact fin_low hl (.agg _ (by
            intro c hc
            simp only [List.mem_cons, List.not_mem_nil, or_false] at hc
            rcases hc with rfl | rfl | rfl
            · exact .int ..
            · exact .int ..
            · rw [← List.map_drop, ← List.map_take]; exact low_ints _ _)) ⟨rfl, rfl, rfl⟩

end Abs
end Go.Proofs.Ytcdbikoonobodaa

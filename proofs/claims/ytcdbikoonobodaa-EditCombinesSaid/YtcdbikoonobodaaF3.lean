/- The reference's change between two words. -/
import Derived.Test.YtcdbikoonobodaaF1
namespace Go.Proofs.Ytcdbikoonobodaa
namespace Abs
set_option linter.unusedVariables false
set_option linter.unusedSimpArgs false
set_option maxRecDepth 20000

set_option maxHeartbeats 4000000 in
theorem pure_Change (a b : List Int) (ha : a.length * 8 ≤ 140737488351232) (hb : b.length * 8 ≤ 140737488351232) : Pure prog F_parlref4_Change [iD a, iD b] (edD (changeE a b)) := by
  intro n h
  refine K_parlref4_Change.calls fun hl => ?_
  unfold C_parlref4_Change
  have hlc := lcp_le a b
  have hmn : (if (b.length : Int) < (a.length : Int) then (b.length : Int) else (a.length : Int)) = ((min a.length b.length : Nat) : Int) := by split <;> omega
  simp -implicitDefEqProofs only [↓symPre, symPost, y_condP, y_condG, run, lver, minD, intsD, eqAll, tupD, splice, Nat.zero_add, Nat.add_zero, Nat.zero_mul, Nat.mul_one, Nat.one_mul, Nat.reduceAdd, Nat.reduceSub, Nat.reduceMul, Nat.reduceLT, Nat.reduceLeDiff, Nat.reduceEqDiff, true_and, and_true, true_implies, if_true, if_false, ite_true, reduceIte, ne_eq, not_false_eq_true, reduceCtorEq, forall_const, bne_self_eq_false, Bool.true_eq_false, Bool.false_eq_true, false_implies, and_self, implies_true, Int.toNat_zero, beq_self_eq_true, decide_true, decide_false, Bool.not_true, Bool.not_false, ↓y_lookv, y_key1, y_mlook, y_mlookn, y_mres1, y_mres0, ↓y_call]
  refine aloop (fun i : Nat => St.mk n ([iD a, iD b, .top, .top, .ptr (n + 4) 1 0, .int .i64 i] ++ List.replicate 64 .top) h
      (List.replicate 4 blk0 ++ [⟨1, .cells [.int .i64 0, .int .i64 0, .nils]⟩] ++ List.replicate 65 blk0)) (fun i => i ≤ lcp a b) (fun i => lcp a b - i) 0 (Nat.zero_le _) ?_ ?_
  · refine le_to (List.replicate 4 .hole ++ [.old 4] ++ List.replicate 65 .hole) hl rfl ?_ ?_ <;> ((try simp only [y_blk_end, y_blk_hole, y_blk_nil, y_blk_old, y_wkl_end, y_wkl_top, List.replicate, List.cons_append, List.nil_append, and_true, true_and]) <;> (repeat' (first | apply And.intro | apply y_wkl | refine Exists.intro _ (And.intro rfl ?_))) <;> (try first | exact trivial | exact Wk.top _ | exact wk_int rfl | exact wk_bool rfl | exact wk_ptr rfl rfl rfl rfl | exact wk_ref rfl rfl rfl rfl rfl | exact wk_nil rfl rfl rfl | exact wk_ref rfl rfl rfl rfl (by simp) | exact wk_ref rfl rfl rfl rfl (by simp; omega) | exact wk_old (by assumption) (by simp) | exact wk_eq rfl (by first | exact Bd.int _ _ | exact Bd.bool _ | exact Bd.abool | exact Bd.nils | exact Bd.emp | exact Bd.nilp | exact Bd.nilfn | assumption | exact low_trees _ _ | exact low_treeD _ _ | exact low_ints _ _) | exact Nat.le_refl _ | exact wk_int (by simp) | exact wk_int (by omega) | exact Nat.succ_le_succ (Nat.zero_le _) | exact Nat.le_add_left _ _ | omega))
  · intro i hi
    have h0 : (0 : Int) ≤ (i : Int) := by omega
    have w1 : IntKind.i64.wrap ((i : Int) + 1) = ((i + 1 : Nat) : Int) := by rw [IntWalk.i64_in _ (by omega)]; omega
    simp -implicitDefEqProofs only [↓symPre, symPost, y_condP, y_condG, run, lver, minD, intsD, eqAll, tupD, splice, Nat.zero_add, Nat.add_zero, Nat.zero_mul, Nat.mul_one, Nat.one_mul, Nat.reduceAdd, Nat.reduceSub, Nat.reduceMul, Nat.reduceLT, Nat.reduceLeDiff, Nat.reduceEqDiff, true_and, and_true, true_implies, if_true, if_false, ite_true, reduceIte, ne_eq, not_false_eq_true, reduceCtorEq, forall_const, bne_self_eq_false, Bool.true_eq_false, Bool.false_eq_true, false_implies, and_self, implies_true, Int.toNat_zero, beq_self_eq_true, decide_true, decide_false, Bool.not_true, Bool.not_false, ↓y_lookv, y_key1, y_mlook, y_mlookn, y_mres1, y_mres0, ↓y_call]
    refine adrawq hmix [] ?_
    by_cases c1 : i < min a.length b.length
    · have f1 : (i : Int) < ((min a.length b.length : Nat) : Int) := by omega
      have f2 : (i : Int) < (a.length : Int) := by omega
      have f3 : (i : Int) < (b.length : Int) := by omega
      have hst := lcp_step a b i (by omega) (by omega) hi
      have e0 := nth_ints a i (by omega)
      have e1 := nth_ints b i (by omega)
      by_cases c3 : a[i]'(by omega) = b[i]'(by omega)
      · have hb' : (a[i]'(by omega) == b[i]'(by omega)) = true := by simpa using c3
        simp (maxSteps := 400000) -implicitDefEqProofs only [↓symPre, symPost, y_condP, y_condG, run, lver, minD, intsD, eqAll, tupD, splice, Nat.zero_add, Nat.add_zero, Nat.zero_mul, Nat.mul_one, Nat.one_mul, Nat.reduceAdd, Nat.reduceSub, Nat.reduceMul, Nat.reduceLT, Nat.reduceLeDiff, Nat.reduceEqDiff, true_and, and_true, true_implies, if_true, if_false, ite_true, reduceIte, ne_eq, not_false_eq_true, reduceCtorEq, forall_const, bne_self_eq_false, Bool.true_eq_false, Bool.false_eq_true, false_implies, and_self, implies_true, Int.toNat_zero, beq_self_eq_true, decide_true, decide_false, Bool.not_true, Bool.not_false, ↓y_lookv, y_key1, y_mlook, y_mlookn, y_mres1, y_mres0, ↓y_call, ↓y_adq0, ↓y_adq, ↓y_stepQ_call, ↓y_adq_onT, ↓y_adq_onF, ↓y_adq_onS, drawPost, isCall, isNew, isEff, Option.toList, or_false, false_or, cond_true, cond_false, not_true_eq_false, or_true, true_or, Nat.add_left_cancel_iff, Bool.false_eq_true, ↓y_q0, ↓y_q1, ↓y_q1e, y_qn, isMap, List.length_map, List.foldl_cons, List.foldl_nil, hmn, f1, f2, f3, h0, e0, e1, hb', decide_true, Int.toNat_natCast, w1]
        refine ⟨i + 1, hst.1 c3, by have := hst.1 c3; omega, ?_⟩
        refine le_to (List.replicate 4 .hole ++ [.old 4] ++ List.replicate 65 .hole) hl rfl ?_ ?_ <;> ((try simp only [y_blk_end, y_blk_hole, y_blk_nil, y_blk_old, y_wkl_end, y_wkl_top, List.replicate, List.cons_append, List.nil_append, and_true, true_and]) <;> (repeat' (first | apply And.intro | apply y_wkl | refine Exists.intro _ (And.intro rfl ?_))) <;> (try first | exact trivial | exact Wk.top _ | exact wk_int rfl | exact wk_bool rfl | exact wk_ptr rfl rfl rfl rfl | exact wk_ref rfl rfl rfl rfl rfl | exact wk_nil rfl rfl rfl | exact wk_ref rfl rfl rfl rfl (by simp) | exact wk_ref rfl rfl rfl rfl (by simp; omega) | exact wk_old (by assumption) (by simp) | exact wk_eq rfl (by first | exact Bd.int _ _ | exact Bd.bool _ | exact Bd.abool | exact Bd.nils | exact Bd.emp | exact Bd.nilp | exact Bd.nilfn | assumption | exact low_trees _ _ | exact low_treeD _ _ | exact low_ints _ _) | exact Nat.le_refl _ | exact wk_int (by simp) | exact wk_int (by omega) | exact Nat.succ_le_succ (Nat.zero_le _) | exact Nat.le_add_left _ _ | omega))
      · have hb' : (a[i]'(by omega) == b[i]'(by omega)) = false := by simpa using c3
        obtain rfl : i = lcp a b := by have := mt hst.2 c3; omega
        clear hst
        simp (maxSteps := 400000) -implicitDefEqProofs only [↓symPre, symPost, y_condP, y_condG, run, lver, minD, intsD, eqAll, tupD, splice, Nat.zero_add, Nat.add_zero, Nat.zero_mul, Nat.mul_one, Nat.one_mul, Nat.reduceAdd, Nat.reduceSub, Nat.reduceMul, Nat.reduceLT, Nat.reduceLeDiff, Nat.reduceEqDiff, true_and, and_true, true_implies, if_true, if_false, ite_true, reduceIte, ne_eq, not_false_eq_true, reduceCtorEq, forall_const, bne_self_eq_false, Bool.true_eq_false, Bool.false_eq_true, false_implies, and_self, implies_true, Int.toNat_zero, beq_self_eq_true, decide_true, decide_false, Bool.not_true, Bool.not_false, ↓y_lookv, y_key1, y_mlook, y_mlookn, y_mres1, y_mres0, ↓y_call, ↓y_adq0, ↓y_adq, ↓y_stepQ_call, ↓y_adq_onT, ↓y_adq_onF, ↓y_adq_onS, drawPost, isCall, isNew, isEff, Option.toList, or_false, false_or, cond_true, cond_false, not_true_eq_false, or_true, true_or, Nat.add_left_cancel_iff, Bool.false_eq_true, ↓y_q0, ↓y_q1, ↓y_q1e, y_qn, isMap, List.length_map, List.foldl_cons, List.foldl_nil, hmn, f1, f2, f3, h0, e0, e1, hb', decide_true, Int.toNat_natCast]
        clear e0 e1 hb' c3
        generalize hk : lcp a b = k at *
        refine aloop (fun j : Nat => St.mk n ([iD a, iD b, .top, .top, .ptr (n + 4) 1 0, .int .i64 k, .int .i64 j] ++ List.replicate 63 .top) h
            (List.replicate 4 blk0 ++ [⟨1, .cells [.int .i64 0, .int .i64 0, .nils]⟩] ++ List.replicate 65 blk0)) (fun j => j ≤ lcs a b k) (fun j => lcs a b k - j) 0 (Nat.zero_le _) ?_ ?_
        · refine le_to (List.replicate 4 .hole ++ [.old 4] ++ List.replicate 65 .hole) hl rfl ?_ ?_ <;> ((try simp only [y_blk_end, y_blk_hole, y_blk_nil, y_blk_old, y_wkl_end, y_wkl_top, List.replicate, List.cons_append, List.nil_append, and_true, true_and]) <;> (repeat' (first | apply And.intro | apply y_wkl | refine Exists.intro _ (And.intro rfl ?_))) <;> (try first | exact trivial | exact Wk.top _ | exact wk_int rfl | exact wk_bool rfl | exact wk_ptr rfl rfl rfl rfl | exact wk_ref rfl rfl rfl rfl rfl | exact wk_nil rfl rfl rfl | exact wk_ref rfl rfl rfl rfl (by simp) | exact wk_ref rfl rfl rfl rfl (by simp; omega) | exact wk_old (by assumption) (by simp) | exact wk_eq rfl (by first | exact Bd.int _ _ | exact Bd.bool _ | exact Bd.abool | exact Bd.nils | exact Bd.emp | exact Bd.nilp | exact Bd.nilfn | assumption | exact low_trees _ _ | exact low_treeD _ _ | exact low_ints _ _) | exact Nat.le_refl _ | exact wk_int (by simp) | exact wk_int (by omega) | exact Nat.succ_le_succ (Nat.zero_le _) | exact Nat.le_add_left _ _ | omega))
        · intro j hj
          have hle := lcs_le a b k
          have v1 : IntKind.i64.wrap ((k : Int) + j) = (k : Int) + j := IntWalk.i64_in _ (by omega)
          have v3 : IntKind.i64.wrap ((a.length : Int) - j) = (a.length : Int) - j := IntWalk.i64_in _ (by omega)
          have v4 : IntKind.i64.wrap ((b.length : Int) - j) = (b.length : Int) - j := IntWalk.i64_in _ (by omega)
          have v5 : IntKind.i64.wrap ((a.length : Int) - j - 1) = (a.length : Int) - j - 1 := IntWalk.i64_in _ (by omega)
          have v6 : IntKind.i64.wrap ((b.length : Int) - j - 1) = (b.length : Int) - j - 1 := IntWalk.i64_in _ (by omega)
          have w1 : IntKind.i64.wrap ((j : Int) + 1) = ((j + 1 : Nat) : Int) := by rw [IntWalk.i64_in _ (by omega)]; omega
          have s1 : (0 : Int) ≤ (k : Int) := by omega
          have done : j = lcs a b k → (D.agg [.int .i64 k, .int .i64 ((a.length : Int) - j), .lst (((b.map (D.int .i64)).drop k).take (((b.length : Int) - j).toNat - k))]) = edD (changeE a b) := fun e => by
            have e1 : ((b.length : Int) - j).toNat = b.length - j := by omega
            unfold edD changeE
            rw [hk, ← e, e1]
            simp only [iD, List.map_drop, List.map_take, List.drop_take]
          simp -implicitDefEqProofs only [↓symPre, symPost, y_condP, y_condG, run, lver, minD, intsD, eqAll, tupD, splice, Nat.zero_add, Nat.add_zero, Nat.zero_mul, Nat.mul_one, Nat.one_mul, Nat.reduceAdd, Nat.reduceSub, Nat.reduceMul, Nat.reduceLT, Nat.reduceLeDiff, Nat.reduceEqDiff, true_and, and_true, true_implies, if_true, if_false, ite_true, reduceIte, ne_eq, not_false_eq_true, reduceCtorEq, forall_const, bne_self_eq_false, Bool.true_eq_false, Bool.false_eq_true, false_implies, and_self, implies_true, Int.toNat_zero, beq_self_eq_true, decide_true, decide_false, Bool.not_true, Bool.not_false, ↓y_lookv, y_key1, y_mlook, y_mlookn, y_mres1, y_mres0, ↓y_call]
          refine adrawq hmix [] ?_
          by_cases c1 : k + j < min a.length b.length
          · have f1 : (k : Int) + j < (min a.length b.length : Nat) := by omega
            have hst := lcs_step a b k j (by omega) (by omega) hj
            have g1 : (0 : Int) ≤ (a.length : Int) - j - 1 := by omega
            have g2 : (a.length : Int) - j - 1 < a.length := by omega
            have g3 : (0 : Int) ≤ (b.length : Int) - j - 1 := by omega
            have g4 : (b.length : Int) - j - 1 < b.length := by omega
            have t1 : ((a.length : Int) - j - 1).toNat = a.length - 1 - j := by omega
            have t2 : ((b.length : Int) - j - 1).toNat = b.length - 1 - j := by omega
            have e0 := nth_ints a (a.length - 1 - j) (by omega)
            have e1 := nth_ints b (b.length - 1 - j) (by omega)
            by_cases c3 : a[a.length - 1 - j]'(by omega) = b[b.length - 1 - j]'(by omega)
            · have hb : (a[a.length - 1 - j]'(by omega) == b[b.length - 1 - j]'(by omega)) = true := by simpa using c3
              simp (maxSteps := 400000) -implicitDefEqProofs only [↓symPre, symPost, y_condP, y_condG, run, lver, minD, intsD, eqAll, tupD, splice, Nat.zero_add, Nat.add_zero, Nat.zero_mul, Nat.mul_one, Nat.one_mul, Nat.reduceAdd, Nat.reduceSub, Nat.reduceMul, Nat.reduceLT, Nat.reduceLeDiff, Nat.reduceEqDiff, true_and, and_true, true_implies, if_true, if_false, ite_true, reduceIte, ne_eq, not_false_eq_true, reduceCtorEq, forall_const, bne_self_eq_false, Bool.true_eq_false, Bool.false_eq_true, false_implies, and_self, implies_true, Int.toNat_zero, beq_self_eq_true, decide_true, decide_false, Bool.not_true, Bool.not_false, ↓y_lookv, y_key1, y_mlook, y_mlookn, y_mres1, y_mres0, ↓y_call, ↓y_adq0, ↓y_adq, ↓y_stepQ_call, ↓y_adq_onT, ↓y_adq_onF, ↓y_adq_onS, drawPost, isCall, isNew, isEff, Option.toList, or_false, false_or, cond_true, cond_false, not_true_eq_false, or_true, true_or, Nat.add_left_cancel_iff, Bool.false_eq_true, ↓y_q0, ↓y_q1, ↓y_q1e, y_qn, isMap, List.length_map, List.foldl_cons, List.foldl_nil, hmn, v1, v3, v4, v5, v6, f1, g1, g2, g3, g4, t1, t2, e0, e1, hb, decide_true, w1]
              refine ⟨j + 1, hst.1 c3, by have := hst.1 c3; omega, ?_⟩
              refine le_to (List.replicate 4 .hole ++ [.old 4] ++ List.replicate 65 .hole) hl rfl ?_ ?_ <;> ((try simp only [y_blk_end, y_blk_hole, y_blk_nil, y_blk_old, y_wkl_end, y_wkl_top, List.replicate, List.cons_append, List.nil_append, and_true, true_and]) <;> (repeat' (first | apply And.intro | apply y_wkl | refine Exists.intro _ (And.intro rfl ?_))) <;> (try first | exact trivial | exact Wk.top _ | exact wk_int rfl | exact wk_bool rfl | exact wk_ptr rfl rfl rfl rfl | exact wk_ref rfl rfl rfl rfl rfl | exact wk_nil rfl rfl rfl | exact wk_ref rfl rfl rfl rfl (by simp) | exact wk_ref rfl rfl rfl rfl (by simp; omega) | exact wk_old (by assumption) (by simp) | exact wk_eq rfl (by first | exact Bd.int _ _ | exact Bd.bool _ | exact Bd.abool | exact Bd.nils | exact Bd.emp | exact Bd.nilp | exact Bd.nilfn | assumption | exact low_trees _ _ | exact low_treeD _ _ | exact low_ints _ _) | exact Nat.le_refl _ | exact wk_int (by simp) | exact wk_int (by omega) | exact Nat.succ_le_succ (Nat.zero_le _) | exact Nat.le_add_left _ _ | omega))
            · have hb : (a[a.length - 1 - j]'(by omega) == b[b.length - 1 - j]'(by omega)) = false := by simpa using c3
              have hj' : j = lcs a b k := by have := mt hst.2 c3; omega
              have hd := done hj'
              have s2 : (k : Int) ≤ (b.length : Int) - j := by omega
              have s3 : (b.length : Int) - j ≤ b.length := by omega
              simp (maxSteps := 400000) -implicitDefEqProofs only [↓symPre, symPost, y_condP, y_condG, run, lver, minD, intsD, eqAll, tupD, splice, Nat.zero_add, Nat.add_zero, Nat.zero_mul, Nat.mul_one, Nat.one_mul, Nat.reduceAdd, Nat.reduceSub, Nat.reduceMul, Nat.reduceLT, Nat.reduceLeDiff, Nat.reduceEqDiff, true_and, and_true, true_implies, if_true, if_false, ite_true, reduceIte, ne_eq, not_false_eq_true, reduceCtorEq, forall_const, bne_self_eq_false, Bool.true_eq_false, Bool.false_eq_true, false_implies, and_self, implies_true, Int.toNat_zero, beq_self_eq_true, decide_true, decide_false, Bool.not_true, Bool.not_false, ↓y_lookv, y_key1, y_mlook, y_mlookn, y_mres1, y_mres0, ↓y_call, ↓y_adq0, ↓y_adq, ↓y_stepQ_call, ↓y_adq_onT, ↓y_adq_onF, ↓y_adq_onS, drawPost, isCall, isNew, isEff, Option.toList, or_false, false_or, cond_true, cond_false, not_true_eq_false, or_true, true_or, Nat.add_left_cancel_iff, Bool.false_eq_true, ↓y_q0, ↓y_q1, ↓y_q1e, y_qn, isMap, List.length_map, List.foldl_cons, List.foldl_nil, hmn, v1, v3, v4, v5, v6, f1, g1, g2, g3, g4, t1, t2, e0, e1, hb, decide_true, s1, s2, s3, ints_cells, Int.toNat_natCast]
              repeat (refine And.intro (by intro c hc; first | (rcases hc with rfl | rfl | rfl <;> rfl) | (subst hc; rfl)) ?_)
              rw [← hd]
              exact fin_low hl (.agg _ (by
                intro c hc
                simp only [List.mem_cons, List.not_mem_nil, or_false] at hc
                rcases hc with rfl | rfl | rfl
                · exact .int ..
                · exact .int ..
                · rw [← List.map_drop, ← List.map_take]; exact low_ints _ _)) ⟨rfl, rfl, rfl⟩
          · have f1 : ¬ (k : Int) + j < (min a.length b.length : Nat) := by omega
            have hj' : j = lcs a b k := lcs_end a b k j hj (by omega)
            have hd := done hj'
            have s2 : (k : Int) ≤ (b.length : Int) - j := by omega
            have s3 : (b.length : Int) - j ≤ b.length := by omega
            simp (maxSteps := 400000) -implicitDefEqProofs only [↓symPre, symPost, y_condP, y_condG, run, lver, minD, intsD, eqAll, tupD, splice, Nat.zero_add, Nat.add_zero, Nat.zero_mul, Nat.mul_one, Nat.one_mul, Nat.reduceAdd, Nat.reduceSub, Nat.reduceMul, Nat.reduceLT, Nat.reduceLeDiff, Nat.reduceEqDiff, true_and, and_true, true_implies, if_true, if_false, ite_true, reduceIte, ne_eq, not_false_eq_true, reduceCtorEq, forall_const, bne_self_eq_false, Bool.true_eq_false, Bool.false_eq_true, false_implies, and_self, implies_true, Int.toNat_zero, beq_self_eq_true, decide_true, decide_false, Bool.not_true, Bool.not_false, ↓y_lookv, y_key1, y_mlook, y_mlookn, y_mres1, y_mres0, ↓y_call, ↓y_adq0, ↓y_adq, ↓y_stepQ_call, ↓y_adq_onT, ↓y_adq_onF, ↓y_adq_onS, drawPost, isCall, isNew, isEff, Option.toList, or_false, false_or, cond_true, cond_false, not_true_eq_false, or_true, true_or, Nat.add_left_cancel_iff, Bool.false_eq_true, ↓y_q0, ↓y_q1, ↓y_q1e, y_qn, isMap, List.length_map, List.foldl_cons, List.foldl_nil, hmn, v1, v3, v4, f1, decide_true, decide_false, s1, s2, s3, ints_cells, Int.toNat_natCast]
            repeat (refine And.intro (by intro c hc; first | (rcases hc with rfl | rfl | rfl <;> rfl) | (subst hc; rfl)) ?_)
            rw [← hd]
            exact fin_low hl (.agg _ (by
              intro c hc
              simp only [List.mem_cons, List.not_mem_nil, or_false] at hc
              rcases hc with rfl | rfl | rfl
              · exact .int ..
              · exact .int ..
              · rw [← List.map_drop, ← List.map_take]; exact low_ints _ _)) ⟨rfl, rfl, rfl⟩
    · have f1 : ¬ (i : Int) < ((min a.length b.length : Nat) : Int) := by omega
      obtain rfl : i = lcp a b := lcp_end a b i hi (by omega)
      simp (maxSteps := 400000) -implicitDefEqProofs only [↓symPre, symPost, y_condP, y_condG, run, lver, minD, intsD, eqAll, tupD, splice, Nat.zero_add, Nat.add_zero, Nat.zero_mul, Nat.mul_one, Nat.one_mul, Nat.reduceAdd, Nat.reduceSub, Nat.reduceMul, Nat.reduceLT, Nat.reduceLeDiff, Nat.reduceEqDiff, true_and, and_true, true_implies, if_true, if_false, ite_true, reduceIte, ne_eq, not_false_eq_true, reduceCtorEq, forall_const, bne_self_eq_false, Bool.true_eq_false, Bool.false_eq_true, false_implies, and_self, implies_true, Int.toNat_zero, beq_self_eq_true, decide_true, decide_false, Bool.not_true, Bool.not_false, ↓y_lookv, y_key1, y_mlook, y_mlookn, y_mres1, y_mres0, ↓y_call, ↓y_adq0, ↓y_adq, ↓y_stepQ_call, ↓y_adq_onT, ↓y_adq_onF, ↓y_adq_onS, drawPost, isCall, isNew, isEff, Option.toList, or_false, false_or, cond_true, cond_false, not_true_eq_false, or_true, true_or, Nat.add_left_cancel_iff, Bool.false_eq_true, ↓y_q0, ↓y_q1, ↓y_q1e, y_qn, isMap, List.length_map, List.foldl_cons, List.foldl_nil, hmn, f1, decide_false]
      generalize hk : lcp a b = k at *
      refine aloop (fun j : Nat => St.mk n ([iD a, iD b, .top, .top, .ptr (n + 4) 1 0, .int .i64 k, .int .i64 j] ++ List.replicate 63 .top) h
          (List.replicate 4 blk0 ++ [⟨1, .cells [.int .i64 0, .int .i64 0, .nils]⟩] ++ List.replicate 65 blk0)) (fun j => j ≤ lcs a b k) (fun j => lcs a b k - j) 0 (Nat.zero_le _) ?_ ?_
      · refine le_to (List.replicate 4 .hole ++ [.old 4] ++ List.replicate 65 .hole) hl rfl ?_ ?_ <;> ((try simp only [y_blk_end, y_blk_hole, y_blk_nil, y_blk_old, y_wkl_end, y_wkl_top, List.replicate, List.cons_append, List.nil_append, and_true, true_and]) <;> (repeat' (first | apply And.intro | apply y_wkl | refine Exists.intro _ (And.intro rfl ?_))) <;> (try first | exact trivial | exact Wk.top _ | exact wk_int rfl | exact wk_bool rfl | exact wk_ptr rfl rfl rfl rfl | exact wk_ref rfl rfl rfl rfl rfl | exact wk_nil rfl rfl rfl | exact wk_ref rfl rfl rfl rfl (by simp) | exact wk_ref rfl rfl rfl rfl (by simp; omega) | exact wk_old (by assumption) (by simp) | exact wk_eq rfl (by first | exact Bd.int _ _ | exact Bd.bool _ | exact Bd.abool | exact Bd.nils | exact Bd.emp | exact Bd.nilp | exact Bd.nilfn | assumption | exact low_trees _ _ | exact low_treeD _ _ | exact low_ints _ _) | exact Nat.le_refl _ | exact wk_int (by simp) | exact wk_int (by omega) | exact Nat.succ_le_succ (Nat.zero_le _) | exact Nat.le_add_left _ _ | omega))
      · intro j hj
        have hle := lcs_le a b k
        have v1 : IntKind.i64.wrap ((k : Int) + j) = (k : Int) + j := IntWalk.i64_in _ (by omega)
        have v3 : IntKind.i64.wrap ((a.length : Int) - j) = (a.length : Int) - j := IntWalk.i64_in _ (by omega)
        have v4 : IntKind.i64.wrap ((b.length : Int) - j) = (b.length : Int) - j := IntWalk.i64_in _ (by omega)
        have v5 : IntKind.i64.wrap ((a.length : Int) - j - 1) = (a.length : Int) - j - 1 := IntWalk.i64_in _ (by omega)
        have v6 : IntKind.i64.wrap ((b.length : Int) - j - 1) = (b.length : Int) - j - 1 := IntWalk.i64_in _ (by omega)
        have w1 : IntKind.i64.wrap ((j : Int) + 1) = ((j + 1 : Nat) : Int) := by rw [IntWalk.i64_in _ (by omega)]; omega
        have s1 : (0 : Int) ≤ (k : Int) := by omega
        have done : j = lcs a b k → (D.agg [.int .i64 k, .int .i64 ((a.length : Int) - j), .lst (((b.map (D.int .i64)).drop k).take (((b.length : Int) - j).toNat - k))]) = edD (changeE a b) := fun e => by
          have e1 : ((b.length : Int) - j).toNat = b.length - j := by omega
          unfold edD changeE
          rw [hk, ← e, e1]
          simp only [iD, List.map_drop, List.map_take, List.drop_take]
        simp -implicitDefEqProofs only [↓symPre, symPost, y_condP, y_condG, run, lver, minD, intsD, eqAll, tupD, splice, Nat.zero_add, Nat.add_zero, Nat.zero_mul, Nat.mul_one, Nat.one_mul, Nat.reduceAdd, Nat.reduceSub, Nat.reduceMul, Nat.reduceLT, Nat.reduceLeDiff, Nat.reduceEqDiff, true_and, and_true, true_implies, if_true, if_false, ite_true, reduceIte, ne_eq, not_false_eq_true, reduceCtorEq, forall_const, bne_self_eq_false, Bool.true_eq_false, Bool.false_eq_true, false_implies, and_self, implies_true, Int.toNat_zero, beq_self_eq_true, decide_true, decide_false, Bool.not_true, Bool.not_false, ↓y_lookv, y_key1, y_mlook, y_mlookn, y_mres1, y_mres0, ↓y_call]
        refine adrawq hmix [] ?_
        by_cases c1 : k + j < min a.length b.length
        · have f1 : (k : Int) + j < (min a.length b.length : Nat) := by omega
          have hst := lcs_step a b k j (by omega) (by omega) hj
          have g1 : (0 : Int) ≤ (a.length : Int) - j - 1 := by omega
          have g2 : (a.length : Int) - j - 1 < a.length := by omega
          have g3 : (0 : Int) ≤ (b.length : Int) - j - 1 := by omega
          have g4 : (b.length : Int) - j - 1 < b.length := by omega
          have t1 : ((a.length : Int) - j - 1).toNat = a.length - 1 - j := by omega
          have t2 : ((b.length : Int) - j - 1).toNat = b.length - 1 - j := by omega
          have e0 := nth_ints a (a.length - 1 - j) (by omega)
          have e1 := nth_ints b (b.length - 1 - j) (by omega)
          by_cases c3 : a[a.length - 1 - j]'(by omega) = b[b.length - 1 - j]'(by omega)
          · have hb : (a[a.length - 1 - j]'(by omega) == b[b.length - 1 - j]'(by omega)) = true := by simpa using c3
            simp (maxSteps := 400000) -implicitDefEqProofs only [↓symPre, symPost, y_condP, y_condG, run, lver, minD, intsD, eqAll, tupD, splice, Nat.zero_add, Nat.add_zero, Nat.zero_mul, Nat.mul_one, Nat.one_mul, Nat.reduceAdd, Nat.reduceSub, Nat.reduceMul, Nat.reduceLT, Nat.reduceLeDiff, Nat.reduceEqDiff, true_and, and_true, true_implies, if_true, if_false, ite_true, reduceIte, ne_eq, not_false_eq_true, reduceCtorEq, forall_const, bne_self_eq_false, Bool.true_eq_false, Bool.false_eq_true, false_implies, and_self, implies_true, Int.toNat_zero, beq_self_eq_true, decide_true, decide_false, Bool.not_true, Bool.not_false, ↓y_lookv, y_key1, y_mlook, y_mlookn, y_mres1, y_mres0, ↓y_call, ↓y_adq0, ↓y_adq, ↓y_stepQ_call, ↓y_adq_onT, ↓y_adq_onF, ↓y_adq_onS, drawPost, isCall, isNew, isEff, Option.toList, or_false, false_or, cond_true, cond_false, not_true_eq_false, or_true, true_or, Nat.add_left_cancel_iff, Bool.false_eq_true, ↓y_q0, ↓y_q1, ↓y_q1e, y_qn, isMap, List.length_map, List.foldl_cons, List.foldl_nil, hmn, v1, v3, v4, v5, v6, f1, g1, g2, g3, g4, t1, t2, e0, e1, hb, decide_true, w1]
            refine ⟨j + 1, hst.1 c3, by have := hst.1 c3; omega, ?_⟩
            refine le_to (List.replicate 4 .hole ++ [.old 4] ++ List.replicate 65 .hole) hl rfl ?_ ?_ <;> ((try simp only [y_blk_end, y_blk_hole, y_blk_nil, y_blk_old, y_wkl_end, y_wkl_top, List.replicate, List.cons_append, List.nil_append, and_true, true_and]) <;> (repeat' (first | apply And.intro | apply y_wkl | refine Exists.intro _ (And.intro rfl ?_))) <;> (try first | exact trivial | exact Wk.top _ | exact wk_int rfl | exact wk_bool rfl | exact wk_ptr rfl rfl rfl rfl | exact wk_ref rfl rfl rfl rfl rfl | exact wk_nil rfl rfl rfl | exact wk_ref rfl rfl rfl rfl (by simp) | exact wk_ref rfl rfl rfl rfl (by simp; omega) | exact wk_old (by assumption) (by simp) | exact wk_eq rfl (by first | exact Bd.int _ _ | exact Bd.bool _ | exact Bd.abool | exact Bd.nils | exact Bd.emp | exact Bd.nilp | exact Bd.nilfn | assumption | exact low_trees _ _ | exact low_treeD _ _ | exact low_ints _ _) | exact Nat.le_refl _ | exact wk_int (by simp) | exact wk_int (by omega) | exact Nat.succ_le_succ (Nat.zero_le _) | exact Nat.le_add_left _ _ | omega))
          · have hb : (a[a.length - 1 - j]'(by omega) == b[b.length - 1 - j]'(by omega)) = false := by simpa using c3
            have hj' : j = lcs a b k := by have := mt hst.2 c3; omega
            have hd := done hj'
            have s2 : (k : Int) ≤ (b.length : Int) - j := by omega
            have s3 : (b.length : Int) - j ≤ b.length := by omega
            simp (maxSteps := 400000) -implicitDefEqProofs only [↓symPre, symPost, y_condP, y_condG, run, lver, minD, intsD, eqAll, tupD, splice, Nat.zero_add, Nat.add_zero, Nat.zero_mul, Nat.mul_one, Nat.one_mul, Nat.reduceAdd, Nat.reduceSub, Nat.reduceMul, Nat.reduceLT, Nat.reduceLeDiff, Nat.reduceEqDiff, true_and, and_true, true_implies, if_true, if_false, ite_true, reduceIte, ne_eq, not_false_eq_true, reduceCtorEq, forall_const, bne_self_eq_false, Bool.true_eq_false, Bool.false_eq_true, false_implies, and_self, implies_true, Int.toNat_zero, beq_self_eq_true, decide_true, decide_false, Bool.not_true, Bool.not_false, ↓y_lookv, y_key1, y_mlook, y_mlookn, y_mres1, y_mres0, ↓y_call, ↓y_adq0, ↓y_adq, ↓y_stepQ_call, ↓y_adq_onT, ↓y_adq_onF, ↓y_adq_onS, drawPost, isCall, isNew, isEff, Option.toList, or_false, false_or, cond_true, cond_false, not_true_eq_false, or_true, true_or, Nat.add_left_cancel_iff, Bool.false_eq_true, ↓y_q0, ↓y_q1, ↓y_q1e, y_qn, isMap, List.length_map, List.foldl_cons, List.foldl_nil, hmn, v1, v3, v4, v5, v6, f1, g1, g2, g3, g4, t1, t2, e0, e1, hb, decide_true, s1, s2, s3, ints_cells, Int.toNat_natCast]
            repeat (refine And.intro (by intro c hc; first | (rcases hc with rfl | rfl | rfl <;> rfl) | (subst hc; rfl)) ?_)
            rw [← hd]
            exact fin_low hl (.agg _ (by
              intro c hc
              simp only [List.mem_cons, List.not_mem_nil, or_false] at hc
              rcases hc with rfl | rfl | rfl
              · exact .int ..
              · exact .int ..
              · rw [← List.map_drop, ← List.map_take]; exact low_ints _ _)) ⟨rfl, rfl, rfl⟩
        · have f1 : ¬ (k : Int) + j < (min a.length b.length : Nat) := by omega
          have hj' : j = lcs a b k := lcs_end a b k j hj (by omega)
          have hd := done hj'
          have s2 : (k : Int) ≤ (b.length : Int) - j := by omega
          have s3 : (b.length : Int) - j ≤ b.length := by omega
          simp (maxSteps := 400000) -implicitDefEqProofs only [↓symPre, symPost, y_condP, y_condG, run, lver, minD, intsD, eqAll, tupD, splice, Nat.zero_add, Nat.add_zero, Nat.zero_mul, Nat.mul_one, Nat.one_mul, Nat.reduceAdd, Nat.reduceSub, Nat.reduceMul, Nat.reduceLT, Nat.reduceLeDiff, Nat.reduceEqDiff, true_and, and_true, true_implies, if_true, if_false, ite_true, reduceIte, ne_eq, not_false_eq_true, reduceCtorEq, forall_const, bne_self_eq_false, Bool.true_eq_false, Bool.false_eq_true, false_implies, and_self, implies_true, Int.toNat_zero, beq_self_eq_true, decide_true, decide_false, Bool.not_true, Bool.not_false, ↓y_lookv, y_key1, y_mlook, y_mlookn, y_mres1, y_mres0, ↓y_call, ↓y_adq0, ↓y_adq, ↓y_stepQ_call, ↓y_adq_onT, ↓y_adq_onF, ↓y_adq_onS, drawPost, isCall, isNew, isEff, Option.toList, or_false, false_or, cond_true, cond_false, not_true_eq_false, or_true, true_or, Nat.add_left_cancel_iff, Bool.false_eq_true, ↓y_q0, ↓y_q1, ↓y_q1e, y_qn, isMap, List.length_map, List.foldl_cons, List.foldl_nil, hmn, v1, v3, v4, f1, decide_true, decide_false, s1, s2, s3, ints_cells, Int.toNat_natCast]
          repeat (refine And.intro (by intro c hc; first | (rcases hc with rfl | rfl | rfl <;> rfl) | (subst hc; rfl)) ?_)
          rw [← hd]
          exact fin_low hl (.agg _ (by
            intro c hc
            simp only [List.mem_cons, List.not_mem_nil, or_false] at hc
            rcases hc with rfl | rfl | rfl
            · exact .int ..
            · exact .int ..
            · rw [← List.map_drop, ← List.map_take]; exact low_ints _ _)) ⟨rfl, rfl, rfl⟩

end Abs
end Go.Proofs.Ytcdbikoonobodaa

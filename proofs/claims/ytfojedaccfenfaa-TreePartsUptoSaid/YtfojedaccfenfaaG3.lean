/- parlmake.Grammar makes a valid grammar. -/
import Derived.Test.YtfojedaccfenfaaG2
namespace Go.Proofs.Ytfojedaccfenfaa
namespace Abs
set_option linter.unusedVariables false
set_option linter.unusedSimpArgs false
set_option maxRecDepth 20000

theorem sym_one_cells (b : Bool) (k : Int) (L : List Sy) : cellsF symD L ++ [.bool b, .int .i64 k] = cellsF symD (L ++ [⟨b, k⟩]) := by rw [cellsF_app, cellsF_one]; rfl
theorem rule_one_cells (k : Int) (s : List Sy) (L : List Ru) : cellsF ruleD L ++ [.int .i64 k, .lst (s.map symD)] = cellsF ruleD (L ++ [⟨k, s⟩]) := by rw [cellsF_app, cellsF_one]; rfl

theorem wk_agg4 {X : Wx} {a b c d a' b' c' d' : D} (h1 : Wk X a a') (h2 : Wk X b b') (h3 : Wk X c c') (h4 : Wk X d d') : Wk X (.agg [a, b, c, d]) (.agg [a', b', c', d']) :=
  .agg _ _ rfl fun i x x' hc hc' => by
    rcases i with _ | _ | _ | _ | i
    · simp at hc hc'; subst hc; subst hc'; exact h1
    · simp at hc hc'; subst hc; subst hc'; exact h2
    · simp at hc hc'; subst hc; subst hc'; exact h3
    · simp at hc hc'; subst hc; subst hc'; exact h4
    · simp at hc

set_option maxHeartbeats 4000000 in
theorem at_Grammar (l : List Int) (hlen : l.length < 2 ^ 60) (n : Nat) (h : Heap) : ACalls prog F_parlmake_Grammar [iD l] n h fun d h' x => h' = h ∧ x = [] ∧ ∃ g : Gr, okGr g ∧ d = gramD g := by
  refine K_parlmake_Grammar.calls fun hl => ?_
  unfold C_parlmake_Grammar
  simp -implicitDefEqProofs only [↓symPre, symPost, y_condP, y_condG, run, lver, minD, intsD, eqAll, tupD, splice, Nat.zero_add, Nat.add_zero, Nat.zero_mul, Nat.mul_one, Nat.one_mul, Nat.reduceAdd, Nat.reduceSub, Nat.reduceMul, Nat.reduceLT, Nat.reduceLeDiff, Nat.reduceEqDiff, true_and, and_true, true_implies, if_true, if_false, ite_true, reduceIte, ne_eq, not_false_eq_true, reduceCtorEq, forall_const, bne_self_eq_false, Bool.true_eq_false, Bool.false_eq_true, false_implies, and_self, implies_true, Int.toNat_zero, beq_self_eq_true, decide_true, decide_false, Bool.not_true, Bool.not_false, ↓y_call]
  refine snext_call (l := l) (t := 8) (by omega) (by omega) hlen rfl rfl rfl fun T l1 hT0 hT1 hl1 => ?_
  have wT : IntKind.i64.wrap (1 + T) = 1 + T := IntWalk.i64_in _ (by omega)
  simp -implicitDefEqProofs only [↓symPre, symPost, y_condP, y_condG, run, lver, minD, intsD, eqAll, tupD, splice, Nat.zero_add, Nat.add_zero, Nat.zero_mul, Nat.mul_one, Nat.one_mul, Nat.reduceAdd, Nat.reduceSub, Nat.reduceMul, Nat.reduceLT, Nat.reduceLeDiff, Nat.reduceEqDiff, true_and, and_true, true_implies, if_true, if_false, ite_true, reduceIte, ne_eq, not_false_eq_true, reduceCtorEq, forall_const, bne_self_eq_false, Bool.true_eq_false, Bool.false_eq_true, false_implies, and_self, implies_true, Int.toNat_zero, beq_self_eq_true, decide_true, decide_false, Bool.not_true, Bool.not_false, ↓y_call, wT]
  refine snext_call (l := l1) (t := 8) (by omega) (by omega) (by omega) rfl rfl rfl fun M l2 hM0 hM1 hl2 => ?_
  have wM : IntKind.i64.wrap (1 + M) = 1 + M := IntWalk.i64_in _ (by omega)
  simp -implicitDefEqProofs only [↓symPre, symPost, y_condP, y_condG, run, lver, minD, intsD, eqAll, tupD, splice, Nat.zero_add, Nat.add_zero, Nat.zero_mul, Nat.mul_one, Nat.one_mul, Nat.reduceAdd, Nat.reduceSub, Nat.reduceMul, Nat.reduceLT, Nat.reduceLeDiff, Nat.reduceEqDiff, true_and, and_true, true_implies, if_true, if_false, ite_true, reduceIte, ne_eq, not_false_eq_true, reduceCtorEq, forall_const, bne_self_eq_false, Bool.true_eq_false, Bool.false_eq_true, false_implies, and_self, implies_true, Int.toNat_zero, beq_self_eq_true, decide_true, decide_false, Bool.not_true, Bool.not_false, ↓y_call, wM]
  refine snext_call (l := l2) (t := 8) (by omega) (by omega) (by omega) rfl rfl rfl fun S l3 hS0 hS1 hl3 => ?_
  simp -implicitDefEqProofs only [↓symPre, symPost, y_condP, y_condG, run, lver, minD, intsD, eqAll, tupD, splice, Nat.zero_add, Nat.add_zero, Nat.zero_mul, Nat.mul_one, Nat.one_mul, Nat.reduceAdd, Nat.reduceSub, Nat.reduceMul, Nat.reduceLT, Nat.reduceLeDiff, Nat.reduceEqDiff, true_and, and_true, true_implies, if_true, if_false, ite_true, reduceIte, ne_eq, not_false_eq_true, reduceCtorEq, forall_const, bne_self_eq_false, Bool.true_eq_false, Bool.false_eq_true, false_implies, and_self, implies_true, Int.toNat_zero, beq_self_eq_true, decide_true, decide_false, Bool.not_true, Bool.not_false, ↓y_call]
  refine snext_call (l := l3) (t := 8) (by omega) (by omega) (by omega) rfl rfl rfl fun C l4 hC0 hC1 hl4 => ?_
  have wC : IntKind.i64.wrap (1 + C) = 1 + C := IntWalk.i64_in _ (by omega)
  simp -implicitDefEqProofs only [↓symPre, symPost, y_condP, y_condG, run, lver, minD, intsD, eqAll, tupD, splice, Nat.zero_add, Nat.add_zero, Nat.zero_mul, Nat.mul_one, Nat.one_mul, Nat.reduceAdd, Nat.reduceSub, Nat.reduceMul, Nat.reduceLT, Nat.reduceLeDiff, Nat.reduceEqDiff, true_and, and_true, true_implies, if_true, if_false, ite_true, reduceIte, ne_eq, not_false_eq_true, reduceCtorEq, forall_const, bne_self_eq_false, Bool.true_eq_false, Bool.false_eq_true, false_implies, and_self, implies_true, Int.toNat_zero, beq_self_eq_true, decide_true, decide_false, Bool.not_true, Bool.not_false, ↓y_call, wC]
  obtain ⟨c, hcc⟩ : ∃ c : Nat, 1 + C = c := ⟨(1 + C).toNat, by omega⟩
  obtain ⟨tt, htt⟩ : ∃ c : Nat, 1 + T = c := ⟨(1 + T).toNat, by omega⟩
  obtain ⟨mm, hmm⟩ : ∃ c : Nat, 1 + M = c := ⟨(1 + M).toNat, by omega⟩
  rw [hcc, htt, hmm]
  refine aloop (fun p : Nat × List Int × List Ru × Nat => St.mk n ([.top, .top, .ptr (n + 2) 1 0, .ptr (n + 8) 1 0, .ptr (n + 4) 1 0] ++ List.replicate 18 .top ++ [.int .i64 c, .int .i64 p.1] ++ List.replicate 47 .top) h
      ([blk0, blk0, ⟨1, .cells [.int .i64 0, .int .i64 0, .int .i64 0, .nils]⟩, blk0, ⟨1, .cells [.int .i64 tt, .int .i64 mm, .int .i64 S, .ref 2 (n + 68) p.2.2.2 0 p.2.2.1.length]⟩, blk0, blk0, blk0, ⟨1, .cells [iD p.2.1]⟩] ++ List.replicate 59 blk0 ++ [⟨p.2.2.2, .cells (cellsF ruleD p.2.2.1)⟩] ++ List.replicate 3 blk0))
      (fun p => p.1 ≤ c ∧ p.2.1.length ≤ l.length ∧ p.2.2.1.length ≤ p.1 ∧ (∀ r ∈ p.2.2.1, okRu tt mm r) ∧ p.2.2.1.Nodup ∧ 1 ≤ p.2.2.2) (fun p => c - p.1) (0, l4, [], 1) ⟨Nat.zero_le _, by simp only; omega, Nat.le_refl _, by simp, by simp, Nat.le_refl _⟩ ?_ ?_
  · refine le_to ([.hole, .hole, .old 2, .hole, .old 4, .hole, .hole, .hole, .old 8] ++ List.replicate 59 .hole ++ [.nil] ++ List.replicate 3 .hole) hl rfl ?_ ?_ <;> simp only [cellsF_nil] <;> ((try simp only [y_blk_end, y_blk_hole, y_blk_nil, y_blk_old, y_wkl_end, y_wkl_top, List.replicate, List.cons_append, List.nil_append, and_true, true_and]) <;> (repeat' (first | apply And.intro | apply y_wkl | refine Exists.intro _ (And.intro rfl ?_))) <;> (try first | exact trivial | exact Wk.top _ | exact wk_int rfl | exact wk_bool rfl | exact wk_ptr rfl rfl rfl rfl | exact wk_ref rfl rfl rfl rfl rfl | exact wk_nil rfl rfl rfl | exact wk_ref rfl rfl rfl rfl (by simp) | exact wk_ref rfl rfl rfl rfl (by simp; omega) | exact wk_old (by assumption) (by simp) | exact wk_eq rfl (by first | exact Bd.int _ _ | exact Bd.bool _ | exact Bd.abool | exact Bd.nils | exact Bd.emp | exact Bd.nilp | exact Bd.nilfn | assumption | exact low_trees _ _ | exact low_treeD _ _ | exact low_ints _ _) | exact Nat.le_refl _ | exact wk_int (by simp) | exact wk_int (by omega) | exact Nat.succ_le_succ (Nat.zero_le _) | exact Nat.le_add_left _ _ | omega))
  · rintro ⟨i, L, rs, v⟩ ⟨hi, hL, hrs, hok, hnd, hv⟩
    simp only at hi hL hrs hok hnd hv
    by_cases hlt : i < c
    · have f1 : (i : Int) < (c : Int) := by omega
      have w1 : IntKind.i64.wrap ((i : Int) + 1) = ((i + 1 : Nat) : Int) := by rw [IntWalk.i64_in _ (by omega)]; omega
      simp -implicitDefEqProofs only [↓symPre, symPost, y_condP, y_condG, run, lver, minD, intsD, eqAll, tupD, splice, Nat.zero_add, Nat.add_zero, Nat.zero_mul, Nat.mul_one, Nat.one_mul, Nat.reduceAdd, Nat.reduceSub, Nat.reduceMul, Nat.reduceLT, Nat.reduceLeDiff, Nat.reduceEqDiff, true_and, and_true, true_implies, if_true, if_false, ite_true, reduceIte, ne_eq, not_false_eq_true, reduceCtorEq, forall_const, bne_self_eq_false, Bool.true_eq_false, Bool.false_eq_true, false_implies, and_self, implies_true, Int.toNat_zero, beq_self_eq_true, decide_true, decide_false, Bool.not_true, Bool.not_false, ↓y_call, f1, decide_true]
      refine snext_call (l := L) (t := 8) (by omega) (by omega) (by omega) rfl rfl rfl fun lf L1 hlf0 hlf1 hL1 => ?_
      simp -implicitDefEqProofs only [↓symPre, symPost, y_condP, y_condG, run, lver, minD, intsD, eqAll, tupD, splice, Nat.zero_add, Nat.add_zero, Nat.zero_mul, Nat.mul_one, Nat.one_mul, Nat.reduceAdd, Nat.reduceSub, Nat.reduceMul, Nat.reduceLT, Nat.reduceLeDiff, Nat.reduceEqDiff, true_and, and_true, true_implies, if_true, if_false, ite_true, reduceIte, ne_eq, not_false_eq_true, reduceCtorEq, forall_const, bne_self_eq_false, Bool.true_eq_false, Bool.false_eq_true, false_implies, and_self, implies_true, Int.toNat_zero, beq_self_eq_true, decide_true, decide_false, Bool.not_true, Bool.not_false, ↓y_call]
      refine snext_call (l := L1) (t := 8) (by omega) (by omega) (by omega) rfl rfl rfl fun K L2 hK0 hK1 hL2 => ?_
      simp -implicitDefEqProofs only [↓symPre, symPost, y_condP, y_condG, run, lver, minD, intsD, eqAll, tupD, splice, Nat.zero_add, Nat.add_zero, Nat.zero_mul, Nat.mul_one, Nat.one_mul, Nat.reduceAdd, Nat.reduceSub, Nat.reduceMul, Nat.reduceLT, Nat.reduceLeDiff, Nat.reduceEqDiff, true_and, and_true, true_implies, if_true, if_false, ite_true, reduceIte, ne_eq, not_false_eq_true, reduceCtorEq, forall_const, bne_self_eq_false, Bool.true_eq_false, Bool.false_eq_true, false_implies, and_self, implies_true, Int.toNat_zero, beq_self_eq_true, decide_true, decide_false, Bool.not_true, Bool.not_false, ↓y_call]
      obtain ⟨k, rfl⟩ : ∃ c : Nat, K = c := ⟨K.toNat, by omega⟩
      refine aloop (fun q : Nat × List Int × List Sy × Nat => St.mk n ([.top, .top, .ptr (n + 2) 1 0, .ptr (n + 8) 1 0, .ptr (n + 4) 1 0, .ptr (n + 5) 1 0] ++ List.replicate 17 .top ++ [.int .i64 c, .int .i64 i] ++ List.replicate 7 .top ++ [.int .i64 k, .int .i64 q.1] ++ List.replicate 38 .top) h
          ([blk0, blk0, ⟨1, .cells [.int .i64 0, .int .i64 0, .int .i64 0, .nils]⟩, blk0, ⟨1, .cells [.int .i64 tt, .int .i64 mm, .int .i64 S, .ref 2 (n + 68) v 0 rs.length]⟩, ⟨1, .cells [.int .i64 lf, .ref 2 (n + 46) q.2.2.2 0 q.2.2.1.length]⟩, blk0, blk0, ⟨1, .cells [iD q.2.1]⟩] ++ List.replicate 37 blk0 ++ [⟨q.2.2.2, .cells (cellsF symD q.2.2.1)⟩] ++ List.replicate 21 blk0 ++ [⟨v, .cells (cellsF ruleD rs)⟩] ++ List.replicate 3 blk0))
          (fun q => q.1 ≤ k ∧ q.2.1.length ≤ l.length ∧ q.2.2.1.length = q.1 ∧ (∀ s ∈ q.2.2.1, okSy tt mm s) ∧ 1 ≤ q.2.2.2) (fun q => k - q.1) (0, L2, [], 1) ⟨Nat.zero_le _, by simp only; omega, rfl, by simp, Nat.le_refl _⟩ ?_ ?_
      · refine le_to ([.hole, .hole, .old 2, .hole, .old 4, .old 5, .hole, .hole, .old 8] ++ List.replicate 37 .hole ++ [.nil] ++ List.replicate 21 .hole ++ [.old 68] ++ List.replicate 3 .hole) hl rfl ?_ ?_ <;> simp only [cellsF_nil] <;> ((try simp only [y_blk_end, y_blk_hole, y_blk_nil, y_blk_old, y_wkl_end, y_wkl_top, List.replicate, List.cons_append, List.nil_append, and_true, true_and]) <;> (repeat' (first | apply And.intro | apply y_wkl | refine Exists.intro _ (And.intro rfl ?_))) <;> (try first | exact trivial | exact Wk.top _ | exact wk_int rfl | exact wk_bool rfl | exact wk_ptr rfl rfl rfl rfl | exact wk_ref rfl rfl rfl rfl rfl | exact wk_nil rfl rfl rfl | exact wk_ref rfl rfl rfl rfl (by simp) | exact wk_ref rfl rfl rfl rfl (by simp; omega) | exact wk_old (by assumption) (by simp) | exact wk_eq rfl (by first | exact Bd.int _ _ | exact Bd.bool _ | exact Bd.abool | exact Bd.nils | exact Bd.emp | exact Bd.nilp | exact Bd.nilfn | assumption | exact low_trees _ _ | exact low_treeD _ _ | exact low_ints _ _) | exact Nat.le_refl _ | exact wk_int (by simp) | exact wk_int (by omega) | exact Nat.succ_le_succ (Nat.zero_le _) | exact Nat.le_add_left _ _ | omega))
        exact WkL.low (low_cellsF ruleD (low_ruleD n) rs)
      · rintro ⟨j, R, A, u⟩ ⟨hj, hR, hA, hoA, hu⟩
        simp only at hj hR hA hoA hu
        by_cases hjl : j < k
        · have g1 : (j : Int) < (k : Int) := by omega
          have w2 : IntKind.i64.wrap ((j : Int) + 1) = ((j + 1 : Nat) : Int) := by rw [IntWalk.i64_in _ (by omega)]; omega
          have hAc : (cellsF symD A).length = A.length * 2 := cellsF_len symD symD_cells A
          have hf16 : (A.length + 1) * 16 ≤ 140737488355328 := by omega
          have hCt := take_all (cellsF symD A) (k := A.length * 2) (by rw [hAc])
          have hfit : A.length * 2 ≤ (cellsF symD A).length := by omega
          have hlA := low_cellsF symD (low_symD n) A
          simp -implicitDefEqProofs only [↓symPre, symPost, y_condP, y_condG, run, lver, minD, intsD, eqAll, tupD, splice, Nat.zero_add, Nat.add_zero, Nat.zero_mul, Nat.mul_one, Nat.one_mul, Nat.reduceAdd, Nat.reduceSub, Nat.reduceMul, Nat.reduceLT, Nat.reduceLeDiff, Nat.reduceEqDiff, true_and, and_true, true_implies, if_true, if_false, ite_true, reduceIte, ne_eq, not_false_eq_true, reduceCtorEq, forall_const, bne_self_eq_false, Bool.true_eq_false, Bool.false_eq_true, false_implies, and_self, implies_true, Int.toNat_zero, beq_self_eq_true, decide_true, decide_false, Bool.not_true, Bool.not_false, ↓y_call, g1, decide_true]
          refine snext_call (l := R) (t := 8) (by omega) (by omega) (by omega) rfl rfl rfl fun B R1 hB0 hB1 hR1 => ?_
          simp -implicitDefEqProofs only [↓symPre, symPost, y_condP, y_condG, run, lver, minD, intsD, eqAll, tupD, splice, Nat.zero_add, Nat.add_zero, Nat.zero_mul, Nat.mul_one, Nat.one_mul, Nat.reduceAdd, Nat.reduceSub, Nat.reduceMul, Nat.reduceLT, Nat.reduceLeDiff, Nat.reduceEqDiff, true_and, and_true, true_implies, if_true, if_false, ite_true, reduceIte, ne_eq, not_false_eq_true, reduceCtorEq, forall_const, bne_self_eq_false, Bool.true_eq_false, Bool.false_eq_true, false_implies, and_self, implies_true, Int.toNat_zero, beq_self_eq_true, decide_true, decide_false, Bool.not_true, Bool.not_false, ↓y_call]
          by_cases hB : B = 0
          · have b1 : (B == 0) = true := by simp [hB]
            have hx := snext_range R1 tt (by omega)
            simp -implicitDefEqProofs only [↓symPre, symPost, y_condP, y_condG, run, lver, minD, intsD, eqAll, tupD, splice, Nat.zero_add, Nat.add_zero, Nat.zero_mul, Nat.mul_one, Nat.one_mul, Nat.reduceAdd, Nat.reduceSub, Nat.reduceMul, Nat.reduceLT, Nat.reduceLeDiff, Nat.reduceEqDiff, true_and, and_true, true_implies, if_true, if_false, ite_true, reduceIte, ne_eq, not_false_eq_true, reduceCtorEq, forall_const, bne_self_eq_false, Bool.true_eq_false, Bool.false_eq_true, false_implies, and_self, implies_true, Int.toNat_zero, beq_self_eq_true, decide_true, decide_false, Bool.not_true, Bool.not_false, ↓y_call, b1]
            refine adrawq hmix [[], [], [], [], [], [n + 8], [], [], [], [], [n + 5]] ?_
            simp (maxSteps := 400000) -implicitDefEqProofs only [↓symPre, symPost, y_condP, y_condG, run, lver, minD, intsD, eqAll, tupD, splice, Nat.zero_add, Nat.add_zero, Nat.zero_mul, Nat.mul_one, Nat.one_mul, Nat.reduceAdd, Nat.reduceSub, Nat.reduceMul, Nat.reduceLT, Nat.reduceLeDiff, Nat.reduceEqDiff, true_and, and_true, true_implies, if_true, if_false, ite_true, reduceIte, ne_eq, not_false_eq_true, reduceCtorEq, forall_const, bne_self_eq_false, Bool.true_eq_false, Bool.false_eq_true, false_implies, and_self, implies_true, Int.toNat_zero, beq_self_eq_true, decide_true, decide_false, Bool.not_true, Bool.not_false, ↓y_call, ↓drawPre, drawPost, isCall, isNew, isEff, Option.toList, or_false, false_or, cond_true, cond_false, not_true_eq_false, or_true, true_or, Nat.add_left_cancel_iff, Bool.false_eq_true, List.flatMap_cons, List.flatMap_nil, List.append_nil, List.getD_cons_succ, List.getD_cons_zero]
            refine ⟨_, _, ACalls.oneD (t := 8) (r := .int .i64 (snext R1 tt)) (x := ⟨1, .cells [iD R1.tail]⟩) rfl ?_ ?_, ?_, ?_⟩
            · intro s hs
              exact at_snext R1 tt (by omega) (by omega) (by omega) (by show n + 8 < n + 72; omega) (hs.hp (by show mrg n h _ (n + 8) = _; rw [mrg_loc]; rfl))
            · show 8 < 72; omega
            · exact (by simp [y_cov0, y_cov1, isNew, isEff, Option.toList])
            generalize snext R1 tt = y at *
            simp (maxSteps := 400000) -implicitDefEqProofs only [↓symPre, symPost, y_condP, y_condG, run, lver, minD, intsD, eqAll, tupD, splice, Nat.zero_add, Nat.add_zero, Nat.zero_mul, Nat.mul_one, Nat.one_mul, Nat.reduceAdd, Nat.reduceSub, Nat.reduceMul, Nat.reduceLT, Nat.reduceLeDiff, Nat.reduceEqDiff, true_and, and_true, true_implies, if_true, if_false, ite_true, reduceIte, ne_eq, not_false_eq_true, reduceCtorEq, forall_const, bne_self_eq_false, Bool.true_eq_false, Bool.false_eq_true, false_implies, and_self, implies_true, Int.toNat_zero, beq_self_eq_true, decide_true, decide_false, Bool.not_true, Bool.not_false, ↓y_call, ↓drawPre, drawPost, isCall, isNew, isEff, Option.toList, or_false, false_or, cond_true, cond_false, not_true_eq_false, or_true, true_or, Nat.add_left_cancel_iff, Bool.false_eq_true, List.length_map, srcOf, Nat.le_refl, hf16, hCt, hfit, List.getD_cons_succ, List.getD_cons_zero, w2]
            refine ⟨by rintro c (rfl | rfl) <;> rfl, by rintro c rfl; rfl, (j + 1, R1.tail, A ++ [⟨true, y⟩], u + 1), ⟨by simp only; omega, by simp; omega, by simp [hA], ?_, by simp only; omega⟩, by simp only; omega, ?_⟩
            · intro s hs
              rcases List.mem_append.1 hs with hs | hs
              · exact hoA s hs
              · simp only [List.mem_cons, List.not_mem_nil, or_false] at hs
                subst hs
                exact ⟨hx.1, fun _ => hx.2, fun h => by cases h⟩
            simp only [← sym_one_cells]
            refine le_to ([.hole, .hole, .old 2, .hole, .old 4, .old 5, .hole, .hole, .old 8] ++ List.replicate 37 .hole ++ [.old 46] ++ List.replicate 21 .hole ++ [.old 68] ++ List.replicate 3 .hole) hl rfl ?_ ?_ <;> ((try simp only [y_blk_end, y_blk_hole, y_blk_nil, y_blk_old, y_wkl_end, y_wkl_top, List.replicate, List.cons_append, List.nil_append, and_true, true_and]) <;> (repeat' (first | apply And.intro | apply y_wkl | refine Exists.intro _ (And.intro rfl ?_))) <;> (try first | exact trivial | exact Wk.top _ | exact wk_int rfl | exact wk_bool rfl | exact wk_ptr rfl rfl rfl rfl | exact wk_ref rfl rfl rfl rfl rfl | exact wk_nil rfl rfl rfl | exact wk_ref rfl rfl rfl rfl (by simp) | exact wk_ref rfl rfl rfl rfl (by simp; omega) | exact wk_old (by assumption) (by simp) | exact wk_eq rfl (by first | exact Bd.int _ _ | exact Bd.bool _ | exact Bd.abool | exact Bd.nils | exact Bd.emp | exact Bd.nilp | exact Bd.nilfn | assumption | exact low_trees _ _ | exact low_treeD _ _ | exact low_ints _ _) | exact Nat.le_refl _ | exact wk_int (by simp) | exact wk_int (by omega) | exact Nat.succ_le_succ (Nat.zero_le _) | exact Nat.le_add_left _ _ | omega))
            · exact WkL.app (WkL.low hlA) (y_wkl (wk_bool rfl) (y_wkl (wk_int rfl) trivial))
            · exact WkL.low (low_cellsF ruleD (low_ruleD n) rs)
          · have b1 : (B == 0) = false := by simp [hB]
            have hx := snext_range R1 mm (by omega)
            simp -implicitDefEqProofs only [↓symPre, symPost, y_condP, y_condG, run, lver, minD, intsD, eqAll, tupD, splice, Nat.zero_add, Nat.add_zero, Nat.zero_mul, Nat.mul_one, Nat.one_mul, Nat.reduceAdd, Nat.reduceSub, Nat.reduceMul, Nat.reduceLT, Nat.reduceLeDiff, Nat.reduceEqDiff, true_and, and_true, true_implies, if_true, if_false, ite_true, reduceIte, ne_eq, not_false_eq_true, reduceCtorEq, forall_const, bne_self_eq_false, Bool.true_eq_false, Bool.false_eq_true, false_implies, and_self, implies_true, Int.toNat_zero, beq_self_eq_true, decide_true, decide_false, Bool.not_true, Bool.not_false, ↓y_call, b1]
            refine adrawq hmix [[], [], [], [], [], [n + 8], [], [], [n + 46], [], [n + 5]] ?_
            simp (maxSteps := 400000) -implicitDefEqProofs only [↓symPre, symPost, y_condP, y_condG, run, lver, minD, intsD, eqAll, tupD, splice, Nat.zero_add, Nat.add_zero, Nat.zero_mul, Nat.mul_one, Nat.one_mul, Nat.reduceAdd, Nat.reduceSub, Nat.reduceMul, Nat.reduceLT, Nat.reduceLeDiff, Nat.reduceEqDiff, true_and, and_true, true_implies, if_true, if_false, ite_true, reduceIte, ne_eq, not_false_eq_true, reduceCtorEq, forall_const, bne_self_eq_false, Bool.true_eq_false, Bool.false_eq_true, false_implies, and_self, implies_true, Int.toNat_zero, beq_self_eq_true, decide_true, decide_false, Bool.not_true, Bool.not_false, ↓y_call, ↓drawPre, drawPost, isCall, isNew, isEff, Option.toList, or_false, false_or, cond_true, cond_false, not_true_eq_false, or_true, true_or, Nat.add_left_cancel_iff, Bool.false_eq_true, List.flatMap_cons, List.flatMap_nil, List.append_nil, List.getD_cons_succ, List.getD_cons_zero]
            refine ⟨_, _, ACalls.oneD (t := 8) (r := .int .i64 (snext R1 mm)) (x := ⟨1, .cells [iD R1.tail]⟩) rfl ?_ ?_, ?_, ?_⟩
            · intro s hs
              exact at_snext R1 mm (by omega) (by omega) (by omega) (by show n + 8 < n + 72; omega) (hs.hp (by show mrg n h _ (n + 8) = _; rw [mrg_loc]; rfl))
            · show 8 < 72; omega
            · exact (by simp [y_cov0, y_cov1, isNew, isEff, Option.toList])
            generalize snext R1 mm = y at *
            simp (maxSteps := 400000) -implicitDefEqProofs only [↓symPre, symPost, y_condP, y_condG, run, lver, minD, intsD, eqAll, tupD, splice, Nat.zero_add, Nat.add_zero, Nat.zero_mul, Nat.mul_one, Nat.one_mul, Nat.reduceAdd, Nat.reduceSub, Nat.reduceMul, Nat.reduceLT, Nat.reduceLeDiff, Nat.reduceEqDiff, true_and, and_true, true_implies, if_true, if_false, ite_true, reduceIte, ne_eq, not_false_eq_true, reduceCtorEq, forall_const, bne_self_eq_false, Bool.true_eq_false, Bool.false_eq_true, false_implies, and_self, implies_true, Int.toNat_zero, beq_self_eq_true, decide_true, decide_false, Bool.not_true, Bool.not_false, ↓y_call, ↓drawPre, drawPost, isCall, isNew, isEff, Option.toList, or_false, false_or, cond_true, cond_false, not_true_eq_false, or_true, true_or, Nat.add_left_cancel_iff, Bool.false_eq_true, List.length_map, srcOf, Nat.le_refl, hf16, hCt, hfit, List.getD_cons_succ, List.getD_cons_zero, w2]
            refine ⟨by rintro c (rfl | rfl) <;> rfl, by rintro c rfl; rfl, (j + 1, R1.tail, A ++ [⟨false, y⟩], u + 1), ⟨by simp only; omega, by simp; omega, by simp [hA], ?_, by simp only; omega⟩, by simp only; omega, ?_⟩
            · intro s hs
              rcases List.mem_append.1 hs with hs | hs
              · exact hoA s hs
              · simp only [List.mem_cons, List.not_mem_nil, or_false] at hs
                subst hs
                exact ⟨hx.1, (fun h => by cases h), fun _ => hx.2⟩
            simp only [← sym_one_cells]
            refine le_to ([.hole, .hole, .old 2, .hole, .old 4, .old 5, .hole, .hole, .old 8] ++ List.replicate 37 .hole ++ [.old 46] ++ List.replicate 21 .hole ++ [.old 68] ++ List.replicate 3 .hole) hl rfl ?_ ?_ <;> ((try simp only [y_blk_end, y_blk_hole, y_blk_nil, y_blk_old, y_wkl_end, y_wkl_top, List.replicate, List.cons_append, List.nil_append, and_true, true_and]) <;> (repeat' (first | apply And.intro | apply y_wkl | refine Exists.intro _ (And.intro rfl ?_))) <;> (try first | exact trivial | exact Wk.top _ | exact wk_int rfl | exact wk_bool rfl | exact wk_ptr rfl rfl rfl rfl | exact wk_ref rfl rfl rfl rfl rfl | exact wk_nil rfl rfl rfl | exact wk_ref rfl rfl rfl rfl (by simp) | exact wk_ref rfl rfl rfl rfl (by simp; omega) | exact wk_old (by assumption) (by simp) | exact wk_eq rfl (by first | exact Bd.int _ _ | exact Bd.bool _ | exact Bd.abool | exact Bd.nils | exact Bd.emp | exact Bd.nilp | exact Bd.nilfn | assumption | exact low_trees _ _ | exact low_treeD _ _ | exact low_ints _ _) | exact Nat.le_refl _ | exact wk_int (by simp) | exact wk_int (by omega) | exact Nat.succ_le_succ (Nat.zero_le _) | exact Nat.le_add_left _ _ | omega))
            · exact WkL.app (WkL.low hlA) (y_wkl (wk_bool rfl) (y_wkl (wk_int rfl) trivial))
            · exact WkL.low (low_cellsF ruleD (low_ruleD n) rs)
        · have g1 : ¬ (j : Int) < (k : Int) := by omega
          have hjk : j = k := by omega
          subst hjk
          have hrc : (cellsF ruleD rs).length = rs.length * 2 := cellsF_len ruleD ruleD_cells rs
          have hf32 : (rs.length + 1) * 32 ≤ 140737488355328 := by omega
          have hCt := take_all (cellsF ruleD rs) (k := rs.length * 2) (by rw [hrc])
          have hfit : rs.length * 2 ≤ (cellsF ruleD rs).length := by omega
          have hx62 : ∀ x ∈ rs, x.right.length < 2 ^ 60 := fun x hx => by have := (hok x hx).2.2.1; omega
          simp -implicitDefEqProofs only [↓symPre, symPost, y_condP, y_condG, run, lver, minD, intsD, eqAll, tupD, splice, Nat.zero_add, Nat.add_zero, Nat.zero_mul, Nat.mul_one, Nat.one_mul, Nat.reduceAdd, Nat.reduceSub, Nat.reduceMul, Nat.reduceLT, Nat.reduceLeDiff, Nat.reduceEqDiff, true_and, and_true, true_implies, if_true, if_false, ite_true, reduceIte, ne_eq, not_false_eq_true, reduceCtorEq, forall_const, bne_self_eq_false, Bool.true_eq_false, Bool.false_eq_true, false_implies, and_self, implies_true, Int.toNat_zero, beq_self_eq_true, decide_true, decide_false, Bool.not_true, Bool.not_false, ↓y_call, g1, decide_false]
          refine (pure_has rs ⟨lf, A⟩ (by omega) (by simp only; omega) hx62).callF (.bool _) rfl
            (y_wkl (fz_F ruleD ruleD_cells (low_ruleD 0) (by omega) (by show mrg n h _ (n + 68) = _; rw [mrg_loc]; rfl) rfl) (y_wkl (wk_agg2 (fz_low (.int ..)) (fz_F symD symD_cells (low_symD 0) (by omega) (by show mrg n h _ (n + 46) = _; rw [mrg_loc]; rfl) rfl)) trivial)) ?_
          by_cases hm : (⟨lf, A⟩ : Ru) ∈ rs
          · have b1 : decide ((⟨lf, A⟩ : Ru) ∈ rs) = true := by simp [hm]
            simp -implicitDefEqProofs only [↓symPre, symPost, y_condP, y_condG, run, lver, minD, intsD, eqAll, tupD, splice, Nat.zero_add, Nat.add_zero, Nat.zero_mul, Nat.mul_one, Nat.one_mul, Nat.reduceAdd, Nat.reduceSub, Nat.reduceMul, Nat.reduceLT, Nat.reduceLeDiff, Nat.reduceEqDiff, true_and, and_true, true_implies, if_true, if_false, ite_true, reduceIte, ne_eq, not_false_eq_true, reduceCtorEq, forall_const, bne_self_eq_false, Bool.true_eq_false, Bool.false_eq_true, false_implies, and_self, implies_true, Int.toNat_zero, beq_self_eq_true, decide_true, decide_false, Bool.not_true, Bool.not_false, ↓y_call, b1, w1]
            refine ⟨(i + 1, R, rs, v), ⟨by simp only; omega, by simp only; omega, by simp only; omega, hok, hnd, hv⟩, by simp only; omega, ?_⟩
            refine le_to ([.hole, .hole, .old 2, .hole, .old 4, .hole, .hole, .hole, .old 8] ++ List.replicate 59 .hole ++ [.old 68] ++ List.replicate 3 .hole) hl rfl ?_ ?_ <;> ((try simp only [y_blk_end, y_blk_hole, y_blk_nil, y_blk_old, y_wkl_end, y_wkl_top, List.replicate, List.cons_append, List.nil_append, and_true, true_and]) <;> (repeat' (first | apply And.intro | apply y_wkl | refine Exists.intro _ (And.intro rfl ?_))) <;> (try first | exact trivial | exact Wk.top _ | exact wk_int rfl | exact wk_bool rfl | exact wk_ptr rfl rfl rfl rfl | exact wk_ref rfl rfl rfl rfl rfl | exact wk_nil rfl rfl rfl | exact wk_ref rfl rfl rfl rfl (by simp) | exact wk_ref rfl rfl rfl rfl (by simp; omega) | exact wk_old (by assumption) (by simp) | exact wk_eq rfl (by first | exact Bd.int _ _ | exact Bd.bool _ | exact Bd.abool | exact Bd.nils | exact Bd.emp | exact Bd.nilp | exact Bd.nilfn | assumption | exact low_trees _ _ | exact low_treeD _ _ | exact low_ints _ _) | exact Nat.le_refl _ | exact wk_int (by simp) | exact wk_int (by omega) | exact Nat.succ_le_succ (Nat.zero_le _) | exact Nat.le_add_left _ _ | omega))
            exact WkL.low (low_cellsF ruleD (low_ruleD n) rs)
          · have b1 : decide ((⟨lf, A⟩ : Ru) ∈ rs) = false := by simp [hm]
            simp -implicitDefEqProofs only [↓symPre, symPost, y_condP, y_condG, run, lver, minD, intsD, eqAll, tupD, splice, Nat.zero_add, Nat.add_zero, Nat.zero_mul, Nat.mul_one, Nat.one_mul, Nat.reduceAdd, Nat.reduceSub, Nat.reduceMul, Nat.reduceLT, Nat.reduceLeDiff, Nat.reduceEqDiff, true_and, and_true, true_implies, if_true, if_false, ite_true, reduceIte, ne_eq, not_false_eq_true, reduceCtorEq, forall_const, bne_self_eq_false, Bool.true_eq_false, Bool.false_eq_true, false_implies, and_self, implies_true, Int.toNat_zero, beq_self_eq_true, decide_true, decide_false, Bool.not_true, Bool.not_false, ↓y_call, b1, w1, srcOf, Nat.le_refl, hf32, hCt, hfit]
            refine ⟨(i + 1, R, rs ++ [⟨lf, A⟩], v + 1), ⟨by simp only; omega, by simp only; omega, by simp; omega, ?_, ?_, by simp only; omega⟩, by simp only; omega, ?_⟩
            · intro r hr
              rcases List.mem_append.1 hr with hr | hr
              · exact hok r hr
              · simp only [List.mem_cons, List.not_mem_nil, or_false] at hr
                subst hr
                exact ⟨hlf0, hlf1, by simp only; omega, hoA⟩
            · simp only
              rw [List.nodup_append]
              exact ⟨hnd, by simp, fun a ha b hb e => by
                simp only [List.mem_cons, List.not_mem_nil, or_false] at hb
                subst hb; subst e; exact hm ha⟩
            simp only [← rule_one_cells]
            refine le_to ([.hole, .hole, .old 2, .hole, .old 4, .hole, .hole, .hole, .old 8] ++ List.replicate 59 .hole ++ [.old 68] ++ List.replicate 3 .hole) hl rfl ?_ ?_ <;> ((try simp only [y_blk_end, y_blk_hole, y_blk_nil, y_blk_old, y_wkl_end, y_wkl_top, List.replicate, List.cons_append, List.nil_append, and_true, true_and]) <;> (repeat' (first | apply And.intro | apply y_wkl | refine Exists.intro _ (And.intro rfl ?_))) <;> (try first | exact trivial | exact Wk.top _ | exact wk_int rfl | exact wk_bool rfl | exact wk_ptr rfl rfl rfl rfl | exact wk_ref rfl rfl rfl rfl rfl | exact wk_nil rfl rfl rfl | exact wk_ref rfl rfl rfl rfl (by simp) | exact wk_ref rfl rfl rfl rfl (by simp; omega) | exact wk_old (by assumption) (by simp) | exact wk_eq rfl (by first | exact Bd.int _ _ | exact Bd.bool _ | exact Bd.abool | exact Bd.nils | exact Bd.emp | exact Bd.nilp | exact Bd.nilfn | assumption | exact low_trees _ _ | exact low_treeD _ _ | exact low_ints _ _) | exact Nat.le_refl _ | exact wk_int (by simp) | exact wk_int (by omega) | exact Nat.succ_le_succ (Nat.zero_le _) | exact Nat.le_add_left _ _ | omega))
            exact WkL.app (WkL.low (low_cellsF ruleD (low_ruleD n) rs)) (y_wkl (wk_int rfl) (y_wkl (wk_frzF symD symD_cells (low_symD n) (t := 46) rfl rfl (by simp) rfl) trivial))
    · have f1 : ¬ (i : Int) < (c : Int) := by omega
      simp -implicitDefEqProofs only [↓symPre, symPost, y_condP, y_condG, run, lver, minD, intsD, eqAll, tupD, splice, Nat.zero_add, Nat.add_zero, Nat.zero_mul, Nat.mul_one, Nat.one_mul, Nat.reduceAdd, Nat.reduceSub, Nat.reduceMul, Nat.reduceLT, Nat.reduceLeDiff, Nat.reduceEqDiff, true_and, and_true, true_implies, if_true, if_false, ite_true, reduceIte, ne_eq, not_false_eq_true, reduceCtorEq, forall_const, bne_self_eq_false, Bool.true_eq_false, Bool.false_eq_true, false_implies, and_self, implies_true, Int.toNat_zero, beq_self_eq_true, decide_true, decide_false, Bool.not_true, Bool.not_false, ↓y_call, f1, decide_false]
      exact fin_wk hl (wk_agg4 wk_i wk_i wk_i (wk_frzF ruleD ruleD_cells (low_ruleD n) (t := 68) rfl rfl (by simp) rfl)) ⟨rfl, rfl, ⟨tt, mm, S, rs⟩, ⟨by simp only; omega, by simp only; omega, by simp only; omega, by simp only; omega, hok, hnd⟩, rfl⟩

end Abs
end Go.Proofs.Ytfojedaccfenfaa

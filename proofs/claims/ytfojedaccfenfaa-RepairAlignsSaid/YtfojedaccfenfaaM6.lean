/- repair's Run, all of it; parllaw4's performed. -/
import Derived.Test.YtfojedaccfenfaaK5
namespace Go.Proofs.Ytfojedaccfenfaa
namespace Abs
set_option linter.unusedVariables false
set_option linter.unusedSimpArgs false
set_option maxRecDepth 20000

def runD : Option (List Int) → D
  | some r => .tup [iD r, .int .i64 0]
  | none => .tup [.lst [], .int .i64 1]

set_option maxHeartbeats 8000000 in
theorem pure_Run (w : List Int) (l : List Ope) (r : Option (List Int)) (hw : w.length < 2 ^ 60) (hlen : l.length < 2 ^ 43) (hrun : runR w l 0 [] = r) : Pure prog F_repair_Run [iD w, .lst (l.map opeD)] (runD r) := by
  intro n h
  refine K_repair_Run.calls fun hl => ?_
  unfold C_repair_Run
  simp -implicitDefEqProofs only [↓symPre, symPost, y_condP, y_condG, run, lver, minD, intsD, eqAll, tupD, splice, Nat.zero_add, Nat.add_zero, Nat.zero_mul, Nat.mul_one, Nat.one_mul, Nat.reduceAdd, Nat.reduceSub, Nat.reduceMul, Nat.reduceLT, Nat.reduceLeDiff, Nat.reduceEqDiff, true_and, and_true, true_implies, if_true, if_false, ite_true, reduceIte, ne_eq, not_false_eq_true, reduceCtorEq, forall_const, bne_self_eq_false, Bool.true_eq_false, Bool.false_eq_true, false_implies, and_self, implies_true, Int.toNat_zero, beq_self_eq_true, decide_true, decide_false, Bool.not_true, Bool.not_false, ↓y_call, List.length_map]
  refine aloop (fun p : Nat × Nat × List Int × Nat => St.mk n ([iD w, .top, .top, .top, .top, .top, .ref 1 (n + 49) p.2.2.2 0 p.2.2.1.length, .int .i64 p.2.1, .top, .top, .lst (l.map opeD), .int .i64 l.length, .int .i64 p.1] ++ List.replicate 61 .top) h
      (List.replicate 49 blk0 ++ [⟨p.2.2.2, .cells (p.2.2.1.map (.int .i64))⟩] ++ List.replicate 24 blk0)) (fun p => p.1 ≤ l.length ∧ p.2.1 ≤ p.1 ∧ p.2.2.1.length ≤ p.1 ∧ runR w (l.drop p.1) p.2.1 p.2.2.1 = r ∧ 1 ≤ p.2.2.2) (fun p => l.length - p.1) (0, 0, [], 1) ⟨Nat.zero_le _, Nat.le_refl _, Nat.le_refl _, hrun, Nat.le_refl _⟩ ?_ ?_
  · refine le_to (List.replicate 49 .hole ++ [.nil] ++ List.replicate 24 .hole) hl rfl ?_ ?_ <;> ((try simp only [y_blk_end, y_blk_hole, y_blk_nil, y_blk_old, y_wkl_end, y_wkl_top, List.replicate, List.cons_append, List.nil_append, and_true, true_and]) <;> (repeat' (first | apply And.intro | apply y_wkl | refine Exists.intro _ (And.intro rfl ?_))) <;> (try first | exact trivial | exact Wk.top _ | exact wk_int rfl | exact wk_bool rfl | exact wk_ptr rfl rfl rfl rfl | exact wk_ref rfl rfl rfl rfl rfl | exact wk_nil rfl rfl rfl | exact wk_ref rfl rfl rfl rfl (by simp) | exact wk_ref rfl rfl rfl rfl (by simp; omega) | exact wk_old (by assumption) (by simp) | exact wk_eq rfl (by first | exact Bd.int _ _ | exact Bd.bool _ | exact Bd.abool | exact Bd.nils | exact Bd.emp | exact Bd.nilp | exact Bd.nilfn | assumption | exact low_trees _ _ | exact low_treeD _ _ | exact low_ints _ _) | exact Nat.le_refl _ | exact wk_int (by simp) | exact wk_int (by omega) | exact Nat.succ_le_succ (Nat.zero_le _) | exact Nat.le_add_left _ _ | omega))
    exact wk_eq rfl (low_opes _ _)
  · rintro ⟨i, a, O, u⟩ ⟨hi, ha, hO, hr, hu⟩
    simp only at hi ha hO hr hu
    by_cases hlt : i < l.length
    · have f1 : (i : Int) < (l.length : Int) := by omega
      have f0 : (0 : Int) ≤ (i : Int) := by omega
      have w1 : IntKind.i64.wrap ((i : Int) + 1) = ((i + 1 : Nat) : Int) := by rw [IntWalk.i64_in _ (by omega)]; omega
      have w2 : IntKind.i64.wrap ((a : Int) + 1) = ((a + 1 : Nat) : Int) := by rw [IntWalk.i64_in _ (by omega)]; omega
      have e0 : nth (l.map opeD) i = .agg [.int .i64 l[i].k, .int .i64 l[i].p, .int .i64 l[i].x] := nth_mapF opeD l i hlt
      rw [List.drop_eq_getElem_cons hlt, runR] at hr
      have a0 : (0 : Int) ≤ (a : Int) := by omega
      have hCt := take_all (O.map (D.int .i64)) (k := O.length) (by simp)
      have hf8 : (O.length + 1) * 8 ≤ 140737488355328 := by omega
      split at hr
      · rename_i hc
        obtain ⟨hp, hk⟩ := hc
        generalize l[i] = o at *
        obtain ⟨k, p, x⟩ := o
        simp only at hp hk hr e0
        subst hp
        have na : ((a : Int) != (a : Int)) = false := by simp
        by_cases k1 : k = 1
        · subst k1
          have b1 : ((1 : Int) == 1) = true := rfl
          have n1 : ((1 : Int) != 1) = false := rfl
          have l1 : ¬ (1 : Int) < 0 := by decide
          have l2 : ¬ (1 : Int) > 3 := by decide
          rw [if_pos rfl, if_pos (.inl rfl)] at hr
          simp -implicitDefEqProofs only [↓symPre, symPost, y_condP, y_condG, run, lver, minD, intsD, eqAll, tupD, splice, Nat.zero_add, Nat.add_zero, Nat.zero_mul, Nat.mul_one, Nat.one_mul, Nat.reduceAdd, Nat.reduceSub, Nat.reduceMul, Nat.reduceLT, Nat.reduceLeDiff, Nat.reduceEqDiff, true_and, and_true, true_implies, if_true, if_false, ite_true, reduceIte, ne_eq, not_false_eq_true, reduceCtorEq, forall_const, bne_self_eq_false, Bool.true_eq_false, Bool.false_eq_true, false_implies, and_self, implies_true, Int.toNat_zero, beq_self_eq_true, decide_true, decide_false, Bool.not_true, Bool.not_false, ↓y_call, List.length_map, f1, f0, decide_true, Int.toNat_natCast, e0, na, b1, n1, l1, l2, srcOf, Nat.le_refl, hCt, hf8, w1]
          refine ⟨(i + 1, a, O ++ [x], u + 1), ⟨by simp only; omega, by simp only; omega, by simp; omega, hr, by simp only; omega⟩, by simp only; omega, ?_⟩
          simp only [List.map_append, List.map_cons, List.map_nil]
          refine le_to (List.replicate 49 .hole ++ [.old 49] ++ List.replicate 24 .hole) hl rfl ?_ ?_ <;> ((try simp only [y_blk_end, y_blk_hole, y_blk_nil, y_blk_old, y_wkl_end, y_wkl_top, List.replicate, List.cons_append, List.nil_append, and_true, true_and]) <;> (repeat' (first | apply And.intro | apply y_wkl | refine Exists.intro _ (And.intro rfl ?_))) <;> (try first | exact trivial | exact Wk.top _ | exact wk_int rfl | exact wk_bool rfl | exact wk_ptr rfl rfl rfl rfl | exact wk_ref rfl rfl rfl rfl rfl | exact wk_nil rfl rfl rfl | exact wk_ref rfl rfl rfl rfl (by simp) | exact wk_ref rfl rfl rfl rfl (by simp; omega) | exact wk_old (by assumption) (by simp) | exact wk_eq rfl (by first | exact Bd.int _ _ | exact Bd.bool _ | exact Bd.abool | exact Bd.nils | exact Bd.emp | exact Bd.nilp | exact Bd.nilfn | assumption | exact low_trees _ _ | exact low_treeD _ _ | exact low_ints _ _) | exact Nat.le_refl _ | exact wk_int (by simp) | exact wk_int (by omega) | exact Nat.succ_le_succ (Nat.zero_le _) | exact Nat.le_add_left _ _ | omega))
          · exact WkL.app (WkL.low (low_iD n O)) (y_wkl (wk_int rfl) trivial)
          · exact wk_eq rfl (low_opes _ _)
        · have hk' : (k = 0 ∨ k = 2 ∨ k = 3) ∧ a < w.length := hk.resolve_left k1
          obtain ⟨hk', haw⟩ := hk'
          have hge : ¬ (a : Int) ≥ (w.length : Int) := by omega
          have a1 : (a : Int) < (w.length : Int) := by omega
          have ew := nth_ints w a haw
          have hgw : w.getD a 0 = w[a] := by simp [List.getD, haw]
          rw [if_neg k1, hgw] at hr
          have nn : ¬ (l.length : Int) < 0 := by omega
          rcases hk' with rfl | rfl | rfl
          · have b1 : ((0 : Int) == 1) = false := rfl
            have b0 : ((0 : Int) == 0) = true := rfl
            have n1 : ((0 : Int) != 1) = true := rfl
            have l1 : ¬ (0 : Int) < 0 := by decide
            have l2 : ¬ (0 : Int) > 3 := by decide
            rw [if_neg (by decide), if_pos rfl] at hr
            simp -implicitDefEqProofs only [↓symPre, symPost, y_condP, y_condG, run, lver, minD, intsD, eqAll, tupD, splice, Nat.zero_add, Nat.add_zero, Nat.zero_mul, Nat.mul_one, Nat.one_mul, Nat.reduceAdd, Nat.reduceSub, Nat.reduceMul, Nat.reduceLT, Nat.reduceLeDiff, Nat.reduceEqDiff, true_and, and_true, true_implies, if_true, if_false, ite_true, reduceIte, ne_eq, not_false_eq_true, reduceCtorEq, forall_const, bne_self_eq_false, Bool.true_eq_false, Bool.false_eq_true, false_implies, and_self, implies_true, Int.toNat_zero, beq_self_eq_true, decide_true, decide_false, Bool.not_true, Bool.not_false, ↓y_call, List.length_map, f1, f0, decide_true, Int.toNat_natCast, e0, na, b1, b0, n1, l1, l2, hge, a0, a1, ew, srcOf, Nat.le_refl, hCt, hf8, w1, w2]
            refine ⟨(i + 1, a + 1, O ++ [w[a]], u + 1), ⟨by simp only; omega, by simp only; omega, by simp; omega, hr, by simp only; omega⟩, by simp only; omega, ?_⟩
            simp only [List.map_append, List.map_cons, List.map_nil]
            refine le_to (List.replicate 49 .hole ++ [.old 49] ++ List.replicate 24 .hole) hl rfl ?_ ?_ <;> ((try simp only [y_blk_end, y_blk_hole, y_blk_nil, y_blk_old, y_wkl_end, y_wkl_top, List.replicate, List.cons_append, List.nil_append, and_true, true_and]) <;> (repeat' (first | apply And.intro | apply y_wkl | refine Exists.intro _ (And.intro rfl ?_))) <;> (try first | exact trivial | exact Wk.top _ | exact wk_int rfl | exact wk_bool rfl | exact wk_ptr rfl rfl rfl rfl | exact wk_ref rfl rfl rfl rfl rfl | exact wk_nil rfl rfl rfl | exact wk_ref rfl rfl rfl rfl (by simp) | exact wk_ref rfl rfl rfl rfl (by simp; omega) | exact wk_old (by assumption) (by simp) | exact wk_eq rfl (by first | exact Bd.int _ _ | exact Bd.bool _ | exact Bd.abool | exact Bd.nils | exact Bd.emp | exact Bd.nilp | exact Bd.nilfn | assumption | exact low_trees _ _ | exact low_treeD _ _ | exact low_ints _ _) | exact Nat.le_refl _ | exact wk_int (by simp) | exact wk_int (by omega) | exact Nat.succ_le_succ (Nat.zero_le _) | exact Nat.le_add_left _ _ | omega))
            · exact WkL.app (WkL.low (low_iD n O)) (y_wkl (wk_int rfl) trivial)
            · exact wk_eq rfl (low_opes _ _)
          · have b1 : ((2 : Int) == 1) = false := rfl
            have b0 : ((2 : Int) == 0) = false := rfl
            have b3 : ((2 : Int) == 3) = false := rfl
            have n1 : ((2 : Int) != 1) = true := rfl
            have l1 : ¬ (2 : Int) < 0 := by decide
            have l2 : ¬ (2 : Int) > 3 := by decide
            rw [if_neg (by decide), if_neg (by decide)] at hr
            simp -implicitDefEqProofs only [↓symPre, symPost, y_condP, y_condG, run, lver, minD, intsD, eqAll, tupD, splice, Nat.zero_add, Nat.add_zero, Nat.zero_mul, Nat.mul_one, Nat.one_mul, Nat.reduceAdd, Nat.reduceSub, Nat.reduceMul, Nat.reduceLT, Nat.reduceLeDiff, Nat.reduceEqDiff, true_and, and_true, true_implies, if_true, if_false, ite_true, reduceIte, ne_eq, not_false_eq_true, reduceCtorEq, forall_const, bne_self_eq_false, Bool.true_eq_false, Bool.false_eq_true, false_implies, and_self, implies_true, Int.toNat_zero, beq_self_eq_true, decide_true, decide_false, Bool.not_true, Bool.not_false, ↓y_call, List.length_map, f1, f0, decide_true, Int.toNat_natCast, e0, na, b1, b0, b3, n1, l1, l2, hge, w1, w2]
            refine ⟨(i + 1, a + 1, O, u), ⟨by simp only; omega, by simp only; omega, by simp only; omega, hr, hu⟩, by simp only; omega, ?_⟩
            refine le_to (List.replicate 49 .hole ++ [.old 49] ++ List.replicate 24 .hole) hl rfl ?_ ?_ <;> ((try simp only [y_blk_end, y_blk_hole, y_blk_nil, y_blk_old, y_wkl_end, y_wkl_top, List.replicate, List.cons_append, List.nil_append, and_true, true_and]) <;> (repeat' (first | apply And.intro | apply y_wkl | refine Exists.intro _ (And.intro rfl ?_))) <;> (try first | exact trivial | exact Wk.top _ | exact wk_int rfl | exact wk_bool rfl | exact wk_ptr rfl rfl rfl rfl | exact wk_ref rfl rfl rfl rfl rfl | exact wk_nil rfl rfl rfl | exact wk_ref rfl rfl rfl rfl (by simp) | exact wk_ref rfl rfl rfl rfl (by simp; omega) | exact wk_old (by assumption) (by simp) | exact wk_eq rfl (by first | exact Bd.int _ _ | exact Bd.bool _ | exact Bd.abool | exact Bd.nils | exact Bd.emp | exact Bd.nilp | exact Bd.nilfn | assumption | exact low_trees _ _ | exact low_treeD _ _ | exact low_ints _ _) | exact Nat.le_refl _ | exact wk_int (by simp) | exact wk_int (by omega) | exact Nat.succ_le_succ (Nat.zero_le _) | exact Nat.le_add_left _ _ | omega))
            · exact WkL.low (low_iD n O)
            · exact wk_eq rfl (low_opes _ _)
          · have b1 : ((3 : Int) == 1) = false := rfl
            have b0 : ((3 : Int) == 0) = false := rfl
            have b3 : ((3 : Int) == 3) = true := rfl
            have n1 : ((3 : Int) != 1) = true := rfl
            have l1 : ¬ (3 : Int) < 0 := by decide
            have l2 : ¬ (3 : Int) > 3 := by decide
            rw [if_pos (.inr rfl)] at hr
            simp -implicitDefEqProofs only [↓symPre, symPost, y_condP, y_condG, run, lver, minD, intsD, eqAll, tupD, splice, Nat.zero_add, Nat.add_zero, Nat.zero_mul, Nat.mul_one, Nat.one_mul, Nat.reduceAdd, Nat.reduceSub, Nat.reduceMul, Nat.reduceLT, Nat.reduceLeDiff, Nat.reduceEqDiff, true_and, and_true, true_implies, if_true, if_false, ite_true, reduceIte, ne_eq, not_false_eq_true, reduceCtorEq, forall_const, bne_self_eq_false, Bool.true_eq_false, Bool.false_eq_true, false_implies, and_self, implies_true, Int.toNat_zero, beq_self_eq_true, decide_true, decide_false, Bool.not_true, Bool.not_false, ↓y_call, List.length_map, f1, f0, decide_true, Int.toNat_natCast, e0, na, b1, b0, b3, n1, l1, l2, hge, srcOf, Nat.le_refl, hCt, hf8, w1, w2]
            refine ⟨(i + 1, a + 1, O ++ [x], u + 1), ⟨by simp only; omega, by simp only; omega, by simp; omega, hr, by simp only; omega⟩, by simp only; omega, ?_⟩
            simp only [List.map_append, List.map_cons, List.map_nil]
            refine le_to (List.replicate 49 .hole ++ [.old 49] ++ List.replicate 24 .hole) hl rfl ?_ ?_ <;> ((try simp only [y_blk_end, y_blk_hole, y_blk_nil, y_blk_old, y_wkl_end, y_wkl_top, List.replicate, List.cons_append, List.nil_append, and_true, true_and]) <;> (repeat' (first | apply And.intro | apply y_wkl | refine Exists.intro _ (And.intro rfl ?_))) <;> (try first | exact trivial | exact Wk.top _ | exact wk_int rfl | exact wk_bool rfl | exact wk_ptr rfl rfl rfl rfl | exact wk_ref rfl rfl rfl rfl rfl | exact wk_nil rfl rfl rfl | exact wk_ref rfl rfl rfl rfl (by simp) | exact wk_ref rfl rfl rfl rfl (by simp; omega) | exact wk_old (by assumption) (by simp) | exact wk_eq rfl (by first | exact Bd.int _ _ | exact Bd.bool _ | exact Bd.abool | exact Bd.nils | exact Bd.emp | exact Bd.nilp | exact Bd.nilfn | assumption | exact low_trees _ _ | exact low_treeD _ _ | exact low_ints _ _) | exact Nat.le_refl _ | exact wk_int (by simp) | exact wk_int (by omega) | exact Nat.succ_le_succ (Nat.zero_le _) | exact Nat.le_add_left _ _ | omega))
            · exact WkL.app (WkL.low (low_iD n O)) (y_wkl (wk_int rfl) trivial)
            · exact wk_eq rfl (low_opes _ _)
      · rename_i hc
        subst hr
        generalize l[i] = o at *
        obtain ⟨k, p, x⟩ := o
        simp only at hc e0
        by_cases c1 : k < 0
        · simp -implicitDefEqProofs only [↓symPre, symPost, y_condP, y_condG, run, lver, minD, intsD, eqAll, tupD, splice, Nat.zero_add, Nat.add_zero, Nat.zero_mul, Nat.mul_one, Nat.one_mul, Nat.reduceAdd, Nat.reduceSub, Nat.reduceMul, Nat.reduceLT, Nat.reduceLeDiff, Nat.reduceEqDiff, true_and, and_true, true_implies, if_true, if_false, ite_true, reduceIte, ne_eq, not_false_eq_true, reduceCtorEq, forall_const, bne_self_eq_false, Bool.true_eq_false, Bool.false_eq_true, false_implies, and_self, implies_true, Int.toNat_zero, beq_self_eq_true, decide_true, decide_false, Bool.not_true, Bool.not_false, ↓y_call, List.length_map, f1, f0, decide_true, Int.toNat_natCast, e0, c1]
          exact fin_wk hl (wk_tup2 .nilsLst wk_i) ⟨rfl, rfl, rfl⟩
        by_cases c2 : k > 3
        · simp -implicitDefEqProofs only [↓symPre, symPost, y_condP, y_condG, run, lver, minD, intsD, eqAll, tupD, splice, Nat.zero_add, Nat.add_zero, Nat.zero_mul, Nat.mul_one, Nat.one_mul, Nat.reduceAdd, Nat.reduceSub, Nat.reduceMul, Nat.reduceLT, Nat.reduceLeDiff, Nat.reduceEqDiff, true_and, and_true, true_implies, if_true, if_false, ite_true, reduceIte, ne_eq, not_false_eq_true, reduceCtorEq, forall_const, bne_self_eq_false, Bool.true_eq_false, Bool.false_eq_true, false_implies, and_self, implies_true, Int.toNat_zero, beq_self_eq_true, decide_true, decide_false, Bool.not_true, Bool.not_false, ↓y_call, List.length_map, f1, f0, decide_true, Int.toNat_natCast, e0, c1, c2]
          exact fin_wk hl (wk_tup2 .nilsLst wk_i) ⟨rfl, rfl, rfl⟩
        by_cases c3 : p = (a : Int)
        · have b3 : (p != (a : Int)) = false := by simp [c3]
          have c4 : k ≠ 1 := fun e => hc ⟨c3, .inl e⟩
          have c5 : ¬ a < w.length := fun e => hc ⟨c3, .inr ⟨by omega, e⟩⟩
          have b4 : (k != 1) = true := by simp [c4]
          have b5 : (a : Int) ≥ (w.length : Int) := by omega
          simp -implicitDefEqProofs only [↓symPre, symPost, y_condP, y_condG, run, lver, minD, intsD, eqAll, tupD, splice, Nat.zero_add, Nat.add_zero, Nat.zero_mul, Nat.mul_one, Nat.one_mul, Nat.reduceAdd, Nat.reduceSub, Nat.reduceMul, Nat.reduceLT, Nat.reduceLeDiff, Nat.reduceEqDiff, true_and, and_true, true_implies, if_true, if_false, ite_true, reduceIte, ne_eq, not_false_eq_true, reduceCtorEq, forall_const, bne_self_eq_false, Bool.true_eq_false, Bool.false_eq_true, false_implies, and_self, implies_true, Int.toNat_zero, beq_self_eq_true, decide_true, decide_false, Bool.not_true, Bool.not_false, ↓y_call, List.length_map, f1, f0, decide_true, Int.toNat_natCast, e0, c1, c2, b3, b4, b5]
          exact fin_wk hl (wk_tup2 .nilsLst wk_i) ⟨rfl, rfl, rfl⟩
        · have b3 : (p != (a : Int)) = true := by simp [c3]
          simp -implicitDefEqProofs only [↓symPre, symPost, y_condP, y_condG, run, lver, minD, intsD, eqAll, tupD, splice, Nat.zero_add, Nat.add_zero, Nat.zero_mul, Nat.mul_one, Nat.one_mul, Nat.reduceAdd, Nat.reduceSub, Nat.reduceMul, Nat.reduceLT, Nat.reduceLeDiff, Nat.reduceEqDiff, true_and, and_true, true_implies, if_true, if_false, ite_true, reduceIte, ne_eq, not_false_eq_true, reduceCtorEq, forall_const, bne_self_eq_false, Bool.true_eq_false, Bool.false_eq_true, false_implies, and_self, implies_true, Int.toNat_zero, beq_self_eq_true, decide_true, decide_false, Bool.not_true, Bool.not_false, ↓y_call, List.length_map, f1, f0, decide_true, Int.toNat_natCast, e0, c1, c2, b3]
          exact fin_wk hl (wk_tup2 .nilsLst wk_i) ⟨rfl, rfl, rfl⟩
    · have f1 : ¬ (i : Int) < (l.length : Int) := by omega
      rw [List.drop_eq_nil_of_le (by omega), runR] at hr
      split at hr
      · rename_i haw
        subst haw
        subst hr
        simp -implicitDefEqProofs only [↓symPre, symPost, y_condP, y_condG, run, lver, minD, intsD, eqAll, tupD, splice, Nat.zero_add, Nat.add_zero, Nat.zero_mul, Nat.mul_one, Nat.one_mul, Nat.reduceAdd, Nat.reduceSub, Nat.reduceMul, Nat.reduceLT, Nat.reduceLeDiff, Nat.reduceEqDiff, true_and, and_true, true_implies, if_true, if_false, ite_true, reduceIte, ne_eq, not_false_eq_true, reduceCtorEq, forall_const, bne_self_eq_false, Bool.true_eq_false, Bool.false_eq_true, false_implies, and_self, implies_true, Int.toNat_zero, beq_self_eq_true, decide_true, decide_false, Bool.not_true, Bool.not_false, ↓y_call, List.length_map, f1, decide_false, bne_self_eq_false]
        exact fin_wk hl (wk_tup2 (wk_ints (t := 49) rfl rfl) wk_i) ⟨rfl, rfl, rfl⟩
      · rename_i haw
        subst hr
        have b0 : ((a : Int) != (w.length : Int)) = true := by simp; omega
        simp -implicitDefEqProofs only [↓symPre, symPost, y_condP, y_condG, run, lver, minD, intsD, eqAll, tupD, splice, Nat.zero_add, Nat.add_zero, Nat.zero_mul, Nat.mul_one, Nat.one_mul, Nat.reduceAdd, Nat.reduceSub, Nat.reduceMul, Nat.reduceLT, Nat.reduceLeDiff, Nat.reduceEqDiff, true_and, and_true, true_implies, if_true, if_false, ite_true, reduceIte, ne_eq, not_false_eq_true, reduceCtorEq, forall_const, bne_self_eq_false, Bool.true_eq_false, Bool.false_eq_true, false_implies, and_self, implies_true, Int.toNat_zero, beq_self_eq_true, decide_true, decide_false, Bool.not_true, Bool.not_false, ↓y_call, List.length_map, f1, decide_false, b0]
        exact fin_wk hl (wk_tup2 .nilsLst wk_i) ⟨rfl, rfl, rfl⟩


def perfR (w : List Int) : List Ope → Nat → List Int → List Int × Bool
  | [], i, out => (out, decide (i = w.length))
  | o :: l, i, out =>
    if o.p = i ∧ (o.k = 1 ∨ ((o.k = 0 ∨ o.k = 2 ∨ o.k = 3) ∧ i < w.length)) then
      perfR w l (if o.k = 1 then i else i + 1) (if o.k = 1 ∨ o.k = 3 then out ++ [o.x] else if o.k = 0 then out ++ [w.getD i 0] else out)
    else ([], false)
theorem perf_run (w : List Int) : ∀ (l : List Ope) (i : Nat) (out : List Int), runR w l i out = if (perfR w l i out).2 then some (perfR w l i out).1 else none
  | [], i, out => by
    rw [runR, perfR]; simp
  | o :: l, i, out => by
    rw [runR, perfR]
    split
    · exact perf_run w l _ _
    · simp

set_option maxHeartbeats 8000000 in
theorem pure_performed (w : List Int) (l : List Ope) (r : List Int × Bool) (hw : w.length < 2 ^ 60) (hlen : l.length < 2 ^ 43) (hrun : perfR w l 0 [] = r) : Pure prog F_parllaw4_performed [iD w, .lst (l.map opeD)] (.tup [iD r.1, .bool r.2]) := by
  intro n h
  refine K_parllaw4_performed.calls fun hl => ?_
  unfold C_parllaw4_performed
  simp -implicitDefEqProofs only [↓symPre, symPost, y_condP, y_condG, run, lver, minD, intsD, eqAll, tupD, splice, Nat.zero_add, Nat.add_zero, Nat.zero_mul, Nat.mul_one, Nat.one_mul, Nat.reduceAdd, Nat.reduceSub, Nat.reduceMul, Nat.reduceLT, Nat.reduceLeDiff, Nat.reduceEqDiff, true_and, and_true, true_implies, if_true, if_false, ite_true, reduceIte, ne_eq, not_false_eq_true, reduceCtorEq, forall_const, bne_self_eq_false, Bool.true_eq_false, Bool.false_eq_true, false_implies, and_self, implies_true, Int.toNat_zero, beq_self_eq_true, decide_true, decide_false, Bool.not_true, Bool.not_false, ↓y_call, List.length_map]
  refine aloop (fun p : Nat × Nat × List Int × Nat => St.mk n ([iD w, .top, .top, .top, .top, .top, .ref 1 (n + 66) p.2.2.2 0 p.2.2.1.length, iD (w.drop p.2.1), .top, .top, .top, .lst (l.map opeD), .int .i64 l.length, .int .i64 p.1] ++ List.replicate 63 .top) h
      (List.replicate 66 blk0 ++ [⟨p.2.2.2, .cells (p.2.2.1.map (.int .i64))⟩] ++ List.replicate 10 blk0)) (fun p => p.1 ≤ l.length ∧ p.2.1 ≤ w.length ∧ p.2.1 ≤ p.1 ∧ p.2.2.1.length ≤ p.1 ∧ perfR w (l.drop p.1) p.2.1 p.2.2.1 = r ∧ 1 ≤ p.2.2.2) (fun p => l.length - p.1) (0, 0, [], 1) ⟨Nat.zero_le _, Nat.zero_le _, Nat.le_refl _, Nat.le_refl _, hrun, Nat.le_refl _⟩ ?_ ?_
  · refine le_to (List.replicate 66 .hole ++ [.nil] ++ List.replicate 10 .hole) hl rfl ?_ ?_ <;> ((try simp only [y_blk_end, y_blk_hole, y_blk_nil, y_blk_old, y_wkl_end, y_wkl_top, List.replicate, List.cons_append, List.nil_append, and_true, true_and]) <;> (repeat' (first | apply And.intro | apply y_wkl | refine Exists.intro _ (And.intro rfl ?_))) <;> (try first | exact trivial | exact Wk.top _ | exact wk_int rfl | exact wk_bool rfl | exact wk_ptr rfl rfl rfl rfl | exact wk_ref rfl rfl rfl rfl rfl | exact wk_nil rfl rfl rfl | exact wk_ref rfl rfl rfl rfl (by simp) | exact wk_ref rfl rfl rfl rfl (by simp; omega) | exact wk_old (by assumption) (by simp) | exact wk_eq rfl (by first | exact Bd.int _ _ | exact Bd.bool _ | exact Bd.abool | exact Bd.nils | exact Bd.emp | exact Bd.nilp | exact Bd.nilfn | assumption | exact low_trees _ _ | exact low_treeD _ _ | exact low_ints _ _) | exact Nat.le_refl _ | exact wk_int (by simp) | exact wk_int (by omega) | exact Nat.succ_le_succ (Nat.zero_le _) | exact Nat.le_add_left _ _ | omega))
    exact wk_eq rfl (low_opes _ _)
  · rintro ⟨i, a, O, u⟩ ⟨hi, haw0, ha, hO, hr, hu⟩
    simp only at hi haw0 ha hO hr hu
    by_cases hlt : i < l.length
    · have f1 : (i : Int) < (l.length : Int) := by omega
      have f0 : (0 : Int) ≤ (i : Int) := by omega
      have w1 : IntKind.i64.wrap ((i : Int) + 1) = ((i + 1 : Nat) : Int) := by rw [IntWalk.i64_in _ (by omega)]; omega
      have w2 : IntKind.i64.wrap ((a : Int) + 1) = ((a + 1 : Nat) : Int) := by rw [IntWalk.i64_in _ (by omega)]; omega
      have e0 : nth (l.map opeD) i = .agg [.int .i64 l[i].k, .int .i64 l[i].p, .int .i64 l[i].x] := nth_mapF opeD l i hlt
      rw [List.drop_eq_getElem_cons hlt, perfR] at hr
      have a0 : (0 : Int) ≤ (a : Int) := by omega
      have lr : (w.drop a).length = w.length - a := List.length_drop
      have ws : a ≤ w.length → IntKind.i64.wrap ((w.length : Int) - ((w.length - a : Nat) : Int)) = (a : Int) := fun h => by rw [IntWalk.i64_in _ (by omega)]; omega
      have hCt := take_all (O.map (D.int .i64)) (k := O.length) (by simp)
      have hf8 : (O.length + 1) * 8 ≤ 140737488355328 := by omega
      split at hr
      · rename_i hc
        obtain ⟨hp, hk⟩ := hc
        generalize l[i] = o at *
        obtain ⟨k, p, x⟩ := o
        simp only at hp hk hr e0
        subst hp
        have na : ((a : Int) != (a : Int)) = false := by simp
        have ws := ws haw0
        by_cases k1 : k = 1
        · subst k1
          have b1 : ((1 : Int) == 1) = true := rfl
          have n1 : ((1 : Int) != 1) = false := rfl
          have b10 : ((1 : Int) == 0) = false := rfl
          have l1 : ¬ (1 : Int) < 0 := by decide
          have l2 : ¬ (1 : Int) > 3 := by decide
          rw [if_pos rfl, if_pos (.inl rfl)] at hr
          simp -implicitDefEqProofs only [↓symPre, symPost, y_condP, y_condG, run, lver, minD, intsD, eqAll, tupD, splice, Nat.zero_add, Nat.add_zero, Nat.zero_mul, Nat.mul_one, Nat.one_mul, Nat.reduceAdd, Nat.reduceSub, Nat.reduceMul, Nat.reduceLT, Nat.reduceLeDiff, Nat.reduceEqDiff, true_and, and_true, true_implies, if_true, if_false, ite_true, reduceIte, ne_eq, not_false_eq_true, reduceCtorEq, forall_const, bne_self_eq_false, Bool.true_eq_false, Bool.false_eq_true, false_implies, and_self, implies_true, Int.toNat_zero, beq_self_eq_true, decide_true, decide_false, Bool.not_true, Bool.not_false, ↓y_call, List.length_map, lr, f1, f0, decide_true, Int.toNat_natCast, e0, ws, na, b1, b10, n1, l1, l2, srcOf, Nat.le_refl, hCt, hf8, w1]
          refine ⟨(i + 1, a, O ++ [x], u + 1), ⟨by simp only; omega, by simp only; omega, by simp only; omega, by simp; omega, hr, by simp only; omega⟩, by simp only; omega, ?_⟩
          simp only [List.map_append, List.map_cons, List.map_nil]
          refine le_to (List.replicate 66 .hole ++ [.old 66] ++ List.replicate 10 .hole) hl rfl ?_ ?_ <;> ((try simp only [y_blk_end, y_blk_hole, y_blk_nil, y_blk_old, y_wkl_end, y_wkl_top, List.replicate, List.cons_append, List.nil_append, and_true, true_and]) <;> (repeat' (first | apply And.intro | apply y_wkl | refine Exists.intro _ (And.intro rfl ?_))) <;> (try first | exact trivial | exact Wk.top _ | exact wk_int rfl | exact wk_bool rfl | exact wk_ptr rfl rfl rfl rfl | exact wk_ref rfl rfl rfl rfl rfl | exact wk_nil rfl rfl rfl | exact wk_ref rfl rfl rfl rfl (by simp) | exact wk_ref rfl rfl rfl rfl (by simp; omega) | exact wk_old (by assumption) (by simp) | exact wk_eq rfl (by first | exact Bd.int _ _ | exact Bd.bool _ | exact Bd.abool | exact Bd.nils | exact Bd.emp | exact Bd.nilp | exact Bd.nilfn | assumption | exact low_trees _ _ | exact low_treeD _ _ | exact low_ints _ _) | exact Nat.le_refl _ | exact wk_int (by simp) | exact wk_int (by omega) | exact Nat.succ_le_succ (Nat.zero_le _) | exact Nat.le_add_left _ _ | omega))
          · exact WkL.app (WkL.low (low_iD n O)) (y_wkl (wk_int rfl) trivial)
          · exact wk_eq rfl (low_opes _ _)
        · have hk' : (k = 0 ∨ k = 2 ∨ k = 3) ∧ a < w.length := hk.resolve_left k1
          obtain ⟨hk', haw⟩ := hk'
          have hge : (((w.length - a : Nat) : Int) == 0) = false := by simp; omega
          have a1 : (0 : Int) < ((w.length - a : Nat) : Int) := by omega
          have one_le : (1 : Int) ≤ ((w.length - a : Nat) : Int) := by omega
          have t1 : (1 : Int).toNat = 1 := rfl
          have k01 : (0 : Int) ≤ 1 := by decide
          have hc1 : (∀ d ∈ (w.drop a).map (D.int .i64), d.cells.length = 1) = True := eq_true (fun d hd => by obtain ⟨y, _, rfl⟩ := List.mem_map.1 hd; rfl)
          have ew : nth ((w.drop a).map (D.int .i64)) 0 = .int .i64 w[a] := by rw [List.drop_eq_getElem_cons haw]; rfl
          have hdr : (((w.drop a).map (D.int .i64)).drop 1).take (w.length - a - 1) = (w.drop (a + 1)).map (D.int .i64) := by
            rw [List.drop_eq_getElem_cons haw]
            simp only [List.map_cons, List.drop_succ_cons, List.drop_zero]
            exact List.take_of_length_le (by simp; omega)
          have hgw : w.getD a 0 = w[a] := by simp [List.getD, haw]
          rw [if_neg k1, hgw] at hr
          have nn : ¬ (l.length : Int) < 0 := by omega
          rcases hk' with rfl | rfl | rfl
          · have b1 : ((0 : Int) == 1) = false := rfl
            have b0 : ((0 : Int) == 0) = true := rfl
            have b3 : ((0 : Int) == 3) = false := rfl
            have n1 : ((0 : Int) != 1) = true := rfl
            have l1 : ¬ (0 : Int) < 0 := by decide
            have l2 : ¬ (0 : Int) > 3 := by decide
            rw [if_neg (by decide), if_pos rfl] at hr
            simp -implicitDefEqProofs only [↓symPre, symPost, y_condP, y_condG, run, lver, minD, intsD, eqAll, tupD, splice, Nat.zero_add, Nat.add_zero, Nat.zero_mul, Nat.mul_one, Nat.one_mul, Nat.reduceAdd, Nat.reduceSub, Nat.reduceMul, Nat.reduceLT, Nat.reduceLeDiff, Nat.reduceEqDiff, true_and, and_true, true_implies, if_true, if_false, ite_true, reduceIte, ne_eq, not_false_eq_true, reduceCtorEq, forall_const, bne_self_eq_false, Bool.true_eq_false, Bool.false_eq_true, false_implies, and_self, implies_true, Int.toNat_zero, beq_self_eq_true, decide_true, decide_false, Bool.not_true, Bool.not_false, ↓y_call, List.length_map, lr, f1, f0, decide_true, Int.toNat_natCast, e0, ws, na, b1, b0, b3, n1, l1, l2, hge, a1, ew, srcOf, Nat.le_refl, hCt, hf8, w1, hdr, one_le, t1, Int.le_refl, hc1, k01, one_le]
            refine ⟨(i + 1, a + 1, O ++ [w[a]], u + 1), ⟨by simp only; omega, by simp only; omega, by simp only; omega, by simp; omega, hr, by simp only; omega⟩, by simp only; omega, ?_⟩
            simp only [List.map_append, List.map_cons, List.map_nil]
            refine le_to (List.replicate 66 .hole ++ [.old 66] ++ List.replicate 10 .hole) hl rfl ?_ ?_ <;> ((try simp only [y_blk_end, y_blk_hole, y_blk_nil, y_blk_old, y_wkl_end, y_wkl_top, List.replicate, List.cons_append, List.nil_append, and_true, true_and]) <;> (repeat' (first | apply And.intro | apply y_wkl | refine Exists.intro _ (And.intro rfl ?_))) <;> (try first | exact trivial | exact Wk.top _ | exact wk_int rfl | exact wk_bool rfl | exact wk_ptr rfl rfl rfl rfl | exact wk_ref rfl rfl rfl rfl rfl | exact wk_nil rfl rfl rfl | exact wk_ref rfl rfl rfl rfl (by simp) | exact wk_ref rfl rfl rfl rfl (by simp; omega) | exact wk_old (by assumption) (by simp) | exact wk_eq rfl (by first | exact Bd.int _ _ | exact Bd.bool _ | exact Bd.abool | exact Bd.nils | exact Bd.emp | exact Bd.nilp | exact Bd.nilfn | assumption | exact low_trees _ _ | exact low_treeD _ _ | exact low_ints _ _) | exact Nat.le_refl _ | exact wk_int (by simp) | exact wk_int (by omega) | exact Nat.succ_le_succ (Nat.zero_le _) | exact Nat.le_add_left _ _ | omega))
            · exact WkL.app (WkL.low (low_iD n O)) (y_wkl (wk_int rfl) trivial)
            · exact wk_eq rfl (low_opes _ _)
          · have b1 : ((2 : Int) == 1) = false := rfl
            have b0 : ((2 : Int) == 0) = false := rfl
            have b3 : ((2 : Int) == 3) = false := rfl
            have n1 : ((2 : Int) != 1) = true := rfl
            have l1 : ¬ (2 : Int) < 0 := by decide
            have l2 : ¬ (2 : Int) > 3 := by decide
            rw [if_neg (by decide), if_neg (by decide)] at hr
            simp -implicitDefEqProofs only [↓symPre, symPost, y_condP, y_condG, run, lver, minD, intsD, eqAll, tupD, splice, Nat.zero_add, Nat.add_zero, Nat.zero_mul, Nat.mul_one, Nat.one_mul, Nat.reduceAdd, Nat.reduceSub, Nat.reduceMul, Nat.reduceLT, Nat.reduceLeDiff, Nat.reduceEqDiff, true_and, and_true, true_implies, if_true, if_false, ite_true, reduceIte, ne_eq, not_false_eq_true, reduceCtorEq, forall_const, bne_self_eq_false, Bool.true_eq_false, Bool.false_eq_true, false_implies, and_self, implies_true, Int.toNat_zero, beq_self_eq_true, decide_true, decide_false, Bool.not_true, Bool.not_false, ↓y_call, List.length_map, lr, f1, f0, decide_true, Int.toNat_natCast, e0, ws, na, b1, b0, b3, n1, l1, l2, hge, w1, hdr, one_le, t1, Int.le_refl, hc1, k01, one_le]
            refine ⟨(i + 1, a + 1, O, u), ⟨by simp only; omega, by simp only; omega, by simp only; omega, by simp only; omega, hr, hu⟩, by simp only; omega, ?_⟩
            refine le_to (List.replicate 66 .hole ++ [.old 66] ++ List.replicate 10 .hole) hl rfl ?_ ?_ <;> ((try simp only [y_blk_end, y_blk_hole, y_blk_nil, y_blk_old, y_wkl_end, y_wkl_top, List.replicate, List.cons_append, List.nil_append, and_true, true_and]) <;> (repeat' (first | apply And.intro | apply y_wkl | refine Exists.intro _ (And.intro rfl ?_))) <;> (try first | exact trivial | exact Wk.top _ | exact wk_int rfl | exact wk_bool rfl | exact wk_ptr rfl rfl rfl rfl | exact wk_ref rfl rfl rfl rfl rfl | exact wk_nil rfl rfl rfl | exact wk_ref rfl rfl rfl rfl (by simp) | exact wk_ref rfl rfl rfl rfl (by simp; omega) | exact wk_old (by assumption) (by simp) | exact wk_eq rfl (by first | exact Bd.int _ _ | exact Bd.bool _ | exact Bd.abool | exact Bd.nils | exact Bd.emp | exact Bd.nilp | exact Bd.nilfn | assumption | exact low_trees _ _ | exact low_treeD _ _ | exact low_ints _ _) | exact Nat.le_refl _ | exact wk_int (by simp) | exact wk_int (by omega) | exact Nat.succ_le_succ (Nat.zero_le _) | exact Nat.le_add_left _ _ | omega))
            · exact WkL.low (low_iD n O)
            · exact wk_eq rfl (low_opes _ _)
          · have b1 : ((3 : Int) == 1) = false := rfl
            have b0 : ((3 : Int) == 0) = false := rfl
            have b3 : ((3 : Int) == 3) = true := rfl
            have n1 : ((3 : Int) != 1) = true := rfl
            have l1 : ¬ (3 : Int) < 0 := by decide
            have l2 : ¬ (3 : Int) > 3 := by decide
            rw [if_pos (.inr rfl)] at hr
            simp -implicitDefEqProofs only [↓symPre, symPost, y_condP, y_condG, run, lver, minD, intsD, eqAll, tupD, splice, Nat.zero_add, Nat.add_zero, Nat.zero_mul, Nat.mul_one, Nat.one_mul, Nat.reduceAdd, Nat.reduceSub, Nat.reduceMul, Nat.reduceLT, Nat.reduceLeDiff, Nat.reduceEqDiff, true_and, and_true, true_implies, if_true, if_false, ite_true, reduceIte, ne_eq, not_false_eq_true, reduceCtorEq, forall_const, bne_self_eq_false, Bool.true_eq_false, Bool.false_eq_true, false_implies, and_self, implies_true, Int.toNat_zero, beq_self_eq_true, decide_true, decide_false, Bool.not_true, Bool.not_false, ↓y_call, List.length_map, lr, f1, f0, decide_true, Int.toNat_natCast, e0, ws, na, b1, b0, b3, n1, l1, l2, hge, srcOf, Nat.le_refl, hCt, hf8, w1, hdr, one_le, t1, Int.le_refl, hc1, k01, one_le]
            refine ⟨(i + 1, a + 1, O ++ [x], u + 1), ⟨by simp only; omega, by simp only; omega, by simp only; omega, by simp; omega, hr, by simp only; omega⟩, by simp only; omega, ?_⟩
            simp only [List.map_append, List.map_cons, List.map_nil]
            refine le_to (List.replicate 66 .hole ++ [.old 66] ++ List.replicate 10 .hole) hl rfl ?_ ?_ <;> ((try simp only [y_blk_end, y_blk_hole, y_blk_nil, y_blk_old, y_wkl_end, y_wkl_top, List.replicate, List.cons_append, List.nil_append, and_true, true_and]) <;> (repeat' (first | apply And.intro | apply y_wkl | refine Exists.intro _ (And.intro rfl ?_))) <;> (try first | exact trivial | exact Wk.top _ | exact wk_int rfl | exact wk_bool rfl | exact wk_ptr rfl rfl rfl rfl | exact wk_ref rfl rfl rfl rfl rfl | exact wk_nil rfl rfl rfl | exact wk_ref rfl rfl rfl rfl (by simp) | exact wk_ref rfl rfl rfl rfl (by simp; omega) | exact wk_old (by assumption) (by simp) | exact wk_eq rfl (by first | exact Bd.int _ _ | exact Bd.bool _ | exact Bd.abool | exact Bd.nils | exact Bd.emp | exact Bd.nilp | exact Bd.nilfn | assumption | exact low_trees _ _ | exact low_treeD _ _ | exact low_ints _ _) | exact Nat.le_refl _ | exact wk_int (by simp) | exact wk_int (by omega) | exact Nat.succ_le_succ (Nat.zero_le _) | exact Nat.le_add_left _ _ | omega))
            · exact WkL.app (WkL.low (low_iD n O)) (y_wkl (wk_int rfl) trivial)
            · exact wk_eq rfl (low_opes _ _)
      · rename_i hc
        subst hr
        generalize l[i] = o at *
        obtain ⟨k, p, x⟩ := o
        simp only at hc e0
        by_cases c1 : k < 0
        · simp -implicitDefEqProofs only [↓symPre, symPost, y_condP, y_condG, run, lver, minD, intsD, eqAll, tupD, splice, Nat.zero_add, Nat.add_zero, Nat.zero_mul, Nat.mul_one, Nat.one_mul, Nat.reduceAdd, Nat.reduceSub, Nat.reduceMul, Nat.reduceLT, Nat.reduceLeDiff, Nat.reduceEqDiff, true_and, and_true, true_implies, if_true, if_false, ite_true, reduceIte, ne_eq, not_false_eq_true, reduceCtorEq, forall_const, bne_self_eq_false, Bool.true_eq_false, Bool.false_eq_true, false_implies, and_self, implies_true, Int.toNat_zero, beq_self_eq_true, decide_true, decide_false, Bool.not_true, Bool.not_false, ↓y_call, List.length_map, lr, f1, f0, decide_true, Int.toNat_natCast, e0, c1]
          exact fin_wk hl (wk_tup2 .nilsLst (.low _ (.bool _))) ⟨rfl, rfl, rfl⟩
        by_cases c2 : k > 3
        · simp -implicitDefEqProofs only [↓symPre, symPost, y_condP, y_condG, run, lver, minD, intsD, eqAll, tupD, splice, Nat.zero_add, Nat.add_zero, Nat.zero_mul, Nat.mul_one, Nat.one_mul, Nat.reduceAdd, Nat.reduceSub, Nat.reduceMul, Nat.reduceLT, Nat.reduceLeDiff, Nat.reduceEqDiff, true_and, and_true, true_implies, if_true, if_false, ite_true, reduceIte, ne_eq, not_false_eq_true, reduceCtorEq, forall_const, bne_self_eq_false, Bool.true_eq_false, Bool.false_eq_true, false_implies, and_self, implies_true, Int.toNat_zero, beq_self_eq_true, decide_true, decide_false, Bool.not_true, Bool.not_false, ↓y_call, List.length_map, lr, f1, f0, decide_true, Int.toNat_natCast, e0, c1, c2]
          exact fin_wk hl (wk_tup2 .nilsLst (.low _ (.bool _))) ⟨rfl, rfl, rfl⟩
        by_cases c3 : p = (a : Int)
        · have b3 : (p != (a : Int)) = false := by simp [c3]
          have ws := ws haw0
          have c4 : k ≠ 1 := fun e => hc ⟨c3, .inl e⟩
          have c5 : ¬ a < w.length := fun e => hc ⟨c3, .inr ⟨by omega, e⟩⟩
          have b4 : (k != 1) = true := by simp [c4]
          have b5 : (((w.length - a : Nat) : Int) == 0) = true := by simp; omega
          simp -implicitDefEqProofs only [↓symPre, symPost, y_condP, y_condG, run, lver, minD, intsD, eqAll, tupD, splice, Nat.zero_add, Nat.add_zero, Nat.zero_mul, Nat.mul_one, Nat.one_mul, Nat.reduceAdd, Nat.reduceSub, Nat.reduceMul, Nat.reduceLT, Nat.reduceLeDiff, Nat.reduceEqDiff, true_and, and_true, true_implies, if_true, if_false, ite_true, reduceIte, ne_eq, not_false_eq_true, reduceCtorEq, forall_const, bne_self_eq_false, Bool.true_eq_false, Bool.false_eq_true, false_implies, and_self, implies_true, Int.toNat_zero, beq_self_eq_true, decide_true, decide_false, Bool.not_true, Bool.not_false, ↓y_call, List.length_map, lr, f1, f0, decide_true, Int.toNat_natCast, e0, c1, c2, ws, b3, b4, b5]
          exact fin_wk hl (wk_tup2 .nilsLst (.low _ (.bool _))) ⟨rfl, rfl, rfl⟩
        · have b3 : (p != (a : Int)) = true := by simp [c3]
          have ws := ws haw0
          simp -implicitDefEqProofs only [↓symPre, symPost, y_condP, y_condG, run, lver, minD, intsD, eqAll, tupD, splice, Nat.zero_add, Nat.add_zero, Nat.zero_mul, Nat.mul_one, Nat.one_mul, Nat.reduceAdd, Nat.reduceSub, Nat.reduceMul, Nat.reduceLT, Nat.reduceLeDiff, Nat.reduceEqDiff, true_and, and_true, true_implies, if_true, if_false, ite_true, reduceIte, ne_eq, not_false_eq_true, reduceCtorEq, forall_const, bne_self_eq_false, Bool.true_eq_false, Bool.false_eq_true, false_implies, and_self, implies_true, Int.toNat_zero, beq_self_eq_true, decide_true, decide_false, Bool.not_true, Bool.not_false, ↓y_call, List.length_map, lr, f1, f0, decide_true, Int.toNat_natCast, e0, c1, c2, ws, b3]
          exact fin_wk hl (wk_tup2 .nilsLst (.low _ (.bool _))) ⟨rfl, rfl, rfl⟩
    · have f1 : ¬ (i : Int) < (l.length : Int) := by omega
      rw [List.drop_eq_nil_of_le (by omega), perfR] at hr
      subst hr
      have lr : (w.drop a).length = w.length - a := List.length_drop
      have be : (((w.length - a : Nat) : Int) == 0) = decide (a = w.length) := by
        by_cases c : a = w.length
        · rw [decide_eq_true c]; simp; omega
        · rw [decide_eq_false c]; simp; omega
      simp -implicitDefEqProofs only [↓symPre, symPost, y_condP, y_condG, run, lver, minD, intsD, eqAll, tupD, splice, Nat.zero_add, Nat.add_zero, Nat.zero_mul, Nat.mul_one, Nat.one_mul, Nat.reduceAdd, Nat.reduceSub, Nat.reduceMul, Nat.reduceLT, Nat.reduceLeDiff, Nat.reduceEqDiff, true_and, and_true, true_implies, if_true, if_false, ite_true, reduceIte, ne_eq, not_false_eq_true, reduceCtorEq, forall_const, bne_self_eq_false, Bool.true_eq_false, Bool.false_eq_true, false_implies, and_self, implies_true, Int.toNat_zero, beq_self_eq_true, decide_true, decide_false, Bool.not_true, Bool.not_false, ↓y_call, List.length_map, lr, f1, decide_false, be]
      exact fin_wk hl (wk_tup2 (wk_ints (t := 66) rfl rfl) (.low _ (.bool _))) ⟨rfl, rfl, rfl⟩

end Abs
end Go.Proofs.Ytfojedaccfenfaa

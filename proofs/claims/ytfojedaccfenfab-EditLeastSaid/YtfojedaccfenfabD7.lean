/- Numbers made of raw ones: Below, Word, a reader's next. -/
import Derived.Test.YtfojedaccfenfabD6
namespace Go.Proofs.Ytfojedaccfenfab
namespace Abs
set_option linter.unusedVariables false
set_option linter.unusedSimpArgs false
set_option maxRecDepth 20000

def belowI (x n : Int) : Int := if x.tmod n < 0 then x.tmod n + n else x.tmod n

theorem tmod_range (x n : Int) (h : 0 < n) : -n < x.tmod n ∧ x.tmod n < n := by
  rcases Int.lt_or_le x 0 with hx | hx
  · have h1 := Int.tmod_lt_of_pos (-x) h
    have h2 : (0 : Int) ≤ (-x).tmod n := Int.tmod_nonneg n (by omega)
    rw [Int.neg_tmod] at h1 h2
    omega
  · have h1 := Int.tmod_lt_of_pos x h
    have h2 := Int.tmod_nonneg n hx
    omega

theorem below_range (x n : Int) (h : 0 < n) : 0 ≤ belowI x n ∧ belowI x n < n := by
  have := tmod_range x n h
  unfold belowI
  split <;> omega

theorem pure_Below (x m : Int) (h0 : 0 < m) (h1 : m < 2 ^ 62) : Pure prog F_parlmake_Below [.int .i64 x, .int .i64 m] (.int .i64 (belowI x m)) := by
  intro n h
  refine K_parlmake_Below.calls fun hl => ?_
  unfold C_parlmake_Below
  have hne : ¬ m = 0 := by omega
  have hr := tmod_range x m h0
  by_cases h2 : x.tmod m < 0
  · have w1 : IntKind.i64.wrap (x.tmod m + m) = x.tmod m + m := IntWalk.i64_in _ (by omega)
    simp -implicitDefEqProofs only [↓symPre, symPost, y_condP, y_condG, run, lver, minD, intsD, eqAll, tupD, splice, Nat.zero_add, Nat.add_zero, Nat.zero_mul, Nat.mul_one, Nat.one_mul, Nat.reduceAdd, Nat.reduceSub, Nat.reduceMul, Nat.reduceLT, Nat.reduceLeDiff, Nat.reduceEqDiff, true_and, and_true, true_implies, if_true, if_false, ite_true, reduceIte, ne_eq, not_false_eq_true, reduceCtorEq, forall_const, bne_self_eq_false, Bool.true_eq_false, Bool.false_eq_true, false_implies, and_self, implies_true, Int.toNat_zero, beq_self_eq_true, decide_true, decide_false, Bool.not_true, Bool.not_false, ↓y_call, hne, h2, w1]
    exact fin_int hl (by rw [belowI, if_pos h2])
  · simp -implicitDefEqProofs only [↓symPre, symPost, y_condP, y_condG, run, lver, minD, intsD, eqAll, tupD, splice, Nat.zero_add, Nat.add_zero, Nat.zero_mul, Nat.mul_one, Nat.one_mul, Nat.reduceAdd, Nat.reduceSub, Nat.reduceMul, Nat.reduceLT, Nat.reduceLeDiff, Nat.reduceEqDiff, true_and, and_true, true_implies, if_true, if_false, ite_true, reduceIte, ne_eq, not_false_eq_true, reduceCtorEq, forall_const, bne_self_eq_false, Bool.true_eq_false, Bool.false_eq_true, false_implies, and_self, implies_true, Int.toNat_zero, beq_self_eq_true, decide_true, decide_false, Bool.not_true, Bool.not_false, ↓y_call, hne, h2]
    exact fin_int hl (by rw [belowI, if_neg h2])

def wordM (terms : Int) (most : Nat) (l : List Int) : List Int := (l.take most).map fun x => belowI x terms

theorem pure_MWord (terms : Int) (most : Nat) (l : List Int) (h0 : 0 < terms) (h1 : terms < 2 ^ 62) (hm : most < 2 ^ 30) (hlen : l.length < 2 ^ 60) : Pure prog F_parlmake_Word [.int .i64 terms, .int .i64 most, iD l] (iD (wordM terms most l)) := by
  intro n h
  refine K_parlmake_Word.calls fun hl => ?_
  unfold C_parlmake_Word
  simp -implicitDefEqProofs only [↓symPre, symPost, y_condP, y_condG, run, lver, minD, intsD, eqAll, tupD, splice, Nat.zero_add, Nat.add_zero, Nat.zero_mul, Nat.mul_one, Nat.one_mul, Nat.reduceAdd, Nat.reduceSub, Nat.reduceMul, Nat.reduceLT, Nat.reduceLeDiff, Nat.reduceEqDiff, true_and, and_true, true_implies, if_true, if_false, ite_true, reduceIte, ne_eq, not_false_eq_true, reduceCtorEq, forall_const, bne_self_eq_false, Bool.true_eq_false, Bool.false_eq_true, false_implies, and_self, implies_true, Int.toNat_zero, beq_self_eq_true, decide_true, decide_false, Bool.not_true, Bool.not_false, ↓y_call, List.length_map]
  refine aloop (fun p : Nat × Nat => St.mk n ([.int .i64 terms, .int .i64 most, iD l, .top, .top, .top, .top, .ref 1 (n + 25) p.2 0 p.1, .top, .top, iD l, .int .i64 l.length, .int .i64 p.1] ++ List.replicate 15 .top) h
      (List.replicate 25 blk0 ++ [⟨p.2, .cells ((wordM terms p.1 l).map (.int .i64))⟩] ++ List.replicate 2 blk0)) (fun p => p.1 ≤ l.length ∧ p.1 ≤ most ∧ 1 ≤ p.2) (fun p => l.length - p.1) (0, 1) ⟨Nat.zero_le _, Nat.zero_le _, Nat.le_refl _⟩ ?_ ?_
  · refine le_to (List.replicate 25 .hole ++ [.nil] ++ List.replicate 2 .hole) hl rfl ?_ ?_ <;> ((try simp only [y_blk_end, y_blk_hole, y_blk_nil, y_blk_old, y_wkl_end, y_wkl_top, List.replicate, List.cons_append, List.nil_append, and_true, true_and]) <;> (repeat' (first | apply And.intro | apply y_wkl | refine Exists.intro _ (And.intro rfl ?_))) <;> (try first | exact trivial | exact Wk.top _ | exact wk_int rfl | exact wk_bool rfl | exact wk_ptr rfl rfl rfl rfl | exact wk_ref rfl rfl rfl rfl rfl | exact wk_nil rfl rfl rfl | exact wk_ref rfl rfl rfl rfl (by simp) | exact wk_ref rfl rfl rfl rfl (by simp; omega) | exact wk_old (by assumption) (by simp) | exact wk_eq rfl (by first | exact Bd.int _ _ | exact Bd.bool _ | exact Bd.abool | exact Bd.nils | exact Bd.emp | exact Bd.nilp | exact Bd.nilfn | assumption | exact low_trees _ _ | exact low_treeD _ _ | exact low_ints _ _) | exact Nat.le_refl _ | exact wk_int (by simp) | exact wk_int (by omega) | exact Nat.succ_le_succ (Nat.zero_le _) | exact Nat.le_add_left _ _ | omega))
  · rintro ⟨i, v⟩ ⟨hi, him, hv⟩
    simp only at hi him hv
    have done : i = l.length ∨ i = most → wordM terms most l = wordM terms i l := fun hh => by
      unfold wordM
      rcases hh with rfl | rfl
      · rw [List.take_of_length_le him, List.take_of_length_le (Nat.le_refl _)]
      · rfl
    have hAl : (wordM terms i l).length = i := by simp [wordM]; omega
    by_cases hlt : i < l.length
    · have h2 : (i : Int) < (l.length : Int) := by omega
      have h3 : (0 : Int) ≤ (i : Int) := by omega
      have e0 := nth_ints l i hlt
      by_cases hme : i = most
      · have hb : ((i : Int) == (most : Int)) = true := by simp [hme]
        have hd := done (.inr hme)
        simp -implicitDefEqProofs only [↓symPre, symPost, y_condP, y_condG, run, lver, minD, intsD, eqAll, tupD, splice, Nat.zero_add, Nat.add_zero, Nat.zero_mul, Nat.mul_one, Nat.one_mul, Nat.reduceAdd, Nat.reduceSub, Nat.reduceMul, Nat.reduceLT, Nat.reduceLeDiff, Nat.reduceEqDiff, true_and, and_true, true_implies, if_true, if_false, ite_true, reduceIte, ne_eq, not_false_eq_true, reduceCtorEq, forall_const, bne_self_eq_false, Bool.true_eq_false, Bool.false_eq_true, false_implies, and_self, implies_true, Int.toNat_zero, beq_self_eq_true, decide_true, decide_false, Bool.not_true, Bool.not_false, ↓y_call, List.length_map, h2, h3, decide_true, Int.toNat_natCast, e0, hb]
        rw [hd]
        exact fin_wk hl (wk_ints (t := 25) rfl hAl.symm) ⟨rfl, rfl, rfl⟩
      · have hb : ((i : Int) == (most : Int)) = false := by simp; omega
        have w1 : IntKind.i64.wrap ((i : Int) + 1) = ((i + 1 : Nat) : Int) := by rw [IntWalk.i64_in _ (by omega)]; omega
        have hf8 : (i + 1) * 8 ≤ 140737488355328 := by omega
        have hs : (wordM terms (i + 1) l).map (D.int .i64) = (wordM terms i l).map (D.int .i64) ++ [D.int .i64 (belowI l[i] terms)] := by
          unfold wordM
          rw [List.take_succ_eq_append_getElem hlt, List.map_append, List.map_append]
          rfl
        have hCt := take_all ((wordM terms i l).map (D.int .i64)) (k := i) (by simp [hAl])
        simp -implicitDefEqProofs only [↓symPre, symPost, y_condP, y_condG, run, lver, minD, intsD, eqAll, tupD, splice, Nat.zero_add, Nat.add_zero, Nat.zero_mul, Nat.mul_one, Nat.one_mul, Nat.reduceAdd, Nat.reduceSub, Nat.reduceMul, Nat.reduceLT, Nat.reduceLeDiff, Nat.reduceEqDiff, true_and, and_true, true_implies, if_true, if_false, ite_true, reduceIte, ne_eq, not_false_eq_true, reduceCtorEq, forall_const, bne_self_eq_false, Bool.true_eq_false, Bool.false_eq_true, false_implies, and_self, implies_true, Int.toNat_zero, beq_self_eq_true, decide_true, decide_false, Bool.not_true, Bool.not_false, ↓y_call, List.length_map, h2, h3, decide_true, Int.toNat_natCast, e0, hb]
        refine (pure_Below l[i] terms h0 h1).call rfl ?_
        generalize wordM terms i l = A at *
        simp -implicitDefEqProofs only [↓symPre, symPost, y_condP, y_condG, run, lver, minD, intsD, eqAll, tupD, splice, Nat.zero_add, Nat.add_zero, Nat.zero_mul, Nat.mul_one, Nat.one_mul, Nat.reduceAdd, Nat.reduceSub, Nat.reduceMul, Nat.reduceLT, Nat.reduceLeDiff, Nat.reduceEqDiff, true_and, and_true, true_implies, if_true, if_false, ite_true, reduceIte, ne_eq, not_false_eq_true, reduceCtorEq, forall_const, bne_self_eq_false, Bool.true_eq_false, Bool.false_eq_true, false_implies, and_self, implies_true, Int.toNat_zero, beq_self_eq_true, decide_true, decide_false, Bool.not_true, Bool.not_false, ↓y_call, List.length_map, w1, srcOf, Nat.le_refl, hf8, hCt, hAl]
        refine ⟨(i + 1, v + 1), ⟨by simp only; omega, by simp only; omega, by simp only; omega⟩, by simp only; omega, ?_⟩
        simp only [hs]
        refine le_to (List.replicate 25 .hole ++ [.old 25] ++ List.replicate 2 .hole) hl rfl ?_ ?_ <;> ((try simp only [y_blk_end, y_blk_hole, y_blk_nil, y_blk_old, y_wkl_end, y_wkl_top, List.replicate, List.cons_append, List.nil_append, and_true, true_and]) <;> (repeat' (first | apply And.intro | apply y_wkl | refine Exists.intro _ (And.intro rfl ?_))) <;> (try first | exact trivial | exact Wk.top _ | exact wk_int rfl | exact wk_bool rfl | exact wk_ptr rfl rfl rfl rfl | exact wk_ref rfl rfl rfl rfl rfl | exact wk_nil rfl rfl rfl | exact wk_ref rfl rfl rfl rfl (by simp) | exact wk_ref rfl rfl rfl rfl (by simp; omega) | exact wk_old (by assumption) (by simp) | exact wk_eq rfl (by first | exact Bd.int _ _ | exact Bd.bool _ | exact Bd.abool | exact Bd.nils | exact Bd.emp | exact Bd.nilp | exact Bd.nilfn | assumption | exact low_trees _ _ | exact low_treeD _ _ | exact low_ints _ _) | exact Nat.le_refl _ | exact wk_int (by simp) | exact wk_int (by omega) | exact Nat.succ_le_succ (Nat.zero_le _) | exact Nat.le_add_left _ _ | omega))
        rw [← hs]
        exact WkL.low (low_iD _ _)
    · have h2 : ¬ (i : Int) < (l.length : Int) := by omega
      have hd := done (.inl (by omega))
      simp -implicitDefEqProofs only [↓symPre, symPost, y_condP, y_condG, run, lver, minD, intsD, eqAll, tupD, splice, Nat.zero_add, Nat.add_zero, Nat.zero_mul, Nat.mul_one, Nat.one_mul, Nat.reduceAdd, Nat.reduceSub, Nat.reduceMul, Nat.reduceLT, Nat.reduceLeDiff, Nat.reduceEqDiff, true_and, and_true, true_implies, if_true, if_false, ite_true, reduceIte, ne_eq, not_false_eq_true, reduceCtorEq, forall_const, bne_self_eq_false, Bool.true_eq_false, Bool.false_eq_true, false_implies, and_self, implies_true, Int.toNat_zero, beq_self_eq_true, decide_true, decide_false, Bool.not_true, Bool.not_false, ↓y_call, h2, decide_false]
      rw [hd]
      exact fin_wk hl (wk_ints (t := 25) rfl hAl.symm) ⟨rfl, rfl, rfl⟩

end Abs
end Go.Proofs.Ytfojedaccfenfab

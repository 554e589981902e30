/- parlref4.Ran. -/
import Derived.Test.YtfojedaccfenfabV8
namespace Go.Proofs.Ytfojedaccfenfab
namespace Abs
set_option linter.unusedVariables false
set_option linter.unusedSimpArgs false
set_option maxRecDepth 20000

theorem runF_ok {n : Nat} {l : List Ed} (h : runF n l = 0) : okUp n l l.length := by
  refine Decidable.byContradiction fun hno => ?_
  rw [runF, if_neg hno] at h; cases h

set_option maxHeartbeats 4000000 in
theorem pure_Ran (w : List Int) (l : List Ed) (hw : w.length + newK l < 2 ^ 30) (hll : l.length < 2 ^ 30) (hok : okUp w.length l l.length) : Pure prog F_parlref4_Ran [iD w, .lst (l.map edD)] (iD (runB w l)) := by
  intro n h
  refine K_parlref4_Ran.calls fun hl => ?_
  unfold C_parlref4_Ran
  have hlow := low_eds n l
  have hB := runB_len (w := w) (okUp_ft hok)
  have hall0 : ([] : List Int) ++ tailR w (atK l 0) (l.drop 0) = runB w l := by
    have := runB_eq (okUp_drop hok l.length 0 (by omega))
    rw [List.drop_zero] at this
    rw [this]; simp [atK]
  have h01 : atK l 0 = 0 := rfl
  simp -implicitDefEqProofs only [↓symPre, symPost, y_condP, y_condG, run, lver, minD, intsD, eqAll, tupD, splice, Nat.zero_add, Nat.add_zero, Nat.zero_mul, Nat.mul_one, Nat.one_mul, Nat.reduceAdd, Nat.reduceSub, Nat.reduceMul, Nat.reduceLT, Nat.reduceLeDiff, Nat.reduceEqDiff, true_and, and_true, true_implies, if_true, if_false, ite_true, reduceIte, ne_eq, not_false_eq_true, reduceCtorEq, forall_const, bne_self_eq_false, Bool.true_eq_false, Bool.false_eq_true, false_implies, and_self, implies_true, Int.toNat_zero, beq_self_eq_true, decide_true, decide_false, Bool.not_true, Bool.not_false, ↓y_call, List.length_map]
  refine aloop (fun p : Nat × Nat × List Int => St.mk n ([iD w, .lst (l.map edD), .top, .top, .top, .ref 1 (n + 21) p.2.1 0 p.2.2.length, .int .i64 (atK l p.1), .top, .top, .lst (l.map edD), .int .i64 l.length, .int .i64 p.1] ++ List.replicate 22 .top) h
      (List.replicate 21 blk0 ++ [⟨p.2.1, .cells (p.2.2.map (.int .i64))⟩] ++ List.replicate 12 blk0)) (fun p => p.1 ≤ l.length ∧ 1 ≤ p.2.1 ∧ p.2.2 ++ tailR w (atK l p.1) (l.drop p.1) = runB w l) (fun p => l.length - p.1) (0, 1, []) ⟨Nat.zero_le _, Nat.le_refl _, hall0⟩ ?_ ?_
  · rw [h01]
    refine le_to (List.replicate 21 .hole ++ [.nil] ++ List.replicate 12 .hole) hl rfl ?_ ?_ <;> ((try simp only [y_blk_end, y_blk_hole, y_blk_nil, y_blk_old, y_wkl_end, y_wkl_top, List.replicate, List.cons_append, List.nil_append, and_true, true_and]) <;> (repeat' (first | apply And.intro | apply y_wkl | refine Exists.intro _ (And.intro rfl ?_))) <;> (try first | exact trivial | exact Wk.top _ | exact wk_int rfl | exact wk_bool rfl | exact wk_ptr rfl rfl rfl rfl | exact wk_ref rfl rfl rfl rfl rfl | exact wk_nil rfl rfl rfl | exact wk_ref rfl rfl rfl rfl (by simp) | exact wk_ref rfl rfl rfl rfl (by simp; omega) | exact wk_old (by assumption) (by simp) | exact wk_eq rfl (by first | exact Bd.int _ _ | exact Bd.bool _ | exact Bd.abool | exact Bd.nils | exact Bd.emp | exact Bd.nilp | exact Bd.nilfn | assumption | exact low_trees _ _ | exact low_treeD _ _ | exact low_ints _ _) | exact Nat.le_refl _ | exact wk_int (by simp) | exact wk_int (by omega) | exact Nat.succ_le_succ (Nat.zero_le _) | exact Nat.le_add_left _ _ | omega))
  · rintro ⟨i, v, O⟩ ⟨hi, hv, hall⟩
    simp only at hi hv hall
    obtain ⟨a1, a2⟩ := atK_bound (n := w.length) (l := l) (k := i) fun j hj => hok j (by omega)
    have hOl : O.length ≤ w.length + newK l := by
      have := congrArg List.length hall
      rw [List.length_append] at this; omega
    obtain ⟨A, hA⟩ : ∃ A : Nat, atK l i = A := ⟨(atK l i).toNat, by omega⟩
    have hOt : (O.map (D.int .i64)).take O.length = O.map (.int .i64) := List.take_of_length_le (by simp)
    rw [hA] at hall a1 a2
    by_cases hlt : i < l.length
    · have h1 : (i : Int) < (l.length : Int) := by omega
      have h0 : (0 : Int) ≤ (i : Int) := by omega
      have e0 := nth_eds l i hlt
      have hix := hok i hlt
      have w1 : IntKind.i64.wrap ((i : Int) + 1) = ((i + 1 : Nat) : Int) := by rw [IntWalk.i64_in _ (by omega)]; omega
      have hat : atK l (i + 1) = (edAt l i).t := by simp [atK]
      have hN := newK_at l hlt
      rw [List.drop_eq_getElem_cons hlt, ← edAt_get hlt, tailR, ← hat] at hall
      unfold okIx at hix
      rw [hA] at hix
      generalize hE : edAt l i = e at *
      obtain ⟨q1, _, q3, q4⟩ := hix
      obtain ⟨F, hF⟩ : ∃ F : Nat, e.f = F := ⟨e.f.toNat, by omega⟩
      obtain ⟨T, hT⟩ : ∃ T : Nat, e.t = T := ⟨e.t.toNat, by omega⟩
      rw [hF] at e0 q1 q3
      rw [hT] at e0 q3 q4 hat
      have s1 : ((w.map (D.int .i64)).drop A).take (F - A) = ((w.drop A).take (F - A)).map (.int .i64) := by simp [List.map_drop, List.map_take]
      have sl : ((w.drop A).take (F - A)).length = F - A := by simp; omega
      have hFA : (e.f - (A : Int)).toNat = F - A := by rw [hF]; omega
      rw [Int.toNat_natCast, hFA] at hall
      have f1 : (O.length + (F - A)) * 8 ≤ 140737488355328 := by omega
      have f2 : (O.length + (F - A) + e.w.length) * 8 ≤ 140737488355328 := by omega
      have z0 : (0 : Int) ≤ (A : Int) := by omega
      have z1 : (A : Int) ≤ (F : Int) := q1
      have z2 : (F : Int) ≤ (w.length : Int) := by omega
      generalize hX : (w.drop A).take (F - A) = X at *
      have hOt2 : (O.map (D.int .i64) ++ X.map (D.int .i64)).take (O.length + (F - A)) = O.map (D.int .i64) ++ X.map (D.int .i64) := List.take_of_length_le (by simp [sl])
      simp -implicitDefEqProofs only [↓symPre, symPost, y_condP, y_condG, run, lver, minD, intsD, eqAll, tupD, splice, Nat.zero_add, Nat.add_zero, Nat.zero_mul, Nat.mul_one, Nat.one_mul, Nat.reduceAdd, Nat.reduceSub, Nat.reduceMul, Nat.reduceLT, Nat.reduceLeDiff, Nat.reduceEqDiff, true_and, and_true, true_implies, if_true, if_false, ite_true, reduceIte, ne_eq, not_false_eq_true, reduceCtorEq, forall_const, bne_self_eq_false, Bool.true_eq_false, Bool.false_eq_true, false_implies, and_self, implies_true, Int.toNat_zero, beq_self_eq_true, decide_true, decide_false, Bool.not_true, Bool.not_false, ↓y_call, List.length_map, h1, h0, e0, decide_true, Int.toNat_natCast, hA, ints_cells, ints_flat, ints_one, s1, sl, z0, z1, z2, f1, f2, hOt, hOt2, Nat.le_refl, w1, srcOf, List.length_append]
      have hm : (O ++ X ++ e.w).map (D.int .i64) = O.map (D.int .i64) ++ X.map (D.int .i64) ++ e.w.map (D.int .i64) := by simp
      refine ⟨(i + 1, v + 1 + 1, O ++ X ++ e.w), ⟨by simp only; omega, by simp only; omega, by simp only; rw [← hall, List.append_assoc, List.append_assoc]⟩, by simp only; omega, ?_⟩
      simp only [hat, hm, List.length_append, sl]
      refine le_to (List.replicate 21 .hole ++ [.old 21] ++ List.replicate 12 .hole) hl rfl ?_ ?_ <;> ((try simp only [y_blk_end, y_blk_hole, y_blk_nil, y_blk_old, y_wkl_end, y_wkl_top, List.replicate, List.cons_append, List.nil_append, and_true, true_and]) <;> (repeat' (first | apply And.intro | apply y_wkl | refine Exists.intro _ (And.intro rfl ?_))) <;> (try first | exact trivial | exact Wk.top _ | exact wk_int rfl | exact wk_bool rfl | exact wk_ptr rfl rfl rfl rfl | exact wk_ref rfl rfl rfl rfl rfl | exact wk_nil rfl rfl rfl | exact wk_ref rfl rfl rfl rfl (by simp) | exact wk_ref rfl rfl rfl rfl (by simp; omega) | exact wk_old (by assumption) (by simp) | exact wk_eq rfl (by first | exact Bd.int _ _ | exact Bd.bool _ | exact Bd.abool | exact Bd.nils | exact Bd.emp | exact Bd.nilp | exact Bd.nilfn | assumption | exact low_trees _ _ | exact low_treeD _ _ | exact low_ints _ _) | exact Nat.le_refl _ | exact wk_int (by simp) | exact wk_int (by omega) | exact Nat.succ_le_succ (Nat.zero_le _) | exact Nat.le_add_left _ _ | omega))
      all_goals first | exact wk_ref rfl rfl rfl rfl (by simp [sl]) | (rw [← hm]; exact WkL.low (low_iD _ _))
    · have h1 : ¬ (i : Int) < (l.length : Int) := by omega
      obtain rfl : i = l.length := by omega
      rw [List.drop_eq_nil_of_le (Nat.le_refl _), tailR, Int.toNat_natCast] at hall
      have s1 : ((w.map (D.int .i64)).drop A).take (w.length - A) = (w.drop A).map (.int .i64) := by
        rw [List.take_of_length_le (by simp)]; simp [List.map_drop]
      have f1 : (O.length + (w.drop A).length) * 8 ≤ 140737488355328 := by simp; omega
      have z0 : (0 : Int) ≤ (A : Int) := by omega
      have z2 : (A : Int) ≤ (w.length : Int) := by omega
      generalize w.drop A = X at *
      simp -implicitDefEqProofs only [↓symPre, symPost, y_condP, y_condG, run, lver, minD, intsD, eqAll, tupD, splice, Nat.zero_add, Nat.add_zero, Nat.zero_mul, Nat.mul_one, Nat.one_mul, Nat.reduceAdd, Nat.reduceSub, Nat.reduceMul, Nat.reduceLT, Nat.reduceLeDiff, Nat.reduceEqDiff, true_and, and_true, true_implies, if_true, if_false, ite_true, reduceIte, ne_eq, not_false_eq_true, reduceCtorEq, forall_const, bne_self_eq_false, Bool.true_eq_false, Bool.false_eq_true, false_implies, and_self, implies_true, Int.toNat_zero, beq_self_eq_true, decide_true, decide_false, Bool.not_true, Bool.not_false, ↓y_call, List.length_map, h1, decide_false, Int.toNat_natCast, hA, ints_cells, ints_flat, ints_one, s1, z0, z2, f1, hOt, Nat.le_refl, srcOf]
      refine fin_wk (d := iD (runB w l)) hl ?_ ⟨rfl, rfl, rfl⟩
      rw [← hall]
      exact wk_ints (t := 21) (l := O ++ X) (by simp) (by simp)

end Abs
end Go.Proofs.Ytfojedaccfenfab

/- The reference's edited word. -/
import Derived.Test.YtcdbikoonobodaaD4
namespace Go.Proofs.Ytcdbikoonobodaa
namespace Abs
set_option linter.unusedVariables false
set_option linter.unusedSimpArgs false
set_option maxRecDepth 20000

theorem take_succ_ints (w : List Int) (i : Nat) (hi : i < w.length) : (w.take (i + 1)).map (D.int .i64) = (w.take i).map (D.int .i64) ++ [D.int .i64 w[i]] := by
  rw [List.take_succ_eq_append_getElem hi, List.map_append]; rfl

theorem pure_Edited (w : List Int) (e : Ed) (hw : w.length * 8 ≤ 140737488355328) (hn : e.w.length * 8 ≤ 140737488355328) (h0 : chk w.length e = 0) : Pure prog F_parlref4_Edited [iD w, edD e] (iD (applyL w e)) := by
  intro n h
  refine K_parlref4_Edited.calls fun hl => ?_
  obtain ⟨⟨q1, q2, q3⟩, q4⟩ := chk_zero h0
  obtain ⟨f, hf⟩ : ∃ f : Nat, e.f = f := ⟨e.f.toNat, by omega⟩
  obtain ⟨t, ht⟩ : ∃ t : Nat, e.t = t := ⟨e.t.toNat, by omega⟩
  unfold C_parlref4_Edited edD applyL
  rw [hf] at q1 q2 q4
  rw [ht] at q2 q3 q4
  rw [hf, ht]
  simp only [Int.toNat_natCast]
  simp -implicitDefEqProofs only [↓symPre, symPost, y_condP, y_condG, run, lver, minD, intsD, eqAll, tupD, splice, Nat.zero_add, Nat.add_zero, Nat.zero_mul, Nat.mul_one, Nat.one_mul, Nat.reduceAdd, Nat.reduceSub, Nat.reduceMul, Nat.reduceLT, Nat.reduceLeDiff, Nat.reduceEqDiff, true_and, and_true, true_implies, if_true, if_false, ite_true, reduceIte, ne_eq, not_false_eq_true, reduceCtorEq, forall_const, bne_self_eq_false, Bool.true_eq_false, Bool.false_eq_true, false_implies, and_self, implies_true, Int.toNat_zero, beq_self_eq_true, decide_true, decide_false, Bool.not_true, Bool.not_false, ↓y_lookv, y_key1, y_mlook, y_mlookn, y_mres1, y_mres0, ↓y_call]
  refine aloop (fun p : Nat × Nat => St.mk n ([iD w, .top, .top, .ptr (n + 3) 1 0, .top, .ref 1 (n + 19) p.2 0 p.1, .top, .top, .top, .int .i64 f, .int .i64 p.1] ++ List.replicate 30 .top) h
      (List.replicate 3 blk0 ++ [⟨1, .cells [.int .i64 f, .int .i64 t, iD e.w]⟩] ++ List.replicate 15 blk0 ++ [⟨p.2, .cells ((w.take p.1).map (.int .i64))⟩] ++ List.replicate 21 blk0)) (fun p => p.1 ≤ f ∧ 1 ≤ p.2) (fun p => f - p.1) (0, 1) ⟨Nat.zero_le _, Nat.le_refl _⟩ ?_ ?_
  · refine le_to (List.replicate 3 .hole ++ [.old 3] ++ List.replicate 15 .hole ++ [.nil] ++ List.replicate 21 .hole) hl rfl ?_ ?_ <;> ((try simp only [y_blk_end, y_blk_hole, y_blk_nil, y_blk_old, y_wkl_end, y_wkl_top, List.replicate, List.cons_append, List.nil_append, and_true, true_and]) <;> (repeat' (first | apply And.intro | apply y_wkl | refine Exists.intro _ (And.intro rfl ?_))) <;> (try first | exact trivial | exact Wk.top _ | exact wk_int rfl | exact wk_bool rfl | exact wk_ptr rfl rfl rfl rfl | exact wk_ref rfl rfl rfl rfl rfl | exact wk_nil rfl rfl rfl | exact wk_ref rfl rfl rfl rfl (by simp) | exact wk_ref rfl rfl rfl rfl (by simp; omega) | exact wk_old (by assumption) (by simp) | exact wk_eq rfl (by first | exact Bd.int _ _ | exact Bd.bool _ | exact Bd.abool | exact Bd.nils | exact Bd.emp | exact Bd.nilp | exact Bd.nilfn | assumption | exact low_trees _ _ | exact low_treeD _ _ | exact low_ints _ _) | exact Nat.le_refl _ | exact wk_int (by simp) | exact wk_int (by omega) | exact Nat.succ_le_succ (Nat.zero_le _) | exact Nat.le_add_left _ _ | omega))
  · rintro ⟨i, v⟩ ⟨hi, hv⟩
    simp only at hi hv
    by_cases hlt : i < f
    · have h1 : (i : Int) < (f : Int) := by omega
      have h0 : (0 : Int) ≤ (i : Int) := by omega
      have h2 : (i : Int) < (w.length : Int) := by omega
      have e0 := nth_ints w i (by omega)
      have hs := take_succ_ints w i (by omega)
      have hAl : (w.take i).length = i := by simp; omega
      have hf8 : (i + 1) * 8 ≤ 140737488355328 := by omega
      have hCt := take_all ((w.take i).map (D.int .i64)) (k := i) (by simp; omega)
      have w1 : IntKind.i64.wrap ((i : Int) + 1) = ((i + 1 : Nat) : Int) := by rw [IntWalk.i64_in _ (by omega)]; omega
      generalize w.take i = A at *
      simp -implicitDefEqProofs only [↓symPre, symPost, y_condP, y_condG, run, lver, minD, intsD, eqAll, tupD, splice, Nat.zero_add, Nat.add_zero, Nat.zero_mul, Nat.mul_one, Nat.one_mul, Nat.reduceAdd, Nat.reduceSub, Nat.reduceMul, Nat.reduceLT, Nat.reduceLeDiff, Nat.reduceEqDiff, true_and, and_true, true_implies, if_true, if_false, ite_true, reduceIte, ne_eq, not_false_eq_true, reduceCtorEq, forall_const, bne_self_eq_false, Bool.true_eq_false, Bool.false_eq_true, false_implies, and_self, implies_true, Int.toNat_zero, beq_self_eq_true, decide_true, decide_false, Bool.not_true, Bool.not_false, ↓y_lookv, y_key1, y_mlook, y_mlookn, y_mres1, y_mres0, ↓y_call, List.length_map, h1, h0, h2, decide_true, Int.toNat_natCast, e0, w1, srcOf, Nat.le_refl, hf8, hCt, hAl]
      refine ⟨(i + 1, v + 1), ⟨by simp only; omega, by simp only; omega⟩, by simp only; omega, ?_⟩
      simp only [hs]
      refine le_to (List.replicate 3 .hole ++ [.old 3] ++ List.replicate 15 .hole ++ [.old 19] ++ List.replicate 21 .hole) hl rfl ?_ ?_ <;> ((try simp only [y_blk_end, y_blk_hole, y_blk_nil, y_blk_old, y_wkl_end, y_wkl_top, List.replicate, List.cons_append, List.nil_append, and_true, true_and]) <;> (repeat' (first | apply And.intro | apply y_wkl | refine Exists.intro _ (And.intro rfl ?_))) <;> (try first | exact trivial | exact Wk.top _ | exact wk_int rfl | exact wk_bool rfl | exact wk_ptr rfl rfl rfl rfl | exact wk_ref rfl rfl rfl rfl rfl | exact wk_nil rfl rfl rfl | exact wk_ref rfl rfl rfl rfl (by simp) | exact wk_ref rfl rfl rfl rfl (by simp; omega) | exact wk_old (by assumption) (by simp) | exact wk_eq rfl (by first | exact Bd.int _ _ | exact Bd.bool _ | exact Bd.abool | exact Bd.nils | exact Bd.emp | exact Bd.nilp | exact Bd.nilfn | assumption | exact low_trees _ _ | exact low_treeD _ _ | exact low_ints _ _) | exact Nat.le_refl _ | exact wk_int (by simp) | exact wk_int (by omega) | exact Nat.succ_le_succ (Nat.zero_le _) | exact Nat.le_add_left _ _ | omega))
      rw [← hs]
      exact WkL.low (low_iD _ _)
    · have h1 : ¬ (i : Int) < (f : Int) := by omega
      have hif : i = f := by omega
      subst hif
      have hAl : (w.take i).length = i := by simp; omega
      have hf8 : (i + e.w.length) * 8 ≤ 140737488355328 := by omega
      have hCt := take_all ((w.take i).map (D.int .i64)) (k := i) (by simp; omega)
      simp -implicitDefEqProofs only [↓symPre, symPost, y_condP, y_condG, run, lver, minD, intsD, eqAll, tupD, splice, Nat.zero_add, Nat.add_zero, Nat.zero_mul, Nat.mul_one, Nat.one_mul, Nat.reduceAdd, Nat.reduceSub, Nat.reduceMul, Nat.reduceLT, Nat.reduceLeDiff, Nat.reduceEqDiff, true_and, and_true, true_implies, if_true, if_false, ite_true, reduceIte, ne_eq, not_false_eq_true, reduceCtorEq, forall_const, bne_self_eq_false, Bool.true_eq_false, Bool.false_eq_true, false_implies, and_self, implies_true, Int.toNat_zero, beq_self_eq_true, decide_true, decide_false, Bool.not_true, Bool.not_false, ↓y_lookv, y_key1, y_mlook, y_mlookn, y_mres1, y_mres0, ↓y_call, List.length_map, h1, decide_false, srcOf, ints_cells, ints_flat, ints_one, hf8, hCt, hAl, Nat.le_refl]
      refine aloop (fun p : Nat × Nat => St.mk n ([iD w, .top, .top, .top, .top, .ref 1 (n + 19) p.2 0 (i + e.w.length + p.1), .top, .int .i64 (t + p.1 : Nat)] ++ List.replicate 33 .top) h
          (List.replicate 19 blk0 ++ [⟨p.2, .cells ((w.take i ++ e.w ++ (w.drop t).take p.1).map (.int .i64))⟩] ++ List.replicate 21 blk0)) (fun p => t + p.1 ≤ w.length ∧ 1 ≤ p.2) (fun p => w.length - t - p.1) (0, v + 1) ⟨by omega, by omega⟩ ?_ ?_
      · simp only [List.take_zero, List.append_nil, Nat.add_zero, List.map_append]
        refine le_to (List.replicate 19 .hole ++ [.old 19] ++ List.replicate 21 .hole) hl rfl ?_ ?_ <;> ((try simp only [y_blk_end, y_blk_hole, y_blk_nil, y_blk_old, y_wkl_end, y_wkl_top, List.replicate, List.cons_append, List.nil_append, and_true, true_and]) <;> (repeat' (first | apply And.intro | apply y_wkl | refine Exists.intro _ (And.intro rfl ?_))) <;> (try first | exact trivial | exact Wk.top _ | exact wk_int rfl | exact wk_bool rfl | exact wk_ptr rfl rfl rfl rfl | exact wk_ref rfl rfl rfl rfl rfl | exact wk_nil rfl rfl rfl | exact wk_ref rfl rfl rfl rfl (by simp) | exact wk_ref rfl rfl rfl rfl (by simp; omega) | exact wk_old (by assumption) (by simp) | exact wk_eq rfl (by first | exact Bd.int _ _ | exact Bd.bool _ | exact Bd.abool | exact Bd.nils | exact Bd.emp | exact Bd.nilp | exact Bd.nilfn | assumption | exact low_trees _ _ | exact low_treeD _ _ | exact low_ints _ _) | exact Nat.le_refl _ | exact wk_int (by simp) | exact wk_int (by omega) | exact Nat.succ_le_succ (Nat.zero_le _) | exact Nat.le_add_left _ _ | omega))
        rw [← List.map_append]
        exact WkL.low (low_iD _ _)
      · rintro ⟨j, v'⟩ ⟨hj, hv'⟩
        simp only at hj hv'
        by_cases hlt : t + j < w.length
        · have h1 : ((t + j : Nat) : Int) < (w.length : Int) := by omega
          have h0 : (0 : Int) ≤ ((t + j : Nat) : Int) := by omega
          have e0 := nth_ints w (t + j) hlt
          have hs := take_succ_ints (w.drop t) j (by simp; omega)
          rw [List.getElem_drop] at hs
          have hBl : (w.take i ++ e.w ++ (w.drop t).take j).length = i + e.w.length + j := by simp; omega
          have hf8 : (i + e.w.length + j + 1) * 8 ≤ 140737488355328 := by omega
          have hCt := take_all ((w.take i ++ e.w ++ (w.drop t).take j).map (D.int .i64)) (k := i + e.w.length + j) (by simp; omega)
          have w1 : IntKind.i64.wrap (((t + j : Nat) : Int) + 1) = ((t + (j + 1) : Nat) : Int) := by rw [IntWalk.i64_in _ (by omega)]; omega
          have hS : (w.take i ++ e.w ++ (w.drop t).take (j + 1)).map (D.int .i64) = (w.take i ++ e.w ++ (w.drop t).take j).map (D.int .i64) ++ [D.int .i64 w[t + j]] := by
            rw [List.map_append (l₂ := (w.drop t).take (j + 1)), hs, List.map_append (l₂ := (w.drop t).take j), List.append_assoc]
          generalize hB : w.take i ++ e.w ++ (w.drop t).take j = B at *
          simp -implicitDefEqProofs only [↓symPre, symPost, y_condP, y_condG, run, lver, minD, intsD, eqAll, tupD, splice, Nat.zero_add, Nat.add_zero, Nat.zero_mul, Nat.mul_one, Nat.one_mul, Nat.reduceAdd, Nat.reduceSub, Nat.reduceMul, Nat.reduceLT, Nat.reduceLeDiff, Nat.reduceEqDiff, true_and, and_true, true_implies, if_true, if_false, ite_true, reduceIte, ne_eq, not_false_eq_true, reduceCtorEq, forall_const, bne_self_eq_false, Bool.true_eq_false, Bool.false_eq_true, false_implies, and_self, implies_true, Int.toNat_zero, beq_self_eq_true, decide_true, decide_false, Bool.not_true, Bool.not_false, ↓y_lookv, y_key1, y_mlook, y_mlookn, y_mres1, y_mres0, ↓y_call, List.length_map, h1, h0, decide_true, Int.toNat_natCast, e0, w1, srcOf, Nat.le_refl, hf8, hCt, hBl]
          refine ⟨(j + 1, v' + 1), ⟨by simp only; omega, by simp only; omega⟩, by simp only; omega, ?_⟩
          simp only [hS]
          refine le_to (List.replicate 19 .hole ++ [.old 19] ++ List.replicate 21 .hole) hl rfl ?_ ?_ <;> ((try simp only [y_blk_end, y_blk_hole, y_blk_nil, y_blk_old, y_wkl_end, y_wkl_top, List.replicate, List.cons_append, List.nil_append, and_true, true_and]) <;> (repeat' (first | apply And.intro | apply y_wkl | refine Exists.intro _ (And.intro rfl ?_))) <;> (try first | exact trivial | exact Wk.top _ | exact wk_int rfl | exact wk_bool rfl | exact wk_ptr rfl rfl rfl rfl | exact wk_ref rfl rfl rfl rfl rfl | exact wk_nil rfl rfl rfl | exact wk_ref rfl rfl rfl rfl (by simp) | exact wk_ref rfl rfl rfl rfl (by simp; omega) | exact wk_old (by assumption) (by simp) | exact wk_eq rfl (by first | exact Bd.int _ _ | exact Bd.bool _ | exact Bd.abool | exact Bd.nils | exact Bd.emp | exact Bd.nilp | exact Bd.nilfn | assumption | exact low_trees _ _ | exact low_treeD _ _ | exact low_ints _ _) | exact Nat.le_refl _ | exact wk_int (by simp) | exact wk_int (by omega) | exact Nat.succ_le_succ (Nat.zero_le _) | exact Nat.le_add_left _ _ | omega))
          rw [← hS]
          exact WkL.low (low_iD _ _)
        · have h1 : ¬ ((t + j : Nat) : Int) < (w.length : Int) := by omega
          simp -implicitDefEqProofs only [↓symPre, symPost, y_condP, y_condG, run, lver, minD, intsD, eqAll, tupD, splice, Nat.zero_add, Nat.add_zero, Nat.zero_mul, Nat.mul_one, Nat.one_mul, Nat.reduceAdd, Nat.reduceSub, Nat.reduceMul, Nat.reduceLT, Nat.reduceLeDiff, Nat.reduceEqDiff, true_and, and_true, true_implies, if_true, if_false, ite_true, reduceIte, ne_eq, not_false_eq_true, reduceCtorEq, forall_const, bne_self_eq_false, Bool.true_eq_false, Bool.false_eq_true, false_implies, and_self, implies_true, Int.toNat_zero, beq_self_eq_true, decide_true, decide_false, Bool.not_true, Bool.not_false, ↓y_lookv, y_key1, y_mlook, y_mlookn, y_mres1, y_mres0, ↓y_call, List.length_map, h1, decide_false]
          refine fin_wk hl ?_ ⟨rfl, rfl, rfl⟩
          have e : w.take i ++ (e.w ++ w.drop t) = w.take i ++ e.w ++ (w.drop t).take j := by
            rw [List.take_of_length_le (l := w.drop t) (by simp; omega), List.append_assoc]
          rw [e]
          exact wk_ints (t := 19) rfl (by simp; omega)

end Abs
end Go.Proofs.Ytcdbikoonobodaa

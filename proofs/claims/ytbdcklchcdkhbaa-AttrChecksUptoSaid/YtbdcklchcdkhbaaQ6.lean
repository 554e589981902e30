/- The reference's occurs; the size of an expression; its nodes. -/
import Derived.Test.YtbdcklchcdkhbaaQ5
namespace Go.Proofs.Ytbdcklchcdkhbaa
namespace Abs
set_option linter.unusedVariables false
set_option linter.unusedSimpArgs false
set_option maxRecDepth 20000

theorem pure_occursR (s : Sys) (g : Gr) (rule : Nat) (k r : Int) (hr : rule < g.rules.length) (hx : ∀ r ∈ g.rules, r.right.length < 2 ^ 40) : Pure prog F_parlref4_occurs [gramD g, sysD s, .int .i64 rule, .agg [.int .i64 k, .int .i64 r]] (.bool (occN s g rule k r)) := by
  intro n h
  refine K_parlref4_occurs.calls fun hl => ?_
  have ps := pure_at g rule k hr hx
  have hlr := low_rules n g.rules
  have hla := low_ats n s.attrs
  have hle := low_eqs n s.eqs
  unfold C_parlref4_occurs sysD gramD
  unfold gramD at ps
  by_cases c0 : r ≥ 0
  · by_cases c1 : r < (s.attrs.length : Int)
    · obtain ⟨i, rfl⟩ : ∃ i : Nat, r = i := ⟨r.toNat, by omega⟩
      have e0 := nth_at s.attrs i (by omega)
      have i0 : (0 : Int) ≤ (i : Int) := by omega
      simp -implicitDefEqProofs only [↓symPre, symPost, y_condP, y_condG, run, lver, minD, intsD, eqAll, tupD, splice, Nat.zero_add, Nat.add_zero, Nat.zero_mul, Nat.mul_one, Nat.one_mul, Nat.reduceAdd, Nat.reduceSub, Nat.reduceMul, Nat.reduceLT, Nat.reduceLeDiff, Nat.reduceEqDiff, true_and, and_true, true_implies, if_true, if_false, ite_true, reduceIte, ne_eq, not_false_eq_true, reduceCtorEq, forall_const, bne_self_eq_false, Bool.true_eq_false, Bool.false_eq_true, false_implies, and_self, implies_true, Int.toNat_zero, beq_self_eq_true, decide_true, decide_false, Bool.not_true, Bool.not_false, ↓y_lookv, y_key1, y_mlook, y_mlookn, y_mres1, y_mres0, ↓y_call]
      refine adrawq hmix [] ?_
      simp (maxSteps := 400000) -implicitDefEqProofs only [↓symPre, symPost, y_condP, y_condG, run, lver, minD, intsD, eqAll, tupD, splice, Nat.zero_add, Nat.add_zero, Nat.zero_mul, Nat.mul_one, Nat.one_mul, Nat.reduceAdd, Nat.reduceSub, Nat.reduceMul, Nat.reduceLT, Nat.reduceLeDiff, Nat.reduceEqDiff, true_and, and_true, true_implies, if_true, if_false, ite_true, reduceIte, ne_eq, not_false_eq_true, reduceCtorEq, forall_const, bne_self_eq_false, Bool.true_eq_false, Bool.false_eq_true, false_implies, and_self, implies_true, Int.toNat_zero, beq_self_eq_true, decide_true, decide_false, Bool.not_true, Bool.not_false, ↓y_lookv, y_key1, y_mlook, y_mlookn, y_mres1, y_mres0, ↓y_call, ↓y_adq0, ↓y_adq, ↓y_stepQ_call, ↓y_adq_onT, ↓y_adq_onF, ↓y_adq_onS, drawPost, isCall, isNew, isEff, Option.toList, or_false, false_or, cond_true, cond_false, not_true_eq_false, or_true, true_or, Nat.add_left_cancel_iff, Bool.false_eq_true, ↓y_q0, ↓y_q1, ↓y_q1e, y_qn, isMap, List.length_map, c0, c1, decide_true]
      refine ⟨_, _, ps.draw rfl, (by simp [y_cov0, y_cov1, isNew, isEff, Option.toList]), ?_⟩
      simp (maxSteps := 400000) -implicitDefEqProofs only [↓symPre, symPost, y_condP, y_condG, run, lver, minD, intsD, eqAll, tupD, splice, Nat.zero_add, Nat.add_zero, Nat.zero_mul, Nat.mul_one, Nat.one_mul, Nat.reduceAdd, Nat.reduceSub, Nat.reduceMul, Nat.reduceLT, Nat.reduceLeDiff, Nat.reduceEqDiff, true_and, and_true, true_implies, if_true, if_false, ite_true, reduceIte, ne_eq, not_false_eq_true, reduceCtorEq, forall_const, bne_self_eq_false, Bool.true_eq_false, Bool.false_eq_true, false_implies, and_self, implies_true, Int.toNat_zero, beq_self_eq_true, decide_true, decide_false, Bool.not_true, Bool.not_false, ↓y_lookv, y_key1, y_mlook, y_mlookn, y_mres1, y_mres0, ↓y_call, ↓y_adq0, ↓y_adq, ↓y_stepQ_call, ↓y_adq_onT, ↓y_adq_onF, ↓y_adq_onS, drawPost, isCall, isNew, isEff, Option.toList, or_false, false_or, cond_true, cond_false, not_true_eq_false, or_true, true_or, Nat.add_left_cancel_iff, Bool.false_eq_true, ↓y_q0, ↓y_q1, ↓y_q1e, y_qn, isMap, List.length_map, c1, i0, e0, Int.toNat_natCast]
      exact fin_bool hl (by by_cases hxy : symN g rule k = (s.attrs.getD i at0).non <;> simp only [occN, Int.toNat_natCast, hxy, c1, i0, true_and, and_true, and_false, decide_true, decide_false, beq_self_eq_true] <;> simpa using hxy)
    · simp -implicitDefEqProofs only [↓symPre, symPost, y_condP, y_condG, run, lver, minD, intsD, eqAll, tupD, splice, Nat.zero_add, Nat.add_zero, Nat.zero_mul, Nat.mul_one, Nat.one_mul, Nat.reduceAdd, Nat.reduceSub, Nat.reduceMul, Nat.reduceLT, Nat.reduceLeDiff, Nat.reduceEqDiff, true_and, and_true, true_implies, if_true, if_false, ite_true, reduceIte, ne_eq, not_false_eq_true, reduceCtorEq, forall_const, bne_self_eq_false, Bool.true_eq_false, Bool.false_eq_true, false_implies, and_self, implies_true, Int.toNat_zero, beq_self_eq_true, decide_true, decide_false, Bool.not_true, Bool.not_false, ↓y_lookv, y_key1, y_mlook, y_mlookn, y_mres1, y_mres0, ↓y_call]
      refine adrawq hmix [] ?_
      simp (maxSteps := 400000) -implicitDefEqProofs only [↓symPre, symPost, y_condP, y_condG, run, lver, minD, intsD, eqAll, tupD, splice, Nat.zero_add, Nat.add_zero, Nat.zero_mul, Nat.mul_one, Nat.one_mul, Nat.reduceAdd, Nat.reduceSub, Nat.reduceMul, Nat.reduceLT, Nat.reduceLeDiff, Nat.reduceEqDiff, true_and, and_true, true_implies, if_true, if_false, ite_true, reduceIte, ne_eq, not_false_eq_true, reduceCtorEq, forall_const, bne_self_eq_false, Bool.true_eq_false, Bool.false_eq_true, false_implies, and_self, implies_true, Int.toNat_zero, beq_self_eq_true, decide_true, decide_false, Bool.not_true, Bool.not_false, ↓y_lookv, y_key1, y_mlook, y_mlookn, y_mres1, y_mres0, ↓y_call, ↓y_adq0, ↓y_adq, ↓y_stepQ_call, ↓y_adq_onT, ↓y_adq_onF, ↓y_adq_onS, drawPost, isCall, isNew, isEff, Option.toList, or_false, false_or, cond_true, cond_false, not_true_eq_false, or_true, true_or, Nat.add_left_cancel_iff, Bool.false_eq_true, ↓y_q0, ↓y_q1, ↓y_q1e, y_qn, isMap, List.length_map, c0, c1, decide_true, decide_false]
      exact fin_bool hl (by simp [occN, c1])
  · simp -implicitDefEqProofs only [↓symPre, symPost, y_condP, y_condG, run, lver, minD, intsD, eqAll, tupD, splice, Nat.zero_add, Nat.add_zero, Nat.zero_mul, Nat.mul_one, Nat.one_mul, Nat.reduceAdd, Nat.reduceSub, Nat.reduceMul, Nat.reduceLT, Nat.reduceLeDiff, Nat.reduceEqDiff, true_and, and_true, true_implies, if_true, if_false, ite_true, reduceIte, ne_eq, not_false_eq_true, reduceCtorEq, forall_const, bne_self_eq_false, Bool.true_eq_false, Bool.false_eq_true, false_implies, and_self, implies_true, Int.toNat_zero, beq_self_eq_true, decide_true, decide_false, Bool.not_true, Bool.not_false, ↓y_lookv, y_key1, y_mlook, y_mlookn, y_mres1, y_mres0, ↓y_call]
    refine adrawq hmix [] ?_
    simp (maxSteps := 400000) -implicitDefEqProofs only [↓symPre, symPost, y_condP, y_condG, run, lver, minD, intsD, eqAll, tupD, splice, Nat.zero_add, Nat.add_zero, Nat.zero_mul, Nat.mul_one, Nat.one_mul, Nat.reduceAdd, Nat.reduceSub, Nat.reduceMul, Nat.reduceLT, Nat.reduceLeDiff, Nat.reduceEqDiff, true_and, and_true, true_implies, if_true, if_false, ite_true, reduceIte, ne_eq, not_false_eq_true, reduceCtorEq, forall_const, bne_self_eq_false, Bool.true_eq_false, Bool.false_eq_true, false_implies, and_self, implies_true, Int.toNat_zero, beq_self_eq_true, decide_true, decide_false, Bool.not_true, Bool.not_false, ↓y_lookv, y_key1, y_mlook, y_mlookn, y_mres1, y_mres0, ↓y_call, ↓y_adq0, ↓y_adq, ↓y_stepQ_call, ↓y_adq_onT, ↓y_adq_onF, ↓y_adq_onS, drawPost, isCall, isNew, isEff, Option.toList, or_false, false_or, cond_true, cond_false, not_true_eq_false, or_true, true_or, Nat.add_left_cancel_iff, Bool.false_eq_true, ↓y_q0, ↓y_q1, ↓y_q1e, y_qn, isMap, List.length_map, c0, decide_false]
    exact fin_bool hl (by simp [occN]; omega)

/-! ### sizes -/
def sz : Ex → Nat
  | .mk _ _ _ _ xs => 1 + (xs.map sz).sum
theorem sz_mk (k n a r : Int) (xs : List Ex) : sz (.mk k n a r xs) = 1 + (xs.map sz).sum := by rw [sz]
theorem sz_pos (x : Ex) : 1 ≤ sz x := by cases x; rw [sz_mk]; omega
def argsE : Ex → List Ex
  | .mk _ _ _ _ xs => xs
theorem nth_exs (xs : List Ex) (i : Nat) (hi : i < xs.length) : nth (xs.map exD) i = exD xs[i] := by
  simp [nth, List.getD, hi]
theorem sz_take_succ (xs : List Ex) (i : Nat) (hi : i < xs.length) : ((xs.take (i + 1)).map sz).sum = ((xs.take i).map sz).sum + sz xs[i] := by
  rw [List.take_succ_eq_append_getElem hi, List.map_append, List.sum_append]; simp
theorem sz_take_le : ∀ (xs : List Ex) (i : Nat), ((xs.take i).map sz).sum ≤ (xs.map sz).sum
  | [], i => by simp
  | x :: xs, 0 => by simp
  | x :: xs, i + 1 => by
    have := sz_take_le xs i
    simp only [List.take_succ_cons, List.map_cons, List.sum_cons]; omega
theorem sz_mem {xs : List Ex} {x : Ex} (hx : x ∈ xs) : sz x ≤ (xs.map sz).sum := by
  induction xs with
  | nil => cases hx
  | cons y ys ih =>
    simp only [List.map_cons, List.sum_cons]
    rcases List.mem_cons.1 hx with rfl | h
    · omega
    · have := ih h; omega
theorem len_le_sz : ∀ xs : List Ex, xs.length ≤ (xs.map sz).sum
  | [] => Nat.le_refl _
  | x :: xs => by
    have := len_le_sz xs
    have := sz_pos x
    simp only [List.map_cons, List.sum_cons, List.length_cons]; omega

set_option maxHeartbeats 1000000 in
theorem pure_size : ∀ (x : Ex), sz x < 2 ^ 60 → Pure prog F_attr_size [exD x] (.int .i64 (sz x))
  | .mk kd nn aa rr xs, hsz => by
    have hrec : ∀ y ∈ xs, Pure prog F_attr_size [exD y] (.int .i64 (sz y)) := fun y hy => pure_size y (by have := sz_mem hy; rw [sz_mk] at hsz; omega)
    have hszm := sz_mk kd nn aa rr xs
    have hkl := len_le_sz xs
    rw [exD_mk]
    intro n h
    refine K_attr_size.calls fun hl => ?_
    unfold C_attr_size
    have hlx := low_exs n xs
    simp -implicitDefEqProofs only [↓symPre, symPost, y_condP, y_condG, run, lver, minD, intsD, eqAll, tupD, splice, Nat.zero_add, Nat.add_zero, Nat.zero_mul, Nat.mul_one, Nat.one_mul, Nat.reduceAdd, Nat.reduceSub, Nat.reduceMul, Nat.reduceLT, Nat.reduceLeDiff, Nat.reduceEqDiff, true_and, and_true, true_implies, if_true, if_false, ite_true, reduceIte, ne_eq, not_false_eq_true, reduceCtorEq, forall_const, bne_self_eq_false, Bool.true_eq_false, Bool.false_eq_true, false_implies, and_self, implies_true, Int.toNat_zero, beq_self_eq_true, decide_true, decide_false, Bool.not_true, Bool.not_false, ↓y_lookv, y_key1, y_mlook, y_mlookn, y_mres1, y_mres0, ↓y_call, List.length_map]
    refine aloop (fun q : Nat × List D => St.mk n ([.top, .top, .int .i64 0, .int .i64 ((1 + ((xs.take q.1).map sz).sum : Nat) : Int), .top] ++ List.replicate 2 .top ++ [.lst (xs.map exD), .int .i64 xs.length, .int .i64 q.1] ++ List.replicate 9 .top) h (List.replicate 19 blk0))
      (fun q => q.1 ≤ xs.length) (fun q => xs.length - q.1) (0, []) (Nat.zero_le _) ?_ ?_
    · refine le_to (List.replicate 19 .hole) hl rfl ?_ ?_ <;> ((try simp only [y_blk_end, y_blk_hole, y_blk_nil, y_blk_old, y_wkl_end, y_wkl_top, List.replicate, List.cons_append, List.nil_append, and_true, true_and]) <;> (repeat' (first | apply And.intro | apply y_wkl | refine Exists.intro _ (And.intro rfl ?_))) <;> (try first | exact trivial | exact Wk.top _ | exact wk_int rfl | exact wk_bool rfl | exact wk_ptr rfl rfl rfl rfl | exact wk_ref rfl rfl rfl rfl rfl | exact wk_nil rfl rfl rfl | exact wk_ref rfl rfl rfl rfl (by simp) | exact wk_ref rfl rfl rfl rfl (by simp; omega) | exact wk_old (by assumption) (by simp) | exact wk_eq rfl (by first | exact Bd.int _ _ | exact Bd.bool _ | exact Bd.abool | exact Bd.nils | exact Bd.emp | exact Bd.nilp | exact Bd.nilfn | assumption | exact low_trees _ _ | exact low_treeD _ _ | exact low_ints _ _) | exact Nat.le_refl _ | exact wk_int (by simp) | exact wk_int (by omega) | exact Nat.succ_le_succ (Nat.zero_le _) | exact Nat.le_add_left _ _ | omega))
    · rintro ⟨i, _⟩ hi
      simp only at hi
      by_cases hlt : i < xs.length
      · have f1 : (i : Int) < (xs.length : Int) := by omega
        have f0 : (0 : Int) ≤ (i : Int) := by omega
        have hst := sz_take_succ xs i hlt
        have hle := sz_take_le xs (i + 1)
        have w1 : IntKind.i64.wrap ((i : Int) + 1) = ((i + 1 : Nat) : Int) := by rw [IntWalk.i64_in _ (by omega)]; omega
        have w2 : IntKind.i64.wrap (((1 + ((xs.take i).map sz).sum : Nat) : Int) + ((sz xs[i] : Nat) : Int)) = ((1 + ((xs.take (i + 1)).map sz).sum : Nat) : Int) := by rw [IntWalk.i64_in _ (by omega)]; omega
        have e0 := nth_exs xs i hlt
        have py := hrec xs[i] (List.getElem_mem hlt)
        have hly := low_exD n xs[i]
        have hcy := exD_cells xs[i]
        generalize xs[i] = y at *
        obtain ⟨yk, yn, ya, yr, ys, rfl⟩ : ∃ k n a r l, y = .mk k n a r l := by cases y; exact ⟨_, _, _, _, _, rfl⟩
        rw [exD_mk] at e0 py
        have hlys := low_exs n ys
        simp -implicitDefEqProofs only [↓symPre, symPost, y_condP, y_condG, run, lver, minD, intsD, eqAll, tupD, splice, Nat.zero_add, Nat.add_zero, Nat.zero_mul, Nat.mul_one, Nat.one_mul, Nat.reduceAdd, Nat.reduceSub, Nat.reduceMul, Nat.reduceLT, Nat.reduceLeDiff, Nat.reduceEqDiff, true_and, and_true, true_implies, if_true, if_false, ite_true, reduceIte, ne_eq, not_false_eq_true, reduceCtorEq, forall_const, bne_self_eq_false, Bool.true_eq_false, Bool.false_eq_true, false_implies, and_self, implies_true, Int.toNat_zero, beq_self_eq_true, decide_true, decide_false, Bool.not_true, Bool.not_false, ↓y_lookv, y_key1, y_mlook, y_mlookn, y_mres1, y_mres0, ↓y_call, f1, f0, decide_true, List.length_map, Int.toNat_natCast, e0]
        refine py.call rfl ?_
        simp -implicitDefEqProofs only [↓symPre, symPost, y_condP, y_condG, run, lver, minD, intsD, eqAll, tupD, splice, Nat.zero_add, Nat.add_zero, Nat.zero_mul, Nat.mul_one, Nat.one_mul, Nat.reduceAdd, Nat.reduceSub, Nat.reduceMul, Nat.reduceLT, Nat.reduceLeDiff, Nat.reduceEqDiff, true_and, and_true, true_implies, if_true, if_false, ite_true, reduceIte, ne_eq, not_false_eq_true, reduceCtorEq, forall_const, bne_self_eq_false, Bool.true_eq_false, Bool.false_eq_true, false_implies, and_self, implies_true, Int.toNat_zero, beq_self_eq_true, decide_true, decide_false, Bool.not_true, Bool.not_false, ↓y_lookv, y_key1, y_mlook, y_mlookn, y_mres1, y_mres0, ↓y_call, w1, w2]
        refine ⟨(i + 1, []), by simp only; omega, by simp only; omega, ?_⟩
        refine le_to (List.replicate 19 .hole) hl rfl ?_ ?_ <;> ((try simp only [y_blk_end, y_blk_hole, y_blk_nil, y_blk_old, y_wkl_end, y_wkl_top, List.replicate, List.cons_append, List.nil_append, and_true, true_and]) <;> (repeat' (first | apply And.intro | apply y_wkl | refine Exists.intro _ (And.intro rfl ?_))) <;> (try first | exact trivial | exact Wk.top _ | exact wk_int rfl | exact wk_bool rfl | exact wk_ptr rfl rfl rfl rfl | exact wk_ref rfl rfl rfl rfl rfl | exact wk_nil rfl rfl rfl | exact wk_ref rfl rfl rfl rfl (by simp) | exact wk_ref rfl rfl rfl rfl (by simp; omega) | exact wk_old (by assumption) (by simp) | exact wk_eq rfl (by first | exact Bd.int _ _ | exact Bd.bool _ | exact Bd.abool | exact Bd.nils | exact Bd.emp | exact Bd.nilp | exact Bd.nilfn | assumption | exact low_trees _ _ | exact low_treeD _ _ | exact low_ints _ _) | exact Nat.le_refl _ | exact wk_int (by simp) | exact wk_int (by omega) | exact Nat.succ_le_succ (Nat.zero_le _) | exact Nat.le_add_left _ _ | omega))
      · have f1 : ¬ (i : Int) < (xs.length : Int) := by omega
        have hil : i = xs.length := by omega
        subst hil
        rw [List.take_length]
        simp -implicitDefEqProofs only [↓symPre, symPost, y_condP, y_condG, run, lver, minD, intsD, eqAll, tupD, splice, Nat.zero_add, Nat.add_zero, Nat.zero_mul, Nat.mul_one, Nat.one_mul, Nat.reduceAdd, Nat.reduceSub, Nat.reduceMul, Nat.reduceLT, Nat.reduceLeDiff, Nat.reduceEqDiff, true_and, and_true, true_implies, if_true, if_false, ite_true, reduceIte, ne_eq, not_false_eq_true, reduceCtorEq, forall_const, bne_self_eq_false, Bool.true_eq_false, Bool.false_eq_true, false_implies, and_self, implies_true, Int.toNat_zero, beq_self_eq_true, decide_true, decide_false, Bool.not_true, Bool.not_false, ↓y_lookv, y_key1, y_mlook, y_mlookn, y_mres1, y_mres0, ↓y_call, f1, decide_false]
        exact fin_int hl (by rw [hszm])

/-! ### all nodes -/
def exL : Ex → List Ex
  | .mk k n a r xs => .mk k n a r xs :: (xs.map exL).flatten
theorem exL_mk (k n a r : Int) (xs : List Ex) : exL (.mk k n a r xs) = .mk k n a r xs :: (xs.map exL).flatten := by rw [exL]
theorem exL_len : ∀ x : Ex, (exL x).length = sz x
  | .mk k n a r xs => by
    rw [exL_mk, sz_mk, List.length_cons, List.length_flatten, List.map_map]
    have : xs.map (List.length ∘ exL) = xs.map sz := List.map_congr_left fun y hy => exL_len y
    rw [this]; omega
theorem exL_take_len (xs : List Ex) : ((xs.map exL).flatten).length = (xs.map sz).sum := by
  rw [List.length_flatten, List.map_map]
  have : xs.map (List.length ∘ exL) = xs.map sz := List.map_congr_left fun y hy => exL_len y
  rw [this]
theorem exL_take_succ (xs : List Ex) (i : Nat) (hi : i < xs.length) : ((xs.take (i + 1)).map exL).flatten = ((xs.take i).map exL).flatten ++ exL xs[i] := by
  rw [List.take_succ_eq_append_getElem hi, List.map_append, List.flatten_append]; simp

end Abs
end Go.Proofs.Ytbdcklchcdkhbaa

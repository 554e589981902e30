/- Edits composed. -/
import Derived.Test.YtcdbikoonobodaaD9
namespace Go.Proofs.Ytcdbikoonobodaa
namespace Abs
set_option linter.unusedVariables false
set_option linter.unusedSimpArgs false
set_option maxRecDepth 20000

theorem len_applyL {w : List Int} {e : Ed} (h : okE w.length e) : ((applyL w e).length : Int) = w.length + shiftE e := by
  obtain ⟨q1, q2, q3⟩ := h
  simp only [applyL, shiftE, List.length_append, List.length_take, List.length_drop]
  omega

def compE (w : List Int) (a b : Ed) : Ed :=
  ⟨min a.f b.f, max (a.f + a.w.length) b.t - shiftE a, ((applyL (applyL w a) b).drop (min a.f b.f).toNat).take ((max (a.f + a.w.length) b.t + shiftE b).toNat - (min a.f b.f).toNat)⟩

theorem pure_ComposeOk {w : List Int} {a b : Ed} (hw : w.length * 8 ≤ 140737488351232) (ha : a.w.length * 8 ≤ 140737488351232) (hb : b.w.length * 8 ≤ 140737488351232) (h1 : chk w.length a = 0) (h2 : chk (applyL w a).length b = 0) :
    Pure prog F_edit_Compose [iD w, edD a, edD b] (.tup [edD (compE w a b), .int .i64 0]) := by
  intro n h
  obtain ⟨a1, a2, a3⟩ := chk_ok h1
  have z1 := (chk_zero h1).2
  obtain ⟨b1, b2, b3⟩ := chk_ok h2
  have z2 := (chk_zero h2).2
  have l1 := len_applyL (chk_ok h1)
  have l2 := len_applyL (chk_ok h2)
  have pA := pure_ApplyOk (w := w) (e := a) (by omega) (by omega) h1
  have hsa : shiftE a = a.w.length - (a.t - a.f) := rfl
  have hsb : shiftE b = b.w.length - (b.t - b.f) := rfl
  have pB := pure_ApplyOk (w := applyL w a) (e := b) (by omega) (by omega) h2
  have pSa := pure_shift a (by omega) (by omega) (by omega)
  have pSb := pure_shift b (by omega) (by omega) (by omega)
  have pC := pure_CloneI (((applyL (applyL w a) b).drop (min a.f b.f).toNat).take ((max (a.f + a.w.length) b.t + shiftE b).toNat - (min a.f b.f).toNat)) (by simp; omega)
  have w1 : IntKind.i64.wrap (a.f + (a.w.length : Int)) = a.f + a.w.length := IntWalk.i64_in _ (by omega)
  have w2 : IntKind.i64.wrap (max (a.f + (a.w.length : Int)) b.t - shiftE a) = max (a.f + (a.w.length : Int)) b.t - shiftE a := IntWalk.i64_in _ (by omega)
  have w3 : IntKind.i64.wrap (max (a.f + (a.w.length : Int)) b.t + shiftE b) = max (a.f + (a.w.length : Int)) b.t + shiftE b := IntWalk.i64_in _ (by omega)
  have c1 : 0 ≤ min a.f b.f := by omega
  have c2 : min a.f b.f ≤ max (a.f + (a.w.length : Int)) b.t + shiftE b := by omega
  have c3 : max (a.f + (a.w.length : Int)) b.t + shiftE b ≤ ((applyL (applyL w a) b).length : Int) := by omega
  unfold iD at pC
  rw [List.map_take, List.map_drop] at pC
  have hmx : (if b.t > a.f + (a.w.length : Int) then b.t else a.f + (a.w.length : Int)) = max (a.f + (a.w.length : Int)) b.t := by split <;> omega
  have hmi : (if b.f < a.f then b.f else a.f) = min a.f b.f := by split <;> omega
  refine K_edit_Compose.calls fun hl => ?_
  unfold compE
  unfold C_edit_Compose
  generalize applyL (applyL w a) b = L at *
  generalize applyL w a = M at *
  unfold edD at pA pB pSa pSb ⊢
  simp -implicitDefEqProofs only [↓symPre, symPost, y_condP, y_condG, run, lver, minD, intsD, eqAll, tupD, splice, Nat.zero_add, Nat.add_zero, Nat.zero_mul, Nat.mul_one, Nat.one_mul, Nat.reduceAdd, Nat.reduceSub, Nat.reduceMul, Nat.reduceLT, Nat.reduceLeDiff, Nat.reduceEqDiff, true_and, and_true, true_implies, if_true, if_false, ite_true, reduceIte, ne_eq, not_false_eq_true, reduceCtorEq, forall_const, bne_self_eq_false, Bool.true_eq_false, Bool.false_eq_true, false_implies, and_self, implies_true, Int.toNat_zero, beq_self_eq_true, decide_true, decide_false, Bool.not_true, Bool.not_false, ↓y_lookv, y_key1, y_mlook, y_mlookn, y_mres1, y_mres0, ↓y_call]
  refine pA.call rfl ?_
  simp -implicitDefEqProofs only [↓symPre, symPost, y_condP, y_condG, run, lver, minD, intsD, eqAll, tupD, splice, Nat.zero_add, Nat.add_zero, Nat.zero_mul, Nat.mul_one, Nat.one_mul, Nat.reduceAdd, Nat.reduceSub, Nat.reduceMul, Nat.reduceLT, Nat.reduceLeDiff, Nat.reduceEqDiff, true_and, and_true, true_implies, if_true, if_false, ite_true, reduceIte, ne_eq, not_false_eq_true, reduceCtorEq, forall_const, bne_self_eq_false, Bool.true_eq_false, Bool.false_eq_true, false_implies, and_self, implies_true, Int.toNat_zero, beq_self_eq_true, decide_true, decide_false, Bool.not_true, Bool.not_false, ↓y_lookv, y_key1, y_mlook, y_mlookn, y_mres1, y_mres0, ↓y_call]
  refine pB.call rfl ?_
  simp -implicitDefEqProofs only [↓symPre, symPost, y_condP, y_condG, run, lver, minD, intsD, eqAll, tupD, splice, Nat.zero_add, Nat.add_zero, Nat.zero_mul, Nat.mul_one, Nat.one_mul, Nat.reduceAdd, Nat.reduceSub, Nat.reduceMul, Nat.reduceLT, Nat.reduceLeDiff, Nat.reduceEqDiff, true_and, and_true, true_implies, if_true, if_false, ite_true, reduceIte, ne_eq, not_false_eq_true, reduceCtorEq, forall_const, bne_self_eq_false, Bool.true_eq_false, Bool.false_eq_true, false_implies, and_self, implies_true, Int.toNat_zero, beq_self_eq_true, decide_true, decide_false, Bool.not_true, Bool.not_false, ↓y_lookv, y_key1, y_mlook, y_mlookn, y_mres1, y_mres0, ↓y_call, List.length_map, w1, List.foldl_cons, List.foldl_nil, hmx, hmi]
  refine adrawq hmix (List.replicate 14 [] ++ [[n + 6]]) ?_
  simp (maxSteps := 400000) -implicitDefEqProofs only [↓symPre, symPost, y_condP, y_condG, run, lver, minD, intsD, eqAll, tupD, splice, Nat.zero_add, Nat.add_zero, Nat.zero_mul, Nat.mul_one, Nat.one_mul, Nat.reduceAdd, Nat.reduceSub, Nat.reduceMul, Nat.reduceLT, Nat.reduceLeDiff, Nat.reduceEqDiff, true_and, and_true, true_implies, if_true, if_false, ite_true, reduceIte, ne_eq, not_false_eq_true, reduceCtorEq, forall_const, bne_self_eq_false, Bool.true_eq_false, Bool.false_eq_true, false_implies, and_self, implies_true, Int.toNat_zero, beq_self_eq_true, decide_true, decide_false, Bool.not_true, Bool.not_false, ↓y_lookv, y_key1, y_mlook, y_mlookn, y_mres1, y_mres0, ↓y_call, ↓y_adq0, ↓y_adq, ↓y_stepQ_call, ↓y_adq_onT, ↓y_adq_onF, ↓y_adq_onS, drawPost, isCall, isNew, isEff, Option.toList, or_false, false_or, cond_true, cond_false, not_true_eq_false, or_true, true_or, Nat.add_left_cancel_iff, Bool.false_eq_true, ↓y_q0, ↓y_q1, ↓y_q1e, y_qn, isMap, List.flatMap_cons, List.flatMap_nil, List.append_nil]
  refine ⟨_, _, pSa.draw rfl, (by simp [y_cov0, y_cov1, isNew, isEff, Option.toList]), ?_⟩
  simp (maxSteps := 400000) -implicitDefEqProofs only [↓symPre, symPost, y_condP, y_condG, run, lver, minD, intsD, eqAll, tupD, splice, Nat.zero_add, Nat.add_zero, Nat.zero_mul, Nat.mul_one, Nat.one_mul, Nat.reduceAdd, Nat.reduceSub, Nat.reduceMul, Nat.reduceLT, Nat.reduceLeDiff, Nat.reduceEqDiff, true_and, and_true, true_implies, if_true, if_false, ite_true, reduceIte, ne_eq, not_false_eq_true, reduceCtorEq, forall_const, bne_self_eq_false, Bool.true_eq_false, Bool.false_eq_true, false_implies, and_self, implies_true, Int.toNat_zero, beq_self_eq_true, decide_true, decide_false, Bool.not_true, Bool.not_false, ↓y_lookv, y_key1, y_mlook, y_mlookn, y_mres1, y_mres0, ↓y_call, ↓y_adq0, ↓y_adq, ↓y_stepQ_call, ↓y_adq_onT, ↓y_adq_onF, ↓y_adq_onS, drawPost, isCall, isNew, isEff, Option.toList, or_false, false_or, cond_true, cond_false, not_true_eq_false, or_true, true_or, Nat.add_left_cancel_iff, Bool.false_eq_true, ↓y_q0, ↓y_q1, ↓y_q1e, y_qn, isMap, w2]
  refine ⟨_, _, pSb.draw rfl, (by simp [y_cov0, y_cov1, isNew, isEff, Option.toList]), ?_⟩
  simp (maxSteps := 400000) -implicitDefEqProofs only [↓symPre, symPost, y_condP, y_condG, run, lver, minD, intsD, eqAll, tupD, splice, Nat.zero_add, Nat.add_zero, Nat.zero_mul, Nat.mul_one, Nat.one_mul, Nat.reduceAdd, Nat.reduceSub, Nat.reduceMul, Nat.reduceLT, Nat.reduceLeDiff, Nat.reduceEqDiff, true_and, and_true, true_implies, if_true, if_false, ite_true, reduceIte, ne_eq, not_false_eq_true, reduceCtorEq, forall_const, bne_self_eq_false, Bool.true_eq_false, Bool.false_eq_true, false_implies, and_self, implies_true, Int.toNat_zero, beq_self_eq_true, decide_true, decide_false, Bool.not_true, Bool.not_false, ↓y_lookv, y_key1, y_mlook, y_mlookn, y_mres1, y_mres0, ↓y_call, ↓y_adq0, ↓y_adq, ↓y_stepQ_call, ↓y_adq_onT, ↓y_adq_onF, ↓y_adq_onS, drawPost, isCall, isNew, isEff, Option.toList, or_false, false_or, cond_true, cond_false, not_true_eq_false, or_true, true_or, Nat.add_left_cancel_iff, Bool.false_eq_true, ↓y_q0, ↓y_q1, ↓y_q1e, y_qn, isMap, w3, List.length_map, c1, c2, c3, ints_cells]
  refine ⟨_, _, pC.draw rfl, (by simp [y_cov0, y_cov1, isNew, isEff, Option.toList]), ?_⟩
  simp (maxSteps := 400000) -implicitDefEqProofs only [↓symPre, symPost, y_condP, y_condG, run, lver, minD, intsD, eqAll, tupD, splice, Nat.zero_add, Nat.add_zero, Nat.zero_mul, Nat.mul_one, Nat.one_mul, Nat.reduceAdd, Nat.reduceSub, Nat.reduceMul, Nat.reduceLT, Nat.reduceLeDiff, Nat.reduceEqDiff, true_and, and_true, true_implies, if_true, if_false, ite_true, reduceIte, ne_eq, not_false_eq_true, reduceCtorEq, forall_const, bne_self_eq_false, Bool.true_eq_false, Bool.false_eq_true, false_implies, and_self, implies_true, Int.toNat_zero, beq_self_eq_true, decide_true, decide_false, Bool.not_true, Bool.not_false, ↓y_lookv, y_key1, y_mlook, y_mlookn, y_mres1, y_mres0, ↓y_call, ↓y_adq0, ↓y_adq, ↓y_stepQ_call, ↓y_adq_onT, ↓y_adq_onF, ↓y_adq_onS, drawPost, isCall, isNew, isEff, Option.toList, or_false, false_or, cond_true, cond_false, not_true_eq_false, or_true, true_or, Nat.add_left_cancel_iff, Bool.false_eq_true, ↓y_q0, ↓y_q1, ↓y_q1e, y_qn, isMap]
  refine ⟨by rintro c (rfl | rfl | rfl) <;> rfl, ?_⟩
  refine fin_wk hl (wk_tup2 ?_ wk_i) ⟨rfl, rfl, rfl⟩
  exact wk_agg3 wk_i wk_i (by rw [← List.map_drop, ← List.map_take]; exact wk_iD)

theorem take_applyL {w : List Int} {f t : Nat} {nw : List Int} {k : Nat} (h : k ≤ f) (hf : f ≤ w.length) : (applyL w ⟨f, t, nw⟩).take k = w.take k := by
  simp only [applyL, Int.toNat_natCast]
  rw [List.take_append_of_le_length (by simp; omega), List.take_take, Nat.min_eq_left h]
theorem drop_applyL {w : List Int} {f t : Nat} {nw : List Int} {d : Nat} (hf : f ≤ w.length) : (applyL w ⟨f, t, nw⟩).drop (f + nw.length + d) = w.drop (t + d) := by
  simp only [applyL, Int.toNat_natCast]
  rw [← List.drop_drop, ← List.append_assoc, List.drop_left' (by simp [hf]), List.drop_drop]

theorem comp_law {w : List Int} {a b : Ed} (ha : okE w.length a) (hb : okE (applyL w a).length b) :
    okE w.length (compE w a b) ∧ applyL w (compE w a b) = applyL (applyL w a) b ∧ (compE w a b).w.length ≤ (applyL (applyL w a) b).length := by
  have l1 := len_applyL ha
  have l2 := len_applyL hb
  obtain ⟨fa, ta, na⟩ := a
  obtain ⟨fb, tb, nb⟩ := b
  obtain ⟨a1, a2, a3⟩ := ha
  obtain ⟨b1, b2, b3⟩ := hb
  simp only [shiftE] at a1 a2 a3 b1 b2 b3 l1 l2
  obtain ⟨fa, rfl⟩ : ∃ m : Nat, fa = m := ⟨fa.toNat, by omega⟩
  obtain ⟨ta, rfl⟩ : ∃ m : Nat, ta = m := ⟨ta.toNat, by omega⟩
  obtain ⟨fb, rfl⟩ : ∃ m : Nat, fb = m := ⟨fb.toNat, by omega⟩
  obtain ⟨tb, rfl⟩ : ∃ m : Nat, tb = m := ⟨tb.toNat, by omega⟩
  have T1 : ∀ k, k ≤ fa → (applyL w ⟨fa, ta, na⟩).take k = w.take k := fun k hk => take_applyL hk (by omega)
  have T2 : ∀ k, k ≤ fb → (applyL (applyL w ⟨fa, ta, na⟩) ⟨fb, tb, nb⟩).take k = (applyL w ⟨fa, ta, na⟩).take k := fun k hk => take_applyL hk (by omega)
  have D1 : ∀ d, (applyL w ⟨fa, ta, na⟩).drop (fa + na.length + d) = w.drop (ta + d) := fun d => drop_applyL (by omega)
  have D2 : ∀ d, (applyL (applyL w ⟨fa, ta, na⟩) ⟨fb, tb, nb⟩).drop (fb + nb.length + d) = (applyL w ⟨fa, ta, na⟩).drop (tb + d) := fun d => drop_applyL (by omega)
  unfold compE
  generalize applyL (applyL w ⟨fa, ta, na⟩) ⟨fb, tb, nb⟩ = L at *
  generalize applyL w ⟨fa, ta, na⟩ = M at *
  simp only [shiftE]
  -- in natural numbers
  obtain ⟨lo, hlo⟩ : ∃ m : Nat, m = min fa fb := ⟨_, rfl⟩
  obtain ⟨d1, hd1⟩ : ∃ m : Nat, m + (fa + na.length) = max (fa + na.length) tb := ⟨max (fa + na.length) tb - (fa + na.length), by omega⟩
  obtain ⟨d2, hd2⟩ : ∃ m : Nat, m + tb = max (fa + na.length) tb := ⟨max (fa + na.length) tb - tb, by omega⟩
  have e1 : (min (fa : Int) fb) = lo := by omega
  have e2 : max ((fa : Int) + na.length) tb - ((na.length : Int) - ((ta : Int) - fa)) = (ta + d1 : Nat) := by omega
  have e3 : max ((fa : Int) + na.length) tb + ((nb.length : Int) - ((tb : Int) - fb)) = (fb + nb.length + d2 : Nat) := by omega
  rw [e1, e2, e3]
  simp only [Int.toNat_natCast]
  have hD : L.drop (fb + nb.length + d2) = w.drop (ta + d1) := by
    rw [D2, ← D1, show tb + d2 = fa + na.length + d1 by omega]
  have hT : L.take lo = w.take lo := by rw [T2 lo (by omega), T1 lo (by omega)]
  refine ⟨?_, ?_, ?_⟩
  · simp only [okE]
    omega
  · simp only [applyL, Int.toNat_natCast]
    rw [← hT, ← hD]
    have h1 : (L.drop lo).drop (fb + nb.length + d2 - lo) = L.drop (fb + nb.length + d2) := by
      rw [List.drop_drop]; congr 1; omega
    rw [← h1, List.take_append_drop, List.take_append_drop]
  · simp only [List.length_take, List.length_drop]
    omega

end Abs
end Go.Proofs.Ytcdbikoonobodaa

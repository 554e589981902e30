/- Whether an attribute is defined; the reference's occurrences. -/
import Derived.Test.YtbdcklchcdkhbaaQ4
namespace Go.Proofs.Ytbdcklchcdkhbaa
namespace Abs
set_option linter.unusedVariables false
set_option linter.unusedSimpArgs false
set_option maxRecDepth 20000

def defN (s : Sys) (k r : Int) : Bool := (s.attrs.getD r.toNat at0).inh == decide (k > 0)

theorem pure_defined (s : Sys) (k : Int) (i : Nat) (hi : i < s.attrs.length) : Pure prog F_attr_System_defined [sysD s, .agg [.int .i64 k, .int .i64 i]] (.bool (defN s k i)) := by
  intro n h
  refine K_attr_System_defined.calls fun hl => ?_
  unfold C_attr_System_defined sysD
  have hla := low_ats n s.attrs
  have hle := low_eqs n s.eqs
  have e0 := nth_at s.attrs i hi
  have i0 : (0 : Int) ≤ (i : Int) := by omega
  have i1 : (i : Int) < (s.attrs.length : Int) := by omega
  have hd : defN s k i = ((s.attrs.getD i at0).inh == decide (k > 0)) := by simp [defN]
  generalize s.attrs.getD i at0 = a at *
  simp -implicitDefEqProofs only [↓symPre, symPost, y_condP, y_condG, run, lver, minD, intsD, eqAll, tupD, splice, Nat.zero_add, Nat.add_zero, Nat.zero_mul, Nat.mul_one, Nat.one_mul, Nat.reduceAdd, Nat.reduceSub, Nat.reduceMul, Nat.reduceLT, Nat.reduceLeDiff, Nat.reduceEqDiff, true_and, and_true, true_implies, if_true, if_false, ite_true, reduceIte, ne_eq, not_false_eq_true, reduceCtorEq, forall_const, bne_self_eq_false, Bool.true_eq_false, Bool.false_eq_true, false_implies, and_self, implies_true, Int.toNat_zero, beq_self_eq_true, decide_true, decide_false, Bool.not_true, Bool.not_false, ↓y_lookv, y_key1, y_mlook, y_mlookn, y_mres1, y_mres0, ↓y_call]
  refine adrawq hmix [] ?_
  simp (maxSteps := 400000) -implicitDefEqProofs only [↓symPre, symPost, y_condP, y_condG, run, lver, minD, intsD, eqAll, tupD, splice, Nat.zero_add, Nat.add_zero, Nat.zero_mul, Nat.mul_one, Nat.one_mul, Nat.reduceAdd, Nat.reduceSub, Nat.reduceMul, Nat.reduceLT, Nat.reduceLeDiff, Nat.reduceEqDiff, true_and, and_true, true_implies, if_true, if_false, ite_true, reduceIte, ne_eq, not_false_eq_true, reduceCtorEq, forall_const, bne_self_eq_false, Bool.true_eq_false, Bool.false_eq_true, false_implies, and_self, implies_true, Int.toNat_zero, beq_self_eq_true, decide_true, decide_false, Bool.not_true, Bool.not_false, ↓y_lookv, y_key1, y_mlook, y_mlookn, y_mres1, y_mres0, ↓y_call, ↓y_adq0, ↓y_adq, ↓y_stepQ_call, ↓y_adq_onT, ↓y_adq_onF, ↓y_adq_onS, drawPost, isCall, isNew, isEff, Option.toList, or_false, false_or, cond_true, cond_false, not_true_eq_false, or_true, true_or, Nat.add_left_cancel_iff, Bool.false_eq_true, ↓y_q0, ↓y_q1, ↓y_q1e, y_qn, isMap, List.length_map, i0, i1, e0, Int.toNat_natCast]
  refine fin_bool hl ?_
  rw [hd]; simp

/-! ### the reference's -/
set_option maxHeartbeats 4000000 in
theorem pure_at (g : Gr) (rule : Nat) (k : Int) (hr : rule < g.rules.length) (hx : ∀ r ∈ g.rules, r.right.length < 2 ^ 40) : Pure prog F_parlref4_at [gramD g, .int .i64 rule, .int .i64 k] (.int .i64 (symN g rule k)) := by
  intro n h
  refine K_parlref4_at.calls fun hl => ?_
  unfold C_parlref4_at gramD
  have e0 := nth_rule g rule hr
  have h0 : (0 : Int) ≤ (rule : Int) := by omega
  have h1 : (rule : Int) < (g.rules.length : Int) := by omega
  have hlr := low_rules n g.rules
  have hxr : (g.rules.getD rule ru0).right.length < 2 ^ 40 := by
    have : g.rules.getD rule ru0 = g.rules[rule] := by simp [List.getD, hr]
    rw [this]; exact hx _ (List.getElem_mem hr)
  have hs : symN g rule k = if k = 0 then (g.rules.getD rule ru0).left else if k < 0 ∨ k > (g.rules.getD rule ru0).right.length then -1 else if ((g.rules.getD rule ru0).right.getD (k - 1).toNat ⟨false, 0⟩).t then -1 else ((g.rules.getD rule ru0).right.getD (k - 1).toNat ⟨false, 0⟩).n := rfl
  generalize g.rules.getD rule ru0 = r at *
  have hls := low_syms n r.right
  have hsc : (∀ x ∈ r.right.map symD, x.cells.length = 2) = True := by
    simp only [eq_iff_iff, iff_true]
    intro x hx
    obtain ⟨y, _, rfl⟩ := List.mem_map.1 hx; rfl
  have hone : (∀ c ∈ cellsF symD r.right, c.one = true) = True := by
    simp only [eq_iff_iff, iff_true]
    intro c hc
    simp only [cellsF, List.mem_flatMap, List.mem_map] at hc
    obtain ⟨d, ⟨y, _, rfl⟩, hc⟩ := hc
    simp [symD, D.cells] at hc
    rcases hc with rfl | rfl <;> rfl
  have hf8 : (1 + r.right.length) * 16 ≤ 140737488355328 := by omega
  have hcl : (cellsF symD r.right).length = r.right.length * 2 := cellsF_len symD symD_cells r.right
  have hcf : (r.right.map symD).flatMap D.cells = cellsF symD r.right := rfl
  have htk : ∀ (a b : D), List.take 2 [a, b] = [a, b] := fun _ _ => rfl
  have k1 : (k ≥ ((1 + r.right.length : Nat) : Int)) ↔ k > (r.right.length : Int) := by omega
  by_cases c1 : k < 0
  · simp -implicitDefEqProofs only [↓symPre, symPost, y_condP, y_condG, run, lver, minD, intsD, eqAll, tupD, splice, Nat.zero_add, Nat.add_zero, Nat.zero_mul, Nat.mul_one, Nat.one_mul, Nat.reduceAdd, Nat.reduceSub, Nat.reduceMul, Nat.reduceLT, Nat.reduceLeDiff, Nat.reduceEqDiff, true_and, and_true, true_implies, if_true, if_false, ite_true, reduceIte, ne_eq, not_false_eq_true, reduceCtorEq, forall_const, bne_self_eq_false, Bool.true_eq_false, Bool.false_eq_true, false_implies, and_self, implies_true, Int.toNat_zero, beq_self_eq_true, decide_true, decide_false, Bool.not_true, Bool.not_false, ↓y_lookv, y_key1, y_mlook, y_mlookn, y_mres1, y_mres0, ↓y_call]
    refine adrawq hmix (List.replicate 14 [] ++ [[n + 15]]) ?_
    simp (maxSteps := 400000) -implicitDefEqProofs only [↓symPre, symPost, y_condP, y_condG, run, lver, minD, intsD, eqAll, tupD, splice, Nat.zero_add, Nat.add_zero, Nat.zero_mul, Nat.mul_one, Nat.one_mul, Nat.reduceAdd, Nat.reduceSub, Nat.reduceMul, Nat.reduceLT, Nat.reduceLeDiff, Nat.reduceEqDiff, true_and, and_true, true_implies, if_true, if_false, ite_true, reduceIte, ne_eq, not_false_eq_true, reduceCtorEq, forall_const, bne_self_eq_false, Bool.true_eq_false, Bool.false_eq_true, false_implies, and_self, implies_true, Int.toNat_zero, beq_self_eq_true, decide_true, decide_false, Bool.not_true, Bool.not_false, ↓y_lookv, y_key1, y_mlook, y_mlookn, y_mres1, y_mres0, ↓y_call, ↓y_adq0, ↓y_adq, ↓y_stepQ_call, ↓y_adq_onT, ↓y_adq_onF, ↓y_adq_onS, drawPost, isCall, isNew, isEff, Option.toList, or_false, false_or, cond_true, cond_false, not_true_eq_false, or_true, true_or, Nat.add_left_cancel_iff, Bool.false_eq_true, ↓y_q0, ↓y_q1, ↓y_q1e, y_qn, isMap, List.length_map, h0, h1, e0, Int.toNat_natCast, srcOf, hsc, hcf, hone, hf8, htk, List.drop_zero, Nat.le_refl, List.replicate, List.cons_append, List.nil_append, List.getD_cons_succ, List.getD_cons_zero, c1, decide_true]
    exact fin_int hl (by rw [hs, if_neg (by omega), if_pos (.inl c1)])
  by_cases c2 : k > (r.right.length : Int)
  · have c3 := k1.2 c2
    simp -implicitDefEqProofs only [↓symPre, symPost, y_condP, y_condG, run, lver, minD, intsD, eqAll, tupD, splice, Nat.zero_add, Nat.add_zero, Nat.zero_mul, Nat.mul_one, Nat.one_mul, Nat.reduceAdd, Nat.reduceSub, Nat.reduceMul, Nat.reduceLT, Nat.reduceLeDiff, Nat.reduceEqDiff, true_and, and_true, true_implies, if_true, if_false, ite_true, reduceIte, ne_eq, not_false_eq_true, reduceCtorEq, forall_const, bne_self_eq_false, Bool.true_eq_false, Bool.false_eq_true, false_implies, and_self, implies_true, Int.toNat_zero, beq_self_eq_true, decide_true, decide_false, Bool.not_true, Bool.not_false, ↓y_lookv, y_key1, y_mlook, y_mlookn, y_mres1, y_mres0, ↓y_call]
    refine adrawq hmix (List.replicate 14 [] ++ [[n + 15]]) ?_
    simp (maxSteps := 400000) -implicitDefEqProofs only [↓symPre, symPost, y_condP, y_condG, run, lver, minD, intsD, eqAll, tupD, splice, Nat.zero_add, Nat.add_zero, Nat.zero_mul, Nat.mul_one, Nat.one_mul, Nat.reduceAdd, Nat.reduceSub, Nat.reduceMul, Nat.reduceLT, Nat.reduceLeDiff, Nat.reduceEqDiff, true_and, and_true, true_implies, if_true, if_false, ite_true, reduceIte, ne_eq, not_false_eq_true, reduceCtorEq, forall_const, bne_self_eq_false, Bool.true_eq_false, Bool.false_eq_true, false_implies, and_self, implies_true, Int.toNat_zero, beq_self_eq_true, decide_true, decide_false, Bool.not_true, Bool.not_false, ↓y_lookv, y_key1, y_mlook, y_mlookn, y_mres1, y_mres0, ↓y_call, ↓y_adq0, ↓y_adq, ↓y_stepQ_call, ↓y_adq_onT, ↓y_adq_onF, ↓y_adq_onS, drawPost, isCall, isNew, isEff, Option.toList, or_false, false_or, cond_true, cond_false, not_true_eq_false, or_true, true_or, Nat.add_left_cancel_iff, Bool.false_eq_true, ↓y_q0, ↓y_q1, ↓y_q1e, y_qn, isMap, List.length_map, h0, h1, e0, Int.toNat_natCast, srcOf, hsc, hcf, hone, hf8, htk, List.drop_zero, Nat.le_refl, List.replicate, List.cons_append, List.nil_append, List.getD_cons_succ, List.getD_cons_zero, c1, c3, decide_true, decide_false]
    exact fin_int hl (by rw [hs, if_neg (by omega), if_pos (.inr c2)])
  have c3 : ¬ k ≥ ((1 + r.right.length : Nat) : Int) := by omega
  obtain ⟨q, rfl⟩ : ∃ q : Nat, k = q := ⟨k.toNat, by omega⟩
  have q0 : (0 : Int) ≤ (q : Int) := by omega
  have q1 : (q : Int) < ((1 + r.right.length : Nat) : Int) := by omega
  have q2 : q * 2 + 1 < (cellsF symD r.right).length + 1 + 1 := by omega
  have q3 : q * 2 < (cellsF symD r.right).length + 1 + 1 := by omega
  obtain ⟨t, e1, e2, e3⟩ : ∃ t : Bool, nth (.bool false :: .int .i64 r.left :: cellsF symD r.right) (q * 2) = .bool t ∧
      (t = true → symN g rule q = -1) ∧ (t = false → nth (.int .i64 r.left :: cellsF symD r.right) (q * 2) = .int .i64 (symN g rule q)) := by
    rcases q with _ | j
    · refine ⟨false, rfl, by simp, fun _ => ?_⟩
      rw [hs, if_pos (by rfl)]; rfl
    · have hj : j < r.right.length := by omega
      have g0 : r.right[j]? = some r.right[j] := List.getElem?_eq_getElem hj
      have ga := cellsF_get symD symD_cells r.right j 0 _ (.bool r.right[j].t) g0 rfl
      have gb := cellsF_get symD symD_cells r.right j 1 _ (.int .i64 r.right[j].n) g0 rfl
      rw [Nat.add_zero] at ga
      have hs' : symN g rule ((j + 1 : Nat) : Int) = if r.right[j].t then -1 else r.right[j].n := by
        rw [hs, if_neg (by omega), if_neg (by omega)]
        have : (((j + 1 : Nat) : Int) - 1).toNat = j := by omega
        rw [this, List.getD_eq_getElem?_getD, g0]; rfl
      refine ⟨r.right[j].t, ?_, fun ht => by rw [hs', if_pos ht], fun ht => ?_⟩
      · have : (j + 1) * 2 = j * 2 + 1 + 1 := by omega
        rw [this]; simp [nth, List.getD, ga]
      · have : (j + 1) * 2 = j * 2 + 1 + 1 := by omega
        rw [this, hs', if_neg (by simp [ht])]; simp [nth, List.getD, gb]
  cases t
  · have e3 := e3 rfl
    simp -implicitDefEqProofs only [↓symPre, symPost, y_condP, y_condG, run, lver, minD, intsD, eqAll, tupD, splice, Nat.zero_add, Nat.add_zero, Nat.zero_mul, Nat.mul_one, Nat.one_mul, Nat.reduceAdd, Nat.reduceSub, Nat.reduceMul, Nat.reduceLT, Nat.reduceLeDiff, Nat.reduceEqDiff, true_and, and_true, true_implies, if_true, if_false, ite_true, reduceIte, ne_eq, not_false_eq_true, reduceCtorEq, forall_const, bne_self_eq_false, Bool.true_eq_false, Bool.false_eq_true, false_implies, and_self, implies_true, Int.toNat_zero, beq_self_eq_true, decide_true, decide_false, Bool.not_true, Bool.not_false, ↓y_lookv, y_key1, y_mlook, y_mlookn, y_mres1, y_mres0, ↓y_call]
    refine adrawq hmix (List.replicate 14 [] ++ [[n + 15]]) ?_
    simp (maxSteps := 400000) -implicitDefEqProofs only [↓symPre, symPost, y_condP, y_condG, run, lver, minD, intsD, eqAll, tupD, splice, Nat.zero_add, Nat.add_zero, Nat.zero_mul, Nat.mul_one, Nat.one_mul, Nat.reduceAdd, Nat.reduceSub, Nat.reduceMul, Nat.reduceLT, Nat.reduceLeDiff, Nat.reduceEqDiff, true_and, and_true, true_implies, if_true, if_false, ite_true, reduceIte, ne_eq, not_false_eq_true, reduceCtorEq, forall_const, bne_self_eq_false, Bool.true_eq_false, Bool.false_eq_true, false_implies, and_self, implies_true, Int.toNat_zero, beq_self_eq_true, decide_true, decide_false, Bool.not_true, Bool.not_false, ↓y_lookv, y_key1, y_mlook, y_mlookn, y_mres1, y_mres0, ↓y_call, ↓y_adq0, ↓y_adq, ↓y_stepQ_call, ↓y_adq_onT, ↓y_adq_onF, ↓y_adq_onS, drawPost, isCall, isNew, isEff, Option.toList, or_false, false_or, cond_true, cond_false, not_true_eq_false, or_true, true_or, Nat.add_left_cancel_iff, Bool.false_eq_true, ↓y_q0, ↓y_q1, ↓y_q1e, y_qn, isMap, List.length_map, h0, h1, e0, Int.toNat_natCast, srcOf, hsc, hcf, hone, hf8, htk, List.drop_zero, Nat.le_refl, List.replicate, List.cons_append, List.nil_append, List.getD_cons_succ, List.getD_cons_zero, c1, c3, decide_true, decide_false, q0, q1, q2, q3, e1, e3]
    exact fin_int hl rfl
  · have e2 := e2 rfl
    simp -implicitDefEqProofs only [↓symPre, symPost, y_condP, y_condG, run, lver, minD, intsD, eqAll, tupD, splice, Nat.zero_add, Nat.add_zero, Nat.zero_mul, Nat.mul_one, Nat.one_mul, Nat.reduceAdd, Nat.reduceSub, Nat.reduceMul, Nat.reduceLT, Nat.reduceLeDiff, Nat.reduceEqDiff, true_and, and_true, true_implies, if_true, if_false, ite_true, reduceIte, ne_eq, not_false_eq_true, reduceCtorEq, forall_const, bne_self_eq_false, Bool.true_eq_false, Bool.false_eq_true, false_implies, and_self, implies_true, Int.toNat_zero, beq_self_eq_true, decide_true, decide_false, Bool.not_true, Bool.not_false, ↓y_lookv, y_key1, y_mlook, y_mlookn, y_mres1, y_mres0, ↓y_call]
    refine adrawq hmix (List.replicate 14 [] ++ [[n + 15]]) ?_
    simp (maxSteps := 400000) -implicitDefEqProofs only [↓symPre, symPost, y_condP, y_condG, run, lver, minD, intsD, eqAll, tupD, splice, Nat.zero_add, Nat.add_zero, Nat.zero_mul, Nat.mul_one, Nat.one_mul, Nat.reduceAdd, Nat.reduceSub, Nat.reduceMul, Nat.reduceLT, Nat.reduceLeDiff, Nat.reduceEqDiff, true_and, and_true, true_implies, if_true, if_false, ite_true, reduceIte, ne_eq, not_false_eq_true, reduceCtorEq, forall_const, bne_self_eq_false, Bool.true_eq_false, Bool.false_eq_true, false_implies, and_self, implies_true, Int.toNat_zero, beq_self_eq_true, decide_true, decide_false, Bool.not_true, Bool.not_false, ↓y_lookv, y_key1, y_mlook, y_mlookn, y_mres1, y_mres0, ↓y_call, ↓y_adq0, ↓y_adq, ↓y_stepQ_call, ↓y_adq_onT, ↓y_adq_onF, ↓y_adq_onS, drawPost, isCall, isNew, isEff, Option.toList, or_false, false_or, cond_true, cond_false, not_true_eq_false, or_true, true_or, Nat.add_left_cancel_iff, Bool.false_eq_true, ↓y_q0, ↓y_q1, ↓y_q1e, y_qn, isMap, List.length_map, h0, h1, e0, Int.toNat_natCast, srcOf, hsc, hcf, hone, hf8, htk, List.drop_zero, Nat.le_refl, List.replicate, List.cons_append, List.nil_append, List.getD_cons_succ, List.getD_cons_zero, c1, c3, decide_true, decide_false, q0, q1, q2, q3, e1]
    exact fin_int hl e2.symm

end Abs
end Go.Proofs.Ytbdcklchcdkhbaa

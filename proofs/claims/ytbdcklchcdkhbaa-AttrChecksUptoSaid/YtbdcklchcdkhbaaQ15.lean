/- SystemFault: the equations. -/
import Derived.Test.YtbdcklchcdkhbaaQ14
namespace Go.Proofs.Ytbdcklchcdkhbaa
namespace Abs
set_option linter.unusedVariables false
set_option linter.unusedSimpArgs false
set_option maxRecDepth 20000

def tailN (s : Sys) (g : Gr) : Int :=
  if (s.eqs.length : Int) > 200 then 2 else if firstNZ (eqE s g) 0 s.eqs.length ≠ 0 then firstNZ (eqE s g) 0 s.eqs.length else firstNZ (lackN s g) 0 g.rules.length

set_option maxHeartbeats 16000000 in
theorem sf_eqs (s : Sys) (g : Gr) (hgl : g.rules.length < 2 ^ 40) (hx : ∀ r ∈ g.rules, r.right.length < 2 ^ 20) (hA : s.attrs.length < 2 ^ 21) (hE : s.eqs.length < 2 ^ 40) (hz : ∀ q ∈ s.eqs, sz q.is * 64 ≤ 140737488355328) {n : Nat} {h : Heap} (hl : LowH n h) :
    awpS prog T2_parlref4_SystemFault (FnQ [.tmp 4] fun d h' x => h' = h ∧ x = [] ∧ d = .int .i64 (tailN s g))
      (St.mk n ([.top, .top, .ptr (n + 2) 1 0, .ptr (n + 3) 1 0] ++ List.replicate 19 .top ++ [.lst (s.attrs.map atD), .int .i64 s.attrs.length, .int .i64 s.attrs.length, .bool false] ++ List.replicate 181 .top) h (sfB s g)) := by
  have hx40 : ∀ r ∈ g.rules, r.right.length < 2 ^ 40 := fun r h => Nat.lt_trans (hx r h) (by decide)
  have hend := sf_rules s g hgl hx hA hE hl
  have hlr := low_rules n g.rules
  have hla := low_ats n s.attrs
  have hle := low_eqs n s.eqs
  have hC : tailN s g = if (s.eqs.length : Int) > 200 then 2 else if firstNZ (eqE s g) 0 s.eqs.length ≠ 0 then firstNZ (eqE s g) 0 s.eqs.length else firstNZ (lackN s g) 0 g.rules.length := rfl
  generalize tailN s g = res at *
  generalize firstNZ (lackN s g) 0 g.rules.length = lk at *
  unfold sfB at hend ⊢
  unfold T2_parlref4_SystemFault
  simp only [List.replicate, List.cons_append, List.nil_append] at hend
  generalize T4_parlref4_SystemFault = C4 at *
  by_cases c2 : (s.eqs.length : Int) > 200
  · rw [if_pos c2] at hC
    simp -implicitDefEqProofs only [↓symPre, symPost, y_condP, y_condG, run, lver, minD, intsD, eqAll, tupD, splice, Nat.zero_add, Nat.add_zero, Nat.zero_mul, Nat.mul_one, Nat.one_mul, Nat.reduceAdd, Nat.reduceSub, Nat.reduceMul, Nat.reduceLT, Nat.reduceLeDiff, Nat.reduceEqDiff, true_and, and_true, true_implies, if_true, if_false, ite_true, reduceIte, ne_eq, not_false_eq_true, reduceCtorEq, forall_const, bne_self_eq_false, Bool.true_eq_false, Bool.false_eq_true, false_implies, and_self, implies_true, Int.toNat_zero, beq_self_eq_true, decide_true, decide_false, Bool.not_true, Bool.not_false, ↓y_lookv, y_key1, y_mlook, y_mlookn, y_mres1, y_mres0, ↓y_call, List.length_map, c2, decide_true]
    exact fin_int hl hC.symm
  rw [if_neg c2] at hC
  simp -implicitDefEqProofs only [↓symPre, symPost, y_condP, y_condG, run, lver, minD, intsD, eqAll, tupD, splice, Nat.zero_add, Nat.add_zero, Nat.zero_mul, Nat.mul_one, Nat.one_mul, Nat.reduceAdd, Nat.reduceSub, Nat.reduceMul, Nat.reduceLT, Nat.reduceLeDiff, Nat.reduceEqDiff, true_and, and_true, true_implies, if_true, if_false, ite_true, reduceIte, ne_eq, not_false_eq_true, reduceCtorEq, forall_const, bne_self_eq_false, Bool.true_eq_false, Bool.false_eq_true, false_implies, and_self, implies_true, Int.toNat_zero, beq_self_eq_true, decide_true, decide_false, Bool.not_true, Bool.not_false, ↓y_lookv, y_key1, y_mlook, y_mlookn, y_mres1, y_mres0, ↓y_call, List.length_map, c2, decide_false]
  refine aloop (fun p : Nat => St.mk n ([.top, .top, .ptr (n + 2) 1 0, .ptr (n + 3) 1 0] ++ List.replicate 71 .top ++ [.lst (s.eqs.map eqD), .int .i64 s.eqs.length, .int .i64 p] ++ List.replicate 130 .top) h
      ([blk0, blk0, ⟨1, .cells [.int .i64 g.terms, .int .i64 g.nons, .int .i64 g.start, .lst (g.rules.map ruleD)]⟩, ⟨1, .cells [.lst (s.attrs.map atD), .lst (s.eqs.map eqD)]⟩] ++ List.replicate 204 blk0))
    (fun p => p ≤ s.eqs.length ∧ firstNZ (eqE s g) p (s.eqs.length - p) = firstNZ (eqE s g) 0 s.eqs.length) (fun p => s.eqs.length - p) 0 ⟨Nat.zero_le _, rfl⟩ ?_ ?_
  · refine le_to ([.hole, .hole, .old 2, .old 3] ++ List.replicate 204 .hole) hl rfl ?_ ?_ <;> ((try simp only [y_blk_end, y_blk_hole, y_blk_nil, y_blk_old, y_wkl_end, y_wkl_top, List.replicate, List.cons_append, List.nil_append, and_true, true_and]) <;> (repeat' (first | apply And.intro | apply y_wkl | refine Exists.intro _ (And.intro rfl ?_))) <;> (try first | exact trivial | exact Wk.top _ | exact wk_int rfl | exact wk_bool rfl | exact wk_ptr rfl rfl rfl rfl | exact wk_ref rfl rfl rfl rfl rfl | exact wk_nil rfl rfl rfl | exact wk_ref rfl rfl rfl rfl (by simp) | exact wk_ref rfl rfl rfl rfl (by simp; omega) | exact wk_old (by assumption) (by simp) | exact wk_eq rfl (by first | exact Bd.int _ _ | exact Bd.bool _ | exact Bd.abool | exact Bd.nils | exact Bd.emp | exact Bd.nilp | exact Bd.nilfn | assumption | exact low_trees _ _ | exact low_treeD _ _ | exact low_ints _ _) | exact Nat.le_refl _ | exact wk_int (by simp) | exact wk_int (by omega) | exact Nat.succ_le_succ (Nat.zero_le _) | exact Nat.le_add_left _ _ | omega))
  · rintro i ⟨hi, hF⟩
    by_cases hlt : i < s.eqs.length
    rotate_left
    · have f1 : ¬ (i : Int) < (s.eqs.length : Int) := by omega
      obtain rfl : i = s.eqs.length := by omega
      rw [firstNZ_end] at hF
      rw [← hF, if_neg (by simp)] at hC
      rw [← hC] at hend
      simp -implicitDefEqProofs only [↓symPre, symPost, y_condP, y_condG, run, lver, minD, intsD, eqAll, tupD, splice, Nat.zero_add, Nat.add_zero, Nat.zero_mul, Nat.mul_one, Nat.one_mul, Nat.reduceAdd, Nat.reduceSub, Nat.reduceMul, Nat.reduceLT, Nat.reduceLeDiff, Nat.reduceEqDiff, true_and, and_true, true_implies, if_true, if_false, ite_true, reduceIte, ne_eq, not_false_eq_true, reduceCtorEq, forall_const, bne_self_eq_false, Bool.true_eq_false, Bool.false_eq_true, false_implies, and_self, implies_true, Int.toNat_zero, beq_self_eq_true, decide_true, decide_false, Bool.not_true, Bool.not_false, ↓y_lookv, y_key1, y_mlook, y_mlookn, y_mres1, y_mres0, ↓y_call, f1, decide_false]
      exact hend
    clear hend
    have f1 : (i : Int) < (s.eqs.length : Int) := by omega
    have f0 : (0 : Int) ≤ (i : Int) := by omega
    have f2 : (i : Int) ≤ (s.eqs.length : Int) := by omega
    have w1 : IntKind.i64.wrap ((i : Int) + 1) = ((i + 1 : Nat) : Int) := by rw [IntWalk.i64_in _ (by omega)]; omega
    have e0 := nth_eqs s.eqs i hlt
    have hB : eqE s g i = if eqnB s g (s.eqs.getD i eq0) ≠ 0 then eqnB s g (s.eqs.getD i eq0) else if (s.eqs.take i).any (sameK (s.eqs.getD i eq0)) = true then 6 else 0 := rfl
    have hgd : s.eqs.getD i eq0 = s.eqs[i] := by simp [List.getD, hlt]
    have hz1 := hz _ (List.getElem_mem hlt)
    have hFs := firstNZ_step (f := eqE s g) hlt
    rw [hgd] at hB
    generalize s.eqs[i] = q at *
    obtain ⟨u, v, w, ⟨k, m, a, r, xs⟩⟩ := q
    have hlx := low_exs n xs
    have hN : eqnB s g ⟨u, v, w, .mk k m a r xs⟩ = if u < 0 ∨ u ≥ g.rules.length then 1 else if (sz (.mk k m a r xs) : Int) > 30 then 2
      else if occN s g u.toNat v w = true ∧ defN s v w = true ∧ (exL (.mk k m a r xs)).all (wfN s g u.toNat) = true then 0 else 3 := rfl
    have hsK : sameK ⟨u, v, w, .mk k m a r xs⟩ = fun p => decide (p.rule = u ∧ p.at' = v ∧ p.attr = w) := rfl
    generalize eqnB s g ⟨u, v, w, .mk k m a r xs⟩ = ce at *
    have out : ce ≠ 0 → ce = res := fun h => by
      rw [if_pos h] at hB
      rw [hFs, hB, if_neg h] at hF
      rw [← hF, if_pos h] at hC
      exact hC.symm
    rw [eqD_mk] at e0
    by_cases c0 : u < 0
    · rw [if_pos (.inl c0)] at hN
      simp -implicitDefEqProofs only [↓symPre, symPost, y_condP, y_condG, run, lver, minD, intsD, eqAll, tupD, splice, Nat.zero_add, Nat.add_zero, Nat.zero_mul, Nat.mul_one, Nat.one_mul, Nat.reduceAdd, Nat.reduceSub, Nat.reduceMul, Nat.reduceLT, Nat.reduceLeDiff, Nat.reduceEqDiff, true_and, and_true, true_implies, if_true, if_false, ite_true, reduceIte, ne_eq, not_false_eq_true, reduceCtorEq, forall_const, bne_self_eq_false, Bool.true_eq_false, Bool.false_eq_true, false_implies, and_self, implies_true, Int.toNat_zero, beq_self_eq_true, decide_true, decide_false, Bool.not_true, Bool.not_false, ↓y_lookv, y_key1, y_mlook, y_mlookn, y_mres1, y_mres0, ↓y_call, f1, f0, decide_true, List.length_map, Int.toNat_natCast, e0, c0]
      exact fin_int hl (by rw [← out (by omega), hN])
    by_cases c1 : u ≥ (g.rules.length : Int)
    · rw [if_pos (.inr c1)] at hN
      simp -implicitDefEqProofs only [↓symPre, symPost, y_condP, y_condG, run, lver, minD, intsD, eqAll, tupD, splice, Nat.zero_add, Nat.add_zero, Nat.zero_mul, Nat.mul_one, Nat.one_mul, Nat.reduceAdd, Nat.reduceSub, Nat.reduceMul, Nat.reduceLT, Nat.reduceLeDiff, Nat.reduceEqDiff, true_and, and_true, true_implies, if_true, if_false, ite_true, reduceIte, ne_eq, not_false_eq_true, reduceCtorEq, forall_const, bne_self_eq_false, Bool.true_eq_false, Bool.false_eq_true, false_implies, and_self, implies_true, Int.toNat_zero, beq_self_eq_true, decide_true, decide_false, Bool.not_true, Bool.not_false, ↓y_lookv, y_key1, y_mlook, y_mlookn, y_mres1, y_mres0, ↓y_call, f1, f0, decide_true, decide_false, List.length_map, Int.toNat_natCast, e0, c0, c1]
      exact fin_int hl (by rw [← out (by omega), hN])
    rw [if_neg (by omega)] at hN
    obtain ⟨rule, rfl⟩ : ∃ rule : Nat, u = rule := ⟨u.toNat, by omega⟩
    have hrl : rule < g.rules.length := by omega
    rw [Int.toNat_natCast] at hN
    have px := pure_exprs (.mk k m a r xs) hz1
    have po := pure_occursR s g rule v w hrl hx40
    have pw := fun y => pure_wf s g rule y hrl hx40
    have hXl := exL_len (.mk k m a r xs)
    rw [exD_mk] at px
    have hlX := low_exs n (exL (.mk k m a r xs))
    generalize exL (.mk k m a r xs) = X at *
    rw [← hXl] at hN
    unfold gramD sysD at po pw
    by_cases c3 : (X.length : Int) > 30
    · rw [if_pos c3] at hN
      simp -implicitDefEqProofs only [↓symPre, symPost, y_condP, y_condG, run, lver, minD, intsD, eqAll, tupD, splice, Nat.zero_add, Nat.add_zero, Nat.zero_mul, Nat.mul_one, Nat.one_mul, Nat.reduceAdd, Nat.reduceSub, Nat.reduceMul, Nat.reduceLT, Nat.reduceLeDiff, Nat.reduceEqDiff, true_and, and_true, true_implies, if_true, if_false, ite_true, reduceIte, ne_eq, not_false_eq_true, reduceCtorEq, forall_const, bne_self_eq_false, Bool.true_eq_false, Bool.false_eq_true, false_implies, and_self, implies_true, Int.toNat_zero, beq_self_eq_true, decide_true, decide_false, Bool.not_true, Bool.not_false, ↓y_lookv, y_key1, y_mlook, y_mlookn, y_mres1, y_mres0, ↓y_call, f1, f0, decide_true, decide_false, List.length_map, Int.toNat_natCast, e0, c0, c1]
      refine px.call rfl ?_
      simp -implicitDefEqProofs only [↓symPre, symPost, y_condP, y_condG, run, lver, minD, intsD, eqAll, tupD, splice, Nat.zero_add, Nat.add_zero, Nat.zero_mul, Nat.mul_one, Nat.one_mul, Nat.reduceAdd, Nat.reduceSub, Nat.reduceMul, Nat.reduceLT, Nat.reduceLeDiff, Nat.reduceEqDiff, true_and, and_true, true_implies, if_true, if_false, ite_true, reduceIte, ne_eq, not_false_eq_true, reduceCtorEq, forall_const, bne_self_eq_false, Bool.true_eq_false, Bool.false_eq_true, false_implies, and_self, implies_true, Int.toNat_zero, beq_self_eq_true, decide_true, decide_false, Bool.not_true, Bool.not_false, ↓y_lookv, y_key1, y_mlook, y_mlookn, y_mres1, y_mres0, ↓y_call, List.length_map, c3, decide_true]
      exact fin_int hl (by rw [← out (by omega), hN])
    rw [if_neg c3] at hN
    cases ho : occN s g rule v w with
    | false =>
      rw [ho, if_neg (by simp)] at hN
      rw [ho] at po
      simp -implicitDefEqProofs only [↓symPre, symPost, y_condP, y_condG, run, lver, minD, intsD, eqAll, tupD, splice, Nat.zero_add, Nat.add_zero, Nat.zero_mul, Nat.mul_one, Nat.one_mul, Nat.reduceAdd, Nat.reduceSub, Nat.reduceMul, Nat.reduceLT, Nat.reduceLeDiff, Nat.reduceEqDiff, true_and, and_true, true_implies, if_true, if_false, ite_true, reduceIte, ne_eq, not_false_eq_true, reduceCtorEq, forall_const, bne_self_eq_false, Bool.true_eq_false, Bool.false_eq_true, false_implies, and_self, implies_true, Int.toNat_zero, beq_self_eq_true, decide_true, decide_false, Bool.not_true, Bool.not_false, ↓y_lookv, y_key1, y_mlook, y_mlookn, y_mres1, y_mres0, ↓y_call, f1, f0, decide_true, decide_false, List.length_map, Int.toNat_natCast, e0, c0, c1]
      refine px.call rfl ?_
      simp -implicitDefEqProofs only [↓symPre, symPost, y_condP, y_condG, run, lver, minD, intsD, eqAll, tupD, splice, Nat.zero_add, Nat.add_zero, Nat.zero_mul, Nat.mul_one, Nat.one_mul, Nat.reduceAdd, Nat.reduceSub, Nat.reduceMul, Nat.reduceLT, Nat.reduceLeDiff, Nat.reduceEqDiff, true_and, and_true, true_implies, if_true, if_false, ite_true, reduceIte, ne_eq, not_false_eq_true, reduceCtorEq, forall_const, bne_self_eq_false, Bool.true_eq_false, Bool.false_eq_true, false_implies, and_self, implies_true, Int.toNat_zero, beq_self_eq_true, decide_true, decide_false, Bool.not_true, Bool.not_false, ↓y_lookv, y_key1, y_mlook, y_mlookn, y_mres1, y_mres0, ↓y_call, List.length_map, c3, decide_false]
      refine adrawq hmix [] ?_
      simp (maxSteps := 400000) -implicitDefEqProofs only [↓symPre, symPost, y_condP, y_condG, run, lver, minD, intsD, eqAll, tupD, splice, Nat.zero_add, Nat.add_zero, Nat.zero_mul, Nat.mul_one, Nat.one_mul, Nat.reduceAdd, Nat.reduceSub, Nat.reduceMul, Nat.reduceLT, Nat.reduceLeDiff, Nat.reduceEqDiff, true_and, and_true, true_implies, if_true, if_false, ite_true, reduceIte, ne_eq, not_false_eq_true, reduceCtorEq, forall_const, bne_self_eq_false, Bool.true_eq_false, Bool.false_eq_true, false_implies, and_self, implies_true, Int.toNat_zero, beq_self_eq_true, decide_true, decide_false, Bool.not_true, Bool.not_false, ↓y_lookv, y_key1, y_mlook, y_mlookn, y_mres1, y_mres0, ↓y_call, ↓y_adq0, ↓y_adq, ↓y_stepQ_call, ↓y_adq_onT, ↓y_adq_onF, ↓y_adq_onS, drawPost, isCall, isNew, isEff, Option.toList, or_false, false_or, cond_true, cond_false, not_true_eq_false, or_true, true_or, Nat.add_left_cancel_iff, Bool.false_eq_true, ↓y_q0, ↓y_q1, ↓y_q1e, y_qn, isMap, List.length_map]
      refine ⟨_, _, po.draw rfl, (by simp [y_cov0, y_cov1, isNew, isEff, Option.toList]), ?_⟩
      simp (maxSteps := 400000) -implicitDefEqProofs only [↓symPre, symPost, y_condP, y_condG, run, lver, minD, intsD, eqAll, tupD, splice, Nat.zero_add, Nat.add_zero, Nat.zero_mul, Nat.mul_one, Nat.one_mul, Nat.reduceAdd, Nat.reduceSub, Nat.reduceMul, Nat.reduceLT, Nat.reduceLeDiff, Nat.reduceEqDiff, true_and, and_true, true_implies, if_true, if_false, ite_true, reduceIte, ne_eq, not_false_eq_true, reduceCtorEq, forall_const, bne_self_eq_false, Bool.true_eq_false, Bool.false_eq_true, false_implies, and_self, implies_true, Int.toNat_zero, beq_self_eq_true, decide_true, decide_false, Bool.not_true, Bool.not_false, ↓y_lookv, y_key1, y_mlook, y_mlookn, y_mres1, y_mres0, ↓y_call, ↓y_adq0, ↓y_adq, ↓y_stepQ_call, ↓y_adq_onT, ↓y_adq_onF, ↓y_adq_onS, drawPost, isCall, isNew, isEff, Option.toList, or_false, false_or, cond_true, cond_false, not_true_eq_false, or_true, true_or, Nat.add_left_cancel_iff, Bool.false_eq_true, ↓y_q0, ↓y_q1, ↓y_q1e, y_qn, isMap, List.length_map]
      exact fin_int hl (by rw [← out (by omega), hN])
    | true =>
      obtain ⟨j, rfl, hj⟩ := occN_some ho
      have e1 := nth_at s.attrs j hj
      have hd : defN s v j = ((s.attrs.getD j at0).inh == decide (v > 0)) := by simp [defN]
      have j1 : (j : Int) < (s.attrs.length : Int) := by omega
      have j0 : (0 : Int) ≤ (j : Int) := by omega
      rw [ho] at po
      generalize s.attrs.getD j at0 = A at *
      obtain ⟨non, inh⟩ := A
      simp only at e1 hd
      cases hdf : defN s v j with
      | false =>
        rw [hdf, if_neg (by simp)] at hN
        rw [hdf] at hd
        have hb : ((inh == decide (v > 0)) != true) = true := by rw [← hd]; rfl
        have hD : D.bool ((inh == decide (v > 0)) != true) = D.bool true := by rw [hb]
        simp -implicitDefEqProofs only [↓symPre, symPost, y_condP, y_condG, run, lver, minD, intsD, eqAll, tupD, splice, Nat.zero_add, Nat.add_zero, Nat.zero_mul, Nat.mul_one, Nat.one_mul, Nat.reduceAdd, Nat.reduceSub, Nat.reduceMul, Nat.reduceLT, Nat.reduceLeDiff, Nat.reduceEqDiff, true_and, and_true, true_implies, if_true, if_false, ite_true, reduceIte, ne_eq, not_false_eq_true, reduceCtorEq, forall_const, bne_self_eq_false, Bool.true_eq_false, Bool.false_eq_true, false_implies, and_self, implies_true, Int.toNat_zero, beq_self_eq_true, decide_true, decide_false, Bool.not_true, Bool.not_false, ↓y_lookv, y_key1, y_mlook, y_mlookn, y_mres1, y_mres0, ↓y_call, f1, f0, decide_true, decide_false, List.length_map, Int.toNat_natCast, e0, c0, c1]
        refine px.call rfl ?_
        simp -implicitDefEqProofs only [↓symPre, symPost, y_condP, y_condG, run, lver, minD, intsD, eqAll, tupD, splice, Nat.zero_add, Nat.add_zero, Nat.zero_mul, Nat.mul_one, Nat.one_mul, Nat.reduceAdd, Nat.reduceSub, Nat.reduceMul, Nat.reduceLT, Nat.reduceLeDiff, Nat.reduceEqDiff, true_and, and_true, true_implies, if_true, if_false, ite_true, reduceIte, ne_eq, not_false_eq_true, reduceCtorEq, forall_const, bne_self_eq_false, Bool.true_eq_false, Bool.false_eq_true, false_implies, and_self, implies_true, Int.toNat_zero, beq_self_eq_true, decide_true, decide_false, Bool.not_true, Bool.not_false, ↓y_lookv, y_key1, y_mlook, y_mlookn, y_mres1, y_mres0, ↓y_call, List.length_map, c3, decide_false]
        refine adrawq hmix [] ?_
        simp (maxSteps := 400000) -implicitDefEqProofs only [↓symPre, symPost, y_condP, y_condG, run, lver, minD, intsD, eqAll, tupD, splice, Nat.zero_add, Nat.add_zero, Nat.zero_mul, Nat.mul_one, Nat.one_mul, Nat.reduceAdd, Nat.reduceSub, Nat.reduceMul, Nat.reduceLT, Nat.reduceLeDiff, Nat.reduceEqDiff, true_and, and_true, true_implies, if_true, if_false, ite_true, reduceIte, ne_eq, not_false_eq_true, reduceCtorEq, forall_const, bne_self_eq_false, Bool.true_eq_false, Bool.false_eq_true, false_implies, and_self, implies_true, Int.toNat_zero, beq_self_eq_true, decide_true, decide_false, Bool.not_true, Bool.not_false, ↓y_lookv, y_key1, y_mlook, y_mlookn, y_mres1, y_mres0, ↓y_call, ↓y_adq0, ↓y_adq, ↓y_stepQ_call, ↓y_adq_onT, ↓y_adq_onF, ↓y_adq_onS, drawPost, isCall, isNew, isEff, Option.toList, or_false, false_or, cond_true, cond_false, not_true_eq_false, or_true, true_or, Nat.add_left_cancel_iff, Bool.false_eq_true, ↓y_q0, ↓y_q1, ↓y_q1e, y_qn, isMap, List.length_map]
        refine ⟨_, _, po.draw rfl, (by simp [y_cov0, y_cov1, isNew, isEff, Option.toList]), ?_⟩
        simp (maxSteps := 400000) -implicitDefEqProofs only [↓symPre, symPost, y_condP, y_condG, run, lver, minD, intsD, eqAll, tupD, splice, Nat.zero_add, Nat.add_zero, Nat.zero_mul, Nat.mul_one, Nat.one_mul, Nat.reduceAdd, Nat.reduceSub, Nat.reduceMul, Nat.reduceLT, Nat.reduceLeDiff, Nat.reduceEqDiff, true_and, and_true, true_implies, if_true, if_false, ite_true, reduceIte, ne_eq, not_false_eq_true, reduceCtorEq, forall_const, bne_self_eq_false, Bool.true_eq_false, Bool.false_eq_true, false_implies, and_self, implies_true, Int.toNat_zero, beq_self_eq_true, decide_true, decide_false, Bool.not_true, Bool.not_false, ↓y_lookv, y_key1, y_mlook, y_mlookn, y_mres1, y_mres0, ↓y_call, ↓y_adq0, ↓y_adq, ↓y_stepQ_call, ↓y_adq_onT, ↓y_adq_onF, ↓y_adq_onS, drawPost, isCall, isNew, isEff, Option.toList, or_false, false_or, cond_true, cond_false, not_true_eq_false, or_true, true_or, Nat.add_left_cancel_iff, Bool.false_eq_true, ↓y_q0, ↓y_q1, ↓y_q1e, y_qn, isMap, List.length_map, j0, j1, Int.toNat_natCast, e1, hD]
        exact fin_int hl (by rw [← out (by omega), hN])
      | true =>
        rw [hdf] at hd
        have hb : ((inh == decide (v > 0)) != true) = false := by rw [← hd]; rfl
        rw [ho, hdf] at hN
        simp -implicitDefEqProofs only [↓symPre, symPost, y_condP, y_condG, run, lver, minD, intsD, eqAll, tupD, splice, Nat.zero_add, Nat.add_zero, Nat.zero_mul, Nat.mul_one, Nat.one_mul, Nat.reduceAdd, Nat.reduceSub, Nat.reduceMul, Nat.reduceLT, Nat.reduceLeDiff, Nat.reduceEqDiff, true_and, and_true, true_implies, if_true, if_false, ite_true, reduceIte, ne_eq, not_false_eq_true, reduceCtorEq, forall_const, bne_self_eq_false, Bool.true_eq_false, Bool.false_eq_true, false_implies, and_self, implies_true, Int.toNat_zero, beq_self_eq_true, decide_true, decide_false, Bool.not_true, Bool.not_false, ↓y_lookv, y_key1, y_mlook, y_mlookn, y_mres1, y_mres0, ↓y_call, f1, f0, decide_true, decide_false, List.length_map, Int.toNat_natCast, e0, c0, c1]
        refine px.call rfl ?_
        simp -implicitDefEqProofs only [↓symPre, symPost, y_condP, y_condG, run, lver, minD, intsD, eqAll, tupD, splice, Nat.zero_add, Nat.add_zero, Nat.zero_mul, Nat.mul_one, Nat.one_mul, Nat.reduceAdd, Nat.reduceSub, Nat.reduceMul, Nat.reduceLT, Nat.reduceLeDiff, Nat.reduceEqDiff, true_and, and_true, true_implies, if_true, if_false, ite_true, reduceIte, ne_eq, not_false_eq_true, reduceCtorEq, forall_const, bne_self_eq_false, Bool.true_eq_false, Bool.false_eq_true, false_implies, and_self, implies_true, Int.toNat_zero, beq_self_eq_true, decide_true, decide_false, Bool.not_true, Bool.not_false, ↓y_lookv, y_key1, y_mlook, y_mlookn, y_mres1, y_mres0, ↓y_call, List.length_map, c3, decide_false]
        refine adrawq hmix [] ?_
        simp (maxSteps := 400000) -implicitDefEqProofs only [↓symPre, symPost, y_condP, y_condG, run, lver, minD, intsD, eqAll, tupD, splice, Nat.zero_add, Nat.add_zero, Nat.zero_mul, Nat.mul_one, Nat.one_mul, Nat.reduceAdd, Nat.reduceSub, Nat.reduceMul, Nat.reduceLT, Nat.reduceLeDiff, Nat.reduceEqDiff, true_and, and_true, true_implies, if_true, if_false, ite_true, reduceIte, ne_eq, not_false_eq_true, reduceCtorEq, forall_const, bne_self_eq_false, Bool.true_eq_false, Bool.false_eq_true, false_implies, and_self, implies_true, Int.toNat_zero, beq_self_eq_true, decide_true, decide_false, Bool.not_true, Bool.not_false, ↓y_lookv, y_key1, y_mlook, y_mlookn, y_mres1, y_mres0, ↓y_call, ↓y_adq0, ↓y_adq, ↓y_stepQ_call, ↓y_adq_onT, ↓y_adq_onF, ↓y_adq_onS, drawPost, isCall, isNew, isEff, Option.toList, or_false, false_or, cond_true, cond_false, not_true_eq_false, or_true, true_or, Nat.add_left_cancel_iff, Bool.false_eq_true, ↓y_q0, ↓y_q1, ↓y_q1e, y_qn, isMap, List.length_map]
        refine ⟨_, _, po.draw rfl, (by simp [y_cov0, y_cov1, isNew, isEff, Option.toList]), ?_⟩
        simp (maxSteps := 400000) -implicitDefEqProofs only [↓symPre, symPost, y_condP, y_condG, run, lver, minD, intsD, eqAll, tupD, splice, Nat.zero_add, Nat.add_zero, Nat.zero_mul, Nat.mul_one, Nat.one_mul, Nat.reduceAdd, Nat.reduceSub, Nat.reduceMul, Nat.reduceLT, Nat.reduceLeDiff, Nat.reduceEqDiff, true_and, and_true, true_implies, if_true, if_false, ite_true, reduceIte, ne_eq, not_false_eq_true, reduceCtorEq, forall_const, bne_self_eq_false, Bool.true_eq_false, Bool.false_eq_true, false_implies, and_self, implies_true, Int.toNat_zero, beq_self_eq_true, decide_true, decide_false, Bool.not_true, Bool.not_false, ↓y_lookv, y_key1, y_mlook, y_mlookn, y_mres1, y_mres0, ↓y_call, ↓y_adq0, ↓y_adq, ↓y_stepQ_call, ↓y_adq_onT, ↓y_adq_onF, ↓y_adq_onS, drawPost, isCall, isNew, isEff, Option.toList, or_false, false_or, cond_true, cond_false, not_true_eq_false, or_true, true_or, Nat.add_left_cancel_iff, Bool.false_eq_true, ↓y_q0, ↓y_q1, ↓y_q1e, y_qn, isMap, List.length_map, j0, j1, Int.toNat_natCast, e1, hb]
        refine aloop (fun p : Nat => St.mk n ([.top, .top, .ptr (n + 2) 1 0, .ptr (n + 3) 1 0] ++ List.replicate 6 .top ++ [.int .i64 i, .ptr (n + 11) 1 0] ++ List.replicate 63 .top ++ [.lst (s.eqs.map eqD), .int .i64 s.eqs.length, .int .i64 i] ++ List.replicate 44 .top ++ [.lst (X.map exD), .int .i64 X.length, .int .i64 p] ++ List.replicate 83 .top) h
            ([blk0, blk0, ⟨1, .cells [.int .i64 g.terms, .int .i64 g.nons, .int .i64 g.start, .lst (g.rules.map ruleD)]⟩, ⟨1, .cells [.lst (s.attrs.map atD), .lst (s.eqs.map eqD)]⟩] ++ List.replicate 7 blk0 ++ [⟨1, .cells [.int .i64 rule, .int .i64 v, .int .i64 j, .int .i64 k, .int .i64 m, .int .i64 a, .int .i64 r, .lst (xs.map exD)]⟩] ++ List.replicate 196 blk0))
          (fun p => p ≤ X.length ∧ (X.take p).all (wfN s g rule) = true) (fun p => X.length - p) 0 ⟨Nat.zero_le _, rfl⟩ ?_ ?_
        · refine le_to ([.hole, .hole, .old 2, .old 3] ++ List.replicate 7 .hole ++ [.old 11] ++ List.replicate 196 .hole) hl rfl ?_ ?_ <;> ((try simp only [y_blk_end, y_blk_hole, y_blk_nil, y_blk_old, y_wkl_end, y_wkl_top, List.replicate, List.cons_append, List.nil_append, and_true, true_and]) <;> (repeat' (first | apply And.intro | apply y_wkl | refine Exists.intro _ (And.intro rfl ?_))) <;> (try first | exact trivial | exact Wk.top _ | exact wk_int rfl | exact wk_bool rfl | exact wk_ptr rfl rfl rfl rfl | exact wk_ref rfl rfl rfl rfl rfl | exact wk_nil rfl rfl rfl | exact wk_ref rfl rfl rfl rfl (by simp) | exact wk_ref rfl rfl rfl rfl (by simp; omega) | exact wk_old (by assumption) (by simp) | exact wk_eq rfl (by first | exact Bd.int _ _ | exact Bd.bool _ | exact Bd.abool | exact Bd.nils | exact Bd.emp | exact Bd.nilp | exact Bd.nilfn | assumption | exact low_trees _ _ | exact low_treeD _ _ | exact low_ints _ _) | exact Nat.le_refl _ | exact wk_int (by simp) | exact wk_int (by omega) | exact Nat.succ_le_succ (Nat.zero_le _) | exact Nat.le_add_left _ _ | omega))
        · rintro p ⟨hp, hwf⟩
          by_cases hpl : p < X.length
          · have p1 : (p : Int) < (X.length : Int) := by omega
            have p0 : (0 : Int) ≤ (p : Int) := by omega
            have wp : IntKind.i64.wrap ((p : Int) + 1) = ((p + 1 : Nat) : Int) := by rw [IntWalk.i64_in _ (by omega)]; omega
            have e2 := nth_exs X p hpl
            have htk := List.take_succ_eq_append_getElem hpl
            have pw1 := pw X[p]
            have hmem : X[p] ∈ X := List.getElem_mem hpl
            generalize X[p] = y at *
            obtain ⟨yk, ym, ya, yr, ys⟩ := y
            have hly := low_exs n ys
            rw [exD_mk] at e2 pw1
            cases hw : wfN s g rule (.mk yk ym ya yr ys) with
            | false =>
              rw [hw] at pw1
              have : X.all (wfN s g rule) = false := by
                rw [List.all_eq_false]; exact ⟨_, hmem, by simp [hw]⟩
              rw [this, if_neg (by simp)] at hN
              simp -implicitDefEqProofs only [↓symPre, symPost, y_condP, y_condG, run, lver, minD, intsD, eqAll, tupD, splice, Nat.zero_add, Nat.add_zero, Nat.zero_mul, Nat.mul_one, Nat.one_mul, Nat.reduceAdd, Nat.reduceSub, Nat.reduceMul, Nat.reduceLT, Nat.reduceLeDiff, Nat.reduceEqDiff, true_and, and_true, true_implies, if_true, if_false, ite_true, reduceIte, ne_eq, not_false_eq_true, reduceCtorEq, forall_const, bne_self_eq_false, Bool.true_eq_false, Bool.false_eq_true, false_implies, and_self, implies_true, Int.toNat_zero, beq_self_eq_true, decide_true, decide_false, Bool.not_true, Bool.not_false, ↓y_lookv, y_key1, y_mlook, y_mlookn, y_mres1, y_mres0, ↓y_call, p1, p0, decide_true, List.length_map, Int.toNat_natCast, e2]
              refine pw1.call rfl ?_
              simp -implicitDefEqProofs only [↓symPre, symPost, y_condP, y_condG, run, lver, minD, intsD, eqAll, tupD, splice, Nat.zero_add, Nat.add_zero, Nat.zero_mul, Nat.mul_one, Nat.one_mul, Nat.reduceAdd, Nat.reduceSub, Nat.reduceMul, Nat.reduceLT, Nat.reduceLeDiff, Nat.reduceEqDiff, true_and, and_true, true_implies, if_true, if_false, ite_true, reduceIte, ne_eq, not_false_eq_true, reduceCtorEq, forall_const, bne_self_eq_false, Bool.true_eq_false, Bool.false_eq_true, false_implies, and_self, implies_true, Int.toNat_zero, beq_self_eq_true, decide_true, decide_false, Bool.not_true, Bool.not_false, ↓y_lookv, y_key1, y_mlook, y_mlookn, y_mres1, y_mres0, ↓y_call]
              exact fin_int hl (by rw [← out (by omega), hN])
            | true =>
              rw [hw] at pw1
              simp -implicitDefEqProofs only [↓symPre, symPost, y_condP, y_condG, run, lver, minD, intsD, eqAll, tupD, splice, Nat.zero_add, Nat.add_zero, Nat.zero_mul, Nat.mul_one, Nat.one_mul, Nat.reduceAdd, Nat.reduceSub, Nat.reduceMul, Nat.reduceLT, Nat.reduceLeDiff, Nat.reduceEqDiff, true_and, and_true, true_implies, if_true, if_false, ite_true, reduceIte, ne_eq, not_false_eq_true, reduceCtorEq, forall_const, bne_self_eq_false, Bool.true_eq_false, Bool.false_eq_true, false_implies, and_self, implies_true, Int.toNat_zero, beq_self_eq_true, decide_true, decide_false, Bool.not_true, Bool.not_false, ↓y_lookv, y_key1, y_mlook, y_mlookn, y_mres1, y_mres0, ↓y_call, p1, p0, decide_true, List.length_map, Int.toNat_natCast, e2]
              refine pw1.call rfl ?_
              simp -implicitDefEqProofs only [↓symPre, symPost, y_condP, y_condG, run, lver, minD, intsD, eqAll, tupD, splice, Nat.zero_add, Nat.add_zero, Nat.zero_mul, Nat.mul_one, Nat.one_mul, Nat.reduceAdd, Nat.reduceSub, Nat.reduceMul, Nat.reduceLT, Nat.reduceLeDiff, Nat.reduceEqDiff, true_and, and_true, true_implies, if_true, if_false, ite_true, reduceIte, ne_eq, not_false_eq_true, reduceCtorEq, forall_const, bne_self_eq_false, Bool.true_eq_false, Bool.false_eq_true, false_implies, and_self, implies_true, Int.toNat_zero, beq_self_eq_true, decide_true, decide_false, Bool.not_true, Bool.not_false, ↓y_lookv, y_key1, y_mlook, y_mlookn, y_mres1, y_mres0, ↓y_call, wp]
              refine ⟨p + 1, ⟨by omega, by rw [htk, List.all_append, hwf]; simp [hw]⟩, by omega, ?_⟩
              refine le_to ([.hole, .hole, .old 2, .old 3] ++ List.replicate 7 .hole ++ [.old 11] ++ List.replicate 196 .hole) hl rfl ?_ ?_ <;> ((try simp only [y_blk_end, y_blk_hole, y_blk_nil, y_blk_old, y_wkl_end, y_wkl_top, List.replicate, List.cons_append, List.nil_append, and_true, true_and]) <;> (repeat' (first | apply And.intro | apply y_wkl | refine Exists.intro _ (And.intro rfl ?_))) <;> (try first | exact trivial | exact Wk.top _ | exact wk_int rfl | exact wk_bool rfl | exact wk_ptr rfl rfl rfl rfl | exact wk_ref rfl rfl rfl rfl rfl | exact wk_nil rfl rfl rfl | exact wk_ref rfl rfl rfl rfl (by simp) | exact wk_ref rfl rfl rfl rfl (by simp; omega) | exact wk_old (by assumption) (by simp) | exact wk_eq rfl (by first | exact Bd.int _ _ | exact Bd.bool _ | exact Bd.abool | exact Bd.nils | exact Bd.emp | exact Bd.nilp | exact Bd.nilfn | assumption | exact low_trees _ _ | exact low_treeD _ _ | exact low_ints _ _) | exact Nat.le_refl _ | exact wk_int (by simp) | exact wk_int (by omega) | exact Nat.succ_le_succ (Nat.zero_le _) | exact Nat.le_add_left _ _ | omega))
          · have p1 : ¬ (p : Int) < (X.length : Int) := by omega
            rw [List.take_of_length_le (by omega)] at hwf
            rw [hwf, if_pos (by simp)] at hN
            rw [hN, if_neg (by simp), hsK] at hB
            have hsl : (s.eqs.map eqD).take i = (s.eqs.take i).map eqD := by rw [List.map_take]
            simp -implicitDefEqProofs only [↓symPre, symPost, y_condP, y_condG, run, lver, minD, intsD, eqAll, tupD, splice, Nat.zero_add, Nat.add_zero, Nat.zero_mul, Nat.mul_one, Nat.one_mul, Nat.reduceAdd, Nat.reduceSub, Nat.reduceMul, Nat.reduceLT, Nat.reduceLeDiff, Nat.reduceEqDiff, true_and, and_true, true_implies, if_true, if_false, ite_true, reduceIte, ne_eq, not_false_eq_true, reduceCtorEq, forall_const, bne_self_eq_false, Bool.true_eq_false, Bool.false_eq_true, false_implies, and_self, implies_true, Int.toNat_zero, beq_self_eq_true, decide_true, decide_false, Bool.not_true, Bool.not_false, ↓y_lookv, y_key1, y_mlook, y_mlookn, y_mres1, y_mres0, ↓y_call, List.length_map, p1, decide_false, f0, f2, Int.toNat_natCast, hsl, Nat.sub_zero, List.drop_zero, Int.le_refl, Int.toNat_zero]
            refine ⟨fun d hd => ?_, ?_⟩
            · obtain ⟨y, _, rfl⟩ := List.mem_map.1 hd; exact eqD_cells y
            obtain ⟨pre, hpre⟩ : ∃ pre, pre = s.eqs.take i := ⟨_, rfl⟩
            rw [← hpre] at hB
            have hpl2 : pre.length = i := by rw [hpre]; simp; omega
            have hlp := low_eqs n pre
            refine aloop (fun p : Nat => St.mk n ([.top, .top, .ptr (n + 2) 1 0, .ptr (n + 3) 1 0] ++ List.replicate 6 .top ++ [.int .i64 i, .ptr (n + 11) 1 0] ++ List.replicate 63 .top ++ [.lst (s.eqs.map eqD), .int .i64 s.eqs.length, .int .i64 i] ++ List.replicate 61 .top ++ [.lst (pre.map eqD), .int .i64 pre.length, .int .i64 p] ++ List.replicate 66 .top) h
                ([blk0, blk0, ⟨1, .cells [.int .i64 g.terms, .int .i64 g.nons, .int .i64 g.start, .lst (g.rules.map ruleD)]⟩, ⟨1, .cells [.lst (s.attrs.map atD), .lst (s.eqs.map eqD)]⟩] ++ List.replicate 7 blk0 ++ [⟨1, .cells [.int .i64 rule, .int .i64 v, .int .i64 j, .int .i64 k, .int .i64 m, .int .i64 a, .int .i64 r, .lst (xs.map exD)]⟩] ++ List.replicate 196 blk0))
              (fun p => p ≤ pre.length ∧ (pre.take p).any (fun p => decide (p.rule = (rule : Int) ∧ p.at' = v ∧ p.attr = (j : Int))) = false) (fun p => pre.length - p) 0 ⟨Nat.zero_le _, rfl⟩ ?_ ?_
            · refine le_to ([.hole, .hole, .old 2, .old 3] ++ List.replicate 7 .hole ++ [.old 11] ++ List.replicate 196 .hole) hl rfl ?_ ?_ <;> (try simp only [List.length_map, ← hpre]) <;> ((try simp only [y_blk_end, y_blk_hole, y_blk_nil, y_blk_old, y_wkl_end, y_wkl_top, List.replicate, List.cons_append, List.nil_append, and_true, true_and]) <;> (repeat' (first | apply And.intro | apply y_wkl | refine Exists.intro _ (And.intro rfl ?_))) <;> (try first | exact trivial | exact Wk.top _ | exact wk_int rfl | exact wk_bool rfl | exact wk_ptr rfl rfl rfl rfl | exact wk_ref rfl rfl rfl rfl rfl | exact wk_nil rfl rfl rfl | exact wk_ref rfl rfl rfl rfl (by simp) | exact wk_ref rfl rfl rfl rfl (by simp; omega) | exact wk_old (by assumption) (by simp) | exact wk_eq rfl (by first | exact Bd.int _ _ | exact Bd.bool _ | exact Bd.abool | exact Bd.nils | exact Bd.emp | exact Bd.nilp | exact Bd.nilfn | assumption | exact low_trees _ _ | exact low_treeD _ _ | exact low_ints _ _) | exact Nat.le_refl _ | exact wk_int (by simp) | exact wk_int (by omega) | exact Nat.succ_le_succ (Nat.zero_le _) | exact Nat.le_add_left _ _ | omega))
            · rintro t ⟨ht, hno⟩
              by_cases htl : t < pre.length
              · have t1 : (t : Int) < (pre.length : Int) := by omega
                have t0 : (0 : Int) ≤ (t : Int) := by omega
                have wt : IntKind.i64.wrap ((t : Int) + 1) = ((t + 1 : Nat) : Int) := by rw [IntWalk.i64_in _ (by omega)]; omega
                have e2 := nth_eqs pre t htl
                have htk := List.take_succ_eq_append_getElem htl
                have hmem : pre[t] ∈ pre := List.getElem_mem htl
                generalize pre[t] = y at *
                obtain ⟨yu, yv, yw, ⟨yk, ym, ya, yr, ys⟩⟩ := y
                have hly := low_exs n ys
                rw [eqD_mk] at e2
                by_cases s1 : yu = (rule : Int) ∧ yv = v ∧ yw = (j : Int)
                · obtain ⟨rfl, rfl, rfl⟩ := s1
                  have h6 : eqE s g i = 6 := by rw [hB, if_pos (List.any_eq_true.2 ⟨_, hmem, by simp⟩)]
                  rw [hFs, h6, if_neg (by decide)] at hF
                  rw [← hF, if_pos (by decide)] at hC
                  have hD : True := trivial
                  simp -implicitDefEqProofs only [↓symPre, symPost, y_condP, y_condG, run, lver, minD, intsD, eqAll, tupD, splice, Nat.zero_add, Nat.add_zero, Nat.zero_mul, Nat.mul_one, Nat.one_mul, Nat.reduceAdd, Nat.reduceSub, Nat.reduceMul, Nat.reduceLT, Nat.reduceLeDiff, Nat.reduceEqDiff, true_and, and_true, true_implies, if_true, if_false, ite_true, reduceIte, ne_eq, not_false_eq_true, reduceCtorEq, forall_const, bne_self_eq_false, Bool.true_eq_false, Bool.false_eq_true, false_implies, and_self, implies_true, Int.toNat_zero, beq_self_eq_true, decide_true, decide_false, Bool.not_true, Bool.not_false, ↓y_lookv, y_key1, y_mlook, y_mlookn, y_mres1, y_mres0, ↓y_call, t1, t0, decide_true, List.length_map, Int.toNat_natCast, e2, Bool.and_true, Bool.and_self, Bool.bne_false]
                  exact fin_int hl hC.symm
                · have hgo : (pre.take (t + 1)).any (fun p => decide (p.rule = (rule : Int) ∧ p.at' = v ∧ p.attr = (j : Int))) = false := by
                    rw [htk, List.any_append, hno]; simp only [List.any_cons, List.any_nil, Bool.or_false, Bool.false_or, decide_eq_false_iff_not]; exact s1
                  by_cases s2 : yu = (rule : Int)
                  · have b1 : (yu == (rule : Int)) = true := by simp [s2]
                    obtain ⟨b, hb2, hbf⟩ : ∃ b, (yv == v && (yw == (j : Int) && true)) = b ∧ b = false := ⟨_, rfl, by
                      rw [Bool.and_true, Bool.and_eq_false_iff, beq_eq_false_iff_ne, beq_eq_false_iff_ne]
                      by_cases h1 : yv = v
                      · exact .inr fun h2 => s1 ⟨s2, h1, h2⟩
                      · exact .inl h1⟩
                    have hb3 : ((yv == v && (yw == (j : Int) && true)) != false) = false := by rw [hb2, hbf]; rfl
                    simp -implicitDefEqProofs only [↓symPre, symPost, y_condP, y_condG, run, lver, minD, intsD, eqAll, tupD, splice, Nat.zero_add, Nat.add_zero, Nat.zero_mul, Nat.mul_one, Nat.one_mul, Nat.reduceAdd, Nat.reduceSub, Nat.reduceMul, Nat.reduceLT, Nat.reduceLeDiff, Nat.reduceEqDiff, true_and, and_true, true_implies, if_true, if_false, ite_true, reduceIte, ne_eq, not_false_eq_true, reduceCtorEq, forall_const, bne_self_eq_false, Bool.true_eq_false, Bool.false_eq_true, false_implies, and_self, implies_true, Int.toNat_zero, beq_self_eq_true, decide_true, decide_false, Bool.not_true, Bool.not_false, ↓y_lookv, y_key1, y_mlook, y_mlookn, y_mres1, y_mres0, ↓y_call, t1, t0, decide_true, List.length_map, Int.toNat_natCast, e2, b1, hb3, wt]
                    refine ⟨t + 1, ⟨by omega, hgo⟩, by omega, ?_⟩
                    refine le_to ([.hole, .hole, .old 2, .old 3] ++ List.replicate 7 .hole ++ [.old 11] ++ List.replicate 196 .hole) hl rfl ?_ ?_ <;> ((try simp only [y_blk_end, y_blk_hole, y_blk_nil, y_blk_old, y_wkl_end, y_wkl_top, List.replicate, List.cons_append, List.nil_append, and_true, true_and]) <;> (repeat' (first | apply And.intro | apply y_wkl | refine Exists.intro _ (And.intro rfl ?_))) <;> (try first | exact trivial | exact Wk.top _ | exact wk_int rfl | exact wk_bool rfl | exact wk_ptr rfl rfl rfl rfl | exact wk_ref rfl rfl rfl rfl rfl | exact wk_nil rfl rfl rfl | exact wk_ref rfl rfl rfl rfl (by simp) | exact wk_ref rfl rfl rfl rfl (by simp; omega) | exact wk_old (by assumption) (by simp) | exact wk_eq rfl (by first | exact Bd.int _ _ | exact Bd.bool _ | exact Bd.abool | exact Bd.nils | exact Bd.emp | exact Bd.nilp | exact Bd.nilfn | assumption | exact low_trees _ _ | exact low_treeD _ _ | exact low_ints _ _) | exact Nat.le_refl _ | exact wk_int (by simp) | exact wk_int (by omega) | exact Nat.succ_le_succ (Nat.zero_le _) | exact Nat.le_add_left _ _ | omega))
                  · have b1 : (yu == (rule : Int)) = false := by simp [s2]
                    simp -implicitDefEqProofs only [↓symPre, symPost, y_condP, y_condG, run, lver, minD, intsD, eqAll, tupD, splice, Nat.zero_add, Nat.add_zero, Nat.zero_mul, Nat.mul_one, Nat.one_mul, Nat.reduceAdd, Nat.reduceSub, Nat.reduceMul, Nat.reduceLT, Nat.reduceLeDiff, Nat.reduceEqDiff, true_and, and_true, true_implies, if_true, if_false, ite_true, reduceIte, ne_eq, not_false_eq_true, reduceCtorEq, forall_const, bne_self_eq_false, Bool.true_eq_false, Bool.false_eq_true, false_implies, and_self, implies_true, Int.toNat_zero, beq_self_eq_true, decide_true, decide_false, Bool.not_true, Bool.not_false, ↓y_lookv, y_key1, y_mlook, y_mlookn, y_mres1, y_mres0, ↓y_call, t1, t0, decide_true, List.length_map, Int.toNat_natCast, e2, b1, wt]
                    refine ⟨t + 1, ⟨by omega, hgo⟩, by omega, ?_⟩
                    refine le_to ([.hole, .hole, .old 2, .old 3] ++ List.replicate 7 .hole ++ [.old 11] ++ List.replicate 196 .hole) hl rfl ?_ ?_ <;> ((try simp only [y_blk_end, y_blk_hole, y_blk_nil, y_blk_old, y_wkl_end, y_wkl_top, List.replicate, List.cons_append, List.nil_append, and_true, true_and]) <;> (repeat' (first | apply And.intro | apply y_wkl | refine Exists.intro _ (And.intro rfl ?_))) <;> (try first | exact trivial | exact Wk.top _ | exact wk_int rfl | exact wk_bool rfl | exact wk_ptr rfl rfl rfl rfl | exact wk_ref rfl rfl rfl rfl rfl | exact wk_nil rfl rfl rfl | exact wk_ref rfl rfl rfl rfl (by simp) | exact wk_ref rfl rfl rfl rfl (by simp; omega) | exact wk_old (by assumption) (by simp) | exact wk_eq rfl (by first | exact Bd.int _ _ | exact Bd.bool _ | exact Bd.abool | exact Bd.nils | exact Bd.emp | exact Bd.nilp | exact Bd.nilfn | assumption | exact low_trees _ _ | exact low_treeD _ _ | exact low_ints _ _) | exact Nat.le_refl _ | exact wk_int (by simp) | exact wk_int (by omega) | exact Nat.succ_le_succ (Nat.zero_le _) | exact Nat.le_add_left _ _ | omega))
              · have t1 : ¬ (t : Int) < (pre.length : Int) := by omega
                rw [List.take_of_length_le (by omega)] at hno
                rw [hno, if_neg (by simp)] at hB
                rw [hFs, hB, if_pos rfl] at hF
                simp -implicitDefEqProofs only [↓symPre, symPost, y_condP, y_condG, run, lver, minD, intsD, eqAll, tupD, splice, Nat.zero_add, Nat.add_zero, Nat.zero_mul, Nat.mul_one, Nat.one_mul, Nat.reduceAdd, Nat.reduceSub, Nat.reduceMul, Nat.reduceLT, Nat.reduceLeDiff, Nat.reduceEqDiff, true_and, and_true, true_implies, if_true, if_false, ite_true, reduceIte, ne_eq, not_false_eq_true, reduceCtorEq, forall_const, bne_self_eq_false, Bool.true_eq_false, Bool.false_eq_true, false_implies, and_self, implies_true, Int.toNat_zero, beq_self_eq_true, decide_true, decide_false, Bool.not_true, Bool.not_false, ↓y_lookv, y_key1, y_mlook, y_mlookn, y_mres1, y_mres0, ↓y_call, t1, decide_false, w1]
                refine ⟨i + 1, ⟨by omega, hF⟩, by omega, ?_⟩
                refine le_to ([.hole, .hole, .old 2, .old 3] ++ List.replicate 204 .hole) hl rfl ?_ ?_ <;> ((try simp only [y_blk_end, y_blk_hole, y_blk_nil, y_blk_old, y_wkl_end, y_wkl_top, List.replicate, List.cons_append, List.nil_append, and_true, true_and]) <;> (repeat' (first | apply And.intro | apply y_wkl | refine Exists.intro _ (And.intro rfl ?_))) <;> (try first | exact trivial | exact Wk.top _ | exact wk_int rfl | exact wk_bool rfl | exact wk_ptr rfl rfl rfl rfl | exact wk_ref rfl rfl rfl rfl rfl | exact wk_nil rfl rfl rfl | exact wk_ref rfl rfl rfl rfl (by simp) | exact wk_ref rfl rfl rfl rfl (by simp; omega) | exact wk_old (by assumption) (by simp) | exact wk_eq rfl (by first | exact Bd.int _ _ | exact Bd.bool _ | exact Bd.abool | exact Bd.nils | exact Bd.emp | exact Bd.nilp | exact Bd.nilfn | assumption | exact low_trees _ _ | exact low_treeD _ _ | exact low_ints _ _) | exact Nat.le_refl _ | exact wk_int (by simp) | exact wk_int (by omega) | exact Nat.succ_le_succ (Nat.zero_le _) | exact Nat.le_add_left _ _ | omega))

end Abs
end Go.Proofs.Ytbdcklchcdkhbaa

/- AttrChecks. -/
import Derived.Test.YtbdcklchcdkhbaaQ16
import Derived.Test.YtbdcklchcdkhbaaQ17
namespace Go.Proofs.Ytbdcklchcdkhbaa
namespace Abs
set_option linter.unusedVariables false
set_option linter.unusedSimpArgs false
set_option maxRecDepth 20000

def faultN (s : Sys) (g : Gr) : Int := if gchk g ≠ 0 then gchk g else sysN s g
theorem chk_eq (s : Sys) (g : Gr) : chkN s g = faultN s g := by
  unfold chkN faultN sysN tailN
  by_cases h : s.eqs.length > 200
  · have h' : (s.eqs.length : Int) > 200 := by omega
    rw [if_pos h, if_pos h']
  · have h' : ¬ (s.eqs.length : Int) > 200 := by omega
    rw [if_neg h, if_neg h']

theorem pure_faulty (s : Sys) (g : Gr) (hgl : g.rules.length < 2 ^ 40) (hx : ∀ r ∈ g.rules, r.right.length < 2 ^ 20) (hA : s.attrs.length < 2 ^ 21) (hE : s.eqs.length < 2 ^ 40) (hz : ∀ q ∈ s.eqs, sz q.is * 64 ≤ 140737488355328) : Pure prog F_parllaw4_faulty [gramD g, sysD s] (.int .i64 (faultN s g)) := by
  intro n h
  have pg := pure_gramCheck g (by omega) fun r h => Nat.lt_trans (hx r h) (by decide)
  have pf := pure_SystemFault s g hgl hx hA hE hz
  refine K_parllaw4_faulty.calls fun hl => ?_
  have hC : faultN s g = if gchk g ≠ 0 then gchk g else sysN s g := rfl
  generalize gchk g = cg at *
  generalize sysN s g = cs at *
  have hlr := low_rules n g.rules
  have hla := low_ats n s.attrs
  have hle := low_eqs n s.eqs
  unfold C_parllaw4_faulty
  unfold gramD sysD at *
  by_cases c0 : cg = 0
  · rw [if_neg (by simpa using c0)] at hC
    have b0 : (cg != 0) = false := by simpa using c0
    simp -implicitDefEqProofs only [↓symPre, symPost, y_condP, y_condG, run, lver, minD, intsD, eqAll, tupD, splice, Nat.zero_add, Nat.add_zero, Nat.zero_mul, Nat.mul_one, Nat.one_mul, Nat.reduceAdd, Nat.reduceSub, Nat.reduceMul, Nat.reduceLT, Nat.reduceLeDiff, Nat.reduceEqDiff, true_and, and_true, true_implies, if_true, if_false, ite_true, reduceIte, ne_eq, not_false_eq_true, reduceCtorEq, forall_const, bne_self_eq_false, Bool.true_eq_false, Bool.false_eq_true, false_implies, and_self, implies_true, Int.toNat_zero, beq_self_eq_true, decide_true, decide_false, Bool.not_true, Bool.not_false, ↓y_lookv, y_key1, y_mlook, y_mlookn, y_mres1, y_mres0, ↓y_call]
    refine pg.call rfl ?_
    simp -implicitDefEqProofs only [↓symPre, symPost, y_condP, y_condG, run, lver, minD, intsD, eqAll, tupD, splice, Nat.zero_add, Nat.add_zero, Nat.zero_mul, Nat.mul_one, Nat.one_mul, Nat.reduceAdd, Nat.reduceSub, Nat.reduceMul, Nat.reduceLT, Nat.reduceLeDiff, Nat.reduceEqDiff, true_and, and_true, true_implies, if_true, if_false, ite_true, reduceIte, ne_eq, not_false_eq_true, reduceCtorEq, forall_const, bne_self_eq_false, Bool.true_eq_false, Bool.false_eq_true, false_implies, and_self, implies_true, Int.toNat_zero, beq_self_eq_true, decide_true, decide_false, Bool.not_true, Bool.not_false, ↓y_lookv, y_key1, y_mlook, y_mlookn, y_mres1, y_mres0, ↓y_call, b0]
    refine pf.call rfl ?_
    simp -implicitDefEqProofs only [↓symPre, symPost, y_condP, y_condG, run, lver, minD, intsD, eqAll, tupD, splice, Nat.zero_add, Nat.add_zero, Nat.zero_mul, Nat.mul_one, Nat.one_mul, Nat.reduceAdd, Nat.reduceSub, Nat.reduceMul, Nat.reduceLT, Nat.reduceLeDiff, Nat.reduceEqDiff, true_and, and_true, true_implies, if_true, if_false, ite_true, reduceIte, ne_eq, not_false_eq_true, reduceCtorEq, forall_const, bne_self_eq_false, Bool.true_eq_false, Bool.false_eq_true, false_implies, and_self, implies_true, Int.toNat_zero, beq_self_eq_true, decide_true, decide_false, Bool.not_true, Bool.not_false, ↓y_lookv, y_key1, y_mlook, y_mlookn, y_mres1, y_mres0, ↓y_call]
    exact fin_int hl hC.symm
  · rw [if_pos c0] at hC
    have b0 : (cg != 0) = true := by simpa using c0
    simp -implicitDefEqProofs only [↓symPre, symPost, y_condP, y_condG, run, lver, minD, intsD, eqAll, tupD, splice, Nat.zero_add, Nat.add_zero, Nat.zero_mul, Nat.mul_one, Nat.one_mul, Nat.reduceAdd, Nat.reduceSub, Nat.reduceMul, Nat.reduceLT, Nat.reduceLeDiff, Nat.reduceEqDiff, true_and, and_true, true_implies, if_true, if_false, ite_true, reduceIte, ne_eq, not_false_eq_true, reduceCtorEq, forall_const, bne_self_eq_false, Bool.true_eq_false, Bool.false_eq_true, false_implies, and_self, implies_true, Int.toNat_zero, beq_self_eq_true, decide_true, decide_false, Bool.not_true, Bool.not_false, ↓y_lookv, y_key1, y_mlook, y_mlookn, y_mres1, y_mres0, ↓y_call]
    refine pg.call rfl ?_
    simp -implicitDefEqProofs only [↓symPre, symPost, y_condP, y_condG, run, lver, minD, intsD, eqAll, tupD, splice, Nat.zero_add, Nat.add_zero, Nat.zero_mul, Nat.mul_one, Nat.one_mul, Nat.reduceAdd, Nat.reduceSub, Nat.reduceMul, Nat.reduceLT, Nat.reduceLeDiff, Nat.reduceEqDiff, true_and, and_true, true_implies, if_true, if_false, ite_true, reduceIte, ne_eq, not_false_eq_true, reduceCtorEq, forall_const, bne_self_eq_false, Bool.true_eq_false, Bool.false_eq_true, false_implies, and_self, implies_true, Int.toNat_zero, beq_self_eq_true, decide_true, decide_false, Bool.not_true, Bool.not_false, ↓y_lookv, y_key1, y_mlook, y_mlookn, y_mres1, y_mres0, ↓y_call, b0]
    exact fin_int hl hC.symm

def zeroS : Sys := ⟨[⟨0, false⟩], []⟩
theorem g_list : gchk listG = 0 := by decide +kernel
theorem a_leaves : attrF listG leavesS.attrs = 0 := by decide +kernel
theorem q_leaves0 : eqnB leavesS listG ⟨0, 0, 0, .mk 2 0 0 0 [valX, oneX]⟩ = 0 := by
  rw [eqnB]
  simp only [sz_mk, exL_mk, valX, oneX, List.map_cons, List.map_nil, List.flatten_cons, List.flatten_nil, List.sum_cons, List.sum_nil]
  decide +kernel
theorem q_leaves1 : eqnB leavesS listG ⟨1, 0, 0, oneX⟩ = 0 := by
  rw [eqnB]
  simp only [sz_mk, exL_mk, oneX, List.map_nil, List.flatten_nil, List.sum_nil]
  decide +kernel
theorem chk_leaves : chkN leavesS listG = 0 := by
  have e0 : eqE leavesS listG 0 = 0 := by
    rw [eqE, show leavesS.eqs.getD 0 eq0 = ⟨0, 0, 0, .mk 2 0 0 0 [valX, oneX]⟩ from rfl, q_leaves0]; rfl
  have e1 : eqE leavesS listG 1 = 0 := by
    rw [eqE, show leavesS.eqs.getD 1 eq0 = ⟨1, 0, 0, oneX⟩ from rfl, q_leaves1]; rfl
  have e2 : firstNZ (eqE leavesS listG) 0 leavesS.eqs.length = 0 := by
    show firstNZ (eqE leavesS listG) 0 2 = 0
    rw [firstNZ, if_pos e0, firstNZ, if_pos e1, firstNZ]
  rw [chkN, g_list, a_leaves, e2]
  decide +kernel
theorem chk_zero : chkN zeroS listG = 5 := by
  rw [chkN, g_list]
  decide +kernel

theorem findQ_some {rule k a : Int} {l : List Eqn} {q : Eqn} (h : findQ rule k a l = some q) : q.rule = rule ∧ q.at' = k ∧ q.attr = a :=
  of_decide_eq_true (List.find?_some (p := isP rule k a) h)

set_option maxHeartbeats 8000000 in
theorem pure_AttrChecks (g : Gr) (s : Sys) (rule k a : Int) (hgl : g.rules.length < 2 ^ 40) (hx : ∀ r ∈ g.rules, r.right.length < 2 ^ 20) (hA : s.attrs.length < 2 ^ 21) (hE : s.eqs.length < 2 ^ 40) (hz : ∀ q ∈ s.eqs, sz q.is < 2 ^ 40) :
    Pure prog F_parllaw4_AttrChecks [gramD g, sysD s, .int .i64 rule, .agg [.int .i64 k, .int .i64 a]] (.bool true) := by
  intro n h
  have pc := pure_attrCheck s g hgl hx hA hE hz
  have pf := pure_faulty s g hgl hx hA hE (fun q hq => by have := hz q hq; omega)
  rw [← chk_eq] at pf
  have pc1 := pure_attrCheck leavesS listG (by decide) (by decide) (by decide) (by decide) (by
    intro q hq
    simp only [leavesS, List.mem_cons, List.not_mem_nil, or_false] at hq
    rcases hq with rfl | rfl <;> simp [sz_mk, oneX, valX])
  have pc2 := pure_attrCheck zeroS listG (by decide) (by decide) (by decide) (by decide) (by simp [zeroS])
  have pF := pure_Find s rule k a (by omega)
  rw [chk_leaves] at pc1
  rw [chk_zero] at pc2
  generalize chkN s g = e at *
  refine K_parllaw4_AttrChecks.calls fun hl => ?_
  have hlr := low_rules n g.rules
  have hla := low_ats n s.attrs
  have hle := low_eqs n s.eqs
  unfold C_parllaw4_AttrChecks
  rw [show gramD g = .agg [.int .i64 g.terms, .int .i64 g.nons, .int .i64 g.start, .lst (g.rules.map ruleD)] from rfl, show sysD s = .agg [.lst (s.attrs.map atD), .lst (s.eqs.map eqD)] from rfl] at pc pf ⊢
  rw [show sysD s = .agg [.lst (s.attrs.map atD), .lst (s.eqs.map eqD)] from rfl] at pF
  simp -implicitDefEqProofs only [↓symPre, symPost, y_condP, y_condG, run, lver, minD, intsD, eqAll, tupD, splice, Nat.zero_add, Nat.add_zero, Nat.zero_mul, Nat.mul_one, Nat.one_mul, Nat.reduceAdd, Nat.reduceSub, Nat.reduceMul, Nat.reduceLT, Nat.reduceLeDiff, Nat.reduceEqDiff, true_and, and_true, true_implies, if_true, if_false, ite_true, reduceIte, ne_eq, not_false_eq_true, reduceCtorEq, forall_const, bne_self_eq_false, Bool.true_eq_false, Bool.false_eq_true, false_implies, and_self, implies_true, Int.toNat_zero, beq_self_eq_true, decide_true, decide_false, Bool.not_true, Bool.not_false, ↓y_lookv, y_key1, y_mlook, y_mlookn, y_mres1, y_mres0, ↓y_call]
  refine pure_list.call rfl ?_
  simp -implicitDefEqProofs only [↓symPre, symPost, y_condP, y_condG, run, lver, minD, intsD, eqAll, tupD, splice, Nat.zero_add, Nat.add_zero, Nat.zero_mul, Nat.mul_one, Nat.one_mul, Nat.reduceAdd, Nat.reduceSub, Nat.reduceMul, Nat.reduceLT, Nat.reduceLeDiff, Nat.reduceEqDiff, true_and, and_true, true_implies, if_true, if_false, ite_true, reduceIte, ne_eq, not_false_eq_true, reduceCtorEq, forall_const, bne_self_eq_false, Bool.true_eq_false, Bool.false_eq_true, false_implies, and_self, implies_true, Int.toNat_zero, beq_self_eq_true, decide_true, decide_false, Bool.not_true, Bool.not_false, ↓y_lookv, y_key1, y_mlook, y_mlookn, y_mres1, y_mres0, ↓y_call]
  refine pure_leaves.call rfl ?_
  simp -implicitDefEqProofs only [↓symPre, symPost, y_condP, y_condG, run, lver, minD, intsD, eqAll, tupD, splice, Nat.zero_add, Nat.add_zero, Nat.zero_mul, Nat.mul_one, Nat.one_mul, Nat.reduceAdd, Nat.reduceSub, Nat.reduceMul, Nat.reduceLT, Nat.reduceLeDiff, Nat.reduceEqDiff, true_and, and_true, true_implies, if_true, if_false, ite_true, reduceIte, ne_eq, not_false_eq_true, reduceCtorEq, forall_const, bne_self_eq_false, Bool.true_eq_false, Bool.false_eq_true, false_implies, and_self, implies_true, Int.toNat_zero, beq_self_eq_true, decide_true, decide_false, Bool.not_true, Bool.not_false, ↓y_lookv, y_key1, y_mlook, y_mlookn, y_mres1, y_mres0, ↓y_call]
  refine pc1.call rfl ?_
  simp -implicitDefEqProofs only [↓symPre, symPost, y_condP, y_condG, run, lver, minD, intsD, eqAll, tupD, splice, Nat.zero_add, Nat.add_zero, Nat.zero_mul, Nat.mul_one, Nat.one_mul, Nat.reduceAdd, Nat.reduceSub, Nat.reduceMul, Nat.reduceLT, Nat.reduceLeDiff, Nat.reduceEqDiff, true_and, and_true, true_implies, if_true, if_false, ite_true, reduceIte, ne_eq, not_false_eq_true, reduceCtorEq, forall_const, bne_self_eq_false, Bool.true_eq_false, Bool.false_eq_true, false_implies, and_self, implies_true, Int.toNat_zero, beq_self_eq_true, decide_true, decide_false, Bool.not_true, Bool.not_false, ↓y_lookv, y_key1, y_mlook, y_mlookn, y_mres1, y_mres0, ↓y_call]
  refine pure_list.call rfl ?_
  simp -implicitDefEqProofs only [↓symPre, symPost, y_condP, y_condG, run, lver, minD, intsD, eqAll, tupD, splice, Nat.zero_add, Nat.add_zero, Nat.zero_mul, Nat.mul_one, Nat.one_mul, Nat.reduceAdd, Nat.reduceSub, Nat.reduceMul, Nat.reduceLT, Nat.reduceLeDiff, Nat.reduceEqDiff, true_and, and_true, true_implies, if_true, if_false, ite_true, reduceIte, ne_eq, not_false_eq_true, reduceCtorEq, forall_const, bne_self_eq_false, Bool.true_eq_false, Bool.false_eq_true, false_implies, and_self, implies_true, Int.toNat_zero, beq_self_eq_true, decide_true, decide_false, Bool.not_true, Bool.not_false, ↓y_lookv, y_key1, y_mlook, y_mlookn, y_mres1, y_mres0, ↓y_call]
  refine pc2.callF (.int ..) rfl (y_wkl (.low _ (low_gramD _ _)) (y_wkl (wk_agg2 (fz_F atD atD_cells (low_atD 0) (l := [⟨0, false⟩]) (by omega) (by rw [mrg_loc]; rfl) rfl) .nilsLst) trivial)) ?_
  simp -implicitDefEqProofs only [↓symPre, symPost, y_condP, y_condG, run, lver, minD, intsD, eqAll, tupD, splice, Nat.zero_add, Nat.add_zero, Nat.zero_mul, Nat.mul_one, Nat.one_mul, Nat.reduceAdd, Nat.reduceSub, Nat.reduceMul, Nat.reduceLT, Nat.reduceLeDiff, Nat.reduceEqDiff, true_and, and_true, true_implies, if_true, if_false, ite_true, reduceIte, ne_eq, not_false_eq_true, reduceCtorEq, forall_const, bne_self_eq_false, Bool.true_eq_false, Bool.false_eq_true, false_implies, and_self, implies_true, Int.toNat_zero, beq_self_eq_true, decide_true, decide_false, Bool.not_true, Bool.not_false, ↓y_lookv, y_key1, y_mlook, y_mlookn, y_mres1, y_mres0, ↓y_call]
  refine adrawq hmix [] ?_
  simp (maxSteps := 400000) -implicitDefEqProofs only [↓symPre, symPost, y_condP, y_condG, run, lver, minD, intsD, eqAll, tupD, splice, Nat.zero_add, Nat.add_zero, Nat.zero_mul, Nat.mul_one, Nat.one_mul, Nat.reduceAdd, Nat.reduceSub, Nat.reduceMul, Nat.reduceLT, Nat.reduceLeDiff, Nat.reduceEqDiff, true_and, and_true, true_implies, if_true, if_false, ite_true, reduceIte, ne_eq, not_false_eq_true, reduceCtorEq, forall_const, bne_self_eq_false, Bool.true_eq_false, Bool.false_eq_true, false_implies, and_self, implies_true, Int.toNat_zero, beq_self_eq_true, decide_true, decide_false, Bool.not_true, Bool.not_false, ↓y_lookv, y_key1, y_mlook, y_mlookn, y_mres1, y_mres0, ↓y_call, ↓y_adq0, ↓y_adq, ↓y_stepQ_call, ↓y_adq_onT, ↓y_adq_onF, ↓y_adq_onS, drawPost, isCall, isNew, isEff, Option.toList, or_false, false_or, cond_true, cond_false, not_true_eq_false, or_true, true_or, Nat.add_left_cancel_iff, Bool.false_eq_true, ↓y_q0, ↓y_q1, ↓y_q1e, y_qn, isMap]
  refine ⟨_, _, pc.draw rfl, (by simp [y_cov0, y_cov1, isNew, isEff, Option.toList]), ?_⟩
  simp (maxSteps := 400000) -implicitDefEqProofs only [↓symPre, symPost, y_condP, y_condG, run, lver, minD, intsD, eqAll, tupD, splice, Nat.zero_add, Nat.add_zero, Nat.zero_mul, Nat.mul_one, Nat.one_mul, Nat.reduceAdd, Nat.reduceSub, Nat.reduceMul, Nat.reduceLT, Nat.reduceLeDiff, Nat.reduceEqDiff, true_and, and_true, true_implies, if_true, if_false, ite_true, reduceIte, ne_eq, not_false_eq_true, reduceCtorEq, forall_const, bne_self_eq_false, Bool.true_eq_false, Bool.false_eq_true, false_implies, and_self, implies_true, Int.toNat_zero, beq_self_eq_true, decide_true, decide_false, Bool.not_true, Bool.not_false, ↓y_lookv, y_key1, y_mlook, y_mlookn, y_mres1, y_mres0, ↓y_call, ↓y_adq0, ↓y_adq, ↓y_stepQ_call, ↓y_adq_onT, ↓y_adq_onF, ↓y_adq_onS, drawPost, isCall, isNew, isEff, Option.toList, or_false, false_or, cond_true, cond_false, not_true_eq_false, or_true, true_or, Nat.add_left_cancel_iff, Bool.false_eq_true, ↓y_q0, ↓y_q1, ↓y_q1e, y_qn, isMap]
  refine ⟨_, _, pf.draw rfl, (by simp [y_cov0, y_cov1, isNew, isEff, Option.toList]), ?_⟩
  simp (maxSteps := 400000) -implicitDefEqProofs only [↓symPre, symPost, y_condP, y_condG, run, lver, minD, intsD, eqAll, tupD, splice, Nat.zero_add, Nat.add_zero, Nat.zero_mul, Nat.mul_one, Nat.one_mul, Nat.reduceAdd, Nat.reduceSub, Nat.reduceMul, Nat.reduceLT, Nat.reduceLeDiff, Nat.reduceEqDiff, true_and, and_true, true_implies, if_true, if_false, ite_true, reduceIte, ne_eq, not_false_eq_true, reduceCtorEq, forall_const, bne_self_eq_false, Bool.true_eq_false, Bool.false_eq_true, false_implies, and_self, implies_true, Int.toNat_zero, beq_self_eq_true, decide_true, decide_false, Bool.not_true, Bool.not_false, ↓y_lookv, y_key1, y_mlook, y_mlookn, y_mres1, y_mres0, ↓y_call, ↓y_adq0, ↓y_adq, ↓y_stepQ_call, ↓y_adq_onT, ↓y_adq_onF, ↓y_adq_onS, drawPost, isCall, isNew, isEff, Option.toList, or_false, false_or, cond_true, cond_false, not_true_eq_false, or_true, true_or, Nat.add_left_cancel_iff, Bool.false_eq_true, ↓y_q0, ↓y_q1, ↓y_q1e, y_qn, isMap]
  refine pF.call rfl ?_
  cases hq : findQ rule k a s.eqs with
  | some q =>
    have hqp := findQ_some hq
    have hqz : sz q.is < 2 ^ 60 := by have := hz q (List.mem_of_find?_eq_some hq); omega
    have psm := pure_same q.is hqz
    obtain ⟨u, v, w, ⟨qk, qm, qa, qr, qs⟩⟩ := q
    have hlq := low_exs n qs
    simp only at hqp psm
    rw [exD_mk] at psm
    obtain ⟨v0, h0⟩ : ∃ z : Int, z = 0 := ⟨0, rfl⟩
    have z0 : (v0 == 0) = true := by simp [h0]
    have hfd : foundD (some ⟨u, v, w, .mk qk qm qa qr qs⟩) = .tup [.agg [.int .i64 u, .int .i64 v, .int .i64 w, .int .i64 qk, .int .i64 qm, .int .i64 qa, .int .i64 qr, .lst (qs.map exD)], .int .i64 v0] := by
      rw [foundD, eqD_mk, h0]
    rw [hfd]
    clear h0 hfd
    have b1 : (u == rule) = true := by simp [hqp.1]
    have b2 : (v == k) = true := by simp [hqp.2.1]
    have b3 : (w == a) = true := by simp [hqp.2.2]
    simp -implicitDefEqProofs only [↓symPre, symPost, y_condP, y_condG, run, lver, minD, intsD, eqAll, tupD, splice, Nat.zero_add, Nat.add_zero, Nat.zero_mul, Nat.mul_one, Nat.one_mul, Nat.reduceAdd, Nat.reduceSub, Nat.reduceMul, Nat.reduceLT, Nat.reduceLeDiff, Nat.reduceEqDiff, true_and, and_true, true_implies, if_true, if_false, ite_true, reduceIte, ne_eq, not_false_eq_true, reduceCtorEq, forall_const, bne_self_eq_false, Bool.true_eq_false, Bool.false_eq_true, false_implies, and_self, implies_true, Int.toNat_zero, beq_self_eq_true, decide_true, decide_false, Bool.not_true, Bool.not_false, ↓y_lookv, y_key1, y_mlook, y_mlookn, y_mres1, y_mres0, ↓y_call, List.length_map]
    refine aloop (fun i : Nat => St.mk n ([.top, .top, .int .i64 rule, .top, .top, .top, .top, .ptr (n + 7) 1 0, .top, .ptr (n + 9) 1 0, .int .i64 v0] ++ List.replicate 29 .top ++ [.lst (s.eqs.map eqD), .int .i64 s.eqs.length, .int .i64 i] ++ List.replicate 54 .top) h
        (List.replicate 7 blk0 ++ [⟨1, .cells [.int .i64 k, .int .i64 a]⟩, blk0, ⟨1, .cells [.int .i64 u, .int .i64 v, .int .i64 w, .int .i64 qk, .int .i64 qm, .int .i64 qa, .int .i64 qr, .lst (qs.map exD)]⟩] ++ List.replicate 87 blk0))
      (fun i => i ≤ s.eqs.length ∧ findQ rule k a (s.eqs.drop i) = some ⟨u, v, w, .mk qk qm qa qr qs⟩) (fun i => s.eqs.length - i) 0 ⟨Nat.zero_le _, hq⟩ ?_ ?_
    · refine le_to (List.replicate 7 .hole ++ [.old 7, .hole, .old 9] ++ List.replicate 87 .hole) hl rfl ?_ ?_ <;> ((try simp only [y_blk_end, y_blk_hole, y_blk_nil, y_blk_old, y_wkl_end, y_wkl_top, List.replicate, List.cons_append, List.nil_append, and_true, true_and]) <;> (repeat' (first | apply And.intro | apply y_wkl | refine Exists.intro _ (And.intro rfl ?_))) <;> (try first | exact trivial | exact Wk.top _ | exact wk_int rfl | exact wk_bool rfl | exact wk_ptr rfl rfl rfl rfl | exact wk_ref rfl rfl rfl rfl rfl | exact wk_nil rfl rfl rfl | exact wk_ref rfl rfl rfl rfl (by simp) | exact wk_ref rfl rfl rfl rfl (by simp; omega) | exact wk_old (by assumption) (by simp) | exact wk_eq rfl (by first | exact Bd.int _ _ | exact Bd.bool _ | exact Bd.abool | exact Bd.nils | exact Bd.emp | exact Bd.nilp | exact Bd.nilfn | assumption | exact low_trees _ _ | exact low_treeD _ _ | exact low_ints _ _) | exact Nat.le_refl _ | exact wk_int (by simp) | exact wk_int (by omega) | exact Nat.succ_le_succ (Nat.zero_le _) | exact Nat.le_add_left _ _ | omega))
    · rintro i ⟨hi, hf⟩
      by_cases hlt : i < s.eqs.length
      rotate_left
      · rw [List.drop_eq_nil_of_le (by omega)] at hf
        cases hf
      have f1 : (i : Int) < (s.eqs.length : Int) := by omega
      have f0 : (0 : Int) ≤ (i : Int) := by omega
      have w1 : IntKind.i64.wrap ((i : Int) + 1) = ((i + 1 : Nat) : Int) := by rw [IntWalk.i64_in _ (by omega)]; omega
      have e0 := nth_eqs s.eqs i hlt
      rw [List.drop_eq_getElem_cons hlt, findQ, List.find?_cons] at hf
      generalize s.eqs[i] = y at *
      by_cases s1 : y.rule = rule ∧ y.at' = k ∧ y.attr = a
      · rw [show isP rule k a y = true from decide_eq_true s1] at hf
        simp only [Option.some.injEq] at hf
        subst hf
        rw [eqD_mk] at e0
        simp -implicitDefEqProofs only [↓symPre, symPost, y_condP, y_condG, run, lver, minD, intsD, eqAll, tupD, splice, Nat.zero_add, Nat.add_zero, Nat.zero_mul, Nat.mul_one, Nat.one_mul, Nat.reduceAdd, Nat.reduceSub, Nat.reduceMul, Nat.reduceLT, Nat.reduceLeDiff, Nat.reduceEqDiff, true_and, and_true, true_implies, if_true, if_false, ite_true, reduceIte, ne_eq, not_false_eq_true, reduceCtorEq, forall_const, bne_self_eq_false, Bool.true_eq_false, Bool.false_eq_true, false_implies, and_self, implies_true, Int.toNat_zero, beq_self_eq_true, decide_true, decide_false, Bool.not_true, Bool.not_false, ↓y_lookv, y_key1, y_mlook, y_mlookn, y_mres1, y_mres0, ↓y_call, f1, f0, decide_true, List.length_map, Int.toNat_natCast, e0, b1, b2, b3, z0, ↓y_eqsF, ↓y_eqAllT]
        refine psm.call rfl ?_
        simp -implicitDefEqProofs only [↓symPre, symPost, y_condP, y_condG, run, lver, minD, intsD, eqAll, tupD, splice, Nat.zero_add, Nat.add_zero, Nat.zero_mul, Nat.mul_one, Nat.one_mul, Nat.reduceAdd, Nat.reduceSub, Nat.reduceMul, Nat.reduceLT, Nat.reduceLeDiff, Nat.reduceEqDiff, true_and, and_true, true_implies, if_true, if_false, ite_true, reduceIte, ne_eq, not_false_eq_true, reduceCtorEq, forall_const, bne_self_eq_false, Bool.true_eq_false, Bool.false_eq_true, false_implies, and_self, implies_true, Int.toNat_zero, beq_self_eq_true, decide_true, decide_false, Bool.not_true, Bool.not_false, ↓y_lookv, y_key1, y_mlook, y_mlookn, y_mres1, y_mres0, ↓y_call]
        exact fin_bool hl rfl
      · rw [show isP rule k a y = false from decide_eq_false s1] at hf
        simp only at hf
        obtain ⟨yu, yv, yw, ⟨yk, ym, ya, yr, ys⟩⟩ := y
        have hly := low_exs n ys
        simp only at s1
        rw [eqD_mk] at e0
        by_cases s2 : yu = rule
        · have c1 : (yu == rule) = true := by simp [s2]
          have hb3 : (yv == k && yw == a) = false := by
            rw [Bool.and_eq_false_iff, beq_eq_false_iff_ne, beq_eq_false_iff_ne]
            by_cases h1 : yv = k
            · exact .inr fun h2 => s1 ⟨s2, h1, h2⟩
            · exact .inl h1
          simp -implicitDefEqProofs only [↓symPre, symPost, y_condP, y_condG, run, lver, minD, intsD, eqAll, tupD, splice, Nat.zero_add, Nat.add_zero, Nat.zero_mul, Nat.mul_one, Nat.one_mul, Nat.reduceAdd, Nat.reduceSub, Nat.reduceMul, Nat.reduceLT, Nat.reduceLeDiff, Nat.reduceEqDiff, true_and, and_true, true_implies, if_true, if_false, ite_true, reduceIte, ne_eq, not_false_eq_true, reduceCtorEq, forall_const, bne_self_eq_false, Bool.true_eq_false, Bool.false_eq_true, false_implies, and_self, implies_true, Int.toNat_zero, beq_self_eq_true, decide_true, decide_false, Bool.not_true, Bool.not_false, ↓y_lookv, y_key1, y_mlook, y_mlookn, y_mres1, y_mres0, ↓y_call, f1, f0, decide_true, List.length_map, Int.toNat_natCast, e0, c1, hb3, w1, ↓y_eqsF, ↓y_eqAllF]
          refine ⟨i + 1, ⟨by omega, hf⟩, by omega, ?_⟩
          refine le_to (List.replicate 7 .hole ++ [.old 7, .hole, .old 9] ++ List.replicate 87 .hole) hl rfl ?_ ?_ <;> ((try simp only [y_blk_end, y_blk_hole, y_blk_nil, y_blk_old, y_wkl_end, y_wkl_top, List.replicate, List.cons_append, List.nil_append, and_true, true_and]) <;> (repeat' (first | apply And.intro | apply y_wkl | refine Exists.intro _ (And.intro rfl ?_))) <;> (try first | exact trivial | exact Wk.top _ | exact wk_int rfl | exact wk_bool rfl | exact wk_ptr rfl rfl rfl rfl | exact wk_ref rfl rfl rfl rfl rfl | exact wk_nil rfl rfl rfl | exact wk_ref rfl rfl rfl rfl (by simp) | exact wk_ref rfl rfl rfl rfl (by simp; omega) | exact wk_old (by assumption) (by simp) | exact wk_eq rfl (by first | exact Bd.int _ _ | exact Bd.bool _ | exact Bd.abool | exact Bd.nils | exact Bd.emp | exact Bd.nilp | exact Bd.nilfn | assumption | exact low_trees _ _ | exact low_treeD _ _ | exact low_ints _ _) | exact Nat.le_refl _ | exact wk_int (by simp) | exact wk_int (by omega) | exact Nat.succ_le_succ (Nat.zero_le _) | exact Nat.le_add_left _ _ | omega))
        · have c1 : (yu == rule) = false := by simp [s2]
          simp -implicitDefEqProofs only [↓symPre, symPost, y_condP, y_condG, run, lver, minD, intsD, eqAll, tupD, splice, Nat.zero_add, Nat.add_zero, Nat.zero_mul, Nat.mul_one, Nat.one_mul, Nat.reduceAdd, Nat.reduceSub, Nat.reduceMul, Nat.reduceLT, Nat.reduceLeDiff, Nat.reduceEqDiff, true_and, and_true, true_implies, if_true, if_false, ite_true, reduceIte, ne_eq, not_false_eq_true, reduceCtorEq, forall_const, bne_self_eq_false, Bool.true_eq_false, Bool.false_eq_true, false_implies, and_self, implies_true, Int.toNat_zero, beq_self_eq_true, decide_true, decide_false, Bool.not_true, Bool.not_false, ↓y_lookv, y_key1, y_mlook, y_mlookn, y_mres1, y_mres0, ↓y_call, f1, f0, decide_true, List.length_map, Int.toNat_natCast, e0, c1, w1]
          refine ⟨i + 1, ⟨by omega, hf⟩, by omega, ?_⟩
          refine le_to (List.replicate 7 .hole ++ [.old 7, .hole, .old 9] ++ List.replicate 87 .hole) hl rfl ?_ ?_ <;> ((try simp only [y_blk_end, y_blk_hole, y_blk_nil, y_blk_old, y_wkl_end, y_wkl_top, List.replicate, List.cons_append, List.nil_append, and_true, true_and]) <;> (repeat' (first | apply And.intro | apply y_wkl | refine Exists.intro _ (And.intro rfl ?_))) <;> (try first | exact trivial | exact Wk.top _ | exact wk_int rfl | exact wk_bool rfl | exact wk_ptr rfl rfl rfl rfl | exact wk_ref rfl rfl rfl rfl rfl | exact wk_nil rfl rfl rfl | exact wk_ref rfl rfl rfl rfl (by simp) | exact wk_ref rfl rfl rfl rfl (by simp; omega) | exact wk_old (by assumption) (by simp) | exact wk_eq rfl (by first | exact Bd.int _ _ | exact Bd.bool _ | exact Bd.abool | exact Bd.nils | exact Bd.emp | exact Bd.nilp | exact Bd.nilfn | assumption | exact low_trees _ _ | exact low_treeD _ _ | exact low_ints _ _) | exact Nat.le_refl _ | exact wk_int (by simp) | exact wk_int (by omega) | exact Nat.succ_le_succ (Nat.zero_le _) | exact Nat.le_add_left _ _ | omega))
  | none =>
    have psm := pure_same (.mk 0 0 0 0 []) (by simp [sz_mk])
    rw [exD_mk, List.map_nil] at psm
    obtain ⟨z, hz0⟩ : ∃ z : Int, z = 0 := ⟨0, rfl⟩
    obtain ⟨v5, h5⟩ : ∃ z : Int, z = 5 := ⟨5, rfl⟩
    have hfd : foundD none = .tup [.agg [.int .i64 z, .int .i64 z, .int .i64 z, .int .i64 z, .int .i64 z, .int .i64 z, .int .i64 z, .lst []], .int .i64 v5] := by
      rw [foundD, eqz, eqD_mk, hz0, h5]; rfl
    have psz : Pure prog F_parllaw4_sameExpr [.agg [.int .i64 z, .int .i64 z, .int .i64 z, .int .i64 z, .lst []], .agg [.int .i64 0, .int .i64 0, .int .i64 0, .int .i64 0, .lst []]] (.bool true) := by
      rw [hz0]; exact psm
    have z1 : (z == 0) = true := by simp [hz0]
    have z5 : (v5 == 5) = true := by simp [h5]
    rw [hfd]
    clear hfd psm hz0 h5
    have hlz : Low n (.lst []) := .lst _ (by simp)
    simp -implicitDefEqProofs only [↓symPre, symPost, y_condP, y_condG, run, lver, minD, intsD, eqAll, tupD, splice, Nat.zero_add, Nat.add_zero, Nat.zero_mul, Nat.mul_one, Nat.one_mul, Nat.reduceAdd, Nat.reduceSub, Nat.reduceMul, Nat.reduceLT, Nat.reduceLeDiff, Nat.reduceEqDiff, true_and, and_true, true_implies, if_true, if_false, ite_true, reduceIte, ne_eq, not_false_eq_true, reduceCtorEq, forall_const, bne_self_eq_false, Bool.true_eq_false, Bool.false_eq_true, false_implies, and_self, implies_true, Int.toNat_zero, beq_self_eq_true, decide_true, decide_false, Bool.not_true, Bool.not_false, ↓y_lookv, y_key1, y_mlook, y_mlookn, y_mres1, y_mres0, ↓y_call, List.length_map]
    refine aloop (fun i : Nat => St.mk n ([.top, .top, .int .i64 rule, .top, .top, .top, .top, .ptr (n + 7) 1 0, .top, .ptr (n + 9) 1 0, .int .i64 v5] ++ List.replicate 29 .top ++ [.lst (s.eqs.map eqD), .int .i64 s.eqs.length, .int .i64 i] ++ List.replicate 54 .top) h
        (List.replicate 7 blk0 ++ [⟨1, .cells [.int .i64 k, .int .i64 a]⟩, blk0, ⟨1, .cells [.int .i64 z, .int .i64 z, .int .i64 z, .int .i64 z, .int .i64 z, .int .i64 z, .int .i64 z, .lst []]⟩] ++ List.replicate 87 blk0))
      (fun i => i ≤ s.eqs.length) (fun i => s.eqs.length - i) 0 (Nat.zero_le _) ?_ ?_
    · refine le_to (List.replicate 7 .hole ++ [.old 7, .hole, .old 9] ++ List.replicate 87 .hole) hl rfl ?_ ?_ <;> ((try simp only [y_blk_end, y_blk_hole, y_blk_nil, y_blk_old, y_wkl_end, y_wkl_top, List.replicate, List.cons_append, List.nil_append, and_true, true_and]) <;> (repeat' (first | apply And.intro | apply y_wkl | refine Exists.intro _ (And.intro rfl ?_))) <;> (try first | exact trivial | exact Wk.top _ | exact wk_int rfl | exact wk_bool rfl | exact wk_ptr rfl rfl rfl rfl | exact wk_ref rfl rfl rfl rfl rfl | exact wk_nil rfl rfl rfl | exact wk_ref rfl rfl rfl rfl (by simp) | exact wk_ref rfl rfl rfl rfl (by simp; omega) | exact wk_old (by assumption) (by simp) | exact wk_eq rfl (by first | exact Bd.int _ _ | exact Bd.bool _ | exact Bd.abool | exact Bd.nils | exact Bd.emp | exact Bd.nilp | exact Bd.nilfn | assumption | exact low_trees _ _ | exact low_treeD _ _ | exact low_ints _ _) | exact Nat.le_refl _ | exact wk_int (by simp) | exact wk_int (by omega) | exact Nat.succ_le_succ (Nat.zero_le _) | exact Nat.le_add_left _ _ | omega))
    · intro i hi
      by_cases hlt : i < s.eqs.length
      · have f1 : (i : Int) < (s.eqs.length : Int) := by omega
        have f0 : (0 : Int) ≤ (i : Int) := by omega
        have w1 : IntKind.i64.wrap ((i : Int) + 1) = ((i + 1 : Nat) : Int) := by rw [IntWalk.i64_in _ (by omega)]; omega
        have e0 := nth_eqs s.eqs i hlt
        have hnq := List.find?_eq_none.1 hq s.eqs[i] (List.getElem_mem hlt)
        generalize s.eqs[i] = y at *
        have s1 : ¬ (y.rule = rule ∧ y.at' = k ∧ y.attr = a) := fun h => hnq (decide_eq_true h)
        obtain ⟨yu, yv, yw, ⟨yk, ym, ya, yr, ys⟩⟩ := y
        have hly := low_exs n ys
        simp only at s1
        rw [eqD_mk] at e0
        by_cases s2 : yu = rule
        · have c1 : (yu == rule) = true := by simp [s2]
          have hb3 : (yv == k && yw == a) = false := by
            rw [Bool.and_eq_false_iff, beq_eq_false_iff_ne, beq_eq_false_iff_ne]
            by_cases h1 : yv = k
            · exact .inr fun h2 => s1 ⟨s2, h1, h2⟩
            · exact .inl h1
          simp -implicitDefEqProofs only [↓symPre, symPost, y_condP, y_condG, run, lver, minD, intsD, eqAll, tupD, splice, Nat.zero_add, Nat.add_zero, Nat.zero_mul, Nat.mul_one, Nat.one_mul, Nat.reduceAdd, Nat.reduceSub, Nat.reduceMul, Nat.reduceLT, Nat.reduceLeDiff, Nat.reduceEqDiff, true_and, and_true, true_implies, if_true, if_false, ite_true, reduceIte, ne_eq, not_false_eq_true, reduceCtorEq, forall_const, bne_self_eq_false, Bool.true_eq_false, Bool.false_eq_true, false_implies, and_self, implies_true, Int.toNat_zero, beq_self_eq_true, decide_true, decide_false, Bool.not_true, Bool.not_false, ↓y_lookv, y_key1, y_mlook, y_mlookn, y_mres1, y_mres0, ↓y_call, f1, f0, decide_true, List.length_map, Int.toNat_natCast, e0, c1, hb3, w1, ↓y_eqsF, ↓y_eqAllF]
          refine ⟨i + 1, by omega, by omega, ?_⟩
          refine le_to (List.replicate 7 .hole ++ [.old 7, .hole, .old 9] ++ List.replicate 87 .hole) hl rfl ?_ ?_ <;> ((try simp only [y_blk_end, y_blk_hole, y_blk_nil, y_blk_old, y_wkl_end, y_wkl_top, List.replicate, List.cons_append, List.nil_append, and_true, true_and]) <;> (repeat' (first | apply And.intro | apply y_wkl | refine Exists.intro _ (And.intro rfl ?_))) <;> (try first | exact trivial | exact Wk.top _ | exact wk_int rfl | exact wk_bool rfl | exact wk_ptr rfl rfl rfl rfl | exact wk_ref rfl rfl rfl rfl rfl | exact wk_nil rfl rfl rfl | exact wk_ref rfl rfl rfl rfl (by simp) | exact wk_ref rfl rfl rfl rfl (by simp; omega) | exact wk_old (by assumption) (by simp) | exact wk_eq rfl (by first | exact Bd.int _ _ | exact Bd.bool _ | exact Bd.abool | exact Bd.nils | exact Bd.emp | exact Bd.nilp | exact Bd.nilfn | assumption | exact low_trees _ _ | exact low_treeD _ _ | exact low_ints _ _) | exact Nat.le_refl _ | exact wk_int (by simp) | exact wk_int (by omega) | exact Nat.succ_le_succ (Nat.zero_le _) | exact Nat.le_add_left _ _ | omega))
        · have c1 : (yu == rule) = false := by simp [s2]
          simp -implicitDefEqProofs only [↓symPre, symPost, y_condP, y_condG, run, lver, minD, intsD, eqAll, tupD, splice, Nat.zero_add, Nat.add_zero, Nat.zero_mul, Nat.mul_one, Nat.one_mul, Nat.reduceAdd, Nat.reduceSub, Nat.reduceMul, Nat.reduceLT, Nat.reduceLeDiff, Nat.reduceEqDiff, true_and, and_true, true_implies, if_true, if_false, ite_true, reduceIte, ne_eq, not_false_eq_true, reduceCtorEq, forall_const, bne_self_eq_false, Bool.true_eq_false, Bool.false_eq_true, false_implies, and_self, implies_true, Int.toNat_zero, beq_self_eq_true, decide_true, decide_false, Bool.not_true, Bool.not_false, ↓y_lookv, y_key1, y_mlook, y_mlookn, y_mres1, y_mres0, ↓y_call, f1, f0, decide_true, List.length_map, Int.toNat_natCast, e0, c1, w1]
          refine ⟨i + 1, by omega, by omega, ?_⟩
          refine le_to (List.replicate 7 .hole ++ [.old 7, .hole, .old 9] ++ List.replicate 87 .hole) hl rfl ?_ ?_ <;> ((try simp only [y_blk_end, y_blk_hole, y_blk_nil, y_blk_old, y_wkl_end, y_wkl_top, List.replicate, List.cons_append, List.nil_append, and_true, true_and]) <;> (repeat' (first | apply And.intro | apply y_wkl | refine Exists.intro _ (And.intro rfl ?_))) <;> (try first | exact trivial | exact Wk.top _ | exact wk_int rfl | exact wk_bool rfl | exact wk_ptr rfl rfl rfl rfl | exact wk_ref rfl rfl rfl rfl rfl | exact wk_nil rfl rfl rfl | exact wk_ref rfl rfl rfl rfl (by simp) | exact wk_ref rfl rfl rfl rfl (by simp; omega) | exact wk_old (by assumption) (by simp) | exact wk_eq rfl (by first | exact Bd.int _ _ | exact Bd.bool _ | exact Bd.abool | exact Bd.nils | exact Bd.emp | exact Bd.nilp | exact Bd.nilfn | assumption | exact low_trees _ _ | exact low_treeD _ _ | exact low_ints _ _) | exact Nat.le_refl _ | exact wk_int (by simp) | exact wk_int (by omega) | exact Nat.succ_le_succ (Nat.zero_le _) | exact Nat.le_add_left _ _ | omega))
      · have f1 : ¬ (i : Int) < (s.eqs.length : Int) := by omega
        simp -implicitDefEqProofs only [↓symPre, symPost, y_condP, y_condG, run, lver, minD, intsD, eqAll, tupD, splice, Nat.zero_add, Nat.add_zero, Nat.zero_mul, Nat.mul_one, Nat.one_mul, Nat.reduceAdd, Nat.reduceSub, Nat.reduceMul, Nat.reduceLT, Nat.reduceLeDiff, Nat.reduceEqDiff, true_and, and_true, true_implies, if_true, if_false, ite_true, reduceIte, ne_eq, not_false_eq_true, reduceCtorEq, forall_const, bne_self_eq_false, Bool.true_eq_false, Bool.false_eq_true, false_implies, and_self, implies_true, Int.toNat_zero, beq_self_eq_true, decide_true, decide_false, Bool.not_true, Bool.not_false, ↓y_lookv, y_key1, y_mlook, y_mlookn, y_mres1, y_mres0, ↓y_call, f1, decide_false, z1, z5, ↓y_eqsF, ↓y_eqAllT, Bool.and_true, Bool.and_self, Bool.bne_false, not_true_eq_false, false_implies]
        have lowZ : ∀ X : Nat, Low X (.agg [.int .i64 z, .int .i64 z, .int .i64 z, .int .i64 z, .lst []]) := fun X => by
          refine .agg _ fun c hc => ?_
          simp only [List.mem_cons, List.not_mem_nil, or_false] at hc
          rcases hc with rfl | rfl | rfl | rfl | rfl
          · exact .int ..
          · exact .int ..
          · exact .int ..
          · exact .int ..
          · exact .lst _ (by simp)
        refine psz.callF (.bool _) rfl ?_ ?_
        · refine y_wkl (.low _ (lowZ _)) (y_wkl (wk_aggL ?_) trivial)
          exact y_wkl (wk_int rfl) (y_wkl (wk_int rfl) (y_wkl (wk_int rfl) (y_wkl (wk_int rfl) (y_wkl .nilsLst trivial))))
        simp -implicitDefEqProofs only [↓symPre, symPost, y_condP, y_condG, run, lver, minD, intsD, eqAll, tupD, splice, Nat.zero_add, Nat.add_zero, Nat.zero_mul, Nat.mul_one, Nat.one_mul, Nat.reduceAdd, Nat.reduceSub, Nat.reduceMul, Nat.reduceLT, Nat.reduceLeDiff, Nat.reduceEqDiff, true_and, and_true, true_implies, if_true, if_false, ite_true, reduceIte, ne_eq, not_false_eq_true, reduceCtorEq, forall_const, bne_self_eq_false, Bool.true_eq_false, Bool.false_eq_true, false_implies, and_self, implies_true, Int.toNat_zero, beq_self_eq_true, decide_true, decide_false, Bool.not_true, Bool.not_false, ↓y_lookv, y_key1, y_mlook, y_mlookn, y_mres1, y_mres0, ↓y_call]
        exact fin_bool hl rfl

end Abs
end Go.Proofs.Ytbdcklchcdkhbaa

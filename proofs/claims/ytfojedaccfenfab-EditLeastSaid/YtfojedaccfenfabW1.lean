/- EditScripts. -/
import Derived.Test.YtfojedaccfenfabV9
import Derived.Test.YtfojedaccfenfabD6
namespace Go.Proofs.Ytfojedaccfenfab
namespace Abs
set_option linter.unusedVariables false
set_option linter.unusedSimpArgs false
set_option maxRecDepth 20000

def oN : Option Ed → Nat
  | none => 0
  | some e => e.w.length
def oC : Option Ed → Nat
  | none => 0
  | some _ => 1
theorem newK_cons (e : Ed) (l : List Ed) : newK (e :: l) = e.w.length + newK l := by simp [newK]
theorem newK_o (o : Option Ed) (l : List Ed) : newK (o.toList ++ l) = oN o + newK l := by
  cases o with
  | none => simp [oN]
  | some e => simp [oN, newK_cons]
theorem oN_ins (o : Option Ed) (i y : Int) : oN (some { o.getD ⟨i, i, []⟩ with w := (o.getD ⟨i, i, []⟩).w ++ [y] }) = oN o + 1 := by
  cases o with
  | none => simp [oN]
  | some e => simp [oN]
theorem oN_del (o : Option Ed) (i t : Int) : oN (some { o.getD ⟨i, i, []⟩ with t := t }) = oN o := by
  cases o with
  | none => simp [oN]
  | some e => simp [oN]
theorem oC_some (e : Ed) : oC (some e) = 1 := rfl
theorem oC_le (o : Option Ed) : oC o ≤ 1 := by cases o <;> simp [oC]

theorem scr_bound : ∀ (k : Nat) (i : Int) (a b : List Int) (o : Option Ed), a.length + b.length ≤ k → newK (scr i a b o) ≤ oN o + b.length ∧ (scr i a b o).length ≤ 1 + a.length + b.length := by
  intro k
  induction k with
  | zero =>
    intro i a b o hk
    have ha : a = [] := List.eq_nil_of_length_eq_zero (by omega)
    have hb : b = [] := List.eq_nil_of_length_eq_zero (by omega)
    subst ha; subst hb
    rw [scr_end]
    have := newK_o o []
    rw [List.append_nil] at this
    rw [this]
    cases o <;> simp [newK]
  | succ k ih =>
    intro i a b o hk
    have ho := oC_le o
    cases a with
    | nil =>
      cases b with
      | nil =>
        rw [scr_end]
        have := newK_o o []
        rw [List.append_nil] at this
        rw [this]
        cases o <;> simp [newK]
      | cons y b =>
        rw [scr_ins]
        simp only [List.length_cons, List.length_nil] at hk ⊢
        have h1 := ih i [] b (some { o.getD ⟨i, i, []⟩ with w := (o.getD ⟨i, i, []⟩).w ++ [y] }) (by simp; omega)
        rw [oN_ins] at h1
        simp only [List.length_nil] at h1
        omega
    | cons x a =>
      cases b with
      | nil =>
        rw [scr_del]
        simp only [List.length_cons, List.length_nil] at hk ⊢
        have h1 := ih (i + 1) a [] (some { o.getD ⟨i, i, []⟩ with t := i + 1 }) (by simp; omega)
        rw [oN_del] at h1
        simp only [List.length_nil] at h1
        omega
      | cons y b =>
        rw [scr_cons]
        simp only [List.length_cons] at hk ⊢
        split
        · have h1 := ih (i + 1) a b none (by omega)
          rw [newK_o, List.length_append]
          have : o.toList.length ≤ 1 := by cases o <;> simp
          simp only [oN] at h1
          omega
        · split
          · have h1 := ih (i + 1) a (y :: b) (some { o.getD ⟨i, i, []⟩ with t := i + 1 }) (by simp; omega)
            rw [oN_del] at h1
            simp only [List.length_cons] at h1
            omega
          · have h1 := ih i (x :: a) b (some { o.getD ⟨i, i, []⟩ with w := (o.getD ⟨i, i, []⟩).w ++ [y] }) (by simp; omega)
            rw [oN_ins] at h1
            simp only [List.length_cons] at h1
            omega
theorem scr0_bound (a b : List Int) : newK (scrAt a b 0 0 none) ≤ b.length ∧ (scrAt a b 0 0 none).length ≤ 1 + a.length + b.length := by
  have := scr_bound _ 0 a b none (Nat.le_refl _)
  simpa [scrAt, oN] using this

theorem dst_1 : dstL [1, 2, 3] [1, 4, 3, 5] = 3 := by
  rw [dstL, if_neg (by simp)]
  simp [dE_cons, dE_nil, dE_nil2]; omega
theorem scrF_1 : scrF [1, 2, 3] [1, 4, 3, 5] = 0 := by rw [scrF, if_neg (by simp)]

set_option maxHeartbeats 4000000 in
theorem pure_EditScripts (a b : List Int) (l : List Ed) (ha : a.length < 2 ^ 29) (hb : b.length < 2 ^ 29) (hw : a.length + newK l < 2 ^ 30) (hll : l.length < 2 ^ 30) : Pure prog F_parllaw4_EditScripts [iD a, iD b, .lst (l.map edD)] (.bool true) := by
  intro n h
  have p1 := pure_Distance [1, 2, 3] [1, 4, 3, 5] (by simp) (by simp)
  rw [dst_1, scrF_1] at p1
  have pS := pure_Script a b (by omega) (by omega)
  have pD := pure_Distance a b (by omega) (by omega)
  have pE := pure_Edits a b (by omega) (by omega)
  have pC := pure_Common a b (by omega) (by omega)
  have pR := pure_Run a l hw hll
  have pF := pure_RunFault a l hw hll
  have hsb := scr0_bound a b
  have pQ := pure_EqualEds (scrAt a b 0 0 none) (by omega) (fun e he => by have := newK_mem he; omega)
  obtain ⟨RC, t0, R0l, n0⟩ := tabG (cG a b) (a := a) (b := b) (i := 0) (j := 0) (by omega) (by omega)
  have tl : (0 : Int) < (((matL (a.length + 1) (b.length + 1) (cG a b)).map iD).length : Int) := by simp [matL]
  have l1 : (0 : Int) < (RC.length : Int) := by omega
  have hlow := low_eds n l
  refine K_parllaw4_EditScripts.calls fun hl => ?_
  unfold C_parllaw4_EditScripts
  simp -implicitDefEqProofs only [↓symPre, symPost, y_condP, y_condG, run, lver, minD, intsD, eqAll, tupD, splice, Nat.zero_add, Nat.add_zero, Nat.zero_mul, Nat.mul_one, Nat.one_mul, Nat.reduceAdd, Nat.reduceSub, Nat.reduceMul, Nat.reduceLT, Nat.reduceLeDiff, Nat.reduceEqDiff, true_and, and_true, true_implies, if_true, if_false, ite_true, reduceIte, ne_eq, not_false_eq_true, reduceCtorEq, forall_const, bne_self_eq_false, Bool.true_eq_false, Bool.false_eq_true, false_implies, and_self, implies_true, Int.toNat_zero, beq_self_eq_true, decide_true, decide_false, Bool.not_true, Bool.not_false, ↓y_call]
  refine p1.callZ [17, 18] rfl rfl (by simp [Con.isOpq]) ⟨fz_loc (by simp) rfl rfl, fz_loc (by simp) rfl rfl, trivial⟩ ?_
  simp -implicitDefEqProofs only [↓symPre, symPost, y_condP, y_condG, run, lver, minD, intsD, eqAll, tupD, splice, Nat.zero_add, Nat.add_zero, Nat.zero_mul, Nat.mul_one, Nat.one_mul, Nat.reduceAdd, Nat.reduceSub, Nat.reduceMul, Nat.reduceLT, Nat.reduceLeDiff, Nat.reduceEqDiff, true_and, and_true, true_implies, if_true, if_false, ite_true, reduceIte, ne_eq, not_false_eq_true, reduceCtorEq, forall_const, bne_self_eq_false, Bool.true_eq_false, Bool.false_eq_true, false_implies, and_self, implies_true, Int.toNat_zero, beq_self_eq_true, decide_true, decide_false, Bool.not_true, Bool.not_false, ↓y_call]
  refine pS.call rfl ?_
  simp -implicitDefEqProofs only [↓symPre, symPost, y_condP, y_condG, run, lver, minD, intsD, eqAll, tupD, splice, Nat.zero_add, Nat.add_zero, Nat.zero_mul, Nat.mul_one, Nat.one_mul, Nat.reduceAdd, Nat.reduceSub, Nat.reduceMul, Nat.reduceLT, Nat.reduceLeDiff, Nat.reduceEqDiff, true_and, and_true, true_implies, if_true, if_false, ite_true, reduceIte, ne_eq, not_false_eq_true, reduceCtorEq, forall_const, bne_self_eq_false, Bool.true_eq_false, Bool.false_eq_true, false_implies, and_self, implies_true, Int.toNat_zero, beq_self_eq_true, decide_true, decide_false, Bool.not_true, Bool.not_false, ↓y_call]
  refine pD.call rfl ?_
  by_cases hlg : a.length > 200 ∨ b.length > 200
  · have f1 : scrL a b = [] := by rw [scrL, if_pos hlg]
    have f2 : scrF a b = 2 := by rw [scrF, if_pos hlg]
    have f3 : dstL a b = 0 := by rw [dstL, if_pos hlg]
    rw [f1, f2, f3]
    by_cases ga : a.length > 200
    · have g1 : (a.length : Int) > 200 := by omega
      simp -implicitDefEqProofs only [↓symPre, symPost, y_condP, y_condG, run, lver, minD, intsD, eqAll, tupD, splice, Nat.zero_add, Nat.add_zero, Nat.zero_mul, Nat.mul_one, Nat.one_mul, Nat.reduceAdd, Nat.reduceSub, Nat.reduceMul, Nat.reduceLT, Nat.reduceLeDiff, Nat.reduceEqDiff, true_and, and_true, true_implies, if_true, if_false, ite_true, reduceIte, ne_eq, not_false_eq_true, reduceCtorEq, forall_const, bne_self_eq_false, Bool.true_eq_false, Bool.false_eq_true, false_implies, and_self, implies_true, Int.toNat_zero, beq_self_eq_true, decide_true, decide_false, Bool.not_true, Bool.not_false, ↓y_call, List.length_map, g1, decide_true, List.map_nil, List.length_nil, Int.cast_ofNat_Int]
      refine pR.call rfl ?_
      simp -implicitDefEqProofs only [↓symPre, symPost, y_condP, y_condG, run, lver, minD, intsD, eqAll, tupD, splice, Nat.zero_add, Nat.add_zero, Nat.zero_mul, Nat.mul_one, Nat.one_mul, Nat.reduceAdd, Nat.reduceSub, Nat.reduceMul, Nat.reduceLT, Nat.reduceLeDiff, Nat.reduceEqDiff, true_and, and_true, true_implies, if_true, if_false, ite_true, reduceIte, ne_eq, not_false_eq_true, reduceCtorEq, forall_const, bne_self_eq_false, Bool.true_eq_false, Bool.false_eq_true, false_implies, and_self, implies_true, Int.toNat_zero, beq_self_eq_true, decide_true, decide_false, Bool.not_true, Bool.not_false, ↓y_call]
      refine pF.call rfl ?_
      by_cases hf : runF a.length l = 0
      · have pN := pure_Ran a l hw hll (runF_ok hf)
        have hL : runL a l = runB a l := by rw [runL, if_pos hf]
        have hB := runB_len (w := a) (okUp_ft (runF_ok hf))
        have pT := pure_Equal (runB a l) (runB a l) (by omega) (by omega)
        rw [decide_eq_true rfl] at pT
        rw [hL, hf]
        simp -implicitDefEqProofs only [↓symPre, symPost, y_condP, y_condG, run, lver, minD, intsD, eqAll, tupD, splice, Nat.zero_add, Nat.add_zero, Nat.zero_mul, Nat.mul_one, Nat.one_mul, Nat.reduceAdd, Nat.reduceSub, Nat.reduceMul, Nat.reduceLT, Nat.reduceLeDiff, Nat.reduceEqDiff, true_and, and_true, true_implies, if_true, if_false, ite_true, reduceIte, ne_eq, not_false_eq_true, reduceCtorEq, forall_const, bne_self_eq_false, Bool.true_eq_false, Bool.false_eq_true, false_implies, and_self, implies_true, Int.toNat_zero, beq_self_eq_true, decide_true, decide_false, Bool.not_true, Bool.not_false, ↓y_call]
        refine pN.call rfl ?_
        simp -implicitDefEqProofs only [↓symPre, symPost, y_condP, y_condG, run, lver, minD, intsD, eqAll, tupD, splice, Nat.zero_add, Nat.add_zero, Nat.zero_mul, Nat.mul_one, Nat.one_mul, Nat.reduceAdd, Nat.reduceSub, Nat.reduceMul, Nat.reduceLT, Nat.reduceLeDiff, Nat.reduceEqDiff, true_and, and_true, true_implies, if_true, if_false, ite_true, reduceIte, ne_eq, not_false_eq_true, reduceCtorEq, forall_const, bne_self_eq_false, Bool.true_eq_false, Bool.false_eq_true, false_implies, and_self, implies_true, Int.toNat_zero, beq_self_eq_true, decide_true, decide_false, Bool.not_true, Bool.not_false, ↓y_call]
        refine pT.call rfl ?_
        simp -implicitDefEqProofs only [↓symPre, symPost, y_condP, y_condG, run, lver, minD, intsD, eqAll, tupD, splice, Nat.zero_add, Nat.add_zero, Nat.zero_mul, Nat.mul_one, Nat.one_mul, Nat.reduceAdd, Nat.reduceSub, Nat.reduceMul, Nat.reduceLT, Nat.reduceLeDiff, Nat.reduceEqDiff, true_and, and_true, true_implies, if_true, if_false, ite_true, reduceIte, ne_eq, not_false_eq_true, reduceCtorEq, forall_const, bne_self_eq_false, Bool.true_eq_false, Bool.false_eq_true, false_implies, and_self, implies_true, Int.toNat_zero, beq_self_eq_true, decide_true, decide_false, Bool.not_true, Bool.not_false, ↓y_call]
        exact fin_bool hl rfl
      · have hL : runL a l = [] := by rw [runL, if_neg hf]
        have b1 : (runF a.length l != 0) = true := by simpa using hf
        have b2 : (runF a.length l == runF a.length l) = true := by simp
        rw [hL]
        simp -implicitDefEqProofs only [↓symPre, symPost, y_condP, y_condG, run, lver, minD, intsD, eqAll, tupD, splice, Nat.zero_add, Nat.add_zero, Nat.zero_mul, Nat.mul_one, Nat.one_mul, Nat.reduceAdd, Nat.reduceSub, Nat.reduceMul, Nat.reduceLT, Nat.reduceLeDiff, Nat.reduceEqDiff, true_and, and_true, true_implies, if_true, if_false, ite_true, reduceIte, ne_eq, not_false_eq_true, reduceCtorEq, forall_const, bne_self_eq_false, Bool.true_eq_false, Bool.false_eq_true, false_implies, and_self, implies_true, Int.toNat_zero, beq_self_eq_true, decide_true, decide_false, Bool.not_true, Bool.not_false, ↓y_call, b1, b2, List.map_nil, List.length_nil, Int.cast_ofNat_Int]
        exact fin_bool hl rfl
    · have g1 : ¬ (a.length : Int) > 200 := by omega
      have g2 : (b.length : Int) > 200 := by omega
      simp -implicitDefEqProofs only [↓symPre, symPost, y_condP, y_condG, run, lver, minD, intsD, eqAll, tupD, splice, Nat.zero_add, Nat.add_zero, Nat.zero_mul, Nat.mul_one, Nat.one_mul, Nat.reduceAdd, Nat.reduceSub, Nat.reduceMul, Nat.reduceLT, Nat.reduceLeDiff, Nat.reduceEqDiff, true_and, and_true, true_implies, if_true, if_false, ite_true, reduceIte, ne_eq, not_false_eq_true, reduceCtorEq, forall_const, bne_self_eq_false, Bool.true_eq_false, Bool.false_eq_true, false_implies, and_self, implies_true, Int.toNat_zero, beq_self_eq_true, decide_true, decide_false, Bool.not_true, Bool.not_false, ↓y_call, List.length_map, g1, g2, decide_true, decide_false, List.map_nil, List.length_nil, Int.cast_ofNat_Int]
      refine pR.call rfl ?_
      simp -implicitDefEqProofs only [↓symPre, symPost, y_condP, y_condG, run, lver, minD, intsD, eqAll, tupD, splice, Nat.zero_add, Nat.add_zero, Nat.zero_mul, Nat.mul_one, Nat.one_mul, Nat.reduceAdd, Nat.reduceSub, Nat.reduceMul, Nat.reduceLT, Nat.reduceLeDiff, Nat.reduceEqDiff, true_and, and_true, true_implies, if_true, if_false, ite_true, reduceIte, ne_eq, not_false_eq_true, reduceCtorEq, forall_const, bne_self_eq_false, Bool.true_eq_false, Bool.false_eq_true, false_implies, and_self, implies_true, Int.toNat_zero, beq_self_eq_true, decide_true, decide_false, Bool.not_true, Bool.not_false, ↓y_call]
      refine pF.call rfl ?_
      by_cases hf : runF a.length l = 0
      · have pN := pure_Ran a l hw hll (runF_ok hf)
        have hL : runL a l = runB a l := by rw [runL, if_pos hf]
        have hB := runB_len (w := a) (okUp_ft (runF_ok hf))
        have pT := pure_Equal (runB a l) (runB a l) (by omega) (by omega)
        rw [decide_eq_true rfl] at pT
        rw [hL, hf]
        simp -implicitDefEqProofs only [↓symPre, symPost, y_condP, y_condG, run, lver, minD, intsD, eqAll, tupD, splice, Nat.zero_add, Nat.add_zero, Nat.zero_mul, Nat.mul_one, Nat.one_mul, Nat.reduceAdd, Nat.reduceSub, Nat.reduceMul, Nat.reduceLT, Nat.reduceLeDiff, Nat.reduceEqDiff, true_and, and_true, true_implies, if_true, if_false, ite_true, reduceIte, ne_eq, not_false_eq_true, reduceCtorEq, forall_const, bne_self_eq_false, Bool.true_eq_false, Bool.false_eq_true, false_implies, and_self, implies_true, Int.toNat_zero, beq_self_eq_true, decide_true, decide_false, Bool.not_true, Bool.not_false, ↓y_call]
        refine pN.call rfl ?_
        simp -implicitDefEqProofs only [↓symPre, symPost, y_condP, y_condG, run, lver, minD, intsD, eqAll, tupD, splice, Nat.zero_add, Nat.add_zero, Nat.zero_mul, Nat.mul_one, Nat.one_mul, Nat.reduceAdd, Nat.reduceSub, Nat.reduceMul, Nat.reduceLT, Nat.reduceLeDiff, Nat.reduceEqDiff, true_and, and_true, true_implies, if_true, if_false, ite_true, reduceIte, ne_eq, not_false_eq_true, reduceCtorEq, forall_const, bne_self_eq_false, Bool.true_eq_false, Bool.false_eq_true, false_implies, and_self, implies_true, Int.toNat_zero, beq_self_eq_true, decide_true, decide_false, Bool.not_true, Bool.not_false, ↓y_call]
        refine pT.call rfl ?_
        simp -implicitDefEqProofs only [↓symPre, symPost, y_condP, y_condG, run, lver, minD, intsD, eqAll, tupD, splice, Nat.zero_add, Nat.add_zero, Nat.zero_mul, Nat.mul_one, Nat.one_mul, Nat.reduceAdd, Nat.reduceSub, Nat.reduceMul, Nat.reduceLT, Nat.reduceLeDiff, Nat.reduceEqDiff, true_and, and_true, true_implies, if_true, if_false, ite_true, reduceIte, ne_eq, not_false_eq_true, reduceCtorEq, forall_const, bne_self_eq_false, Bool.true_eq_false, Bool.false_eq_true, false_implies, and_self, implies_true, Int.toNat_zero, beq_self_eq_true, decide_true, decide_false, Bool.not_true, Bool.not_false, ↓y_call]
        exact fin_bool hl rfl
      · have hL : runL a l = [] := by rw [runL, if_neg hf]
        have b1 : (runF a.length l != 0) = true := by simpa using hf
        have b2 : (runF a.length l == runF a.length l) = true := by simp
        rw [hL]
        simp -implicitDefEqProofs only [↓symPre, symPost, y_condP, y_condG, run, lver, minD, intsD, eqAll, tupD, splice, Nat.zero_add, Nat.add_zero, Nat.zero_mul, Nat.mul_one, Nat.one_mul, Nat.reduceAdd, Nat.reduceSub, Nat.reduceMul, Nat.reduceLT, Nat.reduceLeDiff, Nat.reduceEqDiff, true_and, and_true, true_implies, if_true, if_false, ite_true, reduceIte, ne_eq, not_false_eq_true, reduceCtorEq, forall_const, bne_self_eq_false, Bool.true_eq_false, Bool.false_eq_true, false_implies, and_self, implies_true, Int.toNat_zero, beq_self_eq_true, decide_true, decide_false, Bool.not_true, Bool.not_false, ↓y_call, b1, b2, List.map_nil, List.length_nil, Int.cast_ofNat_Int]
        exact fin_bool hl rfl
  · have g1 : ¬ (a.length : Int) > 200 := by omega
    have g2 : ¬ (b.length : Int) > 200 := by omega
    have f1 : scrL a b = scrAt a b 0 0 none := by rw [scrL, if_neg hlg]
    have f2 : scrF a b = 0 := by rw [scrF, if_neg hlg]
    have f3 : dstL a b = dE a b := by rw [dstL, if_neg hlg]
    rw [f1, f2, f3]
    have hc := cE_range a b
    have hc2 := (cE_le _ a b (Nat.le_refl _)).2
    have hde := dE_eq a b
    have e0 : cG a b 0 0 = cE a b := rfl
    rw [e0] at n0
    have u1 : IntKind.i64.wrap ((a.length : Int) + (b.length : Int)) = (a.length : Int) + b.length := IntWalk.i64_in _ (by omega)
    have u2 : IntKind.i64.wrap (2 * cE a b) = 2 * cE a b := IntWalk.i64_in _ (by omega)
    have u3 : IntKind.i64.wrap ((a.length : Int) + (b.length : Int) - 2 * cE a b) = dE a b := by rw [hde]; exact IntWalk.i64_in _ (by omega)
    have u4 : (dE a b != dE a b) = false := by simp
    simp -implicitDefEqProofs only [↓symPre, symPost, y_condP, y_condG, run, lver, minD, intsD, eqAll, tupD, splice, Nat.zero_add, Nat.add_zero, Nat.zero_mul, Nat.mul_one, Nat.one_mul, Nat.reduceAdd, Nat.reduceSub, Nat.reduceMul, Nat.reduceLT, Nat.reduceLeDiff, Nat.reduceEqDiff, true_and, and_true, true_implies, if_true, if_false, ite_true, reduceIte, ne_eq, not_false_eq_true, reduceCtorEq, forall_const, bne_self_eq_false, Bool.true_eq_false, Bool.false_eq_true, false_implies, and_self, implies_true, Int.toNat_zero, beq_self_eq_true, decide_true, decide_false, Bool.not_true, Bool.not_false, ↓y_call, List.length_map, g1, g2, decide_false]
    refine pE.call rfl ?_
    simp -implicitDefEqProofs only [↓symPre, symPost, y_condP, y_condG, run, lver, minD, intsD, eqAll, tupD, splice, Nat.zero_add, Nat.add_zero, Nat.zero_mul, Nat.mul_one, Nat.one_mul, Nat.reduceAdd, Nat.reduceSub, Nat.reduceMul, Nat.reduceLT, Nat.reduceLeDiff, Nat.reduceEqDiff, true_and, and_true, true_implies, if_true, if_false, ite_true, reduceIte, ne_eq, not_false_eq_true, reduceCtorEq, forall_const, bne_self_eq_false, Bool.true_eq_false, Bool.false_eq_true, false_implies, and_self, implies_true, Int.toNat_zero, beq_self_eq_true, decide_true, decide_false, Bool.not_true, Bool.not_false, ↓y_call]
    refine pQ.call rfl ?_
    simp -implicitDefEqProofs only [↓symPre, symPost, y_condP, y_condG, run, lver, minD, intsD, eqAll, tupD, splice, Nat.zero_add, Nat.add_zero, Nat.zero_mul, Nat.mul_one, Nat.one_mul, Nat.reduceAdd, Nat.reduceSub, Nat.reduceMul, Nat.reduceLT, Nat.reduceLeDiff, Nat.reduceEqDiff, true_and, and_true, true_implies, if_true, if_false, ite_true, reduceIte, ne_eq, not_false_eq_true, reduceCtorEq, forall_const, bne_self_eq_false, Bool.true_eq_false, Bool.false_eq_true, false_implies, and_self, implies_true, Int.toNat_zero, beq_self_eq_true, decide_true, decide_false, Bool.not_true, Bool.not_false, ↓y_call, List.length_map, u1]
    refine pC.call rfl ?_
    have tl2 : (0 : Int) < ((matL (a.length + 1) (b.length + 1) (cG a b)).length : Int) := by simp [matL]
    simp -implicitDefEqProofs only [↓symPre, symPost, y_condP, y_condG, run, lver, minD, intsD, eqAll, tupD, splice, Nat.zero_add, Nat.add_zero, Nat.zero_mul, Nat.mul_one, Nat.one_mul, Nat.reduceAdd, Nat.reduceSub, Nat.reduceMul, Nat.reduceLT, Nat.reduceLeDiff, Nat.reduceEqDiff, true_and, and_true, true_implies, if_true, if_false, ite_true, reduceIte, ne_eq, not_false_eq_true, reduceCtorEq, forall_const, bne_self_eq_false, Bool.true_eq_false, Bool.false_eq_true, false_implies, and_self, implies_true, Int.toNat_zero, beq_self_eq_true, decide_true, decide_false, Bool.not_true, Bool.not_false, ↓y_call, List.length_map, tl2, l1, t0, n0, u1, u2, u3, u4, Int.le_refl]
    refine pR.call rfl ?_
    simp -implicitDefEqProofs only [↓symPre, symPost, y_condP, y_condG, run, lver, minD, intsD, eqAll, tupD, splice, Nat.zero_add, Nat.add_zero, Nat.zero_mul, Nat.mul_one, Nat.one_mul, Nat.reduceAdd, Nat.reduceSub, Nat.reduceMul, Nat.reduceLT, Nat.reduceLeDiff, Nat.reduceEqDiff, true_and, and_true, true_implies, if_true, if_false, ite_true, reduceIte, ne_eq, not_false_eq_true, reduceCtorEq, forall_const, bne_self_eq_false, Bool.true_eq_false, Bool.false_eq_true, false_implies, and_self, implies_true, Int.toNat_zero, beq_self_eq_true, decide_true, decide_false, Bool.not_true, Bool.not_false, ↓y_call]
    refine pF.call rfl ?_
    by_cases hf : runF a.length l = 0
    · have pN := pure_Ran a l hw hll (runF_ok hf)
      have hL : runL a l = runB a l := by rw [runL, if_pos hf]
      have hB := runB_len (w := a) (okUp_ft (runF_ok hf))
      have pT := pure_Equal (runB a l) (runB a l) (by omega) (by omega)
      rw [decide_eq_true rfl] at pT
      rw [hL, hf]
      simp -implicitDefEqProofs only [↓symPre, symPost, y_condP, y_condG, run, lver, minD, intsD, eqAll, tupD, splice, Nat.zero_add, Nat.add_zero, Nat.zero_mul, Nat.mul_one, Nat.one_mul, Nat.reduceAdd, Nat.reduceSub, Nat.reduceMul, Nat.reduceLT, Nat.reduceLeDiff, Nat.reduceEqDiff, true_and, and_true, true_implies, if_true, if_false, ite_true, reduceIte, ne_eq, not_false_eq_true, reduceCtorEq, forall_const, bne_self_eq_false, Bool.true_eq_false, Bool.false_eq_true, false_implies, and_self, implies_true, Int.toNat_zero, beq_self_eq_true, decide_true, decide_false, Bool.not_true, Bool.not_false, ↓y_call]
      refine pN.call rfl ?_
      simp -implicitDefEqProofs only [↓symPre, symPost, y_condP, y_condG, run, lver, minD, intsD, eqAll, tupD, splice, Nat.zero_add, Nat.add_zero, Nat.zero_mul, Nat.mul_one, Nat.one_mul, Nat.reduceAdd, Nat.reduceSub, Nat.reduceMul, Nat.reduceLT, Nat.reduceLeDiff, Nat.reduceEqDiff, true_and, and_true, true_implies, if_true, if_false, ite_true, reduceIte, ne_eq, not_false_eq_true, reduceCtorEq, forall_const, bne_self_eq_false, Bool.true_eq_false, Bool.false_eq_true, false_implies, and_self, implies_true, Int.toNat_zero, beq_self_eq_true, decide_true, decide_false, Bool.not_true, Bool.not_false, ↓y_call]
      refine pT.call rfl ?_
      simp -implicitDefEqProofs only [↓symPre, symPost, y_condP, y_condG, run, lver, minD, intsD, eqAll, tupD, splice, Nat.zero_add, Nat.add_zero, Nat.zero_mul, Nat.mul_one, Nat.one_mul, Nat.reduceAdd, Nat.reduceSub, Nat.reduceMul, Nat.reduceLT, Nat.reduceLeDiff, Nat.reduceEqDiff, true_and, and_true, true_implies, if_true, if_false, ite_true, reduceIte, ne_eq, not_false_eq_true, reduceCtorEq, forall_const, bne_self_eq_false, Bool.true_eq_false, Bool.false_eq_true, false_implies, and_self, implies_true, Int.toNat_zero, beq_self_eq_true, decide_true, decide_false, Bool.not_true, Bool.not_false, ↓y_call]
      exact fin_bool hl rfl
    · have hL : runL a l = [] := by rw [runL, if_neg hf]
      have b1 : (runF a.length l != 0) = true := by simpa using hf
      have b2 : (runF a.length l == runF a.length l) = true := by simp
      rw [hL]
      simp -implicitDefEqProofs only [↓symPre, symPost, y_condP, y_condG, run, lver, minD, intsD, eqAll, tupD, splice, Nat.zero_add, Nat.add_zero, Nat.zero_mul, Nat.mul_one, Nat.one_mul, Nat.reduceAdd, Nat.reduceSub, Nat.reduceMul, Nat.reduceLT, Nat.reduceLeDiff, Nat.reduceEqDiff, true_and, and_true, true_implies, if_true, if_false, ite_true, reduceIte, ne_eq, not_false_eq_true, reduceCtorEq, forall_const, bne_self_eq_false, Bool.true_eq_false, Bool.false_eq_true, false_implies, and_self, implies_true, Int.toNat_zero, beq_self_eq_true, decide_true, decide_false, Bool.not_true, Bool.not_false, ↓y_call, b1, b2, List.map_nil, List.length_nil, Int.cast_ofNat_Int]
      exact fin_bool hl rfl

end Abs
end Go.Proofs.Ytfojedaccfenfab

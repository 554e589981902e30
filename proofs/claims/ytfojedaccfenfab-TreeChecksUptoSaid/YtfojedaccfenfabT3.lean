/- Labels of trees; tree.symbol, tree.valid, tree.Check, tree.Symbol, Label. -/
import Derived.Test.YtfojedaccfenfabT2
namespace Go.Proofs.Ytfojedaccfenfab
namespace Abs
set_option linter.unusedVariables false
set_option linter.unusedSimpArgs false
set_option maxRecDepth 20000

def symT (g : Gr) : Tree → Sy × Bool
  | .mk r t ks => if r = -1 then (⟨true, t⟩, decide (0 ≤ t ∧ t < g.terms ∧ ks.length = 0)) else if r < 0 then (⟨false, 0⟩, false) else match g.rules[r.toNat]? with
    | some u => (⟨false, u.left⟩, decide (t = 0))
    | none => (⟨false, 0⟩, false)
def labT (g : Gr) : Tree → Sy × Bool
  | .mk r t ks => if r = -1 ∧ ks.length = 0 ∧ 0 ≤ t ∧ t < g.terms then (⟨true, t⟩, true) else if 0 ≤ r ∧ t = 0 then (match g.rules[r.toNat]? with
    | some u => (⟨false, u.left⟩, true)
    | none => (⟨false, 0⟩, false)) else (⟨false, 0⟩, false)

theorem lab_sym (g : Gr) (t : Tree) : (labT g t).2 = (symT g t).2 ∧ ((labT g t).2 = true → (labT g t).1 = (symT g t).1) := by
  obtain ⟨r, tm, ks⟩ := t
  simp only [labT, symT]
  by_cases h1 : r = -1
  · subst h1
    by_cases h2 : ks.length = 0 ∧ 0 ≤ tm ∧ tm < g.terms
    · rw [if_pos ⟨rfl, h2⟩, if_pos rfl]
      exact ⟨(decide_eq_true ⟨h2.2.1, h2.2.2, h2.1⟩).symm, fun _ => rfl⟩
    · rw [if_neg (fun h => h2 h.2), if_pos rfl, if_neg (by omega)]
      refine ⟨(decide_eq_false fun h => h2 ⟨h.2.2, h.1, h.2.1⟩).symm, fun h => by cases h⟩
  · rw [if_neg (fun h => h1 h.1), if_neg h1]
    by_cases h2 : r < 0
    · rw [if_neg (by omega), if_pos h2]
      exact ⟨rfl, fun h => by cases h⟩
    · rw [if_neg h2]
      by_cases h3 : tm = 0
      · rw [if_pos ⟨by omega, h3⟩]
        cases g.rules[r.toNat]? with
        | none => exact ⟨rfl, fun h => by cases h⟩
        | some u => exact ⟨by simp [h3], fun _ => rfl⟩
      · rw [if_neg (fun h => h3 h.2)]
        cases g.rules[r.toNat]? with
        | none => exact ⟨rfl, fun h => by cases h⟩
        | some u => exact ⟨by simp [h3], fun h => by cases h⟩

def full : Tree → Nat
  | .mk _ _ ks => 1 + (ks.map full).sum
theorem full_mk (r t : Int) (ks : List Tree) : full (.mk r t ks) = 1 + (ks.map full).sum := by rw [full]
theorem full_kid {ks : List Tree} {k : Tree} (h : k ∈ ks) : full k ≤ (ks.map full).sum := by
  induction ks with
  | nil => simp at h
  | cons x ks ih =>
    rcases List.mem_cons.1 h with rfl | h
    · simp
    · have := ih h; simp; omega
theorem full_pos (t : Tree) : 1 ≤ full t := by cases t; rw [full_mk]; omega
theorem full_len (ks : List Tree) : ks.length ≤ (ks.map full).sum := by
  induction ks with
  | nil => simp
  | cons x ks ih => have := full_pos x; simp; omega

theorem fin_sy {n : Nat} {sl : List D} {h : Heap} {lc : List Blk} {b : Bool} {i : Int} {ok : Bool} {s : Sy × Bool} (hl : LowH n h) (e : s = (⟨b, i⟩, ok)) :
    Fin (St.mk n sl h lc) (fun d h' x => h' = h ∧ x = [] ∧ d = .tup [symD s.1, .bool s.2]) [.agg [.bool b, .int .i64 i], .bool ok] := by
  subst e
  refine fin_low hl ?_ ⟨rfl, rfl, rfl⟩
  refine .tup _ fun c hc => ?_
  simp only [List.mem_cons, List.not_mem_nil, or_false] at hc
  rcases hc with rfl | rfl
  · exact low_symD n ⟨b, i⟩
  · exact .bool _

theorem pure_symbol (g : Gr) (t : Tree) : Pure prog F_tree_symbol [gramD g, treeD t] (.tup [symD (symT g t).1, .bool (symT g t).2]) := by
  intro n h
  obtain ⟨gt, gn, gs, gr⟩ := g
  obtain ⟨r, tm, ks⟩ := t
  rw [treeD_mk]
  change ACalls prog F_tree_symbol [.agg [.int .i64 gt, .int .i64 gn, .int .i64 gs, .lst (gr.map ruleD)], _] n h _
  refine K_tree_symbol.calls fun hl => ?_
  unfold C_tree_symbol
  simp -implicitDefEqProofs only [↓symPre, symPost, y_condP, y_condG, run, lver, minD, intsD, eqAll, tupD, splice, Nat.zero_add, Nat.add_zero, Nat.zero_mul, Nat.mul_one, Nat.one_mul, Nat.reduceAdd, Nat.reduceSub, Nat.reduceMul, Nat.reduceLT, Nat.reduceLeDiff, Nat.reduceEqDiff, true_and, and_true, true_implies, if_true, if_false, ite_true, reduceIte, ne_eq, not_false_eq_true, reduceCtorEq, forall_const, bne_self_eq_false, Bool.true_eq_false, Bool.false_eq_true, false_implies, and_self, implies_true, Int.toNat_zero, beq_self_eq_true, decide_true, decide_false, Bool.not_true, Bool.not_false, ↓y_call]
  refine (pure_leaf r tm _).call rfl ?_
  by_cases c1 : r = -1
  · have b1 : (r == -1) = true := by simp [c1]
    simp -implicitDefEqProofs only [↓symPre, symPost, y_condP, y_condG, run, lver, minD, intsD, eqAll, tupD, splice, Nat.zero_add, Nat.add_zero, Nat.zero_mul, Nat.mul_one, Nat.one_mul, Nat.reduceAdd, Nat.reduceSub, Nat.reduceMul, Nat.reduceLT, Nat.reduceLeDiff, Nat.reduceEqDiff, true_and, and_true, true_implies, if_true, if_false, ite_true, reduceIte, ne_eq, not_false_eq_true, reduceCtorEq, forall_const, bne_self_eq_false, Bool.true_eq_false, Bool.false_eq_true, false_implies, and_self, implies_true, Int.toNat_zero, beq_self_eq_true, decide_true, decide_false, Bool.not_true, Bool.not_false, ↓y_call, b1]
    refine adrawq hmix (List.replicate 19 [] ++ [[n + 4]]) ?_
    by_cases c2 : tm ≥ 0
    · by_cases c3 : tm < gt
      · simp (maxSteps := 400000) -implicitDefEqProofs only [↓symPre, symPost, y_condP, y_condG, run, lver, minD, intsD, eqAll, tupD, splice, Nat.zero_add, Nat.add_zero, Nat.zero_mul, Nat.mul_one, Nat.one_mul, Nat.reduceAdd, Nat.reduceSub, Nat.reduceMul, Nat.reduceLT, Nat.reduceLeDiff, Nat.reduceEqDiff, true_and, and_true, true_implies, if_true, if_false, ite_true, reduceIte, ne_eq, not_false_eq_true, reduceCtorEq, forall_const, bne_self_eq_false, Bool.true_eq_false, Bool.false_eq_true, false_implies, and_self, implies_true, Int.toNat_zero, beq_self_eq_true, decide_true, decide_false, Bool.not_true, Bool.not_false, ↓y_call, ↓drawPre, drawPost, isCall, isNew, isEff, Option.toList, or_false, false_or, cond_true, cond_false, not_true_eq_false, or_true, true_or, Nat.add_left_cancel_iff, Bool.false_eq_true, c2, c3, List.length_map, List.flatMap_cons, List.flatMap_nil, List.append_nil, List.getD_cons_succ, List.getD_cons_zero]
        refine ⟨by rintro c (rfl | rfl) <;> rfl, fin_sy hl ?_⟩
        simp only [symT, if_pos c1]
        congr 1
        by_cases c4 : ks.length = 0 <;> simp [c4] <;> omega
      · simp (maxSteps := 400000) -implicitDefEqProofs only [↓symPre, symPost, y_condP, y_condG, run, lver, minD, intsD, eqAll, tupD, splice, Nat.zero_add, Nat.add_zero, Nat.zero_mul, Nat.mul_one, Nat.one_mul, Nat.reduceAdd, Nat.reduceSub, Nat.reduceMul, Nat.reduceLT, Nat.reduceLeDiff, Nat.reduceEqDiff, true_and, and_true, true_implies, if_true, if_false, ite_true, reduceIte, ne_eq, not_false_eq_true, reduceCtorEq, forall_const, bne_self_eq_false, Bool.true_eq_false, Bool.false_eq_true, false_implies, and_self, implies_true, Int.toNat_zero, beq_self_eq_true, decide_true, decide_false, Bool.not_true, Bool.not_false, ↓y_call, ↓drawPre, drawPost, isCall, isNew, isEff, Option.toList, or_false, false_or, cond_true, cond_false, not_true_eq_false, or_true, true_or, Nat.add_left_cancel_iff, Bool.false_eq_true, c2, c3, List.length_map, List.flatMap_cons, List.flatMap_nil, List.append_nil, List.getD_cons_succ, List.getD_cons_zero]
        refine ⟨by rintro c (rfl | rfl) <;> rfl, fin_sy hl ?_⟩
        simp only [symT, if_pos c1]
        congr 1
        simp; omega
    · simp (maxSteps := 400000) -implicitDefEqProofs only [↓symPre, symPost, y_condP, y_condG, run, lver, minD, intsD, eqAll, tupD, splice, Nat.zero_add, Nat.add_zero, Nat.zero_mul, Nat.mul_one, Nat.one_mul, Nat.reduceAdd, Nat.reduceSub, Nat.reduceMul, Nat.reduceLT, Nat.reduceLeDiff, Nat.reduceEqDiff, true_and, and_true, true_implies, if_true, if_false, ite_true, reduceIte, ne_eq, not_false_eq_true, reduceCtorEq, forall_const, bne_self_eq_false, Bool.true_eq_false, Bool.false_eq_true, false_implies, and_self, implies_true, Int.toNat_zero, beq_self_eq_true, decide_true, decide_false, Bool.not_true, Bool.not_false, ↓y_call, ↓drawPre, drawPost, isCall, isNew, isEff, Option.toList, or_false, false_or, cond_true, cond_false, not_true_eq_false, or_true, true_or, Nat.add_left_cancel_iff, Bool.false_eq_true, c2, List.length_map, List.flatMap_cons, List.flatMap_nil, List.append_nil, List.getD_cons_succ, List.getD_cons_zero]
      refine ⟨by rintro c (rfl | rfl) <;> rfl, fin_sy hl ?_⟩
      simp only [symT, if_pos c1]
      congr 1
      simp; omega
  have b1 : (r == -1) = false := by simp [c1]
  by_cases c2 : r < 0
  · simp -implicitDefEqProofs only [↓symPre, symPost, y_condP, y_condG, run, lver, minD, intsD, eqAll, tupD, splice, Nat.zero_add, Nat.add_zero, Nat.zero_mul, Nat.mul_one, Nat.one_mul, Nat.reduceAdd, Nat.reduceSub, Nat.reduceMul, Nat.reduceLT, Nat.reduceLeDiff, Nat.reduceEqDiff, true_and, and_true, true_implies, if_true, if_false, ite_true, reduceIte, ne_eq, not_false_eq_true, reduceCtorEq, forall_const, bne_self_eq_false, Bool.true_eq_false, Bool.false_eq_true, false_implies, and_self, implies_true, Int.toNat_zero, beq_self_eq_true, decide_true, decide_false, Bool.not_true, Bool.not_false, ↓y_call, b1, c2]
    exact fin_sy hl (by simp only [symT, if_neg c1, if_pos c2])
  by_cases c3 : r ≥ (gr.length : Int)
  · simp -implicitDefEqProofs only [↓symPre, symPost, y_condP, y_condG, run, lver, minD, intsD, eqAll, tupD, splice, Nat.zero_add, Nat.add_zero, Nat.zero_mul, Nat.mul_one, Nat.one_mul, Nat.reduceAdd, Nat.reduceSub, Nat.reduceMul, Nat.reduceLT, Nat.reduceLeDiff, Nat.reduceEqDiff, true_and, and_true, true_implies, if_true, if_false, ite_true, reduceIte, ne_eq, not_false_eq_true, reduceCtorEq, forall_const, bne_self_eq_false, Bool.true_eq_false, Bool.false_eq_true, false_implies, and_self, implies_true, Int.toNat_zero, beq_self_eq_true, decide_true, decide_false, Bool.not_true, Bool.not_false, ↓y_call, b1, c2, List.length_map, c3]
    refine fin_sy hl ?_
    simp only [symT, if_neg c1, if_neg c2, List.getElem?_eq_none (show gr.length ≤ r.toNat by omega)]
  obtain ⟨i, rfl⟩ : ∃ i : Nat, r = i := ⟨r.toNat, by omega⟩
  have hi : i < gr.length := by omega
  have e0 := nth_mapF ruleD gr i hi
  have hgi : gr[i]? = some gr[i] := by simp [hi]
  have f0 : (0 : Int) ≤ (i : Int) := by omega
  have f1 : (i : Int) < (gr.length : Int) := by omega
  generalize gr[i] = u at *
  obtain ⟨ul, ur⟩ := u
  rw [show ruleD ⟨ul, ur⟩ = .agg [.int .i64 ul, .lst (ur.map symD)] from rfl] at e0
  simp -implicitDefEqProofs only [↓symPre, symPost, y_condP, y_condG, run, lver, minD, intsD, eqAll, tupD, splice, Nat.zero_add, Nat.add_zero, Nat.zero_mul, Nat.mul_one, Nat.one_mul, Nat.reduceAdd, Nat.reduceSub, Nat.reduceMul, Nat.reduceLT, Nat.reduceLeDiff, Nat.reduceEqDiff, true_and, and_true, true_implies, if_true, if_false, ite_true, reduceIte, ne_eq, not_false_eq_true, reduceCtorEq, forall_const, bne_self_eq_false, Bool.true_eq_false, Bool.false_eq_true, false_implies, and_self, implies_true, Int.toNat_zero, beq_self_eq_true, decide_true, decide_false, Bool.not_true, Bool.not_false, ↓y_call, b1, c2, List.length_map, c3]
  refine adrawq hmix (List.replicate 11 [] ++ [[n + 4]]) ?_
  simp (maxSteps := 400000) -implicitDefEqProofs only [↓symPre, symPost, y_condP, y_condG, run, lver, minD, intsD, eqAll, tupD, splice, Nat.zero_add, Nat.add_zero, Nat.zero_mul, Nat.mul_one, Nat.one_mul, Nat.reduceAdd, Nat.reduceSub, Nat.reduceMul, Nat.reduceLT, Nat.reduceLeDiff, Nat.reduceEqDiff, true_and, and_true, true_implies, if_true, if_false, ite_true, reduceIte, ne_eq, not_false_eq_true, reduceCtorEq, forall_const, bne_self_eq_false, Bool.true_eq_false, Bool.false_eq_true, false_implies, and_self, implies_true, Int.toNat_zero, beq_self_eq_true, decide_true, decide_false, Bool.not_true, Bool.not_false, ↓y_call, ↓drawPre, drawPost, isCall, isNew, isEff, Option.toList, or_false, false_or, cond_true, cond_false, not_true_eq_false, or_true, true_or, Nat.add_left_cancel_iff, Bool.false_eq_true, List.length_map, f0, f1, Int.toNat_natCast, e0, List.flatMap_cons, List.flatMap_nil, List.append_nil, List.getD_cons_succ, List.getD_cons_zero]
  refine ⟨by rintro c (rfl | rfl) <;> rfl, fin_sy hl ?_⟩
  simp only [symT, if_neg c1, if_neg c2, Int.toNat_natCast, hgi]
  congr 1

theorem pure_Label (g : Gr) (t : Tree) : Pure prog F_parlref4_Label [gramD g, treeD t] (.tup [symD (labT g t).1, .bool (labT g t).2]) := by
  intro n h
  obtain ⟨gt, gn, gs, gr⟩ := g
  obtain ⟨r, tm, ks⟩ := t
  rw [treeD_mk]
  change ACalls prog F_parlref4_Label [.agg [.int .i64 gt, .int .i64 gn, .int .i64 gs, .lst (gr.map ruleD)], _] n h _
  refine K_parlref4_Label.calls fun hl => ?_
  unfold C_parlref4_Label
  by_cases c1 : r = -1
  · have b1 : (r == -1) = true := by simp [c1]
    have d0 : ¬ r ≥ 0 := by omega
    have nope : ¬ (ks.length = 0 ∧ 0 ≤ tm ∧ tm < gt) → labT ⟨gt, gn, gs, gr⟩ (.mk r tm ks) = (⟨false, 0⟩, false) := fun hh => by
      simp only [labT, if_neg (fun h : r = -1 ∧ ks.length = 0 ∧ 0 ≤ tm ∧ tm < gt => hh h.2), if_neg (show ¬ (0 ≤ r ∧ tm = 0) by omega)]
    by_cases c2 : ks.length = 0
    · have b2 : ((ks.length : Int) == 0) = true := by simp [c2]
      by_cases c3 : tm ≥ 0
      · by_cases c4 : tm < gt
        · simp -implicitDefEqProofs only [↓symPre, symPost, y_condP, y_condG, run, lver, minD, intsD, eqAll, tupD, splice, Nat.zero_add, Nat.add_zero, Nat.zero_mul, Nat.mul_one, Nat.one_mul, Nat.reduceAdd, Nat.reduceSub, Nat.reduceMul, Nat.reduceLT, Nat.reduceLeDiff, Nat.reduceEqDiff, true_and, and_true, true_implies, if_true, if_false, ite_true, reduceIte, ne_eq, not_false_eq_true, reduceCtorEq, forall_const, bne_self_eq_false, Bool.true_eq_false, Bool.false_eq_true, false_implies, and_self, implies_true, Int.toNat_zero, beq_self_eq_true, decide_true, decide_false, Bool.not_true, Bool.not_false, ↓y_call, b1, List.length_map, b2, c3, c4]
          exact fin_sy hl (by simp only [labT, if_pos (show r = -1 ∧ ks.length = 0 ∧ 0 ≤ tm ∧ tm < gt from ⟨c1, c2, by omega, c4⟩)])
        · simp -implicitDefEqProofs only [↓symPre, symPost, y_condP, y_condG, run, lver, minD, intsD, eqAll, tupD, splice, Nat.zero_add, Nat.add_zero, Nat.zero_mul, Nat.mul_one, Nat.one_mul, Nat.reduceAdd, Nat.reduceSub, Nat.reduceMul, Nat.reduceLT, Nat.reduceLeDiff, Nat.reduceEqDiff, true_and, and_true, true_implies, if_true, if_false, ite_true, reduceIte, ne_eq, not_false_eq_true, reduceCtorEq, forall_const, bne_self_eq_false, Bool.true_eq_false, Bool.false_eq_true, false_implies, and_self, implies_true, Int.toNat_zero, beq_self_eq_true, decide_true, decide_false, Bool.not_true, Bool.not_false, ↓y_call, b1, List.length_map, b2, c3, c4, d0]
          exact fin_sy hl (nope (by omega))
      · simp -implicitDefEqProofs only [↓symPre, symPost, y_condP, y_condG, run, lver, minD, intsD, eqAll, tupD, splice, Nat.zero_add, Nat.add_zero, Nat.zero_mul, Nat.mul_one, Nat.one_mul, Nat.reduceAdd, Nat.reduceSub, Nat.reduceMul, Nat.reduceLT, Nat.reduceLeDiff, Nat.reduceEqDiff, true_and, and_true, true_implies, if_true, if_false, ite_true, reduceIte, ne_eq, not_false_eq_true, reduceCtorEq, forall_const, bne_self_eq_false, Bool.true_eq_false, Bool.false_eq_true, false_implies, and_self, implies_true, Int.toNat_zero, beq_self_eq_true, decide_true, decide_false, Bool.not_true, Bool.not_false, ↓y_call, b1, List.length_map, b2, c3, d0]
        exact fin_sy hl (nope (by omega))
    · have b2 : ((ks.length : Int) == 0) = false := beq_eq_false_iff_ne.2 (by omega)
      simp -implicitDefEqProofs only [↓symPre, symPost, y_condP, y_condG, run, lver, minD, intsD, eqAll, tupD, splice, Nat.zero_add, Nat.add_zero, Nat.zero_mul, Nat.mul_one, Nat.one_mul, Nat.reduceAdd, Nat.reduceSub, Nat.reduceMul, Nat.reduceLT, Nat.reduceLeDiff, Nat.reduceEqDiff, true_and, and_true, true_implies, if_true, if_false, ite_true, reduceIte, ne_eq, not_false_eq_true, reduceCtorEq, forall_const, bne_self_eq_false, Bool.true_eq_false, Bool.false_eq_true, false_implies, and_self, implies_true, Int.toNat_zero, beq_self_eq_true, decide_true, decide_false, Bool.not_true, Bool.not_false, ↓y_call, b1, List.length_map, b2, d0]
      exact fin_sy hl (nope (by omega))
  have b1 : (r == -1) = false := by simp [c1]
  have hlab : labT ⟨gt, gn, gs, gr⟩ (.mk r tm ks) = if 0 ≤ r ∧ tm = 0 then (match gr[r.toNat]? with
    | some u => (⟨false, u.left⟩, true)
    | none => (⟨false, 0⟩, false)) else (⟨false, 0⟩, false) := by
    simp only [labT, if_neg (fun h : r = -1 ∧ ks.length = 0 ∧ 0 ≤ tm ∧ tm < gt => c1 h.1)]
  by_cases c2 : r ≥ 0
  rotate_left
  · simp -implicitDefEqProofs only [↓symPre, symPost, y_condP, y_condG, run, lver, minD, intsD, eqAll, tupD, splice, Nat.zero_add, Nat.add_zero, Nat.zero_mul, Nat.mul_one, Nat.one_mul, Nat.reduceAdd, Nat.reduceSub, Nat.reduceMul, Nat.reduceLT, Nat.reduceLeDiff, Nat.reduceEqDiff, true_and, and_true, true_implies, if_true, if_false, ite_true, reduceIte, ne_eq, not_false_eq_true, reduceCtorEq, forall_const, bne_self_eq_false, Bool.true_eq_false, Bool.false_eq_true, false_implies, and_self, implies_true, Int.toNat_zero, beq_self_eq_true, decide_true, decide_false, Bool.not_true, Bool.not_false, ↓y_call, b1, c2]
    exact fin_sy hl (by rw [hlab, if_neg (by omega)])
  by_cases c3 : r < (gr.length : Int)
  rotate_left
  · simp -implicitDefEqProofs only [↓symPre, symPost, y_condP, y_condG, run, lver, minD, intsD, eqAll, tupD, splice, Nat.zero_add, Nat.add_zero, Nat.zero_mul, Nat.mul_one, Nat.one_mul, Nat.reduceAdd, Nat.reduceSub, Nat.reduceMul, Nat.reduceLT, Nat.reduceLeDiff, Nat.reduceEqDiff, true_and, and_true, true_implies, if_true, if_false, ite_true, reduceIte, ne_eq, not_false_eq_true, reduceCtorEq, forall_const, bne_self_eq_false, Bool.true_eq_false, Bool.false_eq_true, false_implies, and_self, implies_true, Int.toNat_zero, beq_self_eq_true, decide_true, decide_false, Bool.not_true, Bool.not_false, ↓y_call, b1, c2, List.length_map, c3]
    refine fin_sy hl ?_
    rw [hlab, List.getElem?_eq_none (show gr.length ≤ r.toNat by omega), ite_self]
  by_cases c4 : tm = 0
  rotate_left
  · have b4 : (tm == 0) = false := by simp [c4]
    simp -implicitDefEqProofs only [↓symPre, symPost, y_condP, y_condG, run, lver, minD, intsD, eqAll, tupD, splice, Nat.zero_add, Nat.add_zero, Nat.zero_mul, Nat.mul_one, Nat.one_mul, Nat.reduceAdd, Nat.reduceSub, Nat.reduceMul, Nat.reduceLT, Nat.reduceLeDiff, Nat.reduceEqDiff, true_and, and_true, true_implies, if_true, if_false, ite_true, reduceIte, ne_eq, not_false_eq_true, reduceCtorEq, forall_const, bne_self_eq_false, Bool.true_eq_false, Bool.false_eq_true, false_implies, and_self, implies_true, Int.toNat_zero, beq_self_eq_true, decide_true, decide_false, Bool.not_true, Bool.not_false, ↓y_call, b1, c2, List.length_map, c3, b4]
    exact fin_sy hl (by rw [hlab, if_neg (fun h => c4 h.2)])
  have b4 : (tm == 0) = true := by simp [c4]
  obtain ⟨i, rfl⟩ : ∃ i : Nat, r = i := ⟨r.toNat, by omega⟩
  have hi : i < gr.length := by omega
  have e0 := nth_mapF ruleD gr i hi
  have hgi : gr[i]? = some gr[i] := by simp [hi]
  have f0 : (0 : Int) ≤ (i : Int) := by omega
  have f1 : (i : Int) < (gr.length : Int) := by omega
  generalize gr[i] = u at *
  obtain ⟨ul, ur⟩ := u
  rw [show ruleD ⟨ul, ur⟩ = .agg [.int .i64 ul, .lst (ur.map symD)] from rfl] at e0
  simp -implicitDefEqProofs only [↓symPre, symPost, y_condP, y_condG, run, lver, minD, intsD, eqAll, tupD, splice, Nat.zero_add, Nat.add_zero, Nat.zero_mul, Nat.mul_one, Nat.one_mul, Nat.reduceAdd, Nat.reduceSub, Nat.reduceMul, Nat.reduceLT, Nat.reduceLeDiff, Nat.reduceEqDiff, true_and, and_true, true_implies, if_true, if_false, ite_true, reduceIte, ne_eq, not_false_eq_true, reduceCtorEq, forall_const, bne_self_eq_false, Bool.true_eq_false, Bool.false_eq_true, false_implies, and_self, implies_true, Int.toNat_zero, beq_self_eq_true, decide_true, decide_false, Bool.not_true, Bool.not_false, ↓y_call, b1, c2, List.length_map, c3, b4, f0, f1, Int.toNat_natCast, e0]
  refine fin_sy hl ?_
  rw [hlab, if_pos ⟨by omega, c4⟩, Int.toNat_natCast, hgi]

mutual
def validT (g : Gr) : Tree → Bool
  | .mk r t ks => (symT g (.mk r t ks)).2 && (decide (r = -1) || match g.rules[r.toNat]? with
    | some u => decide (ks.length = u.right.length) && validK g ks u.right
    | none => false)
def validK (g : Gr) : List Tree → List Sy → Bool
  | k :: ks, s :: ss => (symT g k).2 && (decide ((symT g k).1 = s) && validT g k) && validK g ks ss
  | _, _ => true
end
theorem validT_mk (g : Gr) (r t : Int) (ks : List Tree) : validT g (.mk r t ks) = ((symT g (.mk r t ks)).2 && (decide (r = -1) || match g.rules[r.toNat]? with
    | some u => decide (ks.length = u.right.length) && validK g ks u.right
    | none => false)) := by rw [validT]
theorem validK_cons (g : Gr) (k : Tree) (ks : List Tree) (s : Sy) (ss : List Sy) : validK g (k :: ks) (s :: ss) = ((symT g k).2 && (decide ((symT g k).1 = s) && validT g k) && validK g ks ss) := by rw [validK]
theorem validK_nil (g : Gr) (ss : List Sy) : validK g [] ss = true := by unfold validK; rfl

theorem sy_eqT (a b : Sy) : ((a.t == b.t) && ((a.n == b.n) && true)) = decide (a = b) := by
  obtain ⟨at', an⟩ := a
  obtain ⟨bt, bn⟩ := b
  by_cases h1 : at' = bt <;> by_cases h2 : an = bn <;> simp [h1, h2]

set_option maxHeartbeats 4000000 in
theorem pure_valid (g : Gr) : ∀ (t : Tree), full t < 2 ^ 60 → Pure prog F_tree_valid [gramD g, treeD t] (.bool (validT g t))
  | .mk r tm ks, hf => by
    intro n h
    rw [full_mk] at hf
    have hkf := full_len ks
    have pS := pure_symbol g (.mk r tm ks)
    have pSk := pure_symbol g
    have pV := fun k (hk : k ∈ ks) => pure_valid g k (by have := full_kid hk; omega)
    have hvm := validT_mk g r tm ks
    have hsd : (symT g (.mk r tm ks)).2 = true → ¬ r = -1 → 0 ≤ r ∧ ∃ u, g.rules[r.toNat]? = some u := fun h1 h2 => by
      simp only [symT, if_neg h2] at h1
      by_cases c : r < 0
      · rw [if_pos c] at h1; cases h1
      · rw [if_neg c] at h1
        cases hu : g.rules[r.toNat]? with
        | none => rw [hu] at h1; cases h1
        | some u => exact ⟨by omega, u, rfl⟩
    rw [treeD_mk] at pS ⊢
    obtain ⟨gt, gn, gs, gr, hGD, hGr⟩ : ∃ gt gn gs gr, gramD g = .agg [.int .i64 gt, .int .i64 gn, .int .i64 gs, .lst (gr.map ruleD)] ∧ g.rules = gr := by cases g; exact ⟨_, _, _, _, rfl, rfl⟩
    simp only [hGD] at pS pSk pV ⊢
    rw [hGr] at hvm hsd
    generalize symT g (.mk r tm ks) = sy at *
    obtain ⟨⟨sb, sn⟩, ok⟩ := sy
    rw [show symD ⟨sb, sn⟩ = .agg [.bool sb, .int .i64 sn] from rfl] at pS
    simp only at hvm hsd pS
    refine K_tree_valid.calls fun hl => ?_
    unfold C_tree_valid
    simp -implicitDefEqProofs only [↓symPre, symPost, y_condP, y_condG, run, lver, minD, intsD, eqAll, tupD, splice, Nat.zero_add, Nat.add_zero, Nat.zero_mul, Nat.mul_one, Nat.one_mul, Nat.reduceAdd, Nat.reduceSub, Nat.reduceMul, Nat.reduceLT, Nat.reduceLeDiff, Nat.reduceEqDiff, true_and, and_true, true_implies, if_true, if_false, ite_true, reduceIte, ne_eq, not_false_eq_true, reduceCtorEq, forall_const, bne_self_eq_false, Bool.true_eq_false, Bool.false_eq_true, false_implies, and_self, implies_true, Int.toNat_zero, beq_self_eq_true, decide_true, decide_false, Bool.not_true, Bool.not_false, ↓y_call]
    refine pS.call rfl ?_
    cases ok with
    | false =>
      simp -implicitDefEqProofs only [↓symPre, symPost, y_condP, y_condG, run, lver, minD, intsD, eqAll, tupD, splice, Nat.zero_add, Nat.add_zero, Nat.zero_mul, Nat.mul_one, Nat.one_mul, Nat.reduceAdd, Nat.reduceSub, Nat.reduceMul, Nat.reduceLT, Nat.reduceLeDiff, Nat.reduceEqDiff, true_and, and_true, true_implies, if_true, if_false, ite_true, reduceIte, ne_eq, not_false_eq_true, reduceCtorEq, forall_const, bne_self_eq_false, Bool.true_eq_false, Bool.false_eq_true, false_implies, and_self, implies_true, Int.toNat_zero, beq_self_eq_true, decide_true, decide_false, Bool.not_true, Bool.not_false, ↓y_call]
      exact fin_bool hl (by rw [hvm]; rfl)
    | true =>
      simp -implicitDefEqProofs only [↓symPre, symPost, y_condP, y_condG, run, lver, minD, intsD, eqAll, tupD, splice, Nat.zero_add, Nat.add_zero, Nat.zero_mul, Nat.mul_one, Nat.one_mul, Nat.reduceAdd, Nat.reduceSub, Nat.reduceMul, Nat.reduceLT, Nat.reduceLeDiff, Nat.reduceEqDiff, true_and, and_true, true_implies, if_true, if_false, ite_true, reduceIte, ne_eq, not_false_eq_true, reduceCtorEq, forall_const, bne_self_eq_false, Bool.true_eq_false, Bool.false_eq_true, false_implies, and_self, implies_true, Int.toNat_zero, beq_self_eq_true, decide_true, decide_false, Bool.not_true, Bool.not_false, ↓y_call]
      refine (pure_leaf r tm _).call rfl ?_
      by_cases c1 : r = -1
      · have b1 : (r == -1) = true := by simp [c1]
        simp -implicitDefEqProofs only [↓symPre, symPost, y_condP, y_condG, run, lver, minD, intsD, eqAll, tupD, splice, Nat.zero_add, Nat.add_zero, Nat.zero_mul, Nat.mul_one, Nat.one_mul, Nat.reduceAdd, Nat.reduceSub, Nat.reduceMul, Nat.reduceLT, Nat.reduceLeDiff, Nat.reduceEqDiff, true_and, and_true, true_implies, if_true, if_false, ite_true, reduceIte, ne_eq, not_false_eq_true, reduceCtorEq, forall_const, bne_self_eq_false, Bool.true_eq_false, Bool.false_eq_true, false_implies, and_self, implies_true, Int.toNat_zero, beq_self_eq_true, decide_true, decide_false, Bool.not_true, Bool.not_false, ↓y_call, b1]
        exact fin_bool hl (by rw [hvm]; simp [c1])
      have b1 : (r == -1) = false := by simp [c1]
      obtain ⟨r0, u, hu⟩ := hsd rfl c1
      obtain ⟨i, rfl⟩ : ∃ i : Nat, r = i := ⟨r.toNat, by omega⟩
      rw [Int.toNat_natCast] at hu
      rw [Int.toNat_natCast, hu, decide_eq_false c1, Bool.true_and, Bool.false_or] at hvm
      have hi : i < gr.length := (List.getElem?_eq_some_iff.1 hu).1
      have e0 := nth_mapF ruleD gr i hi
      rw [(List.getElem?_eq_some_iff.1 hu).2] at e0
      have f0 : (0 : Int) ≤ (i : Int) := by omega
      have f1 : (i : Int) < (gr.length : Int) := by omega
      obtain ⟨ul, ur⟩ := u
      rw [show ruleD ⟨ul, ur⟩ = .agg [.int .i64 ul, .lst (ur.map symD)] from rfl] at e0
      simp only at hvm
      by_cases c2 : ks.length = ur.length
      rotate_left
      · have b2 : ((ks.length : Int) != (ur.length : Int)) = true := by simp; omega
        rw [decide_eq_false c2] at hvm
        simp -implicitDefEqProofs only [↓symPre, symPost, y_condP, y_condG, run, lver, minD, intsD, eqAll, tupD, splice, Nat.zero_add, Nat.add_zero, Nat.zero_mul, Nat.mul_one, Nat.one_mul, Nat.reduceAdd, Nat.reduceSub, Nat.reduceMul, Nat.reduceLT, Nat.reduceLeDiff, Nat.reduceEqDiff, true_and, and_true, true_implies, if_true, if_false, ite_true, reduceIte, ne_eq, not_false_eq_true, reduceCtorEq, forall_const, bne_self_eq_false, Bool.true_eq_false, Bool.false_eq_true, false_implies, and_self, implies_true, Int.toNat_zero, beq_self_eq_true, decide_true, decide_false, Bool.not_true, Bool.not_false, ↓y_call, b1, List.length_map, f0, f1, Int.toNat_natCast, e0, b2]
        exact fin_bool hl (by rw [hvm]; rfl)
      have b2 : ((ks.length : Int) != (ur.length : Int)) = false := by simp; omega
      rw [decide_eq_true c2, Bool.true_and] at hvm
      simp -implicitDefEqProofs only [↓symPre, symPost, y_condP, y_condG, run, lver, minD, intsD, eqAll, tupD, splice, Nat.zero_add, Nat.add_zero, Nat.zero_mul, Nat.mul_one, Nat.one_mul, Nat.reduceAdd, Nat.reduceSub, Nat.reduceMul, Nat.reduceLT, Nat.reduceLeDiff, Nat.reduceEqDiff, true_and, and_true, true_implies, if_true, if_false, ite_true, reduceIte, ne_eq, not_false_eq_true, reduceCtorEq, forall_const, bne_self_eq_false, Bool.true_eq_false, Bool.false_eq_true, false_implies, and_self, implies_true, Int.toNat_zero, beq_self_eq_true, decide_true, decide_false, Bool.not_true, Bool.not_false, ↓y_call, b1, List.length_map, f0, f1, Int.toNat_natCast, e0, b2]
      refine aloop (fun j : Nat => St.mk n ([.top, .top, .ptr (n + 2) 1 0, .top, .top, .top, .top, .lst (ur.map symD)] ++ List.replicate 31 .top ++ [.lst (ks.map treeD), .int .i64 ks.length, .int .i64 j] ++ List.replicate 27 .top) h
          ([blk0, blk0, ⟨1, .cells [.int .i64 gt, .int .i64 gn, .int .i64 gs, .lst (gr.map ruleD)]⟩] ++ List.replicate 66 blk0)) (fun j => j ≤ ks.length ∧ validK g (ks.drop j) (ur.drop j) = validK g ks ur) (fun j => ks.length - j) 0 ⟨Nat.zero_le _, rfl⟩ ?_ ?_
      · refine le_to ([.hole, .hole, .old 2] ++ List.replicate 66 .hole) hl rfl ?_ ?_ <;> ((try simp only [y_blk_end, y_blk_hole, y_blk_nil, y_blk_old, y_wkl_end, y_wkl_top, List.replicate, List.cons_append, List.nil_append, and_true, true_and]) <;> (repeat' (first | apply And.intro | apply y_wkl | refine Exists.intro _ (And.intro rfl ?_))) <;> (try first | exact trivial | exact Wk.top _ | exact wk_int rfl | exact wk_bool rfl | exact wk_ptr rfl rfl rfl rfl | exact wk_ref rfl rfl rfl rfl rfl | exact wk_nil rfl rfl rfl | exact wk_ref rfl rfl rfl rfl (by simp) | exact wk_ref rfl rfl rfl rfl (by simp; omega) | exact wk_old (by assumption) (by simp) | exact wk_eq rfl (by first | exact Bd.int _ _ | exact Bd.bool _ | exact Bd.abool | exact Bd.nils | exact Bd.emp | exact Bd.nilp | exact Bd.nilfn | assumption | exact low_trees _ _ | exact low_treeD _ _ | exact low_ints _ _) | exact Nat.le_refl _ | exact wk_int (by simp) | exact wk_int (by omega) | exact Nat.succ_le_succ (Nat.zero_le _) | exact Nat.le_add_left _ _ | omega))
        all_goals first | exact wk_eq rfl (low_rules _ _) | exact wk_eq rfl (low_syms _ _)
      · rintro j ⟨hj, hv⟩
        by_cases hjl : j < ks.length
        · have q1 : (j : Int) < (ks.length : Int) := by omega
          have q0 : (0 : Int) ≤ (j : Int) := by omega
          have q2 : (j : Int) < (ur.length : Int) := by omega
          have hju : j < ur.length := by omega
          have w2 : IntKind.i64.wrap ((j : Int) + 1) = ((j + 1 : Nat) : Int) := by rw [IntWalk.i64_in _ (by omega)]; omega
          have e1 := nth_map_tree ks j hjl
          have e2 := nth_mapF symD ur j hju
          have pVj := pV ks[j] (List.getElem_mem hjl)
          have pSj := pSk ks[j]
          rw [List.drop_eq_getElem_cons hjl, List.drop_eq_getElem_cons hju, validK_cons] at hv
          generalize ks[j] = k at *
          generalize ur[j] = y at *
          generalize hkv : validT g k = vk at *
          generalize symT g k = sk at *
          obtain ⟨⟨kb, kn⟩, kok⟩ := sk
          obtain ⟨yt, yn⟩ := y
          have hse := sy_eqT ⟨kb, kn⟩ ⟨yt, yn⟩
          simp only at hse hv pSj
          obtain ⟨kr, kt, kk, rfl⟩ : ∃ r t' k', k = .mk r t' k' := by cases k; exact ⟨_, _, _, rfl⟩
          rw [treeD_mk] at e1 pVj pSj
          rw [show symD ⟨yt, yn⟩ = .agg [.bool yt, .int .i64 yn] from rfl] at e2
          rw [show symD ⟨kb, kn⟩ = .agg [.bool kb, .int .i64 kn] from rfl] at pSj
          simp -implicitDefEqProofs only [↓symPre, symPost, y_condP, y_condG, run, lver, minD, intsD, eqAll, tupD, splice, Nat.zero_add, Nat.add_zero, Nat.zero_mul, Nat.mul_one, Nat.one_mul, Nat.reduceAdd, Nat.reduceSub, Nat.reduceMul, Nat.reduceLT, Nat.reduceLeDiff, Nat.reduceEqDiff, true_and, and_true, true_implies, if_true, if_false, ite_true, reduceIte, ne_eq, not_false_eq_true, reduceCtorEq, forall_const, bne_self_eq_false, Bool.true_eq_false, Bool.false_eq_true, false_implies, and_self, implies_true, Int.toNat_zero, beq_self_eq_true, decide_true, decide_false, Bool.not_true, Bool.not_false, ↓y_call, List.length_map, q1, q0, decide_true, Int.toNat_natCast, e1]
          refine pSj.call rfl ?_
          cases kok with
          | false =>
            simp -implicitDefEqProofs only [↓symPre, symPost, y_condP, y_condG, run, lver, minD, intsD, eqAll, tupD, splice, Nat.zero_add, Nat.add_zero, Nat.zero_mul, Nat.mul_one, Nat.one_mul, Nat.reduceAdd, Nat.reduceSub, Nat.reduceMul, Nat.reduceLT, Nat.reduceLeDiff, Nat.reduceEqDiff, true_and, and_true, true_implies, if_true, if_false, ite_true, reduceIte, ne_eq, not_false_eq_true, reduceCtorEq, forall_const, bne_self_eq_false, Bool.true_eq_false, Bool.false_eq_true, false_implies, and_self, implies_true, Int.toNat_zero, beq_self_eq_true, decide_true, decide_false, Bool.not_true, Bool.not_false, ↓y_call]
            refine adrawq hmix [] ?_
            simp (maxSteps := 400000) -implicitDefEqProofs only [↓symPre, symPost, y_condP, y_condG, run, lver, minD, intsD, eqAll, tupD, splice, Nat.zero_add, Nat.add_zero, Nat.zero_mul, Nat.mul_one, Nat.one_mul, Nat.reduceAdd, Nat.reduceSub, Nat.reduceMul, Nat.reduceLT, Nat.reduceLeDiff, Nat.reduceEqDiff, true_and, and_true, true_implies, if_true, if_false, ite_true, reduceIte, ne_eq, not_false_eq_true, reduceCtorEq, forall_const, bne_self_eq_false, Bool.true_eq_false, Bool.false_eq_true, false_implies, and_self, implies_true, Int.toNat_zero, beq_self_eq_true, decide_true, decide_false, Bool.not_true, Bool.not_false, ↓y_call, ↓drawPre, drawPost, isCall, isNew, isEff, Option.toList, or_false, false_or, cond_true, cond_false, not_true_eq_false, or_true, true_or, Nat.add_left_cancel_iff, Bool.false_eq_true]
            exact fin_bool hl (by rw [hvm, ← hv]; rfl)
          | true =>
            rw [Bool.true_and] at hv
            by_cases c3 : (⟨kb, kn⟩ : Sy) = ⟨yt, yn⟩
            · rw [decide_eq_true c3] at hse
              rw [decide_eq_true c3, Bool.true_and] at hv
              simp -implicitDefEqProofs only [↓symPre, symPost, y_condP, y_condG, run, lver, minD, intsD, eqAll, tupD, splice, Nat.zero_add, Nat.add_zero, Nat.zero_mul, Nat.mul_one, Nat.one_mul, Nat.reduceAdd, Nat.reduceSub, Nat.reduceMul, Nat.reduceLT, Nat.reduceLeDiff, Nat.reduceEqDiff, true_and, and_true, true_implies, if_true, if_false, ite_true, reduceIte, ne_eq, not_false_eq_true, reduceCtorEq, forall_const, bne_self_eq_false, Bool.true_eq_false, Bool.false_eq_true, false_implies, and_self, implies_true, Int.toNat_zero, beq_self_eq_true, decide_true, decide_false, Bool.not_true, Bool.not_false, ↓y_call]
              refine adrawq hmix [] ?_
              simp (maxSteps := 400000) -implicitDefEqProofs only [↓symPre, symPost, y_condP, y_condG, run, lver, minD, intsD, eqAll, tupD, splice, Nat.zero_add, Nat.add_zero, Nat.zero_mul, Nat.mul_one, Nat.one_mul, Nat.reduceAdd, Nat.reduceSub, Nat.reduceMul, Nat.reduceLT, Nat.reduceLeDiff, Nat.reduceEqDiff, true_and, and_true, true_implies, if_true, if_false, ite_true, reduceIte, ne_eq, not_false_eq_true, reduceCtorEq, forall_const, bne_self_eq_false, Bool.true_eq_false, Bool.false_eq_true, false_implies, and_self, implies_true, Int.toNat_zero, beq_self_eq_true, decide_true, decide_false, Bool.not_true, Bool.not_false, ↓y_call, ↓drawPre, drawPost, isCall, isNew, isEff, Option.toList, or_false, false_or, cond_true, cond_false, not_true_eq_false, or_true, true_or, Nat.add_left_cancel_iff, Bool.false_eq_true, List.length_map, q0, q2, Int.toNat_natCast, e2, hse, bne_self_eq_false]
              refine ⟨_, _, pVj.draw rfl, (by simp [y_cov0, y_cov1, isNew, isEff, Option.toList]), ?_⟩
              cases vk with
              | false =>
                simp (maxSteps := 400000) -implicitDefEqProofs only [↓symPre, symPost, y_condP, y_condG, run, lver, minD, intsD, eqAll, tupD, splice, Nat.zero_add, Nat.add_zero, Nat.zero_mul, Nat.mul_one, Nat.one_mul, Nat.reduceAdd, Nat.reduceSub, Nat.reduceMul, Nat.reduceLT, Nat.reduceLeDiff, Nat.reduceEqDiff, true_and, and_true, true_implies, if_true, if_false, ite_true, reduceIte, ne_eq, not_false_eq_true, reduceCtorEq, forall_const, bne_self_eq_false, Bool.true_eq_false, Bool.false_eq_true, false_implies, and_self, implies_true, Int.toNat_zero, beq_self_eq_true, decide_true, decide_false, Bool.not_true, Bool.not_false, ↓y_call, ↓drawPre, drawPost, isCall, isNew, isEff, Option.toList, or_false, false_or, cond_true, cond_false, not_true_eq_false, or_true, true_or, Nat.add_left_cancel_iff, Bool.false_eq_true]
                exact fin_bool hl (by rw [hvm, ← hv]; rfl)
              | true =>
                rw [Bool.true_and] at hv
                simp (maxSteps := 400000) -implicitDefEqProofs only [↓symPre, symPost, y_condP, y_condG, run, lver, minD, intsD, eqAll, tupD, splice, Nat.zero_add, Nat.add_zero, Nat.zero_mul, Nat.mul_one, Nat.one_mul, Nat.reduceAdd, Nat.reduceSub, Nat.reduceMul, Nat.reduceLT, Nat.reduceLeDiff, Nat.reduceEqDiff, true_and, and_true, true_implies, if_true, if_false, ite_true, reduceIte, ne_eq, not_false_eq_true, reduceCtorEq, forall_const, bne_self_eq_false, Bool.true_eq_false, Bool.false_eq_true, false_implies, and_self, implies_true, Int.toNat_zero, beq_self_eq_true, decide_true, decide_false, Bool.not_true, Bool.not_false, ↓y_call, ↓drawPre, drawPost, isCall, isNew, isEff, Option.toList, or_false, false_or, cond_true, cond_false, not_true_eq_false, or_true, true_or, Nat.add_left_cancel_iff, Bool.false_eq_true, w2]
                refine ⟨j + 1, ⟨by omega, hv⟩, by omega, ?_⟩
                refine le_to ([.hole, .hole, .old 2] ++ List.replicate 66 .hole) hl rfl ?_ ?_ <;> ((try simp only [y_blk_end, y_blk_hole, y_blk_nil, y_blk_old, y_wkl_end, y_wkl_top, List.replicate, List.cons_append, List.nil_append, and_true, true_and]) <;> (repeat' (first | apply And.intro | apply y_wkl | refine Exists.intro _ (And.intro rfl ?_))) <;> (try first | exact trivial | exact Wk.top _ | exact wk_int rfl | exact wk_bool rfl | exact wk_ptr rfl rfl rfl rfl | exact wk_ref rfl rfl rfl rfl rfl | exact wk_nil rfl rfl rfl | exact wk_ref rfl rfl rfl rfl (by simp) | exact wk_ref rfl rfl rfl rfl (by simp; omega) | exact wk_old (by assumption) (by simp) | exact wk_eq rfl (by first | exact Bd.int _ _ | exact Bd.bool _ | exact Bd.abool | exact Bd.nils | exact Bd.emp | exact Bd.nilp | exact Bd.nilfn | assumption | exact low_trees _ _ | exact low_treeD _ _ | exact low_ints _ _) | exact Nat.le_refl _ | exact wk_int (by simp) | exact wk_int (by omega) | exact Nat.succ_le_succ (Nat.zero_le _) | exact Nat.le_add_left _ _ | omega))
                all_goals first | exact wk_eq rfl (low_rules _ _) | exact wk_eq rfl (low_syms _ _)
            · rw [decide_eq_false c3] at hse
              rw [decide_eq_false c3, Bool.false_and, Bool.false_and] at hv
              have hft : (false != true) = true := rfl
              simp -implicitDefEqProofs only [↓symPre, symPost, y_condP, y_condG, run, lver, minD, intsD, eqAll, tupD, splice, Nat.zero_add, Nat.add_zero, Nat.zero_mul, Nat.mul_one, Nat.one_mul, Nat.reduceAdd, Nat.reduceSub, Nat.reduceMul, Nat.reduceLT, Nat.reduceLeDiff, Nat.reduceEqDiff, true_and, and_true, true_implies, if_true, if_false, ite_true, reduceIte, ne_eq, not_false_eq_true, reduceCtorEq, forall_const, bne_self_eq_false, Bool.true_eq_false, Bool.false_eq_true, false_implies, and_self, implies_true, Int.toNat_zero, beq_self_eq_true, decide_true, decide_false, Bool.not_true, Bool.not_false, ↓y_call]
              refine adrawq hmix [] ?_
              simp (maxSteps := 400000) -implicitDefEqProofs only [↓symPre, symPost, y_condP, y_condG, run, lver, minD, intsD, eqAll, tupD, splice, Nat.zero_add, Nat.add_zero, Nat.zero_mul, Nat.mul_one, Nat.one_mul, Nat.reduceAdd, Nat.reduceSub, Nat.reduceMul, Nat.reduceLT, Nat.reduceLeDiff, Nat.reduceEqDiff, true_and, and_true, true_implies, if_true, if_false, ite_true, reduceIte, ne_eq, not_false_eq_true, reduceCtorEq, forall_const, bne_self_eq_false, Bool.true_eq_false, Bool.false_eq_true, false_implies, and_self, implies_true, Int.toNat_zero, beq_self_eq_true, decide_true, decide_false, Bool.not_true, Bool.not_false, ↓y_call, ↓drawPre, drawPost, isCall, isNew, isEff, Option.toList, or_false, false_or, cond_true, cond_false, not_true_eq_false, or_true, true_or, Nat.add_left_cancel_iff, Bool.false_eq_true, List.length_map, q0, q2, Int.toNat_natCast, e2, hse, hft]
              exact fin_bool hl (by rw [hvm, ← hv])
        · have q1 : ¬ (j : Int) < (ks.length : Int) := by omega
          rw [List.drop_eq_nil_of_le (by omega), validK_nil] at hv
          simp -implicitDefEqProofs only [↓symPre, symPost, y_condP, y_condG, run, lver, minD, intsD, eqAll, tupD, splice, Nat.zero_add, Nat.add_zero, Nat.zero_mul, Nat.mul_one, Nat.one_mul, Nat.reduceAdd, Nat.reduceSub, Nat.reduceMul, Nat.reduceLT, Nat.reduceLeDiff, Nat.reduceEqDiff, true_and, and_true, true_implies, if_true, if_false, ite_true, reduceIte, ne_eq, not_false_eq_true, reduceCtorEq, forall_const, bne_self_eq_false, Bool.true_eq_false, Bool.false_eq_true, false_implies, and_self, implies_true, Int.toNat_zero, beq_self_eq_true, decide_true, decide_false, Bool.not_true, Bool.not_false, ↓y_call, q1, decide_false]
          exact fin_bool hl (by rw [hvm, ← hv])
termination_by t => t

end Abs
end Go.Proofs.Ytfojedaccfenfab

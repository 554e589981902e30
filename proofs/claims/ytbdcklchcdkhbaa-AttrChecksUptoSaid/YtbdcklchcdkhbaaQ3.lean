/- Expressions, equations, systems; a rule's symbols; whether an attribute occurs. -/
import Derived.Test.YtbdcklchcdkhbaaQ2
namespace Go.Proofs.Ytbdcklchcdkhbaa
namespace Abs
set_option linter.unusedVariables false
set_option linter.unusedSimpArgs false
set_option maxRecDepth 20000

inductive Ex where
  | mk (kind n at' attr : Int) (args : List Ex)
  deriving Inhabited
def exD : Ex → D
  | .mk k n a r xs => .agg [.int .i64 k, .int .i64 n, .int .i64 a, .int .i64 r, .lst (xs.map exD)]
theorem exD_mk (k n a r : Int) (xs : List Ex) : exD (.mk k n a r xs) = .agg [.int .i64 k, .int .i64 n, .int .i64 a, .int .i64 r, .lst (xs.map exD)] := by rw [exD]
theorem low_exD (n : Nat) : ∀ x : Ex, Low n (exD x)
  | .mk k m a r xs => by
    rw [exD_mk]
    refine .agg _ fun c hc => ?_
    simp only [List.mem_cons, List.not_mem_nil, or_false] at hc
    rcases hc with rfl | rfl | rfl | rfl | rfl
    · exact .int ..
    · exact .int ..
    · exact .int ..
    · exact .int ..
    · refine .lst _ fun c hc => ?_
      obtain ⟨y, hy, rfl⟩ := List.mem_map.1 hc
      exact low_exD n y
theorem exD_cells (x : Ex) : (exD x).cells.length = 5 := by cases x; rw [exD_mk]; rfl
theorem low_exs (n : Nat) (l : List Ex) : Low n (.lst (l.map exD)) := low_lstF exD (low_exD n) l

structure Eqn where
  rule : Int
  at' : Int
  attr : Int
  is : Ex
structure At where
  non : Int
  inh : Bool
structure Sys where
  attrs : List At
  eqs : List Eqn
def exC : Ex → List D
  | .mk k n a r xs => [.int .i64 k, .int .i64 n, .int .i64 a, .int .i64 r, .lst (xs.map exD)]
theorem exD_C (x : Ex) : exD x = .agg (exC x) := by cases x; rw [exD_mk]; rfl
def eqD (q : Eqn) : D := .agg ([.int .i64 q.rule, .int .i64 q.at', .int .i64 q.attr] ++ exC q.is)
def atD (a : At) : D := .agg [.int .i64 a.non, .bool a.inh]
def sysD (s : Sys) : D := .agg [.lst (s.attrs.map atD), .lst (s.eqs.map eqD)]
theorem low_exC (n : Nat) (x : Ex) : ∀ c ∈ exC x, Low n c := fun c hc => by
  have := low_exD n x
  rw [exD_C] at this
  exact low_agg.1 this c hc
theorem low_eqD (n : Nat) (q : Eqn) : Low n (eqD q) := .agg _ fun c hc => by
  rcases List.mem_append.1 hc with hc | hc
  · simp only [List.mem_cons, List.not_mem_nil, or_false] at hc
    rcases hc with rfl | rfl | rfl <;> exact .int ..
  · exact low_exC n _ c hc
theorem low_atD (n : Nat) (a : At) : Low n (atD a) := .agg _ fun c hc => by
  simp only [List.mem_cons, List.not_mem_nil, or_false] at hc
  rcases hc with rfl | rfl
  · exact .int ..
  · exact .bool _
theorem low_ats (n : Nat) (l : List At) : Low n (.lst (l.map atD)) := low_lstF atD (low_atD n) l
theorem low_eqs (n : Nat) (l : List Eqn) : Low n (.lst (l.map eqD)) := low_lstF eqD (low_eqD n) l
theorem eqD_cells (q : Eqn) : (eqD q).cells.length = 8 := by
  unfold eqD
  cases q.is; rfl
theorem atD_cells (a : At) : (atD a).cells.length = 2 := rfl
theorem low_sysD (n : Nat) (s : Sys) : Low n (sysD s) := .agg _ fun c hc => by
  simp only [List.mem_cons, List.not_mem_nil, or_false] at hc
  rcases hc with rfl | rfl
  · exact low_ats n _
  · exact low_eqs n _

/-! ### a rule's symbols -/
def ru0 : Ru := ⟨0, []⟩
def symN (g : Gr) (rule : Nat) (k : Int) : Int :=
  if k = 0 then (g.rules.getD rule ru0).left
  else if k < 0 ∨ k > (g.rules.getD rule ru0).right.length then -1
  else if ((g.rules.getD rule ru0).right.getD (k - 1).toNat ⟨false, 0⟩).t then -1 else ((g.rules.getD rule ru0).right.getD (k - 1).toNat ⟨false, 0⟩).n

theorem nth_rule (g : Gr) (i : Nat) (hi : i < g.rules.length) : nth (g.rules.map ruleD) i = .agg [.int .i64 (g.rules.getD i ru0).left, .lst ((g.rules.getD i ru0).right.map symD)] := by
  simp [nth, List.getD, hi, ruleD]
theorem nth_sym (l : List Sy) (i : Nat) (hi : i < l.length) : nth (l.map symD) i = .agg [.bool (l.getD i ⟨false, 0⟩).t, .int .i64 (l.getD i ⟨false, 0⟩).n] := by
  simp [nth, List.getD, hi, symD]

theorem pure_symbol (g : Gr) (rule : Nat) (k : Int) (hr : rule < g.rules.length) (hx : ∀ r ∈ g.rules, r.right.length < 2 ^ 60) : Pure prog F_attr_symbol [gramD g, .int .i64 rule, .int .i64 k] (.int .i64 (symN g rule k)) := by
  intro n h
  refine K_attr_symbol.calls fun hl => ?_
  unfold C_attr_symbol gramD
  have e0 := nth_rule g rule hr
  have h0 : (0 : Int) ≤ (rule : Int) := by omega
  have h1 : (rule : Int) < (g.rules.length : Int) := by omega
  have hxr : (g.rules.getD rule ru0).right.length < 2 ^ 60 := by
    have : g.rules.getD rule ru0 = g.rules[rule] := by simp [List.getD, hr]
    rw [this]; exact hx _ (List.getElem_mem hr)
  have hs : symN g rule k = if k = 0 then (g.rules.getD rule ru0).left else if k < 0 ∨ k > (g.rules.getD rule ru0).right.length then -1 else if ((g.rules.getD rule ru0).right.getD (k - 1).toNat ⟨false, 0⟩).t then -1 else ((g.rules.getD rule ru0).right.getD (k - 1).toNat ⟨false, 0⟩).n := rfl
  generalize g.rules.getD rule ru0 = r at *
  have hls := low_syms n r.right
  by_cases c0 : k = 0
  · have b0 : (k == 0) = true := by simp [c0]
    simp -implicitDefEqProofs only [↓symPre, symPost, y_condP, y_condG, run, lver, minD, intsD, eqAll, tupD, splice, Nat.zero_add, Nat.add_zero, Nat.zero_mul, Nat.mul_one, Nat.one_mul, Nat.reduceAdd, Nat.reduceSub, Nat.reduceMul, Nat.reduceLT, Nat.reduceLeDiff, Nat.reduceEqDiff, true_and, and_true, true_implies, if_true, if_false, ite_true, reduceIte, ne_eq, not_false_eq_true, reduceCtorEq, forall_const, bne_self_eq_false, Bool.true_eq_false, Bool.false_eq_true, false_implies, and_self, implies_true, Int.toNat_zero, beq_self_eq_true, decide_true, decide_false, Bool.not_true, Bool.not_false, ↓y_lookv, y_key1, y_mlook, y_mlookn, y_mres1, y_mres0, ↓y_call, List.length_map, h0, h1, e0, Int.toNat_natCast, b0]
    exact fin_int hl (by rw [hs, if_pos c0])
  have b0 : (k == 0) = false := by simp [c0]
  rw [if_neg c0] at hs
  by_cases c1 : k < 0
  · simp -implicitDefEqProofs only [↓symPre, symPost, y_condP, y_condG, run, lver, minD, intsD, eqAll, tupD, splice, Nat.zero_add, Nat.add_zero, Nat.zero_mul, Nat.mul_one, Nat.one_mul, Nat.reduceAdd, Nat.reduceSub, Nat.reduceMul, Nat.reduceLT, Nat.reduceLeDiff, Nat.reduceEqDiff, true_and, and_true, true_implies, if_true, if_false, ite_true, reduceIte, ne_eq, not_false_eq_true, reduceCtorEq, forall_const, bne_self_eq_false, Bool.true_eq_false, Bool.false_eq_true, false_implies, and_self, implies_true, Int.toNat_zero, beq_self_eq_true, decide_true, decide_false, Bool.not_true, Bool.not_false, ↓y_lookv, y_key1, y_mlook, y_mlookn, y_mres1, y_mres0, ↓y_call, List.length_map, h0, h1, e0, Int.toNat_natCast, b0, c1, decide_true]
    exact fin_int hl (by rw [hs, if_pos (.inl c1)])
  by_cases c2 : k > (r.right.length : Int)
  · simp -implicitDefEqProofs only [↓symPre, symPost, y_condP, y_condG, run, lver, minD, intsD, eqAll, tupD, splice, Nat.zero_add, Nat.add_zero, Nat.zero_mul, Nat.mul_one, Nat.one_mul, Nat.reduceAdd, Nat.reduceSub, Nat.reduceMul, Nat.reduceLT, Nat.reduceLeDiff, Nat.reduceEqDiff, true_and, and_true, true_implies, if_true, if_false, ite_true, reduceIte, ne_eq, not_false_eq_true, reduceCtorEq, forall_const, bne_self_eq_false, Bool.true_eq_false, Bool.false_eq_true, false_implies, and_self, implies_true, Int.toNat_zero, beq_self_eq_true, decide_true, decide_false, Bool.not_true, Bool.not_false, ↓y_lookv, y_key1, y_mlook, y_mlookn, y_mres1, y_mres0, ↓y_call, List.length_map, h0, h1, e0, Int.toNat_natCast, b0, c1, c2, decide_true, decide_false]
    exact fin_int hl (by rw [hs, if_pos (.inr c2)])
  rw [if_neg (by omega)] at hs
  obtain ⟨j, hj⟩ : ∃ j : Nat, k - 1 = j := ⟨(k - 1).toNat, by omega⟩
  have hjl : j < r.right.length := by omega
  have w1 : IntKind.i64.wrap (k - 1) = (j : Int) := by rw [IntWalk.i64_in _ (by omega), hj]
  have j0 : (0 : Int) ≤ (j : Int) := by omega
  have j1 : (j : Int) < (r.right.length : Int) := by omega
  have e1 := nth_sym r.right j hjl
  rw [hj, Int.toNat_natCast] at hs
  generalize r.right.getD j ⟨false, 0⟩ = y at *
  cases ht : y.t with
  | true =>
    rw [ht] at e1
    simp -implicitDefEqProofs only [↓symPre, symPost, y_condP, y_condG, run, lver, minD, intsD, eqAll, tupD, splice, Nat.zero_add, Nat.add_zero, Nat.zero_mul, Nat.mul_one, Nat.one_mul, Nat.reduceAdd, Nat.reduceSub, Nat.reduceMul, Nat.reduceLT, Nat.reduceLeDiff, Nat.reduceEqDiff, true_and, and_true, true_implies, if_true, if_false, ite_true, reduceIte, ne_eq, not_false_eq_true, reduceCtorEq, forall_const, bne_self_eq_false, Bool.true_eq_false, Bool.false_eq_true, false_implies, and_self, implies_true, Int.toNat_zero, beq_self_eq_true, decide_true, decide_false, Bool.not_true, Bool.not_false, ↓y_lookv, y_key1, y_mlook, y_mlookn, y_mres1, y_mres0, ↓y_call, List.length_map, h0, h1, e0, Int.toNat_natCast, b0, c1, c2, decide_true, decide_false, w1, j0, j1, e1]
    exact fin_int hl (by rw [hs, if_pos ht])
  | false =>
    rw [ht] at e1
    simp -implicitDefEqProofs only [↓symPre, symPost, y_condP, y_condG, run, lver, minD, intsD, eqAll, tupD, splice, Nat.zero_add, Nat.add_zero, Nat.zero_mul, Nat.mul_one, Nat.one_mul, Nat.reduceAdd, Nat.reduceSub, Nat.reduceMul, Nat.reduceLT, Nat.reduceLeDiff, Nat.reduceEqDiff, true_and, and_true, true_implies, if_true, if_false, ite_true, reduceIte, ne_eq, not_false_eq_true, reduceCtorEq, forall_const, bne_self_eq_false, Bool.true_eq_false, Bool.false_eq_true, false_implies, and_self, implies_true, Int.toNat_zero, beq_self_eq_true, decide_true, decide_false, Bool.not_true, Bool.not_false, ↓y_lookv, y_key1, y_mlook, y_mlookn, y_mres1, y_mres0, ↓y_call, List.length_map, h0, h1, e0, Int.toNat_natCast, b0, c1, c2, decide_true, decide_false, w1, j0, j1, e1]
    exact fin_int hl (by rw [hs, if_neg (by simp [ht])])

def at0 : At := ⟨0, false⟩
def occN (s : Sys) (g : Gr) (rule : Nat) (k r : Int) : Bool := decide (0 ≤ r ∧ r < s.attrs.length ∧ symN g rule k = (s.attrs.getD r.toNat at0).non)
theorem nth_at (l : List At) (i : Nat) (hi : i < l.length) : nth (l.map atD) i = .agg [.int .i64 (l.getD i at0).non, .bool (l.getD i at0).inh] := by
  simp [nth, List.getD, hi, atD]

theorem pure_occurs (s : Sys) (g : Gr) (rule : Nat) (k r : Int) (hr : rule < g.rules.length) (hx : ∀ r ∈ g.rules, r.right.length < 2 ^ 60) : Pure prog F_attr_System_occurs [sysD s, gramD g, .int .i64 rule, .agg [.int .i64 k, .int .i64 r]] (.bool (occN s g rule k r)) := by
  intro n h
  refine K_attr_System_occurs.calls fun hl => ?_
  have ps := pure_symbol g rule k hr hx
  have hlr := low_rules n g.rules
  have hla := low_ats n s.attrs
  have hle := low_eqs n s.eqs
  unfold C_attr_System_occurs sysD gramD
  unfold gramD at ps
  by_cases c0 : r ≥ 0
  · by_cases c1 : r < (s.attrs.length : Int)
    · obtain ⟨i, rfl⟩ : ∃ i : Nat, r = i := ⟨r.toNat, by omega⟩
      have e0 := nth_at s.attrs i (by omega)
      have i0 : (0 : Int) ≤ (i : Int) := by omega
      simp -implicitDefEqProofs only [↓symPre, symPost, y_condP, y_condG, run, lver, minD, intsD, eqAll, tupD, splice, Nat.zero_add, Nat.add_zero, Nat.zero_mul, Nat.mul_one, Nat.one_mul, Nat.reduceAdd, Nat.reduceSub, Nat.reduceMul, Nat.reduceLT, Nat.reduceLeDiff, Nat.reduceEqDiff, true_and, and_true, true_implies, if_true, if_false, ite_true, reduceIte, ne_eq, not_false_eq_true, reduceCtorEq, forall_const, bne_self_eq_false, Bool.true_eq_false, Bool.false_eq_true, false_implies, and_self, implies_true, Int.toNat_zero, beq_self_eq_true, decide_true, decide_false, Bool.not_true, Bool.not_false, ↓y_lookv, y_key1, y_mlook, y_mlookn, y_mres1, y_mres0, ↓y_call]
      refine adrawq hmix [] ?_
      simp (maxSteps := 400000) -implicitDefEqProofs only [↓symPre, symPost, y_condP, y_condG, run, lver, minD, intsD, eqAll, tupD, splice, Nat.zero_add, Nat.add_zero, Nat.zero_mul, Nat.mul_one, Nat.one_mul, Nat.reduceAdd, Nat.reduceSub, Nat.reduceMul, Nat.reduceLT, Nat.reduceLeDiff, Nat.reduceEqDiff, true_and, and_true, true_implies, if_true, if_false, ite_true, reduceIte, ne_eq, not_false_eq_true, reduceCtorEq, forall_const, bne_self_eq_false, Bool.true_eq_false, Bool.false_eq_true, false_implies, and_self, implies_true, Int.toNat_zero, beq_self_eq_true, decide_true, decide_false, Bool.not_true, Bool.not_false, ↓y_lookv, y_key1, y_mlook, y_mlookn, y_mres1, y_mres0, ↓y_call, ↓y_adq0, ↓y_adq, ↓y_stepQ_call, ↓y_adq_onT, ↓y_adq_onF, ↓y_adq_onS, drawPost, isCall, isNew, isEff, Option.toList, or_false, false_or, cond_true, cond_false, not_true_eq_false, or_true, true_or, Nat.add_left_cancel_iff, Bool.false_eq_true, ↓y_q0, ↓y_q1, ↓y_q1e, y_qn, isMap, List.length_map, c0, c1, decide_true]
      refine ⟨_, _, ps.draw rfl, (by simp [y_cov0, y_cov1, isNew, isEff, Option.toList]), ?_⟩
      simp (maxSteps := 400000) -implicitDefEqProofs only [↓symPre, symPost, y_condP, y_condG, run, lver, minD, intsD, eqAll, tupD, splice, Nat.zero_add, Nat.add_zero, Nat.zero_mul, Nat.mul_one, Nat.one_mul, Nat.reduceAdd, Nat.reduceSub, Nat.reduceMul, Nat.reduceLT, Nat.reduceLeDiff, Nat.reduceEqDiff, true_and, and_true, true_implies, if_true, if_false, ite_true, reduceIte, ne_eq, not_false_eq_true, reduceCtorEq, forall_const, bne_self_eq_false, Bool.true_eq_false, Bool.false_eq_true, false_implies, and_self, implies_true, Int.toNat_zero, beq_self_eq_true, decide_true, decide_false, Bool.not_true, Bool.not_false, ↓y_lookv, y_key1, y_mlook, y_mlookn, y_mres1, y_mres0, ↓y_call, ↓y_adq0, ↓y_adq, ↓y_stepQ_call, ↓y_adq_onT, ↓y_adq_onF, ↓y_adq_onS, drawPost, isCall, isNew, isEff, Option.toList, or_false, false_or, cond_true, cond_false, not_true_eq_false, or_true, true_or, Nat.add_left_cancel_iff, Bool.false_eq_true, ↓y_q0, ↓y_q1, ↓y_q1e, y_qn, isMap, List.length_map, c1, i0, e0, Int.toNat_natCast]
      exact fin_bool hl (by by_cases hxy : symN g rule k = (s.attrs.getD i at0).non <;> simp only [occN, Int.toNat_natCast, hxy, c1, i0, true_and, and_true, and_false, decide_true, decide_false, beq_self_eq_true] <;> simpa using hxy)
    · simp -implicitDefEqProofs only [↓symPre, symPost, y_condP, y_condG, run, lver, minD, intsD, eqAll, tupD, splice, Nat.zero_add, Nat.add_zero, Nat.zero_mul, Nat.mul_one, Nat.one_mul, Nat.reduceAdd, Nat.reduceSub, Nat.reduceMul, Nat.reduceLT, Nat.reduceLeDiff, Nat.reduceEqDiff, true_and, and_true, true_implies, if_true, if_false, ite_true, reduceIte, ne_eq, not_false_eq_true, reduceCtorEq, forall_const, bne_self_eq_false, Bool.true_eq_false, Bool.false_eq_true, false_implies, and_self, implies_true, Int.toNat_zero, beq_self_eq_true, decide_true, decide_false, Bool.not_true, Bool.not_false, ↓y_lookv, y_key1, y_mlook, y_mlookn, y_mres1, y_mres0, ↓y_call]
      refine adrawq hmix [] ?_
      simp (maxSteps := 400000) -implicitDefEqProofs only [↓symPre, symPost, y_condP, y_condG, run, lver, minD, intsD, eqAll, tupD, splice, Nat.zero_add, Nat.add_zero, Nat.zero_mul, Nat.mul_one, Nat.one_mul, Nat.reduceAdd, Nat.reduceSub, Nat.reduceMul, Nat.reduceLT, Nat.reduceLeDiff, Nat.reduceEqDiff, true_and, and_true, true_implies, if_true, if_false, ite_true, reduceIte, ne_eq, not_false_eq_true, reduceCtorEq, forall_const, bne_self_eq_false, Bool.true_eq_false, Bool.false_eq_true, false_implies, and_self, implies_true, Int.toNat_zero, beq_self_eq_true, decide_true, decide_false, Bool.not_true, Bool.not_false, ↓y_lookv, y_key1, y_mlook, y_mlookn, y_mres1, y_mres0, ↓y_call, ↓y_adq0, ↓y_adq, ↓y_stepQ_call, ↓y_adq_onT, ↓y_adq_onF, ↓y_adq_onS, drawPost, isCall, isNew, isEff, Option.toList, or_false, false_or, cond_true, cond_false, not_true_eq_false, or_true, true_or, Nat.add_left_cancel_iff, Bool.false_eq_true, ↓y_q0, ↓y_q1, ↓y_q1e, y_qn, isMap, List.length_map, c0, c1, decide_true, decide_false]
      exact fin_bool hl (by simp [occN, c1])
  · simp -implicitDefEqProofs only [↓symPre, symPost, y_condP, y_condG, run, lver, minD, intsD, eqAll, tupD, splice, Nat.zero_add, Nat.add_zero, Nat.zero_mul, Nat.mul_one, Nat.one_mul, Nat.reduceAdd, Nat.reduceSub, Nat.reduceMul, Nat.reduceLT, Nat.reduceLeDiff, Nat.reduceEqDiff, true_and, and_true, true_implies, if_true, if_false, ite_true, reduceIte, ne_eq, not_false_eq_true, reduceCtorEq, forall_const, bne_self_eq_false, Bool.true_eq_false, Bool.false_eq_true, false_implies, and_self, implies_true, Int.toNat_zero, beq_self_eq_true, decide_true, decide_false, Bool.not_true, Bool.not_false, ↓y_lookv, y_key1, y_mlook, y_mlookn, y_mres1, y_mres0, ↓y_call]
    refine adrawq hmix [] ?_
    simp (maxSteps := 400000) -implicitDefEqProofs only [↓symPre, symPost, y_condP, y_condG, run, lver, minD, intsD, eqAll, tupD, splice, Nat.zero_add, Nat.add_zero, Nat.zero_mul, Nat.mul_one, Nat.one_mul, Nat.reduceAdd, Nat.reduceSub, Nat.reduceMul, Nat.reduceLT, Nat.reduceLeDiff, Nat.reduceEqDiff, true_and, and_true, true_implies, if_true, if_false, ite_true, reduceIte, ne_eq, not_false_eq_true, reduceCtorEq, forall_const, bne_self_eq_false, Bool.true_eq_false, Bool.false_eq_true, false_implies, and_self, implies_true, Int.toNat_zero, beq_self_eq_true, decide_true, decide_false, Bool.not_true, Bool.not_false, ↓y_lookv, y_key1, y_mlook, y_mlookn, y_mres1, y_mres0, ↓y_call, ↓y_adq0, ↓y_adq, ↓y_stepQ_call, ↓y_adq_onT, ↓y_adq_onF, ↓y_adq_onS, drawPost, isCall, isNew, isEff, Option.toList, or_false, false_or, cond_true, cond_false, not_true_eq_false, or_true, true_or, Nat.add_left_cancel_iff, Bool.false_eq_true, ↓y_q0, ↓y_q1, ↓y_q1e, y_qn, isMap, List.length_map, c0, decide_false]
    exact fin_bool hl (by simp [occN]; omega)

end Abs
end Go.Proofs.Ytbdcklchcdkhbaa

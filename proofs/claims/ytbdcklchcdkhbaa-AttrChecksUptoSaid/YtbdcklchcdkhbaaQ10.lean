/- System.expr. Printed by tools/genQ10.py. -/
import Derived.Test.YtbdcklchcdkhbaaQ9
namespace Go.Proofs.Ytbdcklchcdkhbaa
namespace Abs
set_option linter.unusedVariables false
set_option linter.unusedSimpArgs false
set_option linter.unusedSectionVars false
set_option maxRecDepth 20000

section
variable {n : Nat} {sl : List D} {h : Heap} {lc : List Blk}
/-- lookups, before what follows is looked at -/
theorem y_lookupM (dst : Option Nat) (K : D → Chg → Prop) (m : Nat) (z : D) (x i : Opd) :
    run (St.mk n sl h lc) dst K (.lookup m z x i) = match St.val (St.mk n sl h lc) x, keyD (St.val (St.mk n sl h lc) i) with
      | .map b ver, some kk => St.atm (St.mk n sl h lc) b ver fun es => kk.length = m ∧ klen m es = true ∧ match mget es kk with | some d => K (.tup [d, .bool true]) [] | none => K (.tup [z, .bool false]) []
      | .nilmap, some kk => kk.length = m ∧ K (.tup [z, .bool false]) []
      | _, _ => False := by
  simp only [run, mlook]; rfl
theorem y_lookvM (dst : Option Nat) (K : D → Chg → Prop) (m : Nat) (z : D) (x i : Opd) :
    run (St.mk n sl h lc) dst K (.lookv m z x i) = match St.val (St.mk n sl h lc) x, keyD (St.val (St.mk n sl h lc) i) with
      | .map b ver, some kk => St.atm (St.mk n sl h lc) b ver fun es => kk.length = m ∧ klen m es = true ∧ match mget es kk with | some d => K d [] | none => K z []
      | .nilmap, some kk => kk.length = m ∧ K z []
      | _, _ => False := by
  simp only [run, mlook]; rfl
end

def sysC (s : Sys) : List D := [.lst (s.attrs.map atD), .lst (s.eqs.map eqD)]
def gramC (g : Gr) : List D := [.int .i64 g.terms, .int .i64 g.nons, .int .i64 g.start, .lst (g.rules.map ruleD)]

theorem tells_expr (s : Sys) (g : Gr) (rule : Nat) (y : Ex) (b : Bool) (hp : Pure prog F_attr_System_expr [sysD s, gramD g, .int .i64 rule, exD y] (.bool b)) {n : Nat} {h : Heap} {bs bg br vs vg vr : Nat}
    (hbs : bs < n) (hbg : bg < n) (hbr : br < n) (hs : h bs = ⟨vs, .cells (sysC s)⟩) (hg : h bg = ⟨vg, .cells (gramC g)⟩) (hr : h br = ⟨vr, .cells [.int .i64 rule]⟩) :
    Tells n h F_attr_System_expr_1 [.ptr bs vs 0, .ptr bg vg 0, .ptr br vr 0] (exD y) (!b) := by
  intro n' h' hn hh
  have hs1 := (hh bs hbs).trans hs
  have hg1 := (hh bg hbg).trans hg
  have hr1 := (hh br hbr).trans hr
  have lbs : bs < n' := by omega
  have lbg : bg < n' := by omega
  have lbr : br < n' := by omega
  unfold sysC at hs1
  unfold gramC at hg1
  obtain ⟨k, m, a, r, ys, hy⟩ : ∃ k m a r ys, y = Ex.mk k m a r ys := by cases y; exact ⟨_, _, _, _, _, rfl⟩
  have hyD : exD y = .agg [.int .i64 k, .int .i64 m, .int .i64 a, .int .i64 r, .lst (ys.map exD)] := by rw [hy, exD_mk]
  rw [hyD] at hp ⊢
  unfold sysD gramD at hp
  refine K_attr_System_expr_1.calls fun hl => ?_
  unfold C_attr_System_expr_1
  have hlr := low_rules n' g.rules
  have hla := low_ats n' s.attrs
  have hle := low_eqs n' s.eqs
  have hlx := low_exs n' ys
  simp -implicitDefEqProofs only [↓symPre, symPost, y_condP, y_condG, run, lver, minD, intsD, eqAll, tupD, splice, Nat.zero_add, Nat.add_zero, Nat.zero_mul, Nat.mul_one, Nat.one_mul, Nat.reduceAdd, Nat.reduceSub, Nat.reduceMul, Nat.reduceLT, Nat.reduceLeDiff, Nat.reduceEqDiff, true_and, and_true, true_implies, if_true, if_false, ite_true, reduceIte, ne_eq, not_false_eq_true, reduceCtorEq, forall_const, bne_self_eq_false, Bool.true_eq_false, Bool.false_eq_true, false_implies, and_self, implies_true, Int.toNat_zero, beq_self_eq_true, decide_true, decide_false, Bool.not_true, Bool.not_false, ↓y_lookv, y_key1, y_mlook, y_mlookn, y_mres1, y_mres0, ↓y_call, ↓y_at_old lbs, ↓y_at_old lbg, ↓y_at_old lbr, lbs, lbg, lbr, hs1, hg1, hr1]
  refine hp.call rfl ?_
  simp -implicitDefEqProofs only [↓symPre, symPost, y_condP, y_condG, run, lver, minD, intsD, eqAll, tupD, splice, Nat.zero_add, Nat.add_zero, Nat.zero_mul, Nat.mul_one, Nat.one_mul, Nat.reduceAdd, Nat.reduceSub, Nat.reduceMul, Nat.reduceLT, Nat.reduceLeDiff, Nat.reduceEqDiff, true_and, and_true, true_implies, if_true, if_false, ite_true, reduceIte, ne_eq, not_false_eq_true, reduceCtorEq, forall_const, bne_self_eq_false, Bool.true_eq_false, Bool.false_eq_true, false_implies, and_self, implies_true, Int.toNat_zero, beq_self_eq_true, decide_true, decide_false, Bool.not_true, Bool.not_false, ↓y_lookv, y_key1, y_mlook, y_mlookn, y_mres1, y_mres0, ↓y_call]
  exact fin_low hl (.bool _) ⟨rfl, rfl, rfl⟩

/-- the number of arguments by kind -/
def argN (k : Int) (L : Int) : Option Int :=
  if k = 0 ∨ k = 1 then some 0 else if k = 2 ∨ k = 3 then some L else if k = 4 then some (if L > 1 then L else 1) else if k = 5 then some 2 else if k = 6 then some 3 else none
structure Lit (L M : Int) (e1 e2 e3 e4 e5 e6 e7 : List (List Int × D)) : Prop where
  m1 : mput [] [0] (.int .i64 0) = e1
  m2 : mput e1 [1] (.int .i64 0) = e2
  m3 : mput e2 [2] (.int .i64 L) = e3
  m4 : mput e3 [3] (.int .i64 L) = e4
  m5 : mput e4 [4] (.int .i64 M) = e5
  mx : List.foldl (minD true) (.int .i64 1) [.int .i64 L] = .int .i64 M
  m6 : mput e5 [5] (.int .i64 2) = e6
  m7 : mput e6 [6] (.int .i64 3) = e7
  k0 : klen 1 [] = true
  k1 : klen 1 e1 = true
  k2 : klen 1 e2 = true
  k3 : klen 1 e3 = true
  k4 : klen 1 e4 = true
  k5 : klen 1 e5 = true
  k6 : klen 1 e6 = true
  k7 : klen 1 e7 = true
theorem lit_ex (L : Int) : ∃ M e1 e2 e3 e4 e5 e6 e7, Lit L M e1 e2 e3 e4 e5 e6 e7 ∧ ∀ k, mget e7 [k] = (argN k L).map (D.int .i64) := by
  refine ⟨if L > 1 then L else 1, _, _, _, _, _, _, _, ⟨rfl, rfl, rfl, rfl, rfl, rfl, rfl, rfl, rfl, rfl, rfl, rfl, rfl, rfl, rfl, rfl⟩, fun k => ?_⟩
  simp only [mget_mput, List.cons.injEq, and_true]
  unfold argN
  by_cases h6 : k = 6
  · subst h6; rfl
  by_cases h5 : k = 5
  · subst h5; rfl
  by_cases h4 : k = 4
  · subst h4; rfl
  by_cases h3 : k = 3
  · subst h3; rfl
  by_cases h2 : k = 2
  · subst h2; rfl
  by_cases h1 : k = 1
  · subst h1; rfl
  by_cases h0 : k = 0
  · subst h0; rfl
  simp only [h0, h1, h2, h3, h4, h5, h6, if_false, or_self]; rfl

section
variable (s : Sys) (g : Gr) (rule : Nat) (k m a r N M : Int) (xs : List Ex) (B : Ex → Bool) (hx40 : xs.length < 2 ^ 40) {e1 e2 e3 e4 e5 e6 e7 : List (List Int × D)} (hL : Lit (xs.length : Int) M e1 e2 e3 e4 e5 e6 e7)

include hx40 hL in
set_option maxHeartbeats 1000000 in
theorem xa (b0 : mget e7 [k] = none) : Pure prog F_attr_System_expr [sysD s, gramD g, .int .i64 rule, exD (.mk k m a r xs)] (.bool (false)) := by
  intro n h
  rw [exD_mk]
  refine K_attr_System_expr.calls fun hl => ?_
  unfold C_attr_System_expr
  obtain ⟨m1, m2, m3, m4, m5, mx, m6, m7, k0, k1, k2, k3, k4, k5, k6, k7⟩ := hL
  have hl1 : ∀ x : Int, ([x] : List Int).length = 1 := fun _ => rfl
  have hlr := low_rules n g.rules
  have hla := low_ats n s.attrs
  have hle := low_eqs n s.eqs
  have hlx := low_exs n xs
  unfold sysD gramD
  simp -implicitDefEqProofs only [↓symPre, symPost, y_condP, y_condG, run, lver, minD, intsD, eqAll, tupD, splice, Nat.zero_add, Nat.add_zero, Nat.zero_mul, Nat.mul_one, Nat.one_mul, Nat.reduceAdd, Nat.reduceSub, Nat.reduceMul, Nat.reduceLT, Nat.reduceLeDiff, Nat.reduceEqDiff, true_and, and_true, true_implies, if_true, if_false, ite_true, reduceIte, ne_eq, not_false_eq_true, reduceCtorEq, forall_const, bne_self_eq_false, Bool.true_eq_false, Bool.false_eq_true, false_implies, and_self, implies_true, Int.toNat_zero, beq_self_eq_true, decide_true, decide_false, Bool.not_true, Bool.not_false, ↓y_lookv, y_key1, y_mlook, y_mlookn, y_mres1, y_mres0, ↓y_call, ↓y_lookupM, ↓y_atm_loc, List.length_map, m1, m2, m3, m4, m5, mx, m6, m7, k0, k1, k2, k3, k4, k5, k6, k7, hl1, Bool.not_false, b0]
  exact fin_bool hl rfl

include hx40 hL in
set_option maxHeartbeats 1000000 in
theorem xb (b0 : mget e7 [k] = some (.int .i64 N)) (b1 : ((xs.length : Int) != N) = true) : Pure prog F_attr_System_expr [sysD s, gramD g, .int .i64 rule, exD (.mk k m a r xs)] (.bool (false)) := by
  intro n h
  rw [exD_mk]
  refine K_attr_System_expr.calls fun hl => ?_
  unfold C_attr_System_expr
  obtain ⟨m1, m2, m3, m4, m5, mx, m6, m7, k0, k1, k2, k3, k4, k5, k6, k7⟩ := hL
  have hl1 : ∀ x : Int, ([x] : List Int).length = 1 := fun _ => rfl
  have hlr := low_rules n g.rules
  have hla := low_ats n s.attrs
  have hle := low_eqs n s.eqs
  have hlx := low_exs n xs
  unfold sysD gramD
  simp -implicitDefEqProofs only [↓symPre, symPost, y_condP, y_condG, run, lver, minD, intsD, eqAll, tupD, splice, Nat.zero_add, Nat.add_zero, Nat.zero_mul, Nat.mul_one, Nat.one_mul, Nat.reduceAdd, Nat.reduceSub, Nat.reduceMul, Nat.reduceLT, Nat.reduceLeDiff, Nat.reduceEqDiff, true_and, and_true, true_implies, if_true, if_false, ite_true, reduceIte, ne_eq, not_false_eq_true, reduceCtorEq, forall_const, bne_self_eq_false, Bool.true_eq_false, Bool.false_eq_true, false_implies, and_self, implies_true, Int.toNat_zero, beq_self_eq_true, decide_true, decide_false, Bool.not_true, Bool.not_false, ↓y_lookv, y_key1, y_mlook, y_mlookn, y_mres1, y_mres0, ↓y_call, ↓y_lookupM, ↓y_atm_loc, List.length_map, m1, m2, m3, m4, m5, mx, m6, m7, k0, k1, k2, k3, k4, k5, k6, k7, hl1, Bool.not_false, b0, b1]
  exact fin_bool hl rfl

include hx40 hL in
set_option maxHeartbeats 1000000 in
theorem x0r {q : Bool} (b0 : mget e7 [k] = some (.int .i64 (xs.length : Int))) (b1 : ((xs.length : Int) != (xs.length : Int)) = false) (b2 : (k != 0) = false) (b3 : (k != 1) = true) (b4 : (k == 1) = false) (b5 : ((a == 0 && (r == 0 && true)) != true) = q) (b6 : q = true) : Pure prog F_attr_System_expr [sysD s, gramD g, .int .i64 rule, exD (.mk k m a r xs)] (.bool (false)) := by
  intro n h
  rw [exD_mk]
  refine K_attr_System_expr.calls fun hl => ?_
  unfold C_attr_System_expr
  obtain ⟨m1, m2, m3, m4, m5, mx, m6, m7, k0, k1, k2, k3, k4, k5, k6, k7⟩ := hL
  have hl1 : ∀ x : Int, ([x] : List Int).length = 1 := fun _ => rfl
  have hlr := low_rules n g.rules
  have hla := low_ats n s.attrs
  have hle := low_eqs n s.eqs
  have hlx := low_exs n xs
  unfold sysD gramD
  simp (maxSteps := 400000) -implicitDefEqProofs only [↓symPre, symPost, y_condP, y_condG, run, lver, minD, intsD, eqAll, tupD, splice, Nat.zero_add, Nat.add_zero, Nat.zero_mul, Nat.mul_one, Nat.one_mul, Nat.reduceAdd, Nat.reduceSub, Nat.reduceMul, Nat.reduceLT, Nat.reduceLeDiff, Nat.reduceEqDiff, true_and, and_true, true_implies, if_true, if_false, ite_true, reduceIte, ne_eq, not_false_eq_true, reduceCtorEq, forall_const, bne_self_eq_false, Bool.true_eq_false, Bool.false_eq_true, false_implies, and_self, implies_true, Int.toNat_zero, beq_self_eq_true, decide_true, decide_false, Bool.not_true, Bool.not_false, ↓y_lookv, y_key1, y_mlook, y_mlookn, y_mres1, y_mres0, ↓y_call, ↓y_adq0, ↓y_adq, ↓y_stepQ_call, ↓y_adq_onT, ↓y_adq_onF, ↓y_adq_onS, drawPost, isCall, isNew, isEff, Option.toList, or_false, false_or, cond_true, cond_false, not_true_eq_false, or_true, true_or, Nat.add_left_cancel_iff, Bool.false_eq_true, ↓y_q0, ↓y_q1, ↓y_q1e, y_qn, isMap, ↓y_lookupM, ↓y_atm_loc, List.length_map, m1, m2, m3, m4, m5, mx, m6, m7, k0, k1, k2, k3, k4, k5, k6, k7, hl1, Bool.not_false, b0, b1, b2, b3, b4, b5, b6]
  exact fin_bool hl rfl

include hx40 hL in
set_option maxHeartbeats 1000000 in
theorem x0n (b0 : mget e7 [k] = some (.int .i64 (xs.length : Int))) (b1 : ((xs.length : Int) != (xs.length : Int)) = false) (b2 : (k != 0) = false) (b3 : (k != 1) = true) (b4 : (k == 1) = false) (b5 : ((a == 0 && (r == 0 && true)) != true) = false) (b6 : decide (m < 0) = true) : Pure prog F_attr_System_expr [sysD s, gramD g, .int .i64 rule, exD (.mk k m a r xs)] (.bool (false)) := by
  intro n h
  rw [exD_mk]
  refine K_attr_System_expr.calls fun hl => ?_
  unfold C_attr_System_expr
  obtain ⟨m1, m2, m3, m4, m5, mx, m6, m7, k0, k1, k2, k3, k4, k5, k6, k7⟩ := hL
  have hl1 : ∀ x : Int, ([x] : List Int).length = 1 := fun _ => rfl
  have hlr := low_rules n g.rules
  have hla := low_ats n s.attrs
  have hle := low_eqs n s.eqs
  have hlx := low_exs n xs
  unfold sysD gramD
  simp -implicitDefEqProofs only [↓symPre, symPost, y_condP, y_condG, run, lver, minD, intsD, eqAll, tupD, splice, Nat.zero_add, Nat.add_zero, Nat.zero_mul, Nat.mul_one, Nat.one_mul, Nat.reduceAdd, Nat.reduceSub, Nat.reduceMul, Nat.reduceLT, Nat.reduceLeDiff, Nat.reduceEqDiff, true_and, and_true, true_implies, if_true, if_false, ite_true, reduceIte, ne_eq, not_false_eq_true, reduceCtorEq, forall_const, bne_self_eq_false, Bool.true_eq_false, Bool.false_eq_true, false_implies, and_self, implies_true, Int.toNat_zero, beq_self_eq_true, decide_true, decide_false, Bool.not_true, Bool.not_false, ↓y_lookv, y_key1, y_mlook, y_mlookn, y_mres1, y_mres0, ↓y_call, ↓y_lookupM, ↓y_atm_loc, List.length_map, m1, m2, m3, m4, m5, mx, m6, m7, k0, k1, k2, k3, k4, k5, k6, k7, hl1, Bool.not_false, b0, b1, b2, b3, b4, b5, b6]
  exact fin_bool hl rfl

include hx40 hL in
set_option maxHeartbeats 1000000 in
theorem x0g (b0 : mget e7 [k] = some (.int .i64 (xs.length : Int))) (b1 : ((xs.length : Int) != (xs.length : Int)) = false) (b2 : (k != 0) = false) (b3 : (k != 1) = true) (b4 : (k == 1) = false) (b5 : ((a == 0 && (r == 0 && true)) != true) = false) (b6 : decide (m < 0) = false) (b7 : decide (m ≥ 1000003) = true) : Pure prog F_attr_System_expr [sysD s, gramD g, .int .i64 rule, exD (.mk k m a r xs)] (.bool (false)) := by
  intro n h
  rw [exD_mk]
  refine K_attr_System_expr.calls fun hl => ?_
  unfold C_attr_System_expr
  obtain ⟨m1, m2, m3, m4, m5, mx, m6, m7, k0, k1, k2, k3, k4, k5, k6, k7⟩ := hL
  have hl1 : ∀ x : Int, ([x] : List Int).length = 1 := fun _ => rfl
  have hlr := low_rules n g.rules
  have hla := low_ats n s.attrs
  have hle := low_eqs n s.eqs
  have hlx := low_exs n xs
  unfold sysD gramD
  simp -implicitDefEqProofs only [↓symPre, symPost, y_condP, y_condG, run, lver, minD, intsD, eqAll, tupD, splice, Nat.zero_add, Nat.add_zero, Nat.zero_mul, Nat.mul_one, Nat.one_mul, Nat.reduceAdd, Nat.reduceSub, Nat.reduceMul, Nat.reduceLT, Nat.reduceLeDiff, Nat.reduceEqDiff, true_and, and_true, true_implies, if_true, if_false, ite_true, reduceIte, ne_eq, not_false_eq_true, reduceCtorEq, forall_const, bne_self_eq_false, Bool.true_eq_false, Bool.false_eq_true, false_implies, and_self, implies_true, Int.toNat_zero, beq_self_eq_true, decide_true, decide_false, Bool.not_true, Bool.not_false, ↓y_lookv, y_key1, y_mlook, y_mlookn, y_mres1, y_mres0, ↓y_call, ↓y_lookupM, ↓y_atm_loc, List.length_map, m1, m2, m3, m4, m5, mx, m6, m7, k0, k1, k2, k3, k4, k5, k6, k7, hl1, Bool.not_false, b0, b1, b2, b3, b4, b5, b6, b7]
  exact fin_bool hl rfl

include hx40 hL in
set_option maxHeartbeats 1000000 in
theorem x0c (hp : ∀ y ∈ xs, Pure prog F_attr_System_expr [sysD s, gramD g, .int .i64 rule, exD y] (.bool (B y))) (b0 : mget e7 [k] = some (.int .i64 (xs.length : Int))) (b1 : ((xs.length : Int) != (xs.length : Int)) = false) (b2 : (k != 0) = false) (b3 : (k != 1) = true) (b4 : (k == 1) = false) (b5 : ((a == 0 && (r == 0 && true)) != true) = false) (b6 : decide (m < 0) = false) (b7 : decide (m ≥ 1000003) = false) : Pure prog F_attr_System_expr [sysD s, gramD g, .int .i64 rule, exD (.mk k m a r xs)] (.bool (!xs.any fun y => !B y)) := by
  intro n h
  rw [exD_mk]
  refine K_attr_System_expr.calls fun hl => ?_
  unfold C_attr_System_expr
  obtain ⟨m1, m2, m3, m4, m5, mx, m6, m7, k0, k1, k2, k3, k4, k5, k6, k7⟩ := hL
  have hl1 : ∀ x : Int, ([x] : List Int).length = 1 := fun _ => rfl
  have hlr := low_rules n g.rules
  have hla := low_ats n s.attrs
  have hle := low_eqs n s.eqs
  have hlx := low_exs n xs
  unfold sysD gramD
  simp -implicitDefEqProofs only [↓symPre, symPost, y_condP, y_condG, run, lver, minD, intsD, eqAll, tupD, splice, Nat.zero_add, Nat.add_zero, Nat.zero_mul, Nat.mul_one, Nat.one_mul, Nat.reduceAdd, Nat.reduceSub, Nat.reduceMul, Nat.reduceLT, Nat.reduceLeDiff, Nat.reduceEqDiff, true_and, and_true, true_implies, if_true, if_false, ite_true, reduceIte, ne_eq, not_false_eq_true, reduceCtorEq, forall_const, bne_self_eq_false, Bool.true_eq_false, Bool.false_eq_true, false_implies, and_self, implies_true, Int.toNat_zero, beq_self_eq_true, decide_true, decide_false, Bool.not_true, Bool.not_false, ↓y_lookv, y_key1, y_mlook, y_mlookn, y_mres1, y_mres0, ↓y_call, ↓y_lookupM, ↓y_atm_loc, List.length_map, m1, m2, m3, m4, m5, mx, m6, m7, k0, k1, k2, k3, k4, k5, k6, k7, hl1, Bool.not_false, b0, b1, b2, b3, b4, b5, b6, b7]
  refine (at_ContainsEx xs (fun y => !B y) (by omega) F_attr_System_expr_1 [.ptr (n + 4) 1 0, .ptr (n + 5) 1 0, .ptr (n + 6) 1 0] (fun c hc => ?_) fun y hy => tells_expr s g rule y (B y) (hp y hy) (bs := n + 4) (bg := n + 5) (br := n + 6) (by show n + 4 < n + 88; omega) (by show n + 5 < n + 88; omega) (by show n + 6 < n + 88; omega) (by rw [mrg_loc]; rfl) (by rw [mrg_loc]; rfl) (by rw [mrg_loc]; rfl)).mono fun d h' x ⟨hx, hh, hd⟩ => .inl ⟨[], by simp [St.inr], hx, by rw [hh]; rfl, ?_⟩
  · simp only [List.mem_cons, List.not_mem_nil, or_false] at hc
    rcases hc with rfl | rfl | rfl <;> exact .ptr _ _ _ (.inl (by show _ < n + 88; omega))
  subst hd
  simp -implicitDefEqProofs only [↓symPre, symPost, y_condP, y_condG, run, lver, minD, intsD, eqAll, tupD, splice, Nat.zero_add, Nat.add_zero, Nat.zero_mul, Nat.mul_one, Nat.one_mul, Nat.reduceAdd, Nat.reduceSub, Nat.reduceMul, Nat.reduceLT, Nat.reduceLeDiff, Nat.reduceEqDiff, true_and, and_true, true_implies, if_true, if_false, ite_true, reduceIte, ne_eq, not_false_eq_true, reduceCtorEq, forall_const, bne_self_eq_false, Bool.true_eq_false, Bool.false_eq_true, false_implies, and_self, implies_true, Int.toNat_zero, beq_self_eq_true, decide_true, decide_false, Bool.not_true, Bool.not_false, ↓y_lookv, y_key1, y_mlook, y_mlookn, y_mres1, y_mres0, ↓y_call]
  exact fin_bool hl rfl

include hx40 hL in
set_option maxHeartbeats 1000000 in
theorem x1m (b0 : mget e7 [k] = some (.int .i64 (xs.length : Int))) (b1 : ((xs.length : Int) != (xs.length : Int)) = false) (b2 : (k != 0) = true) (b3 : (k != 1) = false) (b4 : (k == 1) = true) (b5 : (m != 0) = true) : Pure prog F_attr_System_expr [sysD s, gramD g, .int .i64 rule, exD (.mk k m a r xs)] (.bool (false)) := by
  intro n h
  rw [exD_mk]
  refine K_attr_System_expr.calls fun hl => ?_
  unfold C_attr_System_expr
  obtain ⟨m1, m2, m3, m4, m5, mx, m6, m7, k0, k1, k2, k3, k4, k5, k6, k7⟩ := hL
  have hl1 : ∀ x : Int, ([x] : List Int).length = 1 := fun _ => rfl
  have hlr := low_rules n g.rules
  have hla := low_ats n s.attrs
  have hle := low_eqs n s.eqs
  have hlx := low_exs n xs
  unfold sysD gramD
  simp -implicitDefEqProofs only [↓symPre, symPost, y_condP, y_condG, run, lver, minD, intsD, eqAll, tupD, splice, Nat.zero_add, Nat.add_zero, Nat.zero_mul, Nat.mul_one, Nat.one_mul, Nat.reduceAdd, Nat.reduceSub, Nat.reduceMul, Nat.reduceLT, Nat.reduceLeDiff, Nat.reduceEqDiff, true_and, and_true, true_implies, if_true, if_false, ite_true, reduceIte, ne_eq, not_false_eq_true, reduceCtorEq, forall_const, bne_self_eq_false, Bool.true_eq_false, Bool.false_eq_true, false_implies, and_self, implies_true, Int.toNat_zero, beq_self_eq_true, decide_true, decide_false, Bool.not_true, Bool.not_false, ↓y_lookv, y_key1, y_mlook, y_mlookn, y_mres1, y_mres0, ↓y_call, ↓y_lookupM, ↓y_atm_loc, List.length_map, m1, m2, m3, m4, m5, mx, m6, m7, k0, k1, k2, k3, k4, k5, k6, k7, hl1, Bool.not_false, b0, b1, b2, b3, b4, b5]
  exact fin_bool hl rfl

include hx40 hL in
set_option maxHeartbeats 1000000 in
theorem x1o (hr : rule < g.rules.length) (hx : ∀ r ∈ g.rules, r.right.length < 2 ^ 60) (b0 : mget e7 [k] = some (.int .i64 (xs.length : Int))) (b1 : ((xs.length : Int) != (xs.length : Int)) = false) (b2 : (k != 0) = true) (b3 : (k != 1) = false) (b4 : (k == 1) = true) (b5 : (m != 0) = false) (b6 : decide (m < 0) = false) (b7 : decide (m ≥ 1000003) = false) (b8 : occN s g rule a r = false) : Pure prog F_attr_System_expr [sysD s, gramD g, .int .i64 rule, exD (.mk k m a r xs)] (.bool (false)) := by
  intro n h
  rw [exD_mk]
  refine K_attr_System_expr.calls fun hl => ?_
  unfold C_attr_System_expr
  obtain ⟨m1, m2, m3, m4, m5, mx, m6, m7, k0, k1, k2, k3, k4, k5, k6, k7⟩ := hL
  have hl1 : ∀ x : Int, ([x] : List Int).length = 1 := fun _ => rfl
  have ps := pure_occurs s g rule a r hr hx
  have hlr := low_rules n g.rules
  have hla := low_ats n s.attrs
  have hle := low_eqs n s.eqs
  have hlx := low_exs n xs
  unfold sysD gramD at *
  simp -implicitDefEqProofs only [↓symPre, symPost, y_condP, y_condG, run, lver, minD, intsD, eqAll, tupD, splice, Nat.zero_add, Nat.add_zero, Nat.zero_mul, Nat.mul_one, Nat.one_mul, Nat.reduceAdd, Nat.reduceSub, Nat.reduceMul, Nat.reduceLT, Nat.reduceLeDiff, Nat.reduceEqDiff, true_and, and_true, true_implies, if_true, if_false, ite_true, reduceIte, ne_eq, not_false_eq_true, reduceCtorEq, forall_const, bne_self_eq_false, Bool.true_eq_false, Bool.false_eq_true, false_implies, and_self, implies_true, Int.toNat_zero, beq_self_eq_true, decide_true, decide_false, Bool.not_true, Bool.not_false, ↓y_lookv, y_key1, y_mlook, y_mlookn, y_mres1, y_mres0, ↓y_call, ↓y_lookupM, ↓y_atm_loc, List.length_map, m1, m2, m3, m4, m5, mx, m6, m7, k0, k1, k2, k3, k4, k5, k6, k7, hl1, Bool.not_false, b0, b1, b2, b3, b4, b5, b6, b7, b8]
  refine ps.call rfl ?_
  simp -implicitDefEqProofs only [↓symPre, symPost, y_condP, y_condG, run, lver, minD, intsD, eqAll, tupD, splice, Nat.zero_add, Nat.add_zero, Nat.zero_mul, Nat.mul_one, Nat.one_mul, Nat.reduceAdd, Nat.reduceSub, Nat.reduceMul, Nat.reduceLT, Nat.reduceLeDiff, Nat.reduceEqDiff, true_and, and_true, true_implies, if_true, if_false, ite_true, reduceIte, ne_eq, not_false_eq_true, reduceCtorEq, forall_const, bne_self_eq_false, Bool.true_eq_false, Bool.false_eq_true, false_implies, and_self, implies_true, Int.toNat_zero, beq_self_eq_true, decide_true, decide_false, Bool.not_true, Bool.not_false, ↓y_lookv, y_key1, y_mlook, y_mlookn, y_mres1, y_mres0, ↓y_call, b0, b1, b2, b3, b4, b5, b6, b7, b8]
  exact fin_bool hl rfl

include hx40 hL in
set_option maxHeartbeats 1000000 in
theorem x1c (hr : rule < g.rules.length) (hx : ∀ r ∈ g.rules, r.right.length < 2 ^ 60) (hp : ∀ y ∈ xs, Pure prog F_attr_System_expr [sysD s, gramD g, .int .i64 rule, exD y] (.bool (B y))) (b0 : mget e7 [k] = some (.int .i64 (xs.length : Int))) (b1 : ((xs.length : Int) != (xs.length : Int)) = false) (b2 : (k != 0) = true) (b3 : (k != 1) = false) (b4 : (k == 1) = true) (b5 : (m != 0) = false) (b6 : decide (m < 0) = false) (b7 : decide (m ≥ 1000003) = false) (b8 : occN s g rule a r = true) : Pure prog F_attr_System_expr [sysD s, gramD g, .int .i64 rule, exD (.mk k m a r xs)] (.bool (!xs.any fun y => !B y)) := by
  intro n h
  rw [exD_mk]
  refine K_attr_System_expr.calls fun hl => ?_
  unfold C_attr_System_expr
  obtain ⟨m1, m2, m3, m4, m5, mx, m6, m7, k0, k1, k2, k3, k4, k5, k6, k7⟩ := hL
  have hl1 : ∀ x : Int, ([x] : List Int).length = 1 := fun _ => rfl
  have ps := pure_occurs s g rule a r hr hx
  have hlr := low_rules n g.rules
  have hla := low_ats n s.attrs
  have hle := low_eqs n s.eqs
  have hlx := low_exs n xs
  unfold sysD gramD at *
  simp -implicitDefEqProofs only [↓symPre, symPost, y_condP, y_condG, run, lver, minD, intsD, eqAll, tupD, splice, Nat.zero_add, Nat.add_zero, Nat.zero_mul, Nat.mul_one, Nat.one_mul, Nat.reduceAdd, Nat.reduceSub, Nat.reduceMul, Nat.reduceLT, Nat.reduceLeDiff, Nat.reduceEqDiff, true_and, and_true, true_implies, if_true, if_false, ite_true, reduceIte, ne_eq, not_false_eq_true, reduceCtorEq, forall_const, bne_self_eq_false, Bool.true_eq_false, Bool.false_eq_true, false_implies, and_self, implies_true, Int.toNat_zero, beq_self_eq_true, decide_true, decide_false, Bool.not_true, Bool.not_false, ↓y_lookv, y_key1, y_mlook, y_mlookn, y_mres1, y_mres0, ↓y_call, ↓y_lookupM, ↓y_atm_loc, List.length_map, m1, m2, m3, m4, m5, mx, m6, m7, k0, k1, k2, k3, k4, k5, k6, k7, hl1, Bool.not_false, b0, b1, b2, b3, b4, b5, b6, b7, b8]
  refine ps.call rfl ?_
  simp -implicitDefEqProofs only [↓symPre, symPost, y_condP, y_condG, run, lver, minD, intsD, eqAll, tupD, splice, Nat.zero_add, Nat.add_zero, Nat.zero_mul, Nat.mul_one, Nat.one_mul, Nat.reduceAdd, Nat.reduceSub, Nat.reduceMul, Nat.reduceLT, Nat.reduceLeDiff, Nat.reduceEqDiff, true_and, and_true, true_implies, if_true, if_false, ite_true, reduceIte, ne_eq, not_false_eq_true, reduceCtorEq, forall_const, bne_self_eq_false, Bool.true_eq_false, Bool.false_eq_true, false_implies, and_self, implies_true, Int.toNat_zero, beq_self_eq_true, decide_true, decide_false, Bool.not_true, Bool.not_false, ↓y_lookv, y_key1, y_mlook, y_mlookn, y_mres1, y_mres0, ↓y_call, b0, b1, b2, b3, b4, b5, b6, b7, b8]
  refine (at_ContainsEx xs (fun y => !B y) (by omega) F_attr_System_expr_1 [.ptr (n + 4) 1 0, .ptr (n + 5) 1 0, .ptr (n + 6) 1 0] (fun c hc => ?_) fun y hy => tells_expr s g rule y (B y) (hp y hy) (bs := n + 4) (bg := n + 5) (br := n + 6) (by show n + 4 < n + 88; omega) (by show n + 5 < n + 88; omega) (by show n + 6 < n + 88; omega) (by rw [mrg_loc]; rfl) (by rw [mrg_loc]; rfl) (by rw [mrg_loc]; rfl)).mono fun d h' x ⟨hx, hh, hd⟩ => .inl ⟨[], by simp [St.inr], hx, by rw [hh]; rfl, ?_⟩
  · simp only [List.mem_cons, List.not_mem_nil, or_false] at hc
    rcases hc with rfl | rfl | rfl <;> exact .ptr _ _ _ (.inl (by show _ < n + 88; omega))
  subst hd
  simp -implicitDefEqProofs only [↓symPre, symPost, y_condP, y_condG, run, lver, minD, intsD, eqAll, tupD, splice, Nat.zero_add, Nat.add_zero, Nat.zero_mul, Nat.mul_one, Nat.one_mul, Nat.reduceAdd, Nat.reduceSub, Nat.reduceMul, Nat.reduceLT, Nat.reduceLeDiff, Nat.reduceEqDiff, true_and, and_true, true_implies, if_true, if_false, ite_true, reduceIte, ne_eq, not_false_eq_true, reduceCtorEq, forall_const, bne_self_eq_false, Bool.true_eq_false, Bool.false_eq_true, false_implies, and_self, implies_true, Int.toNat_zero, beq_self_eq_true, decide_true, decide_false, Bool.not_true, Bool.not_false, ↓y_lookv, y_key1, y_mlook, y_mlookn, y_mres1, y_mres0, ↓y_call]
  exact fin_bool hl rfl

include hx40 hL in
set_option maxHeartbeats 1000000 in
theorem x2m (b0 : mget e7 [k] = some (.int .i64 (xs.length : Int))) (b1 : ((xs.length : Int) != (xs.length : Int)) = false) (b2 : (k != 0) = true) (b3 : (k != 1) = true) (b4 : (k == 1) = false) (b5 : (m != 0) = true) : Pure prog F_attr_System_expr [sysD s, gramD g, .int .i64 rule, exD (.mk k m a r xs)] (.bool (false)) := by
  intro n h
  rw [exD_mk]
  refine K_attr_System_expr.calls fun hl => ?_
  unfold C_attr_System_expr
  obtain ⟨m1, m2, m3, m4, m5, mx, m6, m7, k0, k1, k2, k3, k4, k5, k6, k7⟩ := hL
  have hl1 : ∀ x : Int, ([x] : List Int).length = 1 := fun _ => rfl
  have hlr := low_rules n g.rules
  have hla := low_ats n s.attrs
  have hle := low_eqs n s.eqs
  have hlx := low_exs n xs
  unfold sysD gramD
  simp -implicitDefEqProofs only [↓symPre, symPost, y_condP, y_condG, run, lver, minD, intsD, eqAll, tupD, splice, Nat.zero_add, Nat.add_zero, Nat.zero_mul, Nat.mul_one, Nat.one_mul, Nat.reduceAdd, Nat.reduceSub, Nat.reduceMul, Nat.reduceLT, Nat.reduceLeDiff, Nat.reduceEqDiff, true_and, and_true, true_implies, if_true, if_false, ite_true, reduceIte, ne_eq, not_false_eq_true, reduceCtorEq, forall_const, bne_self_eq_false, Bool.true_eq_false, Bool.false_eq_true, false_implies, and_self, implies_true, Int.toNat_zero, beq_self_eq_true, decide_true, decide_false, Bool.not_true, Bool.not_false, ↓y_lookv, y_key1, y_mlook, y_mlookn, y_mres1, y_mres0, ↓y_call, ↓y_lookupM, ↓y_atm_loc, List.length_map, m1, m2, m3, m4, m5, mx, m6, m7, k0, k1, k2, k3, k4, k5, k6, k7, hl1, Bool.not_false, b0, b1, b2, b3, b4, b5]
  exact fin_bool hl rfl

include hx40 hL in
set_option maxHeartbeats 1000000 in
theorem x2r {q : Bool} (b0 : mget e7 [k] = some (.int .i64 (xs.length : Int))) (b1 : ((xs.length : Int) != (xs.length : Int)) = false) (b2 : (k != 0) = true) (b3 : (k != 1) = true) (b4 : (k == 1) = false) (b5 : (m != 0) = false) (b6 : ((a == 0 && (r == 0 && true)) != true) = q) (b7 : q = true) : Pure prog F_attr_System_expr [sysD s, gramD g, .int .i64 rule, exD (.mk k m a r xs)] (.bool (false)) := by
  intro n h
  rw [exD_mk]
  refine K_attr_System_expr.calls fun hl => ?_
  unfold C_attr_System_expr
  obtain ⟨m1, m2, m3, m4, m5, mx, m6, m7, k0, k1, k2, k3, k4, k5, k6, k7⟩ := hL
  have hl1 : ∀ x : Int, ([x] : List Int).length = 1 := fun _ => rfl
  have hlr := low_rules n g.rules
  have hla := low_ats n s.attrs
  have hle := low_eqs n s.eqs
  have hlx := low_exs n xs
  unfold sysD gramD
  simp (maxSteps := 400000) -implicitDefEqProofs only [↓symPre, symPost, y_condP, y_condG, run, lver, minD, intsD, eqAll, tupD, splice, Nat.zero_add, Nat.add_zero, Nat.zero_mul, Nat.mul_one, Nat.one_mul, Nat.reduceAdd, Nat.reduceSub, Nat.reduceMul, Nat.reduceLT, Nat.reduceLeDiff, Nat.reduceEqDiff, true_and, and_true, true_implies, if_true, if_false, ite_true, reduceIte, ne_eq, not_false_eq_true, reduceCtorEq, forall_const, bne_self_eq_false, Bool.true_eq_false, Bool.false_eq_true, false_implies, and_self, implies_true, Int.toNat_zero, beq_self_eq_true, decide_true, decide_false, Bool.not_true, Bool.not_false, ↓y_lookv, y_key1, y_mlook, y_mlookn, y_mres1, y_mres0, ↓y_call, ↓y_adq0, ↓y_adq, ↓y_stepQ_call, ↓y_adq_onT, ↓y_adq_onF, ↓y_adq_onS, drawPost, isCall, isNew, isEff, Option.toList, or_false, false_or, cond_true, cond_false, not_true_eq_false, or_true, true_or, Nat.add_left_cancel_iff, Bool.false_eq_true, ↓y_q0, ↓y_q1, ↓y_q1e, y_qn, isMap, ↓y_lookupM, ↓y_atm_loc, List.length_map, m1, m2, m3, m4, m5, mx, m6, m7, k0, k1, k2, k3, k4, k5, k6, k7, hl1, Bool.not_false, b0, b1, b2, b3, b4, b5, b6, b7]
  exact fin_bool hl rfl

include hx40 hL in
set_option maxHeartbeats 1000000 in
theorem x2c (hp : ∀ y ∈ xs, Pure prog F_attr_System_expr [sysD s, gramD g, .int .i64 rule, exD y] (.bool (B y))) (b0 : mget e7 [k] = some (.int .i64 (xs.length : Int))) (b1 : ((xs.length : Int) != (xs.length : Int)) = false) (b2 : (k != 0) = true) (b3 : (k != 1) = true) (b4 : (k == 1) = false) (b5 : (m != 0) = false) (b6 : ((a == 0 && (r == 0 && true)) != true) = false) (b7 : decide (m < 0) = false) (b8 : decide (m ≥ 1000003) = false) : Pure prog F_attr_System_expr [sysD s, gramD g, .int .i64 rule, exD (.mk k m a r xs)] (.bool (!xs.any fun y => !B y)) := by
  intro n h
  rw [exD_mk]
  refine K_attr_System_expr.calls fun hl => ?_
  unfold C_attr_System_expr
  obtain ⟨m1, m2, m3, m4, m5, mx, m6, m7, k0, k1, k2, k3, k4, k5, k6, k7⟩ := hL
  have hl1 : ∀ x : Int, ([x] : List Int).length = 1 := fun _ => rfl
  have hlr := low_rules n g.rules
  have hla := low_ats n s.attrs
  have hle := low_eqs n s.eqs
  have hlx := low_exs n xs
  unfold sysD gramD
  simp -implicitDefEqProofs only [↓symPre, symPost, y_condP, y_condG, run, lver, minD, intsD, eqAll, tupD, splice, Nat.zero_add, Nat.add_zero, Nat.zero_mul, Nat.mul_one, Nat.one_mul, Nat.reduceAdd, Nat.reduceSub, Nat.reduceMul, Nat.reduceLT, Nat.reduceLeDiff, Nat.reduceEqDiff, true_and, and_true, true_implies, if_true, if_false, ite_true, reduceIte, ne_eq, not_false_eq_true, reduceCtorEq, forall_const, bne_self_eq_false, Bool.true_eq_false, Bool.false_eq_true, false_implies, and_self, implies_true, Int.toNat_zero, beq_self_eq_true, decide_true, decide_false, Bool.not_true, Bool.not_false, ↓y_lookv, y_key1, y_mlook, y_mlookn, y_mres1, y_mres0, ↓y_call, ↓y_lookupM, ↓y_atm_loc, List.length_map, m1, m2, m3, m4, m5, mx, m6, m7, k0, k1, k2, k3, k4, k5, k6, k7, hl1, Bool.not_false, b0, b1, b2, b3, b4, b5, b6, b7, b8]
  refine (at_ContainsEx xs (fun y => !B y) (by omega) F_attr_System_expr_1 [.ptr (n + 4) 1 0, .ptr (n + 5) 1 0, .ptr (n + 6) 1 0] (fun c hc => ?_) fun y hy => tells_expr s g rule y (B y) (hp y hy) (bs := n + 4) (bg := n + 5) (br := n + 6) (by show n + 4 < n + 88; omega) (by show n + 5 < n + 88; omega) (by show n + 6 < n + 88; omega) (by rw [mrg_loc]; rfl) (by rw [mrg_loc]; rfl) (by rw [mrg_loc]; rfl)).mono fun d h' x ⟨hx, hh, hd⟩ => .inl ⟨[], by simp [St.inr], hx, by rw [hh]; rfl, ?_⟩
  · simp only [List.mem_cons, List.not_mem_nil, or_false] at hc
    rcases hc with rfl | rfl | rfl <;> exact .ptr _ _ _ (.inl (by show _ < n + 88; omega))
  subst hd
  simp -implicitDefEqProofs only [↓symPre, symPost, y_condP, y_condG, run, lver, minD, intsD, eqAll, tupD, splice, Nat.zero_add, Nat.add_zero, Nat.zero_mul, Nat.mul_one, Nat.one_mul, Nat.reduceAdd, Nat.reduceSub, Nat.reduceMul, Nat.reduceLT, Nat.reduceLeDiff, Nat.reduceEqDiff, true_and, and_true, true_implies, if_true, if_false, ite_true, reduceIte, ne_eq, not_false_eq_true, reduceCtorEq, forall_const, bne_self_eq_false, Bool.true_eq_false, Bool.false_eq_true, false_implies, and_self, implies_true, Int.toNat_zero, beq_self_eq_true, decide_true, decide_false, Bool.not_true, Bool.not_false, ↓y_lookv, y_key1, y_mlook, y_mlookn, y_mres1, y_mres0, ↓y_call]
  exact fin_bool hl rfl
end

theorem pure_expr (s : Sys) (g : Gr) (rule : Nat) (hr : rule < g.rules.length) (hx : ∀ r ∈ g.rules, r.right.length < 2 ^ 40) : ∀ x : Ex, sz x < 2 ^ 40 → Pure prog F_attr_System_expr [sysD s, gramD g, .int .i64 rule, exD x] (.bool ((exL x).all (wfN s g rule)))
  | .mk k m a r xs, hsz => by
    have hx60 : ∀ r ∈ g.rules, r.right.length < 2 ^ 60 := fun r h => Nat.lt_trans (hx r h) (by decide)
    have hszm := sz_mk k m a r xs
    have hkl := len_le_sz xs
    have hx40 : xs.length < 2 ^ 40 := by omega
    have hrec : ∀ y ∈ xs, Pure prog F_attr_System_expr [sysD s, gramD g, .int .i64 rule, exD y] (.bool ((exL y).all (wfN s g rule))) := fun y hy => pure_expr s g rule hr hx y (by have := sz_mem hy; omega)
    obtain ⟨M, e1, e2, e3, e4, e5, e6, e7, hL, hg⟩ := lit_ex (xs.length : Int)
    have hgk := hg k
    have hall : (exL (.mk k m a r xs)).all (wfN s g rule) = (wfN s g rule (.mk k m a r xs) && !xs.any fun y => !((exL y).all (wfN s g rule))) := by
      rw [exL_mk, List.all_cons, List.all_flatten, List.all_map, List.not_any_eq_all_not]
      simp only [Function.comp_def, Bool.not_not]
    rw [hall]
    have done0 : wfN s g rule (.mk k m a r xs) = false → ∀ {c : Bool}, c = false → Pure prog F_attr_System_expr [sysD s, gramD g, .int .i64 rule, exD (.mk k m a r xs)] (.bool c) → Pure prog F_attr_System_expr [sysD s, gramD g, .int .i64 rule, exD (.mk k m a r xs)] (.bool (wfN s g rule (.mk k m a r xs) && !xs.any fun y => !((exL y).all (wfN s g rule)))) := fun e c hc hp => by
      rw [e, Bool.false_and]; rw [hc] at hp; exact hp
    have done1 : wfN s g rule (.mk k m a r xs) = true → Pure prog F_attr_System_expr [sysD s, gramD g, .int .i64 rule, exD (.mk k m a r xs)] (.bool (!xs.any fun y => !((exL y).all (wfN s g rule)))) → Pure prog F_attr_System_expr [sysD s, gramD g, .int .i64 rule, exD (.mk k m a r xs)] (.bool (wfN s g rule (.mk k m a r xs) && !xs.any fun y => !((exL y).all (wfN s g rule)))) := fun e hp => by
      rw [e, Bool.true_and]; exact hp
    have hLL : ((xs.length : Int) != (xs.length : Int)) = false := by simp
    cases ha : argN k (xs.length : Int) with
    | none =>
      rw [ha] at hgk
      have hk : ¬ (k = 0 ∨ k = 1 ∨ k = 2 ∨ k = 3 ∨ k = 4 ∨ k = 5 ∨ k = 6) := by
        intro h
        rcases h with rfl | rfl | rfl | rfl | rfl | rfl | rfl <;> simp [argN] at ha
      refine done0 ?_ rfl (xa s g rule k m a r M xs hx40 hL hgk)
      have k0 : ¬ k = 0 := by omega
      have k1 : ¬ k = 1 := by omega
      simp only [wfN, if_neg k0, if_neg k1, Bool.and_eq_false_iff]
      exact .inl (decide_eq_false (by omega))
    | some N =>
      rw [ha] at hgk
      by_cases hN : (xs.length : Int) = N
      · subst hN
        have hkind : (k = 0 ∨ k = 1) ∧ xs.length = 0 ∨ (k = 2 ∨ k = 3 ∨ k = 4 ∧ 0 < xs.length ∨ k = 5 ∧ xs.length = 2 ∨ k = 6 ∧ xs.length = 3) := by
          unfold argN at ha
          split at ha
          · simp at ha; omega
          split at ha
          · omega
          split at ha
          · simp only [Option.some.injEq] at ha; split at ha <;> omega
          split at ha
          · simp at ha; omega
          split at ha
          · simp at ha; omega
          · cases ha
        have refT : ∀ {c : Bool}, (a == 0 && r == 0) = c → ((a == 0 && (r == 0 && true)) != true) = !c := fun e => by rw [Bool.and_true, e]; rename_i c; cases c <;> rfl
        by_cases k0 : k = 0
        · subst k0
          have hx0 : xs.length = 0 := by omega
          cases href : (a == 0 && r == 0) with
          | false =>
            exact done0 (by simp only [wfN, if_true, href, Bool.and_false]) rfl (x0r s g rule 0 m a r M xs hx40 hL hgk hLL rfl rfl rfl (refT href) rfl)
          | true =>
            by_cases c1 : m < 0
            · exact done0 (by simp only [wfN, if_true]; rw [decide_eq_false (by omega)]; rfl) rfl (x0n s g rule 0 m a r M xs hx40 hL hgk hLL rfl rfl rfl (refT href) (decide_eq_true c1))
            by_cases c2 : m ≥ 1000003
            · exact done0 (by simp only [wfN, if_true]; rw [decide_eq_false (by omega)]; rfl) rfl (x0g s g rule 0 m a r M xs hx40 hL hgk hLL rfl rfl rfl (refT href) (decide_eq_false c1) (decide_eq_true c2))
            exact done1 (by simp only [wfN, if_true, href]; rw [decide_eq_true (by omega)]; rfl) (x0c s g rule 0 m a r M xs (fun y => (exL y).all (wfN s g rule)) hx40 hL hrec hgk hLL rfl rfl rfl (refT href) (decide_eq_false c1) (decide_eq_false c2))
        have b0 : (k != 0) = true := by simpa using k0
        by_cases k1 : k = 1
        · subst k1
          have hx0 : xs.length = 0 := by omega
          by_cases c1 : m = 0
          · subst c1
            cases ho : occN s g rule a r with
            | false => exact done0 (by simp only [wfN]; simp [ho]) rfl (x1o s g rule 1 0 a r M xs hx40 hL hr hx60 hgk hLL rfl rfl rfl rfl rfl rfl ho)
            | true => exact done1 (by simp only [wfN]; simp [ho, hx0]) (x1c s g rule 1 0 a r M xs (fun y => (exL y).all (wfN s g rule)) hx40 hL hr hx60 hrec hgk hLL rfl rfl rfl rfl rfl rfl ho)
          · exact done0 (by simp only [wfN]; simp [c1]) rfl (x1m s g rule 1 m a r M xs hx40 hL hgk hLL rfl rfl rfl (by simpa using c1))
        have b1 : (k != 1) = true := by simpa using k1
        have b1' : (k == 1) = false := by simpa using k1
        have hw : wfN s g rule (.mk k m a r xs) = (decide (m = 0) && (a == 0 && r == 0)) := by
          simp only [wfN, if_neg k0, if_neg k1]
          congr 1
          rw [decide_eq_decide]
          constructor
          · exact fun h => h.2
          · exact fun h => ⟨by omega, h⟩
        by_cases c1 : m = 0
        · subst c1
          cases href : (a == 0 && r == 0) with
          | false => exact done0 (by rw [hw, href]; rfl) rfl (x2r s g rule k 0 a r M xs hx40 hL hgk hLL b0 b1 b1' rfl (refT href) rfl)
          | true => exact done1 (by rw [hw, href]; rfl) (x2c s g rule k 0 a r M xs (fun y => (exL y).all (wfN s g rule)) hx40 hL hrec hgk hLL b0 b1 b1' rfl (refT href) rfl rfl)
        · exact done0 (by rw [hw, decide_eq_false c1]; rfl) rfl (x2m s g rule k m a r M xs hx40 hL hgk hLL b0 b1 b1' (by simpa using c1))
      · refine done0 ?_ rfl (xb s g rule k m a r N M xs hx40 hL hgk (by simpa using hN))
        have hk : ¬ (k = 0 ∧ xs.length = 0 ∨ k = 1 ∧ xs.length = 0 ∨ k = 2 ∨ k = 3 ∨ k = 4 ∧ 0 < xs.length ∨ k = 5 ∧ xs.length = 2 ∨ k = 6 ∧ xs.length = 3) := by
          intro h
          unfold argN at ha
          rcases h with ⟨rfl, h⟩ | ⟨rfl, h⟩ | rfl | rfl | ⟨rfl, h⟩ | ⟨rfl, h⟩ | ⟨rfl, h⟩
          · simp at ha; omega
          · simp at ha; omega
          · simp at ha; omega
          · simp at ha; omega
          · simp at ha; split at ha <;> omega
          · simp at ha; omega
          · simp at ha; omega
        by_cases k0 : k = 0
        · subst k0
          simp only [wfN, if_true]; rw [decide_eq_false (by omega)]; rfl
        by_cases k1 : k = 1
        · subst k1
          have : ¬ (1 : Int) = 0 := by decide
          simp only [wfN, if_true, if_neg this]; rw [decide_eq_false (by omega)]; rfl
        simp only [wfN, if_neg k0, if_neg k1]; rw [decide_eq_false (by omega)]; rfl

end Abs
end Go.Proofs.Ytbdcklchcdkhbaa

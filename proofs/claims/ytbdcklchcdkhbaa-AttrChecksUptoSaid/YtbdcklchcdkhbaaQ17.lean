/- sameExpr of equal expressions; Find; list and leaves. -/
import Derived.Test.YtbdcklchcdkhbaaQ13
namespace Go.Proofs.Ytbdcklchcdkhbaa
namespace Abs
set_option linter.unusedVariables false
set_option linter.unusedSimpArgs false
set_option maxRecDepth 20000

section
variable {n : Nat} {sl : List D} {h : Heap} {lc : List Blk}
/-- two pairs compared, the outcome as it is -/
theorem y_eqsF (dst : Option Nat) (K : D → Chg → Prop) (ks : List Nat) (x y : Opd) :
    run (St.mk n sl h lc) dst K (.eqs false ks x y) = match St.val (St.mk n sl h lc) x, St.val (St.mk n sl h lc) y with
      | .agg xs, .agg ys => eqAll ks xs ys fun b => K (.bool b) []
      | _, _ => False := by
  simp only [run, Bool.bne_false]; rfl
theorem y_eqAllT {a r a' r' : Int} {K : Bool → Prop} (h1 : (a == a') = true) (h2 : (r == r') = true) : eqAll [0, 0] [.int .i64 a, .int .i64 r] [.int .i64 a', .int .i64 r'] K = K true := by
  have e1 : a = a' := by simpa using h1
  have e2 : r = r' := by simpa using h2
  subst e1; subst e2
  simp [eqAll]
theorem y_eqAllF {a r a' r' : Int} {K : Bool → Prop} (h : (a == a' && r == r') = false) : eqAll [0, 0] [.int .i64 a, .int .i64 r] [.int .i64 a', .int .i64 r'] K = K false := by
  simp [eqAll, h]
end

/-! ### equal expressions are the same -/
theorem pure_EqualEx (xs : List Ex) (hlen : xs.length < 2 ^ 60) (hp : ∀ y ∈ xs, Pure prog F_parllaw4_sameExpr [exD y, exD y] (.bool true)) : Pure prog F_slices_EqualFunc_attr_Expr_attr_Expr_attr_Expr_attr_Expr [.lst (xs.map exD), .lst (xs.map exD), .fn F_parllaw4_sameExpr []] (.bool true) := by
  intro n h
  refine K_slices_EqualFunc_attr_Expr_attr_Expr_attr_Expr_attr_Expr.calls fun hl => ?_
  unfold C_slices_EqualFunc_attr_Expr_attr_Expr_attr_Expr_attr_Expr
  have hlx := low_exs n xs
  simp -implicitDefEqProofs only [↓symPre, symPost, y_condP, y_condG, run, lver, minD, intsD, eqAll, tupD, splice, Nat.zero_add, Nat.add_zero, Nat.zero_mul, Nat.mul_one, Nat.one_mul, Nat.reduceAdd, Nat.reduceSub, Nat.reduceMul, Nat.reduceLT, Nat.reduceLeDiff, Nat.reduceEqDiff, true_and, and_true, true_implies, if_true, if_false, ite_true, reduceIte, ne_eq, not_false_eq_true, reduceCtorEq, forall_const, bne_self_eq_false, Bool.true_eq_false, Bool.false_eq_true, false_implies, and_self, implies_true, Int.toNat_zero, beq_self_eq_true, decide_true, decide_false, Bool.not_true, Bool.not_false, ↓y_lookv, y_key1, y_mlook, y_mlookn, y_mres1, y_mres0, ↓y_call, List.length_map]
  refine aloop (fun i : Nat => St.mk n ([.lst (xs.map exD), .lst (xs.map exD), .fn F_parllaw4_sameExpr []] ++ List.replicate 12 .top ++ [.lst (xs.map exD), .int .i64 xs.length, .int .i64 i] ++ List.replicate 14 .top) h
      (List.replicate 32 blk0)) (fun i => i ≤ xs.length) (fun i => xs.length - i) 0 (Nat.zero_le _) ?_ ?_
  · refine le_to (List.replicate 32 .hole) hl rfl ?_ ?_ <;> ((try simp only [y_blk_end, y_blk_hole, y_blk_nil, y_blk_old, y_wkl_end, y_wkl_top, List.replicate, List.cons_append, List.nil_append, and_true, true_and]) <;> (repeat' (first | apply And.intro | apply y_wkl | refine Exists.intro _ (And.intro rfl ?_))) <;> (try first | exact trivial | exact Wk.top _ | exact wk_int rfl | exact wk_bool rfl | exact wk_ptr rfl rfl rfl rfl | exact wk_ref rfl rfl rfl rfl rfl | exact wk_nil rfl rfl rfl | exact wk_ref rfl rfl rfl rfl (by simp) | exact wk_ref rfl rfl rfl rfl (by simp; omega) | exact wk_old (by assumption) (by simp) | exact wk_eq rfl (by first | exact Bd.int _ _ | exact Bd.bool _ | exact Bd.abool | exact Bd.nils | exact Bd.emp | exact Bd.nilp | exact Bd.nilfn | assumption | exact low_trees _ _ | exact low_treeD _ _ | exact low_ints _ _) | exact Nat.le_refl _ | exact wk_int (by simp) | exact wk_int (by omega) | exact Nat.succ_le_succ (Nat.zero_le _) | exact Nat.le_add_left _ _ | omega))
    all_goals exact wk_eq rfl (.fn _ _ (by simp))
  · intro i hi
    by_cases hlt : i < xs.length
    · have f1 : (i : Int) < (xs.length : Int) := by omega
      have f0 : (0 : Int) ≤ (i : Int) := by omega
      have w1 : IntKind.i64.wrap ((i : Int) + 1) = ((i + 1 : Nat) : Int) := by rw [IntWalk.i64_in _ (by omega)]; omega
      have e0 := nth_exs xs i hlt
      have p1 := hp xs[i] (List.getElem_mem hlt)
      generalize xs[i] = y at *
      obtain ⟨k, m, a, r, ys⟩ := y
      have hly := low_exs n ys
      rw [exD_mk] at e0 p1
      simp -implicitDefEqProofs only [↓symPre, symPost, y_condP, y_condG, run, lver, minD, intsD, eqAll, tupD, splice, Nat.zero_add, Nat.add_zero, Nat.zero_mul, Nat.mul_one, Nat.one_mul, Nat.reduceAdd, Nat.reduceSub, Nat.reduceMul, Nat.reduceLT, Nat.reduceLeDiff, Nat.reduceEqDiff, true_and, and_true, true_implies, if_true, if_false, ite_true, reduceIte, ne_eq, not_false_eq_true, reduceCtorEq, forall_const, bne_self_eq_false, Bool.true_eq_false, Bool.false_eq_true, false_implies, and_self, implies_true, Int.toNat_zero, beq_self_eq_true, decide_true, decide_false, Bool.not_true, Bool.not_false, ↓y_lookv, y_key1, y_mlook, y_mlookn, y_mres1, y_mres0, ↓y_call, f1, f0, decide_true, List.length_map, Int.toNat_natCast, e0, ↓y_callv]
      refine p1.call rfl ?_
      simp -implicitDefEqProofs only [↓symPre, symPost, y_condP, y_condG, run, lver, minD, intsD, eqAll, tupD, splice, Nat.zero_add, Nat.add_zero, Nat.zero_mul, Nat.mul_one, Nat.one_mul, Nat.reduceAdd, Nat.reduceSub, Nat.reduceMul, Nat.reduceLT, Nat.reduceLeDiff, Nat.reduceEqDiff, true_and, and_true, true_implies, if_true, if_false, ite_true, reduceIte, ne_eq, not_false_eq_true, reduceCtorEq, forall_const, bne_self_eq_false, Bool.true_eq_false, Bool.false_eq_true, false_implies, and_self, implies_true, Int.toNat_zero, beq_self_eq_true, decide_true, decide_false, Bool.not_true, Bool.not_false, ↓y_lookv, y_key1, y_mlook, y_mlookn, y_mres1, y_mres0, ↓y_call, w1]
      refine ⟨i + 1, by omega, by omega, ?_⟩
      refine le_to (List.replicate 32 .hole) hl rfl ?_ ?_ <;> ((try simp only [y_blk_end, y_blk_hole, y_blk_nil, y_blk_old, y_wkl_end, y_wkl_top, List.replicate, List.cons_append, List.nil_append, and_true, true_and]) <;> (repeat' (first | apply And.intro | apply y_wkl | refine Exists.intro _ (And.intro rfl ?_))) <;> (try first | exact trivial | exact Wk.top _ | exact wk_int rfl | exact wk_bool rfl | exact wk_ptr rfl rfl rfl rfl | exact wk_ref rfl rfl rfl rfl rfl | exact wk_nil rfl rfl rfl | exact wk_ref rfl rfl rfl rfl (by simp) | exact wk_ref rfl rfl rfl rfl (by simp; omega) | exact wk_old (by assumption) (by simp) | exact wk_eq rfl (by first | exact Bd.int _ _ | exact Bd.bool _ | exact Bd.abool | exact Bd.nils | exact Bd.emp | exact Bd.nilp | exact Bd.nilfn | assumption | exact low_trees _ _ | exact low_treeD _ _ | exact low_ints _ _) | exact Nat.le_refl _ | exact wk_int (by simp) | exact wk_int (by omega) | exact Nat.succ_le_succ (Nat.zero_le _) | exact Nat.le_add_left _ _ | omega))
      all_goals exact wk_eq rfl (.fn _ _ (by simp))
    · have f1 : ¬ (i : Int) < (xs.length : Int) := by omega
      simp -implicitDefEqProofs only [↓symPre, symPost, y_condP, y_condG, run, lver, minD, intsD, eqAll, tupD, splice, Nat.zero_add, Nat.add_zero, Nat.zero_mul, Nat.mul_one, Nat.one_mul, Nat.reduceAdd, Nat.reduceSub, Nat.reduceMul, Nat.reduceLT, Nat.reduceLeDiff, Nat.reduceEqDiff, true_and, and_true, true_implies, if_true, if_false, ite_true, reduceIte, ne_eq, not_false_eq_true, reduceCtorEq, forall_const, bne_self_eq_false, Bool.true_eq_false, Bool.false_eq_true, false_implies, and_self, implies_true, Int.toNat_zero, beq_self_eq_true, decide_true, decide_false, Bool.not_true, Bool.not_false, ↓y_lookv, y_key1, y_mlook, y_mlookn, y_mres1, y_mres0, ↓y_call, f1, decide_false]
      exact fin_bool hl rfl

theorem pure_same : ∀ x : Ex, sz x < 2 ^ 60 → Pure prog F_parllaw4_sameExpr [exD x, exD x] (.bool true)
  | .mk k m a r xs, hs => by
    have hszm := sz_mk k m a r xs
    have hkl := len_le_sz xs
    have hrec : ∀ y ∈ xs, Pure prog F_parllaw4_sameExpr [exD y, exD y] (.bool true) := fun y hy => pure_same y (by have := sz_mem hy; omega)
    have pq := pure_EqualEx xs (by omega) hrec
    have gen : ∀ k' m' a' r' : Int, (k == k') = true → (m == m') = true → (a == a') = true → (r == r') = true → Pure prog F_parllaw4_sameExpr [exD (.mk k m a r xs), exD (.mk k' m' a' r' xs)] (.bool true) := fun k' m' a' r' b1 b2 b3 b4 => by
      intro n h
      rw [exD_mk, exD_mk]
      refine K_parllaw4_sameExpr.calls fun hl => ?_
      unfold C_parllaw4_sameExpr
      have hlx := low_exs n xs
      simp -implicitDefEqProofs only [↓symPre, symPost, y_condP, y_condG, run, lver, minD, intsD, eqAll, tupD, splice, Nat.zero_add, Nat.add_zero, Nat.zero_mul, Nat.mul_one, Nat.one_mul, Nat.reduceAdd, Nat.reduceSub, Nat.reduceMul, Nat.reduceLT, Nat.reduceLeDiff, Nat.reduceEqDiff, true_and, and_true, true_implies, if_true, if_false, ite_true, reduceIte, ne_eq, not_false_eq_true, reduceCtorEq, forall_const, bne_self_eq_false, Bool.true_eq_false, Bool.false_eq_true, false_implies, and_self, implies_true, Int.toNat_zero, beq_self_eq_true, decide_true, decide_false, Bool.not_true, Bool.not_false, ↓y_lookv, y_key1, y_mlook, y_mlookn, y_mres1, y_mres0, ↓y_call, b1, b2, b3, b4, ↓y_eqsF, ↓y_eqAllT]
      refine pq.call rfl ?_
      simp -implicitDefEqProofs only [↓symPre, symPost, y_condP, y_condG, run, lver, minD, intsD, eqAll, tupD, splice, Nat.zero_add, Nat.add_zero, Nat.zero_mul, Nat.mul_one, Nat.one_mul, Nat.reduceAdd, Nat.reduceSub, Nat.reduceMul, Nat.reduceLT, Nat.reduceLeDiff, Nat.reduceEqDiff, true_and, and_true, true_implies, if_true, if_false, ite_true, reduceIte, ne_eq, not_false_eq_true, reduceCtorEq, forall_const, bne_self_eq_false, Bool.true_eq_false, Bool.false_eq_true, false_implies, and_self, implies_true, Int.toNat_zero, beq_self_eq_true, decide_true, decide_false, Bool.not_true, Bool.not_false, ↓y_lookv, y_key1, y_mlook, y_mlookn, y_mres1, y_mres0, ↓y_call]
      exact fin_bool hl rfl
    exact gen k m a r (by simp) (by simp) (by simp) (by simp)

/-! ### Find -/
def isP (rule k a : Int) (q : Eqn) : Bool := decide (q.rule = rule ∧ q.at' = k ∧ q.attr = a)
def findQ (rule k a : Int) (l : List Eqn) : Option Eqn := l.find? (isP rule k a)
def eqz : Eqn := ⟨0, 0, 0, .mk 0 0 0 0 []⟩
def foundD (o : Option Eqn) : D := match o with
  | some q => .tup [eqD q, .int .i64 0]
  | none => .tup [eqD eqz, .int .i64 5]

theorem wk_tup2 {X : Wx} {a b a' b' : D} (h1 : Wk X a a') (h2 : Wk X b b') : Wk X (.tup [a, b]) (.tup [a', b']) :=
  .tup _ _ rfl fun i c c' hc hc' => by
    rcases i with _ | _ | i
    · simp at hc hc'; subst hc; subst hc'; exact h1
    · simp at hc hc'; subst hc; subst hc'; exact h2
    · simp at hc
theorem wk_aggL {X : Wx} {l l' : List D} (h : WkL X l l') : Wk X (.agg l) (.agg l') := .agg _ _ h.len h.get

set_option maxHeartbeats 2000000 in
theorem pure_Find (s : Sys) (rule k a : Int) (hE : s.eqs.length < 2 ^ 60) : Pure prog F_attr_Find [sysD s, .int .i64 rule, .agg [.int .i64 k, .int .i64 a]] (foundD (findQ rule k a s.eqs)) := by
  intro n h
  refine K_attr_Find.calls fun hl => ?_
  unfold C_attr_Find sysD
  have hla := low_ats n s.attrs
  have hle := low_eqs n s.eqs
  simp -implicitDefEqProofs only [↓symPre, symPost, y_condP, y_condG, run, lver, minD, intsD, eqAll, tupD, splice, Nat.zero_add, Nat.add_zero, Nat.zero_mul, Nat.mul_one, Nat.one_mul, Nat.reduceAdd, Nat.reduceSub, Nat.reduceMul, Nat.reduceLT, Nat.reduceLeDiff, Nat.reduceEqDiff, true_and, and_true, true_implies, if_true, if_false, ite_true, reduceIte, ne_eq, not_false_eq_true, reduceCtorEq, forall_const, bne_self_eq_false, Bool.true_eq_false, Bool.false_eq_true, false_implies, and_self, implies_true, Int.toNat_zero, beq_self_eq_true, decide_true, decide_false, Bool.not_true, Bool.not_false, ↓y_lookv, y_key1, y_mlook, y_mlookn, y_mres1, y_mres0, ↓y_call, List.length_map]
  refine aloop (fun i : Nat => St.mk n ([.top, .int .i64 rule, .top, .top, .top, .ptr (n + 5) 1 0, .ptr (n + 6) 1 0] ++ List.replicate 4 .top ++ [.lst (s.eqs.map eqD), .int .i64 s.eqs.length, .int .i64 i] ++ List.replicate 16 .top) h
      (List.replicate 5 blk0 ++ [⟨1, .cells [.int .i64 k, .int .i64 a]⟩, ⟨1, .cells [.int .i64 0, .int .i64 0, .int .i64 0, .int .i64 0, .int .i64 0, .int .i64 0, .int .i64 0, .nils]⟩] ++ List.replicate 23 blk0))
    (fun i => i ≤ s.eqs.length ∧ findQ rule k a (s.eqs.drop i) = findQ rule k a s.eqs) (fun i => s.eqs.length - i) 0 ⟨Nat.zero_le _, rfl⟩ ?_ ?_
  · refine le_to (List.replicate 5 .hole ++ [.old 5, .old 6] ++ List.replicate 23 .hole) hl rfl ?_ ?_ <;> ((try simp only [y_blk_end, y_blk_hole, y_blk_nil, y_blk_old, y_wkl_end, y_wkl_top, List.replicate, List.cons_append, List.nil_append, and_true, true_and]) <;> (repeat' (first | apply And.intro | apply y_wkl | refine Exists.intro _ (And.intro rfl ?_))) <;> (try first | exact trivial | exact Wk.top _ | exact wk_int rfl | exact wk_bool rfl | exact wk_ptr rfl rfl rfl rfl | exact wk_ref rfl rfl rfl rfl rfl | exact wk_nil rfl rfl rfl | exact wk_ref rfl rfl rfl rfl (by simp) | exact wk_ref rfl rfl rfl rfl (by simp; omega) | exact wk_old (by assumption) (by simp) | exact wk_eq rfl (by first | exact Bd.int _ _ | exact Bd.bool _ | exact Bd.abool | exact Bd.nils | exact Bd.emp | exact Bd.nilp | exact Bd.nilfn | assumption | exact low_trees _ _ | exact low_treeD _ _ | exact low_ints _ _) | exact Nat.le_refl _ | exact wk_int (by simp) | exact wk_int (by omega) | exact Nat.succ_le_succ (Nat.zero_le _) | exact Nat.le_add_left _ _ | omega))
  · rintro i ⟨hi, hf⟩
    by_cases hlt : i < s.eqs.length
    · have f1 : (i : Int) < (s.eqs.length : Int) := by omega
      have f0 : (0 : Int) ≤ (i : Int) := by omega
      have w1 : IntKind.i64.wrap ((i : Int) + 1) = ((i + 1 : Nat) : Int) := by rw [IntWalk.i64_in _ (by omega)]; omega
      have e0 := nth_eqs s.eqs i hlt
      rw [List.drop_eq_getElem_cons hlt] at hf
      generalize s.eqs[i] = y at *
      obtain ⟨yu, yv, yw, ⟨yk, ym, ya, yr, ys⟩⟩ := y
      have hly := low_exs n ys
      have hlq := low_eqD n ⟨yu, yv, yw, .mk yk ym ya yr ys⟩
      rw [eqD_mk] at hlq
      rw [eqD_mk] at e0
      by_cases s1 : yu = rule ∧ yv = k ∧ yw = a
      · have hfq : findQ rule k a s.eqs = some ⟨yu, yv, yw, .mk yk ym ya yr ys⟩ := by rw [← hf, findQ, List.find?_cons, show isP rule k a ⟨yu, yv, yw, .mk yk ym ya yr ys⟩ = true from decide_eq_true s1]
        rw [hfq]
        obtain ⟨rfl, rfl, rfl⟩ := s1
        simp -implicitDefEqProofs only [↓symPre, symPost, y_condP, y_condG, run, lver, minD, intsD, eqAll, tupD, splice, Nat.zero_add, Nat.add_zero, Nat.zero_mul, Nat.mul_one, Nat.one_mul, Nat.reduceAdd, Nat.reduceSub, Nat.reduceMul, Nat.reduceLT, Nat.reduceLeDiff, Nat.reduceEqDiff, true_and, and_true, true_implies, if_true, if_false, ite_true, reduceIte, ne_eq, not_false_eq_true, reduceCtorEq, forall_const, bne_self_eq_false, Bool.true_eq_false, Bool.false_eq_true, false_implies, and_self, implies_true, Int.toNat_zero, beq_self_eq_true, decide_true, decide_false, Bool.not_true, Bool.not_false, ↓y_lookv, y_key1, y_mlook, y_mlookn, y_mres1, y_mres0, ↓y_call, f1, f0, decide_true, List.length_map, Int.toNat_natCast, e0, Bool.and_true, Bool.and_self, Bool.bne_false]
        refine fin_wk hl (wk_tup2 (.low _ hlq) (wk_int rfl)) ⟨rfl, rfl, ?_⟩
        rw [foundD, eqD_mk]
      · have hgo : findQ rule k a (s.eqs.drop (i + 1)) = findQ rule k a s.eqs := by
          rw [← hf]
          conv => rhs; rw [findQ, List.find?_cons, show isP rule k a ⟨yu, yv, yw, .mk yk ym ya yr ys⟩ = false from decide_eq_false s1]
          rfl
        by_cases s2 : yu = rule
        · have b1 : (yu == rule) = true := by simp [s2]
          obtain ⟨b, hb2, hbf⟩ : ∃ b, (yv == k && (yw == a && true)) = b ∧ b = false := ⟨_, rfl, by
            rw [Bool.and_true, Bool.and_eq_false_iff, beq_eq_false_iff_ne, beq_eq_false_iff_ne]
            by_cases h1 : yv = k
            · exact .inr fun h2 => s1 ⟨s2, h1, h2⟩
            · exact .inl h1⟩
          have hb3 : ((yv == k && (yw == a && true)) != false) = false := by rw [hb2, hbf]; rfl
          simp -implicitDefEqProofs only [↓symPre, symPost, y_condP, y_condG, run, lver, minD, intsD, eqAll, tupD, splice, Nat.zero_add, Nat.add_zero, Nat.zero_mul, Nat.mul_one, Nat.one_mul, Nat.reduceAdd, Nat.reduceSub, Nat.reduceMul, Nat.reduceLT, Nat.reduceLeDiff, Nat.reduceEqDiff, true_and, and_true, true_implies, if_true, if_false, ite_true, reduceIte, ne_eq, not_false_eq_true, reduceCtorEq, forall_const, bne_self_eq_false, Bool.true_eq_false, Bool.false_eq_true, false_implies, and_self, implies_true, Int.toNat_zero, beq_self_eq_true, decide_true, decide_false, Bool.not_true, Bool.not_false, ↓y_lookv, y_key1, y_mlook, y_mlookn, y_mres1, y_mres0, ↓y_call, f1, f0, decide_true, List.length_map, Int.toNat_natCast, e0, b1, hb3, w1]
          refine ⟨i + 1, ⟨by omega, hgo⟩, by omega, ?_⟩
          refine le_to (List.replicate 5 .hole ++ [.old 5, .old 6] ++ List.replicate 23 .hole) hl rfl ?_ ?_ <;> ((try simp only [y_blk_end, y_blk_hole, y_blk_nil, y_blk_old, y_wkl_end, y_wkl_top, List.replicate, List.cons_append, List.nil_append, and_true, true_and]) <;> (repeat' (first | apply And.intro | apply y_wkl | refine Exists.intro _ (And.intro rfl ?_))) <;> (try first | exact trivial | exact Wk.top _ | exact wk_int rfl | exact wk_bool rfl | exact wk_ptr rfl rfl rfl rfl | exact wk_ref rfl rfl rfl rfl rfl | exact wk_nil rfl rfl rfl | exact wk_ref rfl rfl rfl rfl (by simp) | exact wk_ref rfl rfl rfl rfl (by simp; omega) | exact wk_old (by assumption) (by simp) | exact wk_eq rfl (by first | exact Bd.int _ _ | exact Bd.bool _ | exact Bd.abool | exact Bd.nils | exact Bd.emp | exact Bd.nilp | exact Bd.nilfn | assumption | exact low_trees _ _ | exact low_treeD _ _ | exact low_ints _ _) | exact Nat.le_refl _ | exact wk_int (by simp) | exact wk_int (by omega) | exact Nat.succ_le_succ (Nat.zero_le _) | exact Nat.le_add_left _ _ | omega))
        · have b1 : (yu == rule) = false := by simp [s2]
          simp -implicitDefEqProofs only [↓symPre, symPost, y_condP, y_condG, run, lver, minD, intsD, eqAll, tupD, splice, Nat.zero_add, Nat.add_zero, Nat.zero_mul, Nat.mul_one, Nat.one_mul, Nat.reduceAdd, Nat.reduceSub, Nat.reduceMul, Nat.reduceLT, Nat.reduceLeDiff, Nat.reduceEqDiff, true_and, and_true, true_implies, if_true, if_false, ite_true, reduceIte, ne_eq, not_false_eq_true, reduceCtorEq, forall_const, bne_self_eq_false, Bool.true_eq_false, Bool.false_eq_true, false_implies, and_self, implies_true, Int.toNat_zero, beq_self_eq_true, decide_true, decide_false, Bool.not_true, Bool.not_false, ↓y_lookv, y_key1, y_mlook, y_mlookn, y_mres1, y_mres0, ↓y_call, f1, f0, decide_true, List.length_map, Int.toNat_natCast, e0, b1, w1]
          refine ⟨i + 1, ⟨by omega, hgo⟩, by omega, ?_⟩
          refine le_to (List.replicate 5 .hole ++ [.old 5, .old 6] ++ List.replicate 23 .hole) hl rfl ?_ ?_ <;> ((try simp only [y_blk_end, y_blk_hole, y_blk_nil, y_blk_old, y_wkl_end, y_wkl_top, List.replicate, List.cons_append, List.nil_append, and_true, true_and]) <;> (repeat' (first | apply And.intro | apply y_wkl | refine Exists.intro _ (And.intro rfl ?_))) <;> (try first | exact trivial | exact Wk.top _ | exact wk_int rfl | exact wk_bool rfl | exact wk_ptr rfl rfl rfl rfl | exact wk_ref rfl rfl rfl rfl rfl | exact wk_nil rfl rfl rfl | exact wk_ref rfl rfl rfl rfl (by simp) | exact wk_ref rfl rfl rfl rfl (by simp; omega) | exact wk_old (by assumption) (by simp) | exact wk_eq rfl (by first | exact Bd.int _ _ | exact Bd.bool _ | exact Bd.abool | exact Bd.nils | exact Bd.emp | exact Bd.nilp | exact Bd.nilfn | assumption | exact low_trees _ _ | exact low_treeD _ _ | exact low_ints _ _) | exact Nat.le_refl _ | exact wk_int (by simp) | exact wk_int (by omega) | exact Nat.succ_le_succ (Nat.zero_le _) | exact Nat.le_add_left _ _ | omega))
    · have f1 : ¬ (i : Int) < (s.eqs.length : Int) := by omega
      obtain rfl : i = s.eqs.length := by omega
      rw [List.drop_length] at hf
      rw [← hf]
      simp -implicitDefEqProofs only [↓symPre, symPost, y_condP, y_condG, run, lver, minD, intsD, eqAll, tupD, splice, Nat.zero_add, Nat.add_zero, Nat.zero_mul, Nat.mul_one, Nat.one_mul, Nat.reduceAdd, Nat.reduceSub, Nat.reduceMul, Nat.reduceLT, Nat.reduceLeDiff, Nat.reduceEqDiff, true_and, and_true, true_implies, if_true, if_false, ite_true, reduceIte, ne_eq, not_false_eq_true, reduceCtorEq, forall_const, bne_self_eq_false, Bool.true_eq_false, Bool.false_eq_true, false_implies, and_self, implies_true, Int.toNat_zero, beq_self_eq_true, decide_true, decide_false, Bool.not_true, Bool.not_false, ↓y_lookv, y_key1, y_mlook, y_mlookn, y_mres1, y_mres0, ↓y_call, f1, decide_false]
      refine fin_wk (d := .tup [eqD eqz, .int .i64 5]) hl (wk_tup2 (wk_aggL ?_) (wk_int rfl)) ⟨rfl, rfl, rfl⟩
      exact y_wkl (wk_int rfl) (y_wkl (wk_int rfl) (y_wkl (wk_int rfl) (y_wkl (wk_int rfl) (y_wkl (wk_int rfl) (y_wkl (wk_int rfl) (y_wkl (wk_int rfl) (y_wkl .nilsLst trivial)))))))

/-! ### list, leaves -/
theorem wk_frzC {α : Type} (f : α → D) {X : Wx} {sz : Nat} (hsz : ∀ x, (f x).cells.length = sz) {b t ver len : Nat} {cs : List D} {l : List α} (e : b = X.n + t) (hb : X.lc[t]? = some ⟨ver, .cells cs⟩) (hg : Src1.old t ∉ X.g) (hl : len = l.length) (hW : WkL X cs (cellsF f l)) :
    Wk X (.ref sz b ver 0 len) (.lst (l.map f)) := by
  subst e; subst hl
  have hlen := hW.len
  rw [cellsF_len f hsz] at hlen
  refine .frz sz t ver 0 l.length cs _ hb hg (by simp) (by omega) (fun d hd => ?_) fun i d hd j e he => ?_
  · obtain ⟨x, _, rfl⟩ := List.mem_map.1 hd; exact hsz x
  · rw [List.getElem?_map, Option.map_eq_some_iff] at hd
    obtain ⟨x, hx, rfl⟩ := hd
    have hc := cellsF_get f hsz l i j x e hx he
    rw [Nat.zero_add]
    have hj : i * sz + j < cs.length := by rw [← hW.len]; exact (List.getElem?_eq_some_iff.1 hc).1
    have := hW.get (i * sz + j) cs[i * sz + j] e (by simp [hj]) hc
    simpa [nth, List.getD, hj] using this

def listG : Gr := ⟨1, 1, 0, [⟨0, [⟨false, 0⟩, ⟨true, 0⟩]⟩, ⟨0, [⟨true, 0⟩]⟩]⟩

theorem pure_list : Pure prog F_parllaw4_list [] (gramD listG) := by
  intro n h
  refine K_parllaw4_list.calls fun hl => ?_
  unfold C_parllaw4_list
  simp -implicitDefEqProofs only [↓symPre, symPost, y_condP, y_condG, run, lver, minD, intsD, eqAll, tupD, splice, Nat.zero_add, Nat.add_zero, Nat.zero_mul, Nat.mul_one, Nat.one_mul, Nat.reduceAdd, Nat.reduceSub, Nat.reduceMul, Nat.reduceLT, Nat.reduceLeDiff, Nat.reduceEqDiff, true_and, and_true, true_implies, if_true, if_false, ite_true, reduceIte, ne_eq, not_false_eq_true, reduceCtorEq, forall_const, bne_self_eq_false, Bool.true_eq_false, Bool.false_eq_true, false_implies, and_self, implies_true, Int.toNat_zero, beq_self_eq_true, decide_true, decide_false, Bool.not_true, Bool.not_false, ↓y_lookv, y_key1, y_mlook, y_mlookn, y_mres1, y_mres0, ↓y_call]
  refine fin_wk (d := gramD listG) hl ?_ ⟨rfl, rfl, rfl⟩
  refine wk_aggL (y_wkl (wk_int rfl) (y_wkl (wk_int rfl) (y_wkl (wk_int rfl) (y_wkl (wk_frzC ruleD ruleD_cells (t := 10) rfl rfl (by simp) rfl ?_) trivial))))
  refine y_wkl (wk_int rfl) (y_wkl (wk_frzC symD symD_cells (t := 5) rfl rfl (by simp) rfl ?_) (y_wkl (wk_int rfl) (y_wkl (wk_frzC symD symD_cells (t := 8) rfl rfl (by simp) rfl ?_) trivial)))
  · exact WkL.low fun c hc => low_cellsF symD (low_symD _) [⟨false, 0⟩, ⟨true, 0⟩] c hc
  · exact WkL.low fun c hc => low_cellsF symD (low_symD _) [⟨true, 0⟩] c hc

def oneX : Ex := .mk 0 1 0 0 []
def valX : Ex := .mk 1 0 1 0 []
def leavesS : Sys := ⟨[⟨0, false⟩], [⟨0, 0, 0, .mk 2 0 0 0 [valX, oneX]⟩, ⟨1, 0, 0, oneX⟩]⟩

theorem pure_leaves : Pure prog F_parllaw4_leaves [] (sysD leavesS) := by
  intro n h
  refine K_parllaw4_leaves.calls fun hl => ?_
  unfold C_parllaw4_leaves
  simp -implicitDefEqProofs only [↓symPre, symPost, y_condP, y_condG, run, lver, minD, intsD, eqAll, tupD, splice, Nat.zero_add, Nat.add_zero, Nat.zero_mul, Nat.mul_one, Nat.one_mul, Nat.reduceAdd, Nat.reduceSub, Nat.reduceMul, Nat.reduceLT, Nat.reduceLeDiff, Nat.reduceEqDiff, true_and, and_true, true_implies, if_true, if_false, ite_true, reduceIte, ne_eq, not_false_eq_true, reduceCtorEq, forall_const, bne_self_eq_false, Bool.true_eq_false, Bool.false_eq_true, false_implies, and_self, implies_true, Int.toNat_zero, beq_self_eq_true, decide_true, decide_false, Bool.not_true, Bool.not_false, ↓y_lookv, y_key1, y_mlook, y_mlookn, y_mres1, y_mres0, ↓y_call]
  refine fin_wk (d := sysD leavesS) hl ?_ ⟨rfl, rfl, rfl⟩
  refine wk_aggL (y_wkl (wk_frzC atD atD_cells (t := 10) rfl rfl (by simp) rfl ?_) (y_wkl (wk_frzC eqD eqD_cells (t := 15) rfl rfl (by simp) rfl ?_) trivial))
  · exact WkL.low fun c hc => low_cellsF atD (low_atD _) [⟨0, false⟩] c hc
  · refine y_wkl (wk_int rfl) (y_wkl (wk_int rfl) (y_wkl (wk_int rfl) (y_wkl (wk_int rfl) (y_wkl (wk_int rfl) (y_wkl (wk_int rfl) (y_wkl (wk_int rfl) (y_wkl (wk_frzC exD exD_cells (t := 7) (l := [valX, oneX]) rfl rfl (by simp) rfl ?_)
      (y_wkl (wk_int rfl) (y_wkl (wk_int rfl) (y_wkl (wk_int rfl) (y_wkl (wk_int rfl) (y_wkl (wk_int rfl) (y_wkl (wk_int rfl) (y_wkl (wk_int rfl) (y_wkl .nilsLst trivial)))))))))))))))
    rw [show cellsF exD [valX, oneX] = [.int .i64 1, .int .i64 0, .int .i64 1, .int .i64 0, .lst [], .int .i64 0, .int .i64 1, .int .i64 0, .int .i64 0, .lst []] from by simp [cellsF, exD_mk, valX, oneX, D.cells]]
    exact y_wkl (wk_int rfl) (y_wkl (wk_int rfl) (y_wkl (wk_int rfl) (y_wkl (wk_int rfl) (y_wkl .nilsLst (y_wkl (wk_int rfl) (y_wkl (wk_int rfl) (y_wkl (wk_int rfl) (y_wkl (wk_int rfl) (y_wkl .nilsLst trivial)))))))))

end Abs
end Go.Proofs.Ytbdcklchcdkhbaa

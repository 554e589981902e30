/- IndexFunc, ContainsFunc with closures. Printed by tools/genQ9.py. -/
import Derived.Test.YtbdcklchcdkhbaaQ8
namespace Go.Proofs.Ytbdcklchcdkhbaa
namespace Abs
set_option linter.unusedVariables false
set_option linter.unusedSimpArgs false
set_option maxRecDepth 20000

def ixF {α : Type} (P : α → Bool) : List α → Nat → Int
  | [], _ => -1
  | x :: xs, i => if P x then i else ixF P xs (i + 1)
theorem ixF_any {α : Type} (P : α → Bool) : ∀ (l : List α) (i : Nat), decide (ixF P l i ≥ 0) = l.any P
  | [], i => rfl
  | x :: xs, i => by
    by_cases h : P x = true
    · have e : ixF P (x :: xs) i = i := by simp [ixF, h]
      rw [e, List.any_cons, h]; simp
    · have h' : P x = false := by simpa using h
      have e : ixF P (x :: xs) i = ixF P xs (i + 1) := by simp [ixF, h']
      rw [e, List.any_cons, h', Bool.false_or]; exact ixF_any P xs (i + 1)
theorem eqD_mk (u v w k n a r : Int) (xs : List Ex) : eqD ⟨u, v, w, .mk k n a r xs⟩ = .agg [.int .i64 u, .int .i64 v, .int .i64 w, .int .i64 k, .int .i64 n, .int .i64 a, .int .i64 r, .lst (xs.map exD)] := rfl
theorem nth_eqs (xs : List Eqn) (i : Nat) (hi : i < xs.length) : nth (xs.map eqD) i = eqD xs[i] := by
  simp [nth, List.getD, hi]

/-- a closure that tells a bool and changes nothing -/
def Tells (n : Nat) (h : Heap) (F : FuncId) (cs : List D) (d : D) (b : Bool) : Prop :=
  ∀ n' h', n ≤ n' → (∀ t, t < n → h' t = h t) → ACalls prog F (d :: cs) n' h' fun d h'' y => y = [] ∧ h'' = h' ∧ d = .bool b

set_option maxHeartbeats 1000000 in
theorem at_IndexEx (xs : List Ex) (P : Ex → Bool) (hlen : xs.length < 2 ^ 60) (F : FuncId) (cs : List D) {n : Nat} {h : Heap} (hcs : ∀ c ∈ cs, Low n c) (hp : ∀ x ∈ xs, Tells n h F cs (exD x) (P x)) :
    ACalls prog F_slices_IndexFunc_attr_Expr_attr_Expr [.lst (xs.map exD), .fn F cs] n h fun d h' y => y = [] ∧ h' = h ∧ d = .int .i64 (ixF P xs 0) := by
  refine K_slices_IndexFunc_attr_Expr_attr_Expr.calls fun hl => ?_
  unfold C_slices_IndexFunc_attr_Expr_attr_Expr
  have lowF : Low n (.fn F cs) := .fn _ _ hcs
  have lowx := low_exs n xs
  simp -implicitDefEqProofs only [↓symPre, symPost, y_condP, y_condG, run, lver, minD, intsD, eqAll, tupD, splice, Nat.zero_add, Nat.add_zero, Nat.zero_mul, Nat.mul_one, Nat.one_mul, Nat.reduceAdd, Nat.reduceSub, Nat.reduceMul, Nat.reduceLT, Nat.reduceLeDiff, Nat.reduceEqDiff, true_and, and_true, true_implies, if_true, if_false, ite_true, reduceIte, ne_eq, not_false_eq_true, reduceCtorEq, forall_const, bne_self_eq_false, Bool.true_eq_false, Bool.false_eq_true, false_implies, and_self, implies_true, Int.toNat_zero, beq_self_eq_true, decide_true, decide_false, Bool.not_true, Bool.not_false, ↓y_lookv, y_key1, y_mlook, y_mlookn, y_mres1, y_mres0, ↓y_call, List.length_map]
  refine aloop (fun q : Nat × Unit => St.mk n ([.lst (xs.map exD), .fn F cs] ++ List.replicate 5 .top ++ [.int .i64 xs.length, .int .i64 q.1] ++ List.replicate 10 .top) h
      (List.replicate 19 blk0)) (fun q => q.1 ≤ xs.length ∧ ixF P (xs.drop q.1) q.1 = ixF P xs 0) (fun q => xs.length - q.1) (0, ()) ⟨Nat.zero_le _, rfl⟩ ?_ ?_
  · refine le_to (List.replicate 19 .hole) hl rfl ?_ ?_ <;> ((try simp only [y_blk_end, y_blk_hole, y_blk_nil, y_blk_old, y_wkl_end, y_wkl_top, List.replicate, List.cons_append, List.nil_append, and_true, true_and]) <;> (repeat' (first | apply And.intro | apply y_wkl | refine Exists.intro _ (And.intro rfl ?_))) <;> (try first | exact trivial | exact Wk.top _ | exact wk_int rfl | exact wk_bool rfl | exact wk_ptr rfl rfl rfl rfl | exact wk_ref rfl rfl rfl rfl rfl | exact wk_nil rfl rfl rfl | exact wk_ref rfl rfl rfl rfl (by simp) | exact wk_ref rfl rfl rfl rfl (by simp; omega) | exact wk_old (by assumption) (by simp) | exact wk_eq rfl (by first | exact Bd.int _ _ | exact Bd.bool _ | exact Bd.abool | exact Bd.nils | exact Bd.emp | exact Bd.nilp | exact Bd.nilfn | assumption | exact low_trees _ _ | exact low_treeD _ _ | exact low_ints _ _) | exact Nat.le_refl _ | exact wk_int (by simp) | exact wk_int (by omega) | exact Nat.succ_le_succ (Nat.zero_le _) | exact Nat.le_add_left _ _ | omega))
  · rintro ⟨i, _⟩ ⟨hi, hix⟩
    simp only at hi hix
    by_cases hlt : i < xs.length
    · have f1 : (i : Int) < (xs.length : Int) := by omega
      have f0 : (0 : Int) ≤ (i : Int) := by omega
      have w1 : IntKind.i64.wrap ((i : Int) + 1) = ((i + 1 : Nat) : Int) := by rw [IntWalk.i64_in _ (by omega)]; omega
      have e0 := nth_exs xs i hlt
      rw [List.drop_eq_getElem_cons hlt] at hix
      simp only [ixF] at hix
      have hc1 := hp xs[i] (List.getElem_mem hlt) (n + 19) (mrg n h (List.replicate 19 blk0)) (by omega) fun t ht => mrg_lt ht
      generalize hQ : P xs[i] = b at *
      generalize xs[i] = y at *
      obtain ⟨k, m, a, r, ys, rfl⟩ : ∃ k m a r ys, y = Ex.mk k m a r ys := by cases y; exact ⟨_, _, _, _, _, rfl⟩
      rw [exD_mk] at e0 hc1
      simp -implicitDefEqProofs only [↓symPre, symPost, y_condP, y_condG, run, lver, minD, intsD, eqAll, tupD, splice, Nat.zero_add, Nat.add_zero, Nat.zero_mul, Nat.mul_one, Nat.one_mul, Nat.reduceAdd, Nat.reduceSub, Nat.reduceMul, Nat.reduceLT, Nat.reduceLeDiff, Nat.reduceEqDiff, true_and, and_true, true_implies, if_true, if_false, ite_true, reduceIte, ne_eq, not_false_eq_true, reduceCtorEq, forall_const, bne_self_eq_false, Bool.true_eq_false, Bool.false_eq_true, false_implies, and_self, implies_true, Int.toNat_zero, beq_self_eq_true, decide_true, decide_false, Bool.not_true, Bool.not_false, ↓y_lookv, y_key1, y_mlook, y_mlookn, y_mres1, y_mres0, ↓y_call, f1, f0, decide_true, List.length_map, Int.toNat_natCast, e0, ↓y_callv]
      refine hc1.mono fun d h' x ⟨hx, hh, hd⟩ => .inl ⟨[], by simp [St.inr], hx, by rw [hh]; rfl, ?_⟩
      subst hd
      cases b
      · simp -implicitDefEqProofs only [↓symPre, symPost, y_condP, y_condG, run, lver, minD, intsD, eqAll, tupD, splice, Nat.zero_add, Nat.add_zero, Nat.zero_mul, Nat.mul_one, Nat.one_mul, Nat.reduceAdd, Nat.reduceSub, Nat.reduceMul, Nat.reduceLT, Nat.reduceLeDiff, Nat.reduceEqDiff, true_and, and_true, true_implies, if_true, if_false, ite_true, reduceIte, ne_eq, not_false_eq_true, reduceCtorEq, forall_const, bne_self_eq_false, Bool.true_eq_false, Bool.false_eq_true, false_implies, and_self, implies_true, Int.toNat_zero, beq_self_eq_true, decide_true, decide_false, Bool.not_true, Bool.not_false, ↓y_lookv, y_key1, y_mlook, y_mlookn, y_mres1, y_mres0, ↓y_call, w1]
        refine ⟨(i + 1, ()), ⟨by simp only; omega, hix⟩, by simp only; omega, ?_⟩
        refine le_to (List.replicate 19 .hole) hl rfl ?_ ?_ <;> ((try simp only [y_blk_end, y_blk_hole, y_blk_nil, y_blk_old, y_wkl_end, y_wkl_top, List.replicate, List.cons_append, List.nil_append, and_true, true_and]) <;> (repeat' (first | apply And.intro | apply y_wkl | refine Exists.intro _ (And.intro rfl ?_))) <;> (try first | exact trivial | exact Wk.top _ | exact wk_int rfl | exact wk_bool rfl | exact wk_ptr rfl rfl rfl rfl | exact wk_ref rfl rfl rfl rfl rfl | exact wk_nil rfl rfl rfl | exact wk_ref rfl rfl rfl rfl (by simp) | exact wk_ref rfl rfl rfl rfl (by simp; omega) | exact wk_old (by assumption) (by simp) | exact wk_eq rfl (by first | exact Bd.int _ _ | exact Bd.bool _ | exact Bd.abool | exact Bd.nils | exact Bd.emp | exact Bd.nilp | exact Bd.nilfn | assumption | exact low_trees _ _ | exact low_treeD _ _ | exact low_ints _ _) | exact Nat.le_refl _ | exact wk_int (by simp) | exact wk_int (by omega) | exact Nat.succ_le_succ (Nat.zero_le _) | exact Nat.le_add_left _ _ | omega))
      · simp -implicitDefEqProofs only [↓symPre, symPost, y_condP, y_condG, run, lver, minD, intsD, eqAll, tupD, splice, Nat.zero_add, Nat.add_zero, Nat.zero_mul, Nat.mul_one, Nat.one_mul, Nat.reduceAdd, Nat.reduceSub, Nat.reduceMul, Nat.reduceLT, Nat.reduceLeDiff, Nat.reduceEqDiff, true_and, and_true, true_implies, if_true, if_false, ite_true, reduceIte, ne_eq, not_false_eq_true, reduceCtorEq, forall_const, bne_self_eq_false, Bool.true_eq_false, Bool.false_eq_true, false_implies, and_self, implies_true, Int.toNat_zero, beq_self_eq_true, decide_true, decide_false, Bool.not_true, Bool.not_false, ↓y_lookv, y_key1, y_mlook, y_mlookn, y_mres1, y_mres0, ↓y_call]
        refine fin_low hl (.int ..) ⟨rfl, rfl, ?_⟩
        rw [← hix]; rfl
    · have f1 : ¬ (i : Int) < (xs.length : Int) := by omega
      have hil : i = xs.length := by omega
      subst hil
      rw [List.drop_length] at hix
      simp -implicitDefEqProofs only [↓symPre, symPost, y_condP, y_condG, run, lver, minD, intsD, eqAll, tupD, splice, Nat.zero_add, Nat.add_zero, Nat.zero_mul, Nat.mul_one, Nat.one_mul, Nat.reduceAdd, Nat.reduceSub, Nat.reduceMul, Nat.reduceLT, Nat.reduceLeDiff, Nat.reduceEqDiff, true_and, and_true, true_implies, if_true, if_false, ite_true, reduceIte, ne_eq, not_false_eq_true, reduceCtorEq, forall_const, bne_self_eq_false, Bool.true_eq_false, Bool.false_eq_true, false_implies, and_self, implies_true, Int.toNat_zero, beq_self_eq_true, decide_true, decide_false, Bool.not_true, Bool.not_false, ↓y_lookv, y_key1, y_mlook, y_mlookn, y_mres1, y_mres0, ↓y_call, f1, decide_false]
      refine fin_low hl (.int ..) ⟨rfl, rfl, ?_⟩
      rw [← hix]; rfl

theorem at_ContainsEx (xs : List Ex) (P : Ex → Bool) (hlen : xs.length < 2 ^ 60) (F : FuncId) (cs : List D) {n : Nat} {h : Heap} (hcs : ∀ c ∈ cs, Low n c) (hp : ∀ x ∈ xs, Tells n h F cs (exD x) (P x)) :
    ACalls prog F_slices_ContainsFunc_attr_Expr_attr_Expr [.lst (xs.map exD), .fn F cs] n h fun d h' y => y = [] ∧ h' = h ∧ d = .bool (xs.any P) := by
  refine K_slices_ContainsFunc_attr_Expr_attr_Expr.calls fun hl => ?_
  unfold C_slices_ContainsFunc_attr_Expr_attr_Expr
  have lowF : Low n (.fn F cs) := .fn _ _ hcs
  have lowx := low_exs n xs
  simp -implicitDefEqProofs only [↓symPre, symPost, y_condP, y_condG, run, lver, minD, intsD, eqAll, tupD, splice, Nat.zero_add, Nat.add_zero, Nat.zero_mul, Nat.mul_one, Nat.one_mul, Nat.reduceAdd, Nat.reduceSub, Nat.reduceMul, Nat.reduceLT, Nat.reduceLeDiff, Nat.reduceEqDiff, true_and, and_true, true_implies, if_true, if_false, ite_true, reduceIte, ne_eq, not_false_eq_true, reduceCtorEq, forall_const, bne_self_eq_false, Bool.true_eq_false, Bool.false_eq_true, false_implies, and_self, implies_true, Int.toNat_zero, beq_self_eq_true, decide_true, decide_false, Bool.not_true, Bool.not_false, ↓y_lookv, y_key1, y_mlook, y_mlookn, y_mres1, y_mres0, ↓y_call, List.length_map]
  refine (at_IndexEx xs P hlen F cs (n := n + 9) (h := mrg n h (List.replicate 9 blk0)) (fun c hc => (hcs c hc).mono (by omega)) fun x hx n' h' hn hh => hp x hx n' h' (by omega) fun t ht => by rw [hh t (by omega), mrg_lt ht]).mono fun d h' x ⟨hx, hh, hd⟩ => .inl ⟨[], by simp [St.inr], hx, by rw [hh]; rfl, ?_⟩
  subst hd
  simp -implicitDefEqProofs only [↓symPre, symPost, y_condP, y_condG, run, lver, minD, intsD, eqAll, tupD, splice, Nat.zero_add, Nat.add_zero, Nat.zero_mul, Nat.mul_one, Nat.one_mul, Nat.reduceAdd, Nat.reduceSub, Nat.reduceMul, Nat.reduceLT, Nat.reduceLeDiff, Nat.reduceEqDiff, true_and, and_true, true_implies, if_true, if_false, ite_true, reduceIte, ne_eq, not_false_eq_true, reduceCtorEq, forall_const, bne_self_eq_false, Bool.true_eq_false, Bool.false_eq_true, false_implies, and_self, implies_true, Int.toNat_zero, beq_self_eq_true, decide_true, decide_false, Bool.not_true, Bool.not_false, ↓y_lookv, y_key1, y_mlook, y_mlookn, y_mres1, y_mres0, ↓y_call]
  refine fin_low hl (.bool _) ⟨rfl, rfl, ?_⟩
  rw [← ixF_any P xs 0]; rfl

set_option maxHeartbeats 1000000 in
theorem at_IndexEqn (xs : List Eqn) (P : Eqn → Bool) (hlen : xs.length < 2 ^ 60) (F : FuncId) (cs : List D) {n : Nat} {h : Heap} (hcs : ∀ c ∈ cs, Low n c) (hp : ∀ x ∈ xs, Tells n h F cs (eqD x) (P x)) :
    ACalls prog F_slices_IndexFunc_attr_Eq_attr_Eq [.lst (xs.map eqD), .fn F cs] n h fun d h' y => y = [] ∧ h' = h ∧ d = .int .i64 (ixF P xs 0) := by
  refine K_slices_IndexFunc_attr_Eq_attr_Eq.calls fun hl => ?_
  unfold C_slices_IndexFunc_attr_Eq_attr_Eq
  have lowF : Low n (.fn F cs) := .fn _ _ hcs
  have lowx := low_eqs n xs
  simp -implicitDefEqProofs only [↓symPre, symPost, y_condP, y_condG, run, lver, minD, intsD, eqAll, tupD, splice, Nat.zero_add, Nat.add_zero, Nat.zero_mul, Nat.mul_one, Nat.one_mul, Nat.reduceAdd, Nat.reduceSub, Nat.reduceMul, Nat.reduceLT, Nat.reduceLeDiff, Nat.reduceEqDiff, true_and, and_true, true_implies, if_true, if_false, ite_true, reduceIte, ne_eq, not_false_eq_true, reduceCtorEq, forall_const, bne_self_eq_false, Bool.true_eq_false, Bool.false_eq_true, false_implies, and_self, implies_true, Int.toNat_zero, beq_self_eq_true, decide_true, decide_false, Bool.not_true, Bool.not_false, ↓y_lookv, y_key1, y_mlook, y_mlookn, y_mres1, y_mres0, ↓y_call, List.length_map]
  refine aloop (fun q : Nat × Unit => St.mk n ([.lst (xs.map eqD), .fn F cs] ++ List.replicate 5 .top ++ [.int .i64 xs.length, .int .i64 q.1] ++ List.replicate 10 .top) h
      (List.replicate 19 blk0)) (fun q => q.1 ≤ xs.length ∧ ixF P (xs.drop q.1) q.1 = ixF P xs 0) (fun q => xs.length - q.1) (0, ()) ⟨Nat.zero_le _, rfl⟩ ?_ ?_
  · refine le_to (List.replicate 19 .hole) hl rfl ?_ ?_ <;> ((try simp only [y_blk_end, y_blk_hole, y_blk_nil, y_blk_old, y_wkl_end, y_wkl_top, List.replicate, List.cons_append, List.nil_append, and_true, true_and]) <;> (repeat' (first | apply And.intro | apply y_wkl | refine Exists.intro _ (And.intro rfl ?_))) <;> (try first | exact trivial | exact Wk.top _ | exact wk_int rfl | exact wk_bool rfl | exact wk_ptr rfl rfl rfl rfl | exact wk_ref rfl rfl rfl rfl rfl | exact wk_nil rfl rfl rfl | exact wk_ref rfl rfl rfl rfl (by simp) | exact wk_ref rfl rfl rfl rfl (by simp; omega) | exact wk_old (by assumption) (by simp) | exact wk_eq rfl (by first | exact Bd.int _ _ | exact Bd.bool _ | exact Bd.abool | exact Bd.nils | exact Bd.emp | exact Bd.nilp | exact Bd.nilfn | assumption | exact low_trees _ _ | exact low_treeD _ _ | exact low_ints _ _) | exact Nat.le_refl _ | exact wk_int (by simp) | exact wk_int (by omega) | exact Nat.succ_le_succ (Nat.zero_le _) | exact Nat.le_add_left _ _ | omega))
  · rintro ⟨i, _⟩ ⟨hi, hix⟩
    simp only at hi hix
    by_cases hlt : i < xs.length
    · have f1 : (i : Int) < (xs.length : Int) := by omega
      have f0 : (0 : Int) ≤ (i : Int) := by omega
      have w1 : IntKind.i64.wrap ((i : Int) + 1) = ((i + 1 : Nat) : Int) := by rw [IntWalk.i64_in _ (by omega)]; omega
      have e0 := nth_eqs xs i hlt
      rw [List.drop_eq_getElem_cons hlt] at hix
      simp only [ixF] at hix
      have hc1 := hp xs[i] (List.getElem_mem hlt) (n + 19) (mrg n h (List.replicate 19 blk0)) (by omega) fun t ht => mrg_lt ht
      generalize hQ : P xs[i] = b at *
      generalize xs[i] = y at *
      obtain ⟨u, v, w, k, m, a, r, ys, rfl⟩ : ∃ u v w k m a r ys, y = Eqn.mk u v w (.mk k m a r ys) := by obtain ⟨u, v, w, ⟨⟩⟩ := y; exact ⟨_, _, _, _, _, _, _, _, rfl⟩
      rw [eqD_mk] at e0 hc1
      simp -implicitDefEqProofs only [↓symPre, symPost, y_condP, y_condG, run, lver, minD, intsD, eqAll, tupD, splice, Nat.zero_add, Nat.add_zero, Nat.zero_mul, Nat.mul_one, Nat.one_mul, Nat.reduceAdd, Nat.reduceSub, Nat.reduceMul, Nat.reduceLT, Nat.reduceLeDiff, Nat.reduceEqDiff, true_and, and_true, true_implies, if_true, if_false, ite_true, reduceIte, ne_eq, not_false_eq_true, reduceCtorEq, forall_const, bne_self_eq_false, Bool.true_eq_false, Bool.false_eq_true, false_implies, and_self, implies_true, Int.toNat_zero, beq_self_eq_true, decide_true, decide_false, Bool.not_true, Bool.not_false, ↓y_lookv, y_key1, y_mlook, y_mlookn, y_mres1, y_mres0, ↓y_call, f1, f0, decide_true, List.length_map, Int.toNat_natCast, e0, ↓y_callv]
      refine hc1.mono fun d h' x ⟨hx, hh, hd⟩ => .inl ⟨[], by simp [St.inr], hx, by rw [hh]; rfl, ?_⟩
      subst hd
      cases b
      · simp -implicitDefEqProofs only [↓symPre, symPost, y_condP, y_condG, run, lver, minD, intsD, eqAll, tupD, splice, Nat.zero_add, Nat.add_zero, Nat.zero_mul, Nat.mul_one, Nat.one_mul, Nat.reduceAdd, Nat.reduceSub, Nat.reduceMul, Nat.reduceLT, Nat.reduceLeDiff, Nat.reduceEqDiff, true_and, and_true, true_implies, if_true, if_false, ite_true, reduceIte, ne_eq, not_false_eq_true, reduceCtorEq, forall_const, bne_self_eq_false, Bool.true_eq_false, Bool.false_eq_true, false_implies, and_self, implies_true, Int.toNat_zero, beq_self_eq_true, decide_true, decide_false, Bool.not_true, Bool.not_false, ↓y_lookv, y_key1, y_mlook, y_mlookn, y_mres1, y_mres0, ↓y_call, w1]
        refine ⟨(i + 1, ()), ⟨by simp only; omega, hix⟩, by simp only; omega, ?_⟩
        refine le_to (List.replicate 19 .hole) hl rfl ?_ ?_ <;> ((try simp only [y_blk_end, y_blk_hole, y_blk_nil, y_blk_old, y_wkl_end, y_wkl_top, List.replicate, List.cons_append, List.nil_append, and_true, true_and]) <;> (repeat' (first | apply And.intro | apply y_wkl | refine Exists.intro _ (And.intro rfl ?_))) <;> (try first | exact trivial | exact Wk.top _ | exact wk_int rfl | exact wk_bool rfl | exact wk_ptr rfl rfl rfl rfl | exact wk_ref rfl rfl rfl rfl rfl | exact wk_nil rfl rfl rfl | exact wk_ref rfl rfl rfl rfl (by simp) | exact wk_ref rfl rfl rfl rfl (by simp; omega) | exact wk_old (by assumption) (by simp) | exact wk_eq rfl (by first | exact Bd.int _ _ | exact Bd.bool _ | exact Bd.abool | exact Bd.nils | exact Bd.emp | exact Bd.nilp | exact Bd.nilfn | assumption | exact low_trees _ _ | exact low_treeD _ _ | exact low_ints _ _) | exact Nat.le_refl _ | exact wk_int (by simp) | exact wk_int (by omega) | exact Nat.succ_le_succ (Nat.zero_le _) | exact Nat.le_add_left _ _ | omega))
      · simp -implicitDefEqProofs only [↓symPre, symPost, y_condP, y_condG, run, lver, minD, intsD, eqAll, tupD, splice, Nat.zero_add, Nat.add_zero, Nat.zero_mul, Nat.mul_one, Nat.one_mul, Nat.reduceAdd, Nat.reduceSub, Nat.reduceMul, Nat.reduceLT, Nat.reduceLeDiff, Nat.reduceEqDiff, true_and, and_true, true_implies, if_true, if_false, ite_true, reduceIte, ne_eq, not_false_eq_true, reduceCtorEq, forall_const, bne_self_eq_false, Bool.true_eq_false, Bool.false_eq_true, false_implies, and_self, implies_true, Int.toNat_zero, beq_self_eq_true, decide_true, decide_false, Bool.not_true, Bool.not_false, ↓y_lookv, y_key1, y_mlook, y_mlookn, y_mres1, y_mres0, ↓y_call]
        refine fin_low hl (.int ..) ⟨rfl, rfl, ?_⟩
        rw [← hix]; rfl
    · have f1 : ¬ (i : Int) < (xs.length : Int) := by omega
      have hil : i = xs.length := by omega
      subst hil
      rw [List.drop_length] at hix
      simp -implicitDefEqProofs only [↓symPre, symPost, y_condP, y_condG, run, lver, minD, intsD, eqAll, tupD, splice, Nat.zero_add, Nat.add_zero, Nat.zero_mul, Nat.mul_one, Nat.one_mul, Nat.reduceAdd, Nat.reduceSub, Nat.reduceMul, Nat.reduceLT, Nat.reduceLeDiff, Nat.reduceEqDiff, true_and, and_true, true_implies, if_true, if_false, ite_true, reduceIte, ne_eq, not_false_eq_true, reduceCtorEq, forall_const, bne_self_eq_false, Bool.true_eq_false, Bool.false_eq_true, false_implies, and_self, implies_true, Int.toNat_zero, beq_self_eq_true, decide_true, decide_false, Bool.not_true, Bool.not_false, ↓y_lookv, y_key1, y_mlook, y_mlookn, y_mres1, y_mres0, ↓y_call, f1, decide_false]
      refine fin_low hl (.int ..) ⟨rfl, rfl, ?_⟩
      rw [← hix]; rfl

theorem at_ContainsEqn (xs : List Eqn) (P : Eqn → Bool) (hlen : xs.length < 2 ^ 60) (F : FuncId) (cs : List D) {n : Nat} {h : Heap} (hcs : ∀ c ∈ cs, Low n c) (hp : ∀ x ∈ xs, Tells n h F cs (eqD x) (P x)) :
    ACalls prog F_slices_ContainsFunc_attr_Eq_attr_Eq [.lst (xs.map eqD), .fn F cs] n h fun d h' y => y = [] ∧ h' = h ∧ d = .bool (xs.any P) := by
  refine K_slices_ContainsFunc_attr_Eq_attr_Eq.calls fun hl => ?_
  unfold C_slices_ContainsFunc_attr_Eq_attr_Eq
  have lowF : Low n (.fn F cs) := .fn _ _ hcs
  have lowx := low_eqs n xs
  simp -implicitDefEqProofs only [↓symPre, symPost, y_condP, y_condG, run, lver, minD, intsD, eqAll, tupD, splice, Nat.zero_add, Nat.add_zero, Nat.zero_mul, Nat.mul_one, Nat.one_mul, Nat.reduceAdd, Nat.reduceSub, Nat.reduceMul, Nat.reduceLT, Nat.reduceLeDiff, Nat.reduceEqDiff, true_and, and_true, true_implies, if_true, if_false, ite_true, reduceIte, ne_eq, not_false_eq_true, reduceCtorEq, forall_const, bne_self_eq_false, Bool.true_eq_false, Bool.false_eq_true, false_implies, and_self, implies_true, Int.toNat_zero, beq_self_eq_true, decide_true, decide_false, Bool.not_true, Bool.not_false, ↓y_lookv, y_key1, y_mlook, y_mlookn, y_mres1, y_mres0, ↓y_call, List.length_map]
  refine (at_IndexEqn xs P hlen F cs (n := n + 9) (h := mrg n h (List.replicate 9 blk0)) (fun c hc => (hcs c hc).mono (by omega)) fun x hx n' h' hn hh => hp x hx n' h' (by omega) fun t ht => by rw [hh t (by omega), mrg_lt ht]).mono fun d h' x ⟨hx, hh, hd⟩ => .inl ⟨[], by simp [St.inr], hx, by rw [hh]; rfl, ?_⟩
  subst hd
  simp -implicitDefEqProofs only [↓symPre, symPost, y_condP, y_condG, run, lver, minD, intsD, eqAll, tupD, splice, Nat.zero_add, Nat.add_zero, Nat.zero_mul, Nat.mul_one, Nat.one_mul, Nat.reduceAdd, Nat.reduceSub, Nat.reduceMul, Nat.reduceLT, Nat.reduceLeDiff, Nat.reduceEqDiff, true_and, and_true, true_implies, if_true, if_false, ite_true, reduceIte, ne_eq, not_false_eq_true, reduceCtorEq, forall_const, bne_self_eq_false, Bool.true_eq_false, Bool.false_eq_true, false_implies, and_self, implies_true, Int.toNat_zero, beq_self_eq_true, decide_true, decide_false, Bool.not_true, Bool.not_false, ↓y_lookv, y_key1, y_mlook, y_mlookn, y_mres1, y_mres0, ↓y_call]
  refine fin_low hl (.bool _) ⟨rfl, rfl, ?_⟩
  rw [← ixF_any P xs 0]; rfl

end Abs
end Go.Proofs.Ytbdcklchcdkhbaa

/- TreePutAt. -/
import Derived.Test.YtfojedaccfenfaaS4
namespace Go.Proofs.Ytfojedaccfenfaa
namespace Abs
set_option linter.unusedVariables false
set_option linter.unusedSimpArgs false
set_option maxRecDepth 20000

theorem set_get {ks : List Tree} {j : Nat} (hj : j < ks.length) (y : Tree) : (ks.take j ++ y :: ks.drop (j + 1))[j]? = some y := by
  rw [List.getElem?_append_right (by simp; omega)]
  simp [Nat.min_eq_left (Nat.le_of_lt hj)]
theorem set_take {ks : List Tree} {j : Nat} (hj : j < ks.length) (y : Tree) : (ks.take j ++ y :: ks.drop (j + 1)).take j = ks.take j := by
  rw [List.take_left' (by simp; omega)]
theorem set_drop {ks : List Tree} {j : Nat} (hj : j < ks.length) (y : Tree) : (ks.take j ++ y :: ks.drop (j + 1)).drop (j + 1) = ks.drop (j + 1) := by
  rw [show ks.take j ++ y :: ks.drop (j + 1) = (ks.take j ++ [y]) ++ ks.drop (j + 1) by simp, List.drop_left' (by simp; omega)]
theorem set_self {ks : List Tree} {j : Nat} {k : Tree} (hk : ks[j]? = some k) : ks.take j ++ k :: ks.drop (j + 1) = ks := by
  have hj : j < ks.length := (List.getElem?_eq_some_iff.1 hk).1
  have := List.drop_eq_getElem_cons hj
  rw [(List.getElem?_eq_some_iff.1 hk).2] at this
  rw [← this, List.take_append_drop]
theorem sum_set (f : Tree → Nat) {ks : List Tree} {j : Nat} {k : Tree} (hk : ks[j]? = some k) (y : Tree) : ((ks.take j ++ y :: ks.drop (j + 1)).map f).sum + f k = (ks.map f).sum + f y := by
  conv => rhs; rw [← set_self hk]
  simp only [List.map_append, List.map_cons, List.sum_append, List.sum_cons]
  omega

theorem below_with : ∀ (p : List Int) (t x s : Tree), belowT t p = some x → belowT (withT p t s) p = some s
  | [], _, _, _, _ => rfl
  | j :: q, .mk r tm ks, x, s, h => by
    obtain ⟨h1, h2, h3, k, h4, h5⟩ := below_cons_iff h
    obtain ⟨j, rfl⟩ : ∃ m : Nat, j = m := ⟨j.toNat, by omega⟩
    rw [Int.toNat_natCast] at h3 h4
    simp only [withT, Int.toNat_natCast, h4]
    rw [below_cons h1 (set_get h3 _)]
    exact below_with q k x s h5
theorem with_with : ∀ (p : List Int) (t x s : Tree), belowT t p = some x → withT p (withT p t s) x = t
  | [], t, x, s, h => by simp [belowT] at h; rw [withT, h]
  | j :: q, .mk r tm ks, x, s, h => by
    obtain ⟨h1, h2, h3, k, h4, h5⟩ := below_cons_iff h
    simp only [withT, h4, set_get h3]
    rw [set_take h3, set_drop h3, with_with q k x s h5, set_self h4]
theorem size_with : ∀ (p : List Int) (t x s : Tree), belowT t p = some x → size (withT p t s) + size x = size t + size s
  | [], t, x, s, h => by simp [belowT] at h; subst h; rw [withT]; omega
  | j :: q, .mk r tm ks, x, s, h => by
    obtain ⟨h1, h2, h3, k, h4, h5⟩ := below_cons_iff h
    have ih := size_with q k x s h5
    have hs := sum_set size h4 (withT q k s)
    simp only [withT, h4, size_mk, if_neg h1]
    omega
theorem full_with : ∀ (p : List Int) (t x s : Tree), belowT t p = some x → full (withT p t s) + full x = full t + full s
  | [], t, x, s, h => by simp [belowT] at h; subst h; rw [withT]; omega
  | j :: q, .mk r tm ks, x, s, h => by
    obtain ⟨h1, h2, h3, k, h4, h5⟩ := below_cons_iff h
    have ih := full_with q k x s h5
    have hs := sum_set full h4 (withT q k s)
    simp only [withT, h4, full_mk]
    omega
theorem full_pos (t : Tree) : 1 ≤ full t := by cases t; rw [full_mk]; omega
theorem size_full : ∀ t : Tree, size t ≤ full t
  | .mk r tm ks => by
    rw [size_mk, full_mk]
    split
    · omega
    · have : ∀ l : List Tree, (∀ k ∈ l, k ∈ ks) → (l.map size).sum ≤ (l.map full).sum := by
        intro l
        induction l with
        | nil => intro _; simp
        | cons k l ih =>
          intro hl
          have hk : k ∈ ks := hl k (by simp)
          have h1 := size_full k
          have h2 := ih fun k hk => hl k (by simp [hk])
          simp; omega
      have := this ks fun _ h => h
      omega
termination_by t => t

theorem path_call {t : Tree} {l : List Int} (hsz : size t * 40 ≤ 140737488355328) (hlen : l.length < 2 ^ 60) {s : St} {dst : Option Nat} {K : D → Chg → Prop} {N : Nat} {H : Heap} (hH : H = s.hp)
    (hK : ∀ (P : List Int) (x : Tree), belowT t P = some x → K (iD P) []) : ACalls prog F_parlkeep4_Path [treeD t, iD l] N H (callK s dst K) :=
  (at_Path t l hsz hlen N H).mono fun d h' x ⟨h1, h2, P, y, h3, h4⟩ => .inl ⟨[], by simp [St.inr], h2, by rw [h1, hH]; rfl, by rw [h4]; exact hK P y h3⟩

set_option maxHeartbeats 4000000 in
theorem pure_TreePutAt (l m k p : List Int) (h1 : l.length < 2 ^ 60) (h2 : m.length < 2 ^ 60) (h3 : k.length < 2 ^ 60) (h4 : p.length < 2 ^ 60) : Pure prog F_parlkeep4_TreePutAt [iD l, iD m, iD k, iD p] (.bool true) := by
  intro n h
  have p1 := pure_two4
  have p2 := pure_Size twoT (by rw [size_two]; omega)
  rw [size_two] at p2
  rw [treeD_two] at p1 p2
  refine K_parlkeep4_TreePutAt.calls fun hl => ?_
  unfold C_parlkeep4_TreePutAt
  have hz4 : (((4 : Nat) : Int) != 4) = false := by decide
  have z0 : ((0 : Int) != 0) = false := by decide
  simp -implicitDefEqProofs only [↓symPre, symPost, y_condP, y_condG, run, lver, minD, intsD, eqAll, tupD, splice, Nat.zero_add, Nat.add_zero, Nat.zero_mul, Nat.mul_one, Nat.one_mul, Nat.reduceAdd, Nat.reduceSub, Nat.reduceMul, Nat.reduceLT, Nat.reduceLeDiff, Nat.reduceEqDiff, true_and, and_true, true_implies, if_true, if_false, ite_true, reduceIte, ne_eq, not_false_eq_true, reduceCtorEq, forall_const, bne_self_eq_false, Bool.true_eq_false, Bool.false_eq_true, false_implies, and_self, implies_true, Int.toNat_zero, beq_self_eq_true, decide_true, decide_false, Bool.not_true, Bool.not_false, ↓y_call]
  refine p1.call rfl ?_
  simp -implicitDefEqProofs only [↓symPre, symPost, y_condP, y_condG, run, lver, minD, intsD, eqAll, tupD, splice, Nat.zero_add, Nat.add_zero, Nat.zero_mul, Nat.mul_one, Nat.one_mul, Nat.reduceAdd, Nat.reduceSub, Nat.reduceMul, Nat.reduceLT, Nat.reduceLeDiff, Nat.reduceEqDiff, true_and, and_true, true_implies, if_true, if_false, ite_true, reduceIte, ne_eq, not_false_eq_true, reduceCtorEq, forall_const, bne_self_eq_false, Bool.true_eq_false, Bool.false_eq_true, false_implies, and_self, implies_true, Int.toNat_zero, beq_self_eq_true, decide_true, decide_false, Bool.not_true, Bool.not_false, ↓y_call]
  refine p2.call rfl ?_
  simp -implicitDefEqProofs only [↓symPre, symPost, y_condP, y_condG, run, lver, minD, intsD, eqAll, tupD, splice, Nat.zero_add, Nat.add_zero, Nat.zero_mul, Nat.mul_one, Nat.one_mul, Nat.reduceAdd, Nat.reduceSub, Nat.reduceMul, Nat.reduceLT, Nat.reduceLeDiff, Nat.reduceEqDiff, true_and, and_true, true_implies, if_true, if_false, ite_true, reduceIte, ne_eq, not_false_eq_true, reduceCtorEq, forall_const, bne_self_eq_false, Bool.true_eq_false, Bool.false_eq_true, false_implies, and_self, implies_true, Int.toNat_zero, beq_self_eq_true, decide_true, decide_false, Bool.not_true, Bool.not_false, ↓y_call, hz4]
  refine gram_call h1 rfl fun g hg => ?_
  simp -implicitDefEqProofs only [↓symPre, symPost, y_condP, y_condG, run, lver, minD, intsD, eqAll, tupD, splice, Nat.zero_add, Nat.add_zero, Nat.zero_mul, Nat.mul_one, Nat.one_mul, Nat.reduceAdd, Nat.reduceSub, Nat.reduceMul, Nat.reduceLT, Nat.reduceLeDiff, Nat.reduceEqDiff, true_and, and_true, true_implies, if_true, if_false, ite_true, reduceIte, ne_eq, not_false_eq_true, reduceCtorEq, forall_const, bne_self_eq_false, Bool.true_eq_false, Bool.false_eq_true, false_implies, and_self, implies_true, Int.toNat_zero, beq_self_eq_true, decide_true, decide_false, Bool.not_true, Bool.not_false, ↓y_call]
  refine mtreeS_call hg h2 rfl fun ar at' ak aok ha hsa => ?_
  simp -implicitDefEqProofs only [↓symPre, symPost, y_condP, y_condG, run, lver, minD, intsD, eqAll, tupD, splice, Nat.zero_add, Nat.add_zero, Nat.zero_mul, Nat.mul_one, Nat.one_mul, Nat.reduceAdd, Nat.reduceSub, Nat.reduceMul, Nat.reduceLT, Nat.reduceLeDiff, Nat.reduceEqDiff, true_and, and_true, true_implies, if_true, if_false, ite_true, reduceIte, ne_eq, not_false_eq_true, reduceCtorEq, forall_const, bne_self_eq_false, Bool.true_eq_false, Bool.false_eq_true, false_implies, and_self, implies_true, Int.toNat_zero, beq_self_eq_true, decide_true, decide_false, Bool.not_true, Bool.not_false, ↓y_call]
  refine mtreeS_call hg h3 rfl fun br bt bk bok hb hsb => ?_
  by_cases c1 : aok = true
  rotate_left
  · have c1 : aok = false := by simpa using c1
    subst c1
    simp -implicitDefEqProofs only [↓symPre, symPost, y_condP, y_condG, run, lver, minD, intsD, eqAll, tupD, splice, Nat.zero_add, Nat.add_zero, Nat.zero_mul, Nat.mul_one, Nat.one_mul, Nat.reduceAdd, Nat.reduceSub, Nat.reduceMul, Nat.reduceLT, Nat.reduceLeDiff, Nat.reduceEqDiff, true_and, and_true, true_implies, if_true, if_false, ite_true, reduceIte, ne_eq, not_false_eq_true, reduceCtorEq, forall_const, bne_self_eq_false, Bool.true_eq_false, Bool.false_eq_true, false_implies, and_self, implies_true, Int.toNat_zero, beq_self_eq_true, decide_true, decide_false, Bool.not_true, Bool.not_false, ↓y_call]
    exact fin_bool hl rfl
  by_cases c2 : bok = true
  rotate_left
  · have c2 : bok = false := by simpa using c2
    subst c1; subst c2
    simp -implicitDefEqProofs only [↓symPre, symPost, y_condP, y_condG, run, lver, minD, intsD, eqAll, tupD, splice, Nat.zero_add, Nat.add_zero, Nat.zero_mul, Nat.mul_one, Nat.one_mul, Nat.reduceAdd, Nat.reduceSub, Nat.reduceMul, Nat.reduceLT, Nat.reduceLeDiff, Nat.reduceEqDiff, true_and, and_true, true_implies, if_true, if_false, ite_true, reduceIte, ne_eq, not_false_eq_true, reduceCtorEq, forall_const, bne_self_eq_false, Bool.true_eq_false, Bool.false_eq_true, false_implies, and_self, implies_true, Int.toNat_zero, beq_self_eq_true, decide_true, decide_false, Bool.not_true, Bool.not_false, ↓y_call]
    exact fin_bool hl rfl
  subst c1; subst c2
  have fa := full_der (ha rfl)
  have fb := full_der (hb rfl)
  have pP := @path_call (.mk ar at' ak) p (by omega) h4
  obtain ⟨A, hA⟩ : ∃ A : Tree, A = .mk ar at' ak := ⟨_, rfl⟩
  obtain ⟨B, hB⟩ : ∃ B : Tree, B = .mk br bt bk := ⟨_, rfl⟩
  rw [← hA] at fa hsa pP
  rw [← hB] at fb hsb
  have hAD : treeD A = .agg [.int .i64 ar, .int .i64 at', .lst (ak.map treeD)] := by rw [hA, treeD_mk]
  have hBD : treeD B = .agg [.int .i64 br, .int .i64 bt, .lst (bk.map treeD)] := by rw [hB, treeD_mk]
  rw [hAD] at pP
  simp -implicitDefEqProofs only [↓symPre, symPost, y_condP, y_condG, run, lver, minD, intsD, eqAll, tupD, splice, Nat.zero_add, Nat.add_zero, Nat.zero_mul, Nat.mul_one, Nat.one_mul, Nat.reduceAdd, Nat.reduceSub, Nat.reduceMul, Nat.reduceLT, Nat.reduceLeDiff, Nat.reduceEqDiff, true_and, and_true, true_implies, if_true, if_false, ite_true, reduceIte, ne_eq, not_false_eq_true, reduceCtorEq, forall_const, bne_self_eq_false, Bool.true_eq_false, Bool.false_eq_true, false_implies, and_self, implies_true, Int.toNat_zero, beq_self_eq_true, decide_true, decide_false, Bool.not_true, Bool.not_false, ↓y_call]
  refine pP rfl fun P x hx => ?_
  have hPl := below_len P A x hx
  have hfw := full_with P A x B hx
  have hsw := size_with P A x B hx
  have hfx := full_pos x
  have hbw := below_with P A x B hx
  have hww := with_with P A x B hx
  have hfx2 : full x ≤ full A := by
    have := full_with P A x (.mk 0 0 []) hx
    have h1 := full_pos (withT P A (.mk 0 0 []))
    rw [show full (.mk 0 0 []) = 1 by rw [full_mk]; rfl] at this
    omega
  have qA := pure_At A P (by omega) (by omega)
  rw [show atT A P = (x, 0) by rw [atT, hx]] at qA
  have qP := pure_Put A B x P (by omega) (by omega) (by omega) hx
  have qA2 := pure_At (withT P A B) P (by omega) (by omega)
  rw [show atT (withT P A B) P = (B, 0) by rw [atT, hbw]] at qA2
  have qP2 := pure_Put (withT P A B) x B P (by omega) (by omega) (by omega) hbw
  rw [hww] at qP2
  have s1 := pure_same B (by omega) B
  have s2 := pure_same A (by omega) A
  rw [eqT_true.2 rfl] at s1 s2
  have z1 := pure_Size (withT P A B) (by omega)
  have z2 := pure_Size A (by omega)
  have z3 := pure_Size x (by omega)
  have z4 := pure_Size B (by omega)
  generalize withT P A B = W at *
  obtain ⟨wr, wt, wk, rfl⟩ : ∃ r t' k, W = .mk r t' k := by cases W; exact ⟨_, _, _, rfl⟩
  obtain ⟨xr, xt, xk, rfl⟩ : ∃ r t' k, x = .mk r t' k := by cases x; exact ⟨_, _, _, rfl⟩
  simp only [hAD, hBD, treeD_mk] at qA qP qA2 qP2 s1 s2 z1 z2 z3 z4
  have w1 : IntKind.i64.wrap (((size A : Nat) : Int) - (size (.mk xr xt xk) : Nat)) = (size A : Int) - size (.mk xr xt xk) := IntWalk.i64_in _ (by omega)
  have w2 : IntKind.i64.wrap (((size A : Nat) : Int) - (size (.mk xr xt xk) : Nat) + (size B : Nat)) = (size A : Int) - size (.mk xr xt xk) + size B := IntWalk.i64_in _ (by omega)
  have w3 : ((size (.mk wr wt wk) : Int) == (size A : Int) - size (.mk xr xt xk) + size B) = true := by simp; omega
  simp -implicitDefEqProofs only [↓symPre, symPost, y_condP, y_condG, run, lver, minD, intsD, eqAll, tupD, splice, Nat.zero_add, Nat.add_zero, Nat.zero_mul, Nat.mul_one, Nat.one_mul, Nat.reduceAdd, Nat.reduceSub, Nat.reduceMul, Nat.reduceLT, Nat.reduceLeDiff, Nat.reduceEqDiff, true_and, and_true, true_implies, if_true, if_false, ite_true, reduceIte, ne_eq, not_false_eq_true, reduceCtorEq, forall_const, bne_self_eq_false, Bool.true_eq_false, Bool.false_eq_true, false_implies, and_self, implies_true, Int.toNat_zero, beq_self_eq_true, decide_true, decide_false, Bool.not_true, Bool.not_false, ↓y_call]
  refine qA.call rfl ?_
  simp -implicitDefEqProofs only [↓symPre, symPost, y_condP, y_condG, run, lver, minD, intsD, eqAll, tupD, splice, Nat.zero_add, Nat.add_zero, Nat.zero_mul, Nat.mul_one, Nat.one_mul, Nat.reduceAdd, Nat.reduceSub, Nat.reduceMul, Nat.reduceLT, Nat.reduceLeDiff, Nat.reduceEqDiff, true_and, and_true, true_implies, if_true, if_false, ite_true, reduceIte, ne_eq, not_false_eq_true, reduceCtorEq, forall_const, bne_self_eq_false, Bool.true_eq_false, Bool.false_eq_true, false_implies, and_self, implies_true, Int.toNat_zero, beq_self_eq_true, decide_true, decide_false, Bool.not_true, Bool.not_false, ↓y_call]
  refine qP.call rfl ?_
  simp -implicitDefEqProofs only [↓symPre, symPost, y_condP, y_condG, run, lver, minD, intsD, eqAll, tupD, splice, Nat.zero_add, Nat.add_zero, Nat.zero_mul, Nat.mul_one, Nat.one_mul, Nat.reduceAdd, Nat.reduceSub, Nat.reduceMul, Nat.reduceLT, Nat.reduceLeDiff, Nat.reduceEqDiff, true_and, and_true, true_implies, if_true, if_false, ite_true, reduceIte, ne_eq, not_false_eq_true, reduceCtorEq, forall_const, bne_self_eq_false, Bool.true_eq_false, Bool.false_eq_true, false_implies, and_self, implies_true, Int.toNat_zero, beq_self_eq_true, decide_true, decide_false, Bool.not_true, Bool.not_false, ↓y_call]
  refine qA2.call rfl ?_
  simp -implicitDefEqProofs only [↓symPre, symPost, y_condP, y_condG, run, lver, minD, intsD, eqAll, tupD, splice, Nat.zero_add, Nat.add_zero, Nat.zero_mul, Nat.mul_one, Nat.one_mul, Nat.reduceAdd, Nat.reduceSub, Nat.reduceMul, Nat.reduceLT, Nat.reduceLeDiff, Nat.reduceEqDiff, true_and, and_true, true_implies, if_true, if_false, ite_true, reduceIte, ne_eq, not_false_eq_true, reduceCtorEq, forall_const, bne_self_eq_false, Bool.true_eq_false, Bool.false_eq_true, false_implies, and_self, implies_true, Int.toNat_zero, beq_self_eq_true, decide_true, decide_false, Bool.not_true, Bool.not_false, ↓y_call]
  refine qP2.call rfl ?_
  simp -implicitDefEqProofs only [↓symPre, symPost, y_condP, y_condG, run, lver, minD, intsD, eqAll, tupD, splice, Nat.zero_add, Nat.add_zero, Nat.zero_mul, Nat.mul_one, Nat.one_mul, Nat.reduceAdd, Nat.reduceSub, Nat.reduceMul, Nat.reduceLT, Nat.reduceLeDiff, Nat.reduceEqDiff, true_and, and_true, true_implies, if_true, if_false, ite_true, reduceIte, ne_eq, not_false_eq_true, reduceCtorEq, forall_const, bne_self_eq_false, Bool.true_eq_false, Bool.false_eq_true, false_implies, and_self, implies_true, Int.toNat_zero, beq_self_eq_true, decide_true, decide_false, Bool.not_true, Bool.not_false, ↓y_call, z0]
  refine adrawq hmix [] ?_
  simp (maxSteps := 400000) -implicitDefEqProofs only [↓symPre, symPost, y_condP, y_condG, run, lver, minD, intsD, eqAll, tupD, splice, Nat.zero_add, Nat.add_zero, Nat.zero_mul, Nat.mul_one, Nat.one_mul, Nat.reduceAdd, Nat.reduceSub, Nat.reduceMul, Nat.reduceLT, Nat.reduceLeDiff, Nat.reduceEqDiff, true_and, and_true, true_implies, if_true, if_false, ite_true, reduceIte, ne_eq, not_false_eq_true, reduceCtorEq, forall_const, bne_self_eq_false, Bool.true_eq_false, Bool.false_eq_true, false_implies, and_self, implies_true, Int.toNat_zero, beq_self_eq_true, decide_true, decide_false, Bool.not_true, Bool.not_false, ↓y_call, ↓drawPre, drawPost, isCall, isNew, isEff, Option.toList, or_false, false_or, cond_true, cond_false, not_true_eq_false, or_true, true_or, Nat.add_left_cancel_iff, Bool.false_eq_true]
  refine ⟨_, _, s1.draw rfl, (by simp [y_cov0, y_cov1, isNew, isEff, Option.toList]), ?_⟩
  simp (maxSteps := 400000) -implicitDefEqProofs only [↓symPre, symPost, y_condP, y_condG, run, lver, minD, intsD, eqAll, tupD, splice, Nat.zero_add, Nat.add_zero, Nat.zero_mul, Nat.mul_one, Nat.one_mul, Nat.reduceAdd, Nat.reduceSub, Nat.reduceMul, Nat.reduceLT, Nat.reduceLeDiff, Nat.reduceEqDiff, true_and, and_true, true_implies, if_true, if_false, ite_true, reduceIte, ne_eq, not_false_eq_true, reduceCtorEq, forall_const, bne_self_eq_false, Bool.true_eq_false, Bool.false_eq_true, false_implies, and_self, implies_true, Int.toNat_zero, beq_self_eq_true, decide_true, decide_false, Bool.not_true, Bool.not_false, ↓y_call, ↓drawPre, drawPost, isCall, isNew, isEff, Option.toList, or_false, false_or, cond_true, cond_false, not_true_eq_false, or_true, true_or, Nat.add_left_cancel_iff, Bool.false_eq_true]
  refine ⟨_, _, s2.draw rfl, (by simp [y_cov0, y_cov1, isNew, isEff, Option.toList]), ?_⟩
  simp (maxSteps := 400000) -implicitDefEqProofs only [↓symPre, symPost, y_condP, y_condG, run, lver, minD, intsD, eqAll, tupD, splice, Nat.zero_add, Nat.add_zero, Nat.zero_mul, Nat.mul_one, Nat.one_mul, Nat.reduceAdd, Nat.reduceSub, Nat.reduceMul, Nat.reduceLT, Nat.reduceLeDiff, Nat.reduceEqDiff, true_and, and_true, true_implies, if_true, if_false, ite_true, reduceIte, ne_eq, not_false_eq_true, reduceCtorEq, forall_const, bne_self_eq_false, Bool.true_eq_false, Bool.false_eq_true, false_implies, and_self, implies_true, Int.toNat_zero, beq_self_eq_true, decide_true, decide_false, Bool.not_true, Bool.not_false, ↓y_call, ↓drawPre, drawPost, isCall, isNew, isEff, Option.toList, or_false, false_or, cond_true, cond_false, not_true_eq_false, or_true, true_or, Nat.add_left_cancel_iff, Bool.false_eq_true]
  refine ⟨_, _, z1.draw rfl, (by simp [y_cov0, y_cov1, isNew, isEff, Option.toList]), ?_⟩
  simp (maxSteps := 400000) -implicitDefEqProofs only [↓symPre, symPost, y_condP, y_condG, run, lver, minD, intsD, eqAll, tupD, splice, Nat.zero_add, Nat.add_zero, Nat.zero_mul, Nat.mul_one, Nat.one_mul, Nat.reduceAdd, Nat.reduceSub, Nat.reduceMul, Nat.reduceLT, Nat.reduceLeDiff, Nat.reduceEqDiff, true_and, and_true, true_implies, if_true, if_false, ite_true, reduceIte, ne_eq, not_false_eq_true, reduceCtorEq, forall_const, bne_self_eq_false, Bool.true_eq_false, Bool.false_eq_true, false_implies, and_self, implies_true, Int.toNat_zero, beq_self_eq_true, decide_true, decide_false, Bool.not_true, Bool.not_false, ↓y_call, ↓drawPre, drawPost, isCall, isNew, isEff, Option.toList, or_false, false_or, cond_true, cond_false, not_true_eq_false, or_true, true_or, Nat.add_left_cancel_iff, Bool.false_eq_true]
  refine ⟨_, _, z2.draw rfl, (by simp [y_cov0, y_cov1, isNew, isEff, Option.toList]), ?_⟩
  simp (maxSteps := 400000) -implicitDefEqProofs only [↓symPre, symPost, y_condP, y_condG, run, lver, minD, intsD, eqAll, tupD, splice, Nat.zero_add, Nat.add_zero, Nat.zero_mul, Nat.mul_one, Nat.one_mul, Nat.reduceAdd, Nat.reduceSub, Nat.reduceMul, Nat.reduceLT, Nat.reduceLeDiff, Nat.reduceEqDiff, true_and, and_true, true_implies, if_true, if_false, ite_true, reduceIte, ne_eq, not_false_eq_true, reduceCtorEq, forall_const, bne_self_eq_false, Bool.true_eq_false, Bool.false_eq_true, false_implies, and_self, implies_true, Int.toNat_zero, beq_self_eq_true, decide_true, decide_false, Bool.not_true, Bool.not_false, ↓y_call, ↓drawPre, drawPost, isCall, isNew, isEff, Option.toList, or_false, false_or, cond_true, cond_false, not_true_eq_false, or_true, true_or, Nat.add_left_cancel_iff, Bool.false_eq_true]
  refine ⟨_, _, z3.draw rfl, (by simp [y_cov0, y_cov1, isNew, isEff, Option.toList]), ?_⟩
  simp (maxSteps := 400000) -implicitDefEqProofs only [↓symPre, symPost, y_condP, y_condG, run, lver, minD, intsD, eqAll, tupD, splice, Nat.zero_add, Nat.add_zero, Nat.zero_mul, Nat.mul_one, Nat.one_mul, Nat.reduceAdd, Nat.reduceSub, Nat.reduceMul, Nat.reduceLT, Nat.reduceLeDiff, Nat.reduceEqDiff, true_and, and_true, true_implies, if_true, if_false, ite_true, reduceIte, ne_eq, not_false_eq_true, reduceCtorEq, forall_const, bne_self_eq_false, Bool.true_eq_false, Bool.false_eq_true, false_implies, and_self, implies_true, Int.toNat_zero, beq_self_eq_true, decide_true, decide_false, Bool.not_true, Bool.not_false, ↓y_call, ↓drawPre, drawPost, isCall, isNew, isEff, Option.toList, or_false, false_or, cond_true, cond_false, not_true_eq_false, or_true, true_or, Nat.add_left_cancel_iff, Bool.false_eq_true, w1]
  refine ⟨_, _, z4.draw rfl, (by simp [y_cov0, y_cov1, isNew, isEff, Option.toList]), ?_⟩
  simp (maxSteps := 400000) -implicitDefEqProofs only [↓symPre, symPost, y_condP, y_condG, run, lver, minD, intsD, eqAll, tupD, splice, Nat.zero_add, Nat.add_zero, Nat.zero_mul, Nat.mul_one, Nat.one_mul, Nat.reduceAdd, Nat.reduceSub, Nat.reduceMul, Nat.reduceLT, Nat.reduceLeDiff, Nat.reduceEqDiff, true_and, and_true, true_implies, if_true, if_false, ite_true, reduceIte, ne_eq, not_false_eq_true, reduceCtorEq, forall_const, bne_self_eq_false, Bool.true_eq_false, Bool.false_eq_true, false_implies, and_self, implies_true, Int.toNat_zero, beq_self_eq_true, decide_true, decide_false, Bool.not_true, Bool.not_false, ↓y_call, ↓drawPre, drawPost, isCall, isNew, isEff, Option.toList, or_false, false_or, cond_true, cond_false, not_true_eq_false, or_true, true_or, Nat.add_left_cancel_iff, Bool.false_eq_true, w2, w3]
  exact fin_bool hl rfl

end Abs
end Go.Proofs.Ytfojedaccfenfaa

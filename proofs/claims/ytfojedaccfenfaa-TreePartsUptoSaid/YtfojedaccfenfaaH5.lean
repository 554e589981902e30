/- Cover, from the root on. -/
import Derived.Test.YtfojedaccfenfaaH4
namespace Go.Proofs.Ytfojedaccfenfaa
namespace Abs
set_option linter.unusedVariables false
set_option linter.unusedSimpArgs false
set_option maxRecDepth 20000

mutual
def coverP : Tree → Int → Int → List Int
  | .mk r t ks, a, b => if r = -1 then [] else coverK ks 0 0 a b
def coverK : List Tree → Nat → Int → Int → Int → List Int
  | [], _, _, _, _ => []
  | k :: ks, i, low, a, b => if low ≤ a ∧ b ≤ low + (wordL k).length then (i : Int) :: coverP k (a - low) (b - low) else coverK ks (i + 1) (low + (wordL k).length) a b
end
theorem coverP_mk (r t : Int) (ks : List Tree) (a b : Int) : coverP (.mk r t ks) a b = if r = -1 then [] else coverK ks 0 0 a b := by rw [coverP]

theorem coverIx_none : ∀ (ks : List Tree) (i : Nat) (low a b l : Int), coverIx ks i low a b = (none, l) → coverK ks i low a b = []
  | [], _, _, _, _, _, _ => by rw [coverK]
  | k :: ks, i, low, a, b, l, h => by
    rw [coverK]
    simp only [coverIx] at h
    split at h
    · cases h
    · rename_i hn
      rw [if_neg hn]
      exact coverIx_none ks (i + 1) _ a b l h
theorem coverIx_some : ∀ (ks : List Tree) (i j : Nat) (low a b l : Int), coverIx ks i low a b = (some j, l) →
    i ≤ j ∧ ∃ k, ks[j - i]? = some k ∧ low ≤ l ∧ l ≤ low + (wlen ks : Nat) ∧ l ≤ a ∧ b ≤ l + (wordL k).length ∧ coverK ks i low a b = (j : Int) :: coverP k (a - l) (b - l)
  | [], _, _, _, _, _, _, h => by simp [coverIx] at h
  | k :: ks, i, j, low, a, b, l, h => by
    rw [coverK]
    simp only [coverIx] at h
    split at h
    · rename_i hy
      simp only [Prod.mk.injEq, Option.some.injEq] at h
      obtain ⟨rfl, rfl⟩ := h
      rw [if_pos hy]
      exact ⟨Nat.le_refl _, k, by simp, by omega, by omega, hy.1, hy.2, rfl⟩
    · rename_i hn
      rw [if_neg hn]
      obtain ⟨h1, k', h2, h3, h4, h5, h6, h7⟩ := coverIx_some ks (i + 1) j _ a b l h
      refine ⟨by omega, k', ?_, by omega, by rw [wlen_cons]; omega, h5, h6, h7⟩
      rw [show j - i = (j - (i + 1)) + 1 by omega, List.getElem?_cons_succ]
      exact h2

def coverBad (t : Tree) (a b : Int) : Prop := a < 0 ∨ b < a ∨ b > ((wordL t).length : Nat)

set_option maxHeartbeats 4000000 in
theorem pure_CoverBad (t : Tree) (a b : Int) (hsz : size t * 40 ≤ 140737488355328) (hb : coverBad t a b) : Pure prog F_tree_Cover [treeD t, .int .i64 a, .int .i64 b] (.tup [iD [], .int .i64 1]) := by
  intro n h
  have pw := pure_Word t hsz
  obtain ⟨r0, t0, k0, ht⟩ : ∃ r t' k, t = .mk r t' k := by cases t; exact ⟨_, _, _, rfl⟩
  have htD : treeD t = .agg [.int .i64 r0, .int .i64 t0, .lst (k0.map treeD)] := by rw [ht, treeD_mk]
  rw [htD] at pw ⊢
  refine K_tree_Cover.calls fun hl => ?_
  unfold C_tree_Cover
  have done : ∀ {sl : List D} {lc : List Blk}, Fin (St.mk n sl h lc) (fun d h' x => h' = h ∧ x = [] ∧ d = .tup [iD [], .int .i64 1]) [.nils, .int .i64 1] := fun {sl lc} => fin_wk hl (wk_tup2 .nilsLst wk_i) ⟨rfl, rfl, rfl⟩
  simp -implicitDefEqProofs only [↓symPre, symPost, y_condP, y_condG, run, lver, minD, intsD, eqAll, tupD, splice, Nat.zero_add, Nat.add_zero, Nat.zero_mul, Nat.mul_one, Nat.one_mul, Nat.reduceAdd, Nat.reduceSub, Nat.reduceMul, Nat.reduceLT, Nat.reduceLeDiff, Nat.reduceEqDiff, true_and, and_true, true_implies, if_true, if_false, ite_true, reduceIte, ne_eq, not_false_eq_true, reduceCtorEq, forall_const, bne_self_eq_false, Bool.true_eq_false, Bool.false_eq_true, false_implies, and_self, implies_true, Int.toNat_zero, beq_self_eq_true, decide_true, decide_false, Bool.not_true, Bool.not_false, ↓y_call]
  refine adrawq hmix [] ?_
  by_cases c1 : a < 0
  · simp (maxSteps := 400000) -implicitDefEqProofs only [↓symPre, symPost, y_condP, y_condG, run, lver, minD, intsD, eqAll, tupD, splice, Nat.zero_add, Nat.add_zero, Nat.zero_mul, Nat.mul_one, Nat.one_mul, Nat.reduceAdd, Nat.reduceSub, Nat.reduceMul, Nat.reduceLT, Nat.reduceLeDiff, Nat.reduceEqDiff, true_and, and_true, true_implies, if_true, if_false, ite_true, reduceIte, ne_eq, not_false_eq_true, reduceCtorEq, forall_const, bne_self_eq_false, Bool.true_eq_false, Bool.false_eq_true, false_implies, and_self, implies_true, Int.toNat_zero, beq_self_eq_true, decide_true, decide_false, Bool.not_true, Bool.not_false, ↓y_call, ↓drawPre, drawPost, isCall, isNew, isEff, Option.toList, or_false, false_or, cond_true, cond_false, not_true_eq_false, or_true, true_or, Nat.add_left_cancel_iff, Bool.false_eq_true, c1]
    exact done
  by_cases c2 : b < a
  · simp (maxSteps := 400000) -implicitDefEqProofs only [↓symPre, symPost, y_condP, y_condG, run, lver, minD, intsD, eqAll, tupD, splice, Nat.zero_add, Nat.add_zero, Nat.zero_mul, Nat.mul_one, Nat.one_mul, Nat.reduceAdd, Nat.reduceSub, Nat.reduceMul, Nat.reduceLT, Nat.reduceLeDiff, Nat.reduceEqDiff, true_and, and_true, true_implies, if_true, if_false, ite_true, reduceIte, ne_eq, not_false_eq_true, reduceCtorEq, forall_const, bne_self_eq_false, Bool.true_eq_false, Bool.false_eq_true, false_implies, and_self, implies_true, Int.toNat_zero, beq_self_eq_true, decide_true, decide_false, Bool.not_true, Bool.not_false, ↓y_call, ↓drawPre, drawPost, isCall, isNew, isEff, Option.toList, or_false, false_or, cond_true, cond_false, not_true_eq_false, or_true, true_or, Nat.add_left_cancel_iff, Bool.false_eq_true, c1, c2]
    exact done
  have c3 : b > ((wordL t).length : Nat) := by unfold coverBad at hb; omega
  simp (maxSteps := 400000) -implicitDefEqProofs only [↓symPre, symPost, y_condP, y_condG, run, lver, minD, intsD, eqAll, tupD, splice, Nat.zero_add, Nat.add_zero, Nat.zero_mul, Nat.mul_one, Nat.one_mul, Nat.reduceAdd, Nat.reduceSub, Nat.reduceMul, Nat.reduceLT, Nat.reduceLeDiff, Nat.reduceEqDiff, true_and, and_true, true_implies, if_true, if_false, ite_true, reduceIte, ne_eq, not_false_eq_true, reduceCtorEq, forall_const, bne_self_eq_false, Bool.true_eq_false, Bool.false_eq_true, false_implies, and_self, implies_true, Int.toNat_zero, beq_self_eq_true, decide_true, decide_false, Bool.not_true, Bool.not_false, ↓y_call, ↓drawPre, drawPost, isCall, isNew, isEff, Option.toList, or_false, false_or, cond_true, cond_false, not_true_eq_false, or_true, true_or, Nat.add_left_cancel_iff, Bool.false_eq_true, c1, c2]
  refine ⟨_, _, pw.draw rfl, (by simp [y_cov0, y_cov1, isNew, isEff, Option.toList]), ?_⟩
  simp (maxSteps := 400000) -implicitDefEqProofs only [↓symPre, symPost, y_condP, y_condG, run, lver, minD, intsD, eqAll, tupD, splice, Nat.zero_add, Nat.add_zero, Nat.zero_mul, Nat.mul_one, Nat.one_mul, Nat.reduceAdd, Nat.reduceSub, Nat.reduceMul, Nat.reduceLT, Nat.reduceLeDiff, Nat.reduceEqDiff, true_and, and_true, true_implies, if_true, if_false, ite_true, reduceIte, ne_eq, not_false_eq_true, reduceCtorEq, forall_const, bne_self_eq_false, Bool.true_eq_false, Bool.false_eq_true, false_implies, and_self, implies_true, Int.toNat_zero, beq_self_eq_true, decide_true, decide_false, Bool.not_true, Bool.not_false, ↓y_call, ↓drawPre, drawPost, isCall, isNew, isEff, Option.toList, or_false, false_or, cond_true, cond_false, not_true_eq_false, or_true, true_or, Nat.add_left_cancel_iff, Bool.false_eq_true, c1, c2, List.length_map, c3]
  exact done

set_option maxHeartbeats 4000000 in
theorem pure_CoverOk (t : Tree) (a b : Int) (hsz : size t * 40 ≤ 140737488355328) (ha : 0 ≤ a) (hab : a ≤ b) (hb : b ≤ ((wordL t).length : Nat)) : Pure prog F_tree_Cover [treeD t, .int .i64 a, .int .i64 b] (.tup [iD (coverP t a b), .int .i64 0]) := by
  intro n h
  have pw := pure_Word t hsz
  have hwl := wordL_len t
  obtain ⟨r0, t0, k0, ht⟩ : ∃ r t' k, t = .mk r t' k := by cases t; exact ⟨_, _, _, rfl⟩
  have htD : treeD t = .agg [.int .i64 r0, .int .i64 t0, .lst (k0.map treeD)] := by rw [ht, treeD_mk]
  rw [htD] at pw ⊢
  refine K_tree_Cover.calls fun hl => ?_
  unfold C_tree_Cover
  have c1 : ¬ a < 0 := by omega
  have c2 : ¬ b < a := by omega
  have c3 : ¬ b > ((wordL t).length : Nat) := by omega
  simp -implicitDefEqProofs only [↓symPre, symPost, y_condP, y_condG, run, lver, minD, intsD, eqAll, tupD, splice, Nat.zero_add, Nat.add_zero, Nat.zero_mul, Nat.mul_one, Nat.one_mul, Nat.reduceAdd, Nat.reduceSub, Nat.reduceMul, Nat.reduceLT, Nat.reduceLeDiff, Nat.reduceEqDiff, true_and, and_true, true_implies, if_true, if_false, ite_true, reduceIte, ne_eq, not_false_eq_true, reduceCtorEq, forall_const, bne_self_eq_false, Bool.true_eq_false, Bool.false_eq_true, false_implies, and_self, implies_true, Int.toNat_zero, beq_self_eq_true, decide_true, decide_false, Bool.not_true, Bool.not_false, ↓y_call]
  refine adrawq hmix [] ?_
  simp (maxSteps := 400000) -implicitDefEqProofs only [↓symPre, symPost, y_condP, y_condG, run, lver, minD, intsD, eqAll, tupD, splice, Nat.zero_add, Nat.add_zero, Nat.zero_mul, Nat.mul_one, Nat.one_mul, Nat.reduceAdd, Nat.reduceSub, Nat.reduceMul, Nat.reduceLT, Nat.reduceLeDiff, Nat.reduceEqDiff, true_and, and_true, true_implies, if_true, if_false, ite_true, reduceIte, ne_eq, not_false_eq_true, reduceCtorEq, forall_const, bne_self_eq_false, Bool.true_eq_false, Bool.false_eq_true, false_implies, and_self, implies_true, Int.toNat_zero, beq_self_eq_true, decide_true, decide_false, Bool.not_true, Bool.not_false, ↓y_call, ↓drawPre, drawPost, isCall, isNew, isEff, Option.toList, or_false, false_or, cond_true, cond_false, not_true_eq_false, or_true, true_or, Nat.add_left_cancel_iff, Bool.false_eq_true, c1, c2]
  refine ⟨_, _, pw.draw rfl, (by simp [y_cov0, y_cov1, isNew, isEff, Option.toList]), ?_⟩
  simp (maxSteps := 400000) -implicitDefEqProofs only [↓symPre, symPost, y_condP, y_condG, run, lver, minD, intsD, eqAll, tupD, splice, Nat.zero_add, Nat.add_zero, Nat.zero_mul, Nat.mul_one, Nat.one_mul, Nat.reduceAdd, Nat.reduceSub, Nat.reduceMul, Nat.reduceLT, Nat.reduceLeDiff, Nat.reduceEqDiff, true_and, and_true, true_implies, if_true, if_false, ite_true, reduceIte, ne_eq, not_false_eq_true, reduceCtorEq, forall_const, bne_self_eq_false, Bool.true_eq_false, Bool.false_eq_true, false_implies, and_self, implies_true, Int.toNat_zero, beq_self_eq_true, decide_true, decide_false, Bool.not_true, Bool.not_false, ↓y_call, ↓drawPre, drawPost, isCall, isNew, isEff, Option.toList, or_false, false_or, cond_true, cond_false, not_true_eq_false, or_true, true_or, Nat.add_left_cancel_iff, Bool.false_eq_true, c1, c2, List.length_map, c3]
  refine aloop (fun q : Int × Int × Int × Int × List Tree × List Int × Nat => St.mk n ([.top, .top, .top, .ptr (n + 3) 1 0, .ptr (n + 4) 1 0, .ptr (n + 5) 1 0, .top, .top, .ref 1 (n + 43) q.2.2.2.2.2.2 0 q.2.2.2.2.2.1.length] ++ List.replicate 41 .top) h
      ([blk0, blk0, blk0, ⟨1, .cells [.int .i64 q.2.2.1, .int .i64 q.2.2.2.1, .lst (q.2.2.2.2.1.map treeD)]⟩, ⟨1, .cells [.int .i64 q.1]⟩, ⟨1, .cells [.int .i64 q.2.1]⟩] ++ List.replicate 37 blk0 ++ [⟨q.2.2.2.2.2.2, .cells (q.2.2.2.2.2.1.map (.int .i64))⟩] ++ List.replicate 6 blk0))
      (fun q => 0 ≤ q.1 ∧ q.1 ≤ q.2.1 ∧ q.2.1 ≤ (((wordL (.mk q.2.2.1 q.2.2.2.1 q.2.2.2.2.1)).length : Nat) : Int) ∧ q.2.2.2.2.2.1 ++ coverP (.mk q.2.2.1 q.2.2.2.1 q.2.2.2.2.1) q.1 q.2.1 = coverP t a b ∧ q.2.2.2.2.2.1.length + size (.mk q.2.2.1 q.2.2.2.1 q.2.2.2.2.1) ≤ size t ∧ 1 ≤ q.2.2.2.2.2.2)
      (fun q => size (.mk q.2.2.1 q.2.2.2.1 q.2.2.2.2.1)) (a, b, r0, t0, k0, [], 1) ⟨ha, hab, by rw [← ht]; exact hb, by simp only; rw [← ht]; rfl, by simp only; rw [← ht]; simp, Nat.le_refl _⟩ ?_ ?_
  · refine le_to ([.hole, .hole, .hole, .old 3, .old 4, .old 5] ++ List.replicate 37 .hole ++ [.nil] ++ List.replicate 6 .hole) hl rfl ?_ ?_ <;> ((try simp only [y_blk_end, y_blk_hole, y_blk_nil, y_blk_old, y_wkl_end, y_wkl_top, List.replicate, List.cons_append, List.nil_append, and_true, true_and]) <;> (repeat' (first | apply And.intro | apply y_wkl | refine Exists.intro _ (And.intro rfl ?_))) <;> (try first | exact trivial | exact Wk.top _ | exact wk_int rfl | exact wk_bool rfl | exact wk_ptr rfl rfl rfl rfl | exact wk_ref rfl rfl rfl rfl rfl | exact wk_nil rfl rfl rfl | exact wk_ref rfl rfl rfl rfl (by simp) | exact wk_ref rfl rfl rfl rfl (by simp; omega) | exact wk_old (by assumption) (by simp) | exact wk_eq rfl (by first | exact Bd.int _ _ | exact Bd.bool _ | exact Bd.abool | exact Bd.nils | exact Bd.emp | exact Bd.nilp | exact Bd.nilfn | assumption | exact low_trees _ _ | exact low_treeD _ _ | exact low_ints _ _) | exact Nat.le_refl _ | exact wk_int (by simp) | exact wk_int (by omega) | exact Nat.succ_le_succ (Nat.zero_le _) | exact Nat.le_add_left _ _ | omega))
  · rintro ⟨a1, b1, cr, ct, ck, P, v⟩ ⟨h0, h1, h2, hP, hPs, hv⟩
    simp only at h0 h1 h2 hP hPs hv
    have hwc := wordL_len (.mk cr ct ck)
    have done : ∀ {sl : List D} {lc : List Blk}, coverP (.mk cr ct ck) a1 b1 = [] → lc[43]? = some ⟨v, .cells (P.map (.int .i64))⟩ → Fin (St.mk n sl h lc) (fun d h' x => h' = h ∧ x = [] ∧ d = .tup [iD (coverP t a b), .int .i64 0]) [.ref 1 (n + 43) v 0 P.length, .int .i64 0] := fun {sl lc} hc hb => by
      refine fin_wk hl (wk_tup2 (wk_ints (t := 43) hb rfl) wk_i) ⟨rfl, rfl, ?_⟩
      rw [← hP, hc, List.append_nil]
    simp -implicitDefEqProofs only [↓symPre, symPost, y_condP, y_condG, run, lver, minD, intsD, eqAll, tupD, splice, Nat.zero_add, Nat.add_zero, Nat.zero_mul, Nat.mul_one, Nat.one_mul, Nat.reduceAdd, Nat.reduceSub, Nat.reduceMul, Nat.reduceLT, Nat.reduceLeDiff, Nat.reduceEqDiff, true_and, and_true, true_implies, if_true, if_false, ite_true, reduceIte, ne_eq, not_false_eq_true, reduceCtorEq, forall_const, bne_self_eq_false, Bool.true_eq_false, Bool.false_eq_true, false_implies, and_self, implies_true, Int.toNat_zero, beq_self_eq_true, decide_true, decide_false, Bool.not_true, Bool.not_false, ↓y_call]
    refine (pure_leaf cr ct _).call rfl ?_
    by_cases c4 : cr = -1
    · have b4 : (cr == -1) = true := by simp [c4]
      simp -implicitDefEqProofs only [↓symPre, symPost, y_condP, y_condG, run, lver, minD, intsD, eqAll, tupD, splice, Nat.zero_add, Nat.add_zero, Nat.zero_mul, Nat.mul_one, Nat.one_mul, Nat.reduceAdd, Nat.reduceSub, Nat.reduceMul, Nat.reduceLT, Nat.reduceLeDiff, Nat.reduceEqDiff, true_and, and_true, true_implies, if_true, if_false, ite_true, reduceIte, ne_eq, not_false_eq_true, reduceCtorEq, forall_const, bne_self_eq_false, Bool.true_eq_false, Bool.false_eq_true, false_implies, and_self, implies_true, Int.toNat_zero, beq_self_eq_true, decide_true, decide_false, Bool.not_true, Bool.not_false, ↓y_call, b4]
      exact done (by rw [coverP_mk, if_pos c4]) rfl
    have b4 : (cr == -1) = false := by simp [c4]
    rw [coverP_mk, if_neg c4] at hP done
    rw [wordL_mk, if_neg c4] at h2 hwc
    have hsc := size_mk cr ct ck
    rw [if_neg c4] at hsc
    have hkl := len_le_sum ck
    change b1 ≤ ((wlen ck : Nat) : Int) at h2
    change wlen ck ≤ _ at hwc
    simp -implicitDefEqProofs only [↓symPre, symPost, y_condP, y_condG, run, lver, minD, intsD, eqAll, tupD, splice, Nat.zero_add, Nat.add_zero, Nat.zero_mul, Nat.mul_one, Nat.one_mul, Nat.reduceAdd, Nat.reduceSub, Nat.reduceMul, Nat.reduceLT, Nat.reduceLeDiff, Nat.reduceEqDiff, true_and, and_true, true_implies, if_true, if_false, ite_true, reduceIte, ne_eq, not_false_eq_true, reduceCtorEq, forall_const, bne_self_eq_false, Bool.true_eq_false, Bool.false_eq_true, false_implies, and_self, implies_true, Int.toNat_zero, beq_self_eq_true, decide_true, decide_false, Bool.not_true, Bool.not_false, ↓y_call, b4]
    refine ACalls.one (r := .int .i64 (ixI (coverIx ck 0 0 a1 b1).1)) 9 (iB 1 (coverIx ck 0 0 a1 b1).2) rfl rfl (by simp) (at_IndexCover ck (by omega) a1 b1 (bl := n + 9) (bf := n + 4) (bt := n + 5) (by show n + 9 < n + 50; omega) (by show n + 4 < n + 50; omega) (by show n + 5 < n + 50; omega) (by omega) (by omega) (by rw [mrg_loc]; rfl) (by rw [mrg_loc]; rfl) (by rw [mrg_loc]; rfl)) ?_
    unfold iB
    generalize hco : coverIx ck 0 0 a1 b1 = co
    obtain ⟨o, l⟩ := co
    cases o with
    | none =>
      have hneg : ixI none < 0 := by decide
      simp -implicitDefEqProofs only [↓symPre, symPost, y_condP, y_condG, run, lver, minD, intsD, eqAll, tupD, splice, Nat.zero_add, Nat.add_zero, Nat.zero_mul, Nat.mul_one, Nat.one_mul, Nat.reduceAdd, Nat.reduceSub, Nat.reduceMul, Nat.reduceLT, Nat.reduceLeDiff, Nat.reduceEqDiff, true_and, and_true, true_implies, if_true, if_false, ite_true, reduceIte, ne_eq, not_false_eq_true, reduceCtorEq, forall_const, bne_self_eq_false, Bool.true_eq_false, Bool.false_eq_true, false_implies, and_self, implies_true, Int.toNat_zero, beq_self_eq_true, decide_true, decide_false, Bool.not_true, Bool.not_false, ↓y_call, hneg]
      exact done (coverIx_none _ _ _ _ _ _ hco) rfl
    | some j =>
      obtain ⟨_, k, hk, hl1, hl2, hl3, hl4, hck⟩ := coverIx_some _ _ _ _ _ _ _ hco
      rw [Nat.sub_zero] at hk
      have hj : j < ck.length := (List.getElem?_eq_some_iff.1 hk).1
      have hjk : ck[j] = k := (List.getElem?_eq_some_iff.1 hk).2
      have hpos : ¬ ixI (some j) < 0 := by show ¬ (j : Int) < 0; omega
      have hjj : ixI (some j) = (j : Int) := rfl
      have w1 : IntKind.i64.wrap (a1 - l) = a1 - l := IntWalk.i64_in _ (by omega)
      have w2 : IntKind.i64.wrap (b1 - l) = b1 - l := IntWalk.i64_in _ (by omega)
      have hei := nth_map_tree ck j hj
      have hsk := size_kid (List.getElem_mem hj)
      rw [hjk] at hei hsk
      have hi0 : (0 : Int) ≤ (j : Int) := by omega
      have hi1 : (j : Int) < (ck.length : Int) := by omega
      have hs2 : size k < size (.mk cr ct ck) := by omega
      have hs3 : P.length + 1 + size k ≤ size t := by omega
      obtain ⟨br, bt, bk, rfl⟩ : ∃ r' t' k', k = .mk r' t' k' := by cases h : k; exact ⟨_, _, _, rfl⟩
      rw [treeD_mk] at hei
      have hf8 : (P.length + 1) * 8 ≤ 140737488355328 := by omega
      have hCt := take_all (P.map (D.int .i64)) (k := P.length) (by simp)
      simp -implicitDefEqProofs only [↓symPre, symPost, y_condP, y_condG, run, lver, minD, intsD, eqAll, tupD, splice, Nat.zero_add, Nat.add_zero, Nat.zero_mul, Nat.mul_one, Nat.one_mul, Nat.reduceAdd, Nat.reduceSub, Nat.reduceMul, Nat.reduceLT, Nat.reduceLeDiff, Nat.reduceEqDiff, true_and, and_true, true_implies, if_true, if_false, ite_true, reduceIte, ne_eq, not_false_eq_true, reduceCtorEq, forall_const, bne_self_eq_false, Bool.true_eq_false, Bool.false_eq_true, false_implies, and_self, implies_true, Int.toNat_zero, beq_self_eq_true, decide_true, decide_false, Bool.not_true, Bool.not_false, ↓y_call, hpos]
      refine adrawq hmix [[], [], [], [], [], [], [n + 4], [n + 5]] ?_
      simp (maxSteps := 400000) -implicitDefEqProofs only [↓symPre, symPost, y_condP, y_condG, run, lver, minD, intsD, eqAll, tupD, splice, Nat.zero_add, Nat.add_zero, Nat.zero_mul, Nat.mul_one, Nat.one_mul, Nat.reduceAdd, Nat.reduceSub, Nat.reduceMul, Nat.reduceLT, Nat.reduceLeDiff, Nat.reduceEqDiff, true_and, and_true, true_implies, if_true, if_false, ite_true, reduceIte, ne_eq, not_false_eq_true, reduceCtorEq, forall_const, bne_self_eq_false, Bool.true_eq_false, Bool.false_eq_true, false_implies, and_self, implies_true, Int.toNat_zero, beq_self_eq_true, decide_true, decide_false, Bool.not_true, Bool.not_false, ↓y_call, ↓drawPre, drawPost, isCall, isNew, isEff, Option.toList, or_false, false_or, cond_true, cond_false, not_true_eq_false, or_true, true_or, Nat.add_left_cancel_iff, Bool.false_eq_true, w1, w2, List.getD_cons_succ, List.getD_cons_zero]
      refine ⟨by rintro c rfl; rfl, by rintro c rfl; rfl, ?_⟩
      rw [hjj]
      refine adrawq hmix [[], [], [], [], [], [], [], [], [], [], [n + 3]] ?_
      simp (maxSteps := 400000) -implicitDefEqProofs only [↓symPre, symPost, y_condP, y_condG, run, lver, minD, intsD, eqAll, tupD, splice, Nat.zero_add, Nat.add_zero, Nat.zero_mul, Nat.mul_one, Nat.one_mul, Nat.reduceAdd, Nat.reduceSub, Nat.reduceMul, Nat.reduceLT, Nat.reduceLeDiff, Nat.reduceEqDiff, true_and, and_true, true_implies, if_true, if_false, ite_true, reduceIte, ne_eq, not_false_eq_true, reduceCtorEq, forall_const, bne_self_eq_false, Bool.true_eq_false, Bool.false_eq_true, false_implies, and_self, implies_true, Int.toNat_zero, beq_self_eq_true, decide_true, decide_false, Bool.not_true, Bool.not_false, ↓y_call, ↓drawPre, drawPost, isCall, isNew, isEff, Option.toList, or_false, false_or, cond_true, cond_false, not_true_eq_false, or_true, true_or, Nat.add_left_cancel_iff, Bool.false_eq_true, List.length_map, srcOf, Nat.le_refl, hf8, hCt, hi0, hi1, hei, Int.toNat_natCast, List.getD_cons_succ, List.getD_cons_zero]
      refine ⟨by rintro c rfl; rfl, by rintro c (rfl | rfl | rfl) <;> rfl, (a1 - l, b1 - l, br, bt, bk, P ++ [(j : Int)], v + 1), ⟨by simp only; omega, by simp only; omega, by simp only; omega, ?_, by simp only [List.length_append, List.length_cons, List.length_nil]; omega, by simp only; omega⟩, hs2, ?_⟩
      · simp only [List.append_assoc, List.cons_append, List.nil_append]
        rw [← hP, hck]
      simp only [List.map_append, List.map_cons, List.map_nil]
      refine le_to ([.hole, .hole, .hole, .old 3, .old 4, .old 5] ++ List.replicate 37 .hole ++ [.old 43] ++ List.replicate 6 .hole) hl rfl ?_ ?_ <;> ((try simp only [y_blk_end, y_blk_hole, y_blk_nil, y_blk_old, y_wkl_end, y_wkl_top, List.replicate, List.cons_append, List.nil_append, and_true, true_and]) <;> (repeat' (first | apply And.intro | apply y_wkl | refine Exists.intro _ (And.intro rfl ?_))) <;> (try first | exact trivial | exact Wk.top _ | exact wk_int rfl | exact wk_bool rfl | exact wk_ptr rfl rfl rfl rfl | exact wk_ref rfl rfl rfl rfl rfl | exact wk_nil rfl rfl rfl | exact wk_ref rfl rfl rfl rfl (by simp) | exact wk_ref rfl rfl rfl rfl (by simp; omega) | exact wk_old (by assumption) (by simp) | exact wk_eq rfl (by first | exact Bd.int _ _ | exact Bd.bool _ | exact Bd.abool | exact Bd.nils | exact Bd.emp | exact Bd.nilp | exact Bd.nilfn | assumption | exact low_trees _ _ | exact low_treeD _ _ | exact low_ints _ _) | exact Nat.le_refl _ | exact wk_int (by simp) | exact wk_int (by omega) | exact Nat.succ_le_succ (Nat.zero_le _) | exact Nat.le_add_left _ _ | omega))
      exact WkL.app (WkL.low (low_iD n P)) (y_wkl (wk_int rfl) trivial)

end Abs
end Go.Proofs.Ytfojedaccfenfaa

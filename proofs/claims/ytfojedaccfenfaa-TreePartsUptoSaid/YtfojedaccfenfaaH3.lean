/- Leaf: the path of a leaf. -/
import Derived.Test.YtfojedaccfenfaaH2
namespace Go.Proofs.Ytfojedaccfenfaa
namespace Abs
set_option linter.unusedVariables false
set_option linter.unusedSimpArgs false
set_option maxRecDepth 20000

mutual
def leafP : Tree → Nat → List Int
  | .mk r t ks, n => if r = -1 then [] else leafKs ks 0 n
def leafKs : List Tree → Nat → Nat → List Int
  | [], _, _ => []
  | k :: ks, i, n => if n < (wordL k).length then (i : Int) :: leafP k n else leafKs ks (i + 1) (n - (wordL k).length)
end

theorem leafP_mk (r t : Int) (ks : List Tree) (n : Nat) : leafP (.mk r t ks) n = if r = -1 then [] else leafKs ks 0 n := by rw [leafP]
theorem leafKs_cons (k : Tree) (ks : List Tree) (i n : Nat) : leafKs (k :: ks) i n = if n < (wordL k).length then (i : Int) :: leafP k n else leafKs ks (i + 1) (n - (wordL k).length) := by rw [leafKs]

def wlen (ks : List Tree) : Nat := ((ks.map wordL).flatten).length
theorem wlen_cons (k : Tree) (ks : List Tree) : wlen (k :: ks) = (wordL k).length + wlen ks := by simp [wlen]
theorem wlen_nil : wlen [] = 0 := rfl

theorem size_kid {ks : List Tree} {k : Tree} (h : k ∈ ks) : size k ≤ (ks.map size).sum := by
  induction ks with
  | nil => simp at h
  | cons x ks ih =>
    rcases List.mem_cons.1 h with rfl | h
    · simp
    · have := ih h; simp; omega

set_option maxHeartbeats 4000000 in
theorem pure_LeafOk (t : Tree) (m : Nat) (hsz : size t * 40 ≤ 140737488355328) (hm : m < (wordL t).length) : Pure prog F_tree_Leaf [treeD t, .int .i64 m] (.tup [iD (leafP t m), .int .i64 0]) := by
  intro n h
  have pw := pure_Word t hsz
  have hwl := wordL_len t
  obtain ⟨r0, t0, k0, ht⟩ : ∃ r t' k, t = .mk r t' k := by cases t; exact ⟨_, _, _, rfl⟩
  have htD : treeD t = .agg [.int .i64 r0, .int .i64 t0, .lst (k0.map treeD)] := by rw [ht, treeD_mk]
  rw [htD] at pw ⊢
  refine K_tree_Leaf.calls fun hl => ?_
  unfold C_tree_Leaf
  have g0 : ¬ (m : Int) < 0 := by omega
  have g1 : ¬ (m : Int) ≥ ((wordL t).length : Int) := by omega
  simp -implicitDefEqProofs only [↓symPre, symPost, y_condP, y_condG, run, lver, minD, intsD, eqAll, tupD, splice, Nat.zero_add, Nat.add_zero, Nat.zero_mul, Nat.mul_one, Nat.one_mul, Nat.reduceAdd, Nat.reduceSub, Nat.reduceMul, Nat.reduceLT, Nat.reduceLeDiff, Nat.reduceEqDiff, true_and, and_true, true_implies, if_true, if_false, ite_true, reduceIte, ne_eq, not_false_eq_true, reduceCtorEq, forall_const, bne_self_eq_false, Bool.true_eq_false, Bool.false_eq_true, false_implies, and_self, implies_true, Int.toNat_zero, beq_self_eq_true, decide_true, decide_false, Bool.not_true, Bool.not_false, ↓y_call, g0]
  refine pw.call rfl ?_
  simp -implicitDefEqProofs only [↓symPre, symPost, y_condP, y_condG, run, lver, minD, intsD, eqAll, tupD, splice, Nat.zero_add, Nat.add_zero, Nat.zero_mul, Nat.mul_one, Nat.one_mul, Nat.reduceAdd, Nat.reduceSub, Nat.reduceMul, Nat.reduceLT, Nat.reduceLeDiff, Nat.reduceEqDiff, true_and, and_true, true_implies, if_true, if_false, ite_true, reduceIte, ne_eq, not_false_eq_true, reduceCtorEq, forall_const, bne_self_eq_false, Bool.true_eq_false, Bool.false_eq_true, false_implies, and_self, implies_true, Int.toNat_zero, beq_self_eq_true, decide_true, decide_false, Bool.not_true, Bool.not_false, ↓y_call, List.length_map, g1]
  refine aloop (fun q : Nat × Int × Int × List Tree × List Int × Nat => St.mk n ([.top, .int .i64 q.1, .ptr (n + 2) 1 0, .top, .top, .top, .ref 1 (n + 46) q.2.2.2.2.2 0 q.2.2.2.2.1.length] ++ List.replicate 46 .top) h
      ([blk0, blk0, ⟨1, .cells [.int .i64 q.2.1, .int .i64 q.2.2.1, .lst (q.2.2.2.1.map treeD)]⟩] ++ List.replicate 43 blk0 ++ [⟨q.2.2.2.2.2, .cells (q.2.2.2.2.1.map (.int .i64))⟩] ++ List.replicate 6 blk0))
      (fun q => q.1 < (wordL (.mk q.2.1 q.2.2.1 q.2.2.2.1)).length ∧ q.2.2.2.2.1 ++ leafP (.mk q.2.1 q.2.2.1 q.2.2.2.1) q.1 = leafP t m ∧ q.2.2.2.2.1.length + size (.mk q.2.1 q.2.2.1 q.2.2.2.1) ≤ size t ∧ 1 ≤ q.2.2.2.2.2) (fun q => size (.mk q.2.1 q.2.2.1 q.2.2.2.1)) (m, r0, t0, k0, [], 1) ⟨by rw [← ht]; exact hm, by simp only; rw [← ht]; rfl, by simp only; rw [← ht]; simp, Nat.le_refl _⟩ ?_ ?_
  · refine le_to ([.hole, .hole, .old 2] ++ List.replicate 43 .hole ++ [.nil] ++ List.replicate 6 .hole) hl rfl ?_ ?_ <;> ((try simp only [y_blk_end, y_blk_hole, y_blk_nil, y_blk_old, y_wkl_end, y_wkl_top, List.replicate, List.cons_append, List.nil_append, and_true, true_and]) <;> (repeat' (first | apply And.intro | apply y_wkl | refine Exists.intro _ (And.intro rfl ?_))) <;> (try first | exact trivial | exact Wk.top _ | exact wk_int rfl | exact wk_bool rfl | exact wk_ptr rfl rfl rfl rfl | exact wk_ref rfl rfl rfl rfl rfl | exact wk_nil rfl rfl rfl | exact wk_ref rfl rfl rfl rfl (by simp) | exact wk_ref rfl rfl rfl rfl (by simp; omega) | exact wk_old (by assumption) (by simp) | exact wk_eq rfl (by first | exact Bd.int _ _ | exact Bd.bool _ | exact Bd.abool | exact Bd.nils | exact Bd.emp | exact Bd.nilp | exact Bd.nilfn | assumption | exact low_trees _ _ | exact low_treeD _ _ | exact low_ints _ _) | exact Nat.le_refl _ | exact wk_int (by simp) | exact wk_int (by omega) | exact Nat.succ_le_succ (Nat.zero_le _) | exact Nat.le_add_left _ _ | omega))
  · rintro ⟨m1, cr, ct, ck, P, v⟩ ⟨hm1, hP, hPs, hv⟩
    simp only at hm1 hP hPs hv
    have hwc := wordL_len (.mk cr ct ck)
    simp -implicitDefEqProofs only [↓symPre, symPost, y_condP, y_condG, run, lver, minD, intsD, eqAll, tupD, splice, Nat.zero_add, Nat.add_zero, Nat.zero_mul, Nat.mul_one, Nat.one_mul, Nat.reduceAdd, Nat.reduceSub, Nat.reduceMul, Nat.reduceLT, Nat.reduceLeDiff, Nat.reduceEqDiff, true_and, and_true, true_implies, if_true, if_false, ite_true, reduceIte, ne_eq, not_false_eq_true, reduceCtorEq, forall_const, bne_self_eq_false, Bool.true_eq_false, Bool.false_eq_true, false_implies, and_self, implies_true, Int.toNat_zero, beq_self_eq_true, decide_true, decide_false, Bool.not_true, Bool.not_false, ↓y_call]
    refine (pure_leaf cr ct _).call rfl ?_
    by_cases c1 : cr = -1
    · have b1 : (cr == -1) = true := by simp [c1]
      simp -implicitDefEqProofs only [↓symPre, symPost, y_condP, y_condG, run, lver, minD, intsD, eqAll, tupD, splice, Nat.zero_add, Nat.add_zero, Nat.zero_mul, Nat.mul_one, Nat.one_mul, Nat.reduceAdd, Nat.reduceSub, Nat.reduceMul, Nat.reduceLT, Nat.reduceLeDiff, Nat.reduceEqDiff, true_and, and_true, true_implies, if_true, if_false, ite_true, reduceIte, ne_eq, not_false_eq_true, reduceCtorEq, forall_const, bne_self_eq_false, Bool.true_eq_false, Bool.false_eq_true, false_implies, and_self, implies_true, Int.toNat_zero, beq_self_eq_true, decide_true, decide_false, Bool.not_true, Bool.not_false, ↓y_call, b1]
      refine fin_wk hl (wk_tup2 (wk_ints (t := 46) rfl rfl) wk_i) ⟨rfl, rfl, ?_⟩
      rw [← hP, leafP_mk, if_pos c1, List.append_nil]
    have b1 : (cr == -1) = false := by simp [c1]
    rw [leafP_mk, if_neg c1] at hP
    rw [wordL_mk, if_neg c1] at hm1 hwc
    have hsc := size_mk cr ct ck
    rw [if_neg c1] at hsc
    have hkl := len_le_sum ck
    change m1 < wlen ck at hm1
    change wlen ck ≤ _ at hwc
    have hlen0 : 0 < ck.length := by
      cases ck with
      | nil => simp [wlen_nil] at hm1
      | cons k ks => simp
    have hL0 : (0 : Int) < (ck.length : Int) := by omega
    have e0 := nth_map_tree ck 0 hlen0
    have hs0 := size_kid (List.getElem_mem hlen0)
    have pw0 := pure_Word ck[0] (by omega)
    have hw0 : (wordL ck[0]).length ≤ wlen ck := by
      cases ck with
      | nil => simp at hlen0
      | cons k ks => simp [wlen_cons]
    have hinit : wlen (ck.drop 0) = wlen ck := by simp
    obtain ⟨ar, at', ak, ea⟩ : ∃ r' t' k', ck[0] = .mk r' t' k' := by cases h : ck[0]; exact ⟨_, _, _, rfl⟩
    rw [ea, treeD_mk] at e0 pw0
    simp -implicitDefEqProofs only [↓symPre, symPost, y_condP, y_condG, run, lver, minD, intsD, eqAll, tupD, splice, Nat.zero_add, Nat.add_zero, Nat.zero_mul, Nat.mul_one, Nat.one_mul, Nat.reduceAdd, Nat.reduceSub, Nat.reduceMul, Nat.reduceLT, Nat.reduceLeDiff, Nat.reduceEqDiff, true_and, and_true, true_implies, if_true, if_false, ite_true, reduceIte, ne_eq, not_false_eq_true, reduceCtorEq, forall_const, bne_self_eq_false, Bool.true_eq_false, Bool.false_eq_true, false_implies, and_self, implies_true, Int.toNat_zero, beq_self_eq_true, decide_true, decide_false, Bool.not_true, Bool.not_false, ↓y_call, b1, hL0, List.length_map, e0, Int.le_refl]
    refine pw0.call rfl ?_
    simp -implicitDefEqProofs only [↓symPre, symPost, y_condP, y_condG, run, lver, minD, intsD, eqAll, tupD, splice, Nat.zero_add, Nat.add_zero, Nat.zero_mul, Nat.mul_one, Nat.one_mul, Nat.reduceAdd, Nat.reduceSub, Nat.reduceMul, Nat.reduceLT, Nat.reduceLeDiff, Nat.reduceEqDiff, true_and, and_true, true_implies, if_true, if_false, ite_true, reduceIte, ne_eq, not_false_eq_true, reduceCtorEq, forall_const, bne_self_eq_false, Bool.true_eq_false, Bool.false_eq_true, false_implies, and_self, implies_true, Int.toNat_zero, beq_self_eq_true, decide_true, decide_false, Bool.not_true, Bool.not_false, ↓y_call, List.length_map]
    refine aloop (fun q : Nat × Nat × Nat => St.mk n ([.top, .int .i64 q.2.1, .ptr (n + 2) 1 0, .top, .top, .top, .ref 1 (n + 46) v 0 P.length, .int .i64 q.1, .int .i64 q.2.2] ++ List.replicate 44 .top) h
        ([blk0, blk0, ⟨1, .cells [.int .i64 cr, .int .i64 ct, .lst (ck.map treeD)]⟩] ++ List.replicate 43 blk0 ++ [⟨v, .cells (P.map (.int .i64))⟩] ++ List.replicate 6 blk0))
        (fun q => q.1 < ck.length ∧ q.2.1 < wlen (ck.drop q.1) ∧ q.2.1 ≤ m1 ∧ leafKs (ck.drop q.1) q.1 q.2.1 = leafKs ck 0 m1 ∧ ∀ k, ck[q.1]? = some k → q.2.2 = (wordL k).length) (fun q => ck.length - q.1) (0, m1, (wordL (.mk ar at' ak)).length) ⟨hlen0, by simpa using hm1, Nat.le_refl _, by simp, fun k hk => by simp only at hk ⊢; rw [List.getElem?_eq_getElem hlen0] at hk; injection hk with hk; rw [← hk, ea]⟩ ?_ ?_
    · refine le_to ([.hole, .hole, .old 2] ++ List.replicate 43 .hole ++ [.old 46] ++ List.replicate 6 .hole) hl rfl ?_ ?_ <;> ((try simp only [y_blk_end, y_blk_hole, y_blk_nil, y_blk_old, y_wkl_end, y_wkl_top, List.replicate, List.cons_append, List.nil_append, and_true, true_and]) <;> (repeat' (first | apply And.intro | apply y_wkl | refine Exists.intro _ (And.intro rfl ?_))) <;> (try first | exact trivial | exact Wk.top _ | exact wk_int rfl | exact wk_bool rfl | exact wk_ptr rfl rfl rfl rfl | exact wk_ref rfl rfl rfl rfl rfl | exact wk_nil rfl rfl rfl | exact wk_ref rfl rfl rfl rfl (by simp) | exact wk_ref rfl rfl rfl rfl (by simp; omega) | exact wk_old (by assumption) (by simp) | exact wk_eq rfl (by first | exact Bd.int _ _ | exact Bd.bool _ | exact Bd.abool | exact Bd.nils | exact Bd.emp | exact Bd.nilp | exact Bd.nilfn | assumption | exact low_trees _ _ | exact low_treeD _ _ | exact low_ints _ _) | exact Nat.le_refl _ | exact wk_int (by simp) | exact wk_int (by omega) | exact Nat.succ_le_succ (Nat.zero_le _) | exact Nat.le_add_left _ _ | omega))
      exact WkL.low (low_iD n P)
    · rintro ⟨i, m2, wl'⟩ ⟨hi, hm2, hle, hlk, hwl'⟩
      simp only at hi hm2 hle hlk hwl'
      obtain rfl := hwl' ck[i] (by simp [hi])
      have hd := List.drop_eq_getElem_cons hi
      have hsi := size_kid (List.getElem_mem hi)
      rw [hd, wlen_cons] at hm2
      rw [hd, leafKs_cons] at hlk
      have hei := nth_map_tree ck i hi
      have hi0 : (0 : Int) ≤ (i : Int) := by omega
      have hi1 : (i : Int) < (ck.length : Int) := by omega
      by_cases c2 : m2 < (wordL ck[i]).length
      · have q1 : decide ((m2 : Int) ≥ ((wordL ck[i]).length : Int)) = false := by simp; omega
        rw [if_pos c2] at hlk
        have hsi' : P.length + 1 + size ck[i] ≤ size t := by omega
        have hsi2 : size ck[i] < size (.mk cr ct ck) := by omega
        obtain ⟨br, bt, bk, eb⟩ : ∃ r' t' k', ck[i] = .mk r' t' k' := by cases h : ck[i]; exact ⟨_, _, _, rfl⟩
        rw [eb] at hei c2 hlk hsi' hsi2
        rw [treeD_mk] at hei
        have hf8 : (P.length + 1) * 8 ≤ 140737488355328 := by omega
        have hCt := take_all (P.map (D.int .i64)) (k := P.length) (by simp)
        simp -implicitDefEqProofs only [↓symPre, symPost, y_condP, y_condG, run, lver, minD, intsD, eqAll, tupD, splice, Nat.zero_add, Nat.add_zero, Nat.zero_mul, Nat.mul_one, Nat.one_mul, Nat.reduceAdd, Nat.reduceSub, Nat.reduceMul, Nat.reduceLT, Nat.reduceLeDiff, Nat.reduceEqDiff, true_and, and_true, true_implies, if_true, if_false, ite_true, reduceIte, ne_eq, not_false_eq_true, reduceCtorEq, forall_const, bne_self_eq_false, Bool.true_eq_false, Bool.false_eq_true, false_implies, and_self, implies_true, Int.toNat_zero, beq_self_eq_true, decide_true, decide_false, Bool.not_true, Bool.not_false, ↓y_call, q1]
        refine adrawq hmix [[], [], [], [], [], [], [], [], [], [], [n + 2]] ?_
        simp (maxSteps := 400000) -implicitDefEqProofs only [↓symPre, symPost, y_condP, y_condG, run, lver, minD, intsD, eqAll, tupD, splice, Nat.zero_add, Nat.add_zero, Nat.zero_mul, Nat.mul_one, Nat.one_mul, Nat.reduceAdd, Nat.reduceSub, Nat.reduceMul, Nat.reduceLT, Nat.reduceLeDiff, Nat.reduceEqDiff, true_and, and_true, true_implies, if_true, if_false, ite_true, reduceIte, ne_eq, not_false_eq_true, reduceCtorEq, forall_const, bne_self_eq_false, Bool.true_eq_false, Bool.false_eq_true, false_implies, and_self, implies_true, Int.toNat_zero, beq_self_eq_true, decide_true, decide_false, Bool.not_true, Bool.not_false, ↓y_call, ↓drawPre, drawPost, isCall, isNew, isEff, Option.toList, or_false, false_or, cond_true, cond_false, not_true_eq_false, or_true, true_or, Nat.add_left_cancel_iff, Bool.false_eq_true, List.length_map, srcOf, Nat.le_refl, hf8, hCt, hi0, hi1, hei, Int.toNat_natCast, List.getD_cons_succ, List.getD_cons_zero]
        refine ⟨by rintro c rfl; rfl, by rintro c (rfl | rfl | rfl) <;> rfl, (m2, br, bt, bk, P ++ [(i : Int)], v + 1), ⟨c2, ?_, by simp only [List.length_append, List.length_cons, List.length_nil]; omega, by simp only; omega⟩, hsi2, ?_⟩
        · simp only [List.append_assoc, List.cons_append, List.nil_append]
          rw [← hP, ← hlk]
        simp only [List.map_append, List.map_cons, List.map_nil]
        refine le_to ([.hole, .hole, .old 2] ++ List.replicate 43 .hole ++ [.old 46] ++ List.replicate 6 .hole) hl rfl ?_ ?_ <;> ((try simp only [y_blk_end, y_blk_hole, y_blk_nil, y_blk_old, y_wkl_end, y_wkl_top, List.replicate, List.cons_append, List.nil_append, and_true, true_and]) <;> (repeat' (first | apply And.intro | apply y_wkl | refine Exists.intro _ (And.intro rfl ?_))) <;> (try first | exact trivial | exact Wk.top _ | exact wk_int rfl | exact wk_bool rfl | exact wk_ptr rfl rfl rfl rfl | exact wk_ref rfl rfl rfl rfl rfl | exact wk_nil rfl rfl rfl | exact wk_ref rfl rfl rfl rfl (by simp) | exact wk_ref rfl rfl rfl rfl (by simp; omega) | exact wk_old (by assumption) (by simp) | exact wk_eq rfl (by first | exact Bd.int _ _ | exact Bd.bool _ | exact Bd.abool | exact Bd.nils | exact Bd.emp | exact Bd.nilp | exact Bd.nilfn | assumption | exact low_trees _ _ | exact low_treeD _ _ | exact low_ints _ _) | exact Nat.le_refl _ | exact wk_int (by simp) | exact wk_int (by omega) | exact Nat.succ_le_succ (Nat.zero_le _) | exact Nat.le_add_left _ _ | omega))
        exact WkL.app (WkL.low (low_iD n P)) (y_wkl (wk_int rfl) trivial)
      · have q1 : decide ((m2 : Int) ≥ ((wordL ck[i]).length : Int)) = true := by simp; omega
        rw [if_neg c2] at hlk
        have hi' : i + 1 < ck.length := by
          rcases Nat.lt_or_ge (i + 1) ck.length with h | h
          · exact h
          · rw [List.drop_eq_nil_of_le h, wlen_nil] at hm2; omega
        have w1 : IntKind.i64.wrap ((i : Int) + 1) = ((i + 1 : Nat) : Int) := by rw [IntWalk.i64_in _ (by omega)]; omega
        have w2 : IntKind.i64.wrap ((m2 : Int) - ((wordL ck[i]).length : Int)) = ((m2 - (wordL ck[i]).length : Nat) : Int) := by rw [IntWalk.i64_in _ (by omega)]; omega
        have hei' := nth_map_tree ck (i + 1) hi'
        have hsi' := size_kid (List.getElem_mem hi')
        have pwi := pure_Word ck[i + 1] (by omega)
        have hj0 : (0 : Int) ≤ ((i + 1 : Nat) : Int) := by omega
        have hj1 : ((i + 1 : Nat) : Int) < (ck.length : Int) := by omega
        have hgd' : ck[i + 1]? = some ck[i + 1] := by simp [hi']
        generalize (wordL ck[i]).length = wl at *
        generalize ck[i + 1] = kk at *
        obtain ⟨br, bt, bk, rfl⟩ : ∃ r' t' k', kk = .mk r' t' k' := by cases h : kk; exact ⟨_, _, _, rfl⟩
        rw [treeD_mk] at hei' pwi
        simp -implicitDefEqProofs only [↓symPre, symPost, y_condP, y_condG, run, lver, minD, intsD, eqAll, tupD, splice, Nat.zero_add, Nat.add_zero, Nat.zero_mul, Nat.mul_one, Nat.one_mul, Nat.reduceAdd, Nat.reduceSub, Nat.reduceMul, Nat.reduceLT, Nat.reduceLeDiff, Nat.reduceEqDiff, true_and, and_true, true_implies, if_true, if_false, ite_true, reduceIte, ne_eq, not_false_eq_true, reduceCtorEq, forall_const, bne_self_eq_false, Bool.true_eq_false, Bool.false_eq_true, false_implies, and_self, implies_true, Int.toNat_zero, beq_self_eq_true, decide_true, decide_false, Bool.not_true, Bool.not_false, ↓y_call, q1, w1, w2, hj0, hj1, List.length_map, Int.toNat_natCast, hei']
        refine pwi.call rfl ?_
        simp -implicitDefEqProofs only [↓symPre, symPost, y_condP, y_condG, run, lver, minD, intsD, eqAll, tupD, splice, Nat.zero_add, Nat.add_zero, Nat.zero_mul, Nat.mul_one, Nat.one_mul, Nat.reduceAdd, Nat.reduceSub, Nat.reduceMul, Nat.reduceLT, Nat.reduceLeDiff, Nat.reduceEqDiff, true_and, and_true, true_implies, if_true, if_false, ite_true, reduceIte, ne_eq, not_false_eq_true, reduceCtorEq, forall_const, bne_self_eq_false, Bool.true_eq_false, Bool.false_eq_true, false_implies, and_self, implies_true, Int.toNat_zero, beq_self_eq_true, decide_true, decide_false, Bool.not_true, Bool.not_false, ↓y_call, List.length_map]
        refine ⟨(i + 1, m2 - wl, (wordL (.mk br bt bk)).length), ⟨hi', by simp only; omega, by simp only; omega, hlk, fun k hk => by simp only at hk ⊢; rw [hgd'] at hk; injection hk with hk; rw [← hk]⟩, by simp only; omega, ?_⟩
        refine le_to ([.hole, .hole, .old 2] ++ List.replicate 43 .hole ++ [.old 46] ++ List.replicate 6 .hole) hl rfl ?_ ?_ <;> ((try simp only [y_blk_end, y_blk_hole, y_blk_nil, y_blk_old, y_wkl_end, y_wkl_top, List.replicate, List.cons_append, List.nil_append, and_true, true_and]) <;> (repeat' (first | apply And.intro | apply y_wkl | refine Exists.intro _ (And.intro rfl ?_))) <;> (try first | exact trivial | exact Wk.top _ | exact wk_int rfl | exact wk_bool rfl | exact wk_ptr rfl rfl rfl rfl | exact wk_ref rfl rfl rfl rfl rfl | exact wk_nil rfl rfl rfl | exact wk_ref rfl rfl rfl rfl (by simp) | exact wk_ref rfl rfl rfl rfl (by simp; omega) | exact wk_old (by assumption) (by simp) | exact wk_eq rfl (by first | exact Bd.int _ _ | exact Bd.bool _ | exact Bd.abool | exact Bd.nils | exact Bd.emp | exact Bd.nilp | exact Bd.nilfn | assumption | exact low_trees _ _ | exact low_treeD _ _ | exact low_ints _ _) | exact Nat.le_refl _ | exact wk_int (by simp) | exact wk_int (by omega) | exact Nat.succ_le_succ (Nat.zero_le _) | exact Nat.le_add_left _ _ | omega))
        exact WkL.low (low_iD n P)

end Abs
end Go.Proofs.Ytfojedaccfenfaa

/- parlkeep4.Path: the path of a node. -/
import Derived.Test.YtokdeeagghhliaaP3
namespace Go.Proofs.Ytokdeeagghhliaa
namespace Abs
set_option linter.unusedVariables false
set_option linter.unusedSimpArgs false
set_option maxRecDepth 20000

theorem size_kid {ks : List Tree} {k : Tree} (h : k ∈ ks) : size k ≤ (ks.map size).sum := by
  induction ks with
  | nil => simp at h
  | cons x ks ih =>
    rcases List.mem_cons.1 h with rfl | h
    · simp
    · have := ih h; simp; omega

theorem below_cons {r t : Int} {ks : List Tree} {j : Nat} {k : Tree} {p : List Int} (hr : r ≠ -1) (hk : ks[j]? = some k) : belowT (.mk r t ks) ((j : Int) :: p) = belowT k p := by
  have : ¬ (j : Int) < 0 := by omega
  simp [belowT, kidT, hr, this, hk]

theorem kid_size {t k : Tree} {i : Int} (h : kidT t i = some k) : size k + 1 ≤ size t := by
  obtain ⟨r, tm, ks, rfl⟩ : ∃ r t' k, t = .mk r t' k := by cases t; exact ⟨_, _, _, rfl⟩
  simp only [kidT] at h
  by_cases hn : r = -1 ∨ i < 0
  · rw [if_pos hn] at h; cases h
  · rw [if_neg hn] at h
    have := size_kid (List.mem_of_getElem? h)
    rw [size_mk, if_neg (by omega)]
    omega
theorem below_len : ∀ (p : List Int) (t s : Tree), belowT t p = some s → p.length + size s ≤ size t
  | [], t, s, h => by simp [belowT] at h; subst h; simp
  | i :: p, t, s, h => by
    simp only [belowT, Option.bind_eq_some_iff] at h
    obtain ⟨k, h1, h2⟩ := h
    have := below_len p k s h2
    have := kid_size h1
    simp; omega

theorem nextL_len (l : List Int) (k : Int) : (nextL l k).length ≤ l.length := by
  unfold nextL
  split
  · simp
  · split <;> simp

theorem below_app4 : ∀ (p : List Int) (t s : Tree) (q : List Int), belowT t p = some s → belowT t (p ++ q) = belowT s q
  | [], t, s, q, h => by simp [belowT] at h; subst h; rfl
  | i :: p, t, s, q, h => by
    simp only [belowT, Option.bind_eq_some_iff] at h
    obtain ⟨k, h1, h2⟩ := h
    rw [List.cons_append, belowT, h1, Option.bind_some]
    exact below_app4 p k s q h2

set_option maxHeartbeats 4000000 in
theorem at_Path (t : Tree) (l : List Int) (hsz : size t * 40 ≤ 140737488355328) (hlen : l.length < 2 ^ 60) (n : Nat) (h : Heap) : ACalls prog F_parlkeep4_Path [treeD t, iD l] n h fun d h' x => h' = h ∧ x = [] ∧ ∃ (P : List Int) (s : Tree), belowT t P = some s ∧ d = iD P := by
  obtain ⟨r0, t0, k0, ht⟩ : ∃ r t' k, t = .mk r t' k := by cases t; exact ⟨_, _, _, rfl⟩
  have htD : treeD t = .agg [.int .i64 r0, .int .i64 t0, .lst (k0.map treeD)] := by rw [ht, treeD_mk]
  rw [htD]
  refine K_parlkeep4_Path.calls fun hl => ?_
  unfold C_parlkeep4_Path
  simp -implicitDefEqProofs only [↓symPre, symPost, y_condP, y_condG, run, lver, minD, intsD, eqAll, tupD, splice, Nat.zero_add, Nat.add_zero, Nat.zero_mul, Nat.mul_one, Nat.one_mul, Nat.reduceAdd, Nat.reduceSub, Nat.reduceMul, Nat.reduceLT, Nat.reduceLeDiff, Nat.reduceEqDiff, true_and, and_true, true_implies, if_true, if_false, ite_true, reduceIte, ne_eq, not_false_eq_true, reduceCtorEq, forall_const, bne_self_eq_false, Bool.true_eq_false, Bool.false_eq_true, false_implies, and_self, implies_true, Int.toNat_zero, beq_self_eq_true, decide_true, decide_false, Bool.not_true, Bool.not_false, ↓y_lookv, y_key1, y_mlook, y_mlookn, y_mres1, y_mres0, ↓y_call]
  refine aloop (fun q : Int × Int × List Tree × List Int × List Int × Nat => St.mk n ([.top, .top, .ptr (n + 2) 1 0, .top, .top, .ptr (n + 10) 1 0, .ref 1 (n + 33) q.2.2.2.2.2 0 q.2.2.2.1.length] ++ List.replicate 33 .top) h
      ([blk0, blk0, ⟨1, .cells [.int .i64 q.1, .int .i64 q.2.1, .lst (q.2.2.1.map treeD)]⟩] ++ List.replicate 7 blk0 ++ [⟨1, .cells [iD q.2.2.2.2.1]⟩] ++ List.replicate 22 blk0 ++ [⟨q.2.2.2.2.2, .cells (q.2.2.2.1.map (.int .i64))⟩] ++ List.replicate 6 blk0))
      (fun q => belowT t q.2.2.2.1 = some (.mk q.1 q.2.1 q.2.2.1) ∧ q.2.2.2.2.1.length < 2 ^ 60 ∧ 1 ≤ q.2.2.2.2.2) (fun q => size (.mk q.1 q.2.1 q.2.2.1)) (r0, t0, k0, [], l, 1) ⟨by rw [ht]; rfl, hlen, Nat.le_refl _⟩ ?_ ?_
  · refine le_to ([.hole, .hole, .old 2] ++ List.replicate 7 .hole ++ [.old 10] ++ List.replicate 22 .hole ++ [.nil] ++ List.replicate 6 .hole) hl rfl ?_ ?_ <;> ((try simp only [y_blk_end, y_blk_hole, y_blk_nil, y_blk_old, y_wkl_end, y_wkl_top, List.replicate, List.cons_append, List.nil_append, and_true, true_and]) <;> (repeat' (first | apply And.intro | apply y_wkl | refine Exists.intro _ (And.intro rfl ?_))) <;> (try first | exact trivial | exact Wk.top _ | exact wk_int rfl | exact wk_bool rfl | exact wk_ptr rfl rfl rfl rfl | exact wk_ref rfl rfl rfl rfl rfl | exact wk_nil rfl rfl rfl | exact wk_ref rfl rfl rfl rfl (by simp) | exact wk_ref rfl rfl rfl rfl (by simp; omega) | exact wk_old (by assumption) (by simp) | exact wk_eq rfl (by first | exact Bd.int _ _ | exact Bd.bool _ | exact Bd.abool | exact Bd.nils | exact Bd.emp | exact Bd.nilp | exact Bd.nilfn | assumption | exact low_trees _ _ | exact low_treeD _ _ | exact low_ints _ _) | exact Nat.le_refl _ | exact wk_int (by simp) | exact wk_int (by omega) | exact Nat.succ_le_succ (Nat.zero_le _) | exact Nat.le_add_left _ _ | omega))
  · rintro ⟨cr, ct, ck, P, L, v⟩ ⟨hb, hL, hv⟩
    simp only at hb hL hv
    have hbl := below_len P t _ hb
    have done : ∀ {sl : List D} {lc : List Blk}, lc[33]? = some ⟨v, .cells (P.map (.int .i64))⟩ → Fin (St.mk n sl h lc) (fun d h' x => h' = h ∧ x = [] ∧ ∃ (P : List Int) (s : Tree), belowT t P = some s ∧ d = iD P) [.ref 1 (n + 33) v 0 P.length] := fun {sl lc} hbk =>
      fin_wk hl (wk_ints (t := 33) hbk rfl) ⟨rfl, rfl, P, _, hb, rfl⟩
    by_cases c1 : cr ≥ 0
    rotate_left
    · simp -implicitDefEqProofs only [↓symPre, symPost, y_condP, y_condG, run, lver, minD, intsD, eqAll, tupD, splice, Nat.zero_add, Nat.add_zero, Nat.zero_mul, Nat.mul_one, Nat.one_mul, Nat.reduceAdd, Nat.reduceSub, Nat.reduceMul, Nat.reduceLT, Nat.reduceLeDiff, Nat.reduceEqDiff, true_and, and_true, true_implies, if_true, if_false, ite_true, reduceIte, ne_eq, not_false_eq_true, reduceCtorEq, forall_const, bne_self_eq_false, Bool.true_eq_false, Bool.false_eq_true, false_implies, and_self, implies_true, Int.toNat_zero, beq_self_eq_true, decide_true, decide_false, Bool.not_true, Bool.not_false, ↓y_lookv, y_key1, y_mlook, y_mlookn, y_mres1, y_mres0, ↓y_call, c1]
      exact done rfl
    by_cases c2 : (ck.length : Int) > 0
    rotate_left
    · simp -implicitDefEqProofs only [↓symPre, symPost, y_condP, y_condG, run, lver, minD, intsD, eqAll, tupD, splice, Nat.zero_add, Nat.add_zero, Nat.zero_mul, Nat.mul_one, Nat.one_mul, Nat.reduceAdd, Nat.reduceSub, Nat.reduceMul, Nat.reduceLT, Nat.reduceLeDiff, Nat.reduceEqDiff, true_and, and_true, true_implies, if_true, if_false, ite_true, reduceIte, ne_eq, not_false_eq_true, reduceCtorEq, forall_const, bne_self_eq_false, Bool.true_eq_false, Bool.false_eq_true, false_implies, and_self, implies_true, Int.toNat_zero, beq_self_eq_true, decide_true, decide_false, Bool.not_true, Bool.not_false, ↓y_lookv, y_key1, y_mlook, y_mlookn, y_mres1, y_mres0, ↓y_call, c1, c2, List.length_map]
      exact done rfl
    simp -implicitDefEqProofs only [↓symPre, symPost, y_condP, y_condG, run, lver, minD, intsD, eqAll, tupD, splice, Nat.zero_add, Nat.add_zero, Nat.zero_mul, Nat.mul_one, Nat.one_mul, Nat.reduceAdd, Nat.reduceSub, Nat.reduceMul, Nat.reduceLT, Nat.reduceLeDiff, Nat.reduceEqDiff, true_and, and_true, true_implies, if_true, if_false, ite_true, reduceIte, ne_eq, not_false_eq_true, reduceCtorEq, forall_const, bne_self_eq_false, Bool.true_eq_false, Bool.false_eq_true, false_implies, and_self, implies_true, Int.toNat_zero, beq_self_eq_true, decide_true, decide_false, Bool.not_true, Bool.not_false, ↓y_lookv, y_key1, y_mlook, y_mlookn, y_mres1, y_mres0, ↓y_call, c1, c2, List.length_map]
    refine ACalls.one (r := .int .i64 (nextV L 4)) 10 ⟨1, .cells [iD (nextL L 4)]⟩ rfl rfl (by simp) (at_next L 4 (by omega) hL (by omega) (by rw [mrg_loc]; rfl)) ?_
    have hL2 := nextL_len L 4
    generalize nextL L 4 = L2 at *
    by_cases c3 : nextV L 4 > 0
    rotate_left
    · simp -implicitDefEqProofs only [↓symPre, symPost, y_condP, y_condG, run, lver, minD, intsD, eqAll, tupD, splice, Nat.zero_add, Nat.add_zero, Nat.zero_mul, Nat.mul_one, Nat.one_mul, Nat.reduceAdd, Nat.reduceSub, Nat.reduceMul, Nat.reduceLT, Nat.reduceLeDiff, Nat.reduceEqDiff, true_and, and_true, true_implies, if_true, if_false, ite_true, reduceIte, ne_eq, not_false_eq_true, reduceCtorEq, forall_const, bne_self_eq_false, Bool.true_eq_false, Bool.false_eq_true, false_implies, and_self, implies_true, Int.toNat_zero, beq_self_eq_true, decide_true, decide_false, Bool.not_true, Bool.not_false, ↓y_lookv, y_key1, y_mlook, y_mlookn, y_mres1, y_mres0, ↓y_call, c3]
      exact done rfl
    simp -implicitDefEqProofs only [↓symPre, symPost, y_condP, y_condG, run, lver, minD, intsD, eqAll, tupD, splice, Nat.zero_add, Nat.add_zero, Nat.zero_mul, Nat.mul_one, Nat.one_mul, Nat.reduceAdd, Nat.reduceSub, Nat.reduceMul, Nat.reduceLT, Nat.reduceLeDiff, Nat.reduceEqDiff, true_and, and_true, true_implies, if_true, if_false, ite_true, reduceIte, ne_eq, not_false_eq_true, reduceCtorEq, forall_const, bne_self_eq_false, Bool.true_eq_false, Bool.false_eq_true, false_implies, and_self, implies_true, Int.toNat_zero, beq_self_eq_true, decide_true, decide_false, Bool.not_true, Bool.not_false, ↓y_lookv, y_key1, y_mlook, y_mlookn, y_mres1, y_mres0, ↓y_call, c3, List.length_map]
    have hsz2 := size_mk cr ct ck
    rw [if_neg (by omega)] at hsz2
    have hkl := len_le_sum ck
    refine ACalls.one (r := .int .i64 (nextV L2 ck.length)) 10 ⟨1, .cells [iD (nextL L2 ck.length)]⟩ rfl rfl (by simp) (at_next L2 ck.length (by omega) (by omega) (by omega) (by rw [mrg_loc]; rfl)) ?_
    have hL3 := nextL_len L2 ck.length
    have hr := nextV_range L2 ck.length
    generalize nextL L2 ck.length = L3 at *
    generalize nextV L2 ck.length = jj at *
    obtain ⟨j, rfl⟩ : ∃ j : Nat, jj = j := ⟨jj.toNat, by omega⟩
    have hj : j < ck.length := by omega
    have hei := nth_map_tree ck j hj
    have hkj : ck[j]? = some ck[j] := by simp [hj]
    have hsj := size_kid (List.getElem_mem hj)
    generalize ck[j] = kk at *
    obtain ⟨br, bt, bk, rfl⟩ : ∃ r' t' k', kk = .mk r' t' k' := by cases h : kk; exact ⟨_, _, _, rfl⟩
    rw [treeD_mk] at hei
    have hi0 : (0 : Int) ≤ (j : Int) := by omega
    have hi1 : (j : Int) < (ck.length : Int) := by omega
    have hf8 : (P.length + 1) * 8 ≤ 140737488355328 := by omega
    have hCt := take_all (P.map (D.int .i64)) (k := P.length) (by simp)
    simp -implicitDefEqProofs only [↓symPre, symPost, y_condP, y_condG, run, lver, minD, intsD, eqAll, tupD, splice, Nat.zero_add, Nat.add_zero, Nat.zero_mul, Nat.mul_one, Nat.one_mul, Nat.reduceAdd, Nat.reduceSub, Nat.reduceMul, Nat.reduceLT, Nat.reduceLeDiff, Nat.reduceEqDiff, true_and, and_true, true_implies, if_true, if_false, ite_true, reduceIte, ne_eq, not_false_eq_true, reduceCtorEq, forall_const, bne_self_eq_false, Bool.true_eq_false, Bool.false_eq_true, false_implies, and_self, implies_true, Int.toNat_zero, beq_self_eq_true, decide_true, decide_false, Bool.not_true, Bool.not_false, ↓y_lookv, y_key1, y_mlook, y_mlookn, y_mres1, y_mres0, ↓y_call]
    refine adrawq hmix [[], [], [], [], [], [], [], [], [], [], [n + 2]] ?_
    simp (maxSteps := 400000) -implicitDefEqProofs only [↓symPre, symPost, y_condP, y_condG, run, lver, minD, intsD, eqAll, tupD, splice, Nat.zero_add, Nat.add_zero, Nat.zero_mul, Nat.mul_one, Nat.one_mul, Nat.reduceAdd, Nat.reduceSub, Nat.reduceMul, Nat.reduceLT, Nat.reduceLeDiff, Nat.reduceEqDiff, true_and, and_true, true_implies, if_true, if_false, ite_true, reduceIte, ne_eq, not_false_eq_true, reduceCtorEq, forall_const, bne_self_eq_false, Bool.true_eq_false, Bool.false_eq_true, false_implies, and_self, implies_true, Int.toNat_zero, beq_self_eq_true, decide_true, decide_false, Bool.not_true, Bool.not_false, ↓y_lookv, y_key1, y_mlook, y_mlookn, y_mres1, y_mres0, ↓y_call, ↓y_adq0, ↓y_adq, ↓y_stepQ_call, ↓y_adq_onT, ↓y_adq_onF, ↓y_adq_onS, drawPost, isCall, isNew, isEff, Option.toList, or_false, false_or, cond_true, cond_false, not_true_eq_false, or_true, true_or, Nat.add_left_cancel_iff, Bool.false_eq_true, ↓y_q0, ↓y_q1, ↓y_q1e, y_qn, isMap, List.length_map, srcOf, Nat.le_refl, hf8, hCt, hi0, hi1, hei, Int.toNat_natCast, List.getD_cons_succ, List.getD_cons_zero]
    refine ⟨by rintro c rfl; rfl, by rintro c (rfl | rfl | rfl) <;> rfl, (br, bt, bk, P ++ [(j : Int)], L3, v + 1), ⟨?_, by simp only; omega, by simp only; omega⟩, by simp only; omega, ?_⟩
    · simp only
      rw [below_app4 P t _ _ hb, below_cons (by omega) hkj]
      rfl
    simp only [List.length_append, List.length_cons, List.length_nil, List.map_append, List.map_cons, List.map_nil]
    refine le_to ([.hole, .hole, .old 2] ++ List.replicate 7 .hole ++ [.old 10] ++ List.replicate 22 .hole ++ [.old 33] ++ List.replicate 6 .hole) hl rfl ?_ ?_ <;> ((try simp only [y_blk_end, y_blk_hole, y_blk_nil, y_blk_old, y_wkl_end, y_wkl_top, List.replicate, List.cons_append, List.nil_append, and_true, true_and]) <;> (repeat' (first | apply And.intro | apply y_wkl | refine Exists.intro _ (And.intro rfl ?_))) <;> (try first | exact trivial | exact Wk.top _ | exact wk_int rfl | exact wk_bool rfl | exact wk_ptr rfl rfl rfl rfl | exact wk_ref rfl rfl rfl rfl rfl | exact wk_nil rfl rfl rfl | exact wk_ref rfl rfl rfl rfl (by simp) | exact wk_ref rfl rfl rfl rfl (by simp; omega) | exact wk_old (by assumption) (by simp) | exact wk_eq rfl (by first | exact Bd.int _ _ | exact Bd.bool _ | exact Bd.abool | exact Bd.nils | exact Bd.emp | exact Bd.nilp | exact Bd.nilfn | assumption | exact low_trees _ _ | exact low_treeD _ _ | exact low_ints _ _) | exact Nat.le_refl _ | exact wk_int (by simp) | exact wk_int (by omega) | exact Nat.succ_le_succ (Nat.zero_le _) | exact Nat.le_add_left _ _ | omega))
    exact WkL.app (WkL.low (low_iD n P)) (y_wkl (wk_int rfl) trivial)

end Abs
end Go.Proofs.Ytokdeeagghhliaa


/- What Compose and Over say of edits that do not fit. -/
import Derived.Test.YtcdbikoonobodaaD11
namespace Go.Proofs.Ytcdbikoonobodaa
namespace Abs
set_option linter.unusedVariables false
set_option linter.unusedSimpArgs false
set_option maxRecDepth 20000

theorem pure_ComposeErr1 {w : List Int} {a b : Ed} (hw : w.length * 8 ≤ 140737488351232) (ha : a.w.length * 8 ≤ 140737488351232) (h1 : chk w.length a ≠ 0) :
    Pure prog F_edit_Compose [iD w, edD a, edD b] (.tup [edD ed0, .int .i64 (chk w.length a)]) := by
  intro n h
  have pA := pure_Apply w a (by omega) (by omega)
  have hb' : (chk w.length a != 0) = true := by simpa using h1
  refine K_edit_Compose.calls fun hl => ?_
  unfold C_edit_Compose
  unfold ed0
  unfold edD at pA ⊢
  simp -implicitDefEqProofs only [↓symPre, symPost, y_condP, y_condG, run, lver, minD, intsD, eqAll, tupD, splice, Nat.zero_add, Nat.add_zero, Nat.zero_mul, Nat.mul_one, Nat.one_mul, Nat.reduceAdd, Nat.reduceSub, Nat.reduceMul, Nat.reduceLT, Nat.reduceLeDiff, Nat.reduceEqDiff, true_and, and_true, true_implies, if_true, if_false, ite_true, reduceIte, ne_eq, not_false_eq_true, reduceCtorEq, forall_const, bne_self_eq_false, Bool.true_eq_false, Bool.false_eq_true, false_implies, and_self, implies_true, Int.toNat_zero, beq_self_eq_true, decide_true, decide_false, Bool.not_true, Bool.not_false, ↓y_lookv, y_key1, y_mlook, y_mlookn, y_mres1, y_mres0, ↓y_call]
  refine pA.call rfl ?_
  simp -implicitDefEqProofs only [↓symPre, symPost, y_condP, y_condG, run, lver, minD, intsD, eqAll, tupD, splice, Nat.zero_add, Nat.add_zero, Nat.zero_mul, Nat.mul_one, Nat.one_mul, Nat.reduceAdd, Nat.reduceSub, Nat.reduceMul, Nat.reduceLT, Nat.reduceLeDiff, Nat.reduceEqDiff, true_and, and_true, true_implies, if_true, if_false, ite_true, reduceIte, ne_eq, not_false_eq_true, reduceCtorEq, forall_const, bne_self_eq_false, Bool.true_eq_false, Bool.false_eq_true, false_implies, and_self, implies_true, Int.toNat_zero, beq_self_eq_true, decide_true, decide_false, Bool.not_true, Bool.not_false, ↓y_lookv, y_key1, y_mlook, y_mlookn, y_mres1, y_mres0, ↓y_call, hb']
  exact fin_wk hl (wk_tup2 (wk_agg3 wk_i wk_i .nilsLst) wk_i) ⟨rfl, rfl, rfl⟩

theorem pure_ComposeErr2 {w : List Int} {a b : Ed} (hw : w.length * 8 ≤ 140737488351232) (ha : a.w.length * 8 ≤ 140737488351232) (hb : b.w.length * 8 ≤ 140737488351232) (h1 : chk w.length a = 0) (h2 : chk (applyL w a).length b ≠ 0) :
    Pure prog F_edit_Compose [iD w, edD a, edD b] (.tup [edD ed0, .int .i64 (chk (applyL w a).length b)]) := by
  intro n h
  have l1 := len_applyL (chk_ok h1)
  obtain ⟨a1, a2, a3⟩ := chk_ok h1
  have z1 := (chk_zero h1).2
  have hsa : shiftE a = a.w.length - (a.t - a.f) := rfl
  have pA := pure_ApplyOk (w := w) (e := a) (by omega) (by omega) h1
  have pB := pure_Apply (applyL w a) b (by omega) (by omega)
  have hb' : (chk (applyL w a).length b != 0) = true := by simpa using h2
  refine K_edit_Compose.calls fun hl => ?_
  unfold C_edit_Compose
  unfold ed0
  unfold edD at pA pB ⊢
  simp -implicitDefEqProofs only [↓symPre, symPost, y_condP, y_condG, run, lver, minD, intsD, eqAll, tupD, splice, Nat.zero_add, Nat.add_zero, Nat.zero_mul, Nat.mul_one, Nat.one_mul, Nat.reduceAdd, Nat.reduceSub, Nat.reduceMul, Nat.reduceLT, Nat.reduceLeDiff, Nat.reduceEqDiff, true_and, and_true, true_implies, if_true, if_false, ite_true, reduceIte, ne_eq, not_false_eq_true, reduceCtorEq, forall_const, bne_self_eq_false, Bool.true_eq_false, Bool.false_eq_true, false_implies, and_self, implies_true, Int.toNat_zero, beq_self_eq_true, decide_true, decide_false, Bool.not_true, Bool.not_false, ↓y_lookv, y_key1, y_mlook, y_mlookn, y_mres1, y_mres0, ↓y_call]
  refine pA.call rfl ?_
  simp -implicitDefEqProofs only [↓symPre, symPost, y_condP, y_condG, run, lver, minD, intsD, eqAll, tupD, splice, Nat.zero_add, Nat.add_zero, Nat.zero_mul, Nat.mul_one, Nat.one_mul, Nat.reduceAdd, Nat.reduceSub, Nat.reduceMul, Nat.reduceLT, Nat.reduceLeDiff, Nat.reduceEqDiff, true_and, and_true, true_implies, if_true, if_false, ite_true, reduceIte, ne_eq, not_false_eq_true, reduceCtorEq, forall_const, bne_self_eq_false, Bool.true_eq_false, Bool.false_eq_true, false_implies, and_self, implies_true, Int.toNat_zero, beq_self_eq_true, decide_true, decide_false, Bool.not_true, Bool.not_false, ↓y_lookv, y_key1, y_mlook, y_mlookn, y_mres1, y_mres0, ↓y_call]
  refine pB.call rfl ?_
  simp -implicitDefEqProofs only [↓symPre, symPost, y_condP, y_condG, run, lver, minD, intsD, eqAll, tupD, splice, Nat.zero_add, Nat.add_zero, Nat.zero_mul, Nat.mul_one, Nat.one_mul, Nat.reduceAdd, Nat.reduceSub, Nat.reduceMul, Nat.reduceLT, Nat.reduceLeDiff, Nat.reduceEqDiff, true_and, and_true, true_implies, if_true, if_false, ite_true, reduceIte, ne_eq, not_false_eq_true, reduceCtorEq, forall_const, bne_self_eq_false, Bool.true_eq_false, Bool.false_eq_true, false_implies, and_self, implies_true, Int.toNat_zero, beq_self_eq_true, decide_true, decide_false, Bool.not_true, Bool.not_false, ↓y_lookv, y_key1, y_mlook, y_mlookn, y_mres1, y_mres0, ↓y_call, hb']
  exact fin_wk hl (wk_tup2 (wk_agg3 wk_i wk_i .nilsLst) wk_i) ⟨rfl, rfl, rfl⟩

set_option maxHeartbeats 2000000 in
theorem pure_OverErr1 {m : Nat} {a b : Ed} (hm : m * 8 ≤ 140737488351232) (ha : a.w.length * 8 ≤ 140737488351232) (hb : b.w.length * 8 ≤ 140737488351232) (h1 : chk m a ≠ 0) :
    Pure prog F_edit_Over [.int .i64 m, edD a, edD b] (.tup [edD ed0, .int .i64 (chk m a)]) := by
  intro n h
  have pA := pure_Check m a (by omega) (by omega)
  have pB := pure_Check m b (by omega) (by omega)
  have pE : ∀ X : Ed, chk m X ≠ 0 → (chk m X != 0) = true := fun X hX => by simpa using hX
  refine K_edit_Over.calls fun hl => ?_
  obtain ⟨af, at', aw⟩ := a
  obtain ⟨bf, bt, bw⟩ := b
  unfold C_edit_Over
  unfold ed0
  unfold edD at pA pB ⊢
  simp only at pA pB ha hb ⊢
  unfold iD at *
  simp -implicitDefEqProofs only [↓symPre, symPost, y_condP, y_condG, run, lver, minD, intsD, eqAll, tupD, splice, Nat.zero_add, Nat.add_zero, Nat.zero_mul, Nat.mul_one, Nat.one_mul, Nat.reduceAdd, Nat.reduceSub, Nat.reduceMul, Nat.reduceLT, Nat.reduceLeDiff, Nat.reduceEqDiff, true_and, and_true, true_implies, if_true, if_false, ite_true, reduceIte, ne_eq, not_false_eq_true, reduceCtorEq, forall_const, bne_self_eq_false, Bool.true_eq_false, Bool.false_eq_true, false_implies, and_self, implies_true, Int.toNat_zero, beq_self_eq_true, decide_true, decide_false, Bool.not_true, Bool.not_false, ↓y_lookv, y_key1, y_mlook, y_mlookn, y_mres1, y_mres0, ↓y_call]
  refine aloop (fun i : Nat => St.mk n ([.int .i64 m, .top, .top, .top, .ptr (n + 4) 1 0, .ptr (n + 5) 1 0, .ptr (n + 6) 1 0, .int .i64 0] ++ List.replicate 6 .top ++ [.ref 3 (n + 14) 1 0 2, .int .i64 2, .int .i64 i] ++ List.replicate 73 .top) h
      (List.replicate 4 blk0 ++ [⟨1, .cells [.int .i64 af, .int .i64 at', iD aw]⟩, ⟨1, .cells [.int .i64 bf, .int .i64 bt, iD bw]⟩, ⟨1, .cells [.int .i64 0, .int .i64 0, .nils]⟩] ++ List.replicate 7 blk0 ++
        [⟨1, .cells [.int .i64 af, .int .i64 at', iD aw, .int .i64 bf, .int .i64 bt, iD bw]⟩] ++ List.replicate 75 blk0)) (fun i => i ≤ 0) (fun i => 2 - i) 0 (Nat.zero_le _) ?_ ?_
  · refine le_to (List.replicate 4 .hole ++ [.old 4, .old 5, .old 6] ++ List.replicate 7 .hole ++ [.old 14] ++ List.replicate 75 .hole) hl rfl ?_ ?_ <;> ((try simp only [y_blk_end, y_blk_hole, y_blk_nil, y_blk_old, y_wkl_end, y_wkl_top, List.replicate, List.cons_append, List.nil_append, and_true, true_and]) <;> (repeat' (first | apply And.intro | apply y_wkl | refine Exists.intro _ (And.intro rfl ?_))) <;> (try first | exact trivial | exact Wk.top _ | exact wk_int rfl | exact wk_bool rfl | exact wk_ptr rfl rfl rfl rfl | exact wk_ref rfl rfl rfl rfl rfl | exact wk_nil rfl rfl rfl | exact wk_ref rfl rfl rfl rfl (by simp) | exact wk_ref rfl rfl rfl rfl (by simp; omega) | exact wk_old (by assumption) (by simp) | exact wk_eq rfl (by first | exact Bd.int _ _ | exact Bd.bool _ | exact Bd.abool | exact Bd.nils | exact Bd.emp | exact Bd.nilp | exact Bd.nilfn | assumption | exact low_trees _ _ | exact low_treeD _ _ | exact low_ints _ _) | exact Nat.le_refl _ | exact wk_int (by simp) | exact wk_int (by omega) | exact Nat.succ_le_succ (Nat.zero_le _) | exact Nat.le_add_left _ _ | omega))
  · intro i hi
    rcases i with _ | i
    · have hz0 : ((0 : Nat) : Int) = 0 := rfl
      have hlt : (0 : Int) < 2 := by omega
      have w0 : IntKind.i64.wrap (0 + 1) = 1 := by rw [IntWalk.i64_in _ (by omega)]; omega
      have e2 : ((2 : Nat) : Int) = 2 := rfl
      simp -implicitDefEqProofs only [↓symPre, symPost, y_condP, y_condG, run, lver, minD, intsD, eqAll, tupD, splice, Nat.zero_add, Nat.add_zero, Nat.zero_mul, Nat.mul_one, Nat.one_mul, Nat.reduceAdd, Nat.reduceSub, Nat.reduceMul, Nat.reduceLT, Nat.reduceLeDiff, Nat.reduceEqDiff, true_and, and_true, true_implies, if_true, if_false, ite_true, reduceIte, ne_eq, not_false_eq_true, reduceCtorEq, forall_const, bne_self_eq_false, Bool.true_eq_false, Bool.false_eq_true, false_implies, and_self, implies_true, Int.toNat_zero, beq_self_eq_true, decide_true, decide_false, Bool.not_true, Bool.not_false, ↓y_lookv, y_key1, y_mlook, y_mlookn, y_mres1, y_mres0, ↓y_call, hz0, hlt, e2, Int.le_refl, decide_true, Nat.zero_lt_succ]
      refine pA.call rfl ?_
      have hbad := pE _ h1
      simp -implicitDefEqProofs only [↓symPre, symPost, y_condP, y_condG, run, lver, minD, intsD, eqAll, tupD, splice, Nat.zero_add, Nat.add_zero, Nat.zero_mul, Nat.mul_one, Nat.one_mul, Nat.reduceAdd, Nat.reduceSub, Nat.reduceMul, Nat.reduceLT, Nat.reduceLeDiff, Nat.reduceEqDiff, true_and, and_true, true_implies, if_true, if_false, ite_true, reduceIte, ne_eq, not_false_eq_true, reduceCtorEq, forall_const, bne_self_eq_false, Bool.true_eq_false, Bool.false_eq_true, false_implies, and_self, implies_true, Int.toNat_zero, beq_self_eq_true, decide_true, decide_false, Bool.not_true, Bool.not_false, ↓y_lookv, y_key1, y_mlook, y_mlookn, y_mres1, y_mres0, ↓y_call, hbad]
      repeat (refine And.intro (by intro c hc; first | (rcases hc with rfl | rfl | rfl <;> rfl) | (subst hc; rfl)) ?_)
      exact fin_wk hl (wk_tup2 (wk_agg3 wk_i wk_i .nilsLst) wk_i) ⟨rfl, rfl, rfl⟩
    · omega

set_option maxHeartbeats 2000000 in
theorem pure_OverErr2 {m : Nat} {a b : Ed} (hm : m * 8 ≤ 140737488351232) (ha : a.w.length * 8 ≤ 140737488351232) (hb : b.w.length * 8 ≤ 140737488351232) (h1 : chk m a = 0) (h2 : chk m b ≠ 0) :
    Pure prog F_edit_Over [.int .i64 m, edD a, edD b] (.tup [edD ed0, .int .i64 (chk m b)]) := by
  intro n h
  have pA := pure_Check m a (by omega) (by omega)
  have pB := pure_Check m b (by omega) (by omega)
  have pE : ∀ X : Ed, chk m X ≠ 0 → (chk m X != 0) = true := fun X hX => by simpa using hX
  refine K_edit_Over.calls fun hl => ?_
  obtain ⟨af, at', aw⟩ := a
  obtain ⟨bf, bt, bw⟩ := b
  unfold C_edit_Over
  unfold ed0
  unfold edD at pA pB ⊢
  simp only at pA pB ha hb ⊢
  unfold iD at *
  simp -implicitDefEqProofs only [↓symPre, symPost, y_condP, y_condG, run, lver, minD, intsD, eqAll, tupD, splice, Nat.zero_add, Nat.add_zero, Nat.zero_mul, Nat.mul_one, Nat.one_mul, Nat.reduceAdd, Nat.reduceSub, Nat.reduceMul, Nat.reduceLT, Nat.reduceLeDiff, Nat.reduceEqDiff, true_and, and_true, true_implies, if_true, if_false, ite_true, reduceIte, ne_eq, not_false_eq_true, reduceCtorEq, forall_const, bne_self_eq_false, Bool.true_eq_false, Bool.false_eq_true, false_implies, and_self, implies_true, Int.toNat_zero, beq_self_eq_true, decide_true, decide_false, Bool.not_true, Bool.not_false, ↓y_lookv, y_key1, y_mlook, y_mlookn, y_mres1, y_mres0, ↓y_call]
  refine aloop (fun i : Nat => St.mk n ([.int .i64 m, .top, .top, .top, .ptr (n + 4) 1 0, .ptr (n + 5) 1 0, .ptr (n + 6) 1 0, .int .i64 0] ++ List.replicate 6 .top ++ [.ref 3 (n + 14) 1 0 2, .int .i64 2, .int .i64 i] ++ List.replicate 73 .top) h
      (List.replicate 4 blk0 ++ [⟨1, .cells [.int .i64 af, .int .i64 at', iD aw]⟩, ⟨1, .cells [.int .i64 bf, .int .i64 bt, iD bw]⟩, ⟨1, .cells [.int .i64 0, .int .i64 0, .nils]⟩] ++ List.replicate 7 blk0 ++
        [⟨1, .cells [.int .i64 af, .int .i64 at', iD aw, .int .i64 bf, .int .i64 bt, iD bw]⟩] ++ List.replicate 75 blk0)) (fun i => i ≤ 1) (fun i => 2 - i) 0 (Nat.zero_le _) ?_ ?_
  · refine le_to (List.replicate 4 .hole ++ [.old 4, .old 5, .old 6] ++ List.replicate 7 .hole ++ [.old 14] ++ List.replicate 75 .hole) hl rfl ?_ ?_ <;> ((try simp only [y_blk_end, y_blk_hole, y_blk_nil, y_blk_old, y_wkl_end, y_wkl_top, List.replicate, List.cons_append, List.nil_append, and_true, true_and]) <;> (repeat' (first | apply And.intro | apply y_wkl | refine Exists.intro _ (And.intro rfl ?_))) <;> (try first | exact trivial | exact Wk.top _ | exact wk_int rfl | exact wk_bool rfl | exact wk_ptr rfl rfl rfl rfl | exact wk_ref rfl rfl rfl rfl rfl | exact wk_nil rfl rfl rfl | exact wk_ref rfl rfl rfl rfl (by simp) | exact wk_ref rfl rfl rfl rfl (by simp; omega) | exact wk_old (by assumption) (by simp) | exact wk_eq rfl (by first | exact Bd.int _ _ | exact Bd.bool _ | exact Bd.abool | exact Bd.nils | exact Bd.emp | exact Bd.nilp | exact Bd.nilfn | assumption | exact low_trees _ _ | exact low_treeD _ _ | exact low_ints _ _) | exact Nat.le_refl _ | exact wk_int (by simp) | exact wk_int (by omega) | exact Nat.succ_le_succ (Nat.zero_le _) | exact Nat.le_add_left _ _ | omega))
  · intro i hi
    rcases i with _ | _ | i
    · have hz0 : ((0 : Nat) : Int) = 0 := rfl
      have hlt : (0 : Int) < 2 := by omega
      have w0 : IntKind.i64.wrap (0 + 1) = 1 := by rw [IntWalk.i64_in _ (by omega)]; omega
      have e2 : ((2 : Nat) : Int) = 2 := rfl
      simp -implicitDefEqProofs only [↓symPre, symPost, y_condP, y_condG, run, lver, minD, intsD, eqAll, tupD, splice, Nat.zero_add, Nat.add_zero, Nat.zero_mul, Nat.mul_one, Nat.one_mul, Nat.reduceAdd, Nat.reduceSub, Nat.reduceMul, Nat.reduceLT, Nat.reduceLeDiff, Nat.reduceEqDiff, true_and, and_true, true_implies, if_true, if_false, ite_true, reduceIte, ne_eq, not_false_eq_true, reduceCtorEq, forall_const, bne_self_eq_false, Bool.true_eq_false, Bool.false_eq_true, false_implies, and_self, implies_true, Int.toNat_zero, beq_self_eq_true, decide_true, decide_false, Bool.not_true, Bool.not_false, ↓y_lookv, y_key1, y_mlook, y_mlookn, y_mres1, y_mres0, ↓y_call, hz0, hlt, e2, Int.le_refl, decide_true, Nat.zero_lt_succ]
      rw [h1] at pA
      refine pA.call rfl ?_
      simp -implicitDefEqProofs only [↓symPre, symPost, y_condP, y_condG, run, lver, minD, intsD, eqAll, tupD, splice, Nat.zero_add, Nat.add_zero, Nat.zero_mul, Nat.mul_one, Nat.one_mul, Nat.reduceAdd, Nat.reduceSub, Nat.reduceMul, Nat.reduceLT, Nat.reduceLeDiff, Nat.reduceEqDiff, true_and, and_true, true_implies, if_true, if_false, ite_true, reduceIte, ne_eq, not_false_eq_true, reduceCtorEq, forall_const, bne_self_eq_false, Bool.true_eq_false, Bool.false_eq_true, false_implies, and_self, implies_true, Int.toNat_zero, beq_self_eq_true, decide_true, decide_false, Bool.not_true, Bool.not_false, ↓y_lookv, y_key1, y_mlook, y_mlookn, y_mres1, y_mres0, ↓y_call, w0]
      refine ⟨1, by omega, by omega, ?_⟩
      have hz1 : ((1 : Nat) : Int) = 1 := rfl
      simp only [hz1]
      refine le_to (List.replicate 4 .hole ++ [.old 4, .old 5, .old 6] ++ List.replicate 7 .hole ++ [.old 14] ++ List.replicate 75 .hole) hl rfl ?_ ?_ <;> ((try simp only [y_blk_end, y_blk_hole, y_blk_nil, y_blk_old, y_wkl_end, y_wkl_top, List.replicate, List.cons_append, List.nil_append, and_true, true_and]) <;> (repeat' (first | apply And.intro | apply y_wkl | refine Exists.intro _ (And.intro rfl ?_))) <;> (try first | exact trivial | exact Wk.top _ | exact wk_int rfl | exact wk_bool rfl | exact wk_ptr rfl rfl rfl rfl | exact wk_ref rfl rfl rfl rfl rfl | exact wk_nil rfl rfl rfl | exact wk_ref rfl rfl rfl rfl (by simp) | exact wk_ref rfl rfl rfl rfl (by simp; omega) | exact wk_old (by assumption) (by simp) | exact wk_eq rfl (by first | exact Bd.int _ _ | exact Bd.bool _ | exact Bd.abool | exact Bd.nils | exact Bd.emp | exact Bd.nilp | exact Bd.nilfn | assumption | exact low_trees _ _ | exact low_treeD _ _ | exact low_ints _ _) | exact Nat.le_refl _ | exact wk_int (by simp) | exact wk_int (by omega) | exact Nat.succ_le_succ (Nat.zero_le _) | exact Nat.le_add_left _ _ | omega))
    · have hz1 : ((0 + 1 : Nat) : Int) = 1 := rfl
      have hlt : (1 : Int) < 2 := by omega
      have h01 : (0 : Int) ≤ 1 := by omega
      have t1 : (1 : Int).toNat = 1 := rfl
      have n12 : (1 : Nat) < 2 := by omega
      have w0 : IntKind.i64.wrap (1 + 1) = 2 := by rw [IntWalk.i64_in _ (by omega)]; omega
      have e2 : ((2 : Nat) : Int) = 2 := rfl
      simp -implicitDefEqProofs only [↓symPre, symPost, y_condP, y_condG, run, lver, minD, intsD, eqAll, tupD, splice, Nat.zero_add, Nat.add_zero, Nat.zero_mul, Nat.mul_one, Nat.one_mul, Nat.reduceAdd, Nat.reduceSub, Nat.reduceMul, Nat.reduceLT, Nat.reduceLeDiff, Nat.reduceEqDiff, true_and, and_true, true_implies, if_true, if_false, ite_true, reduceIte, ne_eq, not_false_eq_true, reduceCtorEq, forall_const, bne_self_eq_false, Bool.true_eq_false, Bool.false_eq_true, false_implies, and_self, implies_true, Int.toNat_zero, beq_self_eq_true, decide_true, decide_false, Bool.not_true, Bool.not_false, ↓y_lookv, y_key1, y_mlook, y_mlookn, y_mres1, y_mres0, ↓y_call, hz1, hlt, h01, t1, e2, decide_true, n12]
      refine pB.call rfl ?_
      have hbad := pE _ h2
      simp -implicitDefEqProofs only [↓symPre, symPost, y_condP, y_condG, run, lver, minD, intsD, eqAll, tupD, splice, Nat.zero_add, Nat.add_zero, Nat.zero_mul, Nat.mul_one, Nat.one_mul, Nat.reduceAdd, Nat.reduceSub, Nat.reduceMul, Nat.reduceLT, Nat.reduceLeDiff, Nat.reduceEqDiff, true_and, and_true, true_implies, if_true, if_false, ite_true, reduceIte, ne_eq, not_false_eq_true, reduceCtorEq, forall_const, bne_self_eq_false, Bool.true_eq_false, Bool.false_eq_true, false_implies, and_self, implies_true, Int.toNat_zero, beq_self_eq_true, decide_true, decide_false, Bool.not_true, Bool.not_false, ↓y_lookv, y_key1, y_mlook, y_mlookn, y_mres1, y_mres0, ↓y_call, hbad]
      repeat (refine And.intro (by intro c hc; first | (rcases hc with rfl | rfl | rfl <;> rfl) | (subst hc; rfl)) ?_)
      exact fin_wk hl (wk_tup2 (wk_agg3 wk_i wk_i .nilsLst) wk_i) ⟨rfl, rfl, rfl⟩
    · omega

end Abs
end Go.Proofs.Ytcdbikoonobodaa

/- Clones of trees; At. -/
import Derived.Test.YtfojedaccfenfaaG5
namespace Go.Proofs.Ytfojedaccfenfaa
namespace Abs
set_option linter.unusedVariables false
set_option linter.unusedSimpArgs false
set_option maxRecDepth 20000

theorem trees_cells (ks : List Tree) : (∀ x ∈ ks.map treeD, x.cells.length = 3) = True := by
  simp only [eq_iff_iff, iff_true]
  intro x hx
  obtain ⟨t, _, rfl⟩ := List.mem_map.1 hx
  exact treeD_cells t
theorem trees_flat (ks : List Tree) : (ks.map treeD).flatMap D.cells = cellsF treeD ks := rfl
theorem trees_one (ks : List Tree) : (∀ c ∈ cellsF treeD ks, c.one = true) = True := by
  simp only [eq_iff_iff, iff_true]
  intro c hc
  simp only [cellsF, List.mem_flatMap, List.mem_map] at hc
  obtain ⟨d, ⟨t, ht, rfl⟩, hc⟩ := hc
  obtain ⟨r, tm, k, rfl⟩ : ∃ r t' k, t = .mk r t' k := by cases t; exact ⟨_, _, _, rfl⟩
  rw [treeD_mk] at hc
  simp only [D.cells, List.mem_cons, List.not_mem_nil, or_false] at hc
  rcases hc with rfl | rfl | rfl <;> rfl
theorem cellsT_ld (ks : List Tree) (i : Nat) (hi : i < ks.length) {r t : Int} {k : List Tree} (e : ks[i] = .mk r t k) : ((cellsF treeD ks).drop (i * 3)).take 3 = [.int .i64 r, .int .i64 t, .lst (k.map treeD)] := by
  have h1 : ks = ks.take i ++ (ks[i] :: ks.drop (i + 1)) := by rw [← List.drop_eq_getElem_cons hi, List.take_append_drop]
  have hl : (cellsF treeD (ks.take i)).length = i * 3 := by rw [cellsF_len treeD treeD_cells]; simp; omega
  have h2 : cellsF treeD ks = cellsF treeD (ks.take i) ++ ([.int .i64 r, .int .i64 t, .lst (k.map treeD)] ++ cellsF treeD (ks.drop (i + 1))) := by
    conv => lhs; rw [h1]
    rw [cellsF_app, show ks[i] :: ks.drop (i + 1) = [ks[i]] ++ ks.drop (i + 1) from rfl, cellsF_app, cellsF_one, e, treeD_mk]
    rfl
  rw [h2, List.drop_left' hl]
  rfl
theorem cellsT_splice (ks : List Tree) (i : Nat) (hi : i < ks.length) {r t : Int} {k : List Tree} (e : ks[i] = .mk r t k) :
    (cellsF treeD ks).take (i * 3) ++ [.int .i64 r, .int .i64 t, .lst (k.map treeD)] ++ (cellsF treeD ks).drop (i * 3 + 3) = cellsF treeD ks := by
  rw [← cellsT_ld ks i hi e, List.append_assoc, ← List.drop_drop]
  rw [List.take_append_drop, List.take_append_drop]

theorem pure_CloneNil : Pure prog F_slices_Clone_api_Tree_api_Tree [.lst []] (.lst []) := by
  intro n h
  refine K_slices_Clone_api_Tree_api_Tree.calls fun hl => ?_
  unfold C_slices_Clone_api_Tree_api_Tree
  simp -implicitDefEqProofs only [↓symPre, symPost, y_condP, y_condG, run, lver, minD, intsD, eqAll, tupD, splice, Nat.zero_add, Nat.add_zero, Nat.zero_mul, Nat.mul_one, Nat.one_mul, Nat.reduceAdd, Nat.reduceSub, Nat.reduceMul, Nat.reduceLT, Nat.reduceLeDiff, Nat.reduceEqDiff, true_and, and_true, true_implies, if_true, if_false, ite_true, reduceIte, ne_eq, not_false_eq_true, reduceCtorEq, forall_const, bne_self_eq_false, Bool.true_eq_false, Bool.false_eq_true, false_implies, and_self, implies_true, Int.toNat_zero, beq_self_eq_true, decide_true, decide_false, Bool.not_true, Bool.not_false, ↓y_call, srcOf, List.length_nil, List.flatMap_nil, Nat.zero_le]
  exact ⟨⟨fin_wk hl .nilsLst ⟨rfl, rfl, rfl⟩, by simp, fin_wk hl (wk_frzF treeD treeD_cells (low_treeD n) (t := 5) (l := []) rfl rfl (by simp) rfl) ⟨rfl, rfl, rfl⟩⟩, fun h => (h trivial).elim⟩

theorem fresh_CloneT (ks : List Tree) (hne : ks ≠ []) (hfit : ks.length * 40 ≤ 140737488355328) : Fresh prog F_slices_Clone_api_Tree_api_Tree [.lst (ks.map treeD)] 3 (cellsF treeD ks) ks.length := by
  intro n h
  refine K_slices_Clone_api_Tree_api_Tree.calls fun hl => ?_
  unfold C_slices_Clone_api_Tree_api_Tree
  have hne' : ¬ ks.map treeD = [] := by simpa using hne
  simp -implicitDefEqProofs only [↓symPre, symPost, y_condP, y_condG, run, lver, minD, intsD, eqAll, tupD, splice, Nat.zero_add, Nat.add_zero, Nat.zero_mul, Nat.mul_one, Nat.one_mul, Nat.reduceAdd, Nat.reduceSub, Nat.reduceMul, Nat.reduceLT, Nat.reduceLeDiff, Nat.reduceEqDiff, true_and, and_true, true_implies, if_true, if_false, ite_true, reduceIte, ne_eq, not_false_eq_true, reduceCtorEq, forall_const, bne_self_eq_false, Bool.true_eq_false, Bool.false_eq_true, false_implies, and_self, implies_true, Int.toNat_zero, beq_self_eq_true, decide_true, decide_false, Bool.not_true, Bool.not_false, ↓y_call, hne', srcOf, List.length_map, trees_cells, trees_flat, trees_one, Nat.zero_le, hfit]
  exact fin_ref hl (t := 5) rfl (by omega) (low_cellsF treeD (low_treeD n) ks) ⟨rfl, 2, rfl, rfl⟩

set_option maxHeartbeats 1000000 in
theorem pure_CloneTree : ∀ t : Tree, full t * 40 ≤ 140737488355328 → Pure prog F_tree_Clone [treeD t] (treeD t)
  | .mk r tm ks, hf => by
    intro n h
    rw [full_mk] at hf
    have hk := full_len ks
    rw [treeD_mk]
    refine K_tree_Clone.calls fun hl => ?_
    unfold C_tree_Clone
    simp -implicitDefEqProofs only [↓symPre, symPost, y_condP, y_condG, run, lver, minD, intsD, eqAll, tupD, splice, Nat.zero_add, Nat.add_zero, Nat.zero_mul, Nat.mul_one, Nat.one_mul, Nat.reduceAdd, Nat.reduceSub, Nat.reduceMul, Nat.reduceLT, Nat.reduceLeDiff, Nat.reduceEqDiff, true_and, and_true, true_implies, if_true, if_false, ite_true, reduceIte, ne_eq, not_false_eq_true, reduceCtorEq, forall_const, bne_self_eq_false, Bool.true_eq_false, Bool.false_eq_true, false_implies, and_self, implies_true, Int.toNat_zero, beq_self_eq_true, decide_true, decide_false, Bool.not_true, Bool.not_false, ↓y_call]
    by_cases hne : ks = []
    · subst hne
      refine pure_CloneNil.call rfl ?_
      simp -implicitDefEqProofs only [↓symPre, symPost, y_condP, y_condG, run, lver, minD, intsD, eqAll, tupD, splice, Nat.zero_add, Nat.add_zero, Nat.zero_mul, Nat.mul_one, Nat.one_mul, Nat.reduceAdd, Nat.reduceSub, Nat.reduceMul, Nat.reduceLT, Nat.reduceLeDiff, Nat.reduceEqDiff, true_and, and_true, true_implies, if_true, if_false, ite_true, reduceIte, ne_eq, not_false_eq_true, reduceCtorEq, forall_const, bne_self_eq_false, Bool.true_eq_false, Bool.false_eq_true, false_implies, and_self, implies_true, Int.toNat_zero, beq_self_eq_true, decide_true, decide_false, Bool.not_true, Bool.not_false, ↓y_call]
      refine aloop (fun i : Nat => St.mk n ([.top, .ptr (n + 1) 1 0, .ptr (n + 2) 1 0] ++ List.replicate 7 .top ++ [.int .i64 0, .int .i64 0] ++ List.replicate 14 .top) h
          ([blk0, ⟨1, .cells [.int .i64 r, .int .i64 tm, .lst []]⟩, ⟨1, .cells [.int .i64 0, .int .i64 0, .nils]⟩] ++ List.replicate 23 blk0)) (fun i => True) (fun i => 0) 0 trivial ?_ ?_
      · refine le_to ([.hole, .old 1, .old 2] ++ List.replicate 23 .hole) hl rfl ?_ ?_ <;> ((try simp only [y_blk_end, y_blk_hole, y_blk_nil, y_blk_old, y_wkl_end, y_wkl_top, List.replicate, List.cons_append, List.nil_append, and_true, true_and]) <;> (repeat' (first | apply And.intro | apply y_wkl | refine Exists.intro _ (And.intro rfl ?_))) <;> (try first | exact trivial | exact Wk.top _ | exact wk_int rfl | exact wk_bool rfl | exact wk_ptr rfl rfl rfl rfl | exact wk_ref rfl rfl rfl rfl rfl | exact wk_nil rfl rfl rfl | exact wk_ref rfl rfl rfl rfl (by simp) | exact wk_ref rfl rfl rfl rfl (by simp; omega) | exact wk_old (by assumption) (by simp) | exact wk_eq rfl (by first | exact Bd.int _ _ | exact Bd.bool _ | exact Bd.abool | exact Bd.nils | exact Bd.emp | exact Bd.nilp | exact Bd.nilfn | assumption | exact low_trees _ _ | exact low_treeD _ _ | exact low_ints _ _) | exact Nat.le_refl _ | exact wk_int (by simp) | exact wk_int (by omega) | exact Nat.succ_le_succ (Nat.zero_le _) | exact Nat.le_add_left _ _ | omega))
        all_goals exact wk_eq rfl (.lst _ (by simp))
      · intro i _
        simp -implicitDefEqProofs only [↓symPre, symPost, y_condP, y_condG, run, lver, minD, intsD, eqAll, tupD, splice, Nat.zero_add, Nat.add_zero, Nat.zero_mul, Nat.mul_one, Nat.one_mul, Nat.reduceAdd, Nat.reduceSub, Nat.reduceMul, Nat.reduceLT, Nat.reduceLeDiff, Nat.reduceEqDiff, true_and, and_true, true_implies, if_true, if_false, ite_true, reduceIte, ne_eq, not_false_eq_true, reduceCtorEq, forall_const, bne_self_eq_false, Bool.true_eq_false, Bool.false_eq_true, false_implies, and_self, implies_true, Int.toNat_zero, beq_self_eq_true, decide_true, decide_false, Bool.not_true, Bool.not_false, ↓y_call, Int.lt_irrefl]
        exact fin_low hl (.agg _ fun c hc => by
          simp only [List.mem_cons, List.not_mem_nil, or_false] at hc
          rcases hc with rfl | rfl | rfl
          · exact .int ..
          · exact .int ..
          · exact .lst _ (by simp)) ⟨rfl, rfl, rfl⟩
    · refine (fresh_CloneT ks hne (by omega)).call (t := 6) (low_cellsF treeD (low_treeD 0) ks) rfl rfl (Nat.le_of_ble_eq_true rfl) rfl ?_
      simp -implicitDefEqProofs only [↓symPre, symPost, y_condP, y_condG, run, lver, minD, intsD, eqAll, tupD, splice, Nat.zero_add, Nat.add_zero, Nat.zero_mul, Nat.mul_one, Nat.one_mul, Nat.reduceAdd, Nat.reduceSub, Nat.reduceMul, Nat.reduceLT, Nat.reduceLeDiff, Nat.reduceEqDiff, true_and, and_true, true_implies, if_true, if_false, ite_true, reduceIte, ne_eq, not_false_eq_true, reduceCtorEq, forall_const, bne_self_eq_false, Bool.true_eq_false, Bool.false_eq_true, false_implies, and_self, implies_true, Int.toNat_zero, beq_self_eq_true, decide_true, decide_false, Bool.not_true, Bool.not_false, ↓y_call]
      refine aloop (fun i : Nat => St.mk n ([.top, .ptr (n + 1) 1 0, .ptr (n + 2) 1 0] ++ List.replicate 7 .top ++ [.int .i64 ks.length, .int .i64 i] ++ List.replicate 14 .top) h
          ([blk0, ⟨1, .cells [.int .i64 r, .int .i64 tm, .ref 3 (n + 6) 1 0 ks.length]⟩, ⟨1, .cells [.int .i64 0, .int .i64 0, .nils]⟩, blk0, blk0, blk0, ⟨1, .cells (cellsF treeD ks)⟩] ++ List.replicate 19 blk0)) (fun i => i ≤ ks.length) (fun i => ks.length - i) 0 (Nat.zero_le _) ?_ ?_
      · refine le_to ([.hole, .old 1, .old 2, .hole, .hole, .hole, .old 6] ++ List.replicate 19 .hole) hl rfl ?_ ?_ <;> ((try simp only [y_blk_end, y_blk_hole, y_blk_nil, y_blk_old, y_wkl_end, y_wkl_top, List.replicate, List.cons_append, List.nil_append, and_true, true_and]) <;> (repeat' (first | apply And.intro | apply y_wkl | refine Exists.intro _ (And.intro rfl ?_))) <;> (try first | exact trivial | exact Wk.top _ | exact wk_int rfl | exact wk_bool rfl | exact wk_ptr rfl rfl rfl rfl | exact wk_ref rfl rfl rfl rfl rfl | exact wk_nil rfl rfl rfl | exact wk_ref rfl rfl rfl rfl (by simp) | exact wk_ref rfl rfl rfl rfl (by simp; omega) | exact wk_old (by assumption) (by simp) | exact wk_eq rfl (by first | exact Bd.int _ _ | exact Bd.bool _ | exact Bd.abool | exact Bd.nils | exact Bd.emp | exact Bd.nilp | exact Bd.nilfn | assumption | exact low_trees _ _ | exact low_treeD _ _ | exact low_ints _ _) | exact Nat.le_refl _ | exact wk_int (by simp) | exact wk_int (by omega) | exact Nat.succ_le_succ (Nat.zero_le _) | exact Nat.le_add_left _ _ | omega))
        all_goals exact WkL.low (low_cellsF treeD (low_treeD n) ks)
      · intro i hi
        by_cases hlt : i < ks.length
        · have f1 : (i : Int) < (ks.length : Int) := by omega
          have f0 : (0 : Int) ≤ (i : Int) := by omega
          have w1 : IntKind.i64.wrap ((i : Int) + 1) = ((i + 1 : Nat) : Int) := by rw [IntWalk.i64_in _ (by omega)]; omega
          have hm : ks[i] ∈ ks := List.getElem_mem hlt
          have ih := pure_CloneTree ks[i] (by have := full_kid (List.getElem_mem hlt); omega)
          obtain ⟨ar, at', ak, ea⟩ : ∃ r' t' k', ks[i] = .mk r' t' k' := by cases h : ks[i]; exact ⟨_, _, _, rfl⟩
          have hld := cellsT_ld ks i hlt ea
          have hsp := cellsT_splice ks i hlt ea
          rw [ea, treeD_mk] at ih
          have hll : i * 3 + 3 ≤ (cellsF treeD ks).length := by rw [cellsF_len treeD treeD_cells]; omega
          simp -implicitDefEqProofs only [↓symPre, symPost, y_condP, y_condG, run, lver, minD, intsD, eqAll, tupD, splice, Nat.zero_add, Nat.add_zero, Nat.zero_mul, Nat.mul_one, Nat.one_mul, Nat.reduceAdd, Nat.reduceSub, Nat.reduceMul, Nat.reduceLT, Nat.reduceLeDiff, Nat.reduceEqDiff, true_and, and_true, true_implies, if_true, if_false, ite_true, reduceIte, ne_eq, not_false_eq_true, reduceCtorEq, forall_const, bne_self_eq_false, Bool.true_eq_false, Bool.false_eq_true, false_implies, and_self, implies_true, Int.toNat_zero, beq_self_eq_true, decide_true, decide_false, Bool.not_true, Bool.not_false, ↓y_call, f1, decide_true]
          refine adrawq hmix [[], [], [], [], [], [], [], [], [], [], [n + 6]] ?_
          simp (maxSteps := 400000) -implicitDefEqProofs only [↓symPre, symPost, y_condP, y_condG, run, lver, minD, intsD, eqAll, tupD, splice, Nat.zero_add, Nat.add_zero, Nat.zero_mul, Nat.mul_one, Nat.one_mul, Nat.reduceAdd, Nat.reduceSub, Nat.reduceMul, Nat.reduceLT, Nat.reduceLeDiff, Nat.reduceEqDiff, true_and, and_true, true_implies, if_true, if_false, ite_true, reduceIte, ne_eq, not_false_eq_true, reduceCtorEq, forall_const, bne_self_eq_false, Bool.true_eq_false, Bool.false_eq_true, false_implies, and_self, implies_true, Int.toNat_zero, beq_self_eq_true, decide_true, decide_false, Bool.not_true, Bool.not_false, ↓y_call, ↓drawPre, drawPost, isCall, isNew, isEff, Option.toList, or_false, false_or, cond_true, cond_false, not_true_eq_false, or_true, true_or, Nat.add_left_cancel_iff, Bool.false_eq_true, f1, f0, hlt, Int.toNat_natCast, hld, hll, List.getD_cons_succ, List.getD_cons_zero]
          refine ⟨_, _, ih.draw rfl, (by simp [y_cov0, y_cov1, isNew, isEff, Option.toList]), ?_⟩
          simp (maxSteps := 400000) -implicitDefEqProofs only [↓symPre, symPost, y_condP, y_condG, run, lver, minD, intsD, eqAll, tupD, splice, Nat.zero_add, Nat.add_zero, Nat.zero_mul, Nat.mul_one, Nat.one_mul, Nat.reduceAdd, Nat.reduceSub, Nat.reduceMul, Nat.reduceLT, Nat.reduceLeDiff, Nat.reduceEqDiff, true_and, and_true, true_implies, if_true, if_false, ite_true, reduceIte, ne_eq, not_false_eq_true, reduceCtorEq, forall_const, bne_self_eq_false, Bool.true_eq_false, Bool.false_eq_true, false_implies, and_self, implies_true, Int.toNat_zero, beq_self_eq_true, decide_true, decide_false, Bool.not_true, Bool.not_false, ↓y_call, ↓drawPre, drawPost, isCall, isNew, isEff, Option.toList, or_false, false_or, cond_true, cond_false, not_true_eq_false, or_true, true_or, Nat.add_left_cancel_iff, Bool.false_eq_true, f1, f0, hlt, Int.toNat_natCast, hld, hll, w1, List.getD_cons_succ, List.getD_cons_zero]
          rw [hsp]
          refine ⟨by rintro c (rfl | rfl | rfl) <;> rfl, i + 1, by omega, by omega, ?_⟩
          refine le_to ([.hole, .old 1, .old 2, .hole, .hole, .hole, .old 6] ++ List.replicate 19 .hole) hl rfl ?_ ?_ <;> ((try simp only [y_blk_end, y_blk_hole, y_blk_nil, y_blk_old, y_wkl_end, y_wkl_top, List.replicate, List.cons_append, List.nil_append, and_true, true_and]) <;> (repeat' (first | apply And.intro | apply y_wkl | refine Exists.intro _ (And.intro rfl ?_))) <;> (try first | exact trivial | exact Wk.top _ | exact wk_int rfl | exact wk_bool rfl | exact wk_ptr rfl rfl rfl rfl | exact wk_ref rfl rfl rfl rfl rfl | exact wk_nil rfl rfl rfl | exact wk_ref rfl rfl rfl rfl (by simp) | exact wk_ref rfl rfl rfl rfl (by simp; omega) | exact wk_old (by assumption) (by simp) | exact wk_eq rfl (by first | exact Bd.int _ _ | exact Bd.bool _ | exact Bd.abool | exact Bd.nils | exact Bd.emp | exact Bd.nilp | exact Bd.nilfn | assumption | exact low_trees _ _ | exact low_treeD _ _ | exact low_ints _ _) | exact Nat.le_refl _ | exact wk_int (by simp) | exact wk_int (by omega) | exact Nat.succ_le_succ (Nat.zero_le _) | exact Nat.le_add_left _ _ | omega))
          exact WkL.low (low_cellsF treeD (low_treeD n) ks)
        · have f1 : ¬ (i : Int) < (ks.length : Int) := by omega
          simp -implicitDefEqProofs only [↓symPre, symPost, y_condP, y_condG, run, lver, minD, intsD, eqAll, tupD, splice, Nat.zero_add, Nat.add_zero, Nat.zero_mul, Nat.mul_one, Nat.one_mul, Nat.reduceAdd, Nat.reduceSub, Nat.reduceMul, Nat.reduceLT, Nat.reduceLeDiff, Nat.reduceEqDiff, true_and, and_true, true_implies, if_true, if_false, ite_true, reduceIte, ne_eq, not_false_eq_true, reduceCtorEq, forall_const, bne_self_eq_false, Bool.true_eq_false, Bool.false_eq_true, false_implies, and_self, implies_true, Int.toNat_zero, beq_self_eq_true, decide_true, decide_false, Bool.not_true, Bool.not_false, ↓y_call, f1, decide_false]
          exact fin_wk hl (wk_agg3 wk_i wk_i (wk_frzF treeD treeD_cells (low_treeD n) (t := 6) rfl rfl (by simp) rfl)) ⟨rfl, rfl, rfl⟩
termination_by t => t

end Abs
end Go.Proofs.Ytfojedaccfenfaa

/- Rules of trees. -/
import Derived.Test.YtfojedaccfenfaaE3
namespace Go.Proofs.Ytfojedaccfenfaa
namespace Abs
set_option linter.unusedVariables false
set_option linter.unusedSimpArgs false

theorem app_rules : ∀ t : Tree, size t < 2 ^ 62 → Appends prog F_tree_rules (fun d => [d, treeD t]) 1 8 ((rulesL t).map (.int .i64)) (rulesL t).length
  | .mk r tm ks, hsz => by
    intro n h b ver l len hb hv hh hlen hfit hlow
    simp only [Nat.mul_one] at hlen
    subst hlen
    rw [treeD_mk]
    refine K_tree_rules.calls fun hl => ?_
    have hsame := upd_self hh
    have hint : ∀ (W : List Int), ∀ c ∈ l ++ W.map (.int .i64), Low n c := fun W c hc => by
      rcases List.mem_append.1 hc with hc | hc
      · exact hlow c hc
      · obtain ⟨x, _, rfl⟩ := List.mem_map.1 hc; exact .int ..
    unfold C_tree_rules
    have hfa : (l.length + 1) * 8 ≤ 140737488355328 := by
      rw [rulesL_mk, List.length_cons] at hfit; omega
    simp -implicitDefEqProofs only [↓symPre, symPost, y_condP, y_condG, run, lver, minD, intsD, eqAll, tupD, splice, Nat.zero_add, Nat.add_zero, Nat.zero_mul, Nat.mul_one, Nat.one_mul, Nat.reduceAdd, Nat.reduceSub, Nat.reduceMul, Nat.reduceLT, Nat.reduceLeDiff, Nat.reduceEqDiff, true_and, and_true, true_implies, if_true, if_false, ite_true, reduceIte, ne_eq, not_false_eq_true, reduceCtorEq, forall_const, bne_self_eq_false, Bool.true_eq_false, Bool.false_eq_true, false_implies, and_self, implies_true, Int.toNat_zero, beq_self_eq_true, decide_true, decide_false, Bool.not_true, Bool.not_false, ↓y_call, srcOf, ↓y_at_old hb, hh, hb, hfa, Nat.le_refl, List.take_length]
    refine (pure_leaf r tm _).call rfl ?_
    by_cases hr' : r = -1
    · subst hr'
      rw [rulesL_mk, if_pos rfl] at hfit ⊢
      simp -implicitDefEqProofs only [↓symPre, symPost, y_condP, y_condG, run, lver, minD, intsD, eqAll, tupD, splice, Nat.zero_add, Nat.add_zero, Nat.zero_mul, Nat.mul_one, Nat.one_mul, Nat.reduceAdd, Nat.reduceSub, Nat.reduceMul, Nat.reduceLT, Nat.reduceLeDiff, Nat.reduceEqDiff, true_and, and_true, true_implies, if_true, if_false, ite_true, reduceIte, ne_eq, not_false_eq_true, reduceCtorEq, forall_const, bne_self_eq_false, Bool.true_eq_false, Bool.false_eq_true, false_implies, and_self, implies_true, Int.toNat_zero, beq_self_eq_true, decide_true, decide_false, Bool.not_true, Bool.not_false, ↓y_call]
      refine fin_old (lowH_upd hl (hint [-1])) hb ?_
      exact ⟨rfl, ver + 1, by omega, rfl, rfl⟩
    · have hrb : (r == -1) = false := by simpa using hr'
      rw [rulesL_mk, if_neg hr', List.length_cons] at hfit
      rw [rulesL_mk, if_neg hr']
      rw [size_mk, if_neg hr'] at hsz
      simp -implicitDefEqProofs only [↓symPre, symPost, y_condP, y_condG, run, lver, minD, intsD, eqAll, tupD, splice, Nat.zero_add, Nat.add_zero, Nat.zero_mul, Nat.mul_one, Nat.one_mul, Nat.reduceAdd, Nat.reduceSub, Nat.reduceMul, Nat.reduceLT, Nat.reduceLeDiff, Nat.reduceEqDiff, true_and, and_true, true_implies, if_true, if_false, ite_true, reduceIte, ne_eq, not_false_eq_true, reduceCtorEq, forall_const, bne_self_eq_false, Bool.true_eq_false, Bool.false_eq_true, false_implies, and_self, implies_true, Int.toNat_zero, beq_self_eq_true, decide_true, decide_false, Bool.not_true, Bool.not_false, ↓y_call, hrb]
      refine aloop (fun p : Nat × Nat => St.mk n ([.ref 1 b p.2 0 (l.length + 1 + ((ks.map rulesL).take p.1).flatten.length), .top, .top, .top] ++ List.replicate 12 .top ++ [.lst (ks.map treeD), .int .i64 ks.length, .int .i64 p.1] ++ List.replicate 8 .top)
          (upd h b ⟨p.2, .cells (l ++ (r :: ((ks.map rulesL).take p.1).flatten).map (.int .i64))⟩) (List.replicate 27 blk0)) (fun p => p.1 ≤ ks.length ∧ ver + 1 ≤ p.2) (fun p => ks.length - p.1) (0, ver + 1) ⟨Nat.zero_le _, Nat.le_refl _⟩ ?_ ?_
      · refine le_toh (List.replicate 27 .hole) (lowH_upd hl (hint [r])) (by simp) rfl ?_ ?_ <;> ((try simp only [y_blk_end, y_blk_hole, y_blk_nil, y_blk_old, y_wkl_end, y_wkl_top, List.replicate, List.cons_append, List.nil_append, and_true, true_and]) <;> (repeat' (first | apply And.intro | apply y_wkl | refine Exists.intro _ (And.intro rfl ?_))) <;> (try first | exact trivial | exact Wk.top _ | exact wk_int rfl | exact wk_bool rfl | exact wk_ptr rfl rfl rfl rfl | exact wk_ref rfl rfl rfl rfl rfl | exact wk_nil rfl rfl rfl | exact wk_ref rfl rfl rfl rfl (by simp) | exact wk_ref rfl rfl rfl rfl (by simp; omega) | exact wk_old (by assumption) (by simp) | exact wk_eq rfl (by first | exact Bd.int _ _ | exact Bd.bool _ | exact Bd.abool | exact Bd.nils | exact Bd.emp | exact Bd.nilp | exact Bd.nilfn | assumption | exact low_trees _ _ | exact low_treeD _ _ | exact low_ints _ _) | exact Nat.le_refl _ | exact wk_int (by simp) | exact wk_int (by omega) | exact Nat.succ_le_succ (Nat.zero_le _) | exact Nat.le_add_left _ _ | omega))
      · rintro ⟨i, v⟩ ⟨hi, hv'⟩
        simp only at hi hv'
        by_cases hlt : i < ks.length
        · have h1 : (i : Int) < (ks.length : Int) := by omega
          have h0 : (0 : Int) ≤ (i : Int) := by omega
          have hm : ks[i] ∈ ks := List.getElem_mem hlt
          have ih := app_rules ks[i]
          have e0 := nth_map_tree ks i hlt
          have hW := flat_take_succ rulesL ks i hlt
          have hW2 := flat_take_le (ks.map rulesL) (i + 1)
          rw [hW, List.length_append] at hW2
          have hs1 := sum_take_succ (ks.map size) i (by simpa using hlt)
          have hs2 := sum_take_le (ks.map size) (i + 1)
          have hs3 := len_le_sum ks
          simp only [List.getElem_map] at hs1
          obtain ⟨r', t', k', ek⟩ : ∃ r' t' k', ks[i] = .mk r' t' k' := by cases h : ks[i]; exact ⟨_, _, _, rfl⟩
          have ih' := ih (by omega)
          rw [ek, treeD_mk] at e0 ih'
          simp -implicitDefEqProofs only [↓symPre, symPost, y_condP, y_condG, run, lver, minD, intsD, eqAll, tupD, splice, Nat.zero_add, Nat.add_zero, Nat.zero_mul, Nat.mul_one, Nat.one_mul, Nat.reduceAdd, Nat.reduceSub, Nat.reduceMul, Nat.reduceLT, Nat.reduceLeDiff, Nat.reduceEqDiff, true_and, and_true, true_implies, if_true, if_false, ite_true, reduceIte, ne_eq, not_false_eq_true, reduceCtorEq, forall_const, bne_self_eq_false, Bool.true_eq_false, Bool.false_eq_true, false_implies, and_self, implies_true, Int.toNat_zero, beq_self_eq_true, decide_true, decide_false, Bool.not_true, Bool.not_false, ↓y_call, List.length_map, h1, h0, decide_true, Int.toNat_natCast, e0]
          refine Appends.call (mk := fun d => [d, .agg [.int .i64 r', .int .i64 t', .lst (k'.map treeD)]]) (l := l ++ (r :: ((ks.map rulesL).take i).flatten).map (.int .i64)) (ver := v) ih' rfl rfl (Nat.lt_of_lt_of_le hb (Nat.le_add_right _ _)) (by omega) ((mrg_lt hb).trans (upd_same ..)) (by simp only [List.length_append, List.length_map, List.length_cons, Nat.mul_one]; omega) ?_ ?_ ?_
          · rw [← ek]; omega
          · intro c hc; exact (hint _ c hc).mono fun b' v' h => h.elim (fun h => .inl (by omega)) .inr
          · intro v2 hv2
            have w1 : IntKind.i64.wrap ((i : Int) + 1) = ((i + 1 : Nat) : Int) := by rw [IntWalk.i64_in _ (by omega)]; omega
            simp -implicitDefEqProofs only [↓symPre, symPost, y_condP, y_condG, run, lver, minD, intsD, eqAll, tupD, splice, Nat.zero_add, Nat.add_zero, Nat.zero_mul, Nat.mul_one, Nat.one_mul, Nat.reduceAdd, Nat.reduceSub, Nat.reduceMul, Nat.reduceLT, Nat.reduceLeDiff, Nat.reduceEqDiff, true_and, and_true, true_implies, if_true, if_false, ite_true, reduceIte, ne_eq, not_false_eq_true, reduceCtorEq, forall_const, bne_self_eq_false, Bool.true_eq_false, Bool.false_eq_true, false_implies, and_self, implies_true, Int.toNat_zero, beq_self_eq_true, decide_true, decide_false, Bool.not_true, Bool.not_false, ↓y_call, w1, hb, upd_upd]
            refine ⟨(i + 1, v2), ⟨by simp only; omega, by simp only; omega⟩, by simp only; omega, ?_⟩
            refine le_toh (List.replicate 27 .hole) (lowH_upd hl (by have := hint (r :: (((ks.map rulesL).take i).flatten ++ rulesL (.mk r' t' k'))); simpa [List.map_append, List.append_assoc] using this)) ?_ rfl ?_ ?_
            · simp only [hW, ek, List.map_append, List.append_assoc, List.map_cons, List.cons_append]
            · ((try simp only [y_blk_end, y_blk_hole, y_blk_nil, y_blk_old, y_wkl_end, y_wkl_top, List.replicate, List.cons_append, List.nil_append, and_true, true_and]) <;> (repeat' (first | apply And.intro | apply y_wkl | refine Exists.intro _ (And.intro rfl ?_))) <;> (try first | exact trivial | exact Wk.top _ | exact wk_int rfl | exact wk_bool rfl | exact wk_ptr rfl rfl rfl rfl | exact wk_ref rfl rfl rfl rfl rfl | exact wk_nil rfl rfl rfl | exact wk_ref rfl rfl rfl rfl (by simp) | exact wk_ref rfl rfl rfl rfl (by simp; omega) | exact wk_old (by assumption) (by simp) | exact wk_eq rfl (by first | exact Bd.int _ _ | exact Bd.bool _ | exact Bd.abool | exact Bd.nils | exact Bd.emp | exact Bd.nilp | exact Bd.nilfn | assumption | exact low_trees _ _ | exact low_treeD _ _ | exact low_ints _ _) | exact Nat.le_refl _ | exact wk_int (by simp) | exact wk_int (by omega) | exact Nat.succ_le_succ (Nat.zero_le _) | exact Nat.le_add_left _ _ | omega))
            · simp only [hW, ek, List.length_append, ← Nat.add_assoc]
              ((try simp only [y_blk_end, y_blk_hole, y_blk_nil, y_blk_old, y_wkl_end, y_wkl_top, List.replicate, List.cons_append, List.nil_append, and_true, true_and]) <;> (repeat' (first | apply And.intro | apply y_wkl | refine Exists.intro _ (And.intro rfl ?_))) <;> (try first | exact trivial | exact Wk.top _ | exact wk_int rfl | exact wk_bool rfl | exact wk_ptr rfl rfl rfl rfl | exact wk_ref rfl rfl rfl rfl rfl | exact wk_nil rfl rfl rfl | exact wk_ref rfl rfl rfl rfl (by simp) | exact wk_ref rfl rfl rfl rfl (by simp; omega) | exact wk_old (by assumption) (by simp) | exact wk_eq rfl (by first | exact Bd.int _ _ | exact Bd.bool _ | exact Bd.abool | exact Bd.nils | exact Bd.emp | exact Bd.nilp | exact Bd.nilfn | assumption | exact low_trees _ _ | exact low_treeD _ _ | exact low_ints _ _) | exact Nat.le_refl _ | exact wk_int (by simp) | exact wk_int (by omega) | exact Nat.succ_le_succ (Nat.zero_le _) | exact Nat.le_add_left _ _ | omega))
        · have h1 : ¬ (i : Int) < (ks.length : Int) := by omega
          have : i = ks.length := by omega
          subst this
          have he : (ks.map rulesL).take ks.length = ks.map rulesL := by rw [← List.length_map (f := rulesL), List.take_length]
          simp -implicitDefEqProofs only [↓symPre, symPost, y_condP, y_condG, run, lver, minD, intsD, eqAll, tupD, splice, Nat.zero_add, Nat.add_zero, Nat.zero_mul, Nat.mul_one, Nat.one_mul, Nat.reduceAdd, Nat.reduceSub, Nat.reduceMul, Nat.reduceLT, Nat.reduceLeDiff, Nat.reduceEqDiff, true_and, and_true, true_implies, if_true, if_false, ite_true, reduceIte, ne_eq, not_false_eq_true, reduceCtorEq, forall_const, bne_self_eq_false, Bool.true_eq_false, Bool.false_eq_true, false_implies, and_self, implies_true, Int.toNat_zero, beq_self_eq_true, decide_true, decide_false, Bool.not_true, Bool.not_false, ↓y_call, List.length_map, h1, decide_false, he]
          refine fin_old (lowH_upd hl (hint (r :: (ks.map rulesL).flatten))) hb ?_
          exact ⟨rfl, v, by omega, rfl, by rw [Nat.add_assoc, Nat.add_comm 1]⟩
termination_by t => t

end Abs
end Go.Proofs.Ytfojedaccfenfaa

/- Words and rules of trees. -/
import Derived.Test.YtfojedaccfenfaaE2
namespace Go.Proofs.Ytfojedaccfenfaa
namespace Abs
set_option linter.unusedVariables false
set_option linter.unusedSimpArgs false

def wordL : Tree → List Int
  | .mk r t ks => if r = -1 then [t] else (ks.map wordL).flatten
def rulesL : Tree → List Int
  | .mk r _ ks => r :: (if r = -1 then [] else (ks.map rulesL).flatten)
theorem wordL_mk (r t : Int) (ks : List Tree) : wordL (.mk r t ks) = if r = -1 then [t] else (ks.map wordL).flatten := by rw [wordL]
theorem rulesL_mk (r t : Int) (ks : List Tree) : rulesL (.mk r t ks) = r :: (if r = -1 then [] else (ks.map rulesL).flatten) := by rw [rulesL]

theorem flat_take_succ {α β : Type} (f : α → List β) : ∀ (ks : List α) (i : Nat) (hi : i < ks.length), ((ks.map f).take (i + 1)).flatten = ((ks.map f).take i).flatten ++ f ks[i]
  | [], i, hi => by simp at hi
  | a :: l, 0, hi => by simp
  | a :: l, i + 1, hi => by
    have := flat_take_succ f l i (by simpa using hi)
    simp only [List.map_cons, List.take_succ_cons, List.flatten_cons, List.getElem_cons_succ, this, List.append_assoc]
theorem flat_take_le {α : Type} : ∀ (ls : List (List α)) (i : Nat), (ls.take i).flatten.length ≤ ls.flatten.length
  | [], i => by simp
  | a :: l, 0 => by simp
  | a :: l, i + 1 => by
    have := flat_take_le l i
    simp only [List.take_succ_cons, List.flatten_cons, List.length_append]
    omega

theorem app_word : ∀ t : Tree, size t < 2 ^ 62 → Appends prog F_tree_word (fun d => [d, treeD t]) 1 8 ((wordL t).map (.int .i64)) (wordL t).length
  | .mk r tm ks, hsz => by
    intro n h b ver l len hb hv hh hlen hfit hlow
    simp only [Nat.mul_one] at hlen
    subst hlen
    rw [treeD_mk]
    refine K_tree_word.calls fun hl => ?_
    unfold C_tree_word
    simp -implicitDefEqProofs only [↓symPre, symPost, y_condP, y_condG, run, lver, minD, intsD, eqAll, tupD, splice, Nat.zero_add, Nat.add_zero, Nat.zero_mul, Nat.mul_one, Nat.one_mul, Nat.reduceAdd, Nat.reduceSub, Nat.reduceMul, Nat.reduceLT, Nat.reduceLeDiff, Nat.reduceEqDiff, true_and, and_true, true_implies, if_true, if_false, ite_true, reduceIte, ne_eq, not_false_eq_true, reduceCtorEq, forall_const, bne_self_eq_false, Bool.true_eq_false, Bool.false_eq_true, false_implies, and_self, implies_true, Int.toNat_zero, beq_self_eq_true, decide_true, decide_false, Bool.not_true, Bool.not_false, ↓y_call]
    refine (pure_leaf r tm _).call rfl ?_
    have hsame := upd_self hh
    have hint : ∀ (W : List Int), ∀ c ∈ l ++ W.map (.int .i64), Low n c := fun W c hc => by
      rcases List.mem_append.1 hc with hc | hc
      · exact hlow c hc
      · obtain ⟨x, _, rfl⟩ := List.mem_map.1 hc; exact .int ..
    by_cases hr' : r = -1
    · subst hr'
      rw [wordL_mk, if_pos rfl] at hfit ⊢
      have hf : (l.length + 1) * 8 ≤ 140737488355328 := hfit
      simp -implicitDefEqProofs only [↓symPre, symPost, y_condP, y_condG, run, lver, minD, intsD, eqAll, tupD, splice, Nat.zero_add, Nat.add_zero, Nat.zero_mul, Nat.mul_one, Nat.one_mul, Nat.reduceAdd, Nat.reduceSub, Nat.reduceMul, Nat.reduceLT, Nat.reduceLeDiff, Nat.reduceEqDiff, true_and, and_true, true_implies, if_true, if_false, ite_true, reduceIte, ne_eq, not_false_eq_true, reduceCtorEq, forall_const, bne_self_eq_false, Bool.true_eq_false, Bool.false_eq_true, false_implies, and_self, implies_true, Int.toNat_zero, beq_self_eq_true, decide_true, decide_false, Bool.not_true, Bool.not_false, ↓y_call, srcOf, ↓y_at_old hb, hh, hb, hf, Nat.le_refl, List.take_length]
      refine fin_old (lowH_upd hl (hint [tm])) hb ?_
      exact ⟨rfl, ver + 1, by omega, rfl, rfl⟩
    · have hrb : (r == -1) = false := by simpa using hr'
      rw [wordL_mk, if_neg hr'] at hfit ⊢
      rw [size_mk, if_neg hr'] at hsz
      simp -implicitDefEqProofs only [↓symPre, symPost, y_condP, y_condG, run, lver, minD, intsD, eqAll, tupD, splice, Nat.zero_add, Nat.add_zero, Nat.zero_mul, Nat.mul_one, Nat.one_mul, Nat.reduceAdd, Nat.reduceSub, Nat.reduceMul, Nat.reduceLT, Nat.reduceLeDiff, Nat.reduceEqDiff, true_and, and_true, true_implies, if_true, if_false, ite_true, reduceIte, ne_eq, not_false_eq_true, reduceCtorEq, forall_const, bne_self_eq_false, Bool.true_eq_false, Bool.false_eq_true, false_implies, and_self, implies_true, Int.toNat_zero, beq_self_eq_true, decide_true, decide_false, Bool.not_true, Bool.not_false, ↓y_call, hrb]
      refine aloop (fun p : Nat × Nat => St.mk n ([.ref 1 b p.2 0 (l.length + ((ks.map wordL).take p.1).flatten.length), .top, .top, .top] ++ List.replicate 11 .top ++ [.lst (ks.map treeD), .int .i64 ks.length, .int .i64 p.1] ++ List.replicate 8 .top)
          (upd h b ⟨p.2, .cells (l ++ ((ks.map wordL).take p.1).flatten.map (.int .i64))⟩) (List.replicate 26 blk0)) (fun p => p.1 ≤ ks.length ∧ ver ≤ p.2) (fun p => ks.length - p.1) (0, ver) ⟨Nat.zero_le _, Nat.le_refl _⟩ ?_ ?_
      · refine le_toh (List.replicate 26 .hole) hl (by simpa using hsame) rfl ?_ ?_ <;> ((try simp only [y_blk_end, y_blk_hole, y_blk_nil, y_blk_old, y_wkl_end, y_wkl_top, List.replicate, List.cons_append, List.nil_append, and_true, true_and]) <;> (repeat' (first | apply And.intro | apply y_wkl | refine Exists.intro _ (And.intro rfl ?_))) <;> (try first | exact trivial | exact Wk.top _ | exact wk_int rfl | exact wk_bool rfl | exact wk_ptr rfl rfl rfl rfl | exact wk_ref rfl rfl rfl rfl rfl | exact wk_nil rfl rfl rfl | exact wk_ref rfl rfl rfl rfl (by simp) | exact wk_ref rfl rfl rfl rfl (by simp; omega) | exact wk_old (by assumption) (by simp) | exact wk_eq rfl (by first | exact Bd.int _ _ | exact Bd.bool _ | exact Bd.abool | exact Bd.nils | exact Bd.emp | exact Bd.nilp | exact Bd.nilfn | assumption | exact low_trees _ _ | exact low_treeD _ _ | exact low_ints _ _) | exact Nat.le_refl _ | exact wk_int (by simp) | exact wk_int (by omega) | exact Nat.succ_le_succ (Nat.zero_le _) | exact Nat.le_add_left _ _ | omega))
      · rintro ⟨i, v⟩ ⟨hi, hv'⟩
        simp only at hi hv'
        by_cases hlt : i < ks.length
        · have h1 : (i : Int) < (ks.length : Int) := by omega
          have h0 : (0 : Int) ≤ (i : Int) := by omega
          have hm : ks[i] ∈ ks := List.getElem_mem hlt
          have ih := app_word ks[i]
          have e0 := nth_map_tree ks i hlt
          have hW := flat_take_succ wordL ks i hlt
          have hW2 := flat_take_le (ks.map wordL) (i + 1)
          rw [hW, List.length_append] at hW2
          have hs1 := sum_take_succ (ks.map size) i (by simpa using hlt)
          have hs2 := sum_take_le (ks.map size) (i + 1)
          have hs3 := len_le_sum ks
          simp only [List.getElem_map] at hs1
          obtain ⟨r', t', k', ek⟩ : ∃ r' t' k', ks[i] = .mk r' t' k' := by cases h : ks[i]; exact ⟨_, _, _, rfl⟩
          have ih' := ih (by omega)
          rw [ek, treeD_mk] at e0 ih'
          simp -implicitDefEqProofs only [↓symPre, symPost, y_condP, y_condG, run, lver, minD, intsD, eqAll, tupD, splice, Nat.zero_add, Nat.add_zero, Nat.zero_mul, Nat.mul_one, Nat.one_mul, Nat.reduceAdd, Nat.reduceSub, Nat.reduceMul, Nat.reduceLT, Nat.reduceLeDiff, Nat.reduceEqDiff, true_and, and_true, true_implies, if_true, if_false, ite_true, reduceIte, ne_eq, not_false_eq_true, reduceCtorEq, forall_const, bne_self_eq_false, Bool.true_eq_false, Bool.false_eq_true, false_implies, and_self, implies_true, Int.toNat_zero, beq_self_eq_true, decide_true, decide_false, Bool.not_true, Bool.not_false, ↓y_call, List.length_map, h1, h0, decide_true, Int.toNat_natCast, e0]
          refine Appends.call (mk := fun d => [d, .agg [.int .i64 r', .int .i64 t', .lst (k'.map treeD)]]) (l := l ++ ((ks.map wordL).take i).flatten.map (.int .i64)) (ver := v) ih' rfl rfl (Nat.lt_of_lt_of_le hb (Nat.le_add_right _ _)) (by omega) ((mrg_lt hb).trans (upd_same ..)) (by simp only [List.length_append, List.length_map, Nat.mul_one]) ?_ ?_ ?_
          · rw [← ek]; omega
          · intro c hc; exact (hint _ c hc).mono fun b' v' h => h.elim (fun h => .inl (by omega)) .inr
          · intro v2 hv2
            have w1 : IntKind.i64.wrap ((i : Int) + 1) = ((i + 1 : Nat) : Int) := by rw [IntWalk.i64_in _ (by omega)]; omega
            simp -implicitDefEqProofs only [↓symPre, symPost, y_condP, y_condG, run, lver, minD, intsD, eqAll, tupD, splice, Nat.zero_add, Nat.add_zero, Nat.zero_mul, Nat.mul_one, Nat.one_mul, Nat.reduceAdd, Nat.reduceSub, Nat.reduceMul, Nat.reduceLT, Nat.reduceLeDiff, Nat.reduceEqDiff, true_and, and_true, true_implies, if_true, if_false, ite_true, reduceIte, ne_eq, not_false_eq_true, reduceCtorEq, forall_const, bne_self_eq_false, Bool.true_eq_false, Bool.false_eq_true, false_implies, and_self, implies_true, Int.toNat_zero, beq_self_eq_true, decide_true, decide_false, Bool.not_true, Bool.not_false, ↓y_call, w1, hb, upd_upd]
            refine ⟨(i + 1, v2), ⟨by simp only; omega, by simp only; omega⟩, by simp only; omega, ?_⟩
            refine le_toh (List.replicate 26 .hole) (lowH_upd hl (by rw [← ek, List.append_assoc, ← List.map_append]; exact hint _)) ?_ rfl ?_ ?_
            · simp only [hW, ek, List.map_append, List.append_assoc]
            · ((try simp only [y_blk_end, y_blk_hole, y_blk_nil, y_blk_old, y_wkl_end, y_wkl_top, List.replicate, List.cons_append, List.nil_append, and_true, true_and]) <;> (repeat' (first | apply And.intro | apply y_wkl | refine Exists.intro _ (And.intro rfl ?_))) <;> (try first | exact trivial | exact Wk.top _ | exact wk_int rfl | exact wk_bool rfl | exact wk_ptr rfl rfl rfl rfl | exact wk_ref rfl rfl rfl rfl rfl | exact wk_nil rfl rfl rfl | exact wk_ref rfl rfl rfl rfl (by simp) | exact wk_ref rfl rfl rfl rfl (by simp; omega) | exact wk_old (by assumption) (by simp) | exact wk_eq rfl (by first | exact Bd.int _ _ | exact Bd.bool _ | exact Bd.abool | exact Bd.nils | exact Bd.emp | exact Bd.nilp | exact Bd.nilfn | assumption | exact low_trees _ _ | exact low_treeD _ _ | exact low_ints _ _) | exact Nat.le_refl _ | exact wk_int (by simp) | exact wk_int (by omega) | exact Nat.succ_le_succ (Nat.zero_le _) | exact Nat.le_add_left _ _ | omega))
            · simp only [hW, ek, List.length_append, ← Nat.add_assoc]
              ((try simp only [y_blk_end, y_blk_hole, y_blk_nil, y_blk_old, y_wkl_end, y_wkl_top, List.replicate, List.cons_append, List.nil_append, and_true, true_and]) <;> (repeat' (first | apply And.intro | apply y_wkl | refine Exists.intro _ (And.intro rfl ?_))) <;> (try first | exact trivial | exact Wk.top _ | exact wk_int rfl | exact wk_bool rfl | exact wk_ptr rfl rfl rfl rfl | exact wk_ref rfl rfl rfl rfl rfl | exact wk_nil rfl rfl rfl | exact wk_ref rfl rfl rfl rfl (by simp) | exact wk_ref rfl rfl rfl rfl (by simp; omega) | exact wk_old (by assumption) (by simp) | exact wk_eq rfl (by first | exact Bd.int _ _ | exact Bd.bool _ | exact Bd.abool | exact Bd.nils | exact Bd.emp | exact Bd.nilp | exact Bd.nilfn | assumption | exact low_trees _ _ | exact low_treeD _ _ | exact low_ints _ _) | exact Nat.le_refl _ | exact wk_int (by simp) | exact wk_int (by omega) | exact Nat.succ_le_succ (Nat.zero_le _) | exact Nat.le_add_left _ _ | omega))
        · have h1 : ¬ (i : Int) < (ks.length : Int) := by omega
          have : i = ks.length := by omega
          subst this
          have he : (ks.map wordL).take ks.length = ks.map wordL := by rw [← List.length_map (f := wordL), List.take_length]
          simp -implicitDefEqProofs only [↓symPre, symPost, y_condP, y_condG, run, lver, minD, intsD, eqAll, tupD, splice, Nat.zero_add, Nat.add_zero, Nat.zero_mul, Nat.mul_one, Nat.one_mul, Nat.reduceAdd, Nat.reduceSub, Nat.reduceMul, Nat.reduceLT, Nat.reduceLeDiff, Nat.reduceEqDiff, true_and, and_true, true_implies, if_true, if_false, ite_true, reduceIte, ne_eq, not_false_eq_true, reduceCtorEq, forall_const, bne_self_eq_false, Bool.true_eq_false, Bool.false_eq_true, false_implies, and_self, implies_true, Int.toNat_zero, beq_self_eq_true, decide_true, decide_false, Bool.not_true, Bool.not_false, ↓y_call, List.length_map, h1, decide_false, he]
          refine fin_old (lowH_upd hl (hint _)) hb ?_
          exact ⟨rfl, v, hv', rfl, rfl⟩
termination_by t => t

end Abs
end Go.Proofs.Ytfojedaccfenfaa

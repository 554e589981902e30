/- Trees: size, word. -/
import Derived.Test.YtokdeeagghhliaaO26
namespace Go.Proofs.Ytokdeeagghhliaa
namespace Abs
set_option linter.unusedVariables false
set_option linter.unusedSimpArgs false
set_option maxRecDepth 20000

inductive Tree where
  | mk (rule term : Int) (kids : List Tree)
  deriving Inhabited

def treeD : Tree → D
  | .mk r t ks => .agg [.int .i64 r, .int .i64 t, .lst (ks.map treeD)]

theorem treeD_mk (r t : Int) (ks : List Tree) : treeD (.mk r t ks) = .agg [.int .i64 r, .int .i64 t, .lst (ks.map treeD)] := by rw [treeD]

def size : Tree → Nat
  | .mk r _ ks => if r = -1 then 1 else 1 + (ks.map size).sum

theorem size_mk (r t : Int) (ks : List Tree) : size (.mk r t ks) = if r = -1 then 1 else 1 + (ks.map size).sum := by rw [size]

theorem size_pos : ∀ t : Tree, 1 ≤ size t
  | .mk r _ ks => by rw [size_mk]; split <;> omega

theorem len_le_sum : ∀ ks : List Tree, ks.length ≤ (ks.map size).sum
  | [] => by simp
  | k :: ks => by have := len_le_sum ks; have := size_pos k; simp; omega

theorem low_treeD (n : Nat) : ∀ t : Tree, Low n (treeD t)
  | .mk r t ks => by
    rw [treeD_mk]
    refine .agg _ fun c hc => ?_
    simp only [List.mem_cons, List.not_mem_nil, or_false] at hc
    rcases hc with rfl | rfl | rfl
    · exact .int ..
    · exact .int ..
    · refine .lst _ fun c hc => ?_
      obtain ⟨k, hk, rfl⟩ := List.mem_map.1 hc
      exact low_treeD n k

theorem low_trees (n : Nat) (ks : List Tree) : Low n (.lst (ks.map treeD)) := by
  refine .lst _ fun c hc => ?_
  obtain ⟨k, hk, rfl⟩ := List.mem_map.1 hc
  exact low_treeD n k

theorem treeD_cells (t : Tree) : (treeD t).cells.length = 3 := by cases t; rw [treeD_mk]; rfl

theorem nth_map_tree (ks : List Tree) (i : Nat) (hi : i < ks.length) : nth (ks.map treeD) i = treeD ks[i] := by
  simp [nth, List.getD, hi]

theorem pure_leaf (r t : Int) (k : D) : Pure prog F_tree_leaf [.agg [.int .i64 r, .int .i64 t, k]] (.bool (r == -1)) := by
  intro n h
  refine K_tree_leaf.calls fun hl => ?_
  unfold C_tree_leaf
  simp -implicitDefEqProofs only [↓symPre, symPost, y_condP, y_condG, run, lver, minD, intsD, eqAll, tupD, splice, Nat.zero_add, Nat.add_zero, Nat.zero_mul, Nat.mul_one, Nat.one_mul, Nat.reduceAdd, Nat.reduceSub, Nat.reduceMul, Nat.reduceLT, Nat.reduceLeDiff, Nat.reduceEqDiff, true_and, and_true, true_implies, if_true, if_false, ite_true, reduceIte, ne_eq, not_false_eq_true, reduceCtorEq, forall_const, bne_self_eq_false, Bool.true_eq_false, Bool.false_eq_true, false_implies, and_self, implies_true, Int.toNat_zero, beq_self_eq_true, decide_true, decide_false, Bool.not_true, Bool.not_false, ↓y_lookv, y_key1, y_mlook, y_mlookn, y_mres1, y_mres0]
  exact fin_low hl (.bool _) ⟨rfl, rfl, rfl⟩

theorem pure_Size : ∀ t : Tree, size t < 2 ^ 62 → Pure prog F_tree_Size [treeD t] (.int .i64 (size t))
  | .mk r tm ks, hsz => by
    intro n h
    rw [treeD_mk]
    refine K_tree_Size.calls fun hl => ?_
    unfold C_tree_Size
    simp -implicitDefEqProofs only [↓symPre, symPost, y_condP, y_condG, run, lver, minD, intsD, eqAll, tupD, splice, Nat.zero_add, Nat.add_zero, Nat.zero_mul, Nat.mul_one, Nat.one_mul, Nat.reduceAdd, Nat.reduceSub, Nat.reduceMul, Nat.reduceLT, Nat.reduceLeDiff, Nat.reduceEqDiff, true_and, and_true, true_implies, if_true, if_false, ite_true, reduceIte, ne_eq, not_false_eq_true, reduceCtorEq, forall_const, bne_self_eq_false, Bool.true_eq_false, Bool.false_eq_true, false_implies, and_self, implies_true, Int.toNat_zero, beq_self_eq_true, decide_true, decide_false, Bool.not_true, Bool.not_false, ↓y_lookv, y_key1, y_mlook, y_mlookn, y_mres1, y_mres0, ↓y_call]
    refine (pure_leaf r tm _).call rfl ?_
    simp -implicitDefEqProofs only [↓symPre, symPost, y_condP, y_condG, run, lver, minD, intsD, eqAll, tupD, splice, Nat.zero_add, Nat.add_zero, Nat.zero_mul, Nat.mul_one, Nat.one_mul, Nat.reduceAdd, Nat.reduceSub, Nat.reduceMul, Nat.reduceLT, Nat.reduceLeDiff, Nat.reduceEqDiff, true_and, and_true, true_implies, if_true, if_false, ite_true, reduceIte, ne_eq, not_false_eq_true, reduceCtorEq, forall_const, bne_self_eq_false, Bool.true_eq_false, Bool.false_eq_true, false_implies, and_self, implies_true, Int.toNat_zero, beq_self_eq_true, decide_true, decide_false, Bool.not_true, Bool.not_false, ↓y_lookv, y_key1, y_mlook, y_mlookn, y_mres1, y_mres0, ↓y_call]
    refine ⟨fun hr => ?_, fun hr => ?_⟩
    · refine fin_low hl (.int ..) ⟨rfl, rfl, ?_⟩
      rw [size_mk, if_pos (by simpa using hr)]; rfl
    · have hr' : ¬ r = -1 := by simpa using hr
      rw [size_mk, if_neg hr'] at hsz
      refine aloop (fun i : Nat => St.mk n ([.top, .ptr (n + 1) 1 0, .top, .int .i64 ((1 + ((ks.map size).take i).sum : Nat) : Int), .top, .top, .top, .top, .top, .top, .lst (ks.map treeD), .int .i64 ks.length, .int .i64 i] ++ List.replicate 9 .top) h
        ([blk0, ⟨1, .cells [.int .i64 r, .int .i64 tm, .lst (ks.map treeD)]⟩] ++ List.replicate 20 blk0)) (fun i => i ≤ ks.length) (fun i => ks.length - i) 0 (Nat.zero_le _) ?_ ?_
      · refine le_to ([.hole, .old 1] ++ List.replicate 20 .hole) hl rfl ?_ ?_ <;> ((try simp only [y_blk_end, y_blk_hole, y_blk_nil, y_blk_old, y_wkl_end, y_wkl_top, List.replicate, List.cons_append, List.nil_append, and_true, true_and]) <;> (repeat' (first | apply And.intro | apply y_wkl | refine Exists.intro _ (And.intro rfl ?_))) <;> (try first | exact trivial | exact Wk.top _ | exact wk_int rfl | exact wk_bool rfl | exact wk_ptr rfl rfl rfl rfl | exact wk_ref rfl rfl rfl rfl rfl | exact wk_nil rfl rfl rfl | exact wk_ref rfl rfl rfl rfl (by simp) | exact wk_ref rfl rfl rfl rfl (by simp; omega) | exact wk_old (by assumption) (by simp) | exact wk_eq rfl (by first | exact Bd.int _ _ | exact Bd.bool _ | exact Bd.abool | exact Bd.nils | exact Bd.emp | exact Bd.nilp | exact Bd.nilfn | assumption | exact low_trees _ _ | exact low_treeD _ _ | exact low_ints _ _) | exact Nat.le_refl _ | exact wk_int (by simp) | exact wk_int (by omega) | exact Nat.succ_le_succ (Nat.zero_le _) | exact Nat.le_add_left _ _ | omega))
      · intro i hi
        by_cases hlt : i < ks.length
        · have h1 : (i : Int) < (ks.length : Int) := by omega
          have h0 : (0 : Int) ≤ (i : Int) := by omega
          have hm : ks[i] ∈ ks := List.getElem_mem hlt
          have ih := pure_Size ks[i]
          have e0 := nth_map_tree ks i hlt
          obtain ⟨r', t', k', ek⟩ : ∃ r' t' k', ks[i] = .mk r' t' k' := by cases h : ks[i]; exact ⟨_, _, _, rfl⟩
          rw [ek, treeD_mk] at e0 ih
          simp -implicitDefEqProofs only [↓symPre, symPost, y_condP, y_condG, run, lver, minD, intsD, eqAll, tupD, splice, Nat.zero_add, Nat.add_zero, Nat.zero_mul, Nat.mul_one, Nat.one_mul, Nat.reduceAdd, Nat.reduceSub, Nat.reduceMul, Nat.reduceLT, Nat.reduceLeDiff, Nat.reduceEqDiff, true_and, and_true, true_implies, if_true, if_false, ite_true, reduceIte, ne_eq, not_false_eq_true, reduceCtorEq, forall_const, bne_self_eq_false, Bool.true_eq_false, Bool.false_eq_true, false_implies, and_self, implies_true, Int.toNat_zero, beq_self_eq_true, decide_true, decide_false, Bool.not_true, Bool.not_false, ↓y_lookv, y_key1, y_mlook, y_mlookn, y_mres1, y_mres0, ↓y_call, List.length_map, h1, h0, decide_true, Int.toNat_natCast, e0, forall_eq_or_imp, List.mem_cons, List.not_mem_nil, or_false, forall_eq]
          have hs1 : ((ks.map size).take (i + 1)).sum = ((ks.map size).take i).sum + size ks[i] := by
            rw [sum_take_succ _ i (by simpa using hlt)]; simp
          have hs2 := sum_take_le (ks.map size) (i + 1)
          have hs3 := len_le_sum ks
          rw [ek] at hs1
          refine (ih (by omega)).call rfl ?_
          have w1 : IntKind.i64.wrap ((i : Int) + 1) = ((i + 1 : Nat) : Int) := by rw [IntWalk.i64_in _ (by omega)]; omega
          have w2 : IntKind.i64.wrap (((1 + ((ks.map size).take i).sum : Nat) : Int) + ((size (.mk r' t' k') : Nat) : Int)) = ((1 + ((ks.map size).take (i + 1)).sum : Nat) : Int) := by
            rw [IntWalk.i64_in _ (by omega)]; omega
          simp -implicitDefEqProofs only [↓symPre, symPost, y_condP, y_condG, run, lver, minD, intsD, eqAll, tupD, splice, Nat.zero_add, Nat.add_zero, Nat.zero_mul, Nat.mul_one, Nat.one_mul, Nat.reduceAdd, Nat.reduceSub, Nat.reduceMul, Nat.reduceLT, Nat.reduceLeDiff, Nat.reduceEqDiff, true_and, and_true, true_implies, if_true, if_false, ite_true, reduceIte, ne_eq, not_false_eq_true, reduceCtorEq, forall_const, bne_self_eq_false, Bool.true_eq_false, Bool.false_eq_true, false_implies, and_self, implies_true, Int.toNat_zero, beq_self_eq_true, decide_true, decide_false, Bool.not_true, Bool.not_false, ↓y_lookv, y_key1, y_mlook, y_mlookn, y_mres1, y_mres0, ↓y_call, w1, w2]
          refine ⟨i + 1, by omega, by omega, ?_⟩
          refine le_to ([.hole, .old 1] ++ List.replicate 20 .hole) hl rfl ?_ ?_ <;> ((try simp only [y_blk_end, y_blk_hole, y_blk_nil, y_blk_old, y_wkl_end, y_wkl_top, List.replicate, List.cons_append, List.nil_append, and_true, true_and]) <;> (repeat' (first | apply And.intro | apply y_wkl | refine Exists.intro _ (And.intro rfl ?_))) <;> (try first | exact trivial | exact Wk.top _ | exact wk_int rfl | exact wk_bool rfl | exact wk_ptr rfl rfl rfl rfl | exact wk_ref rfl rfl rfl rfl rfl | exact wk_nil rfl rfl rfl | exact wk_ref rfl rfl rfl rfl (by simp) | exact wk_ref rfl rfl rfl rfl (by simp; omega) | exact wk_old (by assumption) (by simp) | exact wk_eq rfl (by first | exact Bd.int _ _ | exact Bd.bool _ | exact Bd.abool | exact Bd.nils | exact Bd.emp | exact Bd.nilp | exact Bd.nilfn | assumption | exact low_trees _ _ | exact low_treeD _ _ | exact low_ints _ _) | exact Nat.le_refl _ | exact wk_int (by simp) | exact wk_int (by omega) | exact Nat.succ_le_succ (Nat.zero_le _) | exact Nat.le_add_left _ _ | omega))
        · have h1 : ¬ (i : Int) < (ks.length : Int) := by omega
          simp -implicitDefEqProofs only [↓symPre, symPost, y_condP, y_condG, run, lver, minD, intsD, eqAll, tupD, splice, Nat.zero_add, Nat.add_zero, Nat.zero_mul, Nat.mul_one, Nat.one_mul, Nat.reduceAdd, Nat.reduceSub, Nat.reduceMul, Nat.reduceLT, Nat.reduceLeDiff, Nat.reduceEqDiff, true_and, and_true, true_implies, if_true, if_false, ite_true, reduceIte, ne_eq, not_false_eq_true, reduceCtorEq, forall_const, bne_self_eq_false, Bool.true_eq_false, Bool.false_eq_true, false_implies, and_self, implies_true, Int.toNat_zero, beq_self_eq_true, decide_true, decide_false, Bool.not_true, Bool.not_false, ↓y_lookv, y_key1, y_mlook, y_mlookn, y_mres1, y_mres0, ↓y_call, List.length_map, h1, decide_false]
          have : i = ks.length := by omega
          subst this
          refine fin_low hl (.int ..) ⟨rfl, rfl, ?_⟩
          rw [size_mk, if_neg hr', ← List.length_map (f := size), List.take_length]
          rfl
termination_by t => t

def wordL : Tree → List Int
  | .mk r t ks => if r = -1 then [t] else (ks.map wordL).flatten

def rulesL : Tree → List Int
  | .mk r _ ks => r :: (if r = -1 then [] else (ks.map rulesL).flatten)

theorem wordL_mk (r t : Int) (ks : List Tree) : wordL (.mk r t ks) = if r = -1 then [t] else (ks.map wordL).flatten := by rw [wordL]

theorem rulesL_mk (r t : Int) (ks : List Tree) : rulesL (.mk r t ks) = r :: (if r = -1 then [] else (ks.map rulesL).flatten) := by rw [rulesL]

theorem app_word : ∀ t : Tree, size t < 2 ^ 62 → Appends prog F_tree_word (fun d => [d, treeD t]) 1 8 ((wordL t).map (.int .i64)) (wordL t).length
  | .mk r tm ks, hsz => by
    intro n h b ver l len hb hv hh hlen hfit hlow
    simp only [Nat.mul_one] at hlen
    subst hlen
    rw [treeD_mk]
    refine K_tree_word.calls fun hl => ?_
    unfold C_tree_word
    simp -implicitDefEqProofs only [↓symPre, symPost, y_condP, y_condG, run, lver, minD, intsD, eqAll, tupD, splice, Nat.zero_add, Nat.add_zero, Nat.zero_mul, Nat.mul_one, Nat.one_mul, Nat.reduceAdd, Nat.reduceSub, Nat.reduceMul, Nat.reduceLT, Nat.reduceLeDiff, Nat.reduceEqDiff, true_and, and_true, true_implies, if_true, if_false, ite_true, reduceIte, ne_eq, not_false_eq_true, reduceCtorEq, forall_const, bne_self_eq_false, Bool.true_eq_false, Bool.false_eq_true, false_implies, and_self, implies_true, Int.toNat_zero, beq_self_eq_true, decide_true, decide_false, Bool.not_true, Bool.not_false, ↓y_lookv, y_key1, y_mlook, y_mlookn, y_mres1, y_mres0, ↓y_call]
    refine (pure_leaf r tm _).call rfl ?_
    have hsame := upd_self hh
    have hint : ∀ (W : List Int), ∀ c ∈ l ++ W.map (.int .i64), Low n c := fun W c hc => by
      rcases List.mem_append.1 hc with hc | hc
      · exact hlow c hc
      · obtain ⟨x, _, rfl⟩ := List.mem_map.1 hc; exact .int ..
    by_cases hr' : r = -1
    · subst hr'
      rw [wordL_mk, if_pos rfl] at hfit ⊢
      have hf : (l.length + 1) * 8 ≤ 140737488355328 := hfit
      simp -implicitDefEqProofs only [↓symPre, symPost, y_condP, y_condG, run, lver, minD, intsD, eqAll, tupD, splice, Nat.zero_add, Nat.add_zero, Nat.zero_mul, Nat.mul_one, Nat.one_mul, Nat.reduceAdd, Nat.reduceSub, Nat.reduceMul, Nat.reduceLT, Nat.reduceLeDiff, Nat.reduceEqDiff, true_and, and_true, true_implies, if_true, if_false, ite_true, reduceIte, ne_eq, not_false_eq_true, reduceCtorEq, forall_const, bne_self_eq_false, Bool.true_eq_false, Bool.false_eq_true, false_implies, and_self, implies_true, Int.toNat_zero, beq_self_eq_true, decide_true, decide_false, Bool.not_true, Bool.not_false, ↓y_lookv, y_key1, y_mlook, y_mlookn, y_mres1, y_mres0, ↓y_call, srcOf, ↓y_at_old hb, hh, hb, hf, Nat.le_refl, List.take_length]
      refine fin_old (lowH_upd hl (hint [tm])) hb ?_
      exact ⟨rfl, ver + 1, by omega, rfl, rfl⟩
    · have hrb : (r == -1) = false := by simpa using hr'
      rw [wordL_mk, if_neg hr'] at hfit ⊢
      rw [size_mk, if_neg hr'] at hsz
      simp -implicitDefEqProofs only [↓symPre, symPost, y_condP, y_condG, run, lver, minD, intsD, eqAll, tupD, splice, Nat.zero_add, Nat.add_zero, Nat.zero_mul, Nat.mul_one, Nat.one_mul, Nat.reduceAdd, Nat.reduceSub, Nat.reduceMul, Nat.reduceLT, Nat.reduceLeDiff, Nat.reduceEqDiff, true_and, and_true, true_implies, if_true, if_false, ite_true, reduceIte, ne_eq, not_false_eq_true, reduceCtorEq, forall_const, bne_self_eq_false, Bool.true_eq_false, Bool.false_eq_true, false_implies, and_self, implies_true, Int.toNat_zero, beq_self_eq_true, decide_true, decide_false, Bool.not_true, Bool.not_false, ↓y_lookv, y_key1, y_mlook, y_mlookn, y_mres1, y_mres0, ↓y_call, hrb]
      refine aloop (fun p : Nat × Nat => St.mk n ([.ref 1 b p.2 0 (l.length + ((ks.map wordL).take p.1).flatten.length), .top, .top, .top] ++ List.replicate 11 .top ++ [.lst (ks.map treeD), .int .i64 ks.length, .int .i64 p.1] ++ List.replicate 8 .top)
          (upd h b ⟨p.2, .cells (l ++ ((ks.map wordL).take p.1).flatten.map (.int .i64))⟩) (List.replicate 26 blk0)) (fun p => p.1 ≤ ks.length ∧ ver ≤ p.2) (fun p => ks.length - p.1) (0, ver) ⟨Nat.zero_le _, Nat.le_refl _⟩ ?_ ?_
      · refine le_toh (List.replicate 26 .hole) hl (by simpa using hsame) rfl ?_ ?_ <;> ((try simp only [y_blk_end, y_blk_hole, y_blk_nil, y_blk_old, y_wkl_end, y_wkl_top, List.replicate, List.cons_append, List.nil_append, and_true, true_and]) <;> (repeat' (first | apply And.intro | apply y_wkl | refine Exists.intro _ (And.intro rfl ?_))) <;> (try first | exact trivial | exact Wk.top _ | exact wk_int rfl | exact wk_bool rfl | exact wk_ptr rfl rfl rfl rfl | exact wk_ref rfl rfl rfl rfl rfl | exact wk_nil rfl rfl rfl | exact wk_ref rfl rfl rfl rfl (by simp) | exact wk_ref rfl rfl rfl rfl (by simp; omega) | exact wk_old (by assumption) (by simp) | exact wk_eq rfl (by first | exact Bd.int _ _ | exact Bd.bool _ | exact Bd.abool | exact Bd.nils | exact Bd.emp | exact Bd.nilp | exact Bd.nilfn | assumption | exact low_trees _ _ | exact low_treeD _ _ | exact low_ints _ _) | exact Nat.le_refl _ | exact wk_int (by simp) | exact wk_int (by omega) | exact Nat.succ_le_succ (Nat.zero_le _) | exact Nat.le_add_left _ _ | omega))
      · rintro ⟨i, v⟩ ⟨hi, hv'⟩
        simp only at hi hv'
        by_cases hlt : i < ks.length
        · have h1 : (i : Int) < (ks.length : Int) := by omega
          have h0 : (0 : Int) ≤ (i : Int) := by omega
          have hm : ks[i] ∈ ks := List.getElem_mem hlt
          have ih := app_word ks[i]
          have e0 := nth_map_tree ks i hlt
          have hW := flat_take_succ wordL ks i hlt
          have hW2 := flat_take_le (ks.map wordL) (i + 1)
          rw [hW, List.length_append] at hW2
          have hs1 := sum_take_succ (ks.map size) i (by simpa using hlt)
          have hs2 := sum_take_le (ks.map size) (i + 1)
          have hs3 := len_le_sum ks
          simp only [List.getElem_map] at hs1
          obtain ⟨r', t', k', ek⟩ : ∃ r' t' k', ks[i] = .mk r' t' k' := by cases h : ks[i]; exact ⟨_, _, _, rfl⟩
          have ih' := ih (by omega)
          rw [ek, treeD_mk] at e0 ih'
          simp -implicitDefEqProofs only [↓symPre, symPost, y_condP, y_condG, run, lver, minD, intsD, eqAll, tupD, splice, Nat.zero_add, Nat.add_zero, Nat.zero_mul, Nat.mul_one, Nat.one_mul, Nat.reduceAdd, Nat.reduceSub, Nat.reduceMul, Nat.reduceLT, Nat.reduceLeDiff, Nat.reduceEqDiff, true_and, and_true, true_implies, if_true, if_false, ite_true, reduceIte, ne_eq, not_false_eq_true, reduceCtorEq, forall_const, bne_self_eq_false, Bool.true_eq_false, Bool.false_eq_true, false_implies, and_self, implies_true, Int.toNat_zero, beq_self_eq_true, decide_true, decide_false, Bool.not_true, Bool.not_false, ↓y_lookv, y_key1, y_mlook, y_mlookn, y_mres1, y_mres0, ↓y_call, List.length_map, h1, h0, decide_true, Int.toNat_natCast, e0]
          refine Appends.call (mk := fun d => [d, .agg [.int .i64 r', .int .i64 t', .lst (k'.map treeD)]]) (l := l ++ ((ks.map wordL).take i).flatten.map (.int .i64)) (ver := v) ih' rfl rfl (Nat.lt_of_lt_of_le hb (Nat.le_add_right _ _)) (by omega) ((mrg_lt hb).trans (upd_same ..)) (by simp only [List.length_append, List.length_map, Nat.mul_one]) ?_ ?_ ?_
          · rw [← ek]; omega
          · intro c hc; exact (hint _ c hc).mono fun b' v' h => h.elim (fun h => .inl (by omega)) .inr
          · intro v2 hv2
            have w1 : IntKind.i64.wrap ((i : Int) + 1) = ((i + 1 : Nat) : Int) := by rw [IntWalk.i64_in _ (by omega)]; omega
            simp -implicitDefEqProofs only [↓symPre, symPost, y_condP, y_condG, run, lver, minD, intsD, eqAll, tupD, splice, Nat.zero_add, Nat.add_zero, Nat.zero_mul, Nat.mul_one, Nat.one_mul, Nat.reduceAdd, Nat.reduceSub, Nat.reduceMul, Nat.reduceLT, Nat.reduceLeDiff, Nat.reduceEqDiff, true_and, and_true, true_implies, if_true, if_false, ite_true, reduceIte, ne_eq, not_false_eq_true, reduceCtorEq, forall_const, bne_self_eq_false, Bool.true_eq_false, Bool.false_eq_true, false_implies, and_self, implies_true, Int.toNat_zero, beq_self_eq_true, decide_true, decide_false, Bool.not_true, Bool.not_false, ↓y_lookv, y_key1, y_mlook, y_mlookn, y_mres1, y_mres0, ↓y_call, w1, hb, upd_upd]
            refine ⟨(i + 1, v2), ⟨by simp only; omega, by simp only; omega⟩, by simp only; omega, ?_⟩
            refine le_toh (List.replicate 26 .hole) (lowH_upd hl (by rw [← ek, List.append_assoc, ← List.map_append]; exact hint _)) ?_ rfl ?_ ?_
            · simp only [hW, ek, List.map_append, List.append_assoc]
            · ((try simp only [y_blk_end, y_blk_hole, y_blk_nil, y_blk_old, y_wkl_end, y_wkl_top, List.replicate, List.cons_append, List.nil_append, and_true, true_and]) <;> (repeat' (first | apply And.intro | apply y_wkl | refine Exists.intro _ (And.intro rfl ?_))) <;> (try first | exact trivial | exact Wk.top _ | exact wk_int rfl | exact wk_bool rfl | exact wk_ptr rfl rfl rfl rfl | exact wk_ref rfl rfl rfl rfl rfl | exact wk_nil rfl rfl rfl | exact wk_ref rfl rfl rfl rfl (by simp) | exact wk_ref rfl rfl rfl rfl (by simp; omega) | exact wk_old (by assumption) (by simp) | exact wk_eq rfl (by first | exact Bd.int _ _ | exact Bd.bool _ | exact Bd.abool | exact Bd.nils | exact Bd.emp | exact Bd.nilp | exact Bd.nilfn | assumption | exact low_trees _ _ | exact low_treeD _ _ | exact low_ints _ _) | exact Nat.le_refl _ | exact wk_int (by simp) | exact wk_int (by omega) | exact Nat.succ_le_succ (Nat.zero_le _) | exact Nat.le_add_left _ _ | omega))
            · simp only [hW, ek, List.length_append, ← Nat.add_assoc]
              ((try simp only [y_blk_end, y_blk_hole, y_blk_nil, y_blk_old, y_wkl_end, y_wkl_top, List.replicate, List.cons_append, List.nil_append, and_true, true_and]) <;> (repeat' (first | apply And.intro | apply y_wkl | refine Exists.intro _ (And.intro rfl ?_))) <;> (try first | exact trivial | exact Wk.top _ | exact wk_int rfl | exact wk_bool rfl | exact wk_ptr rfl rfl rfl rfl | exact wk_ref rfl rfl rfl rfl rfl | exact wk_nil rfl rfl rfl | exact wk_ref rfl rfl rfl rfl (by simp) | exact wk_ref rfl rfl rfl rfl (by simp; omega) | exact wk_old (by assumption) (by simp) | exact wk_eq rfl (by first | exact Bd.int _ _ | exact Bd.bool _ | exact Bd.abool | exact Bd.nils | exact Bd.emp | exact Bd.nilp | exact Bd.nilfn | assumption | exact low_trees _ _ | exact low_treeD _ _ | exact low_ints _ _) | exact Nat.le_refl _ | exact wk_int (by simp) | exact wk_int (by omega) | exact Nat.succ_le_succ (Nat.zero_le _) | exact Nat.le_add_left _ _ | omega))
        · have h1 : ¬ (i : Int) < (ks.length : Int) := by omega
          have : i = ks.length := by omega
          subst this
          have he : (ks.map wordL).take ks.length = ks.map wordL := by rw [← List.length_map (f := wordL), List.take_length]
          simp -implicitDefEqProofs only [↓symPre, symPost, y_condP, y_condG, run, lver, minD, intsD, eqAll, tupD, splice, Nat.zero_add, Nat.add_zero, Nat.zero_mul, Nat.mul_one, Nat.one_mul, Nat.reduceAdd, Nat.reduceSub, Nat.reduceMul, Nat.reduceLT, Nat.reduceLeDiff, Nat.reduceEqDiff, true_and, and_true, true_implies, if_true, if_false, ite_true, reduceIte, ne_eq, not_false_eq_true, reduceCtorEq, forall_const, bne_self_eq_false, Bool.true_eq_false, Bool.false_eq_true, false_implies, and_self, implies_true, Int.toNat_zero, beq_self_eq_true, decide_true, decide_false, Bool.not_true, Bool.not_false, ↓y_lookv, y_key1, y_mlook, y_mlookn, y_mres1, y_mres0, ↓y_call, List.length_map, h1, decide_false, he]
          refine fin_old (lowH_upd hl (hint _)) hb ?_
          exact ⟨rfl, v, hv', rfl, rfl⟩
termination_by t => t

theorem wk_agg3 {X : Wx} {a b c a' b' c' : D} (h1 : Wk X a a') (h2 : Wk X b b') (h3 : Wk X c c') : Wk X (.agg [a, b, c]) (.agg [a', b', c']) := wk_agg3w h1 h2 h3

end Abs
end Go.Proofs.Ytokdeeagghhliaa


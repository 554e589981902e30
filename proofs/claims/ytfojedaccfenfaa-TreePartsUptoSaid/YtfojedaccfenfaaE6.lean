/- Codes and yields; words. -/
import Derived.Test.YtfojedaccfenfaaE5
namespace Go.Proofs.Ytfojedaccfenfaa
namespace Abs
set_option linter.unusedVariables false
set_option linter.unusedSimpArgs false
set_option maxRecDepth 20000

def ruleT : Tree → Int
  | .mk r _ _ => r
def leafT : Tree → List Int
  | .mk r t _ => if r = -1 then [t] else []

theorem flatMap_take_succ {α β : Type} (f : α → List β) : ∀ (ks : List α) (i : Nat) (hi : i < ks.length), (ks.take (i + 1)).flatMap f = (ks.take i).flatMap f ++ f ks[i]
  | [], i, hi => by simp at hi
  | a :: l, 0, hi => by simp
  | a :: l, i + 1, hi => by
    have := flatMap_take_succ f l i (by simpa using hi)
    simp only [List.take_succ_cons, List.flatMap_cons, List.getElem_cons_succ, this, List.append_assoc]

theorem wk_frzI {n : Nat} {lc : List Blk} {t ver len : Nat} {l : List Int} (hb : lc[t]? = some ⟨ver, .cells (l.map (.int .i64))⟩) (hl : len = l.length) : Wk ⟨n, lc, [], []⟩ (.ref 1 (n + t) ver 0 len) (.lst (l.map (.int .i64))) :=
  wk_frz1 hb (by simp [hl]) (by simp [hl]) fun i d hd => by
    simp only [List.getElem?_map, Option.map_eq_some_iff] at hd
    obtain ⟨x, hx, rfl⟩ := hd
    exact ⟨rfl, by simp [nth, List.getD, hx], .int ..⟩

theorem low_int (n : Nat) (l : List Int) : ∀ c ∈ l.map (D.int .i64), Low n c := fun c hc => by
  obtain ⟨x, _, rfl⟩ := List.mem_map.1 hc; exact .int ..

theorem pure_Codes (t : Tree) (hsz : size t * 40 ≤ 140737488355328) : Pure prog F_parlref4_Codes [treeD t] (.lst (((nodesL t).map ruleT).map (.int .i64))) := by
  intro n h
  have hN := nodesL_len t
  have hp := pure_Nodes t hsz
  obtain ⟨r0, t0, k0, rfl⟩ : ∃ r t' k, t = .mk r t' k := by cases t; exact ⟨_, _, _, rfl⟩
  rw [treeD_mk] at hp ⊢
  refine K_parlref4_Codes.calls fun hl => ?_
  unfold C_parlref4_Codes
  simp -implicitDefEqProofs only [↓symPre, symPost, y_condP, y_condG, run, lver, minD, intsD, eqAll, tupD, splice, Nat.zero_add, Nat.add_zero, Nat.zero_mul, Nat.mul_one, Nat.one_mul, Nat.reduceAdd, Nat.reduceSub, Nat.reduceMul, Nat.reduceLT, Nat.reduceLeDiff, Nat.reduceEqDiff, true_and, and_true, true_implies, if_true, if_false, ite_true, reduceIte, ne_eq, not_false_eq_true, reduceCtorEq, forall_const, bne_self_eq_false, Bool.true_eq_false, Bool.false_eq_true, false_implies, and_self, implies_true, Int.toNat_zero, beq_self_eq_true, decide_true, decide_false, Bool.not_true, Bool.not_false, ↓y_call]
  refine hp.call rfl ?_
  generalize nodesL (.mk r0 t0 k0) = N at *
  simp -implicitDefEqProofs only [↓symPre, symPost, y_condP, y_condG, run, lver, minD, intsD, eqAll, tupD, splice, Nat.zero_add, Nat.add_zero, Nat.zero_mul, Nat.mul_one, Nat.one_mul, Nat.reduceAdd, Nat.reduceSub, Nat.reduceMul, Nat.reduceLT, Nat.reduceLeDiff, Nat.reduceEqDiff, true_and, and_true, true_implies, if_true, if_false, ite_true, reduceIte, ne_eq, not_false_eq_true, reduceCtorEq, forall_const, bne_self_eq_false, Bool.true_eq_false, Bool.false_eq_true, false_implies, and_self, implies_true, Int.toNat_zero, beq_self_eq_true, decide_true, decide_false, Bool.not_true, Bool.not_false, ↓y_call, List.length_map]
  refine aloop (fun p : Nat × Nat => St.mk n ([.top, .top, .top, .ref 1 (n + 17) p.2 0 p.1, .top, .top, .top, .lst (N.map treeD), .int .i64 N.length, .int .i64 p.1] ++ List.replicate 10 .top) h
      (List.replicate 17 blk0 ++ [⟨p.2, .cells (((N.take p.1).map ruleT).map (.int .i64))⟩] ++ List.replicate 2 blk0)) (fun p => p.1 ≤ N.length ∧ 1 ≤ p.2) (fun p => N.length - p.1) (0, 1) ⟨Nat.zero_le _, Nat.le_refl _⟩ ?_ ?_
  · refine le_to (List.replicate 17 .hole ++ [.nil] ++ List.replicate 2 .hole) hl rfl ?_ ?_ <;> simp only [List.take_zero, List.map_nil] <;> ((try simp only [y_blk_end, y_blk_hole, y_blk_nil, y_blk_old, y_wkl_end, y_wkl_top, List.replicate, List.cons_append, List.nil_append, and_true, true_and]) <;> (repeat' (first | apply And.intro | apply y_wkl | refine Exists.intro _ (And.intro rfl ?_))) <;> (try first | exact trivial | exact Wk.top _ | exact wk_int rfl | exact wk_bool rfl | exact wk_ptr rfl rfl rfl rfl | exact wk_ref rfl rfl rfl rfl rfl | exact wk_nil rfl rfl rfl | exact wk_ref rfl rfl rfl rfl (by simp) | exact wk_ref rfl rfl rfl rfl (by simp; omega) | exact wk_old (by assumption) (by simp) | exact wk_eq rfl (by first | exact Bd.int _ _ | exact Bd.bool _ | exact Bd.abool | exact Bd.nils | exact Bd.emp | exact Bd.nilp | exact Bd.nilfn | assumption | exact low_trees _ _ | exact low_treeD _ _ | exact low_ints _ _) | exact Nat.le_refl _ | exact wk_int (by simp) | exact wk_int (by omega) | exact Nat.succ_le_succ (Nat.zero_le _) | exact Nat.le_add_left _ _ | omega))
  · rintro ⟨i, u⟩ ⟨hi, hu⟩
    simp only at hi hu
    have hTl : ((N.take i).map ruleT).length = i := by simp; omega
    by_cases hlt : i < N.length
    · have h1 : (i : Int) < (N.length : Int) := by omega
      have h0 : (0 : Int) ≤ (i : Int) := by omega
      have e0 := nth_map_tree N i hlt
      have hW : (N.take (i + 1)).map ruleT = (N.take i).map ruleT ++ [ruleT N[i]] := by rw [← List.take_append_getElem hlt, List.map_append]; rfl
      obtain ⟨r', t', k', ek⟩ : ∃ r' t' k', N[i] = .mk r' t' k' := by cases h : N[i]; exact ⟨_, _, _, rfl⟩
      rw [ek, treeD_mk] at e0
      rw [ek] at hW
      generalize hTT : (N.take i).map ruleT = TT at *
      have hCC : i ≤ (TT.map (D.int .i64)).length := by simp [hTl]
      have hCt : (TT.map (D.int .i64)).take i = TT.map (D.int .i64) := List.take_of_length_le (by simp; omega)
      have hf : (i + 1) * 8 ≤ 140737488355328 := by omega
      have w1 : IntKind.i64.wrap ((i : Int) + 1) = ((i + 1 : Nat) : Int) := by rw [IntWalk.i64_in _ (by omega)]; omega
      simp -implicitDefEqProofs only [↓symPre, symPost, y_condP, y_condG, run, lver, minD, intsD, eqAll, tupD, splice, Nat.zero_add, Nat.add_zero, Nat.zero_mul, Nat.mul_one, Nat.one_mul, Nat.reduceAdd, Nat.reduceSub, Nat.reduceMul, Nat.reduceLT, Nat.reduceLeDiff, Nat.reduceEqDiff, true_and, and_true, true_implies, if_true, if_false, ite_true, reduceIte, ne_eq, not_false_eq_true, reduceCtorEq, forall_const, bne_self_eq_false, Bool.true_eq_false, Bool.false_eq_true, false_implies, and_self, implies_true, Int.toNat_zero, beq_self_eq_true, decide_true, decide_false, Bool.not_true, Bool.not_false, ↓y_call, List.length_map, h1, h0, e0, srcOf, hCC, hCt, hf, w1, Int.toNat_natCast, hTl, Nat.le_refl]
      refine ⟨(i + 1, u + 1), ⟨by simp only; omega, by simp only; omega⟩, by simp only; omega, ?_⟩
      refine le_to (List.replicate 17 .hole ++ [.old 17] ++ List.replicate 2 .hole) hl rfl ?_ ?_ <;> simp only [hW, ruleT] <;> ((try simp only [y_blk_end, y_blk_hole, y_blk_nil, y_blk_old, y_wkl_end, y_wkl_top, List.replicate, List.cons_append, List.nil_append, and_true, true_and]) <;> (repeat' (first | apply And.intro | apply y_wkl | refine Exists.intro _ (And.intro rfl ?_))) <;> (try first | exact trivial | exact Wk.top _ | exact wk_int rfl | exact wk_bool rfl | exact wk_ptr rfl rfl rfl rfl | exact wk_ref rfl rfl rfl rfl rfl | exact wk_nil rfl rfl rfl | exact wk_ref rfl rfl rfl rfl (by simp) | exact wk_ref rfl rfl rfl rfl (by simp; omega) | exact wk_old (by assumption) (by simp) | exact wk_eq rfl (by first | exact Bd.int _ _ | exact Bd.bool _ | exact Bd.abool | exact Bd.nils | exact Bd.emp | exact Bd.nilp | exact Bd.nilfn | assumption | exact low_trees _ _ | exact low_treeD _ _ | exact low_ints _ _) | exact Nat.le_refl _ | exact wk_int (by simp) | exact wk_int (by omega) | exact Nat.succ_le_succ (Nat.zero_le _) | exact Nat.le_add_left _ _ | omega))
      exact wkl_low (by simp) (by simpa using low_int n (TT ++ [r']))
    · have h1 : ¬ (i : Int) < (N.length : Int) := by omega
      have hi' : i = N.length := by omega
      simp -implicitDefEqProofs only [↓symPre, symPost, y_condP, y_condG, run, lver, minD, intsD, eqAll, tupD, splice, Nat.zero_add, Nat.add_zero, Nat.zero_mul, Nat.mul_one, Nat.one_mul, Nat.reduceAdd, Nat.reduceSub, Nat.reduceMul, Nat.reduceLT, Nat.reduceLeDiff, Nat.reduceEqDiff, true_and, and_true, true_implies, if_true, if_false, ite_true, reduceIte, ne_eq, not_false_eq_true, reduceCtorEq, forall_const, bne_self_eq_false, Bool.true_eq_false, Bool.false_eq_true, false_implies, and_self, implies_true, Int.toNat_zero, beq_self_eq_true, decide_true, decide_false, Bool.not_true, Bool.not_false, ↓y_call, List.length_map, h1]
      refine fin_wk hl (wk_frzI (t := 17) rfl hTl.symm) ⟨rfl, rfl, ?_⟩
      rw [hi', List.take_length]

theorem pure_Yield (t : Tree) (hsz : size t * 40 ≤ 140737488355328) : Pure prog F_parlref4_Yield [treeD t] (.lst (((nodesL t).flatMap leafT).map (.int .i64))) := by
  intro n h
  have hN := nodesL_len t
  have hp := pure_Nodes t hsz
  obtain ⟨r0, t0, k0, rfl⟩ : ∃ r t' k, t = .mk r t' k := by cases t; exact ⟨_, _, _, rfl⟩
  rw [treeD_mk] at hp ⊢
  refine K_parlref4_Yield.calls fun hl => ?_
  unfold C_parlref4_Yield
  simp -implicitDefEqProofs only [↓symPre, symPost, y_condP, y_condG, run, lver, minD, intsD, eqAll, tupD, splice, Nat.zero_add, Nat.add_zero, Nat.zero_mul, Nat.mul_one, Nat.one_mul, Nat.reduceAdd, Nat.reduceSub, Nat.reduceMul, Nat.reduceLT, Nat.reduceLeDiff, Nat.reduceEqDiff, true_and, and_true, true_implies, if_true, if_false, ite_true, reduceIte, ne_eq, not_false_eq_true, reduceCtorEq, forall_const, bne_self_eq_false, Bool.true_eq_false, Bool.false_eq_true, false_implies, and_self, implies_true, Int.toNat_zero, beq_self_eq_true, decide_true, decide_false, Bool.not_true, Bool.not_false, ↓y_call]
  refine hp.call rfl ?_
  generalize nodesL (.mk r0 t0 k0) = N at *
  simp -implicitDefEqProofs only [↓symPre, symPost, y_condP, y_condG, run, lver, minD, intsD, eqAll, tupD, splice, Nat.zero_add, Nat.add_zero, Nat.zero_mul, Nat.mul_one, Nat.one_mul, Nat.reduceAdd, Nat.reduceSub, Nat.reduceMul, Nat.reduceLT, Nat.reduceLeDiff, Nat.reduceEqDiff, true_and, and_true, true_implies, if_true, if_false, ite_true, reduceIte, ne_eq, not_false_eq_true, reduceCtorEq, forall_const, bne_self_eq_false, Bool.true_eq_false, Bool.false_eq_true, false_implies, and_self, implies_true, Int.toNat_zero, beq_self_eq_true, decide_true, decide_false, Bool.not_true, Bool.not_false, ↓y_call, List.length_map]
  refine aloop (fun p : Nat × Nat => St.mk n ([.top, .top, .top, .ref 1 (n + 20) p.2 0 ((N.take p.1).flatMap leafT).length, .top, .top, .top, .lst (N.map treeD), .int .i64 N.length, .int .i64 p.1] ++ List.replicate 13 .top) h
      (List.replicate 20 blk0 ++ [⟨p.2, .cells (((N.take p.1).flatMap leafT).map (.int .i64))⟩] ++ List.replicate 2 blk0)) (fun p => p.1 ≤ N.length ∧ 1 ≤ p.2 ∧ ((N.take p.1).flatMap leafT).length ≤ p.1) (fun p => N.length - p.1) (0, 1) ⟨Nat.zero_le _, Nat.le_refl _, by simp⟩ ?_ ?_
  · refine le_to (List.replicate 20 .hole ++ [.nil] ++ List.replicate 2 .hole) hl rfl ?_ ?_ <;> simp only [List.take_zero, List.map_nil, List.flatMap_nil, List.length_nil] <;> ((try simp only [y_blk_end, y_blk_hole, y_blk_nil, y_blk_old, y_wkl_end, y_wkl_top, List.replicate, List.cons_append, List.nil_append, and_true, true_and]) <;> (repeat' (first | apply And.intro | apply y_wkl | refine Exists.intro _ (And.intro rfl ?_))) <;> (try first | exact trivial | exact Wk.top _ | exact wk_int rfl | exact wk_bool rfl | exact wk_ptr rfl rfl rfl rfl | exact wk_ref rfl rfl rfl rfl rfl | exact wk_nil rfl rfl rfl | exact wk_ref rfl rfl rfl rfl (by simp) | exact wk_ref rfl rfl rfl rfl (by simp; omega) | exact wk_old (by assumption) (by simp) | exact wk_eq rfl (by first | exact Bd.int _ _ | exact Bd.bool _ | exact Bd.abool | exact Bd.nils | exact Bd.emp | exact Bd.nilp | exact Bd.nilfn | assumption | exact low_trees _ _ | exact low_treeD _ _ | exact low_ints _ _) | exact Nat.le_refl _ | exact wk_int (by simp) | exact wk_int (by omega) | exact Nat.succ_le_succ (Nat.zero_le _) | exact Nat.le_add_left _ _ | omega))
  · rintro ⟨i, u⟩ ⟨hi, hu, hTl⟩
    simp only at hi hu hTl
    by_cases hlt : i < N.length
    · have h1 : (i : Int) < (N.length : Int) := by omega
      have h0 : (0 : Int) ≤ (i : Int) := by omega
      have e0 := nth_map_tree N i hlt
      have hW := flatMap_take_succ leafT N i hlt
      obtain ⟨r', t', k', ek⟩ : ∃ r' t' k', N[i] = .mk r' t' k' := by cases h : N[i]; exact ⟨_, _, _, rfl⟩
      rw [ek, treeD_mk] at e0
      rw [ek] at hW
      generalize hTT : (N.take i).flatMap leafT = TT at *
      have hCC : TT.length ≤ (TT.map (D.int .i64)).length := by simp
      have hCt : (TT.map (D.int .i64)).take TT.length = TT.map (D.int .i64) := List.take_of_length_le (by simp)
      have hf : (TT.length + 1) * 8 ≤ 140737488355328 := by omega
      have w1 : IntKind.i64.wrap ((i : Int) + 1) = ((i + 1 : Nat) : Int) := by rw [IntWalk.i64_in _ (by omega)]; omega
      simp -implicitDefEqProofs only [↓symPre, symPost, y_condP, y_condG, run, lver, minD, intsD, eqAll, tupD, splice, Nat.zero_add, Nat.add_zero, Nat.zero_mul, Nat.mul_one, Nat.one_mul, Nat.reduceAdd, Nat.reduceSub, Nat.reduceMul, Nat.reduceLT, Nat.reduceLeDiff, Nat.reduceEqDiff, true_and, and_true, true_implies, if_true, if_false, ite_true, reduceIte, ne_eq, not_false_eq_true, reduceCtorEq, forall_const, bne_self_eq_false, Bool.true_eq_false, Bool.false_eq_true, false_implies, and_self, implies_true, Int.toNat_zero, beq_self_eq_true, decide_true, decide_false, Bool.not_true, Bool.not_false, ↓y_call, List.length_map, h1, h0, e0, srcOf, hCC, hCt, hf, w1, Int.toNat_natCast, Nat.le_refl]
      refine ⟨fun hr => ?_, fun hr => ?_⟩
      · have hr' : r' = -1 := by simpa using hr
        rw [leafT, if_pos hr'] at hW
        refine ⟨(i + 1, u + 1), ⟨by simp only; omega, by simp only; omega, by simp only [hW, List.length_append, List.length_cons, List.length_nil]; omega⟩, by simp only; omega, ?_⟩
        refine le_to (List.replicate 20 .hole ++ [.old 20] ++ List.replicate 2 .hole) hl rfl ?_ ?_ <;> simp only [hW] <;> ((try simp only [y_blk_end, y_blk_hole, y_blk_nil, y_blk_old, y_wkl_end, y_wkl_top, List.replicate, List.cons_append, List.nil_append, and_true, true_and]) <;> (repeat' (first | apply And.intro | apply y_wkl | refine Exists.intro _ (And.intro rfl ?_))) <;> (try first | exact trivial | exact Wk.top _ | exact wk_int rfl | exact wk_bool rfl | exact wk_ptr rfl rfl rfl rfl | exact wk_ref rfl rfl rfl rfl rfl | exact wk_nil rfl rfl rfl | exact wk_ref rfl rfl rfl rfl (by simp) | exact wk_ref rfl rfl rfl rfl (by simp; omega) | exact wk_old (by assumption) (by simp) | exact wk_eq rfl (by first | exact Bd.int _ _ | exact Bd.bool _ | exact Bd.abool | exact Bd.nils | exact Bd.emp | exact Bd.nilp | exact Bd.nilfn | assumption | exact low_trees _ _ | exact low_treeD _ _ | exact low_ints _ _) | exact Nat.le_refl _ | exact wk_int (by simp) | exact wk_int (by omega) | exact Nat.succ_le_succ (Nat.zero_le _) | exact Nat.le_add_left _ _ | omega))
        exact wkl_low (by simp) (by simpa using low_int n (TT ++ [t']))
      · have hr' : ¬ r' = -1 := by simpa using hr
        rw [leafT, if_neg hr', List.append_nil] at hW
        refine ⟨(i + 1, u), ⟨by simp only; omega, by simp only; omega, by simp only [hW]; omega⟩, by simp only; omega, ?_⟩
        refine le_to (List.replicate 20 .hole ++ [.old 20] ++ List.replicate 2 .hole) hl rfl ?_ ?_ <;> simp only [hW] <;> ((try simp only [y_blk_end, y_blk_hole, y_blk_nil, y_blk_old, y_wkl_end, y_wkl_top, List.replicate, List.cons_append, List.nil_append, and_true, true_and]) <;> (repeat' (first | apply And.intro | apply y_wkl | refine Exists.intro _ (And.intro rfl ?_))) <;> (try first | exact trivial | exact Wk.top _ | exact wk_int rfl | exact wk_bool rfl | exact wk_ptr rfl rfl rfl rfl | exact wk_ref rfl rfl rfl rfl rfl | exact wk_nil rfl rfl rfl | exact wk_ref rfl rfl rfl rfl (by simp) | exact wk_ref rfl rfl rfl rfl (by simp; omega) | exact wk_old (by assumption) (by simp) | exact wk_eq rfl (by first | exact Bd.int _ _ | exact Bd.bool _ | exact Bd.abool | exact Bd.nils | exact Bd.emp | exact Bd.nilp | exact Bd.nilfn | assumption | exact low_trees _ _ | exact low_treeD _ _ | exact low_ints _ _) | exact Nat.le_refl _ | exact wk_int (by simp) | exact wk_int (by omega) | exact Nat.succ_le_succ (Nat.zero_le _) | exact Nat.le_add_left _ _ | omega))
        exact WkL.low (low_int n TT)
    · have h1 : ¬ (i : Int) < (N.length : Int) := by omega
      have hi' : i = N.length := by omega
      simp -implicitDefEqProofs only [↓symPre, symPost, y_condP, y_condG, run, lver, minD, intsD, eqAll, tupD, splice, Nat.zero_add, Nat.add_zero, Nat.zero_mul, Nat.mul_one, Nat.one_mul, Nat.reduceAdd, Nat.reduceSub, Nat.reduceMul, Nat.reduceLT, Nat.reduceLeDiff, Nat.reduceEqDiff, true_and, and_true, true_implies, if_true, if_false, ite_true, reduceIte, ne_eq, not_false_eq_true, reduceCtorEq, forall_const, bne_self_eq_false, Bool.true_eq_false, Bool.false_eq_true, false_implies, and_self, implies_true, Int.toNat_zero, beq_self_eq_true, decide_true, decide_false, Bool.not_true, Bool.not_false, ↓y_call, List.length_map, h1]
      refine fin_wk hl (wk_frzI (t := 20) rfl rfl) ⟨rfl, rfl, ?_⟩
      rw [hi', List.take_length]

/-! ### the plain laws -/
theorem rules_nodes : ∀ t : Tree, rulesL t = (nodesL t).map ruleT
  | .mk r t ks => by
    rw [rulesL_mk, nodesL_mk, List.map_cons]
    have : ∀ l : List Tree, (∀ k ∈ l, k ∈ ks) → (l.map rulesL).flatten = ((l.map nodesL).flatten).map ruleT := by
      intro l hl
      induction l with
      | nil => rfl
      | cons k l ih =>
        have hk : k ∈ ks := hl k (by simp)
        simp only [List.map_cons, List.flatten_cons, List.map_append]
        rw [ih fun k hk => hl k (by simp [hk]), rules_nodes k]
    split
    · rfl
    · rw [this ks fun _ h => h]; rfl

theorem word_nodes : ∀ t : Tree, wordL t = (nodesL t).flatMap leafT
  | .mk r t ks => by
    rw [wordL_mk, nodesL_mk, List.flatMap_cons]
    have : ∀ l : List Tree, (∀ k ∈ l, k ∈ ks) → (l.map wordL).flatten = ((l.map nodesL).flatten).flatMap leafT := by
      intro l hl
      induction l with
      | nil => rfl
      | cons k l ih =>
        have hk : k ∈ ks := hl k (by simp)
        simp only [List.map_cons, List.flatten_cons, List.flatMap_append]
        rw [ih fun k hk => hl k (by simp [hk]), word_nodes k]
    by_cases hr : r = -1
    · simp [hr, leafT]
    · rw [if_neg hr, if_neg hr, this ks fun _ h => h]; simp [leafT, hr]

theorem wordL_len (t : Tree) : (wordL t).length ≤ size t := by
  rw [word_nodes, ← nodesL_len]
  induction nodesL t with
  | nil => simp
  | cons a l ih =>
    have : (leafT a).length ≤ 1 := by cases a; simp only [leafT]; split <;> simp
    simp only [List.flatMap_cons, List.length_append, List.length_cons]; omega
theorem rulesL_len (t : Tree) : (rulesL t).length = size t := by rw [rules_nodes, List.length_map, nodesL_len]

theorem fresh_word (t : Tree) (hsz : size t * 40 ≤ 140737488355328) : Fresh prog F_tree_word [.nils, treeD t] 1 ((wordL t).map (.int .i64)) (wordL t).length :=
  (app_word t (by omega)).fresh (mk := fun d => [d, treeD t]) (by have := wordL_len t; omega) fun X d d' hw => y_wkl hw (y_wkl (.low _ (low_treeD _ t)) trivial)
theorem fresh_rules (t : Tree) (hsz : size t * 40 ≤ 140737488355328) : Fresh prog F_tree_rules [.nils, treeD t] 1 ((rulesL t).map (.int .i64)) (rulesL t).length :=
  (app_rules t (by omega)).fresh (mk := fun d => [d, treeD t]) (by have := rulesL_len t; omega) fun X d d' hw => y_wkl hw (y_wkl (.low _ (low_treeD _ t)) trivial)

theorem pure_Word (t : Tree) (hsz : size t * 40 ≤ 140737488355328) : Pure prog F_tree_Word [treeD t] (.lst ((wordL t).map (.int .i64))) := by
  intro n h
  have hp := fresh_word t hsz
  obtain ⟨r0, t0, k0, rfl⟩ : ∃ r t' k, t = .mk r t' k := by cases t; exact ⟨_, _, _, rfl⟩
  rw [treeD_mk] at hp ⊢
  refine K_tree_Word.calls fun hl => ?_
  unfold C_tree_Word
  simp -implicitDefEqProofs only [↓symPre, symPost, y_condP, y_condG, run, lver, minD, intsD, eqAll, tupD, splice, Nat.zero_add, Nat.add_zero, Nat.zero_mul, Nat.mul_one, Nat.one_mul, Nat.reduceAdd, Nat.reduceSub, Nat.reduceMul, Nat.reduceLT, Nat.reduceLeDiff, Nat.reduceEqDiff, true_and, and_true, true_implies, if_true, if_false, ite_true, reduceIte, ne_eq, not_false_eq_true, reduceCtorEq, forall_const, bne_self_eq_false, Bool.true_eq_false, Bool.false_eq_true, false_implies, and_self, implies_true, Int.toNat_zero, beq_self_eq_true, decide_true, decide_false, Bool.not_true, Bool.not_false, ↓y_call]
  refine hp.call (low_int 0 _) rfl rfl (Nat.le_of_ble_eq_true rfl) rfl ?_
  simp -implicitDefEqProofs only [↓symPre, symPost, y_condP, y_condG, run, lver, minD, intsD, eqAll, tupD, splice, Nat.zero_add, Nat.add_zero, Nat.zero_mul, Nat.mul_one, Nat.one_mul, Nat.reduceAdd, Nat.reduceSub, Nat.reduceMul, Nat.reduceLT, Nat.reduceLeDiff, Nat.reduceEqDiff, true_and, and_true, true_implies, if_true, if_false, ite_true, reduceIte, ne_eq, not_false_eq_true, reduceCtorEq, forall_const, bne_self_eq_false, Bool.true_eq_false, Bool.false_eq_true, false_implies, and_self, implies_true, Int.toNat_zero, beq_self_eq_true, decide_true, decide_false, Bool.not_true, Bool.not_false, ↓y_call]
  exact fin_wk hl (wk_frzI (t := 4) rfl rfl) ⟨rfl, rfl, rfl⟩

end Abs
end Go.Proofs.Ytfojedaccfenfaa

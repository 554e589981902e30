/- same, and EqualFunc with it. -/
import Derived.Test.YtfojedaccfenfaaG4
import Derived.Test.YtfojedaccfenfaaE7
namespace Go.Proofs.Ytfojedaccfenfaa
namespace Abs
set_option linter.unusedVariables false
set_option linter.unusedSimpArgs false
set_option maxRecDepth 20000

/-- all nodes, those below leaves too -/
def full : Tree → Nat
  | .mk _ _ ks => 1 + (ks.map full).sum
theorem full_mk (r t : Int) (ks : List Tree) : full (.mk r t ks) = 1 + (ks.map full).sum := by rw [full]
theorem full_kid {ks : List Tree} {k : Tree} (h : k ∈ ks) : full k ≤ (ks.map full).sum := by
  induction ks with
  | nil => simp at h
  | cons x ks ih =>
    rcases List.mem_cons.1 h with rfl | h
    · simp
    · have := ih h; simp; omega
theorem full_len (ks : List Tree) : ks.length ≤ (ks.map full).sum := by
  induction ks with
  | nil => simp
  | cons x ks ih =>
    have : 1 ≤ full x := by cases x; rw [full_mk]; omega
    simp; omega

open Classical in
noncomputable def eqT (a b : Tree) : Bool := decide (a = b)
open Classical in
noncomputable def eqTs (a b : List Tree) : Bool := decide (a = b)
theorem eqT_true {a b : Tree} : eqT a b = true ↔ a = b := by simp [eqT]
theorem eqTs_true {a b : List Tree} : eqTs a b = true ↔ a = b := by simp [eqTs]
theorem eqTs_false {a b : List Tree} (h : a ≠ b) : eqTs a b = false := by simp [eqTs, h]

def SameP (a : Tree) : Prop := ∀ b : Tree, Pure prog F_parlkeep4_same [treeD a, treeD b] (.bool (eqT a b))

set_option maxHeartbeats 1000000 in
theorem pure_EqT (xs bs : List Tree) (hlen : xs.length < 2 ^ 60) (ih : ∀ a ∈ xs, SameP a) : Pure prog F_slices_EqualFunc_api_Tree_api_Tree_api_Tree_api_Tree [.lst (xs.map treeD), .lst (bs.map treeD), .fn F_parlkeep4_same []] (.bool (eqTs xs bs)) := by
  intro n h
  refine K_slices_EqualFunc_api_Tree_api_Tree_api_Tree_api_Tree.calls fun hl => ?_
  unfold C_slices_EqualFunc_api_Tree_api_Tree_api_Tree_api_Tree
  by_cases c0 : xs.length = bs.length
  · have b0 : ((xs.length : Int) != (bs.length : Int)) = false := by simp [c0]
    simp -implicitDefEqProofs only [↓symPre, symPost, y_condP, y_condG, run, lver, minD, intsD, eqAll, tupD, splice, Nat.zero_add, Nat.add_zero, Nat.zero_mul, Nat.mul_one, Nat.one_mul, Nat.reduceAdd, Nat.reduceSub, Nat.reduceMul, Nat.reduceLT, Nat.reduceLeDiff, Nat.reduceEqDiff, true_and, and_true, true_implies, if_true, if_false, ite_true, reduceIte, ne_eq, not_false_eq_true, reduceCtorEq, forall_const, bne_self_eq_false, Bool.true_eq_false, Bool.false_eq_true, false_implies, and_self, implies_true, Int.toNat_zero, beq_self_eq_true, decide_true, decide_false, Bool.not_true, Bool.not_false, ↓y_call, List.length_map, b0]
    refine aloop (fun i : Nat => St.mk n ([.lst (xs.map treeD), .lst (bs.map treeD), .fn F_parlkeep4_same []] ++ List.replicate 12 .top ++ [.lst (xs.map treeD), .int .i64 xs.length, .int .i64 i] ++ List.replicate 14 .top) h
        (List.replicate 32 blk0)) (fun i => i ≤ xs.length ∧ xs.take i = bs.take i) (fun i => xs.length - i) 0 ⟨Nat.zero_le _, by simp⟩ ?_ ?_
    · refine le_to (List.replicate 32 .hole) hl rfl ?_ ?_ <;> ((try simp only [y_blk_end, y_blk_hole, y_blk_nil, y_blk_old, y_wkl_end, y_wkl_top, List.replicate, List.cons_append, List.nil_append, and_true, true_and]) <;> (repeat' (first | apply And.intro | apply y_wkl | refine Exists.intro _ (And.intro rfl ?_))) <;> (try first | exact trivial | exact Wk.top _ | exact wk_int rfl | exact wk_bool rfl | exact wk_ptr rfl rfl rfl rfl | exact wk_ref rfl rfl rfl rfl rfl | exact wk_nil rfl rfl rfl | exact wk_ref rfl rfl rfl rfl (by simp) | exact wk_ref rfl rfl rfl rfl (by simp; omega) | exact wk_old (by assumption) (by simp) | exact wk_eq rfl (by first | exact Bd.int _ _ | exact Bd.bool _ | exact Bd.abool | exact Bd.nils | exact Bd.emp | exact Bd.nilp | exact Bd.nilfn | assumption | exact low_trees _ _ | exact low_treeD _ _ | exact low_ints _ _) | exact Nat.le_refl _ | exact wk_int (by simp) | exact wk_int (by omega) | exact Nat.succ_le_succ (Nat.zero_le _) | exact Nat.le_add_left _ _ | omega))
      exact wk_eq rfl (.fn _ _ (by simp))
    · rintro i ⟨hi, htk⟩
      by_cases hlt : i < xs.length
      · have f1 : (i : Int) < (xs.length : Int) := by omega
        have f0 : (0 : Int) ≤ (i : Int) := by omega
        have f2 : (i : Int) < (bs.length : Int) := by omega
        have w1 : IntKind.i64.wrap ((i : Int) + 1) = ((i + 1 : Nat) : Int) := by rw [IntWalk.i64_in _ (by omega)]; omega
        have hlb : i < bs.length := by omega
        have e0 := nth_map_tree xs i hlt
        have e1 := nth_map_tree bs i hlb
        have ih := ih xs[i] (List.getElem_mem hlt) bs[i]
        have hst := take_succ_iff (a := xs) (b := bs) hlt hlb
        obtain ⟨ar, at', ak, ea⟩ : ∃ r' t' k', xs[i] = .mk r' t' k' := by cases h : xs[i]; exact ⟨_, _, _, rfl⟩
        obtain ⟨br, bt, bk, eb⟩ : ∃ r' t' k', bs[i] = .mk r' t' k' := by cases h : bs[i]; exact ⟨_, _, _, rfl⟩
        rw [ea] at e0 ih hst
        rw [eb] at e1 ih hst
        rw [treeD_mk] at e0 e1
        rw [treeD_mk, treeD_mk] at ih
        simp -implicitDefEqProofs only [↓symPre, symPost, y_condP, y_condG, run, lver, minD, intsD, eqAll, tupD, splice, Nat.zero_add, Nat.add_zero, Nat.zero_mul, Nat.mul_one, Nat.one_mul, Nat.reduceAdd, Nat.reduceSub, Nat.reduceMul, Nat.reduceLT, Nat.reduceLeDiff, Nat.reduceEqDiff, true_and, and_true, true_implies, if_true, if_false, ite_true, reduceIte, ne_eq, not_false_eq_true, reduceCtorEq, forall_const, bne_self_eq_false, Bool.true_eq_false, Bool.false_eq_true, false_implies, and_self, implies_true, Int.toNat_zero, beq_self_eq_true, decide_true, decide_false, Bool.not_true, Bool.not_false, ↓y_call, List.length_map, f1, f0, f2, decide_true, Int.toNat_natCast, e0, e1, ↓y_callv]
        refine ih.call rfl ?_
        by_cases c1 : eqT (.mk ar at' ak) (.mk br bt bk) = true
        · simp -implicitDefEqProofs only [↓symPre, symPost, y_condP, y_condG, run, lver, minD, intsD, eqAll, tupD, splice, Nat.zero_add, Nat.add_zero, Nat.zero_mul, Nat.mul_one, Nat.one_mul, Nat.reduceAdd, Nat.reduceSub, Nat.reduceMul, Nat.reduceLT, Nat.reduceLeDiff, Nat.reduceEqDiff, true_and, and_true, true_implies, if_true, if_false, ite_true, reduceIte, ne_eq, not_false_eq_true, reduceCtorEq, forall_const, bne_self_eq_false, Bool.true_eq_false, Bool.false_eq_true, false_implies, and_self, implies_true, Int.toNat_zero, beq_self_eq_true, decide_true, decide_false, Bool.not_true, Bool.not_false, ↓y_call, c1, w1]
          refine ⟨i + 1, ⟨by omega, by rw [hst]; exact ⟨htk, eqT_true.1 c1⟩⟩, by omega, ?_⟩
          refine le_to (List.replicate 32 .hole) hl rfl ?_ ?_ <;> ((try simp only [y_blk_end, y_blk_hole, y_blk_nil, y_blk_old, y_wkl_end, y_wkl_top, List.replicate, List.cons_append, List.nil_append, and_true, true_and]) <;> (repeat' (first | apply And.intro | apply y_wkl | refine Exists.intro _ (And.intro rfl ?_))) <;> (try first | exact trivial | exact Wk.top _ | exact wk_int rfl | exact wk_bool rfl | exact wk_ptr rfl rfl rfl rfl | exact wk_ref rfl rfl rfl rfl rfl | exact wk_nil rfl rfl rfl | exact wk_ref rfl rfl rfl rfl (by simp) | exact wk_ref rfl rfl rfl rfl (by simp; omega) | exact wk_old (by assumption) (by simp) | exact wk_eq rfl (by first | exact Bd.int _ _ | exact Bd.bool _ | exact Bd.abool | exact Bd.nils | exact Bd.emp | exact Bd.nilp | exact Bd.nilfn | assumption | exact low_trees _ _ | exact low_treeD _ _ | exact low_ints _ _) | exact Nat.le_refl _ | exact wk_int (by simp) | exact wk_int (by omega) | exact Nat.succ_le_succ (Nat.zero_le _) | exact Nat.le_add_left _ _ | omega))
          exact wk_eq rfl (.fn _ _ (by simp))
        · have c2 : eqT (.mk ar at' ak) (.mk br bt bk) = false := by simpa using c1
          simp -implicitDefEqProofs only [↓symPre, symPost, y_condP, y_condG, run, lver, minD, intsD, eqAll, tupD, splice, Nat.zero_add, Nat.add_zero, Nat.zero_mul, Nat.mul_one, Nat.one_mul, Nat.reduceAdd, Nat.reduceSub, Nat.reduceMul, Nat.reduceLT, Nat.reduceLeDiff, Nat.reduceEqDiff, true_and, and_true, true_implies, if_true, if_false, ite_true, reduceIte, ne_eq, not_false_eq_true, reduceCtorEq, forall_const, bne_self_eq_false, Bool.true_eq_false, Bool.false_eq_true, false_implies, and_self, implies_true, Int.toNat_zero, beq_self_eq_true, decide_true, decide_false, Bool.not_true, Bool.not_false, ↓y_call, c2]
          refine fin_bool hl (eqTs_false fun e => c1 (eqT_true.2 ?_)).symm
          subst e
          rw [← ea, ← eb]
      · have f1 : ¬ (i : Int) < (xs.length : Int) := by omega
        simp -implicitDefEqProofs only [↓symPre, symPost, y_condP, y_condG, run, lver, minD, intsD, eqAll, tupD, splice, Nat.zero_add, Nat.add_zero, Nat.zero_mul, Nat.mul_one, Nat.one_mul, Nat.reduceAdd, Nat.reduceSub, Nat.reduceMul, Nat.reduceLT, Nat.reduceLeDiff, Nat.reduceEqDiff, true_and, and_true, true_implies, if_true, if_false, ite_true, reduceIte, ne_eq, not_false_eq_true, reduceCtorEq, forall_const, bne_self_eq_false, Bool.true_eq_false, Bool.false_eq_true, false_implies, and_self, implies_true, Int.toNat_zero, beq_self_eq_true, decide_true, decide_false, Bool.not_true, Bool.not_false, ↓y_call, f1, decide_false]
        have hil : i = xs.length := by omega
        subst hil
        refine fin_bool hl (eqTs_true.2 ?_).symm
        rw [List.take_length, c0, List.take_length] at htk
        exact htk
  · have b0 : ((xs.length : Int) != (bs.length : Int)) = true := by simp; omega
    simp -implicitDefEqProofs only [↓symPre, symPost, y_condP, y_condG, run, lver, minD, intsD, eqAll, tupD, splice, Nat.zero_add, Nat.add_zero, Nat.zero_mul, Nat.mul_one, Nat.one_mul, Nat.reduceAdd, Nat.reduceSub, Nat.reduceMul, Nat.reduceLT, Nat.reduceLeDiff, Nat.reduceEqDiff, true_and, and_true, true_implies, if_true, if_false, ite_true, reduceIte, ne_eq, not_false_eq_true, reduceCtorEq, forall_const, bne_self_eq_false, Bool.true_eq_false, Bool.false_eq_true, false_implies, and_self, implies_true, Int.toNat_zero, beq_self_eq_true, decide_true, decide_false, Bool.not_true, Bool.not_false, ↓y_call, List.length_map, b0]
    exact fin_bool hl (eqTs_false fun e => c0 (by rw [e])).symm

set_option maxHeartbeats 1000000 in
theorem pure_same : ∀ a : Tree, full a < 2 ^ 60 → SameP a
  | .mk ar at' ak, hf, .mk br bt bk => by
    intro n h
    rw [full_mk] at hf
    have hk := full_len ak
    have pE := pure_EqT ak bk (by omega) fun a ha => pure_same a (by have := full_kid ha; omega)
    rw [treeD_mk, treeD_mk]
    refine K_parlkeep4_same.calls fun hl => ?_
    unfold C_parlkeep4_same
    have hres : eqT (.mk ar at' ak) (.mk br bt bk) = ((ar == br) && (at' == bt) && eqTs ak bk) := by
      rw [Bool.eq_iff_iff, eqT_true, Bool.and_eq_true, Bool.and_eq_true, eqTs_true]
      simp [and_assoc]
    by_cases c1 : (ar == br) = true
    · by_cases c2 : (at' == bt) = true
      · simp -implicitDefEqProofs only [↓symPre, symPost, y_condP, y_condG, run, lver, minD, intsD, eqAll, tupD, splice, Nat.zero_add, Nat.add_zero, Nat.zero_mul, Nat.mul_one, Nat.one_mul, Nat.reduceAdd, Nat.reduceSub, Nat.reduceMul, Nat.reduceLT, Nat.reduceLeDiff, Nat.reduceEqDiff, true_and, and_true, true_implies, if_true, if_false, ite_true, reduceIte, ne_eq, not_false_eq_true, reduceCtorEq, forall_const, bne_self_eq_false, Bool.true_eq_false, Bool.false_eq_true, false_implies, and_self, implies_true, Int.toNat_zero, beq_self_eq_true, decide_true, decide_false, Bool.not_true, Bool.not_false, ↓y_call, c1, c2]
        refine pE.call rfl ?_
        simp -implicitDefEqProofs only [↓symPre, symPost, y_condP, y_condG, run, lver, minD, intsD, eqAll, tupD, splice, Nat.zero_add, Nat.add_zero, Nat.zero_mul, Nat.mul_one, Nat.one_mul, Nat.reduceAdd, Nat.reduceSub, Nat.reduceMul, Nat.reduceLT, Nat.reduceLeDiff, Nat.reduceEqDiff, true_and, and_true, true_implies, if_true, if_false, ite_true, reduceIte, ne_eq, not_false_eq_true, reduceCtorEq, forall_const, bne_self_eq_false, Bool.true_eq_false, Bool.false_eq_true, false_implies, and_self, implies_true, Int.toNat_zero, beq_self_eq_true, decide_true, decide_false, Bool.not_true, Bool.not_false, ↓y_call]
        exact fin_bool hl (by rw [hres, c1, c2]; rfl)
      · have c2 : (at' == bt) = false := by simpa using c2
        simp -implicitDefEqProofs only [↓symPre, symPost, y_condP, y_condG, run, lver, minD, intsD, eqAll, tupD, splice, Nat.zero_add, Nat.add_zero, Nat.zero_mul, Nat.mul_one, Nat.one_mul, Nat.reduceAdd, Nat.reduceSub, Nat.reduceMul, Nat.reduceLT, Nat.reduceLeDiff, Nat.reduceEqDiff, true_and, and_true, true_implies, if_true, if_false, ite_true, reduceIte, ne_eq, not_false_eq_true, reduceCtorEq, forall_const, bne_self_eq_false, Bool.true_eq_false, Bool.false_eq_true, false_implies, and_self, implies_true, Int.toNat_zero, beq_self_eq_true, decide_true, decide_false, Bool.not_true, Bool.not_false, ↓y_call, c1, c2]
        exact fin_bool hl (by rw [hres, c1, c2]; rfl)
    · have c1 : (ar == br) = false := by simpa using c1
      simp -implicitDefEqProofs only [↓symPre, symPost, y_condP, y_condG, run, lver, minD, intsD, eqAll, tupD, splice, Nat.zero_add, Nat.add_zero, Nat.zero_mul, Nat.mul_one, Nat.one_mul, Nat.reduceAdd, Nat.reduceSub, Nat.reduceMul, Nat.reduceLT, Nat.reduceLeDiff, Nat.reduceEqDiff, true_and, and_true, true_implies, if_true, if_false, ite_true, reduceIte, ne_eq, not_false_eq_true, reduceCtorEq, forall_const, bne_self_eq_false, Bool.true_eq_false, Bool.false_eq_true, false_implies, and_self, implies_true, Int.toNat_zero, beq_self_eq_true, decide_true, decide_false, Bool.not_true, Bool.not_false, ↓y_call, c1]
      exact fin_bool hl (by rw [hres, c1]; rfl)
termination_by a => a

theorem full_der {g : Gr} {y : Sy} {t : Tree} (h : Der g y t) : full t = size t := by
  induction h with
  | leaf n => rw [full_mk, size_mk]; rfl
  | node i ru ks h hl hk ih =>
    rw [full_mk, size_mk, if_neg (by omega)]
    congr 2
    refine List.map_congr_left fun k hkm => ?_
    obtain ⟨j, hj⟩ := List.mem_iff_getElem?.1 hkm
    have : j < ru.right.length := by rw [← hl]; exact (List.getElem?_eq_some_iff.1 hj).1
    exact ih j ru.right[j] k (by simp [this]) hj

/-! ### the order -/
theorem cmpI_neg (a b : Int) : cmpI b a = - cmpI a b := by
  unfold cmpI
  by_cases h1 : a < b
  · have : ¬ b < a := by omega
    simp [h1, this]
  · by_cases h2 : b < a <;> simp [h1, h2]
theorem cmpI_zero {a b : Int} : cmpI a b = 0 ↔ a = b := by
  unfold cmpI
  by_cases h1 : a < b
  · simp [h1]; omega
  · by_cases h2 : b < a
    · simp [h1, h2]; omega
    · simp [h1, h2]; omega
theorem cmpI_range (a b : Int) : -1 ≤ cmpI a b ∧ cmpI a b ≤ 1 := by
  unfold cmpI
  split
  · omega
  · split <;> omega
theorem cmpI_le {a b : Int} : cmpI a b ≤ 0 ↔ a ≤ b := by
  unfold cmpI
  by_cases h1 : a < b
  · simp [h1]; omega
  · by_cases h2 : b < a
    · simp [h1, h2]
    · simp [h1, h2]; omega
theorem cmpL_neg : ∀ a b : List Int, cmpL b a = - cmpL a b
  | [], [] => rfl
  | [], _ :: _ => rfl
  | _ :: _, [] => rfl
  | a :: l, b :: m => by
    have h1 := cmpI_neg a b
    have h2 := cmpL_neg l m
    simp only [cmpL, h1, h2]
    by_cases h : cmpI a b = 0
    · simp [h]
    · have : ¬ - cmpI a b = 0 := by omega
      simp [h, this]
theorem cmpL_zero : ∀ {a b : List Int}, cmpL a b = 0 ↔ a = b
  | [], [] => by simp [cmpL]
  | [], _ :: _ => by simp [cmpL]
  | _ :: _, [] => by simp [cmpL]
  | a :: l, b :: m => by
    simp only [cmpL, List.cons.injEq]
    by_cases h : cmpI a b = 0
    · rw [if_pos h, cmpL_zero]
      have := cmpI_zero.1 h
      simp [this]
    · rw [if_neg h]
      have : ¬ a = b := fun e => h (cmpI_zero.2 e)
      simp [h, this]
theorem cmpL_range : ∀ a b : List Int, -1 ≤ cmpL a b ∧ cmpL a b ≤ 1
  | [], [] => by simp [cmpL]
  | [], _ :: _ => by simp [cmpL]
  | _ :: _, [] => by simp [cmpL]
  | a :: l, b :: m => by
    simp only [cmpL]
    split
    · exact cmpL_range l m
    · exact cmpI_range a b
theorem cmpL_trans : ∀ {a b c : List Int}, cmpL a b ≤ 0 → cmpL b c ≤ 0 → cmpL a c ≤ 0
  | [], _, [], _, _ => by simp [cmpL]
  | [], _, _ :: _, _, _ => by simp [cmpL]
  | _ :: _, [], _, h, _ => by simp [cmpL] at h
  | _ :: _, _ :: _, [], _, h => by simp [cmpL] at h
  | a :: l, b :: m, c :: k, h1, h2 => by
    simp only [cmpL] at h1 h2 ⊢
    by_cases e1 : cmpI a b = 0
    · rw [if_pos e1] at h1
      have := cmpI_zero.1 e1
      subst this
      by_cases e2 : cmpI a c = 0
      · rw [if_pos e2] at h2 ⊢; exact cmpL_trans h1 h2
      · rw [if_neg e2] at h2 ⊢; exact h2
    · rw [if_neg e1] at h1
      have l1 := cmpI_le.1 h1
      have n1 : a ≠ b := fun e => e1 (cmpI_zero.2 e)
      by_cases e2 : cmpI b c = 0
      · have := cmpI_zero.1 e2
        subst this
        rw [if_neg e1]; exact h1
      · rw [if_neg e2] at h2
        have l2 := cmpI_le.1 h2
        have : ¬ cmpI a c = 0 := fun e => by have := cmpI_zero.1 e; omega
        rw [if_neg this]
        exact cmpI_le.2 (by omega)
theorem cmpL_tot {a b : List Int} : cmpL a b ≤ 0 ∨ cmpL a b > 0 := by omega

theorem ordT_neg (a b : Tree) : ordT b a = - ordT a b := by
  unfold ordT
  rw [cmpI_neg (size a) (size b), cmpL_neg (rulesL a) (rulesL b), cmpL_neg (wordL a) (wordL b)]
  simp only [Int.neg_eq_zero]
  split
  · split <;> rfl
  · rfl
theorem ordT_zero {a b : Tree} : ordT a b = 0 ↔ size a = size b ∧ rulesL a = rulesL b ∧ wordL a = wordL b := by
  unfold ordT
  by_cases h1 : cmpI (size a) (size b) = 0
  · have e1 := cmpI_zero.1 h1
    rw [if_pos h1]
    by_cases h2 : cmpL (rulesL a) (rulesL b) = 0
    · rw [if_pos h2, cmpL_zero]
      have := cmpL_zero.1 h2
      simp [this]; omega
    · rw [if_neg h2]
      have : ¬ rulesL a = rulesL b := fun e => h2 (cmpL_zero.2 e)
      simp [h2, this]
  · rw [if_neg h1]
    have : ¬ size a = size b := fun e => h1 (by rw [e]; exact cmpI_zero.2 rfl)
    simp [h1, this]
theorem ordT_range (a b : Tree) : -1 ≤ ordT a b ∧ ordT a b ≤ 1 := by
  unfold ordT
  split
  · split
    · exact cmpL_range _ _
    · exact cmpL_range _ _
  · exact cmpI_range _ _
theorem ordT_trans {a b c : Tree} (h1 : ordT a b ≤ 0) (h2 : ordT b c ≤ 0) : ordT a c ≤ 0 := by
  unfold ordT at h1 h2 ⊢
  by_cases e1 : cmpI (size a) (size b) = 0
  · have q1 := cmpI_zero.1 e1
    rw [if_pos e1] at h1
    rw [q1]
    by_cases e2 : cmpI (size b) (size c) = 0
    · rw [if_pos e2] at h2 ⊢
      by_cases f1 : cmpL (rulesL a) (rulesL b) = 0
      · have r1 := cmpL_zero.1 f1
        rw [if_pos f1] at h1
        rw [r1]
        by_cases f2 : cmpL (rulesL b) (rulesL c) = 0
        · rw [if_pos f2] at h2 ⊢; exact cmpL_trans h1 h2
        · rw [if_neg f2] at h2 ⊢; exact h2
      · rw [if_neg f1] at h1
        have n1 : rulesL a ≠ rulesL b := fun e => f1 (cmpL_zero.2 e)
        by_cases f2 : cmpL (rulesL b) (rulesL c) = 0
        · have r2 := cmpL_zero.1 f2
          rw [← r2, if_neg f1]; exact h1
        · rw [if_neg f2] at h2
          have h3 := cmpL_trans h1 h2
          have : ¬ cmpL (rulesL a) (rulesL c) = 0 := fun e => by
            have r3 := cmpL_zero.1 e
            rw [← r3] at h2
            rw [cmpL_neg] at h2
            omega
          rw [if_neg this]; exact h3
    · rw [if_neg e2] at h2 ⊢; exact h2
  · rw [if_neg e1] at h1
    have l1 := cmpI_le.1 h1
    have n1 : (size a : Int) ≠ size b := fun e => e1 (cmpI_zero.2 e)
    by_cases e2 : cmpI (size b) (size c) = 0
    · have := cmpI_zero.1 e2
      rw [← this, if_neg e1]; exact h1
    · rw [if_neg e2] at h2
      have l2 := cmpI_le.1 h2
      have : ¬ cmpI (size a) (size c) = 0 := fun e => by have := cmpI_zero.1 e; omega
      rw [if_neg this]
      exact cmpI_le.2 (by omega)

/-- a tree is told by its rules in preorder -/
theorem der_rules {g : Gr} {y : Sy} {a : Tree} (ha : Der g y a) : ∀ {b : Tree} (hb : Der g y b) {X Y : List Int}, rulesL a ++ X = rulesL b ++ Y → a = b ∧ X = Y := by
  induction ha with
  | leaf n =>
    intro b hb X Y h
    cases hb with
    | leaf _ => exact ⟨rfl, by simpa using h⟩
  | node i ru ks hr hl hk ih =>
    intro b hb X Y h
    obtain ⟨y, hy⟩ : ∃ y, y = (⟨false, ru.left⟩ : Sy) := ⟨_, rfl⟩
    rw [← hy] at hb
    cases hb with
    | leaf _ => cases hy
    | node i' ru' ks' hr' hl' hk' =>
      rw [rulesL_mk, rulesL_mk, if_neg (by omega), if_neg (by omega)] at h
      simp only [List.cons_append, List.cons.injEq] at h
      obtain ⟨hi, h⟩ := h
      obtain rfl : i = i' := by omega
      rw [hr] at hr'; injection hr' with hr'; subst hr'
      -- the kids, from the j-th on
      have key : ∀ (m j : Nat) (l l' : List Tree) (X Y : List Int), l = ks.drop j → l' = ks'.drop j → m = ru.right.length - j → (l.map rulesL).flatten ++ X = (l'.map rulesL).flatten ++ Y → l = l' ∧ X = Y := by
        intro m
        induction m with
        | zero =>
          intro j l l' X Y e1 e2 hm h
          have d1 : l = [] := by rw [e1, List.drop_eq_nil_iff]; omega
          have d2 : l' = [] := by rw [e2, List.drop_eq_nil_iff]; omega
          subst d1; subst d2
          exact ⟨rfl, by simpa using h⟩
        | succ m ihm =>
          intro j l l' X Y e1 e2 hm h
          have hj : j < ks.length := by omega
          have hj' : j < ks'.length := by omega
          rw [List.drop_eq_getElem_cons hj] at e1
          rw [List.drop_eq_getElem_cons hj'] at e2
          have hjr : j < ru.right.length := by omega
          rw [e1, e2] at h
          simp only [List.map_cons, List.flatten_cons, List.append_assoc] at h
          obtain ⟨p1, p2⟩ := ih j ru.right[j] ks[j] (by simp [hjr]) (by simp [hj]) (hk' j ru.right[j] ks'[j] (by simp [hjr]) (by simp [hj'])) h
          obtain ⟨p3, p4⟩ := ihm (j + 1) _ _ X Y rfl rfl (by omega) p2
          exact ⟨by rw [e1, e2, p1, p3], p4⟩
      obtain ⟨q1, q2⟩ := key ru.right.length 0 ks ks' X Y rfl rfl rfl h
      exact ⟨by rw [q1], q2⟩

theorem der_ord {g : Gr} {y : Sy} {a b : Tree} (ha : Der g y a) (hb : Der g y b) : (ordT a b == 0) = eqT a b := by
  rw [Bool.eq_iff_iff, eqT_true, beq_iff_eq, ordT_zero]
  constructor
  · rintro ⟨_, h, _⟩
    exact (der_rules ha hb (X := []) (Y := []) (by rw [h])).1
  · rintro rfl; exact ⟨rfl, rfl, rfl⟩

end Abs
end Go.Proofs.Ytfojedaccfenfaa

/- Trees: words, places, symbols. -/
import Derived.Test.YtokdeeagghhliaaP2
namespace Go.Proofs.Ytokdeeagghhliaa
namespace Abs
set_option linter.unusedVariables false
set_option linter.unusedSimpArgs false
set_option maxRecDepth 20000

def nodesL : Tree → List Tree
  | .mk r t ks => .mk r t ks :: (if r = -1 then [] else (ks.map nodesL).flatten)

theorem nodesL_mk (r t : Int) (ks : List Tree) : nodesL (.mk r t ks) = .mk r t ks :: (if r = -1 then [] else (ks.map nodesL).flatten) := by rw [nodesL]

theorem nodesL_len : ∀ t : Tree, (nodesL t).length = size t
  | .mk r t ks => by
    rw [nodesL_mk, size_mk]
    split
    · rfl
    · have : ∀ l : List Tree, (∀ k ∈ l, k ∈ ks) → ((l.map nodesL).flatten).length = (l.map size).sum := by
        intro l hl
        induction l with
        | nil => rfl
        | cons k l ih =>
          have hk : k ∈ ks := hl k (by simp)
          simp only [List.map_cons, List.flatten_cons, List.length_append, List.sum_cons]
          rw [ih fun k hk => hl k (by simp [hk]), nodesL_len k]
      rw [List.length_cons, this ks fun _ h => h]; omega

def leafT : Tree → List Int
  | .mk r t _ => if r = -1 then [t] else []

theorem wk_frzI {n : Nat} {lc : List Blk} {t ver len : Nat} {l : List Int} (hb : lc[t]? = some ⟨ver, .cells (l.map (.int .i64))⟩) (hl : len = l.length) : Wk ⟨n, lc, [], []⟩ (.ref 1 (n + t) ver 0 len) (.lst (l.map (.int .i64))) :=
  wk_frz1 hb (by simp [hl]) (by simp [hl]) fun i d hd => by
    simp only [List.getElem?_map, Option.map_eq_some_iff] at hd
    obtain ⟨x, hx, rfl⟩ := hd
    exact ⟨rfl, by simp [nth, List.getD, hx], .int ..⟩

theorem low_int (n : Nat) (l : List Int) : ∀ c ∈ l.map (D.int .i64), Low n c := fun c hc => by
  obtain ⟨x, _, rfl⟩ := List.mem_map.1 hc; exact .int ..


/-! ### the plain laws -/
theorem word_nodes : ∀ t : Tree, wordL t = (nodesL t).flatMap leafT
  | .mk r t ks => by
    rw [wordL_mk, nodesL_mk, List.flatMap_cons]
    have : ∀ l : List Tree, (∀ k ∈ l, k ∈ ks) → (l.map wordL).flatten = ((l.map nodesL).flatten).flatMap leafT := by
      intro l hl
      induction l with
      | nil => rfl
      | cons k l ih =>
        have hk : k ∈ ks := hl k (by simp)
        simp only [List.map_cons, List.flatten_cons, List.flatMap_append]
        rw [ih fun k hk => hl k (by simp [hk]), word_nodes k]
    by_cases hr : r = -1
    · simp [hr, leafT]
    · rw [if_neg hr, if_neg hr, this ks fun _ h => h]; simp [leafT, hr]

theorem wordL_len (t : Tree) : (wordL t).length ≤ size t := by
  rw [word_nodes, ← nodesL_len]
  induction nodesL t with
  | nil => simp
  | cons a l ih =>
    have : (leafT a).length ≤ 1 := by cases a; simp only [leafT]; split <;> simp
    simp only [List.flatMap_cons, List.length_append, List.length_cons]; omega

theorem fresh_word (t : Tree) (hsz : size t * 40 ≤ 140737488355328) : Fresh prog F_tree_word [.nils, treeD t] 1 ((wordL t).map (.int .i64)) (wordL t).length :=
  (app_word t (by omega)).fresh (mk := fun d => [d, treeD t]) (by have := wordL_len t; omega) fun X d d' hw => y_wkl hw (y_wkl (.low _ (low_treeD _ t)) trivial)

theorem pure_Word (t : Tree) (hsz : size t * 40 ≤ 140737488355328) : Pure prog F_tree_Word [treeD t] (.lst ((wordL t).map (.int .i64))) := by
  intro n h
  have hp := fresh_word t hsz
  obtain ⟨r0, t0, k0, rfl⟩ : ∃ r t' k, t = .mk r t' k := by cases t; exact ⟨_, _, _, rfl⟩
  rw [treeD_mk] at hp ⊢
  refine K_tree_Word.calls fun hl => ?_
  unfold C_tree_Word
  simp -implicitDefEqProofs only [↓symPre, symPost, y_condP, y_condG, run, lver, minD, intsD, eqAll, tupD, splice, Nat.zero_add, Nat.add_zero, Nat.zero_mul, Nat.mul_one, Nat.one_mul, Nat.reduceAdd, Nat.reduceSub, Nat.reduceMul, Nat.reduceLT, Nat.reduceLeDiff, Nat.reduceEqDiff, true_and, and_true, true_implies, if_true, if_false, ite_true, reduceIte, ne_eq, not_false_eq_true, reduceCtorEq, forall_const, bne_self_eq_false, Bool.true_eq_false, Bool.false_eq_true, false_implies, and_self, implies_true, Int.toNat_zero, beq_self_eq_true, decide_true, decide_false, Bool.not_true, Bool.not_false, ↓y_lookv, y_key1, y_mlook, y_mlookn, y_mres1, y_mres0, ↓y_call]
  refine hp.call (low_int 0 _) rfl rfl (Nat.le_of_ble_eq_true rfl) rfl ?_
  simp -implicitDefEqProofs only [↓symPre, symPost, y_condP, y_condG, run, lver, minD, intsD, eqAll, tupD, splice, Nat.zero_add, Nat.add_zero, Nat.zero_mul, Nat.mul_one, Nat.one_mul, Nat.reduceAdd, Nat.reduceSub, Nat.reduceMul, Nat.reduceLT, Nat.reduceLeDiff, Nat.reduceEqDiff, true_and, and_true, true_implies, if_true, if_false, ite_true, reduceIte, ne_eq, not_false_eq_true, reduceCtorEq, forall_const, bne_self_eq_false, Bool.true_eq_false, Bool.false_eq_true, false_implies, and_self, implies_true, Int.toNat_zero, beq_self_eq_true, decide_true, decide_false, Bool.not_true, Bool.not_false, ↓y_lookv, y_key1, y_mlook, y_mlookn, y_mres1, y_mres0, ↓y_call]
  exact fin_wk hl (wk_frzI (t := 4) rfl rfl) ⟨rfl, rfl, rfl⟩

def symT (g : Gr) : Tree → Sy × Bool
  | .mk r t ks => if r = -1 then (⟨true, t⟩, decide (0 ≤ t ∧ t < g.terms ∧ ks.length = 0)) else if r < 0 then (⟨false, 0⟩, false) else match g.rules[r.toNat]? with
    | some u => (⟨false, u.left⟩, decide (t = 0))
    | none => (⟨false, 0⟩, false)

def full : Tree → Nat
  | .mk _ _ ks => 1 + (ks.map full).sum

theorem full_mk (r t : Int) (ks : List Tree) : full (.mk r t ks) = 1 + (ks.map full).sum := by rw [full]

theorem full_kid {ks : List Tree} {k : Tree} (h : k ∈ ks) : full k ≤ (ks.map full).sum := by
  induction ks with
  | nil => simp at h
  | cons x ks ih =>
    rcases List.mem_cons.1 h with rfl | h
    · simp
    · have := ih h; simp; omega

theorem full_pos (t : Tree) : 1 ≤ full t := by cases t; rw [full_mk]; omega

theorem full_len (ks : List Tree) : ks.length ≤ (ks.map full).sum := by
  induction ks with
  | nil => simp
  | cons x ks ih => have := full_pos x; simp; omega

theorem fin_sy {n : Nat} {sl : List D} {h : Heap} {lc : List Blk} {b : Bool} {i : Int} {ok : Bool} {s : Sy × Bool} (hl : LowH n h) (e : s = (⟨b, i⟩, ok)) :
    Fin (St.mk n sl h lc) (fun d h' x => h' = h ∧ x = [] ∧ d = .tup [symD s.1, .bool s.2]) [.agg [.bool b, .int .i64 i], .bool ok] := by
  subst e
  refine fin_low hl ?_ ⟨rfl, rfl, rfl⟩
  refine .tup _ fun c hc => ?_
  simp only [List.mem_cons, List.not_mem_nil, or_false] at hc
  rcases hc with rfl | rfl
  · exact low_symD n ⟨b, i⟩
  · exact .bool _

theorem pure_symbol (g : Gr) (t : Tree) : Pure prog F_tree_symbol [gramD g, treeD t] (.tup [symD (symT g t).1, .bool (symT g t).2]) := by
  intro n h
  obtain ⟨gt, gn, gs, gr⟩ := g
  obtain ⟨r, tm, ks⟩ := t
  rw [treeD_mk]
  change ACalls prog F_tree_symbol [.agg [.int .i64 gt, .int .i64 gn, .int .i64 gs, .lst (gr.map ruleD)], _] n h _
  refine K_tree_symbol.calls fun hl => ?_
  unfold C_tree_symbol
  simp -implicitDefEqProofs only [↓symPre, symPost, y_condP, y_condG, run, lver, minD, intsD, eqAll, tupD, splice, Nat.zero_add, Nat.add_zero, Nat.zero_mul, Nat.mul_one, Nat.one_mul, Nat.reduceAdd, Nat.reduceSub, Nat.reduceMul, Nat.reduceLT, Nat.reduceLeDiff, Nat.reduceEqDiff, true_and, and_true, true_implies, if_true, if_false, ite_true, reduceIte, ne_eq, not_false_eq_true, reduceCtorEq, forall_const, bne_self_eq_false, Bool.true_eq_false, Bool.false_eq_true, false_implies, and_self, implies_true, Int.toNat_zero, beq_self_eq_true, decide_true, decide_false, Bool.not_true, Bool.not_false, ↓y_lookv, y_key1, y_mlook, y_mlookn, y_mres1, y_mres0, ↓y_call]
  refine (pure_leaf r tm _).call rfl ?_
  by_cases c1 : r = -1
  · have b1 : (r == -1) = true := by simp [c1]
    simp -implicitDefEqProofs only [↓symPre, symPost, y_condP, y_condG, run, lver, minD, intsD, eqAll, tupD, splice, Nat.zero_add, Nat.add_zero, Nat.zero_mul, Nat.mul_one, Nat.one_mul, Nat.reduceAdd, Nat.reduceSub, Nat.reduceMul, Nat.reduceLT, Nat.reduceLeDiff, Nat.reduceEqDiff, true_and, and_true, true_implies, if_true, if_false, ite_true, reduceIte, ne_eq, not_false_eq_true, reduceCtorEq, forall_const, bne_self_eq_false, Bool.true_eq_false, Bool.false_eq_true, false_implies, and_self, implies_true, Int.toNat_zero, beq_self_eq_true, decide_true, decide_false, Bool.not_true, Bool.not_false, ↓y_lookv, y_key1, y_mlook, y_mlookn, y_mres1, y_mres0, ↓y_call, b1]
    refine adrawq hmix (List.replicate 19 [] ++ [[n + 4]]) ?_
    by_cases c2 : tm ≥ 0
    · by_cases c3 : tm < gt
      · simp (maxSteps := 400000) -implicitDefEqProofs only [↓symPre, symPost, y_condP, y_condG, run, lver, minD, intsD, eqAll, tupD, splice, Nat.zero_add, Nat.add_zero, Nat.zero_mul, Nat.mul_one, Nat.one_mul, Nat.reduceAdd, Nat.reduceSub, Nat.reduceMul, Nat.reduceLT, Nat.reduceLeDiff, Nat.reduceEqDiff, true_and, and_true, true_implies, if_true, if_false, ite_true, reduceIte, ne_eq, not_false_eq_true, reduceCtorEq, forall_const, bne_self_eq_false, Bool.true_eq_false, Bool.false_eq_true, false_implies, and_self, implies_true, Int.toNat_zero, beq_self_eq_true, decide_true, decide_false, Bool.not_true, Bool.not_false, ↓y_lookv, y_key1, y_mlook, y_mlookn, y_mres1, y_mres0, ↓y_call, ↓y_adq0, ↓y_adq, ↓y_stepQ_call, ↓y_adq_onT, ↓y_adq_onF, ↓y_adq_onS, drawPost, isCall, isNew, isEff, Option.toList, or_false, false_or, cond_true, cond_false, not_true_eq_false, or_true, true_or, Nat.add_left_cancel_iff, Bool.false_eq_true, ↓y_q0, ↓y_q1, ↓y_q1e, y_qn, isMap, c2, c3, List.length_map, List.flatMap_cons, List.flatMap_nil, List.append_nil, List.getD_cons_succ, List.getD_cons_zero]
        refine ⟨by rintro c (rfl | rfl) <;> rfl, fin_sy hl ?_⟩
        simp only [symT, if_pos c1]
        congr 1
        by_cases c4 : ks.length = 0 <;> simp [c4] <;> omega
      · simp (maxSteps := 400000) -implicitDefEqProofs only [↓symPre, symPost, y_condP, y_condG, run, lver, minD, intsD, eqAll, tupD, splice, Nat.zero_add, Nat.add_zero, Nat.zero_mul, Nat.mul_one, Nat.one_mul, Nat.reduceAdd, Nat.reduceSub, Nat.reduceMul, Nat.reduceLT, Nat.reduceLeDiff, Nat.reduceEqDiff, true_and, and_true, true_implies, if_true, if_false, ite_true, reduceIte, ne_eq, not_false_eq_true, reduceCtorEq, forall_const, bne_self_eq_false, Bool.true_eq_false, Bool.false_eq_true, false_implies, and_self, implies_true, Int.toNat_zero, beq_self_eq_true, decide_true, decide_false, Bool.not_true, Bool.not_false, ↓y_lookv, y_key1, y_mlook, y_mlookn, y_mres1, y_mres0, ↓y_call, ↓y_adq0, ↓y_adq, ↓y_stepQ_call, ↓y_adq_onT, ↓y_adq_onF, ↓y_adq_onS, drawPost, isCall, isNew, isEff, Option.toList, or_false, false_or, cond_true, cond_false, not_true_eq_false, or_true, true_or, Nat.add_left_cancel_iff, Bool.false_eq_true, ↓y_q0, ↓y_q1, ↓y_q1e, y_qn, isMap, c2, c3, List.length_map, List.flatMap_cons, List.flatMap_nil, List.append_nil, List.getD_cons_succ, List.getD_cons_zero]
        refine ⟨by rintro c (rfl | rfl) <;> rfl, fin_sy hl ?_⟩
        simp only [symT, if_pos c1]
        congr 1
        simp; omega
    · simp (maxSteps := 400000) -implicitDefEqProofs only [↓symPre, symPost, y_condP, y_condG, run, lver, minD, intsD, eqAll, tupD, splice, Nat.zero_add, Nat.add_zero, Nat.zero_mul, Nat.mul_one, Nat.one_mul, Nat.reduceAdd, Nat.reduceSub, Nat.reduceMul, Nat.reduceLT, Nat.reduceLeDiff, Nat.reduceEqDiff, true_and, and_true, true_implies, if_true, if_false, ite_true, reduceIte, ne_eq, not_false_eq_true, reduceCtorEq, forall_const, bne_self_eq_false, Bool.true_eq_false, Bool.false_eq_true, false_implies, and_self, implies_true, Int.toNat_zero, beq_self_eq_true, decide_true, decide_false, Bool.not_true, Bool.not_false, ↓y_lookv, y_key1, y_mlook, y_mlookn, y_mres1, y_mres0, ↓y_call, ↓y_adq0, ↓y_adq, ↓y_stepQ_call, ↓y_adq_onT, ↓y_adq_onF, ↓y_adq_onS, drawPost, isCall, isNew, isEff, Option.toList, or_false, false_or, cond_true, cond_false, not_true_eq_false, or_true, true_or, Nat.add_left_cancel_iff, Bool.false_eq_true, ↓y_q0, ↓y_q1, ↓y_q1e, y_qn, isMap, c2, List.length_map, List.flatMap_cons, List.flatMap_nil, List.append_nil, List.getD_cons_succ, List.getD_cons_zero]
      refine ⟨by rintro c (rfl | rfl) <;> rfl, fin_sy hl ?_⟩
      simp only [symT, if_pos c1]
      congr 1
      simp; omega
  have b1 : (r == -1) = false := by simp [c1]
  by_cases c2 : r < 0
  · simp -implicitDefEqProofs only [↓symPre, symPost, y_condP, y_condG, run, lver, minD, intsD, eqAll, tupD, splice, Nat.zero_add, Nat.add_zero, Nat.zero_mul, Nat.mul_one, Nat.one_mul, Nat.reduceAdd, Nat.reduceSub, Nat.reduceMul, Nat.reduceLT, Nat.reduceLeDiff, Nat.reduceEqDiff, true_and, and_true, true_implies, if_true, if_false, ite_true, reduceIte, ne_eq, not_false_eq_true, reduceCtorEq, forall_const, bne_self_eq_false, Bool.true_eq_false, Bool.false_eq_true, false_implies, and_self, implies_true, Int.toNat_zero, beq_self_eq_true, decide_true, decide_false, Bool.not_true, Bool.not_false, ↓y_lookv, y_key1, y_mlook, y_mlookn, y_mres1, y_mres0, ↓y_call, b1, c2]
    exact fin_sy hl (by simp only [symT, if_neg c1, if_pos c2])
  by_cases c3 : r ≥ (gr.length : Int)
  · simp -implicitDefEqProofs only [↓symPre, symPost, y_condP, y_condG, run, lver, minD, intsD, eqAll, tupD, splice, Nat.zero_add, Nat.add_zero, Nat.zero_mul, Nat.mul_one, Nat.one_mul, Nat.reduceAdd, Nat.reduceSub, Nat.reduceMul, Nat.reduceLT, Nat.reduceLeDiff, Nat.reduceEqDiff, true_and, and_true, true_implies, if_true, if_false, ite_true, reduceIte, ne_eq, not_false_eq_true, reduceCtorEq, forall_const, bne_self_eq_false, Bool.true_eq_false, Bool.false_eq_true, false_implies, and_self, implies_true, Int.toNat_zero, beq_self_eq_true, decide_true, decide_false, Bool.not_true, Bool.not_false, ↓y_lookv, y_key1, y_mlook, y_mlookn, y_mres1, y_mres0, ↓y_call, b1, c2, List.length_map, c3]
    refine fin_sy hl ?_
    simp only [symT, if_neg c1, if_neg c2, List.getElem?_eq_none (show gr.length ≤ r.toNat by omega)]
  obtain ⟨i, rfl⟩ : ∃ i : Nat, r = i := ⟨r.toNat, by omega⟩
  have hi : i < gr.length := by omega
  have e0 := nth_mapF ruleD gr i hi
  have hgi : gr[i]? = some gr[i] := by simp [hi]
  have f0 : (0 : Int) ≤ (i : Int) := by omega
  have f1 : (i : Int) < (gr.length : Int) := by omega
  generalize gr[i] = u at *
  obtain ⟨ul, ur⟩ := u
  rw [show ruleD ⟨ul, ur⟩ = .agg [.int .i64 ul, .lst (ur.map symD)] from rfl] at e0
  simp -implicitDefEqProofs only [↓symPre, symPost, y_condP, y_condG, run, lver, minD, intsD, eqAll, tupD, splice, Nat.zero_add, Nat.add_zero, Nat.zero_mul, Nat.mul_one, Nat.one_mul, Nat.reduceAdd, Nat.reduceSub, Nat.reduceMul, Nat.reduceLT, Nat.reduceLeDiff, Nat.reduceEqDiff, true_and, and_true, true_implies, if_true, if_false, ite_true, reduceIte, ne_eq, not_false_eq_true, reduceCtorEq, forall_const, bne_self_eq_false, Bool.true_eq_false, Bool.false_eq_true, false_implies, and_self, implies_true, Int.toNat_zero, beq_self_eq_true, decide_true, decide_false, Bool.not_true, Bool.not_false, ↓y_lookv, y_key1, y_mlook, y_mlookn, y_mres1, y_mres0, ↓y_call, b1, c2, List.length_map, c3]
  refine adrawq hmix (List.replicate 11 [] ++ [[n + 4]]) ?_
  simp (maxSteps := 400000) -implicitDefEqProofs only [↓symPre, symPost, y_condP, y_condG, run, lver, minD, intsD, eqAll, tupD, splice, Nat.zero_add, Nat.add_zero, Nat.zero_mul, Nat.mul_one, Nat.one_mul, Nat.reduceAdd, Nat.reduceSub, Nat.reduceMul, Nat.reduceLT, Nat.reduceLeDiff, Nat.reduceEqDiff, true_and, and_true, true_implies, if_true, if_false, ite_true, reduceIte, ne_eq, not_false_eq_true, reduceCtorEq, forall_const, bne_self_eq_false, Bool.true_eq_false, Bool.false_eq_true, false_implies, and_self, implies_true, Int.toNat_zero, beq_self_eq_true, decide_true, decide_false, Bool.not_true, Bool.not_false, ↓y_lookv, y_key1, y_mlook, y_mlookn, y_mres1, y_mres0, ↓y_call, ↓y_adq0, ↓y_adq, ↓y_stepQ_call, ↓y_adq_onT, ↓y_adq_onF, ↓y_adq_onS, drawPost, isCall, isNew, isEff, Option.toList, or_false, false_or, cond_true, cond_false, not_true_eq_false, or_true, true_or, Nat.add_left_cancel_iff, Bool.false_eq_true, ↓y_q0, ↓y_q1, ↓y_q1e, y_qn, isMap, List.length_map, f0, f1, Int.toNat_natCast, e0, List.flatMap_cons, List.flatMap_nil, List.append_nil, List.getD_cons_succ, List.getD_cons_zero]
  refine ⟨by rintro c (rfl | rfl) <;> rfl, fin_sy hl ?_⟩
  simp only [symT, if_neg c1, if_neg c2, Int.toNat_natCast, hgi]
  congr 1

mutual
def validT (g : Gr) : Tree → Bool
  | .mk r t ks => (symT g (.mk r t ks)).2 && (decide (r = -1) || match g.rules[r.toNat]? with
    | some u => decide (ks.length = u.right.length) && validK g ks u.right
    | none => false)
def validK (g : Gr) : List Tree → List Sy → Bool
  | k :: ks, s :: ss => (symT g k).2 && (decide ((symT g k).1 = s) && validT g k) && validK g ks ss
  | _, _ => true
end
theorem validT_mk (g : Gr) (r t : Int) (ks : List Tree) : validT g (.mk r t ks) = ((symT g (.mk r t ks)).2 && (decide (r = -1) || match g.rules[r.toNat]? with
    | some u => decide (ks.length = u.right.length) && validK g ks u.right
    | none => false)) := by rw [validT]

theorem validK_cons (g : Gr) (k : Tree) (ks : List Tree) (s : Sy) (ss : List Sy) : validK g (k :: ks) (s :: ss) = ((symT g k).2 && (decide ((symT g k).1 = s) && validT g k) && validK g ks ss) := by rw [validK]

theorem validK_nil (g : Gr) (ss : List Sy) : validK g [] ss = true := by unfold validK; rfl

theorem sy_eqT (a b : Sy) : ((a.t == b.t) && ((a.n == b.n) && true)) = decide (a = b) := by
  obtain ⟨at', an⟩ := a
  obtain ⟨bt, bn⟩ := b
  by_cases h1 : at' = bt <;> by_cases h2 : an = bn <;> simp [h1, h2]

set_option maxHeartbeats 4000000 in
theorem pure_valid (g : Gr) : ∀ (t : Tree), full t < 2 ^ 60 → Pure prog F_tree_valid [gramD g, treeD t] (.bool (validT g t))
  | .mk r tm ks, hf => by
    intro n h
    rw [full_mk] at hf
    have hkf := full_len ks
    have pS := pure_symbol g (.mk r tm ks)
    have pSk := pure_symbol g
    have pV := fun k (hk : k ∈ ks) => pure_valid g k (by have := full_kid hk; omega)
    have hvm := validT_mk g r tm ks
    have hsd : (symT g (.mk r tm ks)).2 = true → ¬ r = -1 → 0 ≤ r ∧ ∃ u, g.rules[r.toNat]? = some u := fun h1 h2 => by
      simp only [symT, if_neg h2] at h1
      by_cases c : r < 0
      · rw [if_pos c] at h1; cases h1
      · rw [if_neg c] at h1
        cases hu : g.rules[r.toNat]? with
        | none => rw [hu] at h1; cases h1
        | some u => exact ⟨by omega, u, rfl⟩
    rw [treeD_mk] at pS ⊢
    obtain ⟨gt, gn, gs, gr, hGD, hGr⟩ : ∃ gt gn gs gr, gramD g = .agg [.int .i64 gt, .int .i64 gn, .int .i64 gs, .lst (gr.map ruleD)] ∧ g.rules = gr := by cases g; exact ⟨_, _, _, _, rfl, rfl⟩
    simp only [hGD] at pS pSk pV ⊢
    rw [hGr] at hvm hsd
    generalize symT g (.mk r tm ks) = sy at *
    obtain ⟨⟨sb, sn⟩, ok⟩ := sy
    rw [show symD ⟨sb, sn⟩ = .agg [.bool sb, .int .i64 sn] from rfl] at pS
    simp only at hvm hsd pS
    refine K_tree_valid.calls fun hl => ?_
    unfold C_tree_valid
    simp -implicitDefEqProofs only [↓symPre, symPost, y_condP, y_condG, run, lver, minD, intsD, eqAll, tupD, splice, Nat.zero_add, Nat.add_zero, Nat.zero_mul, Nat.mul_one, Nat.one_mul, Nat.reduceAdd, Nat.reduceSub, Nat.reduceMul, Nat.reduceLT, Nat.reduceLeDiff, Nat.reduceEqDiff, true_and, and_true, true_implies, if_true, if_false, ite_true, reduceIte, ne_eq, not_false_eq_true, reduceCtorEq, forall_const, bne_self_eq_false, Bool.true_eq_false, Bool.false_eq_true, false_implies, and_self, implies_true, Int.toNat_zero, beq_self_eq_true, decide_true, decide_false, Bool.not_true, Bool.not_false, ↓y_lookv, y_key1, y_mlook, y_mlookn, y_mres1, y_mres0, ↓y_call]
    refine pS.call rfl ?_
    cases ok with
    | false =>
      simp -implicitDefEqProofs only [↓symPre, symPost, y_condP, y_condG, run, lver, minD, intsD, eqAll, tupD, splice, Nat.zero_add, Nat.add_zero, Nat.zero_mul, Nat.mul_one, Nat.one_mul, Nat.reduceAdd, Nat.reduceSub, Nat.reduceMul, Nat.reduceLT, Nat.reduceLeDiff, Nat.reduceEqDiff, true_and, and_true, true_implies, if_true, if_false, ite_true, reduceIte, ne_eq, not_false_eq_true, reduceCtorEq, forall_const, bne_self_eq_false, Bool.true_eq_false, Bool.false_eq_true, false_implies, and_self, implies_true, Int.toNat_zero, beq_self_eq_true, decide_true, decide_false, Bool.not_true, Bool.not_false, ↓y_lookv, y_key1, y_mlook, y_mlookn, y_mres1, y_mres0, ↓y_call]
      exact fin_bool hl (by rw [hvm]; rfl)
    | true =>
      simp -implicitDefEqProofs only [↓symPre, symPost, y_condP, y_condG, run, lver, minD, intsD, eqAll, tupD, splice, Nat.zero_add, Nat.add_zero, Nat.zero_mul, Nat.mul_one, Nat.one_mul, Nat.reduceAdd, Nat.reduceSub, Nat.reduceMul, Nat.reduceLT, Nat.reduceLeDiff, Nat.reduceEqDiff, true_and, and_true, true_implies, if_true, if_false, ite_true, reduceIte, ne_eq, not_false_eq_true, reduceCtorEq, forall_const, bne_self_eq_false, Bool.true_eq_false, Bool.false_eq_true, false_implies, and_self, implies_true, Int.toNat_zero, beq_self_eq_true, decide_true, decide_false, Bool.not_true, Bool.not_false, ↓y_lookv, y_key1, y_mlook, y_mlookn, y_mres1, y_mres0, ↓y_call]
      refine (pure_leaf r tm _).call rfl ?_
      by_cases c1 : r = -1
      · have b1 : (r == -1) = true := by simp [c1]
        simp -implicitDefEqProofs only [↓symPre, symPost, y_condP, y_condG, run, lver, minD, intsD, eqAll, tupD, splice, Nat.zero_add, Nat.add_zero, Nat.zero_mul, Nat.mul_one, Nat.one_mul, Nat.reduceAdd, Nat.reduceSub, Nat.reduceMul, Nat.reduceLT, Nat.reduceLeDiff, Nat.reduceEqDiff, true_and, and_true, true_implies, if_true, if_false, ite_true, reduceIte, ne_eq, not_false_eq_true, reduceCtorEq, forall_const, bne_self_eq_false, Bool.true_eq_false, Bool.false_eq_true, false_implies, and_self, implies_true, Int.toNat_zero, beq_self_eq_true, decide_true, decide_false, Bool.not_true, Bool.not_false, ↓y_lookv, y_key1, y_mlook, y_mlookn, y_mres1, y_mres0, ↓y_call, b1]
        exact fin_bool hl (by rw [hvm]; simp [c1])
      have b1 : (r == -1) = false := by simp [c1]
      obtain ⟨r0, u, hu⟩ := hsd rfl c1
      obtain ⟨i, rfl⟩ : ∃ i : Nat, r = i := ⟨r.toNat, by omega⟩
      rw [Int.toNat_natCast] at hu
      rw [Int.toNat_natCast, hu, decide_eq_false c1, Bool.true_and, Bool.false_or] at hvm
      have hi : i < gr.length := (List.getElem?_eq_some_iff.1 hu).1
      have e0 := nth_mapF ruleD gr i hi
      rw [(List.getElem?_eq_some_iff.1 hu).2] at e0
      have f0 : (0 : Int) ≤ (i : Int) := by omega
      have f1 : (i : Int) < (gr.length : Int) := by omega
      obtain ⟨ul, ur⟩ := u
      rw [show ruleD ⟨ul, ur⟩ = .agg [.int .i64 ul, .lst (ur.map symD)] from rfl] at e0
      simp only at hvm
      by_cases c2 : ks.length = ur.length
      rotate_left
      · have b2 : ((ks.length : Int) != (ur.length : Int)) = true := by simp; omega
        rw [decide_eq_false c2] at hvm
        simp -implicitDefEqProofs only [↓symPre, symPost, y_condP, y_condG, run, lver, minD, intsD, eqAll, tupD, splice, Nat.zero_add, Nat.add_zero, Nat.zero_mul, Nat.mul_one, Nat.one_mul, Nat.reduceAdd, Nat.reduceSub, Nat.reduceMul, Nat.reduceLT, Nat.reduceLeDiff, Nat.reduceEqDiff, true_and, and_true, true_implies, if_true, if_false, ite_true, reduceIte, ne_eq, not_false_eq_true, reduceCtorEq, forall_const, bne_self_eq_false, Bool.true_eq_false, Bool.false_eq_true, false_implies, and_self, implies_true, Int.toNat_zero, beq_self_eq_true, decide_true, decide_false, Bool.not_true, Bool.not_false, ↓y_lookv, y_key1, y_mlook, y_mlookn, y_mres1, y_mres0, ↓y_call, b1, List.length_map, f0, f1, Int.toNat_natCast, e0, b2]
        exact fin_bool hl (by rw [hvm]; rfl)
      have b2 : ((ks.length : Int) != (ur.length : Int)) = false := by simp; omega
      rw [decide_eq_true c2, Bool.true_and] at hvm
      simp -implicitDefEqProofs only [↓symPre, symPost, y_condP, y_condG, run, lver, minD, intsD, eqAll, tupD, splice, Nat.zero_add, Nat.add_zero, Nat.zero_mul, Nat.mul_one, Nat.one_mul, Nat.reduceAdd, Nat.reduceSub, Nat.reduceMul, Nat.reduceLT, Nat.reduceLeDiff, Nat.reduceEqDiff, true_and, and_true, true_implies, if_true, if_false, ite_true, reduceIte, ne_eq, not_false_eq_true, reduceCtorEq, forall_const, bne_self_eq_false, Bool.true_eq_false, Bool.false_eq_true, false_implies, and_self, implies_true, Int.toNat_zero, beq_self_eq_true, decide_true, decide_false, Bool.not_true, Bool.not_false, ↓y_lookv, y_key1, y_mlook, y_mlookn, y_mres1, y_mres0, ↓y_call, b1, List.length_map, f0, f1, Int.toNat_natCast, e0, b2]
      refine aloop (fun j : Nat => St.mk n ([.top, .top, .ptr (n + 2) 1 0, .top, .top, .top, .top, .lst (ur.map symD)] ++ List.replicate 31 .top ++ [.lst (ks.map treeD), .int .i64 ks.length, .int .i64 j] ++ List.replicate 27 .top) h
          ([blk0, blk0, ⟨1, .cells [.int .i64 gt, .int .i64 gn, .int .i64 gs, .lst (gr.map ruleD)]⟩] ++ List.replicate 66 blk0)) (fun j => j ≤ ks.length ∧ validK g (ks.drop j) (ur.drop j) = validK g ks ur) (fun j => ks.length - j) 0 ⟨Nat.zero_le _, rfl⟩ ?_ ?_
      · refine le_to ([.hole, .hole, .old 2] ++ List.replicate 66 .hole) hl rfl ?_ ?_ <;> ((try simp only [y_blk_end, y_blk_hole, y_blk_nil, y_blk_old, y_wkl_end, y_wkl_top, List.replicate, List.cons_append, List.nil_append, and_true, true_and]) <;> (repeat' (first | apply And.intro | apply y_wkl | refine Exists.intro _ (And.intro rfl ?_))) <;> (try first | exact trivial | exact Wk.top _ | exact wk_int rfl | exact wk_bool rfl | exact wk_ptr rfl rfl rfl rfl | exact wk_ref rfl rfl rfl rfl rfl | exact wk_nil rfl rfl rfl | exact wk_ref rfl rfl rfl rfl (by simp) | exact wk_ref rfl rfl rfl rfl (by simp; omega) | exact wk_old (by assumption) (by simp) | exact wk_eq rfl (by first | exact Bd.int _ _ | exact Bd.bool _ | exact Bd.abool | exact Bd.nils | exact Bd.emp | exact Bd.nilp | exact Bd.nilfn | assumption | exact low_trees _ _ | exact low_treeD _ _ | exact low_ints _ _) | exact Nat.le_refl _ | exact wk_int (by simp) | exact wk_int (by omega) | exact Nat.succ_le_succ (Nat.zero_le _) | exact Nat.le_add_left _ _ | omega))
        all_goals first | exact wk_eq rfl (low_rules _ _) | exact wk_eq rfl (low_syms _ _)
      · rintro j ⟨hj, hv⟩
        by_cases hjl : j < ks.length
        · have q1 : (j : Int) < (ks.length : Int) := by omega
          have q0 : (0 : Int) ≤ (j : Int) := by omega
          have q2 : (j : Int) < (ur.length : Int) := by omega
          have hju : j < ur.length := by omega
          have w2 : IntKind.i64.wrap ((j : Int) + 1) = ((j + 1 : Nat) : Int) := by rw [IntWalk.i64_in _ (by omega)]; omega
          have e1 := nth_map_tree ks j hjl
          have e2 := nth_mapF symD ur j hju
          have pVj := pV ks[j] (List.getElem_mem hjl)
          have pSj := pSk ks[j]
          rw [List.drop_eq_getElem_cons hjl, List.drop_eq_getElem_cons hju, validK_cons] at hv
          generalize ks[j] = k at *
          generalize ur[j] = y at *
          generalize hkv : validT g k = vk at *
          generalize symT g k = sk at *
          obtain ⟨⟨kb, kn⟩, kok⟩ := sk
          obtain ⟨yt, yn⟩ := y
          have hse := sy_eqT ⟨kb, kn⟩ ⟨yt, yn⟩
          simp only at hse hv pSj
          obtain ⟨kr, kt, kk, rfl⟩ : ∃ r t' k', k = .mk r t' k' := by cases k; exact ⟨_, _, _, rfl⟩
          rw [treeD_mk] at e1 pVj pSj
          rw [show symD ⟨yt, yn⟩ = .agg [.bool yt, .int .i64 yn] from rfl] at e2
          rw [show symD ⟨kb, kn⟩ = .agg [.bool kb, .int .i64 kn] from rfl] at pSj
          simp -implicitDefEqProofs only [↓symPre, symPost, y_condP, y_condG, run, lver, minD, intsD, eqAll, tupD, splice, Nat.zero_add, Nat.add_zero, Nat.zero_mul, Nat.mul_one, Nat.one_mul, Nat.reduceAdd, Nat.reduceSub, Nat.reduceMul, Nat.reduceLT, Nat.reduceLeDiff, Nat.reduceEqDiff, true_and, and_true, true_implies, if_true, if_false, ite_true, reduceIte, ne_eq, not_false_eq_true, reduceCtorEq, forall_const, bne_self_eq_false, Bool.true_eq_false, Bool.false_eq_true, false_implies, and_self, implies_true, Int.toNat_zero, beq_self_eq_true, decide_true, decide_false, Bool.not_true, Bool.not_false, ↓y_lookv, y_key1, y_mlook, y_mlookn, y_mres1, y_mres0, ↓y_call, List.length_map, q1, q0, decide_true, Int.toNat_natCast, e1]
          refine pSj.call rfl ?_
          cases kok with
          | false =>
            simp -implicitDefEqProofs only [↓symPre, symPost, y_condP, y_condG, run, lver, minD, intsD, eqAll, tupD, splice, Nat.zero_add, Nat.add_zero, Nat.zero_mul, Nat.mul_one, Nat.one_mul, Nat.reduceAdd, Nat.reduceSub, Nat.reduceMul, Nat.reduceLT, Nat.reduceLeDiff, Nat.reduceEqDiff, true_and, and_true, true_implies, if_true, if_false, ite_true, reduceIte, ne_eq, not_false_eq_true, reduceCtorEq, forall_const, bne_self_eq_false, Bool.true_eq_false, Bool.false_eq_true, false_implies, and_self, implies_true, Int.toNat_zero, beq_self_eq_true, decide_true, decide_false, Bool.not_true, Bool.not_false, ↓y_lookv, y_key1, y_mlook, y_mlookn, y_mres1, y_mres0, ↓y_call]
            refine adrawq hmix [] ?_
            simp (maxSteps := 400000) -implicitDefEqProofs only [↓symPre, symPost, y_condP, y_condG, run, lver, minD, intsD, eqAll, tupD, splice, Nat.zero_add, Nat.add_zero, Nat.zero_mul, Nat.mul_one, Nat.one_mul, Nat.reduceAdd, Nat.reduceSub, Nat.reduceMul, Nat.reduceLT, Nat.reduceLeDiff, Nat.reduceEqDiff, true_and, and_true, true_implies, if_true, if_false, ite_true, reduceIte, ne_eq, not_false_eq_true, reduceCtorEq, forall_const, bne_self_eq_false, Bool.true_eq_false, Bool.false_eq_true, false_implies, and_self, implies_true, Int.toNat_zero, beq_self_eq_true, decide_true, decide_false, Bool.not_true, Bool.not_false, ↓y_lookv, y_key1, y_mlook, y_mlookn, y_mres1, y_mres0, ↓y_call, ↓y_adq0, ↓y_adq, ↓y_stepQ_call, ↓y_adq_onT, ↓y_adq_onF, ↓y_adq_onS, drawPost, isCall, isNew, isEff, Option.toList, or_false, false_or, cond_true, cond_false, not_true_eq_false, or_true, true_or, Nat.add_left_cancel_iff, Bool.false_eq_true, ↓y_q0, ↓y_q1, ↓y_q1e, y_qn, isMap]
            exact fin_bool hl (by rw [hvm, ← hv]; rfl)
          | true =>
            rw [Bool.true_and] at hv
            by_cases c3 : (⟨kb, kn⟩ : Sy) = ⟨yt, yn⟩
            · rw [decide_eq_true c3] at hse
              rw [decide_eq_true c3, Bool.true_and] at hv
              simp -implicitDefEqProofs only [↓symPre, symPost, y_condP, y_condG, run, lver, minD, intsD, eqAll, tupD, splice, Nat.zero_add, Nat.add_zero, Nat.zero_mul, Nat.mul_one, Nat.one_mul, Nat.reduceAdd, Nat.reduceSub, Nat.reduceMul, Nat.reduceLT, Nat.reduceLeDiff, Nat.reduceEqDiff, true_and, and_true, true_implies, if_true, if_false, ite_true, reduceIte, ne_eq, not_false_eq_true, reduceCtorEq, forall_const, bne_self_eq_false, Bool.true_eq_false, Bool.false_eq_true, false_implies, and_self, implies_true, Int.toNat_zero, beq_self_eq_true, decide_true, decide_false, Bool.not_true, Bool.not_false, ↓y_lookv, y_key1, y_mlook, y_mlookn, y_mres1, y_mres0, ↓y_call]
              refine adrawq hmix [] ?_
              simp (maxSteps := 400000) -implicitDefEqProofs only [↓symPre, symPost, y_condP, y_condG, run, lver, minD, intsD, eqAll, tupD, splice, Nat.zero_add, Nat.add_zero, Nat.zero_mul, Nat.mul_one, Nat.one_mul, Nat.reduceAdd, Nat.reduceSub, Nat.reduceMul, Nat.reduceLT, Nat.reduceLeDiff, Nat.reduceEqDiff, true_and, and_true, true_implies, if_true, if_false, ite_true, reduceIte, ne_eq, not_false_eq_true, reduceCtorEq, forall_const, bne_self_eq_false, Bool.true_eq_false, Bool.false_eq_true, false_implies, and_self, implies_true, Int.toNat_zero, beq_self_eq_true, decide_true, decide_false, Bool.not_true, Bool.not_false, ↓y_lookv, y_key1, y_mlook, y_mlookn, y_mres1, y_mres0, ↓y_call, ↓y_adq0, ↓y_adq, ↓y_stepQ_call, ↓y_adq_onT, ↓y_adq_onF, ↓y_adq_onS, drawPost, isCall, isNew, isEff, Option.toList, or_false, false_or, cond_true, cond_false, not_true_eq_false, or_true, true_or, Nat.add_left_cancel_iff, Bool.false_eq_true, ↓y_q0, ↓y_q1, ↓y_q1e, y_qn, isMap, List.length_map, q0, q2, Int.toNat_natCast, e2, hse, bne_self_eq_false]
              refine ⟨_, _, pVj.draw rfl, (by simp [y_cov0, y_cov1, isNew, isEff, Option.toList]), ?_⟩
              cases vk with
              | false =>
                simp (maxSteps := 400000) -implicitDefEqProofs only [↓symPre, symPost, y_condP, y_condG, run, lver, minD, intsD, eqAll, tupD, splice, Nat.zero_add, Nat.add_zero, Nat.zero_mul, Nat.mul_one, Nat.one_mul, Nat.reduceAdd, Nat.reduceSub, Nat.reduceMul, Nat.reduceLT, Nat.reduceLeDiff, Nat.reduceEqDiff, true_and, and_true, true_implies, if_true, if_false, ite_true, reduceIte, ne_eq, not_false_eq_true, reduceCtorEq, forall_const, bne_self_eq_false, Bool.true_eq_false, Bool.false_eq_true, false_implies, and_self, implies_true, Int.toNat_zero, beq_self_eq_true, decide_true, decide_false, Bool.not_true, Bool.not_false, ↓y_lookv, y_key1, y_mlook, y_mlookn, y_mres1, y_mres0, ↓y_call, ↓y_adq0, ↓y_adq, ↓y_stepQ_call, ↓y_adq_onT, ↓y_adq_onF, ↓y_adq_onS, drawPost, isCall, isNew, isEff, Option.toList, or_false, false_or, cond_true, cond_false, not_true_eq_false, or_true, true_or, Nat.add_left_cancel_iff, Bool.false_eq_true, ↓y_q0, ↓y_q1, ↓y_q1e, y_qn, isMap]
                exact fin_bool hl (by rw [hvm, ← hv]; rfl)
              | true =>
                rw [Bool.true_and] at hv
                simp (maxSteps := 400000) -implicitDefEqProofs only [↓symPre, symPost, y_condP, y_condG, run, lver, minD, intsD, eqAll, tupD, splice, Nat.zero_add, Nat.add_zero, Nat.zero_mul, Nat.mul_one, Nat.one_mul, Nat.reduceAdd, Nat.reduceSub, Nat.reduceMul, Nat.reduceLT, Nat.reduceLeDiff, Nat.reduceEqDiff, true_and, and_true, true_implies, if_true, if_false, ite_true, reduceIte, ne_eq, not_false_eq_true, reduceCtorEq, forall_const, bne_self_eq_false, Bool.true_eq_false, Bool.false_eq_true, false_implies, and_self, implies_true, Int.toNat_zero, beq_self_eq_true, decide_true, decide_false, Bool.not_true, Bool.not_false, ↓y_lookv, y_key1, y_mlook, y_mlookn, y_mres1, y_mres0, ↓y_call, ↓y_adq0, ↓y_adq, ↓y_stepQ_call, ↓y_adq_onT, ↓y_adq_onF, ↓y_adq_onS, drawPost, isCall, isNew, isEff, Option.toList, or_false, false_or, cond_true, cond_false, not_true_eq_false, or_true, true_or, Nat.add_left_cancel_iff, Bool.false_eq_true, ↓y_q0, ↓y_q1, ↓y_q1e, y_qn, isMap, w2]
                refine ⟨j + 1, ⟨by omega, hv⟩, by omega, ?_⟩
                refine le_to ([.hole, .hole, .old 2] ++ List.replicate 66 .hole) hl rfl ?_ ?_ <;> ((try simp only [y_blk_end, y_blk_hole, y_blk_nil, y_blk_old, y_wkl_end, y_wkl_top, List.replicate, List.cons_append, List.nil_append, and_true, true_and]) <;> (repeat' (first | apply And.intro | apply y_wkl | refine Exists.intro _ (And.intro rfl ?_))) <;> (try first | exact trivial | exact Wk.top _ | exact wk_int rfl | exact wk_bool rfl | exact wk_ptr rfl rfl rfl rfl | exact wk_ref rfl rfl rfl rfl rfl | exact wk_nil rfl rfl rfl | exact wk_ref rfl rfl rfl rfl (by simp) | exact wk_ref rfl rfl rfl rfl (by simp; omega) | exact wk_old (by assumption) (by simp) | exact wk_eq rfl (by first | exact Bd.int _ _ | exact Bd.bool _ | exact Bd.abool | exact Bd.nils | exact Bd.emp | exact Bd.nilp | exact Bd.nilfn | assumption | exact low_trees _ _ | exact low_treeD _ _ | exact low_ints _ _) | exact Nat.le_refl _ | exact wk_int (by simp) | exact wk_int (by omega) | exact Nat.succ_le_succ (Nat.zero_le _) | exact Nat.le_add_left _ _ | omega))
                all_goals first | exact wk_eq rfl (low_rules _ _) | exact wk_eq rfl (low_syms _ _)
            · rw [decide_eq_false c3] at hse
              rw [decide_eq_false c3, Bool.false_and, Bool.false_and] at hv
              have hft : (false != true) = true := rfl
              simp -implicitDefEqProofs only [↓symPre, symPost, y_condP, y_condG, run, lver, minD, intsD, eqAll, tupD, splice, Nat.zero_add, Nat.add_zero, Nat.zero_mul, Nat.mul_one, Nat.one_mul, Nat.reduceAdd, Nat.reduceSub, Nat.reduceMul, Nat.reduceLT, Nat.reduceLeDiff, Nat.reduceEqDiff, true_and, and_true, true_implies, if_true, if_false, ite_true, reduceIte, ne_eq, not_false_eq_true, reduceCtorEq, forall_const, bne_self_eq_false, Bool.true_eq_false, Bool.false_eq_true, false_implies, and_self, implies_true, Int.toNat_zero, beq_self_eq_true, decide_true, decide_false, Bool.not_true, Bool.not_false, ↓y_lookv, y_key1, y_mlook, y_mlookn, y_mres1, y_mres0, ↓y_call]
              refine adrawq hmix [] ?_
              simp (maxSteps := 400000) -implicitDefEqProofs only [↓symPre, symPost, y_condP, y_condG, run, lver, minD, intsD, eqAll, tupD, splice, Nat.zero_add, Nat.add_zero, Nat.zero_mul, Nat.mul_one, Nat.one_mul, Nat.reduceAdd, Nat.reduceSub, Nat.reduceMul, Nat.reduceLT, Nat.reduceLeDiff, Nat.reduceEqDiff, true_and, and_true, true_implies, if_true, if_false, ite_true, reduceIte, ne_eq, not_false_eq_true, reduceCtorEq, forall_const, bne_self_eq_false, Bool.true_eq_false, Bool.false_eq_true, false_implies, and_self, implies_true, Int.toNat_zero, beq_self_eq_true, decide_true, decide_false, Bool.not_true, Bool.not_false, ↓y_lookv, y_key1, y_mlook, y_mlookn, y_mres1, y_mres0, ↓y_call, ↓y_adq0, ↓y_adq, ↓y_stepQ_call, ↓y_adq_onT, ↓y_adq_onF, ↓y_adq_onS, drawPost, isCall, isNew, isEff, Option.toList, or_false, false_or, cond_true, cond_false, not_true_eq_false, or_true, true_or, Nat.add_left_cancel_iff, Bool.false_eq_true, ↓y_q0, ↓y_q1, ↓y_q1e, y_qn, isMap, List.length_map, q0, q2, Int.toNat_natCast, e2, hse, hft]
              exact fin_bool hl (by rw [hvm, ← hv])
        · have q1 : ¬ (j : Int) < (ks.length : Int) := by omega
          rw [List.drop_eq_nil_of_le (by omega), validK_nil] at hv
          simp -implicitDefEqProofs only [↓symPre, symPost, y_condP, y_condG, run, lver, minD, intsD, eqAll, tupD, splice, Nat.zero_add, Nat.add_zero, Nat.zero_mul, Nat.mul_one, Nat.one_mul, Nat.reduceAdd, Nat.reduceSub, Nat.reduceMul, Nat.reduceLT, Nat.reduceLeDiff, Nat.reduceEqDiff, true_and, and_true, true_implies, if_true, if_false, ite_true, reduceIte, ne_eq, not_false_eq_true, reduceCtorEq, forall_const, bne_self_eq_false, Bool.true_eq_false, Bool.false_eq_true, false_implies, and_self, implies_true, Int.toNat_zero, beq_self_eq_true, decide_true, decide_false, Bool.not_true, Bool.not_false, ↓y_lookv, y_key1, y_mlook, y_mlookn, y_mres1, y_mres0, ↓y_call, q1, decide_false]
          exact fin_bool hl (by rw [hvm, ← hv])
termination_by t => t

theorem trees_cells (ks : List Tree) : (∀ x ∈ ks.map treeD, x.cells.length = 3) = True := by
  simp only [eq_iff_iff, iff_true]
  intro x hx
  obtain ⟨t, _, rfl⟩ := List.mem_map.1 hx
  exact treeD_cells t

theorem trees_flat (ks : List Tree) : (ks.map treeD).flatMap D.cells = cellsF treeD ks := rfl

theorem trees_one (ks : List Tree) : (∀ c ∈ cellsF treeD ks, c.one = true) = True := by
  simp only [eq_iff_iff, iff_true]
  intro c hc
  simp only [cellsF, List.mem_flatMap, List.mem_map] at hc
  obtain ⟨d, ⟨t, ht, rfl⟩, hc⟩ := hc
  obtain ⟨r, tm, k, rfl⟩ : ∃ r t' k, t = .mk r t' k := by cases t; exact ⟨_, _, _, rfl⟩
  rw [treeD_mk] at hc
  simp only [D.cells, List.mem_cons, List.not_mem_nil, or_false] at hc
  rcases hc with rfl | rfl | rfl <;> rfl

theorem cellsT_ld (ks : List Tree) (i : Nat) (hi : i < ks.length) {r t : Int} {k : List Tree} (e : ks[i] = .mk r t k) : ((cellsF treeD ks).drop (i * 3)).take 3 = [.int .i64 r, .int .i64 t, .lst (k.map treeD)] := by
  have h1 : ks = ks.take i ++ (ks[i] :: ks.drop (i + 1)) := by rw [← List.drop_eq_getElem_cons hi, List.take_append_drop]
  have hl : (cellsF treeD (ks.take i)).length = i * 3 := by rw [cellsF_len treeD treeD_cells]; simp; omega
  have h2 : cellsF treeD ks = cellsF treeD (ks.take i) ++ ([.int .i64 r, .int .i64 t, .lst (k.map treeD)] ++ cellsF treeD (ks.drop (i + 1))) := by
    conv => lhs; rw [h1]
    rw [cellsF_app, show ks[i] :: ks.drop (i + 1) = [ks[i]] ++ ks.drop (i + 1) from rfl, cellsF_app, cellsF_one, e, treeD_mk]
    rfl
  rw [h2, List.drop_left' hl]
  rfl

theorem cellsT_splice (ks : List Tree) (i : Nat) (hi : i < ks.length) {r t : Int} {k : List Tree} (e : ks[i] = .mk r t k) :
    (cellsF treeD ks).take (i * 3) ++ [.int .i64 r, .int .i64 t, .lst (k.map treeD)] ++ (cellsF treeD ks).drop (i * 3 + 3) = cellsF treeD ks := by
  rw [← cellsT_ld ks i hi e, List.append_assoc, ← List.drop_drop]
  rw [List.take_append_drop, List.take_append_drop]

theorem pure_CloneNil : Pure prog F_slices_Clone_api_Tree_api_Tree [.lst []] (.lst []) := by
  intro n h
  refine K_slices_Clone_api_Tree_api_Tree.calls fun hl => ?_
  unfold C_slices_Clone_api_Tree_api_Tree
  simp -implicitDefEqProofs only [↓symPre, symPost, y_condP, y_condG, run, lver, minD, intsD, eqAll, tupD, splice, Nat.zero_add, Nat.add_zero, Nat.zero_mul, Nat.mul_one, Nat.one_mul, Nat.reduceAdd, Nat.reduceSub, Nat.reduceMul, Nat.reduceLT, Nat.reduceLeDiff, Nat.reduceEqDiff, true_and, and_true, true_implies, if_true, if_false, ite_true, reduceIte, ne_eq, not_false_eq_true, reduceCtorEq, forall_const, bne_self_eq_false, Bool.true_eq_false, Bool.false_eq_true, false_implies, and_self, implies_true, Int.toNat_zero, beq_self_eq_true, decide_true, decide_false, Bool.not_true, Bool.not_false, ↓y_lookv, y_key1, y_mlook, y_mlookn, y_mres1, y_mres0, ↓y_call, srcOf, List.length_nil, List.flatMap_nil, Nat.zero_le]
  exact ⟨⟨fin_wk hl .nilsLst ⟨rfl, rfl, rfl⟩, by simp, fin_wk hl (wk_frzF treeD treeD_cells (low_treeD n) (t := 5) (l := []) rfl rfl (by simp) rfl) ⟨rfl, rfl, rfl⟩⟩, fun h => (h trivial).elim⟩

theorem fresh_CloneT (ks : List Tree) (hne : ks ≠ []) (hfit : ks.length * 40 ≤ 140737488355328) : Fresh prog F_slices_Clone_api_Tree_api_Tree [.lst (ks.map treeD)] 3 (cellsF treeD ks) ks.length := by
  intro n h
  refine K_slices_Clone_api_Tree_api_Tree.calls fun hl => ?_
  unfold C_slices_Clone_api_Tree_api_Tree
  have hne' : ¬ ks.map treeD = [] := by simpa using hne
  simp -implicitDefEqProofs only [↓symPre, symPost, y_condP, y_condG, run, lver, minD, intsD, eqAll, tupD, splice, Nat.zero_add, Nat.add_zero, Nat.zero_mul, Nat.mul_one, Nat.one_mul, Nat.reduceAdd, Nat.reduceSub, Nat.reduceMul, Nat.reduceLT, Nat.reduceLeDiff, Nat.reduceEqDiff, true_and, and_true, true_implies, if_true, if_false, ite_true, reduceIte, ne_eq, not_false_eq_true, reduceCtorEq, forall_const, bne_self_eq_false, Bool.true_eq_false, Bool.false_eq_true, false_implies, and_self, implies_true, Int.toNat_zero, beq_self_eq_true, decide_true, decide_false, Bool.not_true, Bool.not_false, ↓y_lookv, y_key1, y_mlook, y_mlookn, y_mres1, y_mres0, ↓y_call, hne', srcOf, List.length_map, trees_cells, trees_flat, trees_one, Nat.zero_le, hfit]
  exact fin_ref hl (t := 5) rfl (by omega) (low_cellsF treeD (low_treeD n) ks) ⟨rfl, 2, rfl, rfl⟩

set_option maxHeartbeats 1000000 in
theorem pure_CloneTree : ∀ t : Tree, full t * 40 ≤ 140737488355328 → Pure prog F_tree_Clone [treeD t] (treeD t)
  | .mk r tm ks, hf => by
    intro n h
    rw [full_mk] at hf
    have hk := full_len ks
    rw [treeD_mk]
    refine K_tree_Clone.calls fun hl => ?_
    unfold C_tree_Clone
    simp -implicitDefEqProofs only [↓symPre, symPost, y_condP, y_condG, run, lver, minD, intsD, eqAll, tupD, splice, Nat.zero_add, Nat.add_zero, Nat.zero_mul, Nat.mul_one, Nat.one_mul, Nat.reduceAdd, Nat.reduceSub, Nat.reduceMul, Nat.reduceLT, Nat.reduceLeDiff, Nat.reduceEqDiff, true_and, and_true, true_implies, if_true, if_false, ite_true, reduceIte, ne_eq, not_false_eq_true, reduceCtorEq, forall_const, bne_self_eq_false, Bool.true_eq_false, Bool.false_eq_true, false_implies, and_self, implies_true, Int.toNat_zero, beq_self_eq_true, decide_true, decide_false, Bool.not_true, Bool.not_false, ↓y_lookv, y_key1, y_mlook, y_mlookn, y_mres1, y_mres0, ↓y_call]
    by_cases hne : ks = []
    · subst hne
      refine pure_CloneNil.call rfl ?_
      simp -implicitDefEqProofs only [↓symPre, symPost, y_condP, y_condG, run, lver, minD, intsD, eqAll, tupD, splice, Nat.zero_add, Nat.add_zero, Nat.zero_mul, Nat.mul_one, Nat.one_mul, Nat.reduceAdd, Nat.reduceSub, Nat.reduceMul, Nat.reduceLT, Nat.reduceLeDiff, Nat.reduceEqDiff, true_and, and_true, true_implies, if_true, if_false, ite_true, reduceIte, ne_eq, not_false_eq_true, reduceCtorEq, forall_const, bne_self_eq_false, Bool.true_eq_false, Bool.false_eq_true, false_implies, and_self, implies_true, Int.toNat_zero, beq_self_eq_true, decide_true, decide_false, Bool.not_true, Bool.not_false, ↓y_lookv, y_key1, y_mlook, y_mlookn, y_mres1, y_mres0, ↓y_call]
      refine aloop (fun i : Nat => St.mk n ([.top, .ptr (n + 1) 1 0, .ptr (n + 2) 1 0] ++ List.replicate 7 .top ++ [.int .i64 0, .int .i64 0] ++ List.replicate 14 .top) h
          ([blk0, ⟨1, .cells [.int .i64 r, .int .i64 tm, .lst []]⟩, ⟨1, .cells [.int .i64 0, .int .i64 0, .nils]⟩] ++ List.replicate 23 blk0)) (fun i => True) (fun i => 0) 0 trivial ?_ ?_
      · refine le_to ([.hole, .old 1, .old 2] ++ List.replicate 23 .hole) hl rfl ?_ ?_ <;> ((try simp only [y_blk_end, y_blk_hole, y_blk_nil, y_blk_old, y_wkl_end, y_wkl_top, List.replicate, List.cons_append, List.nil_append, and_true, true_and]) <;> (repeat' (first | apply And.intro | apply y_wkl | refine Exists.intro _ (And.intro rfl ?_))) <;> (try first | exact trivial | exact Wk.top _ | exact wk_int rfl | exact wk_bool rfl | exact wk_ptr rfl rfl rfl rfl | exact wk_ref rfl rfl rfl rfl rfl | exact wk_nil rfl rfl rfl | exact wk_ref rfl rfl rfl rfl (by simp) | exact wk_ref rfl rfl rfl rfl (by simp; omega) | exact wk_old (by assumption) (by simp) | exact wk_eq rfl (by first | exact Bd.int _ _ | exact Bd.bool _ | exact Bd.abool | exact Bd.nils | exact Bd.emp | exact Bd.nilp | exact Bd.nilfn | assumption | exact low_trees _ _ | exact low_treeD _ _ | exact low_ints _ _) | exact Nat.le_refl _ | exact wk_int (by simp) | exact wk_int (by omega) | exact Nat.succ_le_succ (Nat.zero_le _) | exact Nat.le_add_left _ _ | omega))
        all_goals exact wk_eq rfl (.lst _ (by simp))
      · intro i _
        simp -implicitDefEqProofs only [↓symPre, symPost, y_condP, y_condG, run, lver, minD, intsD, eqAll, tupD, splice, Nat.zero_add, Nat.add_zero, Nat.zero_mul, Nat.mul_one, Nat.one_mul, Nat.reduceAdd, Nat.reduceSub, Nat.reduceMul, Nat.reduceLT, Nat.reduceLeDiff, Nat.reduceEqDiff, true_and, and_true, true_implies, if_true, if_false, ite_true, reduceIte, ne_eq, not_false_eq_true, reduceCtorEq, forall_const, bne_self_eq_false, Bool.true_eq_false, Bool.false_eq_true, false_implies, and_self, implies_true, Int.toNat_zero, beq_self_eq_true, decide_true, decide_false, Bool.not_true, Bool.not_false, ↓y_lookv, y_key1, y_mlook, y_mlookn, y_mres1, y_mres0, ↓y_call, Int.lt_irrefl]
        exact fin_low hl (.agg _ fun c hc => by
          simp only [List.mem_cons, List.not_mem_nil, or_false] at hc
          rcases hc with rfl | rfl | rfl
          · exact .int ..
          · exact .int ..
          · exact .lst _ (by simp)) ⟨rfl, rfl, rfl⟩
    · refine (fresh_CloneT ks hne (by omega)).call (t := 6) (low_cellsF treeD (low_treeD 0) ks) rfl rfl (Nat.le_of_ble_eq_true rfl) rfl ?_
      simp -implicitDefEqProofs only [↓symPre, symPost, y_condP, y_condG, run, lver, minD, intsD, eqAll, tupD, splice, Nat.zero_add, Nat.add_zero, Nat.zero_mul, Nat.mul_one, Nat.one_mul, Nat.reduceAdd, Nat.reduceSub, Nat.reduceMul, Nat.reduceLT, Nat.reduceLeDiff, Nat.reduceEqDiff, true_and, and_true, true_implies, if_true, if_false, ite_true, reduceIte, ne_eq, not_false_eq_true, reduceCtorEq, forall_const, bne_self_eq_false, Bool.true_eq_false, Bool.false_eq_true, false_implies, and_self, implies_true, Int.toNat_zero, beq_self_eq_true, decide_true, decide_false, Bool.not_true, Bool.not_false, ↓y_lookv, y_key1, y_mlook, y_mlookn, y_mres1, y_mres0, ↓y_call]
      refine aloop (fun i : Nat => St.mk n ([.top, .ptr (n + 1) 1 0, .ptr (n + 2) 1 0] ++ List.replicate 7 .top ++ [.int .i64 ks.length, .int .i64 i] ++ List.replicate 14 .top) h
          ([blk0, ⟨1, .cells [.int .i64 r, .int .i64 tm, .ref 3 (n + 6) 1 0 ks.length]⟩, ⟨1, .cells [.int .i64 0, .int .i64 0, .nils]⟩, blk0, blk0, blk0, ⟨1, .cells (cellsF treeD ks)⟩] ++ List.replicate 19 blk0)) (fun i => i ≤ ks.length) (fun i => ks.length - i) 0 (Nat.zero_le _) ?_ ?_
      · refine le_to ([.hole, .old 1, .old 2, .hole, .hole, .hole, .old 6] ++ List.replicate 19 .hole) hl rfl ?_ ?_ <;> ((try simp only [y_blk_end, y_blk_hole, y_blk_nil, y_blk_old, y_wkl_end, y_wkl_top, List.replicate, List.cons_append, List.nil_append, and_true, true_and]) <;> (repeat' (first | apply And.intro | apply y_wkl | refine Exists.intro _ (And.intro rfl ?_))) <;> (try first | exact trivial | exact Wk.top _ | exact wk_int rfl | exact wk_bool rfl | exact wk_ptr rfl rfl rfl rfl | exact wk_ref rfl rfl rfl rfl rfl | exact wk_nil rfl rfl rfl | exact wk_ref rfl rfl rfl rfl (by simp) | exact wk_ref rfl rfl rfl rfl (by simp; omega) | exact wk_old (by assumption) (by simp) | exact wk_eq rfl (by first | exact Bd.int _ _ | exact Bd.bool _ | exact Bd.abool | exact Bd.nils | exact Bd.emp | exact Bd.nilp | exact Bd.nilfn | assumption | exact low_trees _ _ | exact low_treeD _ _ | exact low_ints _ _) | exact Nat.le_refl _ | exact wk_int (by simp) | exact wk_int (by omega) | exact Nat.succ_le_succ (Nat.zero_le _) | exact Nat.le_add_left _ _ | omega))
        all_goals exact WkL.low (low_cellsF treeD (low_treeD n) ks)
      · intro i hi
        by_cases hlt : i < ks.length
        · have f1 : (i : Int) < (ks.length : Int) := by omega
          have f0 : (0 : Int) ≤ (i : Int) := by omega
          have w1 : IntKind.i64.wrap ((i : Int) + 1) = ((i + 1 : Nat) : Int) := by rw [IntWalk.i64_in _ (by omega)]; omega
          have hm : ks[i] ∈ ks := List.getElem_mem hlt
          have ih := pure_CloneTree ks[i] (by have := full_kid (List.getElem_mem hlt); omega)
          obtain ⟨ar, at', ak, ea⟩ : ∃ r' t' k', ks[i] = .mk r' t' k' := by cases h : ks[i]; exact ⟨_, _, _, rfl⟩
          have hld := cellsT_ld ks i hlt ea
          have hsp := cellsT_splice ks i hlt ea
          rw [ea, treeD_mk] at ih
          have hll : i * 3 + 3 ≤ (cellsF treeD ks).length := by rw [cellsF_len treeD treeD_cells]; omega
          simp -implicitDefEqProofs only [↓symPre, symPost, y_condP, y_condG, run, lver, minD, intsD, eqAll, tupD, splice, Nat.zero_add, Nat.add_zero, Nat.zero_mul, Nat.mul_one, Nat.one_mul, Nat.reduceAdd, Nat.reduceSub, Nat.reduceMul, Nat.reduceLT, Nat.reduceLeDiff, Nat.reduceEqDiff, true_and, and_true, true_implies, if_true, if_false, ite_true, reduceIte, ne_eq, not_false_eq_true, reduceCtorEq, forall_const, bne_self_eq_false, Bool.true_eq_false, Bool.false_eq_true, false_implies, and_self, implies_true, Int.toNat_zero, beq_self_eq_true, decide_true, decide_false, Bool.not_true, Bool.not_false, ↓y_lookv, y_key1, y_mlook, y_mlookn, y_mres1, y_mres0, ↓y_call, f1, decide_true]
          refine adrawq hmix [[], [], [], [], [], [], [], [], [], [], [n + 6]] ?_
          simp (maxSteps := 400000) -implicitDefEqProofs only [↓symPre, symPost, y_condP, y_condG, run, lver, minD, intsD, eqAll, tupD, splice, Nat.zero_add, Nat.add_zero, Nat.zero_mul, Nat.mul_one, Nat.one_mul, Nat.reduceAdd, Nat.reduceSub, Nat.reduceMul, Nat.reduceLT, Nat.reduceLeDiff, Nat.reduceEqDiff, true_and, and_true, true_implies, if_true, if_false, ite_true, reduceIte, ne_eq, not_false_eq_true, reduceCtorEq, forall_const, bne_self_eq_false, Bool.true_eq_false, Bool.false_eq_true, false_implies, and_self, implies_true, Int.toNat_zero, beq_self_eq_true, decide_true, decide_false, Bool.not_true, Bool.not_false, ↓y_lookv, y_key1, y_mlook, y_mlookn, y_mres1, y_mres0, ↓y_call, ↓y_adq0, ↓y_adq, ↓y_stepQ_call, ↓y_adq_onT, ↓y_adq_onF, ↓y_adq_onS, drawPost, isCall, isNew, isEff, Option.toList, or_false, false_or, cond_true, cond_false, not_true_eq_false, or_true, true_or, Nat.add_left_cancel_iff, Bool.false_eq_true, ↓y_q0, ↓y_q1, ↓y_q1e, y_qn, isMap, f1, f0, hlt, Int.toNat_natCast, hld, hll, List.getD_cons_succ, List.getD_cons_zero]
          refine ⟨_, _, ih.draw rfl, (by simp [y_cov0, y_cov1, isNew, isEff, Option.toList]), ?_⟩
          simp (maxSteps := 400000) -implicitDefEqProofs only [↓symPre, symPost, y_condP, y_condG, run, lver, minD, intsD, eqAll, tupD, splice, Nat.zero_add, Nat.add_zero, Nat.zero_mul, Nat.mul_one, Nat.one_mul, Nat.reduceAdd, Nat.reduceSub, Nat.reduceMul, Nat.reduceLT, Nat.reduceLeDiff, Nat.reduceEqDiff, true_and, and_true, true_implies, if_true, if_false, ite_true, reduceIte, ne_eq, not_false_eq_true, reduceCtorEq, forall_const, bne_self_eq_false, Bool.true_eq_false, Bool.false_eq_true, false_implies, and_self, implies_true, Int.toNat_zero, beq_self_eq_true, decide_true, decide_false, Bool.not_true, Bool.not_false, ↓y_lookv, y_key1, y_mlook, y_mlookn, y_mres1, y_mres0, ↓y_call, ↓y_adq0, ↓y_adq, ↓y_stepQ_call, ↓y_adq_onT, ↓y_adq_onF, ↓y_adq_onS, drawPost, isCall, isNew, isEff, Option.toList, or_false, false_or, cond_true, cond_false, not_true_eq_false, or_true, true_or, Nat.add_left_cancel_iff, Bool.false_eq_true, ↓y_q0, ↓y_q1, ↓y_q1e, y_qn, isMap, f1, f0, hlt, Int.toNat_natCast, hld, hll, w1, List.getD_cons_succ, List.getD_cons_zero]
          rw [hsp]
          refine ⟨by rintro c (rfl | rfl | rfl) <;> rfl, i + 1, by omega, by omega, ?_⟩
          refine le_to ([.hole, .old 1, .old 2, .hole, .hole, .hole, .old 6] ++ List.replicate 19 .hole) hl rfl ?_ ?_ <;> ((try simp only [y_blk_end, y_blk_hole, y_blk_nil, y_blk_old, y_wkl_end, y_wkl_top, List.replicate, List.cons_append, List.nil_append, and_true, true_and]) <;> (repeat' (first | apply And.intro | apply y_wkl | refine Exists.intro _ (And.intro rfl ?_))) <;> (try first | exact trivial | exact Wk.top _ | exact wk_int rfl | exact wk_bool rfl | exact wk_ptr rfl rfl rfl rfl | exact wk_ref rfl rfl rfl rfl rfl | exact wk_nil rfl rfl rfl | exact wk_ref rfl rfl rfl rfl (by simp) | exact wk_ref rfl rfl rfl rfl (by simp; omega) | exact wk_old (by assumption) (by simp) | exact wk_eq rfl (by first | exact Bd.int _ _ | exact Bd.bool _ | exact Bd.abool | exact Bd.nils | exact Bd.emp | exact Bd.nilp | exact Bd.nilfn | assumption | exact low_trees _ _ | exact low_treeD _ _ | exact low_ints _ _) | exact Nat.le_refl _ | exact wk_int (by simp) | exact wk_int (by omega) | exact Nat.succ_le_succ (Nat.zero_le _) | exact Nat.le_add_left _ _ | omega))
          exact WkL.low (low_cellsF treeD (low_treeD n) ks)
        · have f1 : ¬ (i : Int) < (ks.length : Int) := by omega
          simp -implicitDefEqProofs only [↓symPre, symPost, y_condP, y_condG, run, lver, minD, intsD, eqAll, tupD, splice, Nat.zero_add, Nat.add_zero, Nat.zero_mul, Nat.mul_one, Nat.one_mul, Nat.reduceAdd, Nat.reduceSub, Nat.reduceMul, Nat.reduceLT, Nat.reduceLeDiff, Nat.reduceEqDiff, true_and, and_true, true_implies, if_true, if_false, ite_true, reduceIte, ne_eq, not_false_eq_true, reduceCtorEq, forall_const, bne_self_eq_false, Bool.true_eq_false, Bool.false_eq_true, false_implies, and_self, implies_true, Int.toNat_zero, beq_self_eq_true, decide_true, decide_false, Bool.not_true, Bool.not_false, ↓y_lookv, y_key1, y_mlook, y_mlookn, y_mres1, y_mres0, ↓y_call, f1, decide_false]
          exact fin_wk hl (wk_agg3 wk_i wk_i (wk_frzF treeD treeD_cells (low_treeD n) (t := 6) rfl rfl (by simp) rfl)) ⟨rfl, rfl, rfl⟩
termination_by t => t

def kidT : Tree → Int → Option Tree
  | .mk r _ ks, i => if r = -1 ∨ i < 0 then none else ks[i.toNat]?

def belowT : Tree → List Int → Option Tree
  | t, [] => some t
  | t, i :: p => (kidT t i).bind fun k => belowT k p

def zeroT : Tree := .mk 0 0 []

def atT (t : Tree) (p : List Int) : Tree × Int := match belowT t p with
  | some s => (s, 0)
  | none => (zeroT, 5)

theorem treeD_zero : treeD zeroT = .agg [.int .i64 0, .int .i64 0, .lst []] := by rw [zeroT, treeD_mk]; rfl

theorem fin_at0 {n : Nat} {sl : List D} {h : Heap} {lc : List Blk} {t : Tree} {p : List Int} (hl : LowH n h) (hn : belowT t p = none) :
    Fin (St.mk n sl h lc) (fun d h' x => h' = h ∧ x = [] ∧ d = .tup [treeD (atT t p).1, .int .i64 (atT t p).2]) [.agg [.int .i64 0, .int .i64 0, .nils], .int .i64 5] :=
  fin_wk hl (wk_tup2 (wk_agg3 wk_i wk_i .nilsLst) wk_i) ⟨rfl, rfl, by rw [atT, hn]; simp only [treeD_zero]⟩

set_option maxHeartbeats 1000000 in
theorem pure_At (t : Tree) (p : List Int) (hf : full t * 40 ≤ 140737488355328) (hp : p.length < 2 ^ 60) : Pure prog F_tree_At [treeD t, iD p] (.tup [treeD (atT t p).1, .int .i64 (atT t p).2]) := by
  intro n h
  obtain ⟨r0, t0, k0, rfl⟩ : ∃ r t' k, t = .mk r t' k := by cases t; exact ⟨_, _, _, rfl⟩
  rw [treeD_mk]
  refine K_tree_At.calls fun hl => ?_
  unfold C_tree_At
  simp -implicitDefEqProofs only [↓symPre, symPost, y_condP, y_condG, run, lver, minD, intsD, eqAll, tupD, splice, Nat.zero_add, Nat.add_zero, Nat.zero_mul, Nat.mul_one, Nat.one_mul, Nat.reduceAdd, Nat.reduceSub, Nat.reduceMul, Nat.reduceLT, Nat.reduceLeDiff, Nat.reduceEqDiff, true_and, and_true, true_implies, if_true, if_false, ite_true, reduceIte, ne_eq, not_false_eq_true, reduceCtorEq, forall_const, bne_self_eq_false, Bool.true_eq_false, Bool.false_eq_true, false_implies, and_self, implies_true, Int.toNat_zero, beq_self_eq_true, decide_true, decide_false, Bool.not_true, Bool.not_false, ↓y_lookv, y_key1, y_mlook, y_mlookn, y_mres1, y_mres0, ↓y_call]
  refine aloop (fun q : Nat × Int × Int × List Tree => St.mk n ([.top, .top, .ptr (n + 2) 1 0, .top, .ptr (n + 4) 1 0, .top, .top, .top, iD p, .int .i64 p.length, .int .i64 q.1] ++ List.replicate 25 .top) h
      ([blk0, blk0, ⟨1, .cells [.int .i64 q.2.1, .int .i64 q.2.2.1, .lst (q.2.2.2.map treeD)]⟩, blk0, ⟨1, .cells [.int .i64 0, .int .i64 0, .nils]⟩] ++ List.replicate 31 blk0)) (fun q => q.1 ≤ p.length ∧ belowT (.mk r0 t0 k0) p = belowT (.mk q.2.1 q.2.2.1 q.2.2.2) (p.drop q.1) ∧ full (.mk q.2.1 q.2.2.1 q.2.2.2) ≤ full (.mk r0 t0 k0)) (fun q => p.length - q.1) (0, r0, t0, k0) ⟨Nat.zero_le _, rfl, Nat.le_refl _⟩ ?_ ?_
  · refine le_to ([.hole, .hole, .old 2, .hole, .old 4] ++ List.replicate 31 .hole) hl rfl ?_ ?_ <;> (try simp only [List.length_map]) <;> ((try simp only [y_blk_end, y_blk_hole, y_blk_nil, y_blk_old, y_wkl_end, y_wkl_top, List.replicate, List.cons_append, List.nil_append, and_true, true_and]) <;> (repeat' (first | apply And.intro | apply y_wkl | refine Exists.intro _ (And.intro rfl ?_))) <;> (try first | exact trivial | exact Wk.top _ | exact wk_int rfl | exact wk_bool rfl | exact wk_ptr rfl rfl rfl rfl | exact wk_ref rfl rfl rfl rfl rfl | exact wk_nil rfl rfl rfl | exact wk_ref rfl rfl rfl rfl (by simp) | exact wk_ref rfl rfl rfl rfl (by simp; omega) | exact wk_old (by assumption) (by simp) | exact wk_eq rfl (by first | exact Bd.int _ _ | exact Bd.bool _ | exact Bd.abool | exact Bd.nils | exact Bd.emp | exact Bd.nilp | exact Bd.nilfn | assumption | exact low_trees _ _ | exact low_treeD _ _ | exact low_ints _ _) | exact Nat.le_refl _ | exact wk_int (by simp) | exact wk_int (by omega) | exact Nat.succ_le_succ (Nat.zero_le _) | exact Nat.le_add_left _ _ | omega))
  · rintro ⟨i, cr, ct, ck⟩ ⟨hi, hb, hfc⟩
    simp only at hi hb hfc
    by_cases hlt : i < p.length
    · have f1 : (i : Int) < (p.length : Int) := by omega
      have f0 : (0 : Int) ≤ (i : Int) := by omega
      have w1 : IntKind.i64.wrap ((i : Int) + 1) = ((i + 1 : Nat) : Int) := by rw [IntWalk.i64_in _ (by omega)]; omega
      have e0 := nth_ints p i hlt
      rw [List.drop_eq_getElem_cons hlt] at hb
      generalize p[i] = x at *
      simp -implicitDefEqProofs only [↓symPre, symPost, y_condP, y_condG, run, lver, minD, intsD, eqAll, tupD, splice, Nat.zero_add, Nat.add_zero, Nat.zero_mul, Nat.mul_one, Nat.one_mul, Nat.reduceAdd, Nat.reduceSub, Nat.reduceMul, Nat.reduceLT, Nat.reduceLeDiff, Nat.reduceEqDiff, true_and, and_true, true_implies, if_true, if_false, ite_true, reduceIte, ne_eq, not_false_eq_true, reduceCtorEq, forall_const, bne_self_eq_false, Bool.true_eq_false, Bool.false_eq_true, false_implies, and_self, implies_true, Int.toNat_zero, beq_self_eq_true, decide_true, decide_false, Bool.not_true, Bool.not_false, ↓y_lookv, y_key1, y_mlook, y_mlookn, y_mres1, y_mres0, ↓y_call, List.length_map, f1, f0, decide_true, Int.toNat_natCast, e0]
      refine (pure_leaf cr ct _).call rfl ?_
      by_cases c1 : cr = -1
      · have b1 : (cr == -1) = true := by simp [c1]
        simp -implicitDefEqProofs only [↓symPre, symPost, y_condP, y_condG, run, lver, minD, intsD, eqAll, tupD, splice, Nat.zero_add, Nat.add_zero, Nat.zero_mul, Nat.mul_one, Nat.one_mul, Nat.reduceAdd, Nat.reduceSub, Nat.reduceMul, Nat.reduceLT, Nat.reduceLeDiff, Nat.reduceEqDiff, true_and, and_true, true_implies, if_true, if_false, ite_true, reduceIte, ne_eq, not_false_eq_true, reduceCtorEq, forall_const, bne_self_eq_false, Bool.true_eq_false, Bool.false_eq_true, false_implies, and_self, implies_true, Int.toNat_zero, beq_self_eq_true, decide_true, decide_false, Bool.not_true, Bool.not_false, ↓y_lookv, y_key1, y_mlook, y_mlookn, y_mres1, y_mres0, ↓y_call, b1]
        exact fin_at0 hl (by rw [hb]; simp [belowT, kidT, c1])
      have b1 : (cr == -1) = false := by simp [c1]
      by_cases c2 : x < 0
      · simp -implicitDefEqProofs only [↓symPre, symPost, y_condP, y_condG, run, lver, minD, intsD, eqAll, tupD, splice, Nat.zero_add, Nat.add_zero, Nat.zero_mul, Nat.mul_one, Nat.one_mul, Nat.reduceAdd, Nat.reduceSub, Nat.reduceMul, Nat.reduceLT, Nat.reduceLeDiff, Nat.reduceEqDiff, true_and, and_true, true_implies, if_true, if_false, ite_true, reduceIte, ne_eq, not_false_eq_true, reduceCtorEq, forall_const, bne_self_eq_false, Bool.true_eq_false, Bool.false_eq_true, false_implies, and_self, implies_true, Int.toNat_zero, beq_self_eq_true, decide_true, decide_false, Bool.not_true, Bool.not_false, ↓y_lookv, y_key1, y_mlook, y_mlookn, y_mres1, y_mres0, ↓y_call, b1, c2]
        exact fin_at0 hl (by rw [hb]; simp [belowT, kidT, c2])
      by_cases c3 : x ≥ (ck.length : Int)
      · simp -implicitDefEqProofs only [↓symPre, symPost, y_condP, y_condG, run, lver, minD, intsD, eqAll, tupD, splice, Nat.zero_add, Nat.add_zero, Nat.zero_mul, Nat.mul_one, Nat.one_mul, Nat.reduceAdd, Nat.reduceSub, Nat.reduceMul, Nat.reduceLT, Nat.reduceLeDiff, Nat.reduceEqDiff, true_and, and_true, true_implies, if_true, if_false, ite_true, reduceIte, ne_eq, not_false_eq_true, reduceCtorEq, forall_const, bne_self_eq_false, Bool.true_eq_false, Bool.false_eq_true, false_implies, and_self, implies_true, Int.toNat_zero, beq_self_eq_true, decide_true, decide_false, Bool.not_true, Bool.not_false, ↓y_lookv, y_key1, y_mlook, y_mlookn, y_mres1, y_mres0, ↓y_call, b1, c2, c3, List.length_map]
        have : ck.length ≤ x.toNat := by omega
        exact fin_at0 hl (by rw [hb]; simp [belowT, kidT, c1, c2, this])
      obtain ⟨q, rfl⟩ : ∃ q : Nat, x = q := ⟨x.toNat, by omega⟩
      have hq : q < ck.length := by omega
      have e1 := nth_map_tree ck q hq
      have hgk := full_kid (List.getElem_mem hq)
      have hkq : ck[q]? = some ck[q] := by simp [hq]
      obtain ⟨ar, at', ak, ea⟩ : ∃ r' t' k', ck[q] = .mk r' t' k' := by cases h : ck[q]; exact ⟨_, _, _, rfl⟩
      rw [ea] at e1 hgk hkq
      rw [treeD_mk] at e1
      rw [full_mk] at hfc
      have g0 : (0 : Int) ≤ (q : Int) := by omega
      have g1 : (q : Int) < (ck.length : Int) := by omega
      simp -implicitDefEqProofs only [↓symPre, symPost, y_condP, y_condG, run, lver, minD, intsD, eqAll, tupD, splice, Nat.zero_add, Nat.add_zero, Nat.zero_mul, Nat.mul_one, Nat.one_mul, Nat.reduceAdd, Nat.reduceSub, Nat.reduceMul, Nat.reduceLT, Nat.reduceLeDiff, Nat.reduceEqDiff, true_and, and_true, true_implies, if_true, if_false, ite_true, reduceIte, ne_eq, not_false_eq_true, reduceCtorEq, forall_const, bne_self_eq_false, Bool.true_eq_false, Bool.false_eq_true, false_implies, and_self, implies_true, Int.toNat_zero, beq_self_eq_true, decide_true, decide_false, Bool.not_true, Bool.not_false, ↓y_lookv, y_key1, y_mlook, y_mlookn, y_mres1, y_mres0, ↓y_call, b1, c2, c3, List.length_map, g0, g1, Int.toNat_natCast, e1, w1]
      refine ⟨(i + 1, ar, at', ak), ⟨by simp only; omega, ?_, by simp only; omega⟩, by simp only; omega, ?_⟩
      · rw [hb]; simp [belowT, kidT, c1, c2, hkq]
      refine le_to ([.hole, .hole, .old 2, .hole, .old 4] ++ List.replicate 31 .hole) hl rfl ?_ ?_ <;> ((try simp only [y_blk_end, y_blk_hole, y_blk_nil, y_blk_old, y_wkl_end, y_wkl_top, List.replicate, List.cons_append, List.nil_append, and_true, true_and]) <;> (repeat' (first | apply And.intro | apply y_wkl | refine Exists.intro _ (And.intro rfl ?_))) <;> (try first | exact trivial | exact Wk.top _ | exact wk_int rfl | exact wk_bool rfl | exact wk_ptr rfl rfl rfl rfl | exact wk_ref rfl rfl rfl rfl rfl | exact wk_nil rfl rfl rfl | exact wk_ref rfl rfl rfl rfl (by simp) | exact wk_ref rfl rfl rfl rfl (by simp; omega) | exact wk_old (by assumption) (by simp) | exact wk_eq rfl (by first | exact Bd.int _ _ | exact Bd.bool _ | exact Bd.abool | exact Bd.nils | exact Bd.emp | exact Bd.nilp | exact Bd.nilfn | assumption | exact low_trees _ _ | exact low_treeD _ _ | exact low_ints _ _) | exact Nat.le_refl _ | exact wk_int (by simp) | exact wk_int (by omega) | exact Nat.succ_le_succ (Nat.zero_le _) | exact Nat.le_add_left _ _ | omega))
    · have f1 : ¬ (i : Int) < (p.length : Int) := by omega
      have hil : i = p.length := by omega
      subst hil
      rw [List.drop_length] at hb
      have hc := pure_CloneTree (.mk cr ct ck) (by omega)
      rw [treeD_mk] at hc
      simp -implicitDefEqProofs only [↓symPre, symPost, y_condP, y_condG, run, lver, minD, intsD, eqAll, tupD, splice, Nat.zero_add, Nat.add_zero, Nat.zero_mul, Nat.mul_one, Nat.one_mul, Nat.reduceAdd, Nat.reduceSub, Nat.reduceMul, Nat.reduceLT, Nat.reduceLeDiff, Nat.reduceEqDiff, true_and, and_true, true_implies, if_true, if_false, ite_true, reduceIte, ne_eq, not_false_eq_true, reduceCtorEq, forall_const, bne_self_eq_false, Bool.true_eq_false, Bool.false_eq_true, false_implies, and_self, implies_true, Int.toNat_zero, beq_self_eq_true, decide_true, decide_false, Bool.not_true, Bool.not_false, ↓y_lookv, y_key1, y_mlook, y_mlookn, y_mres1, y_mres0, ↓y_call, f1, decide_false]
      refine hc.call rfl ?_
      simp -implicitDefEqProofs only [↓symPre, symPost, y_condP, y_condG, run, lver, minD, intsD, eqAll, tupD, splice, Nat.zero_add, Nat.add_zero, Nat.zero_mul, Nat.mul_one, Nat.one_mul, Nat.reduceAdd, Nat.reduceSub, Nat.reduceMul, Nat.reduceLT, Nat.reduceLeDiff, Nat.reduceEqDiff, true_and, and_true, true_implies, if_true, if_false, ite_true, reduceIte, ne_eq, not_false_eq_true, reduceCtorEq, forall_const, bne_self_eq_false, Bool.true_eq_false, Bool.false_eq_true, false_implies, and_self, implies_true, Int.toNat_zero, beq_self_eq_true, decide_true, decide_false, Bool.not_true, Bool.not_false, ↓y_lookv, y_key1, y_mlook, y_mlookn, y_mres1, y_mres0, ↓y_call]
      refine fin_low hl ?_ ⟨rfl, rfl, by rw [atT, hb]; simp only [belowT, treeD_mk]; rfl⟩
      refine .tup _ fun c hc => ?_
      simp only [List.mem_cons, List.not_mem_nil, or_false] at hc
      rcases hc with rfl | rfl
      · rw [← treeD_mk]; exact low_treeD n _
      · exact .int ..

def tchk (g : Gr) (t : Tree) : Int := if gchk g = 0 then (if size t > 5000 then 2 else if validT g t then 0 else 3) else gchk g

theorem pure_TCheck (g : Gr) (t : Tree) (hr : g.rules.length < 2 ^ 60) (hx : ∀ r ∈ g.rules, r.right.length < 2 ^ 60) (hs : size t < 2 ^ 60) (hf : full t < 2 ^ 60) : Pure prog F_tree_Check [gramD g, treeD t] (.int .i64 (tchk g t)) := by
  intro n h
  have pG := pure_gramCheck g hr hx
  have pZ := pure_Size t (by omega)
  have pV := pure_valid g t hf
  obtain ⟨gt, gn, gs, gr, hGD, hGr⟩ : ∃ gt gn gs gr, gramD g = .agg [.int .i64 gt, .int .i64 gn, .int .i64 gs, .lst (gr.map ruleD)] ∧ g.rules = gr := by cases g; exact ⟨_, _, _, _, rfl, rfl⟩
  obtain ⟨r0, t0, k0, ht⟩ : ∃ r t' k, t = .mk r t' k := by cases t; exact ⟨_, _, _, rfl⟩
  have htD : treeD t = .agg [.int .i64 r0, .int .i64 t0, .lst (k0.map treeD)] := by rw [ht, treeD_mk]
  unfold tchk
  simp only [hGD, htD] at pG pZ pV ⊢
  generalize gchk g = e at *
  generalize validT g t = v at *
  refine K_tree_Check.calls fun hl => ?_
  unfold C_tree_Check
  simp -implicitDefEqProofs only [↓symPre, symPost, y_condP, y_condG, run, lver, minD, intsD, eqAll, tupD, splice, Nat.zero_add, Nat.add_zero, Nat.zero_mul, Nat.mul_one, Nat.one_mul, Nat.reduceAdd, Nat.reduceSub, Nat.reduceMul, Nat.reduceLT, Nat.reduceLeDiff, Nat.reduceEqDiff, true_and, and_true, true_implies, if_true, if_false, ite_true, reduceIte, ne_eq, not_false_eq_true, reduceCtorEq, forall_const, bne_self_eq_false, Bool.true_eq_false, Bool.false_eq_true, false_implies, and_self, implies_true, Int.toNat_zero, beq_self_eq_true, decide_true, decide_false, Bool.not_true, Bool.not_false, ↓y_lookv, y_key1, y_mlook, y_mlookn, y_mres1, y_mres0, ↓y_call]
  refine pG.call rfl ?_
  by_cases c1 : e = 0
  rotate_left
  · have b1 : (e != 0) = true := by simp [c1]
    rw [if_neg c1]
    simp -implicitDefEqProofs only [↓symPre, symPost, y_condP, y_condG, run, lver, minD, intsD, eqAll, tupD, splice, Nat.zero_add, Nat.add_zero, Nat.zero_mul, Nat.mul_one, Nat.one_mul, Nat.reduceAdd, Nat.reduceSub, Nat.reduceMul, Nat.reduceLT, Nat.reduceLeDiff, Nat.reduceEqDiff, true_and, and_true, true_implies, if_true, if_false, ite_true, reduceIte, ne_eq, not_false_eq_true, reduceCtorEq, forall_const, bne_self_eq_false, Bool.true_eq_false, Bool.false_eq_true, false_implies, and_self, implies_true, Int.toNat_zero, beq_self_eq_true, decide_true, decide_false, Bool.not_true, Bool.not_false, ↓y_lookv, y_key1, y_mlook, y_mlookn, y_mres1, y_mres0, ↓y_call, b1]
    exact fin_int hl rfl
  have b1 : (e != 0) = false := by simp [c1]
  rw [if_pos c1]
  simp -implicitDefEqProofs only [↓symPre, symPost, y_condP, y_condG, run, lver, minD, intsD, eqAll, tupD, splice, Nat.zero_add, Nat.add_zero, Nat.zero_mul, Nat.mul_one, Nat.one_mul, Nat.reduceAdd, Nat.reduceSub, Nat.reduceMul, Nat.reduceLT, Nat.reduceLeDiff, Nat.reduceEqDiff, true_and, and_true, true_implies, if_true, if_false, ite_true, reduceIte, ne_eq, not_false_eq_true, reduceCtorEq, forall_const, bne_self_eq_false, Bool.true_eq_false, Bool.false_eq_true, false_implies, and_self, implies_true, Int.toNat_zero, beq_self_eq_true, decide_true, decide_false, Bool.not_true, Bool.not_false, ↓y_lookv, y_key1, y_mlook, y_mlookn, y_mres1, y_mres0, ↓y_call, b1]
  refine pZ.call rfl ?_
  by_cases c2 : ((size t : Nat) : Int) > 5000
  · rw [if_pos (by omega)]
    simp -implicitDefEqProofs only [↓symPre, symPost, y_condP, y_condG, run, lver, minD, intsD, eqAll, tupD, splice, Nat.zero_add, Nat.add_zero, Nat.zero_mul, Nat.mul_one, Nat.one_mul, Nat.reduceAdd, Nat.reduceSub, Nat.reduceMul, Nat.reduceLT, Nat.reduceLeDiff, Nat.reduceEqDiff, true_and, and_true, true_implies, if_true, if_false, ite_true, reduceIte, ne_eq, not_false_eq_true, reduceCtorEq, forall_const, bne_self_eq_false, Bool.true_eq_false, Bool.false_eq_true, false_implies, and_self, implies_true, Int.toNat_zero, beq_self_eq_true, decide_true, decide_false, Bool.not_true, Bool.not_false, ↓y_lookv, y_key1, y_mlook, y_mlookn, y_mres1, y_mres0, ↓y_call, c2]
    exact fin_int hl rfl
  rw [if_neg (by omega)]
  simp -implicitDefEqProofs only [↓symPre, symPost, y_condP, y_condG, run, lver, minD, intsD, eqAll, tupD, splice, Nat.zero_add, Nat.add_zero, Nat.zero_mul, Nat.mul_one, Nat.one_mul, Nat.reduceAdd, Nat.reduceSub, Nat.reduceMul, Nat.reduceLT, Nat.reduceLeDiff, Nat.reduceEqDiff, true_and, and_true, true_implies, if_true, if_false, ite_true, reduceIte, ne_eq, not_false_eq_true, reduceCtorEq, forall_const, bne_self_eq_false, Bool.true_eq_false, Bool.false_eq_true, false_implies, and_self, implies_true, Int.toNat_zero, beq_self_eq_true, decide_true, decide_false, Bool.not_true, Bool.not_false, ↓y_lookv, y_key1, y_mlook, y_mlookn, y_mres1, y_mres0, ↓y_call, c2]
  refine pV.call rfl ?_
  cases v with
  | true => simp -implicitDefEqProofs only [↓symPre, symPost, y_condP, y_condG, run, lver, minD, intsD, eqAll, tupD, splice, Nat.zero_add, Nat.add_zero, Nat.zero_mul, Nat.mul_one, Nat.one_mul, Nat.reduceAdd, Nat.reduceSub, Nat.reduceMul, Nat.reduceLT, Nat.reduceLeDiff, Nat.reduceEqDiff, true_and, and_true, true_implies, if_true, if_false, ite_true, reduceIte, ne_eq, not_false_eq_true, reduceCtorEq, forall_const, bne_self_eq_false, Bool.true_eq_false, Bool.false_eq_true, false_implies, and_self, implies_true, Int.toNat_zero, beq_self_eq_true, decide_true, decide_false, Bool.not_true, Bool.not_false, ↓y_lookv, y_key1, y_mlook, y_mlookn, y_mres1, y_mres0, ↓y_call]; exact fin_int hl rfl
  | false => simp -implicitDefEqProofs only [↓symPre, symPost, y_condP, y_condG, run, lver, minD, intsD, eqAll, tupD, splice, Nat.zero_add, Nat.add_zero, Nat.zero_mul, Nat.mul_one, Nat.one_mul, Nat.reduceAdd, Nat.reduceSub, Nat.reduceMul, Nat.reduceLT, Nat.reduceLeDiff, Nat.reduceEqDiff, true_and, and_true, true_implies, if_true, if_false, ite_true, reduceIte, ne_eq, not_false_eq_true, reduceCtorEq, forall_const, bne_self_eq_false, Bool.true_eq_false, Bool.false_eq_true, false_implies, and_self, implies_true, Int.toNat_zero, beq_self_eq_true, decide_true, decide_false, Bool.not_true, Bool.not_false, ↓y_lookv, y_key1, y_mlook, y_mlookn, y_mres1, y_mres0, ↓y_call]; exact fin_int hl rfl

def tsym (g : Gr) (t : Tree) : Sy := if tchk g t = 0 then (symT g t).1 else ⟨false, 0⟩

theorem pure_TSymbol (g : Gr) (t : Tree) (hr : g.rules.length < 2 ^ 60) (hx : ∀ r ∈ g.rules, r.right.length < 2 ^ 60) (hs : size t < 2 ^ 60) (hf : full t < 2 ^ 60) : Pure prog F_tree_Symbol [gramD g, treeD t] (.tup [symD (tsym g t), .int .i64 (tchk g t)]) := by
  intro n h
  have pC := pure_TCheck g t hr hx hs hf
  have pS := pure_symbol g t
  obtain ⟨gt, gn, gs, gr, hGD, hGr⟩ : ∃ gt gn gs gr, gramD g = .agg [.int .i64 gt, .int .i64 gn, .int .i64 gs, .lst (gr.map ruleD)] ∧ g.rules = gr := by cases g; exact ⟨_, _, _, _, rfl, rfl⟩
  obtain ⟨r0, t0, k0, ht⟩ : ∃ r t' k, t = .mk r t' k := by cases t; exact ⟨_, _, _, rfl⟩
  have htD : treeD t = .agg [.int .i64 r0, .int .i64 t0, .lst (k0.map treeD)] := by rw [ht, treeD_mk]
  unfold tsym
  simp only [hGD, htD] at pC pS ⊢
  generalize tchk g t = e at *
  generalize symT g t = s at *
  obtain ⟨⟨sb, sn⟩, ok⟩ := s
  rw [show symD ⟨sb, sn⟩ = .agg [.bool sb, .int .i64 sn] from rfl] at pS
  refine K_tree_Symbol.calls fun hl => ?_
  unfold C_tree_Symbol
  have fin : ∀ {sl : List D} {lc : List Blk} (y : Sy), y = (if e = 0 then (⟨sb, sn⟩ : Sy) else ⟨false, 0⟩) → Fin (St.mk n sl h lc) (fun d h' x => h' = h ∧ x = [] ∧ d = .tup [symD (if e = 0 then (⟨sb, sn⟩ : Sy) else ⟨false, 0⟩), .int .i64 e]) [.agg [.bool y.t, .int .i64 y.n], .int .i64 e] := fun {sl lc} y hy => by
    rw [← hy]
    refine fin_low hl (.tup _ fun c hc => ?_) ⟨rfl, rfl, rfl⟩
    simp only [List.mem_cons, List.not_mem_nil, or_false] at hc
    rcases hc with rfl | rfl
    · exact low_symD n y
    · exact .int ..
  simp -implicitDefEqProofs only [↓symPre, symPost, y_condP, y_condG, run, lver, minD, intsD, eqAll, tupD, splice, Nat.zero_add, Nat.add_zero, Nat.zero_mul, Nat.mul_one, Nat.one_mul, Nat.reduceAdd, Nat.reduceSub, Nat.reduceMul, Nat.reduceLT, Nat.reduceLeDiff, Nat.reduceEqDiff, true_and, and_true, true_implies, if_true, if_false, ite_true, reduceIte, ne_eq, not_false_eq_true, reduceCtorEq, forall_const, bne_self_eq_false, Bool.true_eq_false, Bool.false_eq_true, false_implies, and_self, implies_true, Int.toNat_zero, beq_self_eq_true, decide_true, decide_false, Bool.not_true, Bool.not_false, ↓y_lookv, y_key1, y_mlook, y_mlookn, y_mres1, y_mres0, ↓y_call]
  refine pC.call rfl ?_
  by_cases c1 : e = 0
  · have b1 : (e != 0) = false := by simp [c1]
    simp -implicitDefEqProofs only [↓symPre, symPost, y_condP, y_condG, run, lver, minD, intsD, eqAll, tupD, splice, Nat.zero_add, Nat.add_zero, Nat.zero_mul, Nat.mul_one, Nat.one_mul, Nat.reduceAdd, Nat.reduceSub, Nat.reduceMul, Nat.reduceLT, Nat.reduceLeDiff, Nat.reduceEqDiff, true_and, and_true, true_implies, if_true, if_false, ite_true, reduceIte, ne_eq, not_false_eq_true, reduceCtorEq, forall_const, bne_self_eq_false, Bool.true_eq_false, Bool.false_eq_true, false_implies, and_self, implies_true, Int.toNat_zero, beq_self_eq_true, decide_true, decide_false, Bool.not_true, Bool.not_false, ↓y_lookv, y_key1, y_mlook, y_mlookn, y_mres1, y_mres0, ↓y_call, b1]
    refine pS.call rfl ?_
    simp -implicitDefEqProofs only [↓symPre, symPost, y_condP, y_condG, run, lver, minD, intsD, eqAll, tupD, splice, Nat.zero_add, Nat.add_zero, Nat.zero_mul, Nat.mul_one, Nat.one_mul, Nat.reduceAdd, Nat.reduceSub, Nat.reduceMul, Nat.reduceLT, Nat.reduceLeDiff, Nat.reduceEqDiff, true_and, and_true, true_implies, if_true, if_false, ite_true, reduceIte, ne_eq, not_false_eq_true, reduceCtorEq, forall_const, bne_self_eq_false, Bool.true_eq_false, Bool.false_eq_true, false_implies, and_self, implies_true, Int.toNat_zero, beq_self_eq_true, decide_true, decide_false, Bool.not_true, Bool.not_false, ↓y_lookv, y_key1, y_mlook, y_mlookn, y_mres1, y_mres0, ↓y_call]
    have := @fin
    rw [c1] at this ⊢
    exact this ⟨sb, sn⟩ (by simp)
  · have b1 : (e != 0) = true := by simp [c1]
    simp -implicitDefEqProofs only [↓symPre, symPost, y_condP, y_condG, run, lver, minD, intsD, eqAll, tupD, splice, Nat.zero_add, Nat.add_zero, Nat.zero_mul, Nat.mul_one, Nat.one_mul, Nat.reduceAdd, Nat.reduceSub, Nat.reduceMul, Nat.reduceLT, Nat.reduceLeDiff, Nat.reduceEqDiff, true_and, and_true, true_implies, if_true, if_false, ite_true, reduceIte, ne_eq, not_false_eq_true, reduceCtorEq, forall_const, bne_self_eq_false, Bool.true_eq_false, Bool.false_eq_true, false_implies, and_self, implies_true, Int.toNat_zero, beq_self_eq_true, decide_true, decide_false, Bool.not_true, Bool.not_false, ↓y_lookv, y_key1, y_mlook, y_mlookn, y_mres1, y_mres0, ↓y_call, b1]
    exact fin ⟨false, 0⟩ (by rw [if_neg c1])

end Abs
end Go.Proofs.Ytokdeeagghhliaa


/- A reader asked; occurrences; a copy of occurrences; attributes. -/
import Derived.Test.YtoeehfnkcfeoaaaN2
namespace Go.Proofs.Ytoeehfnkcfeoaaa
namespace Abs
set_option linter.unusedVariables false
set_option linter.unusedSimpArgs false
set_option maxRecDepth 20000

theorem rnext_callO {l : List Int} {k : Int} {s : St} {N : Nat} {H : Heap} {dst : Option Nat} {K : D → Chg → Prop} {b ver : Nat} (hk : k < 2 ^ 62) (hlen : l.length < 2 ^ 60)
    (hN : N = s.n + s.lc.length) (hH : H = s.hp) (hb : b < N) (ht : H b = ⟨ver, .cells [iD l]⟩)
    (hK : ∀ (v : Int) (l' : List Int), 0 ≤ v → (0 < k → v < k) → l'.length ≤ l.length → K (.int .i64 v) [(b, ⟨ver, .cells [iD l']⟩)]) :
    ACalls prog F_parlkeep4_reader_next [.ptr b ver 0, .int .i64 k] N H (callK s dst K) := by
  have hr := nextV_range l k
  subst hN
  subst hH
  refine (at_next l k hk hlen hb ht).mono fun d h' x' ⟨h1, h2, h3⟩ => .inl ⟨[(b, ⟨ver, .cells [iD (nextL l k)]⟩)], by simp [St.inr]; omega, h1, by rw [h2]; rfl, by
    rw [h3]; refine hK _ _ hr.1 (fun h => by omega) ?_
    unfold nextL
    split
    · simp
    · split <;> simp⟩

def pairD (p : Int × Int) : D := .agg [.int .i64 p.1, .int .i64 p.2]
theorem pairD_cells (p : Int × Int) : (pairD p).cells.length = 2 := rfl
theorem low_pairD (n : Nat) (p : Int × Int) : Low n (pairD p) := .agg _ fun c hc => by
  simp only [List.mem_cons, List.not_mem_nil, or_false] at hc
  rcases hc with rfl | rfl <;> exact .int ..
theorem low_pairs (n : Nat) (l : List (Int × Int)) : Low n (.lst (l.map pairD)) := low_lstF pairD (low_pairD n) l
theorem pair_one_cells (a b : Int) (L : List (Int × Int)) : cellsF pairD (L ++ [(a, b)]) = cellsF pairD L ++ [.int .i64 a, .int .i64 b] := by rw [cellsF_app, cellsF_one]; rfl
theorem at_one_cells (a : Int) (b : Bool) (L : List At) : cellsF atD (L ++ [⟨a, b⟩]) = cellsF atD L ++ [.int .i64 a, .bool b] := by rw [cellsF_app, cellsF_one]; rfl

/-! ### occurrences -/
theorem occ_fin {n : Nat} {sl : List D} {h : Heap} {lc : List Blk} (hl : LowH n h) {m : Nat} : Fin (St.mk n sl h lc) (fun d h' x => h' = h ∧ x = [] ∧ ∃ A : List (Int × Int), A.length ≤ m ∧ d = .lst (A.map pairD)) [.nils] :=
  fin_wk (d := .lst []) hl .nilsLst ⟨rfl, rfl, [], Nat.zero_le _, rfl⟩

set_option maxHeartbeats 4000000 in
theorem at_occurrences (g : Gr) (As : List At) (X : D) (rule k : Nat) (inh : Bool) (hr : rule < g.rules.length) (hk : k ≤ (g.rules.getD rule ru0).right.length) (hx : (g.rules.getD rule ru0).right.length < 2 ^ 30) (hA : As.length < 2 ^ 30) (n : Nat) (h : Heap) :
    ACalls prog F_parlkeep4_occurrences [gramD g, .agg [.lst (As.map atD), X], .int .i64 rule, .int .i64 k, .bool inh] n h fun d h' x => h' = h ∧ x = [] ∧ ∃ A : List (Int × Int), A.length ≤ As.length ∧ d = .lst (A.map pairD) := by
  refine K_parlkeep4_occurrences.calls fun hl => ?_
  have e0 := nth_rule g rule hr
  have h0 : (0 : Int) ≤ (rule : Int) := by omega
  have h1 : (rule : Int) < (g.rules.length : Int) := by omega
  have hlr := low_rules n g.rules
  have hla := low_ats n As
  generalize g.rules.getD rule ru0 = R at *
  have hls := low_syms n R.right
  unfold C_parlkeep4_occurrences gramD
  by_cases hk0 : k = 0
  · subst hk0
    have n0 : ¬ ((0 : Nat) : Int) > 0 := by omega
    simp -implicitDefEqProofs only [↓symPre, symPost, y_condP, y_condG, run, lver, minD, intsD, eqAll, tupD, splice, Nat.zero_add, Nat.add_zero, Nat.zero_mul, Nat.mul_one, Nat.one_mul, Nat.reduceAdd, Nat.reduceSub, Nat.reduceMul, Nat.reduceLT, Nat.reduceLeDiff, Nat.reduceEqDiff, true_and, and_true, true_implies, if_true, if_false, ite_true, reduceIte, ne_eq, not_false_eq_true, reduceCtorEq, forall_const, bne_self_eq_false, Bool.true_eq_false, Bool.false_eq_true, false_implies, and_self, implies_true, Int.toNat_zero, beq_self_eq_true, decide_true, decide_false, Bool.not_true, Bool.not_false, ↓y_lookv, y_key1, y_mlook, y_mlookn, y_mres1, y_mres0, ↓y_call, h0, h1, e0, List.length_map, Int.toNat_natCast, n0, decide_false]
    refine aloop (fun q : Nat × List (Int × Int) × Nat => St.mk n ([.top, .top, .top, .int .i64 (0 : Nat), .bool inh, .top, .ptr (n + 6) 1 0, .top, .top, .top, .top, .int .i64 R.left, .top, .ref 2 (n + 61) q.2.2 0 q.2.1.length] ++ List.replicate 25 .top ++ [.lst (As.map atD), .int .i64 As.length, .int .i64 q.1] ++ List.replicate 22 .top) h
        (List.replicate 6 blk0 ++ [⟨1, .cells [.lst (As.map atD), .top]⟩] ++ List.replicate 54 blk0 ++ [⟨q.2.2, .cells (cellsF pairD q.2.1)⟩] ++ List.replicate 2 blk0))
      (fun q => q.1 ≤ As.length ∧ q.2.1.length ≤ q.1 ∧ 1 ≤ q.2.2) (fun q => As.length - q.1) (0, [], 1) ⟨Nat.zero_le _, Nat.le_refl _, Nat.le_refl _⟩ ?_ ?_
    · refine le_to (List.replicate 6 .hole ++ [.old 6] ++ List.replicate 54 .hole ++ [.nil] ++ List.replicate 2 .hole) hl rfl ?_ ?_ <;> simp only [cellsF_nil] <;> ((try simp only [y_blk_end, y_blk_hole, y_blk_nil, y_blk_old, y_wkl_end, y_wkl_top, List.replicate, List.cons_append, List.nil_append, and_true, true_and]) <;> (repeat' (first | apply And.intro | apply y_wkl | refine Exists.intro _ (And.intro rfl ?_))) <;> (try first | exact trivial | exact Wk.top _ | exact wk_int rfl | exact wk_bool rfl | exact wk_ptr rfl rfl rfl rfl | exact wk_ref rfl rfl rfl rfl rfl | exact wk_nil rfl rfl rfl | exact wk_ref rfl rfl rfl rfl (by simp) | exact wk_ref rfl rfl rfl rfl (by simp; omega) | exact wk_old (by assumption) (by simp) | exact wk_eq rfl (by first | exact Bd.int _ _ | exact Bd.bool _ | exact Bd.abool | exact Bd.nils | exact Bd.emp | exact Bd.nilp | exact Bd.nilfn | assumption | exact low_trees _ _ | exact low_treeD _ _ | exact low_ints _ _) | exact Nat.le_refl _ | exact wk_int (by simp) | exact wk_int (by omega) | exact Nat.succ_le_succ (Nat.zero_le _) | exact Nat.le_add_left _ _ | omega))
    · rintro ⟨i, A, u⟩ ⟨hi, hAi, hu⟩
      simp only at hi hAi hu
      have hAl : (cellsF pairD A).length = A.length * 2 := cellsF_len pairD pairD_cells A
      have hAt := take_all (cellsF pairD A) (k := A.length * 2) (by rw [hAl])
      have hAf : A.length * 2 ≤ (cellsF pairD A).length := by omega
      have hf : (A.length + 1) * 16 ≤ 140737488355328 := by omega
      by_cases hlt : i < As.length
      · have f1 : (i : Int) < (As.length : Int) := by omega
        have f0 : (0 : Int) ≤ (i : Int) := by omega
        have w1 : IntKind.i64.wrap ((i : Int) + 1) = ((i + 1 : Nat) : Int) := by rw [IntWalk.i64_in _ (by omega)]; omega
        have e1 := nth_at As i hlt
        generalize As.getD i at0 = a at *
        obtain ⟨an, ai⟩ := a
        simp only at e1
        by_cases c1 : an = R.left
        · have b1 : (an == R.left) = true := by simp [c1]
          by_cases c2 : ai = inh
          · have b2 : (ai == inh) = true := by simp [c2]
            simp -implicitDefEqProofs only [↓symPre, symPost, y_condP, y_condG, run, lver, minD, intsD, eqAll, tupD, splice, Nat.zero_add, Nat.add_zero, Nat.zero_mul, Nat.mul_one, Nat.one_mul, Nat.reduceAdd, Nat.reduceSub, Nat.reduceMul, Nat.reduceLT, Nat.reduceLeDiff, Nat.reduceEqDiff, true_and, and_true, true_implies, if_true, if_false, ite_true, reduceIte, ne_eq, not_false_eq_true, reduceCtorEq, forall_const, bne_self_eq_false, Bool.true_eq_false, Bool.false_eq_true, false_implies, and_self, implies_true, Int.toNat_zero, beq_self_eq_true, decide_true, decide_false, Bool.not_true, Bool.not_false, ↓y_lookv, y_key1, y_mlook, y_mlookn, y_mres1, y_mres0, ↓y_call, f1, f0, decide_true, List.length_map, Int.toNat_natCast, e1, b1, b2, Bool.bne_false, w1, srcOf, Nat.le_refl, hf, hAt, hAf]
            refine ⟨(i + 1, A ++ [(((0 : Nat) : Int), (i : Int))], u + 1), ⟨by simp only; omega, by simp; omega, by simp only; omega⟩, by simp only; omega, ?_⟩
            simp only [pair_one_cells]
            refine le_to (List.replicate 6 .hole ++ [.old 6] ++ List.replicate 54 .hole ++ [.old 61] ++ List.replicate 2 .hole) hl rfl ?_ ?_ <;> ((try simp only [y_blk_end, y_blk_hole, y_blk_nil, y_blk_old, y_wkl_end, y_wkl_top, List.replicate, List.cons_append, List.nil_append, and_true, true_and]) <;> (repeat' (first | apply And.intro | apply y_wkl | refine Exists.intro _ (And.intro rfl ?_))) <;> (try first | exact trivial | exact Wk.top _ | exact wk_int rfl | exact wk_bool rfl | exact wk_ptr rfl rfl rfl rfl | exact wk_ref rfl rfl rfl rfl rfl | exact wk_nil rfl rfl rfl | exact wk_ref rfl rfl rfl rfl (by simp) | exact wk_ref rfl rfl rfl rfl (by simp; omega) | exact wk_old (by assumption) (by simp) | exact wk_eq rfl (by first | exact Bd.int _ _ | exact Bd.bool _ | exact Bd.abool | exact Bd.nils | exact Bd.emp | exact Bd.nilp | exact Bd.nilfn | assumption | exact low_trees _ _ | exact low_treeD _ _ | exact low_ints _ _) | exact Nat.le_refl _ | exact wk_int (by simp) | exact wk_int (by omega) | exact Nat.succ_le_succ (Nat.zero_le _) | exact Nat.le_add_left _ _ | omega))
            all_goals exact WkL.app (WkL.low (low_cellsF pairD (low_pairD n) A)) (y_wkl (wk_int rfl) (y_wkl (wk_int rfl) trivial))
          · have b2 : (ai == inh) = false := by simp [c2]
            simp -implicitDefEqProofs only [↓symPre, symPost, y_condP, y_condG, run, lver, minD, intsD, eqAll, tupD, splice, Nat.zero_add, Nat.add_zero, Nat.zero_mul, Nat.mul_one, Nat.one_mul, Nat.reduceAdd, Nat.reduceSub, Nat.reduceMul, Nat.reduceLT, Nat.reduceLeDiff, Nat.reduceEqDiff, true_and, and_true, true_implies, if_true, if_false, ite_true, reduceIte, ne_eq, not_false_eq_true, reduceCtorEq, forall_const, bne_self_eq_false, Bool.true_eq_false, Bool.false_eq_true, false_implies, and_self, implies_true, Int.toNat_zero, beq_self_eq_true, decide_true, decide_false, Bool.not_true, Bool.not_false, ↓y_lookv, y_key1, y_mlook, y_mlookn, y_mres1, y_mres0, ↓y_call, f1, f0, decide_true, List.length_map, Int.toNat_natCast, e1, b1, b2, Bool.bne_false, w1]
            refine ⟨(i + 1, A, u), ⟨by simp only; omega, by simp only; omega, hu⟩, by simp only; omega, ?_⟩
            refine le_to (List.replicate 6 .hole ++ [.old 6] ++ List.replicate 54 .hole ++ [.old 61] ++ List.replicate 2 .hole) hl rfl ?_ ?_ <;> ((try simp only [y_blk_end, y_blk_hole, y_blk_nil, y_blk_old, y_wkl_end, y_wkl_top, List.replicate, List.cons_append, List.nil_append, and_true, true_and]) <;> (repeat' (first | apply And.intro | apply y_wkl | refine Exists.intro _ (And.intro rfl ?_))) <;> (try first | exact trivial | exact Wk.top _ | exact wk_int rfl | exact wk_bool rfl | exact wk_ptr rfl rfl rfl rfl | exact wk_ref rfl rfl rfl rfl rfl | exact wk_nil rfl rfl rfl | exact wk_ref rfl rfl rfl rfl (by simp) | exact wk_ref rfl rfl rfl rfl (by simp; omega) | exact wk_old (by assumption) (by simp) | exact wk_eq rfl (by first | exact Bd.int _ _ | exact Bd.bool _ | exact Bd.abool | exact Bd.nils | exact Bd.emp | exact Bd.nilp | exact Bd.nilfn | assumption | exact low_trees _ _ | exact low_treeD _ _ | exact low_ints _ _) | exact Nat.le_refl _ | exact wk_int (by simp) | exact wk_int (by omega) | exact Nat.succ_le_succ (Nat.zero_le _) | exact Nat.le_add_left _ _ | omega))
            all_goals exact WkL.low (low_cellsF pairD (low_pairD n) A)
        · have b1 : (an == R.left) = false := by simp [c1]
          simp -implicitDefEqProofs only [↓symPre, symPost, y_condP, y_condG, run, lver, minD, intsD, eqAll, tupD, splice, Nat.zero_add, Nat.add_zero, Nat.zero_mul, Nat.mul_one, Nat.one_mul, Nat.reduceAdd, Nat.reduceSub, Nat.reduceMul, Nat.reduceLT, Nat.reduceLeDiff, Nat.reduceEqDiff, true_and, and_true, true_implies, if_true, if_false, ite_true, reduceIte, ne_eq, not_false_eq_true, reduceCtorEq, forall_const, bne_self_eq_false, Bool.true_eq_false, Bool.false_eq_true, false_implies, and_self, implies_true, Int.toNat_zero, beq_self_eq_true, decide_true, decide_false, Bool.not_true, Bool.not_false, ↓y_lookv, y_key1, y_mlook, y_mlookn, y_mres1, y_mres0, ↓y_call, f1, f0, decide_true, List.length_map, Int.toNat_natCast, e1, b1, w1]
          refine ⟨(i + 1, A, u), ⟨by simp only; omega, by simp only; omega, hu⟩, by simp only; omega, ?_⟩
          refine le_to (List.replicate 6 .hole ++ [.old 6] ++ List.replicate 54 .hole ++ [.old 61] ++ List.replicate 2 .hole) hl rfl ?_ ?_ <;> ((try simp only [y_blk_end, y_blk_hole, y_blk_nil, y_blk_old, y_wkl_end, y_wkl_top, List.replicate, List.cons_append, List.nil_append, and_true, true_and]) <;> (repeat' (first | apply And.intro | apply y_wkl | refine Exists.intro _ (And.intro rfl ?_))) <;> (try first | exact trivial | exact Wk.top _ | exact wk_int rfl | exact wk_bool rfl | exact wk_ptr rfl rfl rfl rfl | exact wk_ref rfl rfl rfl rfl rfl | exact wk_nil rfl rfl rfl | exact wk_ref rfl rfl rfl rfl (by simp) | exact wk_ref rfl rfl rfl rfl (by simp; omega) | exact wk_old (by assumption) (by simp) | exact wk_eq rfl (by first | exact Bd.int _ _ | exact Bd.bool _ | exact Bd.abool | exact Bd.nils | exact Bd.emp | exact Bd.nilp | exact Bd.nilfn | assumption | exact low_trees _ _ | exact low_treeD _ _ | exact low_ints _ _) | exact Nat.le_refl _ | exact wk_int (by simp) | exact wk_int (by omega) | exact Nat.succ_le_succ (Nat.zero_le _) | exact Nat.le_add_left _ _ | omega))
          all_goals exact WkL.low (low_cellsF pairD (low_pairD n) A)
      · have f1 : ¬ (i : Int) < (As.length : Int) := by omega
        simp -implicitDefEqProofs only [↓symPre, symPost, y_condP, y_condG, run, lver, minD, intsD, eqAll, tupD, splice, Nat.zero_add, Nat.add_zero, Nat.zero_mul, Nat.mul_one, Nat.one_mul, Nat.reduceAdd, Nat.reduceSub, Nat.reduceMul, Nat.reduceLT, Nat.reduceLeDiff, Nat.reduceEqDiff, true_and, and_true, true_implies, if_true, if_false, ite_true, reduceIte, ne_eq, not_false_eq_true, reduceCtorEq, forall_const, bne_self_eq_false, Bool.true_eq_false, Bool.false_eq_true, false_implies, and_self, implies_true, Int.toNat_zero, beq_self_eq_true, decide_true, decide_false, Bool.not_true, Bool.not_false, ↓y_lookv, y_key1, y_mlook, y_mlookn, y_mres1, y_mres0, ↓y_call, f1, decide_false]
        exact fin_wk hl (wk_frzF pairD pairD_cells (low_pairD n) (t := 61) rfl rfl (by simp) rfl) ⟨rfl, rfl, A, by omega, rfl⟩
  · have n0 : (k : Int) > 0 := by omega
    obtain ⟨j, hj⟩ : ∃ j : Nat, (k : Int) - 1 = j := ⟨k - 1, by omega⟩
    have w2 : IntKind.i64.wrap ((k : Int) - 1) = (j : Int) := by rw [IntWalk.i64_in _ (by omega), hj]
    have j0 : (0 : Int) ≤ (j : Int) := by omega
    have j1 : (j : Int) < (R.right.length : Int) := by omega
    have e2 := nth_sym R.right j (by omega)
    generalize R.right.getD j ⟨false, 0⟩ = y at *
    obtain ⟨yt, yn⟩ := y
    simp only at e2
    cases yt with
    | true =>
      simp -implicitDefEqProofs only [↓symPre, symPost, y_condP, y_condG, run, lver, minD, intsD, eqAll, tupD, splice, Nat.zero_add, Nat.add_zero, Nat.zero_mul, Nat.mul_one, Nat.one_mul, Nat.reduceAdd, Nat.reduceSub, Nat.reduceMul, Nat.reduceLT, Nat.reduceLeDiff, Nat.reduceEqDiff, true_and, and_true, true_implies, if_true, if_false, ite_true, reduceIte, ne_eq, not_false_eq_true, reduceCtorEq, forall_const, bne_self_eq_false, Bool.true_eq_false, Bool.false_eq_true, false_implies, and_self, implies_true, Int.toNat_zero, beq_self_eq_true, decide_true, decide_false, Bool.not_true, Bool.not_false, ↓y_lookv, y_key1, y_mlook, y_mlookn, y_mres1, y_mres0, ↓y_call, h0, h1, e0, List.length_map, Int.toNat_natCast, n0, decide_true, w2, j0, j1, e2]
      exact occ_fin hl
    | false =>
    simp -implicitDefEqProofs only [↓symPre, symPost, y_condP, y_condG, run, lver, minD, intsD, eqAll, tupD, splice, Nat.zero_add, Nat.add_zero, Nat.zero_mul, Nat.mul_one, Nat.one_mul, Nat.reduceAdd, Nat.reduceSub, Nat.reduceMul, Nat.reduceLT, Nat.reduceLeDiff, Nat.reduceEqDiff, true_and, and_true, true_implies, if_true, if_false, ite_true, reduceIte, ne_eq, not_false_eq_true, reduceCtorEq, forall_const, bne_self_eq_false, Bool.true_eq_false, Bool.false_eq_true, false_implies, and_self, implies_true, Int.toNat_zero, beq_self_eq_true, decide_true, decide_false, Bool.not_true, Bool.not_false, ↓y_lookv, y_key1, y_mlook, y_mlookn, y_mres1, y_mres0, ↓y_call, h0, h1, e0, List.length_map, Int.toNat_natCast, n0, decide_true, w2, j0, j1, e2]
    refine aloop (fun q : Nat × List (Int × Int) × Nat => St.mk n ([.top, .top, .top, .int .i64 k, .bool inh, .top, .ptr (n + 6) 1 0, .top, .top, .top, .top, .int .i64 yn, .top, .ref 2 (n + 61) q.2.2 0 q.2.1.length] ++ List.replicate 25 .top ++ [.lst (As.map atD), .int .i64 As.length, .int .i64 q.1] ++ List.replicate 22 .top) h
        (List.replicate 6 blk0 ++ [⟨1, .cells [.lst (As.map atD), .top]⟩] ++ List.replicate 54 blk0 ++ [⟨q.2.2, .cells (cellsF pairD q.2.1)⟩] ++ List.replicate 2 blk0))
      (fun q => q.1 ≤ As.length ∧ q.2.1.length ≤ q.1 ∧ 1 ≤ q.2.2) (fun q => As.length - q.1) (0, [], 1) ⟨Nat.zero_le _, Nat.le_refl _, Nat.le_refl _⟩ ?_ ?_
    · refine le_to (List.replicate 6 .hole ++ [.old 6] ++ List.replicate 54 .hole ++ [.nil] ++ List.replicate 2 .hole) hl rfl ?_ ?_ <;> simp only [cellsF_nil] <;> ((try simp only [y_blk_end, y_blk_hole, y_blk_nil, y_blk_old, y_wkl_end, y_wkl_top, List.replicate, List.cons_append, List.nil_append, and_true, true_and]) <;> (repeat' (first | apply And.intro | apply y_wkl | refine Exists.intro _ (And.intro rfl ?_))) <;> (try first | exact trivial | exact Wk.top _ | exact wk_int rfl | exact wk_bool rfl | exact wk_ptr rfl rfl rfl rfl | exact wk_ref rfl rfl rfl rfl rfl | exact wk_nil rfl rfl rfl | exact wk_ref rfl rfl rfl rfl (by simp) | exact wk_ref rfl rfl rfl rfl (by simp; omega) | exact wk_old (by assumption) (by simp) | exact wk_eq rfl (by first | exact Bd.int _ _ | exact Bd.bool _ | exact Bd.abool | exact Bd.nils | exact Bd.emp | exact Bd.nilp | exact Bd.nilfn | assumption | exact low_trees _ _ | exact low_treeD _ _ | exact low_ints _ _) | exact Nat.le_refl _ | exact wk_int (by simp) | exact wk_int (by omega) | exact Nat.succ_le_succ (Nat.zero_le _) | exact Nat.le_add_left _ _ | omega))
    · rintro ⟨i, A, u⟩ ⟨hi, hAi, hu⟩
      simp only at hi hAi hu
      have hAl : (cellsF pairD A).length = A.length * 2 := cellsF_len pairD pairD_cells A
      have hAt := take_all (cellsF pairD A) (k := A.length * 2) (by rw [hAl])
      have hAf : A.length * 2 ≤ (cellsF pairD A).length := by omega
      have hf : (A.length + 1) * 16 ≤ 140737488355328 := by omega
      by_cases hlt : i < As.length
      · have f1 : (i : Int) < (As.length : Int) := by omega
        have f0 : (0 : Int) ≤ (i : Int) := by omega
        have w1 : IntKind.i64.wrap ((i : Int) + 1) = ((i + 1 : Nat) : Int) := by rw [IntWalk.i64_in _ (by omega)]; omega
        have e1 := nth_at As i hlt
        generalize As.getD i at0 = a at *
        obtain ⟨an, ai⟩ := a
        simp only at e1
        by_cases c1 : an = yn
        · have b1 : (an == yn) = true := by simp [c1]
          by_cases c2 : ai = inh
          · have b2 : (ai == inh) = true := by simp [c2]
            simp -implicitDefEqProofs only [↓symPre, symPost, y_condP, y_condG, run, lver, minD, intsD, eqAll, tupD, splice, Nat.zero_add, Nat.add_zero, Nat.zero_mul, Nat.mul_one, Nat.one_mul, Nat.reduceAdd, Nat.reduceSub, Nat.reduceMul, Nat.reduceLT, Nat.reduceLeDiff, Nat.reduceEqDiff, true_and, and_true, true_implies, if_true, if_false, ite_true, reduceIte, ne_eq, not_false_eq_true, reduceCtorEq, forall_const, bne_self_eq_false, Bool.true_eq_false, Bool.false_eq_true, false_implies, and_self, implies_true, Int.toNat_zero, beq_self_eq_true, decide_true, decide_false, Bool.not_true, Bool.not_false, ↓y_lookv, y_key1, y_mlook, y_mlookn, y_mres1, y_mres0, ↓y_call, f1, f0, decide_true, List.length_map, Int.toNat_natCast, e1, b1, b2, Bool.bne_false, w1, srcOf, Nat.le_refl, hf, hAt, hAf]
            refine ⟨(i + 1, A ++ [((k : Int), (i : Int))], u + 1), ⟨by simp only; omega, by simp; omega, by simp only; omega⟩, by simp only; omega, ?_⟩
            simp only [pair_one_cells]
            refine le_to (List.replicate 6 .hole ++ [.old 6] ++ List.replicate 54 .hole ++ [.old 61] ++ List.replicate 2 .hole) hl rfl ?_ ?_ <;> ((try simp only [y_blk_end, y_blk_hole, y_blk_nil, y_blk_old, y_wkl_end, y_wkl_top, List.replicate, List.cons_append, List.nil_append, and_true, true_and]) <;> (repeat' (first | apply And.intro | apply y_wkl | refine Exists.intro _ (And.intro rfl ?_))) <;> (try first | exact trivial | exact Wk.top _ | exact wk_int rfl | exact wk_bool rfl | exact wk_ptr rfl rfl rfl rfl | exact wk_ref rfl rfl rfl rfl rfl | exact wk_nil rfl rfl rfl | exact wk_ref rfl rfl rfl rfl (by simp) | exact wk_ref rfl rfl rfl rfl (by simp; omega) | exact wk_old (by assumption) (by simp) | exact wk_eq rfl (by first | exact Bd.int _ _ | exact Bd.bool _ | exact Bd.abool | exact Bd.nils | exact Bd.emp | exact Bd.nilp | exact Bd.nilfn | assumption | exact low_trees _ _ | exact low_treeD _ _ | exact low_ints _ _) | exact Nat.le_refl _ | exact wk_int (by simp) | exact wk_int (by omega) | exact Nat.succ_le_succ (Nat.zero_le _) | exact Nat.le_add_left _ _ | omega))
            all_goals exact WkL.app (WkL.low (low_cellsF pairD (low_pairD n) A)) (y_wkl (wk_int rfl) (y_wkl (wk_int rfl) trivial))
          · have b2 : (ai == inh) = false := by simp [c2]
            simp -implicitDefEqProofs only [↓symPre, symPost, y_condP, y_condG, run, lver, minD, intsD, eqAll, tupD, splice, Nat.zero_add, Nat.add_zero, Nat.zero_mul, Nat.mul_one, Nat.one_mul, Nat.reduceAdd, Nat.reduceSub, Nat.reduceMul, Nat.reduceLT, Nat.reduceLeDiff, Nat.reduceEqDiff, true_and, and_true, true_implies, if_true, if_false, ite_true, reduceIte, ne_eq, not_false_eq_true, reduceCtorEq, forall_const, bne_self_eq_false, Bool.true_eq_false, Bool.false_eq_true, false_implies, and_self, implies_true, Int.toNat_zero, beq_self_eq_true, decide_true, decide_false, Bool.not_true, Bool.not_false, ↓y_lookv, y_key1, y_mlook, y_mlookn, y_mres1, y_mres0, ↓y_call, f1, f0, decide_true, List.length_map, Int.toNat_natCast, e1, b1, b2, Bool.bne_false, w1]
            refine ⟨(i + 1, A, u), ⟨by simp only; omega, by simp only; omega, hu⟩, by simp only; omega, ?_⟩
            refine le_to (List.replicate 6 .hole ++ [.old 6] ++ List.replicate 54 .hole ++ [.old 61] ++ List.replicate 2 .hole) hl rfl ?_ ?_ <;> ((try simp only [y_blk_end, y_blk_hole, y_blk_nil, y_blk_old, y_wkl_end, y_wkl_top, List.replicate, List.cons_append, List.nil_append, and_true, true_and]) <;> (repeat' (first | apply And.intro | apply y_wkl | refine Exists.intro _ (And.intro rfl ?_))) <;> (try first | exact trivial | exact Wk.top _ | exact wk_int rfl | exact wk_bool rfl | exact wk_ptr rfl rfl rfl rfl | exact wk_ref rfl rfl rfl rfl rfl | exact wk_nil rfl rfl rfl | exact wk_ref rfl rfl rfl rfl (by simp) | exact wk_ref rfl rfl rfl rfl (by simp; omega) | exact wk_old (by assumption) (by simp) | exact wk_eq rfl (by first | exact Bd.int _ _ | exact Bd.bool _ | exact Bd.abool | exact Bd.nils | exact Bd.emp | exact Bd.nilp | exact Bd.nilfn | assumption | exact low_trees _ _ | exact low_treeD _ _ | exact low_ints _ _) | exact Nat.le_refl _ | exact wk_int (by simp) | exact wk_int (by omega) | exact Nat.succ_le_succ (Nat.zero_le _) | exact Nat.le_add_left _ _ | omega))
            all_goals exact WkL.low (low_cellsF pairD (low_pairD n) A)
        · have b1 : (an == yn) = false := by simp [c1]
          simp -implicitDefEqProofs only [↓symPre, symPost, y_condP, y_condG, run, lver, minD, intsD, eqAll, tupD, splice, Nat.zero_add, Nat.add_zero, Nat.zero_mul, Nat.mul_one, Nat.one_mul, Nat.reduceAdd, Nat.reduceSub, Nat.reduceMul, Nat.reduceLT, Nat.reduceLeDiff, Nat.reduceEqDiff, true_and, and_true, true_implies, if_true, if_false, ite_true, reduceIte, ne_eq, not_false_eq_true, reduceCtorEq, forall_const, bne_self_eq_false, Bool.true_eq_false, Bool.false_eq_true, false_implies, and_self, implies_true, Int.toNat_zero, beq_self_eq_true, decide_true, decide_false, Bool.not_true, Bool.not_false, ↓y_lookv, y_key1, y_mlook, y_mlookn, y_mres1, y_mres0, ↓y_call, f1, f0, decide_true, List.length_map, Int.toNat_natCast, e1, b1, w1]
          refine ⟨(i + 1, A, u), ⟨by simp only; omega, by simp only; omega, hu⟩, by simp only; omega, ?_⟩
          refine le_to (List.replicate 6 .hole ++ [.old 6] ++ List.replicate 54 .hole ++ [.old 61] ++ List.replicate 2 .hole) hl rfl ?_ ?_ <;> ((try simp only [y_blk_end, y_blk_hole, y_blk_nil, y_blk_old, y_wkl_end, y_wkl_top, List.replicate, List.cons_append, List.nil_append, and_true, true_and]) <;> (repeat' (first | apply And.intro | apply y_wkl | refine Exists.intro _ (And.intro rfl ?_))) <;> (try first | exact trivial | exact Wk.top _ | exact wk_int rfl | exact wk_bool rfl | exact wk_ptr rfl rfl rfl rfl | exact wk_ref rfl rfl rfl rfl rfl | exact wk_nil rfl rfl rfl | exact wk_ref rfl rfl rfl rfl (by simp) | exact wk_ref rfl rfl rfl rfl (by simp; omega) | exact wk_old (by assumption) (by simp) | exact wk_eq rfl (by first | exact Bd.int _ _ | exact Bd.bool _ | exact Bd.abool | exact Bd.nils | exact Bd.emp | exact Bd.nilp | exact Bd.nilfn | assumption | exact low_trees _ _ | exact low_treeD _ _ | exact low_ints _ _) | exact Nat.le_refl _ | exact wk_int (by simp) | exact wk_int (by omega) | exact Nat.succ_le_succ (Nat.zero_le _) | exact Nat.le_add_left _ _ | omega))
          all_goals exact WkL.low (low_cellsF pairD (low_pairD n) A)
      · have f1 : ¬ (i : Int) < (As.length : Int) := by omega
        simp -implicitDefEqProofs only [↓symPre, symPost, y_condP, y_condG, run, lver, minD, intsD, eqAll, tupD, splice, Nat.zero_add, Nat.add_zero, Nat.zero_mul, Nat.mul_one, Nat.one_mul, Nat.reduceAdd, Nat.reduceSub, Nat.reduceMul, Nat.reduceLT, Nat.reduceLeDiff, Nat.reduceEqDiff, true_and, and_true, true_implies, if_true, if_false, ite_true, reduceIte, ne_eq, not_false_eq_true, reduceCtorEq, forall_const, bne_self_eq_false, Bool.true_eq_false, Bool.false_eq_true, false_implies, and_self, implies_true, Int.toNat_zero, beq_self_eq_true, decide_true, decide_false, Bool.not_true, Bool.not_false, ↓y_lookv, y_key1, y_mlook, y_mlookn, y_mres1, y_mres0, ↓y_call, f1, decide_false]
        exact fin_wk hl (wk_frzF pairD pairD_cells (low_pairD n) (t := 61) rfl rfl (by simp) rfl) ⟨rfl, rfl, A, by omega, rfl⟩

end Abs
end Go.Proofs.Ytoeehfnkcfeoaaa

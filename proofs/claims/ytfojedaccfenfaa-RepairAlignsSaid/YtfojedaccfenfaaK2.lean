/- repair's distances, and whether costs are in range. -/
import Derived.Test.YtfojedaccfenfaaK1
namespace Go.Proofs.Ytfojedaccfenfaa
namespace Abs
set_option linter.unusedVariables false
set_option linter.unusedSimpArgs false
set_option maxRecDepth 20000

theorem cellsF_iD (ls : List (List Int)) : cellsF iD ls = ls.map iD := by
  induction ls with
  | nil => rfl
  | cons l ls ih =>
    rw [show l :: ls = [l] ++ ls from rfl, cellsF_app, ih, cellsF_one, List.map_append]; rfl
theorem cellsF_int (l : List Int) : cellsF (D.int .i64) l = l.map (D.int .i64) := ints_flat l
theorem low_intD (n : Nat) (x : Int) : Low n (D.int .i64 x) := .int ..
theorem low_iDs (n : Nat) (l : List Int) : Low n (iD l) := low_ints n l

set_option maxHeartbeats 16000000 in
theorem pure_distances (q : Co) (hq : okCo q 100) (w v : List Int) (hw : w.length ≤ 200) (hv : v.length ≤ 200) : Pure prog F_repair_distances [iD w, iD v, coD q] (.lst ((rowsR q w v).map iD)) := by
  intro n h
  refine K_repair_distances.calls fun hl => ?_
  unfold C_repair_distances coD
  obtain ⟨N, hN⟩ : ∃ N, N = w.length + 1 := ⟨_, rfl⟩
  obtain ⟨M, hM⟩ : ∃ M, M = v.length + 1 := ⟨_, rfl⟩
  have w1 : IntKind.i64.wrap ((w.length : Int) + 1) = (N : Int) := by rw [IntWalk.i64_in _ (by omega)]; omega
  have w2 : IntKind.i64.wrap ((v.length : Int) + 1) = (M : Int) := by rw [IntWalk.i64_in _ (by omega)]; omega
  have k0 : (0 : Int) ≤ (N : Int) := by omega
  have k1 : (N : Int) * ((24 : Nat) : Int) ≤ 140737488355328 := by omega
  have k2 : (N : Int) ≤ 9223372036854775807 := by omega
  have k3 : (0 : Int) ≤ (M : Int) := by omega
  have k4 : (M : Int) * ((8 : Nat) : Int) ≤ 140737488355328 := by omega
  have k5 : (M : Int) ≤ 9223372036854775807 := by omega
  obtain ⟨R, hR⟩ : ∃ R, R = (rowsR q w v).map iD := ⟨_, rfl⟩
  have hRl : R.length = N := by rw [hR, List.length_map, rowsR_len, hN]
  have hRlow : ∀ c ∈ R, Low n c := fun c hc => by
    rw [hR] at hc
    obtain ⟨l, _, rfl⟩ := List.mem_map.1 hc
    exact low_ints n l
  have hRg : ∀ i, i ≤ w.length → R[i]? = some (iD (rowR q w v i)) := fun i hi => by rw [hR, List.getElem?_map, rowsR_get q w v i hi]; rfl
  have c03 : (0 : Int) < ((3 : Nat) : Int) := by decide
  have c13 : (1 : Int) < ((3 : Nat) : Int) := by decide
  have c23 : (2 : Int) < ((3 : Nat) : Int) := by decide
  have c01 : (0 : Int) ≤ 1 := by decide
  have c02 : (0 : Int) ≤ 2 := by decide
  have t1 : (1 : Int).toNat = 1 := rfl
  have t2 : (2 : Int).toNat = 2 := rfl
  simp -implicitDefEqProofs only [↓symPre, symPost, y_condP, y_condG, run, lver, minD, intsD, eqAll, tupD, splice, Nat.zero_add, Nat.add_zero, Nat.zero_mul, Nat.mul_one, Nat.one_mul, Nat.reduceAdd, Nat.reduceSub, Nat.reduceMul, Nat.reduceLT, Nat.reduceLeDiff, Nat.reduceEqDiff, true_and, and_true, true_implies, if_true, if_false, ite_true, reduceIte, ne_eq, not_false_eq_true, reduceCtorEq, forall_const, bne_self_eq_false, Bool.true_eq_false, Bool.false_eq_true, false_implies, and_self, implies_true, Int.toNat_zero, beq_self_eq_true, decide_true, decide_false, Bool.not_true, Bool.not_false, ↓y_call, List.length_map, w1, k0, k1, k2, Int.le_refl, Int.toNat_natCast, rep_flat]
  refine aloop (fun p : Nat => St.mk n ([iD w, iD v, .top, .top, .top, .ptr (n + 5) 1 0, .top, .ref 1 (n + 14) 1 0 N, .int .i64 ((p : Int) - 1)] ++ List.replicate 113 .top) h
      (List.replicate 5 blk0 ++ [⟨1, .cells [.int .i64 q.a, .int .i64 q.b, .int .i64 q.c]⟩] ++ List.replicate 8 blk0 ++ [⟨1, .cells (tailC .nils R p)⟩] ++ List.replicate 107 blk0)) (fun p => p ≤ N) (fun p => p) N (Nat.le_refl _) ?_ ?_
  · have := tailC_all .nils R
    rw [hRl] at this
    rw [this]
    refine le_to (List.replicate 5 .hole ++ [.old 5] ++ List.replicate 8 .hole ++ [.old 14] ++ List.replicate 107 .hole) hl rfl ?_ ?_ <;> ((try simp only [y_blk_end, y_blk_hole, y_blk_nil, y_blk_old, y_wkl_end, y_wkl_top, List.replicate, List.cons_append, List.nil_append, and_true, true_and]) <;> (repeat' (first | apply And.intro | apply y_wkl | refine Exists.intro _ (And.intro rfl ?_))) <;> (try first | exact trivial | exact Wk.top _ | exact wk_int rfl | exact wk_bool rfl | exact wk_ptr rfl rfl rfl rfl | exact wk_ref rfl rfl rfl rfl rfl | exact wk_nil rfl rfl rfl | exact wk_ref rfl rfl rfl rfl (by simp) | exact wk_ref rfl rfl rfl rfl (by simp; omega) | exact wk_old (by assumption) (by simp) | exact wk_eq rfl (by first | exact Bd.int _ _ | exact Bd.bool _ | exact Bd.abool | exact Bd.nils | exact Bd.emp | exact Bd.nilp | exact Bd.nilfn | assumption | exact low_trees _ _ | exact low_treeD _ _ | exact low_ints _ _) | exact Nat.le_refl _ | exact wk_int (by simp) | exact wk_int (by omega) | exact Nat.succ_le_succ (Nat.zero_le _) | exact Nat.le_add_left _ _ | omega))
    exact WkL.low (low_rep .nils _)
  · intro p hp
    cases p with
    | zero =>
      have hg : decide (((0 : Nat) : Int) - 1 ≥ 0) = false := rfl
      simp -implicitDefEqProofs only [↓symPre, symPost, y_condP, y_condG, run, lver, minD, intsD, eqAll, tupD, splice, Nat.zero_add, Nat.add_zero, Nat.zero_mul, Nat.mul_one, Nat.one_mul, Nat.reduceAdd, Nat.reduceSub, Nat.reduceMul, Nat.reduceLT, Nat.reduceLeDiff, Nat.reduceEqDiff, true_and, and_true, true_implies, if_true, if_false, ite_true, reduceIte, ne_eq, not_false_eq_true, reduceCtorEq, forall_const, bne_self_eq_false, Bool.true_eq_false, Bool.false_eq_true, false_implies, and_self, implies_true, Int.toNat_zero, beq_self_eq_true, decide_true, decide_false, Bool.not_true, Bool.not_false, ↓y_call, hg]
      refine fin_wk hl ?_ ⟨rfl, rfl, rfl⟩
      rw [tailC_zero]
      have := wk_frzF (X := ⟨n, List.replicate 5 blk0 ++ [⟨1, .cells [.int .i64 q.a, .int .i64 q.b, .int .i64 q.c]⟩] ++ List.replicate 8 blk0 ++ [⟨1, .cells R⟩] ++ List.replicate 107 blk0, [], []⟩) iD (sz := 1) (fun _ => rfl) (low_iDs n) (b := n + 14) (t := 14) (ver := 1) (len := N) (l := rowsR q w v) rfl (by rw [cellsF_iD, ← hR]; rfl) (by simp) (by rw [rowsR_len, hN])
      exact this
    | succ i =>
      have hi : i ≤ w.length := by omega
      have hii : (((i + 1 : Nat) : Int) - 1) = (i : Int) := by omega
      have hg : decide ((i : Int) ≥ 0) = true := by simp
      have i0 : (0 : Int) ≤ (i : Int) := by omega
      have i1 : (i : Int) < (N : Int) := by omega
      have hil : i < R.length := by omega
      have hLl : (tailC .nils R (i + 1)).length = N := by rw [tailC_len (by omega), hRl]
      have hil2 : i < N := by omega
      have hil3 : i + 1 ≤ N := by omega
      have hput := fun d => tailC_put (z := .nils) (d := d) hil
      have w5 : IntKind.i64.wrap ((i : Int) - 1) = (i : Int) - 1 := IntWalk.i64_in _ (by omega)
      obtain ⟨C, hC⟩ : ∃ C, C = (rowR q w v i).map (D.int .i64) := ⟨_, rfl⟩
      have hCl : C.length = M := by rw [hC, List.length_map, rowR_len, hM]
      have hClow : ∀ c ∈ C, Low n c := fun c hc => by
        rw [hC] at hc
        exact low_iD n _ c hc
      have hCg : ∀ j, j ≤ v.length → C[j]? = some (.int .i64 (dR q (w.drop i) (v.drop j))) := fun j hj => by rw [hC, List.getElem?_map, rowR_get q w v i j hj]; rfl
      have hOl : ∀ d, (List.replicate i D.nils ++ d :: R.drop (i + 1)).length = N := fun d => by rw [mid_len hil, hRl]
      have hO1 : ∀ d, nth (List.replicate i D.nils ++ d :: R.drop (i + 1)) i = d := fun d => nth_mid
      have hOlow : ∀ d, Low n d → ∀ c ∈ List.replicate i D.nils ++ d :: R.drop (i + 1), Low n c := fun d hd c hc => by
        rcases List.mem_append.1 hc with hc | hc
        · exact low_rep .nils _ c hc
        · rcases List.mem_cons.1 hc with rfl | hc
          · exact hd
          · exact hRlow c (List.mem_of_mem_drop hc)
      simp -implicitDefEqProofs only [↓symPre, symPost, y_condP, y_condG, run, lver, minD, intsD, eqAll, tupD, splice, Nat.zero_add, Nat.add_zero, Nat.zero_mul, Nat.mul_one, Nat.one_mul, Nat.reduceAdd, Nat.reduceSub, Nat.reduceMul, Nat.reduceLT, Nat.reduceLeDiff, Nat.reduceEqDiff, true_and, and_true, true_implies, if_true, if_false, ite_true, reduceIte, ne_eq, not_false_eq_true, reduceCtorEq, forall_const, bne_self_eq_false, Bool.true_eq_false, Bool.false_eq_true, false_implies, and_self, implies_true, Int.toNat_zero, beq_self_eq_true, decide_true, decide_false, Bool.not_true, Bool.not_false, ↓y_call, hii, hg, List.length_map, w2, k3, k4, k5, Int.le_refl, Int.toNat_natCast, rep_flat, i0, i1, hLl, hil2, hil3, hput]
      refine aloop (fun p : Nat => St.mk n ([iD w, iD v, .top, .top, .top, .ptr (n + 5) 1 0, .top, .ref 1 (n + 14) 1 0 N, .int .i64 i, .int .i64 ((p : Int) - 1)] ++ List.replicate 112 .top) h
          (List.replicate 5 blk0 ++ [⟨1, .cells [.int .i64 q.a, .int .i64 q.b, .int .i64 q.c]⟩] ++ List.replicate 8 blk0 ++ [⟨1, .cells (List.replicate i .nils ++ .ref 1 (n + 26) 1 0 M :: R.drop (i + 1))⟩] ++ List.replicate 11 blk0 ++ [⟨1, .cells (tailC (.int .i64 0) C p)⟩] ++ List.replicate 95 blk0)) (fun p => p ≤ M) (fun p => p) M (Nat.le_refl _) ?_ ?_
      · have := tailC_all (.int .i64 0) C
        rw [hCl] at this
        rw [this]
        have hv1 : (v.length : Int) = (M : Int) - 1 := by omega
        refine le_to (List.replicate 5 .hole ++ [.old 5] ++ List.replicate 8 .hole ++ [.old 14] ++ List.replicate 11 .hole ++ [.old 26] ++ List.replicate 95 .hole) hl rfl ?_ ?_ <;> (try simp only [hv1]) <;> ((try simp only [y_blk_end, y_blk_hole, y_blk_nil, y_blk_old, y_wkl_end, y_wkl_top, List.replicate, List.cons_append, List.nil_append, and_true, true_and]) <;> (repeat' (first | apply And.intro | apply y_wkl | refine Exists.intro _ (And.intro rfl ?_))) <;> (try first | exact trivial | exact Wk.top _ | exact wk_int rfl | exact wk_bool rfl | exact wk_ptr rfl rfl rfl rfl | exact wk_ref rfl rfl rfl rfl rfl | exact wk_nil rfl rfl rfl | exact wk_ref rfl rfl rfl rfl (by simp) | exact wk_ref rfl rfl rfl rfl (by simp; omega) | exact wk_old (by assumption) (by simp) | exact wk_eq rfl (by first | exact Bd.int _ _ | exact Bd.bool _ | exact Bd.abool | exact Bd.nils | exact Bd.emp | exact Bd.nilp | exact Bd.nilfn | assumption | exact low_trees _ _ | exact low_treeD _ _ | exact low_ints _ _) | exact Nat.le_refl _ | exact wk_int (by simp) | exact wk_int (by omega) | exact Nat.succ_le_succ (Nat.zero_le _) | exact Nat.le_add_left _ _ | omega))
        · exact WkL.app (WkL.low (low_rep .nils _)) (y_wkl (wk_ref rfl rfl rfl rfl rfl) (WkL.low fun c hc => hRlow c (List.mem_of_mem_drop hc)))
        · exact WkL.low (low_rep (.int ..) _)
      · intro p hp
        cases p with
        | zero =>
          have hg : decide (((0 : Nat) : Int) - 1 ≥ 0) = false := rfl
          simp -implicitDefEqProofs only [↓symPre, symPost, y_condP, y_condG, run, lver, minD, intsD, eqAll, tupD, splice, Nat.zero_add, Nat.add_zero, Nat.zero_mul, Nat.mul_one, Nat.one_mul, Nat.reduceAdd, Nat.reduceSub, Nat.reduceMul, Nat.reduceLT, Nat.reduceLeDiff, Nat.reduceEqDiff, true_and, and_true, true_implies, if_true, if_false, ite_true, reduceIte, ne_eq, not_false_eq_true, reduceCtorEq, forall_const, bne_self_eq_false, Bool.true_eq_false, Bool.false_eq_true, false_implies, and_self, implies_true, Int.toNat_zero, beq_self_eq_true, decide_true, decide_false, Bool.not_true, Bool.not_false, ↓y_call, hg, w5, tailC_zero]
          refine ⟨i, by omega, by omega, ?_⟩
          rw [← tailC_step (hRg i hi)]
          refine le_to (List.replicate 5 .hole ++ [.old 5] ++ List.replicate 8 .hole ++ [.old 14] ++ List.replicate 107 .hole) hl rfl ?_ ?_ <;> ((try simp only [y_blk_end, y_blk_hole, y_blk_nil, y_blk_old, y_wkl_end, y_wkl_top, List.replicate, List.cons_append, List.nil_append, and_true, true_and]) <;> (repeat' (first | apply And.intro | apply y_wkl | refine Exists.intro _ (And.intro rfl ?_))) <;> (try first | exact trivial | exact Wk.top _ | exact wk_int rfl | exact wk_bool rfl | exact wk_ptr rfl rfl rfl rfl | exact wk_ref rfl rfl rfl rfl rfl | exact wk_nil rfl rfl rfl | exact wk_ref rfl rfl rfl rfl (by simp) | exact wk_ref rfl rfl rfl rfl (by simp; omega) | exact wk_old (by assumption) (by simp) | exact wk_eq rfl (by first | exact Bd.int _ _ | exact Bd.bool _ | exact Bd.abool | exact Bd.nils | exact Bd.emp | exact Bd.nilp | exact Bd.nilfn | assumption | exact low_trees _ _ | exact low_treeD _ _ | exact low_ints _ _) | exact Nat.le_refl _ | exact wk_int (by simp) | exact wk_int (by omega) | exact Nat.succ_le_succ (Nat.zero_le _) | exact Nat.le_add_left _ _ | omega))
          refine WkL.app (WkL.low (low_rep .nils _)) (y_wkl (wk_frzF (D.int .i64) (sz := 1) (fun _ => rfl) (low_intD n) (t := 26) (ver := 1) (l := rowR q w v i) rfl (by rw [cellsF_int, ← hC]; rfl) (by simp) (by rw [rowR_len, hM])) (WkL.low fun c hc => hRlow c (List.mem_of_mem_drop hc)))
        | succ j =>
          have hj : j ≤ v.length := by omega
          have hjj : (((j + 1 : Nat) : Int) - 1) = (j : Int) := by omega
          have hgj : decide ((j : Int) ≥ 0) = true := by simp
          have j0 : (0 : Int) ≤ (j : Int) := by omega
          have j1 : (j : Int) < (M : Int) := by omega
          have j2 : j < M := by omega
          have j3 : j + 1 ≤ M := by omega
          have hTl : (tailC (.int .i64 0) C (j + 1)).length = M := by rw [tailC_len (by omega), hCl]
          have hput2 : (tailC (.int .i64 0) C (j + 1)).take j ++ [.int .i64 (dR q (w.drop i) (v.drop j))] ++ (tailC (.int .i64 0) C (j + 1)).drop (j + 1) = tailC (.int .i64 0) C j := by
            rw [tailC_put (by omega), tailC_step (hCg j hj)]
          have w6 : IntKind.i64.wrap ((j : Int) - 1) = (j : Int) - 1 := IntWalk.i64_in _ (by omega)
          have hrng := dR_range hq (w.drop i) (v.drop j)
          have hdl : (w.drop i).length ≤ 200 := by simp; omega
          have hdl2 : (v.drop j).length ≤ 200 := by simp; omega
          by_cases cA : i = w.length
          · have bA : ((i : Int) == (w.length : Int)) = true := by simp [cA]
            have hval : dR q (w.drop i) (v.drop j) = ((v.length : Int) - j) * q.a := by
              rw [List.drop_eq_nil_of_le (by omega), dR_nil]; congr 1; simp; omega
            rw [hval] at hput2 hrng
            have u1 : IntKind.i64.wrap ((v.length : Int) - (j : Int)) = (v.length : Int) - j := IntWalk.i64_in _ (by omega)
            have u2 : IntKind.i64.wrap (((v.length : Int) - (j : Int)) * q.a) = ((v.length : Int) - j) * q.a := IntWalk.i64_in _ (by omega)
            simp -implicitDefEqProofs only [↓symPre, symPost, y_condP, y_condG, run, lver, minD, intsD, eqAll, tupD, splice, Nat.zero_add, Nat.add_zero, Nat.zero_mul, Nat.mul_one, Nat.one_mul, Nat.reduceAdd, Nat.reduceSub, Nat.reduceMul, Nat.reduceLT, Nat.reduceLeDiff, Nat.reduceEqDiff, true_and, and_true, true_implies, if_true, if_false, ite_true, reduceIte, ne_eq, not_false_eq_true, reduceCtorEq, forall_const, bne_self_eq_false, Bool.true_eq_false, Bool.false_eq_true, false_implies, and_self, implies_true, Int.toNat_zero, beq_self_eq_true, decide_true, decide_false, Bool.not_true, Bool.not_false, ↓y_call, hjj, hgj, List.length_map, bA]
            refine adrawq hmix [[], [], [], [], [], [], [], [], [], [], [], [], [], [n + 26]] ?_
            simp (maxSteps := 400000) -implicitDefEqProofs only [↓symPre, symPost, y_condP, y_condG, run, lver, minD, intsD, eqAll, tupD, splice, Nat.zero_add, Nat.add_zero, Nat.zero_mul, Nat.mul_one, Nat.one_mul, Nat.reduceAdd, Nat.reduceSub, Nat.reduceMul, Nat.reduceLT, Nat.reduceLeDiff, Nat.reduceEqDiff, true_and, and_true, true_implies, if_true, if_false, ite_true, reduceIte, ne_eq, not_false_eq_true, reduceCtorEq, forall_const, bne_self_eq_false, Bool.true_eq_false, Bool.false_eq_true, false_implies, and_self, implies_true, Int.toNat_zero, beq_self_eq_true, decide_true, decide_false, Bool.not_true, Bool.not_false, ↓y_call, ↓drawPre, drawPost, isCall, isNew, isEff, Option.toList, or_false, false_or, cond_true, cond_false, not_true_eq_false, or_true, true_or, Nat.add_left_cancel_iff, Bool.false_eq_true, List.length_map, u1, u2, i0, i1, j0, j1, j2, j3, hil2, hOl, hO1, hTl, hput2, w6, Int.toNat_natCast, List.getD_cons_succ, List.getD_cons_zero, Int.le_refl, c03]
            refine ⟨by rintro c rfl; rfl, j, by omega, by omega, ?_⟩
            refine le_to (List.replicate 5 .hole ++ [.old 5] ++ List.replicate 8 .hole ++ [.old 14] ++ List.replicate 11 .hole ++ [.old 26] ++ List.replicate 95 .hole) hl rfl ?_ ?_ <;> ((try simp only [y_blk_end, y_blk_hole, y_blk_nil, y_blk_old, y_wkl_end, y_wkl_top, List.replicate, List.cons_append, List.nil_append, and_true, true_and]) <;> (repeat' (first | apply And.intro | apply y_wkl | refine Exists.intro _ (And.intro rfl ?_))) <;> (try first | exact trivial | exact Wk.top _ | exact wk_int rfl | exact wk_bool rfl | exact wk_ptr rfl rfl rfl rfl | exact wk_ref rfl rfl rfl rfl rfl | exact wk_nil rfl rfl rfl | exact wk_ref rfl rfl rfl rfl (by simp) | exact wk_ref rfl rfl rfl rfl (by simp; omega) | exact wk_old (by assumption) (by simp) | exact wk_eq rfl (by first | exact Bd.int _ _ | exact Bd.bool _ | exact Bd.abool | exact Bd.nils | exact Bd.emp | exact Bd.nilp | exact Bd.nilfn | assumption | exact low_trees _ _ | exact low_treeD _ _ | exact low_ints _ _) | exact Nat.le_refl _ | exact wk_int (by simp) | exact wk_int (by omega) | exact Nat.succ_le_succ (Nat.zero_le _) | exact Nat.le_add_left _ _ | omega))
            · exact WkL.app (WkL.low (low_rep .nils _)) (y_wkl (wk_ref rfl rfl rfl rfl rfl) (WkL.low fun c hc => hRlow c (List.mem_of_mem_drop hc)))
            · exact WkL.low (low_tail (.int ..) hClow _)
          have hiw : i < w.length := by omega
          have bA : ((i : Int) == (w.length : Int)) = false := beq_eq_false_iff_ne.2 (by omega)
          by_cases cB : j = v.length
          · have bB : ((j : Int) == (v.length : Int)) = true := by simp [cB]
            have hval : dR q (w.drop i) (v.drop j) = ((w.length : Int) - i) * q.b := by
              have hd0 : v.drop j = [] := List.drop_eq_nil_of_le (by omega)
              rw [hd0, dR_nil2]; congr 1; simp; omega
            rw [hval] at hput2 hrng
            have u1 : IntKind.i64.wrap ((w.length : Int) - (i : Int)) = (w.length : Int) - i := IntWalk.i64_in _ (by omega)
            have u2 : IntKind.i64.wrap (((w.length : Int) - (i : Int)) * q.b) = ((w.length : Int) - i) * q.b := IntWalk.i64_in _ (by omega)
            simp -implicitDefEqProofs only [↓symPre, symPost, y_condP, y_condG, run, lver, minD, intsD, eqAll, tupD, splice, Nat.zero_add, Nat.add_zero, Nat.zero_mul, Nat.mul_one, Nat.one_mul, Nat.reduceAdd, Nat.reduceSub, Nat.reduceMul, Nat.reduceLT, Nat.reduceLeDiff, Nat.reduceEqDiff, true_and, and_true, true_implies, if_true, if_false, ite_true, reduceIte, ne_eq, not_false_eq_true, reduceCtorEq, forall_const, bne_self_eq_false, Bool.true_eq_false, Bool.false_eq_true, false_implies, and_self, implies_true, Int.toNat_zero, beq_self_eq_true, decide_true, decide_false, Bool.not_true, Bool.not_false, ↓y_call, hjj, hgj, List.length_map, bA, bB]
            refine adrawq hmix [[], [], [], [], [], [], [], [], [], [], [], [], [], [n + 26]] ?_
            simp (maxSteps := 400000) -implicitDefEqProofs only [↓symPre, symPost, y_condP, y_condG, run, lver, minD, intsD, eqAll, tupD, splice, Nat.zero_add, Nat.add_zero, Nat.zero_mul, Nat.mul_one, Nat.one_mul, Nat.reduceAdd, Nat.reduceSub, Nat.reduceMul, Nat.reduceLT, Nat.reduceLeDiff, Nat.reduceEqDiff, true_and, and_true, true_implies, if_true, if_false, ite_true, reduceIte, ne_eq, not_false_eq_true, reduceCtorEq, forall_const, bne_self_eq_false, Bool.true_eq_false, Bool.false_eq_true, false_implies, and_self, implies_true, Int.toNat_zero, beq_self_eq_true, decide_true, decide_false, Bool.not_true, Bool.not_false, ↓y_call, ↓drawPre, drawPost, isCall, isNew, isEff, Option.toList, or_false, false_or, cond_true, cond_false, not_true_eq_false, or_true, true_or, Nat.add_left_cancel_iff, Bool.false_eq_true, List.length_map, u1, u2, i0, i1, j0, j1, j2, j3, hil2, hOl, hO1, hTl, hput2, w6, Int.toNat_natCast, List.getD_cons_succ, List.getD_cons_zero, Int.le_refl, c13, c01, t1]
            refine ⟨by rintro c rfl; rfl, j, by omega, by omega, ?_⟩
            refine le_to (List.replicate 5 .hole ++ [.old 5] ++ List.replicate 8 .hole ++ [.old 14] ++ List.replicate 11 .hole ++ [.old 26] ++ List.replicate 95 .hole) hl rfl ?_ ?_ <;> ((try simp only [y_blk_end, y_blk_hole, y_blk_nil, y_blk_old, y_wkl_end, y_wkl_top, List.replicate, List.cons_append, List.nil_append, and_true, true_and]) <;> (repeat' (first | apply And.intro | apply y_wkl | refine Exists.intro _ (And.intro rfl ?_))) <;> (try first | exact trivial | exact Wk.top _ | exact wk_int rfl | exact wk_bool rfl | exact wk_ptr rfl rfl rfl rfl | exact wk_ref rfl rfl rfl rfl rfl | exact wk_nil rfl rfl rfl | exact wk_ref rfl rfl rfl rfl (by simp) | exact wk_ref rfl rfl rfl rfl (by simp; omega) | exact wk_old (by assumption) (by simp) | exact wk_eq rfl (by first | exact Bd.int _ _ | exact Bd.bool _ | exact Bd.abool | exact Bd.nils | exact Bd.emp | exact Bd.nilp | exact Bd.nilfn | assumption | exact low_trees _ _ | exact low_treeD _ _ | exact low_ints _ _) | exact Nat.le_refl _ | exact wk_int (by simp) | exact wk_int (by omega) | exact Nat.succ_le_succ (Nat.zero_le _) | exact Nat.le_add_left _ _ | omega))
            · exact WkL.app (WkL.low (low_rep .nils _)) (y_wkl (wk_ref rfl rfl rfl rfl rfl) (WkL.low fun c hc => hRlow c (List.mem_of_mem_drop hc)))
            · exact WkL.low (low_tail (.int ..) hClow _)
          have hjv : j < v.length := by omega
          have bB : ((j : Int) == (v.length : Int)) = false := beq_eq_false_iff_ne.2 (by omega)
          have hval : dR q (w.drop i) (v.drop j) = min3 (dR q (w.drop (i + 1)) (v.drop (j + 1)) + if w[i] = v[j] then 0 else q.c) (dR q (w.drop (i + 1)) (v.drop j) + q.b) (dR q (w.drop i) (v.drop (j + 1)) + q.a) := by
            conv => lhs; rw [List.drop_eq_getElem_cons hiw, List.drop_eq_getElem_cons hjv]
            rw [dR_cons, ← List.drop_eq_getElem_cons hiw, ← List.drop_eq_getElem_cons hjv]
          have r1 := dR_range hq (w.drop (i + 1)) (v.drop (j + 1))
          have r2 := dR_range hq (w.drop (i + 1)) (v.drop j)
          have r3 := dR_range hq (w.drop i) (v.drop (j + 1))
          have hd3 : (w.drop (i + 1)).length ≤ 200 := by simp; omega
          have hd4 : (v.drop (j + 1)).length ≤ 200 := by simp; omega
          obtain ⟨q1, q2, q3, q4, q5, q6⟩ := hq
          have e0 := nth_ints w i hiw
          have e1 := nth_ints v j hjv
          have i2 : (i : Int) < (w.length : Int) := by omega
          have j4 : (j : Int) < (v.length : Int) := by omega
          have wi1 : IntKind.i64.wrap ((i : Int) + 1) = ((i + 1 : Nat) : Int) := by rw [IntWalk.i64_in _ (by omega)]; omega
          have wj1 : IntKind.i64.wrap ((j : Int) + 1) = ((j + 1 : Nat) : Int) := by rw [IntWalk.i64_in _ (by omega)]; omega
          have i3 : (0 : Int) ≤ ((i + 1 : Nat) : Int) := by omega
          have i4 : ((i + 1 : Nat) : Int) < (N : Int) := by omega
          have i5 : i + 1 < N := by omega
          have j5 : (0 : Int) ≤ ((j + 1 : Nat) : Int) := by omega
          have j6 : ((j + 1 : Nat) : Int) < (M : Int) := by omega
          have j7 : j + 1 < M := by omega
          have hO2 : ∀ d, nth (List.replicate i D.nils ++ d :: R.drop (i + 1)) (i + 1) = iD (rowR q w v (i + 1)) := fun d => nth_mid1 (hRg (i + 1) (by omega)) (Nat.le_refl _) d
          have hC1 : nth (tailC (.int .i64 0) C (j + 1)) (j + 1) = .int .i64 (dR q (w.drop i) (v.drop (j + 1))) := nth_tail (hCg (j + 1) (by omega)) (Nat.le_refl _)
          have hrl : (rowR q w v (i + 1)).length = M := by rw [rowR_len, hM]
          have hN1 : nth ((rowR q w v (i + 1)).map (D.int .i64)) j = .int .i64 (dR q (w.drop (i + 1)) (v.drop j)) := nth_of (by rw [List.getElem?_map, rowR_get q w v (i + 1) j (by omega)]; rfl)
          have hN2 : nth ((rowR q w v (i + 1)).map (D.int .i64)) (j + 1) = .int .i64 (dR q (w.drop (i + 1)) (v.drop (j + 1))) := nth_of (by rw [List.getElem?_map, rowR_get q w v (i + 1) (j + 1) (by omega)]; rfl)
          rw [hval] at hput2
          generalize dR q (w.drop (i + 1)) (v.drop (j + 1)) = x at *
          generalize dR q (w.drop (i + 1)) (v.drop j) = y at *
          generalize dR q (w.drop i) (v.drop (j + 1)) = z at *
          have u2 : IntKind.i64.wrap (y + q.b) = y + q.b := IntWalk.i64_in _ (by omega)
          have u3 : IntKind.i64.wrap (z + q.a) = z + q.a := IntWalk.i64_in _ (by omega)
          unfold min3 at hput2
          by_cases cC : w[i] = v[j]
          · have bC : (w[i] == v[j]) = true := by simp [cC]
            have u1 : IntKind.i64.wrap (x + 0) = x + 0 := IntWalk.i64_in _ (by omega)
            rw [if_pos cC] at hput2
            simp -implicitDefEqProofs only [↓symPre, symPost, y_condP, y_condG, run, lver, minD, intsD, eqAll, tupD, splice, Nat.zero_add, Nat.add_zero, Nat.zero_mul, Nat.mul_one, Nat.one_mul, Nat.reduceAdd, Nat.reduceSub, Nat.reduceMul, Nat.reduceLT, Nat.reduceLeDiff, Nat.reduceEqDiff, true_and, and_true, true_implies, if_true, if_false, ite_true, reduceIte, ne_eq, not_false_eq_true, reduceCtorEq, forall_const, bne_self_eq_false, Bool.true_eq_false, Bool.false_eq_true, false_implies, and_self, implies_true, Int.toNat_zero, beq_self_eq_true, decide_true, decide_false, Bool.not_true, Bool.not_false, ↓y_call, hjj, hgj, List.length_map, bA, bB, c23, c02, t2]
            refine adrawq hmix [] ?_
            simp (maxSteps := 400000) -implicitDefEqProofs only [↓symPre, symPost, y_condP, y_condG, run, lver, minD, intsD, eqAll, tupD, splice, Nat.zero_add, Nat.add_zero, Nat.zero_mul, Nat.mul_one, Nat.one_mul, Nat.reduceAdd, Nat.reduceSub, Nat.reduceMul, Nat.reduceLT, Nat.reduceLeDiff, Nat.reduceEqDiff, true_and, and_true, true_implies, if_true, if_false, ite_true, reduceIte, ne_eq, not_false_eq_true, reduceCtorEq, forall_const, bne_self_eq_false, Bool.true_eq_false, Bool.false_eq_true, false_implies, and_self, implies_true, Int.toNat_zero, beq_self_eq_true, decide_true, decide_false, Bool.not_true, Bool.not_false, ↓y_call, ↓drawPre, drawPost, isCall, isNew, isEff, Option.toList, or_false, false_or, cond_true, cond_false, not_true_eq_false, or_true, true_or, Nat.add_left_cancel_iff, Bool.false_eq_true, List.length_map, i0, i2, j0, j4, Int.toNat_natCast, e0, e1, bC]
            refine adrawq hmix [[], [], [], [], [], [], [], [], [], [], [], [], [], [], [], [], [], [], [], [], [], [], [], [], [], [], [], [], [], [], [], [], [], [], [], [], [], [], [], [], [n + 26]] ?_
            simp (maxSteps := 400000) -implicitDefEqProofs only [↓symPre, symPost, y_condP, y_condG, run, lver, minD, intsD, eqAll, tupD, splice, Nat.zero_add, Nat.add_zero, Nat.zero_mul, Nat.mul_one, Nat.one_mul, Nat.reduceAdd, Nat.reduceSub, Nat.reduceMul, Nat.reduceLT, Nat.reduceLeDiff, Nat.reduceEqDiff, true_and, and_true, true_implies, if_true, if_false, ite_true, reduceIte, ne_eq, not_false_eq_true, reduceCtorEq, forall_const, bne_self_eq_false, Bool.true_eq_false, Bool.false_eq_true, false_implies, and_self, implies_true, Int.toNat_zero, beq_self_eq_true, decide_true, decide_false, Bool.not_true, Bool.not_false, ↓y_call, ↓drawPre, drawPost, isCall, isNew, isEff, Option.toList, or_false, false_or, cond_true, cond_false, not_true_eq_false, or_true, true_or, Nat.add_left_cancel_iff, Bool.false_eq_true, List.length_map, u1, u2, u3, i0, i1, i3, i4, i5, j0, j1, j2, j3, j5, j6, j7, hil2, hOl, hO1, hO2, hC1, hrl, hN1, hN2, wi1, wj1, hTl, hput2, w6, Int.toNat_natCast, List.getD_cons_succ, List.getD_cons_zero, List.foldl_cons, List.foldl_nil, Int.le_refl, c03, c13, c01, t1]
            refine ⟨by rintro c rfl; rfl, j, by omega, by omega, ?_⟩
            refine le_to (List.replicate 5 .hole ++ [.old 5] ++ List.replicate 8 .hole ++ [.old 14] ++ List.replicate 11 .hole ++ [.old 26] ++ List.replicate 95 .hole) hl rfl ?_ ?_ <;> ((try simp only [y_blk_end, y_blk_hole, y_blk_nil, y_blk_old, y_wkl_end, y_wkl_top, List.replicate, List.cons_append, List.nil_append, and_true, true_and]) <;> (repeat' (first | apply And.intro | apply y_wkl | refine Exists.intro _ (And.intro rfl ?_))) <;> (try first | exact trivial | exact Wk.top _ | exact wk_int rfl | exact wk_bool rfl | exact wk_ptr rfl rfl rfl rfl | exact wk_ref rfl rfl rfl rfl rfl | exact wk_nil rfl rfl rfl | exact wk_ref rfl rfl rfl rfl (by simp) | exact wk_ref rfl rfl rfl rfl (by simp; omega) | exact wk_old (by assumption) (by simp) | exact wk_eq rfl (by first | exact Bd.int _ _ | exact Bd.bool _ | exact Bd.abool | exact Bd.nils | exact Bd.emp | exact Bd.nilp | exact Bd.nilfn | assumption | exact low_trees _ _ | exact low_treeD _ _ | exact low_ints _ _) | exact Nat.le_refl _ | exact wk_int (by simp) | exact wk_int (by omega) | exact Nat.succ_le_succ (Nat.zero_le _) | exact Nat.le_add_left _ _ | omega))
            · exact WkL.app (WkL.low (low_rep .nils _)) (y_wkl (wk_ref rfl rfl rfl rfl rfl) (WkL.low fun c hc => hRlow c (List.mem_of_mem_drop hc)))
            · exact WkL.low (low_tail (.int ..) hClow _)
          · have bC : (w[i] == v[j]) = false := by simp [cC]
            have u1 : IntKind.i64.wrap (x + q.c) = x + q.c := IntWalk.i64_in _ (by omega)
            rw [if_neg cC] at hput2
            simp -implicitDefEqProofs only [↓symPre, symPost, y_condP, y_condG, run, lver, minD, intsD, eqAll, tupD, splice, Nat.zero_add, Nat.add_zero, Nat.zero_mul, Nat.mul_one, Nat.one_mul, Nat.reduceAdd, Nat.reduceSub, Nat.reduceMul, Nat.reduceLT, Nat.reduceLeDiff, Nat.reduceEqDiff, true_and, and_true, true_implies, if_true, if_false, ite_true, reduceIte, ne_eq, not_false_eq_true, reduceCtorEq, forall_const, bne_self_eq_false, Bool.true_eq_false, Bool.false_eq_true, false_implies, and_self, implies_true, Int.toNat_zero, beq_self_eq_true, decide_true, decide_false, Bool.not_true, Bool.not_false, ↓y_call, hjj, hgj, List.length_map, bA, bB, c23, c02, t2]
            refine adrawq hmix [] ?_
            simp (maxSteps := 400000) -implicitDefEqProofs only [↓symPre, symPost, y_condP, y_condG, run, lver, minD, intsD, eqAll, tupD, splice, Nat.zero_add, Nat.add_zero, Nat.zero_mul, Nat.mul_one, Nat.one_mul, Nat.reduceAdd, Nat.reduceSub, Nat.reduceMul, Nat.reduceLT, Nat.reduceLeDiff, Nat.reduceEqDiff, true_and, and_true, true_implies, if_true, if_false, ite_true, reduceIte, ne_eq, not_false_eq_true, reduceCtorEq, forall_const, bne_self_eq_false, Bool.true_eq_false, Bool.false_eq_true, false_implies, and_self, implies_true, Int.toNat_zero, beq_self_eq_true, decide_true, decide_false, Bool.not_true, Bool.not_false, ↓y_call, ↓drawPre, drawPost, isCall, isNew, isEff, Option.toList, or_false, false_or, cond_true, cond_false, not_true_eq_false, or_true, true_or, Nat.add_left_cancel_iff, Bool.false_eq_true, List.length_map, i0, i2, j0, j4, Int.toNat_natCast, e0, e1, bC]
            refine adrawq hmix [[], [], [], [], [], [], [], [], [], [], [], [], [], [], [], [], [], [], [], [], [], [], [], [], [], [], [], [], [], [], [], [], [], [], [], [], [], [], [], [], [n + 26]] ?_
            simp (maxSteps := 400000) -implicitDefEqProofs only [↓symPre, symPost, y_condP, y_condG, run, lver, minD, intsD, eqAll, tupD, splice, Nat.zero_add, Nat.add_zero, Nat.zero_mul, Nat.mul_one, Nat.one_mul, Nat.reduceAdd, Nat.reduceSub, Nat.reduceMul, Nat.reduceLT, Nat.reduceLeDiff, Nat.reduceEqDiff, true_and, and_true, true_implies, if_true, if_false, ite_true, reduceIte, ne_eq, not_false_eq_true, reduceCtorEq, forall_const, bne_self_eq_false, Bool.true_eq_false, Bool.false_eq_true, false_implies, and_self, implies_true, Int.toNat_zero, beq_self_eq_true, decide_true, decide_false, Bool.not_true, Bool.not_false, ↓y_call, ↓drawPre, drawPost, isCall, isNew, isEff, Option.toList, or_false, false_or, cond_true, cond_false, not_true_eq_false, or_true, true_or, Nat.add_left_cancel_iff, Bool.false_eq_true, List.length_map, u1, u2, u3, i0, i1, i3, i4, i5, j0, j1, j2, j3, j5, j6, j7, hil2, hOl, hO1, hO2, hC1, hrl, hN1, hN2, wi1, wj1, hTl, hput2, w6, Int.toNat_natCast, List.getD_cons_succ, List.getD_cons_zero, List.foldl_cons, List.foldl_nil, Int.le_refl, c03, c13, c01, t1]
            refine ⟨by rintro c rfl; rfl, j, by omega, by omega, ?_⟩
            refine le_to (List.replicate 5 .hole ++ [.old 5] ++ List.replicate 8 .hole ++ [.old 14] ++ List.replicate 11 .hole ++ [.old 26] ++ List.replicate 95 .hole) hl rfl ?_ ?_ <;> ((try simp only [y_blk_end, y_blk_hole, y_blk_nil, y_blk_old, y_wkl_end, y_wkl_top, List.replicate, List.cons_append, List.nil_append, and_true, true_and]) <;> (repeat' (first | apply And.intro | apply y_wkl | refine Exists.intro _ (And.intro rfl ?_))) <;> (try first | exact trivial | exact Wk.top _ | exact wk_int rfl | exact wk_bool rfl | exact wk_ptr rfl rfl rfl rfl | exact wk_ref rfl rfl rfl rfl rfl | exact wk_nil rfl rfl rfl | exact wk_ref rfl rfl rfl rfl (by simp) | exact wk_ref rfl rfl rfl rfl (by simp; omega) | exact wk_old (by assumption) (by simp) | exact wk_eq rfl (by first | exact Bd.int _ _ | exact Bd.bool _ | exact Bd.abool | exact Bd.nils | exact Bd.emp | exact Bd.nilp | exact Bd.nilfn | assumption | exact low_trees _ _ | exact low_treeD _ _ | exact low_ints _ _) | exact Nat.le_refl _ | exact wk_int (by simp) | exact wk_int (by omega) | exact Nat.succ_le_succ (Nat.zero_le _) | exact Nat.le_add_left _ _ | omega))
            · exact WkL.app (WkL.low (low_rep .nils _)) (y_wkl (wk_ref rfl rfl rfl rfl rfl) (WkL.low fun c hc => hRlow c (List.mem_of_mem_drop hc)))
            · exact WkL.low (low_tail (.int ..) hClow _)

end Abs
end Go.Proofs.Ytfojedaccfenfaa

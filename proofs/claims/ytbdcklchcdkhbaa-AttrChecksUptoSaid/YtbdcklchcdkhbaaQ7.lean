/- All nodes of an expression. -/
import Derived.Test.YtbdcklchcdkhbaaQ6
namespace Go.Proofs.Ytbdcklchcdkhbaa
namespace Abs
set_option linter.unusedVariables false
set_option linter.unusedSimpArgs false
set_option maxRecDepth 20000

theorem one_exD (x : Ex) : ∀ c ∈ (exD x).cells, c.one = true := by
  obtain ⟨k, n, a, r, xs⟩ := x
  rw [exD_mk]
  intro c hc
  simp only [D.cells, List.mem_cons, List.not_mem_nil, or_false] at hc
  rcases hc with rfl | rfl | rfl | rfl | rfl <;> rfl
theorem one_exs (l : List Ex) : ∀ c ∈ cellsF exD l, c.one = true := by
  intro c hc
  simp only [cellsF, List.mem_flatMap, List.mem_map] at hc
  obtain ⟨d, ⟨y, _, rfl⟩, hc⟩ := hc
  exact one_exD y c hc

theorem wkl_low {n : Nat} {lc lc' : List Blk} {g : List Src1} {cs cs' : List D} (e : cs = cs') (h : ∀ c ∈ cs, Low n c) : WkL ⟨n, lc, g, lc'⟩ cs cs' := e ▸ WkL.low h

set_option maxHeartbeats 1000000 in
theorem pure_exprs : ∀ (x : Ex), sz x * 64 ≤ 140737488355328 → Pure prog F_parlref4_exprs [exD x] (.lst ((exL x).map exD))
  | .mk kd nn aa rr xs, hsz => by
    have hrec : ∀ y ∈ xs, Pure prog F_parlref4_exprs [exD y] (.lst ((exL y).map exD)) := fun y hy => pure_exprs y (by have := sz_mem hy; rw [sz_mk] at hsz; omega)
    have hszm := sz_mk kd nn aa rr xs
    have hkl := len_le_sz xs
    have hexm := exL_mk kd nn aa rr xs
    have hx0 : cellsF exD [.mk kd nn aa rr xs] = [.int .i64 kd, .int .i64 nn, .int .i64 aa, .int .i64 rr, .lst (xs.map exD)] := by rw [cellsF_one, exD_mk]; rfl
    generalize hX : Ex.mk kd nn aa rr xs = X at *
    have hXD : exD X = .agg [.int .i64 kd, .int .i64 nn, .int .i64 aa, .int .i64 rr, .lst (xs.map exD)] := by rw [← hX, exD_mk]
    rw [hXD]
    intro n h
    refine K_parlref4_exprs.calls fun hl => ?_
    unfold C_parlref4_exprs
    have hlx := low_exs n xs
    simp -implicitDefEqProofs only [↓symPre, symPost, y_condP, y_condG, run, lver, minD, intsD, eqAll, tupD, splice, Nat.zero_add, Nat.add_zero, Nat.zero_mul, Nat.mul_one, Nat.one_mul, Nat.reduceAdd, Nat.reduceSub, Nat.reduceMul, Nat.reduceLT, Nat.reduceLeDiff, Nat.reduceEqDiff, true_and, and_true, true_implies, if_true, if_false, ite_true, reduceIte, ne_eq, not_false_eq_true, reduceCtorEq, forall_const, bne_self_eq_false, Bool.true_eq_false, Bool.false_eq_true, false_implies, and_self, implies_true, Int.toNat_zero, beq_self_eq_true, decide_true, decide_false, Bool.not_true, Bool.not_false, ↓y_lookv, y_key1, y_mlook, y_mlookn, y_mres1, y_mres0, ↓y_call, List.length_map]
    refine aloop (fun q : Nat × Nat => St.mk n ([.top, .top, .nils, .ref 5 (n + 7) q.2 0 (1 + ((xs.take q.1).map sz).sum)] ++ List.replicate 5 .top ++ [.lst (xs.map exD), .int .i64 xs.length, .int .i64 q.1] ++ List.replicate 9 .top) h
        (List.replicate 7 blk0 ++ [⟨q.2, .cells (cellsF exD (X :: ((xs.take q.1).map exL).flatten))⟩] ++ List.replicate 13 blk0))
      (fun q => q.1 ≤ xs.length ∧ 1 ≤ q.2) (fun q => xs.length - q.1) (0, 1) ⟨Nat.zero_le _, Nat.le_refl _⟩ ?_ ?_
    · refine le_to (List.replicate 7 .hole ++ [.old 7] ++ List.replicate 13 .hole) hl rfl ?_ ?_ <;> simp only [List.take_zero, List.map_nil, List.flatten_nil, hx0] <;> ((try simp only [y_blk_end, y_blk_hole, y_blk_nil, y_blk_old, y_wkl_end, y_wkl_top, List.replicate, List.cons_append, List.nil_append, and_true, true_and]) <;> (repeat' (first | apply And.intro | apply y_wkl | refine Exists.intro _ (And.intro rfl ?_))) <;> (try first | exact trivial | exact Wk.top _ | exact wk_int rfl | exact wk_bool rfl | exact wk_ptr rfl rfl rfl rfl | exact wk_ref rfl rfl rfl rfl rfl | exact wk_nil rfl rfl rfl | exact wk_ref rfl rfl rfl rfl (by simp) | exact wk_ref rfl rfl rfl rfl (by simp; omega) | exact wk_old (by assumption) (by simp) | exact wk_eq rfl (by first | exact Bd.int _ _ | exact Bd.bool _ | exact Bd.abool | exact Bd.nils | exact Bd.emp | exact Bd.nilp | exact Bd.nilfn | assumption | exact low_trees _ _ | exact low_treeD _ _ | exact low_ints _ _) | exact Nat.le_refl _ | exact wk_int (by simp) | exact wk_int (by omega) | exact Nat.succ_le_succ (Nat.zero_le _) | exact Nat.le_add_left _ _ | omega))
    · rintro ⟨i, v⟩ ⟨hi, hv⟩
      simp only at hi hv
      by_cases hlt : i < xs.length
      · have f1 : (i : Int) < (xs.length : Int) := by omega
        have f0 : (0 : Int) ≤ (i : Int) := by omega
        have hst := sz_take_succ xs i hlt
        have hle := sz_take_le xs (i + 1)
        have w1 : IntKind.i64.wrap ((i : Int) + 1) = ((i + 1 : Nat) : Int) := by rw [IntWalk.i64_in _ (by omega)]; omega
        have e0 := nth_exs xs i hlt
        have py := hrec xs[i] (List.getElem_mem hlt)
        have hel := exL_take_succ xs i hlt
        have hyl := exL_len xs[i]
        generalize xs[i] = y at *
        have hlL := low_exs n (exL y)
        have hsc : (∀ x ∈ (exL y).map exD, x.cells.length = 5) = True := by
          simp only [eq_iff_iff, iff_true]
          intro x hx
          obtain ⟨z, _, rfl⟩ := List.mem_map.1 hx; exact exD_cells z
        have hone : (∀ c ∈ cellsF exD (exL y), c.one = true) = True := by
          simp only [eq_iff_iff, iff_true]; exact one_exs _
        have hcf : ((exL y).map exD).flatMap D.cells = cellsF exD (exL y) := rfl
        obtain ⟨E, hE⟩ : ∃ E, E = cellsF exD (X :: ((xs.take i).map exL).flatten) := ⟨_, rfl⟩
        have hEl : E.length = (1 + ((xs.take i).map sz).sum) * 5 := by
          rw [hE, cellsF_len exD exD_cells, List.length_cons, exL_take_len]; omega
        have hEt : E.take ((1 + ((xs.take i).map sz).sum) * 5) = E := by rw [← hEl, List.take_length]
        have hEt' : (1 + ((xs.take i).map sz).sum) * 5 ≤ E.length := by omega
        have hE2 : E ++ cellsF exD (exL y) = cellsF exD (X :: ((xs.take (i + 1)).map exL).flatten) := by
          rw [hel, hE, ← List.cons_append, cellsF_app]
        have hf : (1 + ((xs.take i).map sz).sum + (exL y).length) * 56 ≤ 140737488355328 := by omega
        obtain ⟨yk, yn, ya, yr, ys, rfl⟩ : ∃ k n a r l, y = .mk k n a r l := by cases y; exact ⟨_, _, _, _, _, rfl⟩
        rw [exD_mk] at e0 py
        have hlys := low_exs n ys
        rw [← hE]
        simp -implicitDefEqProofs only [↓symPre, symPost, y_condP, y_condG, run, lver, minD, intsD, eqAll, tupD, splice, Nat.zero_add, Nat.add_zero, Nat.zero_mul, Nat.mul_one, Nat.one_mul, Nat.reduceAdd, Nat.reduceSub, Nat.reduceMul, Nat.reduceLT, Nat.reduceLeDiff, Nat.reduceEqDiff, true_and, and_true, true_implies, if_true, if_false, ite_true, reduceIte, ne_eq, not_false_eq_true, reduceCtorEq, forall_const, bne_self_eq_false, Bool.true_eq_false, Bool.false_eq_true, false_implies, and_self, implies_true, Int.toNat_zero, beq_self_eq_true, decide_true, decide_false, Bool.not_true, Bool.not_false, ↓y_lookv, y_key1, y_mlook, y_mlookn, y_mres1, y_mres0, ↓y_call, f1, f0, decide_true, List.length_map, Int.toNat_natCast, e0]
        refine py.call rfl ?_
        simp -implicitDefEqProofs only [↓symPre, symPost, y_condP, y_condG, run, lver, minD, intsD, eqAll, tupD, splice, Nat.zero_add, Nat.add_zero, Nat.zero_mul, Nat.mul_one, Nat.one_mul, Nat.reduceAdd, Nat.reduceSub, Nat.reduceMul, Nat.reduceLT, Nat.reduceLeDiff, Nat.reduceEqDiff, true_and, and_true, true_implies, if_true, if_false, ite_true, reduceIte, ne_eq, not_false_eq_true, reduceCtorEq, forall_const, bne_self_eq_false, Bool.true_eq_false, Bool.false_eq_true, false_implies, and_self, implies_true, Int.toNat_zero, beq_self_eq_true, decide_true, decide_false, Bool.not_true, Bool.not_false, ↓y_lookv, y_key1, y_mlook, y_mlookn, y_mres1, y_mres0, ↓y_call, w1, List.length_map, srcOf, hsc, hcf, hone, hEt, hEt', hf]
        have hlen : 1 + ((xs.take i).map sz).sum + (exL (.mk yk yn ya yr ys)).length = 1 + ((xs.take (i + 1)).map sz).sum := by omega
        rw [hlen]
        refine ⟨(i + 1, v + 1), ⟨by simp only; omega, by simp only; omega⟩, by simp only; omega, ?_⟩
        refine le_to (List.replicate 7 .hole ++ [.old 7] ++ List.replicate 13 .hole) hl rfl ?_ ?_ <;> ((try simp only [y_blk_end, y_blk_hole, y_blk_nil, y_blk_old, y_wkl_end, y_wkl_top, List.replicate, List.cons_append, List.nil_append, and_true, true_and]) <;> (repeat' (first | apply And.intro | apply y_wkl | refine Exists.intro _ (And.intro rfl ?_))) <;> (try first | exact trivial | exact Wk.top _ | exact wk_int rfl | exact wk_bool rfl | exact wk_ptr rfl rfl rfl rfl | exact wk_ref rfl rfl rfl rfl rfl | exact wk_nil rfl rfl rfl | exact wk_ref rfl rfl rfl rfl (by simp) | exact wk_ref rfl rfl rfl rfl (by simp; omega) | exact wk_old (by assumption) (by simp) | exact wk_eq rfl (by first | exact Bd.int _ _ | exact Bd.bool _ | exact Bd.abool | exact Bd.nils | exact Bd.emp | exact Bd.nilp | exact Bd.nilfn | assumption | exact low_trees _ _ | exact low_treeD _ _ | exact low_ints _ _) | exact Nat.le_refl _ | exact wk_int (by simp) | exact wk_int (by omega) | exact Nat.succ_le_succ (Nat.zero_le _) | exact Nat.le_add_left _ _ | omega))
        · exact wkl_low hE2 (by rw [hE2]; exact low_cellsF exD (low_exD n) _)
      · have f1 : ¬ (i : Int) < (xs.length : Int) := by omega
        have hil : i = xs.length := by omega
        subst hil
        rw [List.take_length]
        simp -implicitDefEqProofs only [↓symPre, symPost, y_condP, y_condG, run, lver, minD, intsD, eqAll, tupD, splice, Nat.zero_add, Nat.add_zero, Nat.zero_mul, Nat.mul_one, Nat.one_mul, Nat.reduceAdd, Nat.reduceSub, Nat.reduceMul, Nat.reduceLT, Nat.reduceLeDiff, Nat.reduceEqDiff, true_and, and_true, true_implies, if_true, if_false, ite_true, reduceIte, ne_eq, not_false_eq_true, reduceCtorEq, forall_const, bne_self_eq_false, Bool.true_eq_false, Bool.false_eq_true, false_implies, and_self, implies_true, Int.toNat_zero, beq_self_eq_true, decide_true, decide_false, Bool.not_true, Bool.not_false, ↓y_lookv, y_key1, y_mlook, y_mlookn, y_mres1, y_mres0, ↓y_call, f1, decide_false]
        refine fin_wk hl (wk_frzF exD exD_cells (low_exD _) (l := X :: (xs.map exL).flatten) rfl rfl (by simp) ?_) ⟨rfl, rfl, by rw [hexm]⟩
        rw [List.length_cons, exL_take_len]; omega

end Abs
end Go.Proofs.Ytbdcklchcdkhbaa

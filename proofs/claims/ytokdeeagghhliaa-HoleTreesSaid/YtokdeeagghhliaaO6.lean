/- The table: free. -/
import Derived.Test.YtokdeeagghhliaaO5
namespace Go.Proofs.Ytokdeeagghhliaa
namespace Abs
set_option linter.unusedVariables false
set_option linter.unusedSimpArgs false
set_option maxRecDepth 20000

/-- the cells of a table -/
def tabC (g : Gr) (l : List Sy) (Le Pa : D) : List D := [.int .i64 g.terms, .int .i64 g.nons, .int .i64 g.start, .lst (g.rules.map ruleD), .lst (l.map symD), Le, Pa]
/-- the least words, where a table has them: frozen, or live -/
def LeastAt (n : Nat) (h : Heap) (Le : D) (ws : List Wd) : Prop := Le = .lst (ws.map wD) ∨ ∃ b ver, b < n ∧ Le = .ref 3 b ver 0 ws.length ∧ h b = ⟨ver, .cells (cellsF wD ws)⟩

def freeW (ws : List Wd) (x : Sy) : Wd := if x.t then ⟨true, 1, [x.n]⟩ else ws.getD x.n.toNat wd0

theorem nth_wD (ws : List Wd) (i : Nat) (hi : i < ws.length) : nth (ws.map wD) i = wD (ws.getD i wd0) := by
  rw [nth_mapF wD ws i hi]; simp [List.getD, hi]
theorem cells_wD : ∀ (ws : List Wd) (i : Nat), i < ws.length → ((cellsF wD ws).drop (i * 3)).take 3 = [.bool (ws.getD i wd0).ok, .int .i64 (ws.getD i wd0).n, iD (ws.getD i wd0).w]
  | [], i, h => by simp at h
  | x :: ws, 0, h => rfl
  | x :: ws, i + 1, h => by
    have e : (i + 1) * 3 = i * 3 + 1 + 1 + 1 := by omega
    show ((wD x).cells ++ cellsF wD ws |>.drop ((i + 1) * 3)).take 3 = _
    rw [e]
    exact cells_wD ws i (by simpa using h)

theorem at_free (g : Gr) (l : List Sy) (x : Sy) (ws : List Wd) (Le Pa : D) {n : Nat} {h : Heap} {b ver : Nat} (hb : b < n) (hh : h b = ⟨ver, .cells (tabC g l Le Pa)⟩) (hL : LeastAt n h Le ws)
    (hx : x.t = false → 0 ≤ x.n ∧ x.n < ws.length) :
    ACalls prog F_hole_table_free [.ptr b ver 0, symD x] n h fun d h' x' => h' = h ∧ x' = [] ∧ d = wD (freeW ws x) := by
  refine K_hole_table_free.calls fun hl => ?_
  unfold C_hole_table_free
  unfold symD
  unfold tabC at hh
  obtain ⟨xt, xn⟩ := x
  cases xt with
  | true =>
    simp -implicitDefEqProofs only [↓symPre, symPost, y_condP, y_condG, run, lver, minD, intsD, eqAll, tupD, splice, Nat.zero_add, Nat.add_zero, Nat.zero_mul, Nat.mul_one, Nat.one_mul, Nat.reduceAdd, Nat.reduceSub, Nat.reduceMul, Nat.reduceLT, Nat.reduceLeDiff, Nat.reduceEqDiff, true_and, and_true, true_implies, if_true, if_false, ite_true, reduceIte, ne_eq, not_false_eq_true, reduceCtorEq, forall_const, bne_self_eq_false, Bool.true_eq_false, Bool.false_eq_true, false_implies, and_self, implies_true, Int.toNat_zero, beq_self_eq_true, decide_true, decide_false, Bool.not_true, Bool.not_false, ↓y_lookv, y_key1, y_mlook, y_mlookn, y_mres1, y_mres0, ↓y_call, ↓y_at_old hb, hh, hb]
    exact fin_wk hl (wk_agg3w (.low _ (.bool _)) wk_i (wk_ints (t := 9) (l := [xn]) rfl rfl)) ⟨rfl, rfl, rfl⟩
  | false =>
    obtain ⟨x1, x2⟩ := hx rfl
    simp only at x1 x2
    have hi : xn.toNat < ws.length := by omega
    have hf : freeW ws ⟨false, xn⟩ = ws.getD xn.toNat wd0 := rfl
    rcases hL with rfl | ⟨lb, lv, hlb, rfl, hlh⟩
    · have e1 := nth_wD ws xn.toNat hi
      simp -implicitDefEqProofs only [↓symPre, symPost, y_condP, y_condG, run, lver, minD, intsD, eqAll, tupD, splice, Nat.zero_add, Nat.add_zero, Nat.zero_mul, Nat.mul_one, Nat.one_mul, Nat.reduceAdd, Nat.reduceSub, Nat.reduceMul, Nat.reduceLT, Nat.reduceLeDiff, Nat.reduceEqDiff, true_and, and_true, true_implies, if_true, if_false, ite_true, reduceIte, ne_eq, not_false_eq_true, reduceCtorEq, forall_const, bne_self_eq_false, Bool.true_eq_false, Bool.false_eq_true, false_implies, and_self, implies_true, Int.toNat_zero, beq_self_eq_true, decide_true, decide_false, Bool.not_true, Bool.not_false, ↓y_lookv, y_key1, y_mlook, y_mlookn, y_mres1, y_mres0, ↓y_call, ↓y_at_old hb, hh, hb]
      refine adrawq hmix [[], [], [], [], [], [], [], [], [n + 4]] ?_
      simp (maxSteps := 400000) -implicitDefEqProofs only [↓symPre, symPost, y_condP, y_condG, run, lver, minD, intsD, eqAll, tupD, splice, Nat.zero_add, Nat.add_zero, Nat.zero_mul, Nat.mul_one, Nat.one_mul, Nat.reduceAdd, Nat.reduceSub, Nat.reduceMul, Nat.reduceLT, Nat.reduceLeDiff, Nat.reduceEqDiff, true_and, and_true, true_implies, if_true, if_false, ite_true, reduceIte, ne_eq, not_false_eq_true, reduceCtorEq, forall_const, bne_self_eq_false, Bool.true_eq_false, Bool.false_eq_true, false_implies, and_self, implies_true, Int.toNat_zero, beq_self_eq_true, decide_true, decide_false, Bool.not_true, Bool.not_false, ↓y_lookv, y_key1, y_mlook, y_mlookn, y_mres1, y_mres0, ↓y_call, ↓y_adq0, ↓y_adq, ↓y_stepQ_call, ↓y_adq_onT, ↓y_adq_onF, ↓y_adq_onS, drawPost, isCall, isNew, isEff, Option.toList, or_false, false_or, cond_true, cond_false, not_true_eq_false, or_true, true_or, Nat.add_left_cancel_iff, Bool.false_eq_true, ↓y_q0, ↓y_q1, ↓y_q1e, y_qn, isMap, ↓y_at_old hb, hh, hb, List.length_map, x1, x2, e1, wD]
      refine ⟨by rintro c (rfl | rfl | rfl) <;> rfl, ?_⟩
      exact fin_low hl (low_wD n (ws.getD xn.toNat wd0)) ⟨rfl, rfl, by rw [hf]; rfl⟩
    · have e1 := cells_wD ws xn.toNat hi
      have elen : (cellsF wD ws).length = ws.length * 3 := cellsF_len wD wD_cells ws
      have i1 : xn.toNat * 3 + 3 ≤ ws.length * 3 := by omega
      simp -implicitDefEqProofs only [↓symPre, symPost, y_condP, y_condG, run, lver, minD, intsD, eqAll, tupD, splice, Nat.zero_add, Nat.add_zero, Nat.zero_mul, Nat.mul_one, Nat.one_mul, Nat.reduceAdd, Nat.reduceSub, Nat.reduceMul, Nat.reduceLT, Nat.reduceLeDiff, Nat.reduceEqDiff, true_and, and_true, true_implies, if_true, if_false, ite_true, reduceIte, ne_eq, not_false_eq_true, reduceCtorEq, forall_const, bne_self_eq_false, Bool.true_eq_false, Bool.false_eq_true, false_implies, and_self, implies_true, Int.toNat_zero, beq_self_eq_true, decide_true, decide_false, Bool.not_true, Bool.not_false, ↓y_lookv, y_key1, y_mlook, y_mlookn, y_mres1, y_mres0, ↓y_call, ↓y_at_old hb, hh, hb]
      refine adrawq hmix [[], [], [], [], [], [], [], [], [n + 4]] ?_
      simp (maxSteps := 400000) -implicitDefEqProofs only [↓symPre, symPost, y_condP, y_condG, run, lver, minD, intsD, eqAll, tupD, splice, Nat.zero_add, Nat.add_zero, Nat.zero_mul, Nat.mul_one, Nat.one_mul, Nat.reduceAdd, Nat.reduceSub, Nat.reduceMul, Nat.reduceLT, Nat.reduceLeDiff, Nat.reduceEqDiff, true_and, and_true, true_implies, if_true, if_false, ite_true, reduceIte, ne_eq, not_false_eq_true, reduceCtorEq, forall_const, bne_self_eq_false, Bool.true_eq_false, Bool.false_eq_true, false_implies, and_self, implies_true, Int.toNat_zero, beq_self_eq_true, decide_true, decide_false, Bool.not_true, Bool.not_false, ↓y_lookv, y_key1, y_mlook, y_mlookn, y_mres1, y_mres0, ↓y_call, ↓y_adq0, ↓y_adq, ↓y_stepQ_call, ↓y_adq_onT, ↓y_adq_onF, ↓y_adq_onS, drawPost, isCall, isNew, isEff, Option.toList, or_false, false_or, cond_true, cond_false, not_true_eq_false, or_true, true_or, Nat.add_left_cancel_iff, Bool.false_eq_true, ↓y_q0, ↓y_q1, ↓y_q1e, y_qn, isMap, ↓y_at_old hb, hh, hb, ↓y_at_old hlb, hlh, hlb, x1, x2, e1, elen, i1]
      refine ⟨by rintro c (rfl | rfl | rfl) <;> rfl, ?_⟩
      exact fin_low hl (low_wD n (ws.getD xn.toNat wd0)) ⟨rfl, rfl, by rw [hf]; rfl⟩

end Abs
end Go.Proofs.Ytokdeeagghhliaa

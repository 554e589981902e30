/- The table: cell. -/
import Derived.Test.YtokdeeagghhliaaO6
namespace Go.Proofs.Ytokdeeagghhliaa
namespace Abs
set_option linter.unusedVariables false
set_option linter.unusedSimpArgs false
set_option maxRecDepth 20000

section
variable {n : Nat} {sl : List D} {h : Heap} {lc : List Blk}
theorem y_eqsN (dst : Option Nat) (K : D → Chg → Prop) (ks : List Nat) (x y : Opd) :
    run (St.mk n sl h lc) dst K (.eqs true ks x y) = match St.val (St.mk n sl h lc) x, St.val (St.mk n sl h lc) y with
      | .agg xs, .agg ys => eqAll ks xs ys fun b => K (.bool (!b)) []
      | _, _ => False := by
  simp only [run, Bool.bne_true]; rfl
theorem y_eqSyT {a b : Bool} {r r' : Int} {K : Bool → Prop} (h : (a == b && r == r') = true) : eqAll [1, 0] [.bool a, .int .i64 r] [.bool b, .int .i64 r'] K = K true := by
  simp [eqAll, h]
theorem y_eqSyF {a b : Bool} {r r' : Int} {K : Bool → Prop} (h : (a == b && r == r') = false) : eqAll [1, 0] [.bool a, .int .i64 r] [.bool b, .int .i64 r'] K = K false := by
  simp [eqAll, h]
end

theorem LeastAt.up {n : Nat} {h : Heap} {Le : D} {ws : List Wd} (hL : LeastAt n h Le ws) {lc : List Blk} {N : Nat} (hN : n ≤ N) : LeastAt N (mrg n h lc) Le ws := by
  rcases hL with h1 | ⟨b, ver, h1, h2, h3⟩
  · exact .inl h1
  · exact .inr ⟨b, ver, by omega, h2, by rw [mrg_lt h1]; exact h3⟩

def sy0 : Sy := ⟨false, 0⟩
/-- does the cell c of a pattern take the symbol x? -/
def takes (c x : Sy) : Bool := (c.t == x.t && c.n == x.n) || (c.t && c.n == -1 && x.t)
def cellW (ws : List Wd) (l : List Sy) (x : Sy) (i : Nat) : Wd := if takes (l.getD i sy0) x then freeW ws x else wd0

theorem at_cell (g : Gr) (l : List Sy) (x : Sy) (i : Nat) (ws : List Wd) (Le Pa : D) {n : Nat} {h : Heap} {b ver : Nat} (hb : b < n) (hh : h b = ⟨ver, .cells (tabC g l Le Pa)⟩) (hL : LeastAt n h Le ws)
    (hx : x.t = false → 0 ≤ x.n ∧ x.n < ws.length) (hi : i < l.length) :
    ACalls prog F_hole_table_cell [.ptr b ver 0, symD x, .int .i64 i] n h fun d h' x' => h' = h ∧ x' = [] ∧ d = wD (cellW ws l x i) := by
  have hf := fun lc : List Blk => at_free g l x ws Le Pa (n := n + 36) (h := mrg n h lc) (b := b) (ver := ver) (by omega) (by rw [mrg_lt hb]; exact hh) (hL.up (by omega)) hx
  refine K_hole_table_cell.calls fun hl => ?_
  unfold C_hole_table_cell
  have e0 := nth_sym l i hi
  have i0 : (0 : Int) ≤ (i : Int) := by omega
  have i1 : (i : Int) < (l.length : Int) := by omega
  have e9 : l.getD i sy0 = l.getD i ⟨false, 0⟩ := rfl
  unfold cellW
  rw [e9]
  generalize l.getD i ⟨false, 0⟩ = c at *
  obtain ⟨ct, cn⟩ := c
  obtain ⟨xt, xn⟩ := x
  unfold tabC at hh
  unfold symD at hf ⊢
  simp only at e0 hf
  have q1 : (false == true) = false := rfl
  have q2 : (true == false) = false := rfl
  have no : takes ⟨ct, cn⟩ ⟨xt, xn⟩ = false → wd0 = if takes ⟨ct, cn⟩ ⟨xt, xn⟩ = true then freeW ws ⟨xt, xn⟩ else wd0 := fun e => by rw [if_neg (by rw [e]; simp)]
  have yes : takes ⟨ct, cn⟩ ⟨xt, xn⟩ = true → freeW ws ⟨xt, xn⟩ = if takes ⟨ct, cn⟩ ⟨xt, xn⟩ = true then freeW ws ⟨xt, xn⟩ else wd0 := fun e => by rw [if_pos e]
  have fin0 : ∀ {sl lc}, takes ⟨ct, cn⟩ ⟨xt, xn⟩ = false → Fin (St.mk n sl h lc) (fun d h' x' => h' = h ∧ x' = [] ∧ d = wD (if takes ⟨ct, cn⟩ ⟨xt, xn⟩ = true then freeW ws ⟨xt, xn⟩ else wd0)) [.agg [.bool false, .int .i64 0, .nils]] := fun e =>
    fin_wk hl (wk_agg3w (.low _ (.bool _)) wk_i .nilsLst) ⟨rfl, rfl, by rw [← no e]; rfl⟩
  generalize hr : freeW ws ⟨xt, xn⟩ = r at *
  obtain ⟨ro, rn, rw'⟩ := r
  cases hct : ct with
  | false =>
    subst hct
    cases hxt : xt with
    | false =>
      subst hxt
      by_cases hn : cn = xn
      · have b1 : (cn == xn) = true := by simp [hn]
        have ht : takes ⟨false, cn⟩ ⟨false, xn⟩ = true := by simp [takes, hn]
        simp -implicitDefEqProofs only [↓symPre, symPost, y_condP, y_condG, run, lver, minD, intsD, eqAll, tupD, splice, Nat.zero_add, Nat.add_zero, Nat.zero_mul, Nat.mul_one, Nat.one_mul, Nat.reduceAdd, Nat.reduceSub, Nat.reduceMul, Nat.reduceLT, Nat.reduceLeDiff, Nat.reduceEqDiff, true_and, and_true, true_implies, if_true, if_false, ite_true, reduceIte, ne_eq, not_false_eq_true, reduceCtorEq, forall_const, bne_self_eq_false, Bool.true_eq_false, Bool.false_eq_true, false_implies, and_self, implies_true, Int.toNat_zero, beq_self_eq_true, decide_true, decide_false, Bool.not_true, Bool.not_false, ↓y_lookv, y_key1, y_mlook, y_mlookn, y_mres1, y_mres0, ↓y_call, ↓y_at_old hb, hh, hb, List.length_map, Int.toNat_natCast, i0, i1, e0, b1, Bool.not_true, Bool.not_false, ↓y_eqsN, ↓y_eqSyT, ↓y_eqSyF, ↓reduceIte, beq_self_eq_true, Bool.false_and, Bool.true_and, Bool.and_self, q1, q2]
        refine ACalls.none0 rfl (hf _) ?_
        unfold wD
        simp -implicitDefEqProofs only [↓symPre, symPost, y_condP, y_condG, run, lver, minD, intsD, eqAll, tupD, splice, Nat.zero_add, Nat.add_zero, Nat.zero_mul, Nat.mul_one, Nat.one_mul, Nat.reduceAdd, Nat.reduceSub, Nat.reduceMul, Nat.reduceLT, Nat.reduceLeDiff, Nat.reduceEqDiff, true_and, and_true, true_implies, if_true, if_false, ite_true, reduceIte, ne_eq, not_false_eq_true, reduceCtorEq, forall_const, bne_self_eq_false, Bool.true_eq_false, Bool.false_eq_true, false_implies, and_self, implies_true, Int.toNat_zero, beq_self_eq_true, decide_true, decide_false, Bool.not_true, Bool.not_false, ↓y_lookv, y_key1, y_mlook, y_mlookn, y_mres1, y_mres0, ↓y_call]
        exact fin_low hl (low_wD n ⟨ro, rn, rw'⟩) ⟨rfl, rfl, by rw [← yes ht]; rfl⟩
      · have b1 : (cn == xn) = false := by simp [hn]
        have ht : takes ⟨false, cn⟩ ⟨false, xn⟩ = false := by simp [takes, hn]
        simp -implicitDefEqProofs only [↓symPre, symPost, y_condP, y_condG, run, lver, minD, intsD, eqAll, tupD, splice, Nat.zero_add, Nat.add_zero, Nat.zero_mul, Nat.mul_one, Nat.one_mul, Nat.reduceAdd, Nat.reduceSub, Nat.reduceMul, Nat.reduceLT, Nat.reduceLeDiff, Nat.reduceEqDiff, true_and, and_true, true_implies, if_true, if_false, ite_true, reduceIte, ne_eq, not_false_eq_true, reduceCtorEq, forall_const, bne_self_eq_false, Bool.true_eq_false, Bool.false_eq_true, false_implies, and_self, implies_true, Int.toNat_zero, beq_self_eq_true, decide_true, decide_false, Bool.not_true, Bool.not_false, ↓y_lookv, y_key1, y_mlook, y_mlookn, y_mres1, y_mres0, ↓y_call, ↓y_at_old hb, hh, hb, List.length_map, Int.toNat_natCast, i0, i1, e0, b1, Bool.not_true, Bool.not_false, ↓y_eqsN, ↓y_eqSyT, ↓y_eqSyF, ↓reduceIte, beq_self_eq_true, Bool.false_and, Bool.true_and, Bool.and_self, q1, q2]
        exact fin0 ht
    | true =>
      subst hxt
      have ht : takes ⟨false, cn⟩ ⟨true, xn⟩ = false := by simp [takes]
      simp -implicitDefEqProofs only [↓symPre, symPost, y_condP, y_condG, run, lver, minD, intsD, eqAll, tupD, splice, Nat.zero_add, Nat.add_zero, Nat.zero_mul, Nat.mul_one, Nat.one_mul, Nat.reduceAdd, Nat.reduceSub, Nat.reduceMul, Nat.reduceLT, Nat.reduceLeDiff, Nat.reduceEqDiff, true_and, and_true, true_implies, if_true, if_false, ite_true, reduceIte, ne_eq, not_false_eq_true, reduceCtorEq, forall_const, bne_self_eq_false, Bool.true_eq_false, Bool.false_eq_true, false_implies, and_self, implies_true, Int.toNat_zero, beq_self_eq_true, decide_true, decide_false, Bool.not_true, Bool.not_false, ↓y_lookv, y_key1, y_mlook, y_mlookn, y_mres1, y_mres0, ↓y_call, ↓y_at_old hb, hh, hb, List.length_map, Int.toNat_natCast, i0, i1, e0, Bool.not_true, Bool.not_false, ↓y_eqsN, ↓y_eqSyT, ↓y_eqSyF, ↓reduceIte, beq_self_eq_true, Bool.false_and, Bool.true_and, Bool.and_self, q1, q2]
      exact fin0 ht
  | true =>
    subst hct
    cases hxt : xt with
    | false =>
      subst hxt
      have ht : takes ⟨true, cn⟩ ⟨false, xn⟩ = false := by simp [takes]
      by_cases hm : cn = -1
      · have b2 : (cn == -1) = true := by simp [hm]
        simp -implicitDefEqProofs only [↓symPre, symPost, y_condP, y_condG, run, lver, minD, intsD, eqAll, tupD, splice, Nat.zero_add, Nat.add_zero, Nat.zero_mul, Nat.mul_one, Nat.one_mul, Nat.reduceAdd, Nat.reduceSub, Nat.reduceMul, Nat.reduceLT, Nat.reduceLeDiff, Nat.reduceEqDiff, true_and, and_true, true_implies, if_true, if_false, ite_true, reduceIte, ne_eq, not_false_eq_true, reduceCtorEq, forall_const, bne_self_eq_false, Bool.true_eq_false, Bool.false_eq_true, false_implies, and_self, implies_true, Int.toNat_zero, beq_self_eq_true, decide_true, decide_false, Bool.not_true, Bool.not_false, ↓y_lookv, y_key1, y_mlook, y_mlookn, y_mres1, y_mres0, ↓y_call, ↓y_at_old hb, hh, hb, List.length_map, Int.toNat_natCast, i0, i1, e0, b2, Bool.not_true, Bool.not_false, ↓y_eqsN, ↓y_eqSyT, ↓y_eqSyF, ↓reduceIte, beq_self_eq_true, Bool.false_and, Bool.true_and, Bool.and_self, q1, q2]
        exact fin0 ht
      · have b2 : (cn == -1) = false := by simp [hm]
        simp -implicitDefEqProofs only [↓symPre, symPost, y_condP, y_condG, run, lver, minD, intsD, eqAll, tupD, splice, Nat.zero_add, Nat.add_zero, Nat.zero_mul, Nat.mul_one, Nat.one_mul, Nat.reduceAdd, Nat.reduceSub, Nat.reduceMul, Nat.reduceLT, Nat.reduceLeDiff, Nat.reduceEqDiff, true_and, and_true, true_implies, if_true, if_false, ite_true, reduceIte, ne_eq, not_false_eq_true, reduceCtorEq, forall_const, bne_self_eq_false, Bool.true_eq_false, Bool.false_eq_true, false_implies, and_self, implies_true, Int.toNat_zero, beq_self_eq_true, decide_true, decide_false, Bool.not_true, Bool.not_false, ↓y_lookv, y_key1, y_mlook, y_mlookn, y_mres1, y_mres0, ↓y_call, ↓y_at_old hb, hh, hb, List.length_map, Int.toNat_natCast, i0, i1, e0, b2, Bool.not_true, Bool.not_false, ↓y_eqsN, ↓y_eqSyT, ↓y_eqSyF, ↓reduceIte, beq_self_eq_true, Bool.false_and, Bool.true_and, Bool.and_self, q1, q2]
        exact fin0 ht
    | true =>
      subst hxt
      by_cases hn : cn = xn
      · have b1 : (cn == xn) = true := by simp [hn]
        have ht : takes ⟨true, cn⟩ ⟨true, xn⟩ = true := by simp [takes, hn]
        simp -implicitDefEqProofs only [↓symPre, symPost, y_condP, y_condG, run, lver, minD, intsD, eqAll, tupD, splice, Nat.zero_add, Nat.add_zero, Nat.zero_mul, Nat.mul_one, Nat.one_mul, Nat.reduceAdd, Nat.reduceSub, Nat.reduceMul, Nat.reduceLT, Nat.reduceLeDiff, Nat.reduceEqDiff, true_and, and_true, true_implies, if_true, if_false, ite_true, reduceIte, ne_eq, not_false_eq_true, reduceCtorEq, forall_const, bne_self_eq_false, Bool.true_eq_false, Bool.false_eq_true, false_implies, and_self, implies_true, Int.toNat_zero, beq_self_eq_true, decide_true, decide_false, Bool.not_true, Bool.not_false, ↓y_lookv, y_key1, y_mlook, y_mlookn, y_mres1, y_mres0, ↓y_call, ↓y_at_old hb, hh, hb, List.length_map, Int.toNat_natCast, i0, i1, e0, b1, Bool.not_true, Bool.not_false, ↓y_eqsN, ↓y_eqSyT, ↓y_eqSyF, ↓reduceIte, beq_self_eq_true, Bool.false_and, Bool.true_and, Bool.and_self, q1, q2]
        refine ACalls.none0 rfl (hf _) ?_
        unfold wD
        simp -implicitDefEqProofs only [↓symPre, symPost, y_condP, y_condG, run, lver, minD, intsD, eqAll, tupD, splice, Nat.zero_add, Nat.add_zero, Nat.zero_mul, Nat.mul_one, Nat.one_mul, Nat.reduceAdd, Nat.reduceSub, Nat.reduceMul, Nat.reduceLT, Nat.reduceLeDiff, Nat.reduceEqDiff, true_and, and_true, true_implies, if_true, if_false, ite_true, reduceIte, ne_eq, not_false_eq_true, reduceCtorEq, forall_const, bne_self_eq_false, Bool.true_eq_false, Bool.false_eq_true, false_implies, and_self, implies_true, Int.toNat_zero, beq_self_eq_true, decide_true, decide_false, Bool.not_true, Bool.not_false, ↓y_lookv, y_key1, y_mlook, y_mlookn, y_mres1, y_mres0, ↓y_call]
        exact fin_low hl (low_wD n ⟨ro, rn, rw'⟩) ⟨rfl, rfl, by rw [← yes ht]; rfl⟩
      · have b1 : (cn == xn) = false := by simp [hn]
        by_cases hm : cn = -1
        · have b2 : (cn == -1) = true := by simp [hm]
          have ht : takes ⟨true, cn⟩ ⟨true, xn⟩ = true := by simp [takes, hm]
          simp -implicitDefEqProofs only [↓symPre, symPost, y_condP, y_condG, run, lver, minD, intsD, eqAll, tupD, splice, Nat.zero_add, Nat.add_zero, Nat.zero_mul, Nat.mul_one, Nat.one_mul, Nat.reduceAdd, Nat.reduceSub, Nat.reduceMul, Nat.reduceLT, Nat.reduceLeDiff, Nat.reduceEqDiff, true_and, and_true, true_implies, if_true, if_false, ite_true, reduceIte, ne_eq, not_false_eq_true, reduceCtorEq, forall_const, bne_self_eq_false, Bool.true_eq_false, Bool.false_eq_true, false_implies, and_self, implies_true, Int.toNat_zero, beq_self_eq_true, decide_true, decide_false, Bool.not_true, Bool.not_false, ↓y_lookv, y_key1, y_mlook, y_mlookn, y_mres1, y_mres0, ↓y_call, ↓y_at_old hb, hh, hb, List.length_map, Int.toNat_natCast, i0, i1, e0, b1, b2, Bool.not_true, Bool.not_false, ↓y_eqsN, ↓y_eqSyT, ↓y_eqSyF, ↓reduceIte, beq_self_eq_true, Bool.false_and, Bool.true_and, Bool.and_self, q1, q2]
          refine ACalls.none0 rfl (hf _) ?_
          unfold wD
          simp -implicitDefEqProofs only [↓symPre, symPost, y_condP, y_condG, run, lver, minD, intsD, eqAll, tupD, splice, Nat.zero_add, Nat.add_zero, Nat.zero_mul, Nat.mul_one, Nat.one_mul, Nat.reduceAdd, Nat.reduceSub, Nat.reduceMul, Nat.reduceLT, Nat.reduceLeDiff, Nat.reduceEqDiff, true_and, and_true, true_implies, if_true, if_false, ite_true, reduceIte, ne_eq, not_false_eq_true, reduceCtorEq, forall_const, bne_self_eq_false, Bool.true_eq_false, Bool.false_eq_true, false_implies, and_self, implies_true, Int.toNat_zero, beq_self_eq_true, decide_true, decide_false, Bool.not_true, Bool.not_false, ↓y_lookv, y_key1, y_mlook, y_mlookn, y_mres1, y_mres0, ↓y_call]
          exact fin_low hl (low_wD n ⟨ro, rn, rw'⟩) ⟨rfl, rfl, by rw [← yes ht]; rfl⟩
        · have b2 : (cn == -1) = false := by simp [hm]
          have ht : takes ⟨true, cn⟩ ⟨true, xn⟩ = false := by simp [takes, hm, hn]
          simp -implicitDefEqProofs only [↓symPre, symPost, y_condP, y_condG, run, lver, minD, intsD, eqAll, tupD, splice, Nat.zero_add, Nat.add_zero, Nat.zero_mul, Nat.mul_one, Nat.one_mul, Nat.reduceAdd, Nat.reduceSub, Nat.reduceMul, Nat.reduceLT, Nat.reduceLeDiff, Nat.reduceEqDiff, true_and, and_true, true_implies, if_true, if_false, ite_true, reduceIte, ne_eq, not_false_eq_true, reduceCtorEq, forall_const, bne_self_eq_false, Bool.true_eq_false, Bool.false_eq_true, false_implies, and_self, implies_true, Int.toNat_zero, beq_self_eq_true, decide_true, decide_false, Bool.not_true, Bool.not_false, ↓y_lookv, y_key1, y_mlook, y_mlookn, y_mres1, y_mres0, ↓y_call, ↓y_at_old hb, hh, hb, List.length_map, Int.toNat_natCast, i0, i1, e0, b1, b2, Bool.not_true, Bool.not_false, ↓y_eqsN, ↓y_eqSyT, ↓y_eqSyF, ↓reduceIte, beq_self_eq_true, Bool.false_and, Bool.true_and, Bool.and_self, q1, q2]
          exact fin0 ht

end Abs
end Go.Proofs.Ytokdeeagghhliaa

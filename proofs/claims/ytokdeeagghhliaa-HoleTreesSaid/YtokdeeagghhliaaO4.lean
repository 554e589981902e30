/- Words: join. -/
import Derived.Test.YtokdeeagghhliaaO3
namespace Go.Proofs.Ytokdeeagghhliaa
namespace Abs
set_option linter.unusedVariables false
set_option linter.unusedSimpArgs false
set_option maxRecDepth 20000

/-- a call that leaves all as it was -/
theorem ACalls.none0 {P : Program} {f : FuncId} {ds : List D} {r : D} {N : Nat} {H : Heap} {s : St} {dst : Option Nat} {K : D → Chg → Prop} (hH : H = s.hp)
    (hp : ACalls P f ds N H fun d h' x => h' = H ∧ x = [] ∧ d = r) (hK : K r []) : ACalls P f ds N H (callK s dst K) :=
  hp.mono fun d h' x ⟨h1, h2, h3⟩ => .inl ⟨[], by simp [St.inr], h2, by rw [h1, hH]; rfl, by rw [h3]; exact hK⟩

def joinW (a b : Wd) : Wd := ⟨true, a.n + b.n, if a.n + b.n ≤ 2000 then a.w ++ b.w else []⟩
theorem okW_join {a b : Wd} (ha : okW a) (hb : okW b) (h : a.n + b.n < 2 ^ 60) : okW (joinW a b) := by
  obtain ⟨a1, a2, a3, a4⟩ := ha
  obtain ⟨b1, b2, b3, b4⟩ := hb
  refine ⟨by simp only [joinW]; omega, h, fun h2 => ?_, ?_⟩
  · simp only [joinW] at h2 ⊢
    rw [if_pos h2, List.length_append]
    have := a3 (by omega)
    have := b3 (by omega)
    omega
  · simp only [joinW]
    split
    · have := a3 (by omega)
      have := b3 (by omega)
      rw [List.length_append]; omega
    · simp

theorem wk_agg3w {X : Wx} {a b c a' b' c' : D} (h1 : Wk X a a') (h2 : Wk X b b') (h3 : Wk X c c') : Wk X (.agg [a, b, c]) (.agg [a', b', c']) :=
  .agg _ _ rfl fun i c c' hc hc' => by
    rcases i with _ | _ | _ | i
    · simp at hc hc'; subst hc; subst hc'; exact h1
    · simp at hc hc'; subst hc; subst hc'; exact h2
    · simp at hc hc'; subst hc; subst hc'; exact h3
    · simp at hc

theorem pure_join (a b : Wd) (ha : okW a) (hb : okW b) : Pure prog F_hole_join [wD a, wD b] (wD (joinW a b)) := by
  intro n h
  obtain ⟨ao, an, aw⟩ := a
  obtain ⟨bo, bn, bw⟩ := b
  obtain ⟨a1, a2, a3, a4⟩ := ha
  obtain ⟨b1, b2, b3, b4⟩ := hb
  simp only at a1 a2 a3 a4 b1 b2 b3 b4
  have w1 : IntKind.i64.wrap (an + bn) = an + bn := IntWalk.i64_in _ (by omega)
  refine K_hole_join.calls fun hl => ?_
  unfold C_hole_join
  unfold wD joinW
  by_cases h1 : an + bn ≤ 2000
  · simp only [if_pos h1]
    have e0 : [aw, bw].flatten = aw ++ bw := by simp
    simp -implicitDefEqProofs only [↓symPre, symPost, y_condP, y_condG, run, lver, minD, intsD, eqAll, tupD, splice, Nat.zero_add, Nat.add_zero, Nat.zero_mul, Nat.mul_one, Nat.one_mul, Nat.reduceAdd, Nat.reduceSub, Nat.reduceMul, Nat.reduceLT, Nat.reduceLeDiff, Nat.reduceEqDiff, true_and, and_true, true_implies, if_true, if_false, ite_true, reduceIte, ne_eq, not_false_eq_true, reduceCtorEq, forall_const, bne_self_eq_false, Bool.true_eq_false, Bool.false_eq_true, false_implies, and_self, implies_true, Int.toNat_zero, beq_self_eq_true, decide_true, decide_false, Bool.not_true, Bool.not_false, ↓y_lookv, y_key1, y_mlook, y_mlookn, y_mres1, y_mres0, ↓y_call, w1, h1, decide_true]
    refine ACalls.none0 rfl (at_Concat [aw, bw] (by simp; omega) (by simp) (b := n + 19) (ver := 1) (by omega) (by rw [mrg_loc]; rfl)) ?_
    rw [e0]
    simp -implicitDefEqProofs only [↓symPre, symPost, y_condP, y_condG, run, lver, minD, intsD, eqAll, tupD, splice, Nat.zero_add, Nat.add_zero, Nat.zero_mul, Nat.mul_one, Nat.one_mul, Nat.reduceAdd, Nat.reduceSub, Nat.reduceMul, Nat.reduceLT, Nat.reduceLeDiff, Nat.reduceEqDiff, true_and, and_true, true_implies, if_true, if_false, ite_true, reduceIte, ne_eq, not_false_eq_true, reduceCtorEq, forall_const, bne_self_eq_false, Bool.true_eq_false, Bool.false_eq_true, false_implies, and_self, implies_true, Int.toNat_zero, beq_self_eq_true, decide_true, decide_false, Bool.not_true, Bool.not_false, ↓y_lookv, y_key1, y_mlook, y_mlookn, y_mres1, y_mres0, ↓y_call]
    exact fin_low hl (low_wD n ⟨true, an + bn, aw ++ bw⟩) ⟨rfl, rfl, rfl⟩
  · simp only [if_neg h1]
    simp -implicitDefEqProofs only [↓symPre, symPost, y_condP, y_condG, run, lver, minD, intsD, eqAll, tupD, splice, Nat.zero_add, Nat.add_zero, Nat.zero_mul, Nat.mul_one, Nat.one_mul, Nat.reduceAdd, Nat.reduceSub, Nat.reduceMul, Nat.reduceLT, Nat.reduceLeDiff, Nat.reduceEqDiff, true_and, and_true, true_implies, if_true, if_false, ite_true, reduceIte, ne_eq, not_false_eq_true, reduceCtorEq, forall_const, bne_self_eq_false, Bool.true_eq_false, Bool.false_eq_true, false_implies, and_self, implies_true, Int.toNat_zero, beq_self_eq_true, decide_true, decide_false, Bool.not_true, Bool.not_false, ↓y_lookv, y_key1, y_mlook, y_mlookn, y_mres1, y_mres0, ↓y_call, w1, h1, decide_false]
    exact fin_wk hl (wk_agg3w (.low _ (.bool _)) wk_i .nilsLst) ⟨rfl, rfl, rfl⟩

end Abs
end Go.Proofs.Ytokdeeagghhliaa

/- value: an expression out of raw numbers. -/
import Derived.Test.YtoeehfnkcfeoaaaN4
namespace Go.Proofs.Ytoeehfnkcfeoaaa
namespace Abs
set_option linter.unusedVariables false
set_option linter.unusedSimpArgs false
set_option maxRecDepth 20000

def leafF (F : List (Int × Int)) (z : Int) (l : List Int) : Ex × List Int :=
  if F.length = 0 ∨ z = 0 then (.mk 0 (nextV l 9) 0 0 [], nextL l 9)
  else (.mk 1 0 (F.getD (nextV l F.length).toNat (0, 0)).1 (F.getD (nextV l F.length).toNat (0, 0)).2 [], nextL l F.length)
def itF (f : List Int → Ex × List Int) : Nat → List Int → List Ex × List Int
  | 0, l => ([], l)
  | m + 1, l => ((itF f m l).1 ++ [(f (itF f m l).2).1], (f (itF f m l).2).2)
def manyF (z : Int) (l : List Int) : Int := if z = 5 then 2 else if z = 6 then 3 else 1 + nextV l 2
def valF (F : List (Int × Int)) : Nat → List Int → Ex × List Int
  | 0, l => leafF F (nextV l 7) (nextL l 7)
  | d + 1, l => if nextV l 7 = 0 ∨ nextV l 7 = 1 then leafF F (nextV l 7) (nextL l 7)
    else (.mk (nextV l 7) 0 0 0 (itF (valF F d) (manyF (nextV l 7) (nextL l 7)).toNat (nextL (nextL l 7) 2)).1, (itF (valF F d) (manyF (nextV l 7) (nextL l 7)).toNat (nextL (nextL l 7) 2)).2)

theorem nextL_le (l : List Int) (k : Int) : (nextL l k).length ≤ l.length := by
  unfold nextL
  split
  · simp
  · split <;> simp
theorem itF_len {f : List Int → Ex × List Int} : ∀ (m : Nat) (l : List Int), (itF f m l).1.length = m
  | 0, l => rfl
  | m + 1, l => by simp [itF, itF_len m l]
theorem itF_le {f : List Int → Ex × List Int} (hf : ∀ l, (f l).2.length ≤ l.length) : ∀ (m : Nat) (l : List Int), (itF f m l).2.length ≤ l.length
  | 0, l => Nat.le_refl _
  | m + 1, l => Nat.le_trans (hf _) (itF_le hf m l)
theorem leafF_le (F : List (Int × Int)) (z : Int) (l : List Int) : (leafF F z l).2.length ≤ l.length := by
  unfold leafF
  split <;> exact nextL_le _ _
theorem valF_le (F : List (Int × Int)) : ∀ (d : Nat) (l : List Int), (valF F d l).2.length ≤ l.length
  | 0, l => Nat.le_trans (leafF_le _ _ _) (nextL_le _ _)
  | d + 1, l => by
    rw [valF]
    split
    · exact Nat.le_trans (leafF_le _ _ _) (nextL_le _ _)
    · exact Nat.le_trans (itF_le (valF_le F d) _ _) (Nat.le_trans (nextL_le _ _) (nextL_le _ _))

theorem next_callO {l : List Int} {k : Int} {s : St} {N : Nat} {H : Heap} {dst : Option Nat} {K : D → Chg → Prop} {b ver : Nat} (hk : k < 2 ^ 62) (hlen : l.length < 2 ^ 60)
    (hN : N = s.n + s.lc.length) (hH : H = s.hp) (hb : b < N) (ht : H b = ⟨ver, .cells [iD l]⟩) (hK : K (.int .i64 (nextV l k)) [(b, ⟨ver, .cells [iD (nextL l k)]⟩)]) :
    ACalls prog F_parlkeep4_reader_next [.ptr b ver 0, .int .i64 k] N H (callK s dst K) := by
  subst hN
  subst hH
  exact (at_next l k hk hlen hb ht).mono fun d h' x' ⟨h1, h2, h3⟩ => .inl ⟨[(b, ⟨ver, .cells [iD (nextL l k)]⟩)], by simp [St.inr]; omega, h1, by rw [h2]; rfl, by rw [h3]; exact hK⟩

theorem nth_pairs (F : List (Int × Int)) (i : Nat) (hi : i < F.length) : nth (F.map pairD) i = .agg [.int .i64 (F.getD i (0, 0)).1, .int .i64 (F.getD i (0, 0)).2] := by
  simp [nth, List.getD, hi, pairD]
theorem wk_agg5 {X : Wx} {l l' : List D} (h : WkL X l l') : Wk X (.agg l) (.agg l') := .agg _ _ h.len h.get

set_option maxHeartbeats 4000000 in
theorem at_leaf (F : List (Int × Int)) (hF : F.length < 2 ^ 30) (dI : Int) (l : List Int) (hlen : l.length < 2 ^ 60) (hc : dI = 0 ∨ nextV l 7 = 0 ∨ nextV l 7 = 1) {n : Nat} {h : Heap} {b ver : Nat} (hb : b < n) (hh : h b = ⟨ver, .cells [iD l]⟩) :
    ACalls prog F_parlkeep4_value [.ptr b ver 0, .lst (F.map pairD), .int .i64 dI] n h fun d h' x => x = [] ∧ h' = upd h b ⟨ver, .cells [iD (leafF F (nextV l 7) (nextL l 7)).2]⟩ ∧ d = exD (leafF F (nextV l 7) (nextL l 7)).1 := by
  refine K_parlkeep4_value.calls fun hl => ?_
  unfold C_parlkeep4_value
  have hlF := low_pairs n F
  have hlo : ∀ l' : List Int, LowH n (upd h b ⟨ver, .cells [iD l']⟩) := fun l' => lowH_upd hl (by simp; exact low_ints n l')
  have hr7 := nextV_range l 7
  have hl1 := nextL_le l 7
  have hh1 : ∀ l' : List Int, upd h b ⟨ver, .cells [iD l']⟩ b = ⟨ver, .cells [iD l']⟩ := fun l' => upd_same _ _ _
  simp -implicitDefEqProofs only [↓symPre, symPost, y_condP, y_condG, run, lver, minD, intsD, eqAll, tupD, splice, Nat.zero_add, Nat.add_zero, Nat.zero_mul, Nat.mul_one, Nat.one_mul, Nat.reduceAdd, Nat.reduceSub, Nat.reduceMul, Nat.reduceLT, Nat.reduceLeDiff, Nat.reduceEqDiff, true_and, and_true, true_implies, if_true, if_false, ite_true, reduceIte, ne_eq, not_false_eq_true, reduceCtorEq, forall_const, bne_self_eq_false, Bool.true_eq_false, Bool.false_eq_true, false_implies, and_self, implies_true, Int.toNat_zero, beq_self_eq_true, decide_true, decide_false, Bool.not_true, Bool.not_false, ↓y_lookv, y_key1, y_mlook, y_mlookn, y_mres1, y_mres0, ↓y_call]
  refine next_callO (by omega) hlen rfl rfl (by show b < n + 65; omega) (by show mrg n _ _ b = _; rw [mrg_lt hb, hh]) ?_
  generalize nextV l 7 = z at *
  generalize nextL l 7 = l1 at *
  have fin0 : ∀ (sl : List D) (lc : List Blk), (F.length = 0 ∨ z = 0) → Fin (St.mk n sl (upd h b ⟨ver, .cells [iD (nextL l1 9)]⟩) lc) (fun d h' x => x = [] ∧ h' = upd h b ⟨ver, .cells [iD (leafF F z l1).2]⟩ ∧ d = exD (leafF F z l1).1) [.agg [.int .i64 0, .int .i64 (nextV l1 9), .int .i64 0, .int .i64 0, .nils]] := fun sl lc hz => by
    have e : leafF F z l1 = (.mk 0 (nextV l1 9) 0 0 [], nextL l1 9) := by rw [leafF, if_pos hz]
    rw [e]
    simp only
    rw [exD_mk, List.map_nil]
    exact fin_wk (d := .agg [.int .i64 0, .int .i64 (nextV l1 9), .int .i64 0, .int .i64 0, .lst []]) (hlo _) (wk_agg5 (y_wkl (wk_int rfl) (y_wkl (wk_int rfl) (y_wkl (wk_int rfl) (y_wkl (wk_int rfl) (y_wkl .nilsLst trivial)))))) ⟨rfl, rfl, rfl⟩
  have fin1 : ∀ (sl : List D) (lc : List Blk), ¬ (F.length = 0 ∨ z = 0) → Fin (St.mk n sl (upd h b ⟨ver, .cells [iD (nextL l1 F.length)]⟩) lc) (fun d h' x => x = [] ∧ h' = upd h b ⟨ver, .cells [iD (leafF F z l1).2]⟩ ∧ d = exD (leafF F z l1).1)
      [.agg [.int .i64 1, .int .i64 0, .int .i64 (F.getD (nextV l1 F.length).toNat (0, 0)).1, .int .i64 (F.getD (nextV l1 F.length).toNat (0, 0)).2, .nils]] := fun sl lc hz => by
    have e : leafF F z l1 = (.mk 1 0 (F.getD (nextV l1 F.length).toNat (0, 0)).1 (F.getD (nextV l1 F.length).toNat (0, 0)).2 [], nextL l1 F.length) := by rw [leafF, if_neg hz]
    rw [e]
    simp only
    rw [exD_mk, List.map_nil]
    exact fin_wk (d := .agg [.int .i64 1, .int .i64 0, .int .i64 (F.getD (nextV l1 F.length).toNat (0, 0)).1, .int .i64 (F.getD (nextV l1 F.length).toNat (0, 0)).2, .lst []]) (hlo _) (wk_agg5 (y_wkl (wk_int rfl) (y_wkl (wk_int rfl) (y_wkl (wk_int rfl) (y_wkl (wk_int rfl) (y_wkl .nilsLst trivial)))))) ⟨rfl, rfl, rfl⟩
  have hrF := nextV_range l1 F.length
  have e1 := fun h => nth_pairs F (nextV l1 F.length).toNat h
  by_cases hF0 : F.length = 0
  · have bF : ((F.length : Int) == 0) = true := by simp [hF0]
    have fin := fun sl lc => fin0 sl lc (.inl hF0)
    by_cases d0 : dI = 0
    · have b0 : (dI == 0) = true := by simp [d0]
      simp -implicitDefEqProofs only [↓symPre, symPost, y_condP, y_condG, run, lver, minD, intsD, eqAll, tupD, splice, Nat.zero_add, Nat.add_zero, Nat.zero_mul, Nat.mul_one, Nat.one_mul, Nat.reduceAdd, Nat.reduceSub, Nat.reduceMul, Nat.reduceLT, Nat.reduceLeDiff, Nat.reduceEqDiff, true_and, and_true, true_implies, if_true, if_false, ite_true, reduceIte, ne_eq, not_false_eq_true, reduceCtorEq, forall_const, bne_self_eq_false, Bool.true_eq_false, Bool.false_eq_true, false_implies, and_self, implies_true, Int.toNat_zero, beq_self_eq_true, decide_true, decide_false, Bool.not_true, Bool.not_false, ↓y_lookv, y_key1, y_mlook, y_mlookn, y_mres1, y_mres0, ↓y_call, hb, b0, List.length_map, bF]
      refine next_callO (l := l1) (by omega) (by omega) rfl rfl (by show b < n + 65; omega) (by show mrg n _ _ b = _; rw [mrg_lt hb, upd_same]) ?_
      simp -implicitDefEqProofs only [↓symPre, symPost, y_condP, y_condG, run, lver, minD, intsD, eqAll, tupD, splice, Nat.zero_add, Nat.add_zero, Nat.zero_mul, Nat.mul_one, Nat.one_mul, Nat.reduceAdd, Nat.reduceSub, Nat.reduceMul, Nat.reduceLT, Nat.reduceLeDiff, Nat.reduceEqDiff, true_and, and_true, true_implies, if_true, if_false, ite_true, reduceIte, ne_eq, not_false_eq_true, reduceCtorEq, forall_const, bne_self_eq_false, Bool.true_eq_false, Bool.false_eq_true, false_implies, and_self, implies_true, Int.toNat_zero, beq_self_eq_true, decide_true, decide_false, Bool.not_true, Bool.not_false, ↓y_lookv, y_key1, y_mlook, y_mlookn, y_mres1, y_mres0, ↓y_call, hb, upd_upd]
      exact fin _ _
    · have b0 : (dI == 0) = false := by simp [d0]
      by_cases z0 : z = 0
      · have b1 : (z == 0) = true := by simp [z0]
        simp -implicitDefEqProofs only [↓symPre, symPost, y_condP, y_condG, run, lver, minD, intsD, eqAll, tupD, splice, Nat.zero_add, Nat.add_zero, Nat.zero_mul, Nat.mul_one, Nat.one_mul, Nat.reduceAdd, Nat.reduceSub, Nat.reduceMul, Nat.reduceLT, Nat.reduceLeDiff, Nat.reduceEqDiff, true_and, and_true, true_implies, if_true, if_false, ite_true, reduceIte, ne_eq, not_false_eq_true, reduceCtorEq, forall_const, bne_self_eq_false, Bool.true_eq_false, Bool.false_eq_true, false_implies, and_self, implies_true, Int.toNat_zero, beq_self_eq_true, decide_true, decide_false, Bool.not_true, Bool.not_false, ↓y_lookv, y_key1, y_mlook, y_mlookn, y_mres1, y_mres0, ↓y_call, hb, b0, b1, List.length_map, bF]
        refine next_callO (l := l1) (by omega) (by omega) rfl rfl (by show b < n + 65; omega) (by show mrg n _ _ b = _; rw [mrg_lt hb, upd_same]) ?_
        simp -implicitDefEqProofs only [↓symPre, symPost, y_condP, y_condG, run, lver, minD, intsD, eqAll, tupD, splice, Nat.zero_add, Nat.add_zero, Nat.zero_mul, Nat.mul_one, Nat.one_mul, Nat.reduceAdd, Nat.reduceSub, Nat.reduceMul, Nat.reduceLT, Nat.reduceLeDiff, Nat.reduceEqDiff, true_and, and_true, true_implies, if_true, if_false, ite_true, reduceIte, ne_eq, not_false_eq_true, reduceCtorEq, forall_const, bne_self_eq_false, Bool.true_eq_false, Bool.false_eq_true, false_implies, and_self, implies_true, Int.toNat_zero, beq_self_eq_true, decide_true, decide_false, Bool.not_true, Bool.not_false, ↓y_lookv, y_key1, y_mlook, y_mlookn, y_mres1, y_mres0, ↓y_call, hb, upd_upd]
        exact fin _ _
      · have b1 : (z == 0) = false := by simp [z0]
        have b2 : (z == 1) = true := by simp; omega
        simp -implicitDefEqProofs only [↓symPre, symPost, y_condP, y_condG, run, lver, minD, intsD, eqAll, tupD, splice, Nat.zero_add, Nat.add_zero, Nat.zero_mul, Nat.mul_one, Nat.one_mul, Nat.reduceAdd, Nat.reduceSub, Nat.reduceMul, Nat.reduceLT, Nat.reduceLeDiff, Nat.reduceEqDiff, true_and, and_true, true_implies, if_true, if_false, ite_true, reduceIte, ne_eq, not_false_eq_true, reduceCtorEq, forall_const, bne_self_eq_false, Bool.true_eq_false, Bool.false_eq_true, false_implies, and_self, implies_true, Int.toNat_zero, beq_self_eq_true, decide_true, decide_false, Bool.not_true, Bool.not_false, ↓y_lookv, y_key1, y_mlook, y_mlookn, y_mres1, y_mres0, ↓y_call, hb, b0, b1, b2, List.length_map, bF]
        refine next_callO (l := l1) (by omega) (by omega) rfl rfl (by show b < n + 65; omega) (by show mrg n _ _ b = _; rw [mrg_lt hb, upd_same]) ?_
        simp -implicitDefEqProofs only [↓symPre, symPost, y_condP, y_condG, run, lver, minD, intsD, eqAll, tupD, splice, Nat.zero_add, Nat.add_zero, Nat.zero_mul, Nat.mul_one, Nat.one_mul, Nat.reduceAdd, Nat.reduceSub, Nat.reduceMul, Nat.reduceLT, Nat.reduceLeDiff, Nat.reduceEqDiff, true_and, and_true, true_implies, if_true, if_false, ite_true, reduceIte, ne_eq, not_false_eq_true, reduceCtorEq, forall_const, bne_self_eq_false, Bool.true_eq_false, Bool.false_eq_true, false_implies, and_self, implies_true, Int.toNat_zero, beq_self_eq_true, decide_true, decide_false, Bool.not_true, Bool.not_false, ↓y_lookv, y_key1, y_mlook, y_mlookn, y_mres1, y_mres0, ↓y_call, hb, upd_upd]
        exact fin _ _
  have bF : ((F.length : Int) == 0) = false := beq_eq_false_iff_ne.2 (by omega)
  have hi : (nextV l1 F.length).toNat < F.length := by omega
  have e1 := e1 hi
  by_cases z0 : z = 0
  · have fin := fun sl lc => fin0 sl lc (.inr z0)
    have b1 : (z == 0) = true := by simp [z0]
    by_cases d0 : dI = 0
    · have b0 : (dI == 0) = true := by simp [d0]
      simp -implicitDefEqProofs only [↓symPre, symPost, y_condP, y_condG, run, lver, minD, intsD, eqAll, tupD, splice, Nat.zero_add, Nat.add_zero, Nat.zero_mul, Nat.mul_one, Nat.one_mul, Nat.reduceAdd, Nat.reduceSub, Nat.reduceMul, Nat.reduceLT, Nat.reduceLeDiff, Nat.reduceEqDiff, true_and, and_true, true_implies, if_true, if_false, ite_true, reduceIte, ne_eq, not_false_eq_true, reduceCtorEq, forall_const, bne_self_eq_false, Bool.true_eq_false, Bool.false_eq_true, false_implies, and_self, implies_true, Int.toNat_zero, beq_self_eq_true, decide_true, decide_false, Bool.not_true, Bool.not_false, ↓y_lookv, y_key1, y_mlook, y_mlookn, y_mres1, y_mres0, ↓y_call, hb, b0, b1, List.length_map, bF]
      refine next_callO (l := l1) (by omega) (by omega) rfl rfl (by show b < n + 65; omega) (by show mrg n _ _ b = _; rw [mrg_lt hb, upd_same]) ?_
      simp -implicitDefEqProofs only [↓symPre, symPost, y_condP, y_condG, run, lver, minD, intsD, eqAll, tupD, splice, Nat.zero_add, Nat.add_zero, Nat.zero_mul, Nat.mul_one, Nat.one_mul, Nat.reduceAdd, Nat.reduceSub, Nat.reduceMul, Nat.reduceLT, Nat.reduceLeDiff, Nat.reduceEqDiff, true_and, and_true, true_implies, if_true, if_false, ite_true, reduceIte, ne_eq, not_false_eq_true, reduceCtorEq, forall_const, bne_self_eq_false, Bool.true_eq_false, Bool.false_eq_true, false_implies, and_self, implies_true, Int.toNat_zero, beq_self_eq_true, decide_true, decide_false, Bool.not_true, Bool.not_false, ↓y_lookv, y_key1, y_mlook, y_mlookn, y_mres1, y_mres0, ↓y_call, hb, upd_upd]
      exact fin _ _
    · have b0 : (dI == 0) = false := by simp [d0]
      simp -implicitDefEqProofs only [↓symPre, symPost, y_condP, y_condG, run, lver, minD, intsD, eqAll, tupD, splice, Nat.zero_add, Nat.add_zero, Nat.zero_mul, Nat.mul_one, Nat.one_mul, Nat.reduceAdd, Nat.reduceSub, Nat.reduceMul, Nat.reduceLT, Nat.reduceLeDiff, Nat.reduceEqDiff, true_and, and_true, true_implies, if_true, if_false, ite_true, reduceIte, ne_eq, not_false_eq_true, reduceCtorEq, forall_const, bne_self_eq_false, Bool.true_eq_false, Bool.false_eq_true, false_implies, and_self, implies_true, Int.toNat_zero, beq_self_eq_true, decide_true, decide_false, Bool.not_true, Bool.not_false, ↓y_lookv, y_key1, y_mlook, y_mlookn, y_mres1, y_mres0, ↓y_call, hb, b0, b1, List.length_map, bF]
      refine next_callO (l := l1) (by omega) (by omega) rfl rfl (by show b < n + 65; omega) (by show mrg n _ _ b = _; rw [mrg_lt hb, upd_same]) ?_
      simp -implicitDefEqProofs only [↓symPre, symPost, y_condP, y_condG, run, lver, minD, intsD, eqAll, tupD, splice, Nat.zero_add, Nat.add_zero, Nat.zero_mul, Nat.mul_one, Nat.one_mul, Nat.reduceAdd, Nat.reduceSub, Nat.reduceMul, Nat.reduceLT, Nat.reduceLeDiff, Nat.reduceEqDiff, true_and, and_true, true_implies, if_true, if_false, ite_true, reduceIte, ne_eq, not_false_eq_true, reduceCtorEq, forall_const, bne_self_eq_false, Bool.true_eq_false, Bool.false_eq_true, false_implies, and_self, implies_true, Int.toNat_zero, beq_self_eq_true, decide_true, decide_false, Bool.not_true, Bool.not_false, ↓y_lookv, y_key1, y_mlook, y_mlookn, y_mres1, y_mres0, ↓y_call, hb, upd_upd]
      exact fin _ _
  have fin := fun sl lc => fin1 sl lc (by omega)
  have b1 : (z == 0) = false := by simp [z0]
  obtain ⟨i, hi2⟩ : ∃ i : Nat, nextV l1 F.length = i := ⟨_, (Int.toNat_of_nonneg hrF.1).symm⟩
  rw [hi2, Int.toNat_natCast] at hi e1
  rw [hi2] at hrF
  simp only [hi2, Int.toNat_natCast] at fin
  have i0 : (0 : Int) ≤ (i : Int) := by omega
  have i1 : (i : Int) < (F.length : Int) := by omega
  by_cases d0 : dI = 0
  · have b0 : (dI == 0) = true := by simp [d0]
    simp -implicitDefEqProofs only [↓symPre, symPost, y_condP, y_condG, run, lver, minD, intsD, eqAll, tupD, splice, Nat.zero_add, Nat.add_zero, Nat.zero_mul, Nat.mul_one, Nat.one_mul, Nat.reduceAdd, Nat.reduceSub, Nat.reduceMul, Nat.reduceLT, Nat.reduceLeDiff, Nat.reduceEqDiff, true_and, and_true, true_implies, if_true, if_false, ite_true, reduceIte, ne_eq, not_false_eq_true, reduceCtorEq, forall_const, bne_self_eq_false, Bool.true_eq_false, Bool.false_eq_true, false_implies, and_self, implies_true, Int.toNat_zero, beq_self_eq_true, decide_true, decide_false, Bool.not_true, Bool.not_false, ↓y_lookv, y_key1, y_mlook, y_mlookn, y_mres1, y_mres0, ↓y_call, hb, b0, b1, List.length_map, bF]
    refine next_callO (l := l1) (by omega) (by omega) rfl rfl (by show b < n + 65; omega) (by show mrg n _ _ b = _; rw [mrg_lt hb, upd_same]) ?_
    rw [hi2]
    simp -implicitDefEqProofs only [↓symPre, symPost, y_condP, y_condG, run, lver, minD, intsD, eqAll, tupD, splice, Nat.zero_add, Nat.add_zero, Nat.zero_mul, Nat.mul_one, Nat.one_mul, Nat.reduceAdd, Nat.reduceSub, Nat.reduceMul, Nat.reduceLT, Nat.reduceLeDiff, Nat.reduceEqDiff, true_and, and_true, true_implies, if_true, if_false, ite_true, reduceIte, ne_eq, not_false_eq_true, reduceCtorEq, forall_const, bne_self_eq_false, Bool.true_eq_false, Bool.false_eq_true, false_implies, and_self, implies_true, Int.toNat_zero, beq_self_eq_true, decide_true, decide_false, Bool.not_true, Bool.not_false, ↓y_lookv, y_key1, y_mlook, y_mlookn, y_mres1, y_mres0, ↓y_call, hb, upd_upd, List.length_map, i0, i1, e1, Int.toNat_natCast]
    exact fin _ _
  · have b0 : (dI == 0) = false := by simp [d0]
    have b2 : (z == 1) = true := by simp; omega
    simp -implicitDefEqProofs only [↓symPre, symPost, y_condP, y_condG, run, lver, minD, intsD, eqAll, tupD, splice, Nat.zero_add, Nat.add_zero, Nat.zero_mul, Nat.mul_one, Nat.one_mul, Nat.reduceAdd, Nat.reduceSub, Nat.reduceMul, Nat.reduceLT, Nat.reduceLeDiff, Nat.reduceEqDiff, true_and, and_true, true_implies, if_true, if_false, ite_true, reduceIte, ne_eq, not_false_eq_true, reduceCtorEq, forall_const, bne_self_eq_false, Bool.true_eq_false, Bool.false_eq_true, false_implies, and_self, implies_true, Int.toNat_zero, beq_self_eq_true, decide_true, decide_false, Bool.not_true, Bool.not_false, ↓y_lookv, y_key1, y_mlook, y_mlookn, y_mres1, y_mres0, ↓y_call, hb, b0, b1, b2, List.length_map, bF]
    refine next_callO (l := l1) (by omega) (by omega) rfl rfl (by show b < n + 65; omega) (by show mrg n _ _ b = _; rw [mrg_lt hb, upd_same]) ?_
    rw [hi2]
    simp -implicitDefEqProofs only [↓symPre, symPost, y_condP, y_condG, run, lver, minD, intsD, eqAll, tupD, splice, Nat.zero_add, Nat.add_zero, Nat.zero_mul, Nat.mul_one, Nat.one_mul, Nat.reduceAdd, Nat.reduceSub, Nat.reduceMul, Nat.reduceLT, Nat.reduceLeDiff, Nat.reduceEqDiff, true_and, and_true, true_implies, if_true, if_false, ite_true, reduceIte, ne_eq, not_false_eq_true, reduceCtorEq, forall_const, bne_self_eq_false, Bool.true_eq_false, Bool.false_eq_true, false_implies, and_self, implies_true, Int.toNat_zero, beq_self_eq_true, decide_true, decide_false, Bool.not_true, Bool.not_false, ↓y_lookv, y_key1, y_mlook, y_mlookn, y_mres1, y_mres0, ↓y_call, hb, upd_upd, List.length_map, i0, i1, e1, Int.toNat_natCast]
    exact fin _ _

end Abs
end Go.Proofs.Ytoeehfnkcfeoaaa

/- Edits: Check, Apply, Inverse. -/
import Derived.Test.YtcdbikoonobodaaD2
namespace Go.Proofs.Ytcdbikoonobodaa
namespace Abs
set_option linter.unusedVariables false
set_option linter.unusedSimpArgs false

structure Ed where
  f : Int
  t : Int
  w : List Int

def edD (e : Ed) : D := .agg [.int .i64 e.f, .int .i64 e.t, iD e.w]
def ed0 : Ed := ⟨0, 0, []⟩

theorem low_edD (n : Nat) (e : Ed) : Low n (edD e) := by
  refine .agg _ fun c hc => ?_
  simp only [List.mem_cons, List.not_mem_nil, or_false] at hc
  rcases hc with rfl | rfl | rfl
  · exact .int ..
  · exact .int ..
  · exact low_ints n _

def okE (n : Nat) (e : Ed) : Prop := 0 ≤ e.f ∧ e.f ≤ e.t ∧ e.t ≤ n
instance (n : Nat) (e : Ed) : Decidable (okE n e) := inferInstanceAs (Decidable (_ ∧ _ ∧ _))
def shiftE (e : Ed) : Int := e.w.length - (e.t - e.f)
def chk (n : Nat) (e : Ed) : Int := if okE n e then (if shiftE e > 2000 - n then 2 else 0) else 1

theorem acalls_draw {P : Program} {f : FuncId} {ds : List D} {r : D} {V : St} {args : List Opd} {dst : Option Nat} {g : AGuard} (ha : args.map V.val = ds)
    (hp : ∀ s, Sub s V [] → ACalls P f ds (V.n + V.lc.length) s.hp fun d h' x => h' = s.hp ∧ x = [] ∧ d = r) : stepV P ⟨dst, .call f args, g⟩ V fun d' δ' => d' = r ∧ δ' = [] := by
  intro s hs
  rw [ha]
  exact (hp s hs).mono fun d h' x ⟨h1, h2, h3⟩ => .inl ⟨[], by simp [St.inr], h2, by rw [h1]; rfl, h3, rfl⟩

theorem wk_tup2 {X : Wx} {a b a' b' : D} (h1 : Wk X a a') (h2 : Wk X b b') : Wk X (.tup [a, b]) (.tup [a', b']) :=
  .tup _ _ rfl fun i c c' hc hc' => by
    rcases i with _ | _ | i
    · simp at hc hc'; subst hc; subst hc'; exact h1
    · simp at hc hc'; subst hc; subst hc'; exact h2
    · simp at hc
theorem wk_agg3 {X : Wx} {a b c a' b' c' : D} (h1 : Wk X a a') (h2 : Wk X b b') (h3 : Wk X c c') : Wk X (.agg [a, b, c]) (.agg [a', b', c']) :=
  .agg _ _ rfl fun i c c' hc hc' => by
    rcases i with _ | _ | _ | i
    · simp at hc hc'; subst hc; subst hc'; exact h1
    · simp at hc hc'; subst hc; subst hc'; exact h2
    · simp at hc hc'; subst hc; subst hc'; exact h3
    · simp at hc
theorem wk_i {X : Wx} {k : IntKind} {i : Int} : Wk X (.int k i) (.int k i) := .low _ (.int ..)
theorem wk_iD {X : Wx} {l : List Int} : Wk X (iD l) (iD l) := .low _ (low_ints _ l)

theorem pure_shift (e : Ed) (hw : e.w.length < 2 ^ 60) (hf : 0 ≤ e.f ∧ e.f < 2 ^ 60) (ht : 0 ≤ e.t ∧ e.t < 2 ^ 60) : Pure prog F_edit_Edit_shift [edD e] (.int .i64 (shiftE e)) := by
  intro n h
  refine K_edit_Edit_shift.calls fun hl => ?_
  unfold C_edit_Edit_shift edD
  have w1 : IntKind.i64.wrap (e.t - e.f) = e.t - e.f := IntWalk.i64_in _ (by omega)
  have w2 : IntKind.i64.wrap ((e.w.length : Int) - (e.t - e.f)) = shiftE e := IntWalk.i64_in _ (by omega)
  simp -implicitDefEqProofs only [↓symPre, symPost, y_condP, y_condG, run, lver, minD, intsD, eqAll, tupD, splice, Nat.zero_add, Nat.add_zero, Nat.zero_mul, Nat.mul_one, Nat.one_mul, Nat.reduceAdd, Nat.reduceSub, Nat.reduceMul, Nat.reduceLT, Nat.reduceLeDiff, Nat.reduceEqDiff, true_and, and_true, true_implies, if_true, if_false, ite_true, reduceIte, ne_eq, not_false_eq_true, reduceCtorEq, forall_const, bne_self_eq_false, Bool.true_eq_false, Bool.false_eq_true, false_implies, and_self, implies_true, Int.toNat_zero, beq_self_eq_true, decide_true, decide_false, Bool.not_true, Bool.not_false, ↓y_lookv, y_key1, y_mlook, y_mlookn, y_mres1, y_mres0, ↓y_call, List.length_map, w1, w2]
  exact fin_int hl rfl

theorem pure_Check (m : Nat) (e : Ed) (hm : m < 2 ^ 60) (hw : e.w.length < 2 ^ 60) : Pure prog F_edit_Check [.int .i64 m, edD e] (.int .i64 (chk m e)) := by
  intro n h
  refine K_edit_Check.calls fun hl => ?_
  unfold C_edit_Check edD
  by_cases h1 : e.f < 0
  · simp -implicitDefEqProofs only [↓symPre, symPost, y_condP, y_condG, run, lver, minD, intsD, eqAll, tupD, splice, Nat.zero_add, Nat.add_zero, Nat.zero_mul, Nat.mul_one, Nat.one_mul, Nat.reduceAdd, Nat.reduceSub, Nat.reduceMul, Nat.reduceLT, Nat.reduceLeDiff, Nat.reduceEqDiff, true_and, and_true, true_implies, if_true, if_false, ite_true, reduceIte, ne_eq, not_false_eq_true, reduceCtorEq, forall_const, bne_self_eq_false, Bool.true_eq_false, Bool.false_eq_true, false_implies, and_self, implies_true, Int.toNat_zero, beq_self_eq_true, decide_true, decide_false, Bool.not_true, Bool.not_false, ↓y_lookv, y_key1, y_mlook, y_mlookn, y_mres1, y_mres0, ↓y_call, h1, decide_true]
    refine fin_int hl ?_
    rw [chk, if_neg (by unfold okE; omega)]
  · by_cases h2 : e.t < e.f
    · simp -implicitDefEqProofs only [↓symPre, symPost, y_condP, y_condG, run, lver, minD, intsD, eqAll, tupD, splice, Nat.zero_add, Nat.add_zero, Nat.zero_mul, Nat.mul_one, Nat.one_mul, Nat.reduceAdd, Nat.reduceSub, Nat.reduceMul, Nat.reduceLT, Nat.reduceLeDiff, Nat.reduceEqDiff, true_and, and_true, true_implies, if_true, if_false, ite_true, reduceIte, ne_eq, not_false_eq_true, reduceCtorEq, forall_const, bne_self_eq_false, Bool.true_eq_false, Bool.false_eq_true, false_implies, and_self, implies_true, Int.toNat_zero, beq_self_eq_true, decide_true, decide_false, Bool.not_true, Bool.not_false, ↓y_lookv, y_key1, y_mlook, y_mlookn, y_mres1, y_mres0, ↓y_call, h1, h2, decide_true, decide_false]
      refine fin_int hl ?_
      rw [chk, if_neg (by unfold okE; omega)]
    · by_cases h3 : e.t > m
      · simp -implicitDefEqProofs only [↓symPre, symPost, y_condP, y_condG, run, lver, minD, intsD, eqAll, tupD, splice, Nat.zero_add, Nat.add_zero, Nat.zero_mul, Nat.mul_one, Nat.one_mul, Nat.reduceAdd, Nat.reduceSub, Nat.reduceMul, Nat.reduceLT, Nat.reduceLeDiff, Nat.reduceEqDiff, true_and, and_true, true_implies, if_true, if_false, ite_true, reduceIte, ne_eq, not_false_eq_true, reduceCtorEq, forall_const, bne_self_eq_false, Bool.true_eq_false, Bool.false_eq_true, false_implies, and_self, implies_true, Int.toNat_zero, beq_self_eq_true, decide_true, decide_false, Bool.not_true, Bool.not_false, ↓y_lookv, y_key1, y_mlook, y_mlookn, y_mres1, y_mres0, ↓y_call, h1, h2, h3, decide_true, decide_false]
        refine fin_int hl ?_
        rw [chk, if_neg (by unfold okE; omega)]
      · have hok : okE m e := by unfold okE; omega
        have w1 : IntKind.i64.wrap (2000 - (m : Int)) = 2000 - m := IntWalk.i64_in _ (by omega)
        simp -implicitDefEqProofs only [↓symPre, symPost, y_condP, y_condG, run, lver, minD, intsD, eqAll, tupD, splice, Nat.zero_add, Nat.add_zero, Nat.zero_mul, Nat.mul_one, Nat.one_mul, Nat.reduceAdd, Nat.reduceSub, Nat.reduceMul, Nat.reduceLT, Nat.reduceLeDiff, Nat.reduceEqDiff, true_and, and_true, true_implies, if_true, if_false, ite_true, reduceIte, ne_eq, not_false_eq_true, reduceCtorEq, forall_const, bne_self_eq_false, Bool.true_eq_false, Bool.false_eq_true, false_implies, and_self, implies_true, Int.toNat_zero, beq_self_eq_true, decide_true, decide_false, Bool.not_true, Bool.not_false, ↓y_lookv, y_key1, y_mlook, y_mlookn, y_mres1, y_mres0, ↓y_call, h1, h2, h3, decide_true, decide_false]
        refine (pure_shift e hw (by omega) (by omega)).call rfl ?_
        simp -implicitDefEqProofs only [↓symPre, symPost, y_condP, y_condG, run, lver, minD, intsD, eqAll, tupD, splice, Nat.zero_add, Nat.add_zero, Nat.zero_mul, Nat.mul_one, Nat.one_mul, Nat.reduceAdd, Nat.reduceSub, Nat.reduceMul, Nat.reduceLT, Nat.reduceLeDiff, Nat.reduceEqDiff, true_and, and_true, true_implies, if_true, if_false, ite_true, reduceIte, ne_eq, not_false_eq_true, reduceCtorEq, forall_const, bne_self_eq_false, Bool.true_eq_false, Bool.false_eq_true, false_implies, and_self, implies_true, Int.toNat_zero, beq_self_eq_true, decide_true, decide_false, Bool.not_true, Bool.not_false, ↓y_lookv, y_key1, y_mlook, y_mlookn, y_mres1, y_mres0, ↓y_call, w1]
        refine ⟨fun h4 => ?_, fun h4 => ?_⟩
        · have h4 := of_decide_eq_true h4
          refine fin_int hl ?_
          rw [chk, if_pos hok, if_pos h4]
        · have h4 := of_decide_eq_false h4
          refine fin_int hl ?_
          rw [chk, if_pos hok, if_neg h4]

theorem chk_zero {n : Nat} {e : Ed} (h : chk n e = 0) : okE n e ∧ (e.w.length : Int) - (e.t - e.f) ≤ 2000 - n := by
  unfold chk at h
  split at h
  · rename_i h1
    split at h
    · cases h
    · rename_i h2; unfold shiftE at h2; exact ⟨h1, by omega⟩
  · cases h

def applyL (w : List Int) (e : Ed) : List Int := w.take e.f.toNat ++ (e.w ++ w.drop e.t.toNat)

theorem pure_applyE (w : List Int) (e : Ed) (hw : w.length * 8 ≤ 140737488355328) (hn : e.w.length * 8 ≤ 140737488355328) (h0 : chk w.length e = 0) : Pure prog F_edit_apply [iD w, edD e] (iD (applyL w e)) := by
  intro n h
  refine K_edit_apply.calls fun hl => ?_
  unfold C_edit_apply edD
  obtain ⟨⟨h1, h2, h3⟩, hs2⟩ := chk_zero h0
  have h4 : e.f ≤ (w.length : Int) := by omega
  have h5 : 0 ≤ e.t := by omega
  have hlow := low_ints n
  simp -implicitDefEqProofs only [↓symPre, symPost, y_condP, y_condG, run, lver, minD, intsD, eqAll, tupD, splice, Nat.zero_add, Nat.add_zero, Nat.zero_mul, Nat.mul_one, Nat.one_mul, Nat.reduceAdd, Nat.reduceSub, Nat.reduceMul, Nat.reduceLT, Nat.reduceLeDiff, Nat.reduceEqDiff, true_and, and_true, true_implies, if_true, if_false, ite_true, reduceIte, ne_eq, not_false_eq_true, reduceCtorEq, forall_const, bne_self_eq_false, Bool.true_eq_false, Bool.false_eq_true, false_implies, and_self, implies_true, Int.toNat_zero, beq_self_eq_true, decide_true, decide_false, Bool.not_true, Bool.not_false, ↓y_lookv, y_key1, y_mlook, y_mlookn, y_mres1, y_mres0, ↓y_call]
  refine adrawq hmix [] ?_
  have hT : ((w.map (D.int .i64)).drop e.t.toNat).take (w.length - e.t.toNat) = (w.map (D.int .i64)).drop e.t.toNat := List.take_of_length_le (by simp)
  simp (maxSteps := 400000) -implicitDefEqProofs only [↓symPre, symPost, y_condP, y_condG, run, lver, minD, intsD, eqAll, tupD, splice, Nat.zero_add, Nat.add_zero, Nat.zero_mul, Nat.mul_one, Nat.one_mul, Nat.reduceAdd, Nat.reduceSub, Nat.reduceMul, Nat.reduceLT, Nat.reduceLeDiff, Nat.reduceEqDiff, true_and, and_true, true_implies, if_true, if_false, ite_true, reduceIte, ne_eq, not_false_eq_true, reduceCtorEq, forall_const, bne_self_eq_false, Bool.true_eq_false, Bool.false_eq_true, false_implies, and_self, implies_true, Int.toNat_zero, beq_self_eq_true, decide_true, decide_false, Bool.not_true, Bool.not_false, ↓y_lookv, y_key1, y_mlook, y_mlookn, y_mres1, y_mres0, ↓y_call, ↓y_adq0, ↓y_adq, ↓y_stepQ_call, ↓y_adq_onT, ↓y_adq_onF, ↓y_adq_onS, drawPost, isCall, isNew, isEff, Option.toList, or_false, false_or, cond_true, cond_false, not_true_eq_false, or_true, true_or, Nat.add_left_cancel_iff, Bool.false_eq_true, ↓y_q0, ↓y_q1, ↓y_q1e, y_qn, isMap, List.length_map, h1, h3, h4, h5, ints_cells, hT]
  refine ⟨_, _, acalls_draw (ds := [.ref 1 (n + 15) 1 0 3]) (r := iD (applyL w e)) rfl fun s hs => ?_, (by simp [y_cov0, y_cov1, isNew, isEff, Option.toList]), ?_⟩
  · refine (at_Concat [w.take e.f.toNat, e.w, w.drop e.t.toNat] ?_ (by simp) (by show n + 15 < n + 17; omega) (hs.hp ?_)).mono fun d h' x ⟨q1, q2, q3⟩ => ⟨q1, q2, ?_⟩
    · simp; omega
    · show mrg n h _ (n + 15) = _
      rw [mrg_loc]
      simp [iD, List.map_take, List.map_drop]
    · rw [q3]; simp [applyL]
  simp (maxSteps := 400000) -implicitDefEqProofs only [↓symPre, symPost, y_condP, y_condG, run, lver, minD, intsD, eqAll, tupD, splice, Nat.zero_add, Nat.add_zero, Nat.zero_mul, Nat.mul_one, Nat.one_mul, Nat.reduceAdd, Nat.reduceSub, Nat.reduceMul, Nat.reduceLT, Nat.reduceLeDiff, Nat.reduceEqDiff, true_and, and_true, true_implies, if_true, if_false, ite_true, reduceIte, ne_eq, not_false_eq_true, reduceCtorEq, forall_const, bne_self_eq_false, Bool.true_eq_false, Bool.false_eq_true, false_implies, and_self, implies_true, Int.toNat_zero, beq_self_eq_true, decide_true, decide_false, Bool.not_true, Bool.not_false, ↓y_lookv, y_key1, y_mlook, y_mlookn, y_mres1, y_mres0, ↓y_call, ↓y_adq0, ↓y_adq, ↓y_stepQ_call, ↓y_adq_onT, ↓y_adq_onF, ↓y_adq_onS, drawPost, isCall, isNew, isEff, Option.toList, or_false, false_or, cond_true, cond_false, not_true_eq_false, or_true, true_or, Nat.add_left_cancel_iff, Bool.false_eq_true, ↓y_q0, ↓y_q1, ↓y_q1e, y_qn, isMap]
  exact fin_low hl (low_ints n _) ⟨rfl, rfl, rfl⟩

end Abs
end Go.Proofs.Ytcdbikoonobodaa

/- Max; Calc. -/
import Derived.Test.YtoeehfnkcfeoaaaN7
namespace Go.Proofs.Ytoeehfnkcfeoaaa
namespace Abs
set_option linter.unusedVariables false
set_option linter.unusedSimpArgs false
set_option maxRecDepth 20000

def mx2 (a b : Int) : Int := if b > a then b else a
theorem minD_mx (a b : Int) : List.foldl (minD true) (.int .i64 a) [.int .i64 b] = .int .i64 (mx2 a b) := rfl
def maxL : List Int → Int
  | [] => 0
  | x :: xs => xs.foldl mx2 x
theorem maxL_take {l : List Int} {i : Nat} (h0 : 1 ≤ i) (hi : i < l.length) : maxL (l.take (i + 1)) = mx2 (maxL (l.take i)) l[i] := by
  cases l with
  | nil => simp at hi
  | cons x xs =>
    obtain ⟨j, rfl⟩ : ∃ j, i = j + 1 := ⟨i - 1, by omega⟩
    have hj : j < xs.length := by simpa using hi
    simp only [List.take_succ_cons, maxL, List.getElem_cons_succ]
    rw [List.take_succ_eq_append_getElem hj, List.foldl_append]; rfl

theorem pure_Max (l : List Int) (hne : 1 ≤ l.length) (hlen : l.length < 2 ^ 60) : Pure prog F_slices_Max_int_int [iD l] (.int .i64 (maxL l)) := by
  intro n h
  refine K_slices_Max_int_int.calls fun hl => ?_
  unfold C_slices_Max_int_int
  have hll := low_ints n l
  have c0 : ¬ (l.length : Int) < 1 := by omega
  have e0 := nth_ints l 0 (by omega)
  have p1 : (0 : Int) < (l.length : Int) := by omega
  have t0 : (0 : Int).toNat = 0 := rfl
  have hx0 : maxL (l.take 1) = l[0] := by
    cases l with
    | nil => simp at hne
    | cons x xs => rfl
  simp -implicitDefEqProofs only [↓symPre, symPost, y_condP, y_condG, run, lver, minD, intsD, eqAll, tupD, splice, Nat.zero_add, Nat.add_zero, Nat.zero_mul, Nat.mul_one, Nat.one_mul, Nat.reduceAdd, Nat.reduceSub, Nat.reduceMul, Nat.reduceLT, Nat.reduceLeDiff, Nat.reduceEqDiff, true_and, and_true, true_implies, if_true, if_false, ite_true, reduceIte, ne_eq, not_false_eq_true, reduceCtorEq, forall_const, bne_self_eq_false, Bool.true_eq_false, Bool.false_eq_true, false_implies, and_self, implies_true, Int.toNat_zero, beq_self_eq_true, decide_true, decide_false, Bool.not_true, Bool.not_false, ↓y_lookv, y_key1, y_mlook, y_mlookn, y_mres1, y_mres0, ↓y_call, List.length_map, c0, decide_false, p1, Int.le_refl, t0, e0]
  refine aloop (fun i : Nat => St.mk n ([iD l, .top, .top, .int .i64 (maxL (l.take i)), .int .i64 i] ++ List.replicate 20 .top) h (List.replicate 25 blk0)) (fun i => 1 ≤ i ∧ i ≤ l.length) (fun i => l.length - i) 1 ⟨Nat.le_refl _, hne⟩ ?_ ?_
  · refine le_to (List.replicate 25 .hole) hl rfl ?_ ?_ <;> (try simp only [hx0]) <;> ((try simp only [y_blk_end, y_blk_hole, y_blk_nil, y_blk_old, y_wkl_end, y_wkl_top, List.replicate, List.cons_append, List.nil_append, and_true, true_and]) <;> (repeat' (first | apply And.intro | apply y_wkl | refine Exists.intro _ (And.intro rfl ?_))) <;> (try first | exact trivial | exact Wk.top _ | exact wk_int rfl | exact wk_bool rfl | exact wk_ptr rfl rfl rfl rfl | exact wk_ref rfl rfl rfl rfl rfl | exact wk_nil rfl rfl rfl | exact wk_ref rfl rfl rfl rfl (by simp) | exact wk_ref rfl rfl rfl rfl (by simp; omega) | exact wk_old (by assumption) (by simp) | exact wk_eq rfl (by first | exact Bd.int _ _ | exact Bd.bool _ | exact Bd.abool | exact Bd.nils | exact Bd.emp | exact Bd.nilp | exact Bd.nilfn | assumption | exact low_trees _ _ | exact low_treeD _ _ | exact low_ints _ _) | exact Nat.le_refl _ | exact wk_int (by simp) | exact wk_int (by omega) | exact Nat.succ_le_succ (Nat.zero_le _) | exact Nat.le_add_left _ _ | omega))
  · rintro i ⟨h1, hi⟩
    by_cases hlt : i < l.length
    · have f1 : (i : Int) < (l.length : Int) := by omega
      have f0 : (0 : Int) ≤ (i : Int) := by omega
      have w1 : IntKind.i64.wrap ((i : Int) + 1) = ((i + 1 : Nat) : Int) := by rw [IntWalk.i64_in _ (by omega)]; omega
      have e1 := nth_ints l i hlt
      have hm := maxL_take h1 hlt
      generalize l[i] = x at *
      simp -implicitDefEqProofs only [↓symPre, symPost, y_condP, y_condG, run, lver, minD, intsD, eqAll, tupD, splice, Nat.zero_add, Nat.add_zero, Nat.zero_mul, Nat.mul_one, Nat.one_mul, Nat.reduceAdd, Nat.reduceSub, Nat.reduceMul, Nat.reduceLT, Nat.reduceLeDiff, Nat.reduceEqDiff, true_and, and_true, true_implies, if_true, if_false, ite_true, reduceIte, ne_eq, not_false_eq_true, reduceCtorEq, forall_const, bne_self_eq_false, Bool.true_eq_false, Bool.false_eq_true, false_implies, and_self, implies_true, Int.toNat_zero, beq_self_eq_true, decide_true, decide_false, Bool.not_true, Bool.not_false, ↓y_lookv, y_key1, y_mlook, y_mlookn, y_mres1, y_mres0, ↓y_call, List.length_map, f0, f1, decide_true, Int.toNat_natCast, e1, minD_mx, w1]
      refine ⟨i + 1, ⟨by omega, by omega⟩, by omega, ?_⟩
      simp only [hm]
      refine le_to (List.replicate 25 .hole) hl rfl ?_ ?_ <;> ((try simp only [y_blk_end, y_blk_hole, y_blk_nil, y_blk_old, y_wkl_end, y_wkl_top, List.replicate, List.cons_append, List.nil_append, and_true, true_and]) <;> (repeat' (first | apply And.intro | apply y_wkl | refine Exists.intro _ (And.intro rfl ?_))) <;> (try first | exact trivial | exact Wk.top _ | exact wk_int rfl | exact wk_bool rfl | exact wk_ptr rfl rfl rfl rfl | exact wk_ref rfl rfl rfl rfl rfl | exact wk_nil rfl rfl rfl | exact wk_ref rfl rfl rfl rfl (by simp) | exact wk_ref rfl rfl rfl rfl (by simp; omega) | exact wk_old (by assumption) (by simp) | exact wk_eq rfl (by first | exact Bd.int _ _ | exact Bd.bool _ | exact Bd.abool | exact Bd.nils | exact Bd.emp | exact Bd.nilp | exact Bd.nilfn | assumption | exact low_trees _ _ | exact low_treeD _ _ | exact low_ints _ _) | exact Nat.le_refl _ | exact wk_int (by simp) | exact wk_int (by omega) | exact Nat.succ_le_succ (Nat.zero_le _) | exact Nat.le_add_left _ _ | omega))
    · have f1 : ¬ (i : Int) < (l.length : Int) := by omega
      rw [List.take_of_length_le (by omega)]
      simp -implicitDefEqProofs only [↓symPre, symPost, y_condP, y_condG, run, lver, minD, intsD, eqAll, tupD, splice, Nat.zero_add, Nat.add_zero, Nat.zero_mul, Nat.mul_one, Nat.one_mul, Nat.reduceAdd, Nat.reduceSub, Nat.reduceMul, Nat.reduceLT, Nat.reduceLeDiff, Nat.reduceEqDiff, true_and, and_true, true_implies, if_true, if_false, ite_true, reduceIte, ne_eq, not_false_eq_true, reduceCtorEq, forall_const, bne_self_eq_false, Bool.true_eq_false, Bool.false_eq_true, false_implies, and_self, implies_true, Int.toNat_zero, beq_self_eq_true, decide_true, decide_false, Bool.not_true, Bool.not_false, ↓y_lookv, y_key1, y_mlook, y_mlookn, y_mres1, y_mres0, ↓y_call, List.length_map, f1, decide_false]
      exact fin_int hl rfl

/-- what holds cells below n holds them still -/
def Keeps (n : Nat) (h h' : Heap) : Prop := ∀ t ver c, t < n → h t = ⟨ver, .cells c⟩ → h' t = ⟨ver, .cells c⟩
theorem Keeps.mrg {n : Nat} {h : Heap} {lc : List Blk} : Keeps n h (mrg n h lc) := fun t ver c ht hc => by rw [mrg_lt ht]; exact hc
/-- a closure that tells an occurrence's value and changes nothing -/
def Gets (n : Nat) (h : Heap) (F : FuncId) (cs : List D) (f : Int → Int → Int) : Prop :=
  ∀ (a r : Int) n' h', n ≤ n' → Keeps n h h' → ACalls prog F (.agg [.int .i64 a, .int .i64 r] :: cs) n' h' fun d h'' y => y = [] ∧ h'' = h' ∧ d = .int .i64 (f a r)
theorem Gets.mono {n n' : Nat} {h h' : Heap} {F : FuncId} {cs : List D} {f : Int → Int → Int} (hg : Gets n h F cs f) (hn : n ≤ n') (hh : Keeps n h h') : Gets n' h' F cs f :=
  fun a r m k hm hk => hg a r m k (by omega) fun t ver c ht hc => hk t ver c (by omega) (hh t ver c ht hc)

end Abs
end Go.Proofs.Ytoeehfnkcfeoaaa

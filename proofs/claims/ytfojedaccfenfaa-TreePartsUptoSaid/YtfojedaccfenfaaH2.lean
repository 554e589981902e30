/- At: the subtree at a path. -/
import Derived.Test.YtfojedaccfenfaaH1
namespace Go.Proofs.Ytfojedaccfenfaa
namespace Abs
set_option linter.unusedVariables false
set_option linter.unusedSimpArgs false
set_option maxRecDepth 20000

def kidT : Tree → Int → Option Tree
  | .mk r _ ks, i => if r = -1 ∨ i < 0 then none else ks[i.toNat]?
def belowT : Tree → List Int → Option Tree
  | t, [] => some t
  | t, i :: p => (kidT t i).bind fun k => belowT k p
def zeroT : Tree := .mk 0 0 []
def atT (t : Tree) (p : List Int) : Tree × Int := match belowT t p with
  | some s => (s, 0)
  | none => (zeroT, 5)
theorem treeD_zero : treeD zeroT = .agg [.int .i64 0, .int .i64 0, .lst []] := by rw [zeroT, treeD_mk]; rfl

theorem fin_at0 {n : Nat} {sl : List D} {h : Heap} {lc : List Blk} {t : Tree} {p : List Int} (hl : LowH n h) (hn : belowT t p = none) :
    Fin (St.mk n sl h lc) (fun d h' x => h' = h ∧ x = [] ∧ d = .tup [treeD (atT t p).1, .int .i64 (atT t p).2]) [.agg [.int .i64 0, .int .i64 0, .nils], .int .i64 5] :=
  fin_wk hl (wk_tup2 (wk_agg3 wk_i wk_i .nilsLst) wk_i) ⟨rfl, rfl, by rw [atT, hn]; simp only [treeD_zero]⟩

set_option maxHeartbeats 1000000 in
theorem pure_At (t : Tree) (p : List Int) (hf : full t * 40 ≤ 140737488355328) (hp : p.length < 2 ^ 60) : Pure prog F_tree_At [treeD t, iD p] (.tup [treeD (atT t p).1, .int .i64 (atT t p).2]) := by
  intro n h
  obtain ⟨r0, t0, k0, rfl⟩ : ∃ r t' k, t = .mk r t' k := by cases t; exact ⟨_, _, _, rfl⟩
  rw [treeD_mk]
  refine K_tree_At.calls fun hl => ?_
  unfold C_tree_At
  simp -implicitDefEqProofs only [↓symPre, symPost, y_condP, y_condG, run, lver, minD, intsD, eqAll, tupD, splice, Nat.zero_add, Nat.add_zero, Nat.zero_mul, Nat.mul_one, Nat.one_mul, Nat.reduceAdd, Nat.reduceSub, Nat.reduceMul, Nat.reduceLT, Nat.reduceLeDiff, Nat.reduceEqDiff, true_and, and_true, true_implies, if_true, if_false, ite_true, reduceIte, ne_eq, not_false_eq_true, reduceCtorEq, forall_const, bne_self_eq_false, Bool.true_eq_false, Bool.false_eq_true, false_implies, and_self, implies_true, Int.toNat_zero, beq_self_eq_true, decide_true, decide_false, Bool.not_true, Bool.not_false, ↓y_call]
  refine aloop (fun q : Nat × Int × Int × List Tree => St.mk n ([.top, .top, .ptr (n + 2) 1 0, .top, .ptr (n + 4) 1 0, .top, .top, .top, iD p, .int .i64 p.length, .int .i64 q.1] ++ List.replicate 25 .top) h
      ([blk0, blk0, ⟨1, .cells [.int .i64 q.2.1, .int .i64 q.2.2.1, .lst (q.2.2.2.map treeD)]⟩, blk0, ⟨1, .cells [.int .i64 0, .int .i64 0, .nils]⟩] ++ List.replicate 31 blk0)) (fun q => q.1 ≤ p.length ∧ belowT (.mk r0 t0 k0) p = belowT (.mk q.2.1 q.2.2.1 q.2.2.2) (p.drop q.1) ∧ full (.mk q.2.1 q.2.2.1 q.2.2.2) ≤ full (.mk r0 t0 k0)) (fun q => p.length - q.1) (0, r0, t0, k0) ⟨Nat.zero_le _, rfl, Nat.le_refl _⟩ ?_ ?_
  · refine le_to ([.hole, .hole, .old 2, .hole, .old 4] ++ List.replicate 31 .hole) hl rfl ?_ ?_ <;> (try simp only [List.length_map]) <;> ((try simp only [y_blk_end, y_blk_hole, y_blk_nil, y_blk_old, y_wkl_end, y_wkl_top, List.replicate, List.cons_append, List.nil_append, and_true, true_and]) <;> (repeat' (first | apply And.intro | apply y_wkl | refine Exists.intro _ (And.intro rfl ?_))) <;> (try first | exact trivial | exact Wk.top _ | exact wk_int rfl | exact wk_bool rfl | exact wk_ptr rfl rfl rfl rfl | exact wk_ref rfl rfl rfl rfl rfl | exact wk_nil rfl rfl rfl | exact wk_ref rfl rfl rfl rfl (by simp) | exact wk_ref rfl rfl rfl rfl (by simp; omega) | exact wk_old (by assumption) (by simp) | exact wk_eq rfl (by first | exact Bd.int _ _ | exact Bd.bool _ | exact Bd.abool | exact Bd.nils | exact Bd.emp | exact Bd.nilp | exact Bd.nilfn | assumption | exact low_trees _ _ | exact low_treeD _ _ | exact low_ints _ _) | exact Nat.le_refl _ | exact wk_int (by simp) | exact wk_int (by omega) | exact Nat.succ_le_succ (Nat.zero_le _) | exact Nat.le_add_left _ _ | omega))
  · rintro ⟨i, cr, ct, ck⟩ ⟨hi, hb, hfc⟩
    simp only at hi hb hfc
    by_cases hlt : i < p.length
    · have f1 : (i : Int) < (p.length : Int) := by omega
      have f0 : (0 : Int) ≤ (i : Int) := by omega
      have w1 : IntKind.i64.wrap ((i : Int) + 1) = ((i + 1 : Nat) : Int) := by rw [IntWalk.i64_in _ (by omega)]; omega
      have e0 := nth_ints p i hlt
      rw [List.drop_eq_getElem_cons hlt] at hb
      generalize p[i] = x at *
      simp -implicitDefEqProofs only [↓symPre, symPost, y_condP, y_condG, run, lver, minD, intsD, eqAll, tupD, splice, Nat.zero_add, Nat.add_zero, Nat.zero_mul, Nat.mul_one, Nat.one_mul, Nat.reduceAdd, Nat.reduceSub, Nat.reduceMul, Nat.reduceLT, Nat.reduceLeDiff, Nat.reduceEqDiff, true_and, and_true, true_implies, if_true, if_false, ite_true, reduceIte, ne_eq, not_false_eq_true, reduceCtorEq, forall_const, bne_self_eq_false, Bool.true_eq_false, Bool.false_eq_true, false_implies, and_self, implies_true, Int.toNat_zero, beq_self_eq_true, decide_true, decide_false, Bool.not_true, Bool.not_false, ↓y_call, List.length_map, f1, f0, decide_true, Int.toNat_natCast, e0]
      refine (pure_leaf cr ct _).call rfl ?_
      by_cases c1 : cr = -1
      · have b1 : (cr == -1) = true := by simp [c1]
        simp -implicitDefEqProofs only [↓symPre, symPost, y_condP, y_condG, run, lver, minD, intsD, eqAll, tupD, splice, Nat.zero_add, Nat.add_zero, Nat.zero_mul, Nat.mul_one, Nat.one_mul, Nat.reduceAdd, Nat.reduceSub, Nat.reduceMul, Nat.reduceLT, Nat.reduceLeDiff, Nat.reduceEqDiff, true_and, and_true, true_implies, if_true, if_false, ite_true, reduceIte, ne_eq, not_false_eq_true, reduceCtorEq, forall_const, bne_self_eq_false, Bool.true_eq_false, Bool.false_eq_true, false_implies, and_self, implies_true, Int.toNat_zero, beq_self_eq_true, decide_true, decide_false, Bool.not_true, Bool.not_false, ↓y_call, b1]
        exact fin_at0 hl (by rw [hb]; simp [belowT, kidT, c1])
      have b1 : (cr == -1) = false := by simp [c1]
      by_cases c2 : x < 0
      · simp -implicitDefEqProofs only [↓symPre, symPost, y_condP, y_condG, run, lver, minD, intsD, eqAll, tupD, splice, Nat.zero_add, Nat.add_zero, Nat.zero_mul, Nat.mul_one, Nat.one_mul, Nat.reduceAdd, Nat.reduceSub, Nat.reduceMul, Nat.reduceLT, Nat.reduceLeDiff, Nat.reduceEqDiff, true_and, and_true, true_implies, if_true, if_false, ite_true, reduceIte, ne_eq, not_false_eq_true, reduceCtorEq, forall_const, bne_self_eq_false, Bool.true_eq_false, Bool.false_eq_true, false_implies, and_self, implies_true, Int.toNat_zero, beq_self_eq_true, decide_true, decide_false, Bool.not_true, Bool.not_false, ↓y_call, b1, c2]
        exact fin_at0 hl (by rw [hb]; simp [belowT, kidT, c2])
      by_cases c3 : x ≥ (ck.length : Int)
      · simp -implicitDefEqProofs only [↓symPre, symPost, y_condP, y_condG, run, lver, minD, intsD, eqAll, tupD, splice, Nat.zero_add, Nat.add_zero, Nat.zero_mul, Nat.mul_one, Nat.one_mul, Nat.reduceAdd, Nat.reduceSub, Nat.reduceMul, Nat.reduceLT, Nat.reduceLeDiff, Nat.reduceEqDiff, true_and, and_true, true_implies, if_true, if_false, ite_true, reduceIte, ne_eq, not_false_eq_true, reduceCtorEq, forall_const, bne_self_eq_false, Bool.true_eq_false, Bool.false_eq_true, false_implies, and_self, implies_true, Int.toNat_zero, beq_self_eq_true, decide_true, decide_false, Bool.not_true, Bool.not_false, ↓y_call, b1, c2, c3, List.length_map]
        have : ck.length ≤ x.toNat := by omega
        exact fin_at0 hl (by rw [hb]; simp [belowT, kidT, c1, c2, this])
      obtain ⟨q, rfl⟩ : ∃ q : Nat, x = q := ⟨x.toNat, by omega⟩
      have hq : q < ck.length := by omega
      have e1 := nth_map_tree ck q hq
      have hgk := full_kid (List.getElem_mem hq)
      have hkq : ck[q]? = some ck[q] := by simp [hq]
      obtain ⟨ar, at', ak, ea⟩ : ∃ r' t' k', ck[q] = .mk r' t' k' := by cases h : ck[q]; exact ⟨_, _, _, rfl⟩
      rw [ea] at e1 hgk hkq
      rw [treeD_mk] at e1
      rw [full_mk] at hfc
      have g0 : (0 : Int) ≤ (q : Int) := by omega
      have g1 : (q : Int) < (ck.length : Int) := by omega
      simp -implicitDefEqProofs only [↓symPre, symPost, y_condP, y_condG, run, lver, minD, intsD, eqAll, tupD, splice, Nat.zero_add, Nat.add_zero, Nat.zero_mul, Nat.mul_one, Nat.one_mul, Nat.reduceAdd, Nat.reduceSub, Nat.reduceMul, Nat.reduceLT, Nat.reduceLeDiff, Nat.reduceEqDiff, true_and, and_true, true_implies, if_true, if_false, ite_true, reduceIte, ne_eq, not_false_eq_true, reduceCtorEq, forall_const, bne_self_eq_false, Bool.true_eq_false, Bool.false_eq_true, false_implies, and_self, implies_true, Int.toNat_zero, beq_self_eq_true, decide_true, decide_false, Bool.not_true, Bool.not_false, ↓y_call, b1, c2, c3, List.length_map, g0, g1, Int.toNat_natCast, e1, w1]
      refine ⟨(i + 1, ar, at', ak), ⟨by simp only; omega, ?_, by simp only; omega⟩, by simp only; omega, ?_⟩
      · rw [hb]; simp [belowT, kidT, c1, c2, hkq]
      refine le_to ([.hole, .hole, .old 2, .hole, .old 4] ++ List.replicate 31 .hole) hl rfl ?_ ?_ <;> ((try simp only [y_blk_end, y_blk_hole, y_blk_nil, y_blk_old, y_wkl_end, y_wkl_top, List.replicate, List.cons_append, List.nil_append, and_true, true_and]) <;> (repeat' (first | apply And.intro | apply y_wkl | refine Exists.intro _ (And.intro rfl ?_))) <;> (try first | exact trivial | exact Wk.top _ | exact wk_int rfl | exact wk_bool rfl | exact wk_ptr rfl rfl rfl rfl | exact wk_ref rfl rfl rfl rfl rfl | exact wk_nil rfl rfl rfl | exact wk_ref rfl rfl rfl rfl (by simp) | exact wk_ref rfl rfl rfl rfl (by simp; omega) | exact wk_old (by assumption) (by simp) | exact wk_eq rfl (by first | exact Bd.int _ _ | exact Bd.bool _ | exact Bd.abool | exact Bd.nils | exact Bd.emp | exact Bd.nilp | exact Bd.nilfn | assumption | exact low_trees _ _ | exact low_treeD _ _ | exact low_ints _ _) | exact Nat.le_refl _ | exact wk_int (by simp) | exact wk_int (by omega) | exact Nat.succ_le_succ (Nat.zero_le _) | exact Nat.le_add_left _ _ | omega))
    · have f1 : ¬ (i : Int) < (p.length : Int) := by omega
      have hil : i = p.length := by omega
      subst hil
      rw [List.drop_length] at hb
      have hc := pure_CloneTree (.mk cr ct ck) (by omega)
      rw [treeD_mk] at hc
      simp -implicitDefEqProofs only [↓symPre, symPost, y_condP, y_condG, run, lver, minD, intsD, eqAll, tupD, splice, Nat.zero_add, Nat.add_zero, Nat.zero_mul, Nat.mul_one, Nat.one_mul, Nat.reduceAdd, Nat.reduceSub, Nat.reduceMul, Nat.reduceLT, Nat.reduceLeDiff, Nat.reduceEqDiff, true_and, and_true, true_implies, if_true, if_false, ite_true, reduceIte, ne_eq, not_false_eq_true, reduceCtorEq, forall_const, bne_self_eq_false, Bool.true_eq_false, Bool.false_eq_true, false_implies, and_self, implies_true, Int.toNat_zero, beq_self_eq_true, decide_true, decide_false, Bool.not_true, Bool.not_false, ↓y_call, f1, decide_false]
      refine hc.call rfl ?_
      simp -implicitDefEqProofs only [↓symPre, symPost, y_condP, y_condG, run, lver, minD, intsD, eqAll, tupD, splice, Nat.zero_add, Nat.add_zero, Nat.zero_mul, Nat.mul_one, Nat.one_mul, Nat.reduceAdd, Nat.reduceSub, Nat.reduceMul, Nat.reduceLT, Nat.reduceLeDiff, Nat.reduceEqDiff, true_and, and_true, true_implies, if_true, if_false, ite_true, reduceIte, ne_eq, not_false_eq_true, reduceCtorEq, forall_const, bne_self_eq_false, Bool.true_eq_false, Bool.false_eq_true, false_implies, and_self, implies_true, Int.toNat_zero, beq_self_eq_true, decide_true, decide_false, Bool.not_true, Bool.not_false, ↓y_call]
      refine fin_low hl ?_ ⟨rfl, rfl, by rw [atT, hb]; simp only [belowT, treeD_mk]; rfl⟩
      refine .tup _ fun c hc => ?_
      simp only [List.mem_cons, List.not_mem_nil, or_false] at hc
      rcases hc with rfl | rfl
      · rw [← treeD_mk]; exact low_treeD n _
      · exact .int ..

end Abs
end Go.Proofs.Ytfojedaccfenfaa

/- The reference's Below and Range. -/
import Derived.Test.YtfojedaccfenfaaH7
namespace Go.Proofs.Ytfojedaccfenfaa
namespace Abs
set_option linter.unusedVariables false
set_option linter.unusedSimpArgs false
set_option maxRecDepth 20000

def belT (t : Tree) (p : List Int) : Tree × Bool := match belowT t p with
  | some s => (s, true)
  | none => (zeroT, false)

theorem fin_bel0 {n : Nat} {sl : List D} {h : Heap} {lc : List Blk} {t : Tree} {p : List Int} (hl : LowH n h) (hn : belowT t p = none) :
    Fin (St.mk n sl h lc) (fun d h' x => h' = h ∧ x = [] ∧ d = .tup [treeD (belT t p).1, .bool (belT t p).2]) [.agg [.int .i64 0, .int .i64 0, .nils], .bool false] :=
  fin_wk hl (wk_tup2 (wk_agg3 wk_i wk_i .nilsLst) (.low _ (.bool _))) ⟨rfl, rfl, by rw [belT, hn]; simp only [treeD_zero]⟩

set_option maxHeartbeats 1000000 in
theorem pure_Below4 (t : Tree) (p : List Int) (hp : p.length < 2 ^ 60) : Pure prog F_parlref4_Below [treeD t, iD p] (.tup [treeD (belT t p).1, .bool (belT t p).2]) := by
  intro n h
  obtain ⟨r0, t0, k0, rfl⟩ : ∃ r t' k, t = .mk r t' k := by cases t; exact ⟨_, _, _, rfl⟩
  rw [treeD_mk]
  refine K_parlref4_Below.calls fun hl => ?_
  unfold C_parlref4_Below
  simp -implicitDefEqProofs only [↓symPre, symPost, y_condP, y_condG, run, lver, minD, intsD, eqAll, tupD, splice, Nat.zero_add, Nat.add_zero, Nat.zero_mul, Nat.mul_one, Nat.one_mul, Nat.reduceAdd, Nat.reduceSub, Nat.reduceMul, Nat.reduceLT, Nat.reduceLeDiff, Nat.reduceEqDiff, true_and, and_true, true_implies, if_true, if_false, ite_true, reduceIte, ne_eq, not_false_eq_true, reduceCtorEq, forall_const, bne_self_eq_false, Bool.true_eq_false, Bool.false_eq_true, false_implies, and_self, implies_true, Int.toNat_zero, beq_self_eq_true, decide_true, decide_false, Bool.not_true, Bool.not_false, ↓y_call]
  refine aloop (fun q : Nat × Int × Int × List Tree => St.mk n ([.top, .top, .ptr (n + 2) 1 0, .top, .ptr (n + 4) 1 0, .top, .top, .top, iD p, .int .i64 p.length, .int .i64 q.1] ++ List.replicate 25 .top) h
      ([blk0, blk0, ⟨1, .cells [.int .i64 q.2.1, .int .i64 q.2.2.1, .lst (q.2.2.2.map treeD)]⟩, blk0, ⟨1, .cells [.int .i64 0, .int .i64 0, .nils]⟩] ++ List.replicate 31 blk0)) (fun q => q.1 ≤ p.length ∧ belowT (.mk r0 t0 k0) p = belowT (.mk q.2.1 q.2.2.1 q.2.2.2) (p.drop q.1)) (fun q => p.length - q.1) (0, r0, t0, k0) ⟨Nat.zero_le _, rfl⟩ ?_ ?_
  · refine le_to ([.hole, .hole, .old 2, .hole, .old 4] ++ List.replicate 31 .hole) hl rfl ?_ ?_ <;> (try simp only [List.length_map]) <;> ((try simp only [y_blk_end, y_blk_hole, y_blk_nil, y_blk_old, y_wkl_end, y_wkl_top, List.replicate, List.cons_append, List.nil_append, and_true, true_and]) <;> (repeat' (first | apply And.intro | apply y_wkl | refine Exists.intro _ (And.intro rfl ?_))) <;> (try first | exact trivial | exact Wk.top _ | exact wk_int rfl | exact wk_bool rfl | exact wk_ptr rfl rfl rfl rfl | exact wk_ref rfl rfl rfl rfl rfl | exact wk_nil rfl rfl rfl | exact wk_ref rfl rfl rfl rfl (by simp) | exact wk_ref rfl rfl rfl rfl (by simp; omega) | exact wk_old (by assumption) (by simp) | exact wk_eq rfl (by first | exact Bd.int _ _ | exact Bd.bool _ | exact Bd.abool | exact Bd.nils | exact Bd.emp | exact Bd.nilp | exact Bd.nilfn | assumption | exact low_trees _ _ | exact low_treeD _ _ | exact low_ints _ _) | exact Nat.le_refl _ | exact wk_int (by simp) | exact wk_int (by omega) | exact Nat.succ_le_succ (Nat.zero_le _) | exact Nat.le_add_left _ _ | omega))
  · rintro ⟨i, cr, ct, ck⟩ ⟨hi, hb⟩
    simp only at hi hb
    by_cases hlt : i < p.length
    · have f1 : (i : Int) < (p.length : Int) := by omega
      have f0 : (0 : Int) ≤ (i : Int) := by omega
      have w1 : IntKind.i64.wrap ((i : Int) + 1) = ((i + 1 : Nat) : Int) := by rw [IntWalk.i64_in _ (by omega)]; omega
      have e0 := nth_ints p i hlt
      rw [List.drop_eq_getElem_cons hlt] at hb
      generalize p[i] = x at *
      by_cases c1 : cr = -1
      · have b1 : (cr == -1) = true := by simp [c1]
        simp -implicitDefEqProofs only [↓symPre, symPost, y_condP, y_condG, run, lver, minD, intsD, eqAll, tupD, splice, Nat.zero_add, Nat.add_zero, Nat.zero_mul, Nat.mul_one, Nat.one_mul, Nat.reduceAdd, Nat.reduceSub, Nat.reduceMul, Nat.reduceLT, Nat.reduceLeDiff, Nat.reduceEqDiff, true_and, and_true, true_implies, if_true, if_false, ite_true, reduceIte, ne_eq, not_false_eq_true, reduceCtorEq, forall_const, bne_self_eq_false, Bool.true_eq_false, Bool.false_eq_true, false_implies, and_self, implies_true, Int.toNat_zero, beq_self_eq_true, decide_true, decide_false, Bool.not_true, Bool.not_false, ↓y_call, List.length_map, f1, f0, decide_true, Int.toNat_natCast, e0, b1]
        exact fin_bel0 hl (by rw [hb]; simp [belowT, kidT, c1])
      have b1 : (cr == -1) = false := by simp [c1]
      by_cases c2 : x < 0
      · simp -implicitDefEqProofs only [↓symPre, symPost, y_condP, y_condG, run, lver, minD, intsD, eqAll, tupD, splice, Nat.zero_add, Nat.add_zero, Nat.zero_mul, Nat.mul_one, Nat.one_mul, Nat.reduceAdd, Nat.reduceSub, Nat.reduceMul, Nat.reduceLT, Nat.reduceLeDiff, Nat.reduceEqDiff, true_and, and_true, true_implies, if_true, if_false, ite_true, reduceIte, ne_eq, not_false_eq_true, reduceCtorEq, forall_const, bne_self_eq_false, Bool.true_eq_false, Bool.false_eq_true, false_implies, and_self, implies_true, Int.toNat_zero, beq_self_eq_true, decide_true, decide_false, Bool.not_true, Bool.not_false, ↓y_call, List.length_map, f1, f0, decide_true, Int.toNat_natCast, e0, b1, c2]
        exact fin_bel0 hl (by rw [hb]; simp [belowT, kidT, c2])
      by_cases c3 : x ≥ (ck.length : Int)
      · simp -implicitDefEqProofs only [↓symPre, symPost, y_condP, y_condG, run, lver, minD, intsD, eqAll, tupD, splice, Nat.zero_add, Nat.add_zero, Nat.zero_mul, Nat.mul_one, Nat.one_mul, Nat.reduceAdd, Nat.reduceSub, Nat.reduceMul, Nat.reduceLT, Nat.reduceLeDiff, Nat.reduceEqDiff, true_and, and_true, true_implies, if_true, if_false, ite_true, reduceIte, ne_eq, not_false_eq_true, reduceCtorEq, forall_const, bne_self_eq_false, Bool.true_eq_false, Bool.false_eq_true, false_implies, and_self, implies_true, Int.toNat_zero, beq_self_eq_true, decide_true, decide_false, Bool.not_true, Bool.not_false, ↓y_call, List.length_map, f1, f0, decide_true, Int.toNat_natCast, e0, b1, c2, c3]
        have : ck.length ≤ x.toNat := by omega
        exact fin_bel0 hl (by rw [hb]; simp [belowT, kidT, c1, c2, this])
      obtain ⟨q, rfl⟩ : ∃ q : Nat, x = q := ⟨x.toNat, by omega⟩
      have hq : q < ck.length := by omega
      have e1 := nth_map_tree ck q hq
      have hkq : ck[q]? = some ck[q] := by simp [hq]
      obtain ⟨ar, at', ak, ea⟩ : ∃ r' t' k', ck[q] = .mk r' t' k' := by cases h : ck[q]; exact ⟨_, _, _, rfl⟩
      rw [ea] at e1 hkq
      rw [treeD_mk] at e1
      have g0 : (0 : Int) ≤ (q : Int) := by omega
      have g1 : (q : Int) < (ck.length : Int) := by omega
      simp -implicitDefEqProofs only [↓symPre, symPost, y_condP, y_condG, run, lver, minD, intsD, eqAll, tupD, splice, Nat.zero_add, Nat.add_zero, Nat.zero_mul, Nat.mul_one, Nat.one_mul, Nat.reduceAdd, Nat.reduceSub, Nat.reduceMul, Nat.reduceLT, Nat.reduceLeDiff, Nat.reduceEqDiff, true_and, and_true, true_implies, if_true, if_false, ite_true, reduceIte, ne_eq, not_false_eq_true, reduceCtorEq, forall_const, bne_self_eq_false, Bool.true_eq_false, Bool.false_eq_true, false_implies, and_self, implies_true, Int.toNat_zero, beq_self_eq_true, decide_true, decide_false, Bool.not_true, Bool.not_false, ↓y_call, List.length_map, f1, f0, decide_true, Int.toNat_natCast, e0, b1, c2, c3, g0, g1, e1, w1]
      refine ⟨(i + 1, ar, at', ak), ⟨by simp only; omega, ?_⟩, by simp only; omega, ?_⟩
      · rw [hb]; simp [belowT, kidT, c1, c2, hkq]
      refine le_to ([.hole, .hole, .old 2, .hole, .old 4] ++ List.replicate 31 .hole) hl rfl ?_ ?_ <;> ((try simp only [y_blk_end, y_blk_hole, y_blk_nil, y_blk_old, y_wkl_end, y_wkl_top, List.replicate, List.cons_append, List.nil_append, and_true, true_and]) <;> (repeat' (first | apply And.intro | apply y_wkl | refine Exists.intro _ (And.intro rfl ?_))) <;> (try first | exact trivial | exact Wk.top _ | exact wk_int rfl | exact wk_bool rfl | exact wk_ptr rfl rfl rfl rfl | exact wk_ref rfl rfl rfl rfl rfl | exact wk_nil rfl rfl rfl | exact wk_ref rfl rfl rfl rfl (by simp) | exact wk_ref rfl rfl rfl rfl (by simp; omega) | exact wk_old (by assumption) (by simp) | exact wk_eq rfl (by first | exact Bd.int _ _ | exact Bd.bool _ | exact Bd.abool | exact Bd.nils | exact Bd.emp | exact Bd.nilp | exact Bd.nilfn | assumption | exact low_trees _ _ | exact low_treeD _ _ | exact low_ints _ _) | exact Nat.le_refl _ | exact wk_int (by simp) | exact wk_int (by omega) | exact Nat.succ_le_succ (Nat.zero_le _) | exact Nat.le_add_left _ _ | omega))
    · have f1 : ¬ (i : Int) < (p.length : Int) := by omega
      have hil : i = p.length := by omega
      subst hil
      rw [List.drop_length] at hb
      simp -implicitDefEqProofs only [↓symPre, symPost, y_condP, y_condG, run, lver, minD, intsD, eqAll, tupD, splice, Nat.zero_add, Nat.add_zero, Nat.zero_mul, Nat.mul_one, Nat.one_mul, Nat.reduceAdd, Nat.reduceSub, Nat.reduceMul, Nat.reduceLT, Nat.reduceLeDiff, Nat.reduceEqDiff, true_and, and_true, true_implies, if_true, if_false, ite_true, reduceIte, ne_eq, not_false_eq_true, reduceCtorEq, forall_const, bne_self_eq_false, Bool.true_eq_false, Bool.false_eq_true, false_implies, and_self, implies_true, Int.toNat_zero, beq_self_eq_true, decide_true, decide_false, Bool.not_true, Bool.not_false, ↓y_call, f1, decide_false]
      refine fin_low hl ?_ ⟨rfl, rfl, by rw [belT, hb]; simp only [belowT, treeD_mk]; rfl⟩
      refine .tup _ fun c hc => ?_
      simp only [List.mem_cons, List.not_mem_nil, or_false] at hc
      rcases hc with rfl | rfl
      · rw [← treeD_mk]; exact low_treeD n _
      · exact .bool _


/-- the number of leaves before the node at a path -/
def offT : Tree → List Int → Nat
  | _, [] => 0
  | .mk r t ks, i :: p => wlen (ks.take i.toNat) + (match ks[i.toNat]? with | some k => offT k p | none => 0)

theorem pure_YieldW (t : Tree) (hsz : size t * 40 ≤ 140737488355328) : Pure prog F_parlref4_Yield [treeD t] (.lst ((wordL t).map (.int .i64))) := by
  rw [word_nodes]; exact pure_Yield t hsz

theorem wlen_take_succ (ks : List Tree) (i : Nat) (hi : i < ks.length) : wlen (ks.take (i + 1)) = wlen (ks.take i) + (wordL ks[i]).length := by
  unfold wlen
  rw [List.map_take, List.map_take, flat_take_succ wordL ks i hi, List.length_append]
theorem wlen_take_le (ks : List Tree) (i : Nat) : wlen (ks.take i) ≤ wlen ks := by
  unfold wlen
  rw [List.map_take]
  exact flat_take_le _ i

set_option maxHeartbeats 4000000 in
theorem pure_Range (t : Tree) (p : List Int) (s : Tree) (hb : belowT t p = some s) (hsz : size t * 40 ≤ 140737488355328) (hp : p.length < 2 ^ 60) : Pure prog F_parlref4_Range [treeD t, iD p] (.tup [.int .i64 (offT t p), .int .i64 ((offT t p + (wordL s).length : Nat) : Int)]) := by
  intro n h
  obtain ⟨r0, t0, k0, rfl⟩ : ∃ r t' k, t = .mk r t' k := by cases t; exact ⟨_, _, _, rfl⟩
  rw [treeD_mk]
  refine K_parlref4_Range.calls fun hl => ?_
  unfold C_parlref4_Range
  simp -implicitDefEqProofs only [↓symPre, symPost, y_condP, y_condG, run, lver, minD, intsD, eqAll, tupD, splice, Nat.zero_add, Nat.add_zero, Nat.zero_mul, Nat.mul_one, Nat.one_mul, Nat.reduceAdd, Nat.reduceSub, Nat.reduceMul, Nat.reduceLT, Nat.reduceLeDiff, Nat.reduceEqDiff, true_and, and_true, true_implies, if_true, if_false, ite_true, reduceIte, ne_eq, not_false_eq_true, reduceCtorEq, forall_const, bne_self_eq_false, Bool.true_eq_false, Bool.false_eq_true, false_implies, and_self, implies_true, Int.toNat_zero, beq_self_eq_true, decide_true, decide_false, Bool.not_true, Bool.not_false, ↓y_call, List.length_map]
  refine aloop (fun q : Nat × Nat × Int × Int × List Tree => St.mk n ([.top, iD p, .ptr (n + 2) 1 0, .top, .top, .top, .int .i64 q.2.1, .top, .top, .top, .top, iD p, .int .i64 p.length, .int .i64 q.1] ++ List.replicate 30 .top) h
      ([blk0, blk0, ⟨1, .cells [.int .i64 q.2.2.1, .int .i64 q.2.2.2.1, .lst (q.2.2.2.2.map treeD)]⟩] ++ List.replicate 41 blk0))
      (fun q => q.1 ≤ p.length ∧ belowT (.mk q.2.2.1 q.2.2.2.1 q.2.2.2.2) (p.drop q.1) = some s ∧ q.2.1 + offT (.mk q.2.2.1 q.2.2.2.1 q.2.2.2.2) (p.drop q.1) = offT (.mk r0 t0 k0) p ∧ size (.mk q.2.2.1 q.2.2.2.1 q.2.2.2.2) ≤ size (.mk r0 t0 k0) ∧ q.2.1 + (wordL (.mk q.2.2.1 q.2.2.2.1 q.2.2.2.2)).length ≤ (wordL (.mk r0 t0 k0)).length) (fun q => p.length - q.1) (0, 0, r0, t0, k0) ⟨Nat.zero_le _, by simpa using hb, by simp, Nat.le_refl _, by simp⟩ ?_ ?_
  · refine le_to ([.hole, .hole, .old 2] ++ List.replicate 41 .hole) hl rfl ?_ ?_ <;> ((try simp only [y_blk_end, y_blk_hole, y_blk_nil, y_blk_old, y_wkl_end, y_wkl_top, List.replicate, List.cons_append, List.nil_append, and_true, true_and]) <;> (repeat' (first | apply And.intro | apply y_wkl | refine Exists.intro _ (And.intro rfl ?_))) <;> (try first | exact trivial | exact Wk.top _ | exact wk_int rfl | exact wk_bool rfl | exact wk_ptr rfl rfl rfl rfl | exact wk_ref rfl rfl rfl rfl rfl | exact wk_nil rfl rfl rfl | exact wk_ref rfl rfl rfl rfl (by simp) | exact wk_ref rfl rfl rfl rfl (by simp; omega) | exact wk_old (by assumption) (by simp) | exact wk_eq rfl (by first | exact Bd.int _ _ | exact Bd.bool _ | exact Bd.abool | exact Bd.nils | exact Bd.emp | exact Bd.nilp | exact Bd.nilfn | assumption | exact low_trees _ _ | exact low_treeD _ _ | exact low_ints _ _) | exact Nat.le_refl _ | exact wk_int (by simp) | exact wk_int (by omega) | exact Nat.succ_le_succ (Nat.zero_le _) | exact Nat.le_add_left _ _ | omega))
  · rintro ⟨i, f, cr, ct, ck⟩ ⟨hi, hbl, hof, hfs, hfw⟩
    simp only at hi hbl hof hfs hfw
    have hwl := wordL_len (.mk r0 t0 k0)
    by_cases hlt : i < p.length
    · have f1 : (i : Int) < (p.length : Int) := by omega
      have f0 : (0 : Int) ≤ (i : Int) := by omega
      have w1 : IntKind.i64.wrap ((i : Int) + 1) = ((i + 1 : Nat) : Int) := by rw [IntWalk.i64_in _ (by omega)]; omega
      have e0 := nth_ints p i hlt
      rw [List.drop_eq_getElem_cons hlt] at hbl hof
      generalize p[i] = x at *
      simp only [belowT, Option.bind_eq_some_iff] at hbl
      obtain ⟨k, hk1, hk2⟩ := hbl
      have hks := kid_size hk1
      simp only [kidT] at hk1
      by_cases c1 : cr = -1 ∨ x < 0
      · rw [if_pos c1] at hk1; cases hk1
      rw [if_neg c1] at hk1
      have c0 : ¬ cr = -1 := fun h => c1 (.inl h)
      obtain ⟨q, rfl⟩ : ∃ q : Nat, x = q := ⟨x.toNat, by omega⟩
      rw [Int.toNat_natCast] at hk1
      simp only [offT, Int.toNat_natCast, hk1] at hof
      have hq : q < ck.length := (List.getElem?_eq_some_iff.1 hk1).1
      have hqk : ck[q] = k := (List.getElem?_eq_some_iff.1 hk1).2
      rw [wordL_mk, if_neg c0] at hfw
      change f + wlen ck ≤ _ at hfw
      have hwq := wlen_take_succ ck q hq
      have hwq2 := wlen_take_le ck (q + 1)
      rw [hqk] at hwq
      have e1 := nth_map_tree ck q hq
      rw [hqk] at e1
      obtain ⟨ar, at', ak, rfl⟩ : ∃ r' t' k', k = .mk r' t' k' := by cases k; exact ⟨_, _, _, rfl⟩
      rw [treeD_mk] at e1
      have g0 : (0 : Int) ≤ (q : Int) := by omega
      have g1 : (q : Int) < (ck.length : Int) := by omega
      have g2 : (q : Int) ≤ (ck.length : Int) := by omega
      have hsl : (ck.map treeD).take (q - 0) = (ck.take q).map treeD := by simp [List.map_take]
      have hkl := len_le_sum ck
      have hszk := size_mk cr ct ck
      rw [if_neg c0] at hszk
      have htl : (ck.take q).length = q := by simp; omega
      simp -implicitDefEqProofs only [↓symPre, symPost, y_condP, y_condG, run, lver, minD, intsD, eqAll, tupD, splice, Nat.zero_add, Nat.add_zero, Nat.zero_mul, Nat.mul_one, Nat.one_mul, Nat.reduceAdd, Nat.reduceSub, Nat.reduceMul, Nat.reduceLT, Nat.reduceLeDiff, Nat.reduceEqDiff, true_and, and_true, true_implies, if_true, if_false, ite_true, reduceIte, ne_eq, not_false_eq_true, reduceCtorEq, forall_const, bne_self_eq_false, Bool.true_eq_false, Bool.false_eq_true, false_implies, and_self, implies_true, Int.toNat_zero, beq_self_eq_true, decide_true, decide_false, Bool.not_true, Bool.not_false, ↓y_call, List.length_map, f1, f0, decide_true, Int.toNat_natCast, e0, g0, g1, g2, trees_cells, hsl, htl]
      refine aloop (fun j : Nat => St.mk n ([.top, iD p, .ptr (n + 2) 1 0, .top, .top, .top, .int .i64 ((f + wlen (ck.take j) : Nat) : Int), .top, .int .i64 q, .top, .top, iD p, .int .i64 p.length, .int .i64 i, .top, .top, .top, .top, .top, .top, .lst ((ck.take q).map treeD), .int .i64 q, .int .i64 j] ++ List.replicate 21 .top) h
          ([blk0, blk0, ⟨1, .cells [.int .i64 cr, .int .i64 ct, .lst (ck.map treeD)]⟩] ++ List.replicate 41 blk0)) (fun j => j ≤ q) (fun j => q - j) 0 (Nat.zero_le _) ?_ ?_
      · refine le_to ([.hole, .hole, .old 2] ++ List.replicate 41 .hole) hl rfl ?_ ?_ <;> ((try simp only [y_blk_end, y_blk_hole, y_blk_nil, y_blk_old, y_wkl_end, y_wkl_top, List.replicate, List.cons_append, List.nil_append, and_true, true_and]) <;> (repeat' (first | apply And.intro | apply y_wkl | refine Exists.intro _ (And.intro rfl ?_))) <;> (try first | exact trivial | exact Wk.top _ | exact wk_int rfl | exact wk_bool rfl | exact wk_ptr rfl rfl rfl rfl | exact wk_ref rfl rfl rfl rfl rfl | exact wk_nil rfl rfl rfl | exact wk_ref rfl rfl rfl rfl (by simp) | exact wk_ref rfl rfl rfl rfl (by simp; omega) | exact wk_old (by assumption) (by simp) | exact wk_eq rfl (by first | exact Bd.int _ _ | exact Bd.bool _ | exact Bd.abool | exact Bd.nils | exact Bd.emp | exact Bd.nilp | exact Bd.nilfn | assumption | exact low_trees _ _ | exact low_treeD _ _ | exact low_ints _ _) | exact Nat.le_refl _ | exact wk_int (by simp) | exact wk_int (by omega) | exact Nat.succ_le_succ (Nat.zero_le _) | exact Nat.le_add_left _ _ | omega))
      · intro j hj
        by_cases hjl : j < q
        · have p1 : (j : Int) < (q : Int) := by omega
          have p0 : (0 : Int) ≤ (j : Int) := by omega
          have w2 : IntKind.i64.wrap ((j : Int) + 1) = ((j + 1 : Nat) : Int) := by rw [IntWalk.i64_in _ (by omega)]; omega
          have hjc : j < ck.length := by omega
          have e2 : nth ((ck.take q).map treeD) j = treeD ck[j] := by rw [nth_map_tree (ck.take q) j (by omega)]; simp
          have hsj := size_kid (List.getElem_mem hjc)
          have py := pure_YieldW ck[j] (by omega)
          have hws := wlen_take_succ ck j hjc
          have hws2 := wlen_take_le ck (j + 1)
          generalize ck[j] = kk at *
          obtain ⟨br, bt, bk, rfl⟩ : ∃ r' t' k', kk = .mk r' t' k' := by cases kk; exact ⟨_, _, _, rfl⟩
          rw [treeD_mk] at e2 py
          have w3 : IntKind.i64.wrap (((f + wlen (ck.take j) : Nat) : Int) + ((wordL (.mk br bt bk)).length : Int)) = ((f + wlen (ck.take (j + 1)) : Nat) : Int) := by rw [IntWalk.i64_in _ (by omega)]; omega
          simp -implicitDefEqProofs only [↓symPre, symPost, y_condP, y_condG, run, lver, minD, intsD, eqAll, tupD, splice, Nat.zero_add, Nat.add_zero, Nat.zero_mul, Nat.mul_one, Nat.one_mul, Nat.reduceAdd, Nat.reduceSub, Nat.reduceMul, Nat.reduceLT, Nat.reduceLeDiff, Nat.reduceEqDiff, true_and, and_true, true_implies, if_true, if_false, ite_true, reduceIte, ne_eq, not_false_eq_true, reduceCtorEq, forall_const, bne_self_eq_false, Bool.true_eq_false, Bool.false_eq_true, false_implies, and_self, implies_true, Int.toNat_zero, beq_self_eq_true, decide_true, decide_false, Bool.not_true, Bool.not_false, ↓y_call, List.length_map, htl, p1, p0, decide_true, Int.toNat_natCast, e2]
          refine py.call rfl ?_
          simp -implicitDefEqProofs only [↓symPre, symPost, y_condP, y_condG, run, lver, minD, intsD, eqAll, tupD, splice, Nat.zero_add, Nat.add_zero, Nat.zero_mul, Nat.mul_one, Nat.one_mul, Nat.reduceAdd, Nat.reduceSub, Nat.reduceMul, Nat.reduceLT, Nat.reduceLeDiff, Nat.reduceEqDiff, true_and, and_true, true_implies, if_true, if_false, ite_true, reduceIte, ne_eq, not_false_eq_true, reduceCtorEq, forall_const, bne_self_eq_false, Bool.true_eq_false, Bool.false_eq_true, false_implies, and_self, implies_true, Int.toNat_zero, beq_self_eq_true, decide_true, decide_false, Bool.not_true, Bool.not_false, ↓y_call, List.length_map, w2, w3]
          refine ⟨j + 1, by omega, by omega, ?_⟩
          refine le_to ([.hole, .hole, .old 2] ++ List.replicate 41 .hole) hl rfl ?_ ?_ <;> ((try simp only [y_blk_end, y_blk_hole, y_blk_nil, y_blk_old, y_wkl_end, y_wkl_top, List.replicate, List.cons_append, List.nil_append, and_true, true_and]) <;> (repeat' (first | apply And.intro | apply y_wkl | refine Exists.intro _ (And.intro rfl ?_))) <;> (try first | exact trivial | exact Wk.top _ | exact wk_int rfl | exact wk_bool rfl | exact wk_ptr rfl rfl rfl rfl | exact wk_ref rfl rfl rfl rfl rfl | exact wk_nil rfl rfl rfl | exact wk_ref rfl rfl rfl rfl (by simp) | exact wk_ref rfl rfl rfl rfl (by simp; omega) | exact wk_old (by assumption) (by simp) | exact wk_eq rfl (by first | exact Bd.int _ _ | exact Bd.bool _ | exact Bd.abool | exact Bd.nils | exact Bd.emp | exact Bd.nilp | exact Bd.nilfn | assumption | exact low_trees _ _ | exact low_treeD _ _ | exact low_ints _ _) | exact Nat.le_refl _ | exact wk_int (by simp) | exact wk_int (by omega) | exact Nat.succ_le_succ (Nat.zero_le _) | exact Nat.le_add_left _ _ | omega))
        · have p1 : ¬ (j : Int) < (q : Int) := by omega
          have hjq : j = q := by omega
          subst hjq
          simp -implicitDefEqProofs only [↓symPre, symPost, y_condP, y_condG, run, lver, minD, intsD, eqAll, tupD, splice, Nat.zero_add, Nat.add_zero, Nat.zero_mul, Nat.mul_one, Nat.one_mul, Nat.reduceAdd, Nat.reduceSub, Nat.reduceMul, Nat.reduceLT, Nat.reduceLeDiff, Nat.reduceEqDiff, true_and, and_true, true_implies, if_true, if_false, ite_true, reduceIte, ne_eq, not_false_eq_true, reduceCtorEq, forall_const, bne_self_eq_false, Bool.true_eq_false, Bool.false_eq_true, false_implies, and_self, implies_true, Int.toNat_zero, beq_self_eq_true, decide_true, decide_false, Bool.not_true, Bool.not_false, ↓y_call, p1, decide_false, List.length_map, g0, g1, Int.toNat_natCast, e1, w1]
          refine ⟨(i + 1, f + wlen (ck.take j), ar, at', ak), ⟨by simp only; omega, hk2, by simp only; omega, by simp only; omega, by simp only; omega⟩, by simp only; omega, ?_⟩
          refine le_to ([.hole, .hole, .old 2] ++ List.replicate 41 .hole) hl rfl ?_ ?_ <;> ((try simp only [y_blk_end, y_blk_hole, y_blk_nil, y_blk_old, y_wkl_end, y_wkl_top, List.replicate, List.cons_append, List.nil_append, and_true, true_and]) <;> (repeat' (first | apply And.intro | apply y_wkl | refine Exists.intro _ (And.intro rfl ?_))) <;> (try first | exact trivial | exact Wk.top _ | exact wk_int rfl | exact wk_bool rfl | exact wk_ptr rfl rfl rfl rfl | exact wk_ref rfl rfl rfl rfl rfl | exact wk_nil rfl rfl rfl | exact wk_ref rfl rfl rfl rfl (by simp) | exact wk_ref rfl rfl rfl rfl (by simp; omega) | exact wk_old (by assumption) (by simp) | exact wk_eq rfl (by first | exact Bd.int _ _ | exact Bd.bool _ | exact Bd.abool | exact Bd.nils | exact Bd.emp | exact Bd.nilp | exact Bd.nilfn | assumption | exact low_trees _ _ | exact low_treeD _ _ | exact low_ints _ _) | exact Nat.le_refl _ | exact wk_int (by simp) | exact wk_int (by omega) | exact Nat.succ_le_succ (Nat.zero_le _) | exact Nat.le_add_left _ _ | omega))
    · have f1 : ¬ (i : Int) < (p.length : Int) := by omega
      have hil : i = p.length := by omega
      subst hil
      rw [List.drop_length] at hbl hof
      simp only [belowT, Option.some.injEq] at hbl
      simp only [offT, Nat.add_zero] at hof
      subst hbl
      have py := pure_YieldW (.mk cr ct ck) (by omega)
      rw [treeD_mk] at py
      have w3 : IntKind.i64.wrap ((f : Int) + ((wordL (.mk cr ct ck)).length : Int)) = ((f + (wordL (.mk cr ct ck)).length : Nat) : Int) := by rw [IntWalk.i64_in _ (by omega)]; omega
      simp -implicitDefEqProofs only [↓symPre, symPost, y_condP, y_condG, run, lver, minD, intsD, eqAll, tupD, splice, Nat.zero_add, Nat.add_zero, Nat.zero_mul, Nat.mul_one, Nat.one_mul, Nat.reduceAdd, Nat.reduceSub, Nat.reduceMul, Nat.reduceLT, Nat.reduceLeDiff, Nat.reduceEqDiff, true_and, and_true, true_implies, if_true, if_false, ite_true, reduceIte, ne_eq, not_false_eq_true, reduceCtorEq, forall_const, bne_self_eq_false, Bool.true_eq_false, Bool.false_eq_true, false_implies, and_self, implies_true, Int.toNat_zero, beq_self_eq_true, decide_true, decide_false, Bool.not_true, Bool.not_false, ↓y_call, f1, decide_false]
      refine py.call rfl ?_
      simp -implicitDefEqProofs only [↓symPre, symPost, y_condP, y_condG, run, lver, minD, intsD, eqAll, tupD, splice, Nat.zero_add, Nat.add_zero, Nat.zero_mul, Nat.mul_one, Nat.one_mul, Nat.reduceAdd, Nat.reduceSub, Nat.reduceMul, Nat.reduceLT, Nat.reduceLeDiff, Nat.reduceEqDiff, true_and, and_true, true_implies, if_true, if_false, ite_true, reduceIte, ne_eq, not_false_eq_true, reduceCtorEq, forall_const, bne_self_eq_false, Bool.true_eq_false, Bool.false_eq_true, false_implies, and_self, implies_true, Int.toNat_zero, beq_self_eq_true, decide_true, decide_false, Bool.not_true, Bool.not_false, ↓y_call, List.length_map, w3]
      exact fin_low hl (.tup _ fun c hc => by
        simp only [List.mem_cons, List.not_mem_nil, or_false] at hc
        rcases hc with rfl | rfl <;> exact .int ..) ⟨rfl, rfl, by rw [← hof]; rfl⟩

end Abs
end Go.Proofs.Ytfojedaccfenfaa

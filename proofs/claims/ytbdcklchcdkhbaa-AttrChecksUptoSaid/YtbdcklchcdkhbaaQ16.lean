/- SystemFault. -/
import Derived.Test.YtbdcklchcdkhbaaQ15
namespace Go.Proofs.Ytbdcklchcdkhbaa
namespace Abs
set_option linter.unusedVariables false
set_option linter.unusedSimpArgs false
set_option maxRecDepth 20000

def sysN (s : Sys) (g : Gr) : Int := if attrF g s.attrs ≠ 0 then attrF g s.attrs else tailN s g
theorem cntA_take {l : List At} {p i : Nat} (hp : p ≤ i) (v : Int) : ((((l.take i)).take p).filter fun a => decide (a.non = v)).length = cntA l p v := by
  rw [List.take_take, Nat.min_eq_left hp]; rfl

set_option maxHeartbeats 16000000 in
theorem pure_SystemFault (s : Sys) (g : Gr) (hgl : g.rules.length < 2 ^ 40) (hx : ∀ r ∈ g.rules, r.right.length < 2 ^ 20) (hA : s.attrs.length < 2 ^ 21) (hE : s.eqs.length < 2 ^ 40) (hz : ∀ q ∈ s.eqs, sz q.is * 64 ≤ 140737488355328) : Pure prog F_parlref4_SystemFault [gramD g, sysD s] (.int .i64 (sysN s g)) := by
  intro n h
  refine K_parlref4_SystemFault.calls fun hl => ?_
  have hend := sf_eqs s g hgl hx hA hE hz hl
  have hlr := low_rules n g.rules
  have hla := low_ats n s.attrs
  have hle := low_eqs n s.eqs
  have hC : sysN s g = if firstNZ (attrB g s.attrs) 0 s.attrs.length ≠ 0 then firstNZ (attrB g s.attrs) 0 s.attrs.length else tailN s g := rfl
  generalize sysN s g = res at *
  generalize tailN s g = tl at *
  unfold sfB at hend
  rw [T0_parlref4_SystemFault]
  unfold gramD sysD
  simp only [List.replicate, List.cons_append, List.nil_append] at hend
  generalize T2_parlref4_SystemFault = C2 at *
  simp -implicitDefEqProofs only [↓symPre, symPost, y_condP, y_condG, run, lver, minD, intsD, eqAll, tupD, splice, Nat.zero_add, Nat.add_zero, Nat.zero_mul, Nat.mul_one, Nat.one_mul, Nat.reduceAdd, Nat.reduceSub, Nat.reduceMul, Nat.reduceLT, Nat.reduceLeDiff, Nat.reduceEqDiff, true_and, and_true, true_implies, if_true, if_false, ite_true, reduceIte, ne_eq, not_false_eq_true, reduceCtorEq, forall_const, bne_self_eq_false, Bool.true_eq_false, Bool.false_eq_true, false_implies, and_self, implies_true, Int.toNat_zero, beq_self_eq_true, decide_true, decide_false, Bool.not_true, Bool.not_false, ↓y_lookv, y_key1, y_mlook, y_mlookn, y_mres1, y_mres0, ↓y_call, List.length_map]
  refine aloop (fun p : Nat => St.mk n ([.top, .top, .ptr (n + 2) 1 0, .ptr (n + 3) 1 0] ++ List.replicate 19 .top ++ [.lst (s.attrs.map atD), .int .i64 s.attrs.length, .int .i64 p] ++ List.replicate 182 .top) h
      ([blk0, blk0, ⟨1, .cells [.int .i64 g.terms, .int .i64 g.nons, .int .i64 g.start, .lst (g.rules.map ruleD)]⟩, ⟨1, .cells [.lst (s.attrs.map atD), .lst (s.eqs.map eqD)]⟩] ++ List.replicate 204 blk0))
    (fun p => p ≤ s.attrs.length ∧ firstNZ (attrB g s.attrs) p (s.attrs.length - p) = firstNZ (attrB g s.attrs) 0 s.attrs.length) (fun p => s.attrs.length - p) 0 ⟨Nat.zero_le _, rfl⟩ ?_ ?_
  · refine le_to ([.hole, .hole, .old 2, .old 3] ++ List.replicate 204 .hole) hl rfl ?_ ?_ <;> ((try simp only [y_blk_end, y_blk_hole, y_blk_nil, y_blk_old, y_wkl_end, y_wkl_top, List.replicate, List.cons_append, List.nil_append, and_true, true_and]) <;> (repeat' (first | apply And.intro | apply y_wkl | refine Exists.intro _ (And.intro rfl ?_))) <;> (try first | exact trivial | exact Wk.top _ | exact wk_int rfl | exact wk_bool rfl | exact wk_ptr rfl rfl rfl rfl | exact wk_ref rfl rfl rfl rfl rfl | exact wk_nil rfl rfl rfl | exact wk_ref rfl rfl rfl rfl (by simp) | exact wk_ref rfl rfl rfl rfl (by simp; omega) | exact wk_old (by assumption) (by simp) | exact wk_eq rfl (by first | exact Bd.int _ _ | exact Bd.bool _ | exact Bd.abool | exact Bd.nils | exact Bd.emp | exact Bd.nilp | exact Bd.nilfn | assumption | exact low_trees _ _ | exact low_treeD _ _ | exact low_ints _ _) | exact Nat.le_refl _ | exact wk_int (by simp) | exact wk_int (by omega) | exact Nat.succ_le_succ (Nat.zero_le _) | exact Nat.le_add_left _ _ | omega))
  · rintro i ⟨hi, hF⟩
    by_cases hlt : i < s.attrs.length
    rotate_left
    · have f1 : ¬ (i : Int) < (s.attrs.length : Int) := by omega
      obtain rfl : i = s.attrs.length := by omega
      rw [firstNZ_end] at hF
      rw [← hF, if_neg (by simp)] at hC
      rw [← hC] at hend
      simp -implicitDefEqProofs only [↓symPre, symPost, y_condP, y_condG, run, lver, minD, intsD, eqAll, tupD, splice, Nat.zero_add, Nat.add_zero, Nat.zero_mul, Nat.mul_one, Nat.one_mul, Nat.reduceAdd, Nat.reduceSub, Nat.reduceMul, Nat.reduceLT, Nat.reduceLeDiff, Nat.reduceEqDiff, true_and, and_true, true_implies, if_true, if_false, ite_true, reduceIte, ne_eq, not_false_eq_true, reduceCtorEq, forall_const, bne_self_eq_false, Bool.true_eq_false, Bool.false_eq_true, false_implies, and_self, implies_true, Int.toNat_zero, beq_self_eq_true, decide_true, decide_false, Bool.not_true, Bool.not_false, ↓y_lookv, y_key1, y_mlook, y_mlookn, y_mres1, y_mres0, ↓y_call, f1, decide_false]
      exact hend
    clear hend
    have f1 : (i : Int) < (s.attrs.length : Int) := by omega
    have f0 : (0 : Int) ≤ (i : Int) := by omega
    have w1 : IntKind.i64.wrap ((i : Int) + 1) = ((i + 1 : Nat) : Int) := by rw [IntWalk.i64_in _ (by omega)]; omega
    have e0 := nth_at s.attrs i hlt
    have hB : attrB g s.attrs i = if (s.attrs.getD i at0).non < 0 ∨ (s.attrs.getD i at0).non ≥ g.nons then 1 else if (s.attrs.getD i at0).inh = true ∧ (s.attrs.getD i at0).non = g.start then 3 else if cntA s.attrs (i + 1) (s.attrs.getD i at0).non > 3 then 2 else 0 := rfl
    have hFs := firstNZ_step (f := attrB g s.attrs) hlt
    generalize s.attrs.getD i at0 = A at *
    obtain ⟨non, inh⟩ := A
    simp only at e0 hB
    have out : attrB g s.attrs i ≠ 0 → attrB g s.attrs i = res := fun h => by
      rw [hFs, if_neg h] at hF
      rw [← hF, if_pos h] at hC
      exact hC.symm
    by_cases c0 : non < 0
    · rw [if_pos (.inl c0)] at hB
      simp -implicitDefEqProofs only [↓symPre, symPost, y_condP, y_condG, run, lver, minD, intsD, eqAll, tupD, splice, Nat.zero_add, Nat.add_zero, Nat.zero_mul, Nat.mul_one, Nat.one_mul, Nat.reduceAdd, Nat.reduceSub, Nat.reduceMul, Nat.reduceLT, Nat.reduceLeDiff, Nat.reduceEqDiff, true_and, and_true, true_implies, if_true, if_false, ite_true, reduceIte, ne_eq, not_false_eq_true, reduceCtorEq, forall_const, bne_self_eq_false, Bool.true_eq_false, Bool.false_eq_true, false_implies, and_self, implies_true, Int.toNat_zero, beq_self_eq_true, decide_true, decide_false, Bool.not_true, Bool.not_false, ↓y_lookv, y_key1, y_mlook, y_mlookn, y_mres1, y_mres0, ↓y_call, f1, f0, decide_true, List.length_map, Int.toNat_natCast, e0, c0]
      exact fin_int hl (by rw [← out (by omega), hB])
    by_cases c1 : non ≥ g.nons
    · rw [if_pos (.inr c1)] at hB
      simp -implicitDefEqProofs only [↓symPre, symPost, y_condP, y_condG, run, lver, minD, intsD, eqAll, tupD, splice, Nat.zero_add, Nat.add_zero, Nat.zero_mul, Nat.mul_one, Nat.one_mul, Nat.reduceAdd, Nat.reduceSub, Nat.reduceMul, Nat.reduceLT, Nat.reduceLeDiff, Nat.reduceEqDiff, true_and, and_true, true_implies, if_true, if_false, ite_true, reduceIte, ne_eq, not_false_eq_true, reduceCtorEq, forall_const, bne_self_eq_false, Bool.true_eq_false, Bool.false_eq_true, false_implies, and_self, implies_true, Int.toNat_zero, beq_self_eq_true, decide_true, decide_false, Bool.not_true, Bool.not_false, ↓y_lookv, y_key1, y_mlook, y_mlookn, y_mres1, y_mres0, ↓y_call, f1, f0, decide_true, decide_false, List.length_map, Int.toNat_natCast, e0, c0, c1]
      exact fin_int hl (by rw [← out (by omega), hB])
    rw [if_neg (by omega)] at hB
    by_cases c2 : inh = true ∧ non = g.start
    · rw [if_pos c2] at hB
      have b2 : (non == g.start) = true := by simp [c2.2]
      rw [c2.1] at e0
      simp -implicitDefEqProofs only [↓symPre, symPost, y_condP, y_condG, run, lver, minD, intsD, eqAll, tupD, splice, Nat.zero_add, Nat.add_zero, Nat.zero_mul, Nat.mul_one, Nat.one_mul, Nat.reduceAdd, Nat.reduceSub, Nat.reduceMul, Nat.reduceLT, Nat.reduceLeDiff, Nat.reduceEqDiff, true_and, and_true, true_implies, if_true, if_false, ite_true, reduceIte, ne_eq, not_false_eq_true, reduceCtorEq, forall_const, bne_self_eq_false, Bool.true_eq_false, Bool.false_eq_true, false_implies, and_self, implies_true, Int.toNat_zero, beq_self_eq_true, decide_true, decide_false, Bool.not_true, Bool.not_false, ↓y_lookv, y_key1, y_mlook, y_mlookn, y_mres1, y_mres0, ↓y_call, f1, f0, decide_true, decide_false, List.length_map, Int.toNat_natCast, e0, c0, c1, b2]
      exact fin_int hl (by rw [← out (by omega), hB])
    rw [if_neg c2] at hB
    have i1 : (0 : Int) ≤ ((i + 1 : Nat) : Int) := by omega
    have i2 : ((i + 1 : Nat) : Int) ≤ (s.attrs.length : Int) := by omega
    have hsl : (s.attrs.map atD).take (i + 1) = (s.attrs.take (i + 1)).map atD := by rw [List.map_take]
    have hcp := fun p hp => @cntA_take s.attrs p (i + 1) hp non
    have hpl2 : (s.attrs.take (i + 1)).length = i + 1 := by simp; omega
    have hcc := cntA_le s.attrs
    have hend1 : cntA s.attrs (i + 1) non = (((s.attrs.take (i + 1)).take (i + 1)).filter fun a => decide (a.non = non)).length := (hcp (i + 1) (Nat.le_refl _)).symm
    generalize s.attrs.take (i + 1) = pre at *
    have hlp := low_ats n pre
    have hsc : (∀ x ∈ s.attrs.map atD, x.cells.length = 2) = True := by
      simp only [eq_iff_iff, iff_true]
      intro x hx
      obtain ⟨y, _, rfl⟩ := List.mem_map.1 hx; rfl
    have cS : ∀ p (hp : p < pre.length), (((pre.take (p + 1)).filter fun a => decide (a.non = non)).length : Nat) = ((pre.take p).filter fun a => decide (a.non = non)).length + if (pre.getD p at0).non = non then 1 else 0 := fun p hp => cntA_succ hp non
    have cL : ∀ p, ((pre.take p).filter fun a => decide (a.non = non)).length ≤ p := fun p => cntA_le pre p non
    obtain ⟨b, hb, hbf⟩ : ∃ b : Bool, (if inh then (non == g.start) else false) = b ∧ b = false := ⟨_, rfl, by
      cases inh
      · rfl
      · simp only [if_true, beq_eq_false_iff_ne]; exact fun e => c2 ⟨rfl, e⟩⟩
    cases inh with
    | false =>
      simp -implicitDefEqProofs only [↓symPre, symPost, y_condP, y_condG, run, lver, minD, intsD, eqAll, tupD, splice, Nat.zero_add, Nat.add_zero, Nat.zero_mul, Nat.mul_one, Nat.one_mul, Nat.reduceAdd, Nat.reduceSub, Nat.reduceMul, Nat.reduceLT, Nat.reduceLeDiff, Nat.reduceEqDiff, true_and, and_true, true_implies, if_true, if_false, ite_true, reduceIte, ne_eq, not_false_eq_true, reduceCtorEq, forall_const, bne_self_eq_false, Bool.true_eq_false, Bool.false_eq_true, false_implies, and_self, implies_true, Int.toNat_zero, beq_self_eq_true, decide_true, decide_false, Bool.not_true, Bool.not_false, ↓y_lookv, y_key1, y_mlook, y_mlookn, y_mres1, y_mres0, ↓y_call, f1, f0, decide_true, decide_false, List.length_map, Int.toNat_natCast, e0, c0, c1, Bool.false_eq_true, w1, i1, i2, hsl, hsc, Nat.sub_zero, List.drop_zero, Int.le_refl, Int.toNat_zero]
      refine aloop (fun p : Nat => St.mk n ([.top, .top, .ptr (n + 2) 1 0, .ptr (n + 3) 1 0, .top, .top, .ptr (n + 6) 1 0, .int .i64 ((pre.take p).filter fun a => decide (a.non = non)).length] ++ List.replicate 15 .top ++ [.lst (s.attrs.map atD), .int .i64 s.attrs.length, .int .i64 i] ++ List.replicate 27 .top ++ [.lst (pre.map atD), .int .i64 pre.length, .int .i64 p] ++ List.replicate 152 .top) h
          ([blk0, blk0, ⟨1, .cells [.int .i64 g.terms, .int .i64 g.nons, .int .i64 g.start, .lst (g.rules.map ruleD)]⟩, ⟨1, .cells [.lst (s.attrs.map atD), .lst (s.eqs.map eqD)]⟩, blk0, blk0, ⟨1, .cells [.int .i64 non, .bool false]⟩] ++ List.replicate 201 blk0))
        (fun p => p ≤ pre.length) (fun p => pre.length - p) 0 (Nat.zero_le _) ?_ ?_
      · refine le_to ([.hole, .hole, .old 2, .old 3, .hole, .hole, .old 6] ++ List.replicate 201 .hole) hl rfl ?_ ?_ <;> (try simp only [List.length_map, hpl2, List.take_zero, List.filter_nil, List.length_nil]) <;> ((try simp only [y_blk_end, y_blk_hole, y_blk_nil, y_blk_old, y_wkl_end, y_wkl_top, List.replicate, List.cons_append, List.nil_append, and_true, true_and]) <;> (repeat' (first | apply And.intro | apply y_wkl | refine Exists.intro _ (And.intro rfl ?_))) <;> (try first | exact trivial | exact Wk.top _ | exact wk_int rfl | exact wk_bool rfl | exact wk_ptr rfl rfl rfl rfl | exact wk_ref rfl rfl rfl rfl rfl | exact wk_nil rfl rfl rfl | exact wk_ref rfl rfl rfl rfl (by simp) | exact wk_ref rfl rfl rfl rfl (by simp; omega) | exact wk_old (by assumption) (by simp) | exact wk_eq rfl (by first | exact Bd.int _ _ | exact Bd.bool _ | exact Bd.abool | exact Bd.nils | exact Bd.emp | exact Bd.nilp | exact Bd.nilfn | assumption | exact low_trees _ _ | exact low_treeD _ _ | exact low_ints _ _) | exact Nat.le_refl _ | exact wk_int (by simp) | exact wk_int (by omega) | exact Nat.succ_le_succ (Nat.zero_le _) | exact Nat.le_add_left _ _ | omega))
      · intro p hp
        by_cases hpl : p < pre.length
        · have p1 : (p : Int) < (pre.length : Int) := by omega
          have p0 : (0 : Int) ≤ (p : Int) := by omega
          have wp : IntKind.i64.wrap ((p : Int) + 1) = ((p + 1 : Nat) : Int) := by rw [IntWalk.i64_in _ (by omega)]; omega
          have e1 := nth_at pre p hpl
          have hcs := cS p hpl
          have hcl := cL p
          generalize hgg : pre.getD p at0 = y at *
          obtain ⟨yn, yi⟩ := y
          simp only at e1 hcs
          generalize hc1 : ((pre.take (p + 1)).filter fun a => decide (a.non = non)).length = k1 at *
          generalize hc0 : ((pre.take p).filter fun a => decide (a.non = non)).length = k0 at *
          by_cases hy : yn = non
          · have b1 : (yn == non) = true := by simp [hy]
            rw [if_pos hy] at hcs
            have wc : IntKind.i64.wrap ((k0 : Int) + 1) = (k1 : Int) := by rw [IntWalk.i64_in _ (by omega)]; omega
            simp -implicitDefEqProofs only [↓symPre, symPost, y_condP, y_condG, run, lver, minD, intsD, eqAll, tupD, splice, Nat.zero_add, Nat.add_zero, Nat.zero_mul, Nat.mul_one, Nat.one_mul, Nat.reduceAdd, Nat.reduceSub, Nat.reduceMul, Nat.reduceLT, Nat.reduceLeDiff, Nat.reduceEqDiff, true_and, and_true, true_implies, if_true, if_false, ite_true, reduceIte, ne_eq, not_false_eq_true, reduceCtorEq, forall_const, bne_self_eq_false, Bool.true_eq_false, Bool.false_eq_true, false_implies, and_self, implies_true, Int.toNat_zero, beq_self_eq_true, decide_true, decide_false, Bool.not_true, Bool.not_false, ↓y_lookv, y_key1, y_mlook, y_mlookn, y_mres1, y_mres0, ↓y_call, p1, p0, decide_true, List.length_map, Int.toNat_natCast, e1, b1, wp, wc]
            refine ⟨p + 1, by omega, by omega, ?_⟩
            simp only [hc1]
            refine le_to ([.hole, .hole, .old 2, .old 3, .hole, .hole, .old 6] ++ List.replicate 201 .hole) hl rfl ?_ ?_ <;> ((try simp only [y_blk_end, y_blk_hole, y_blk_nil, y_blk_old, y_wkl_end, y_wkl_top, List.replicate, List.cons_append, List.nil_append, and_true, true_and]) <;> (repeat' (first | apply And.intro | apply y_wkl | refine Exists.intro _ (And.intro rfl ?_))) <;> (try first | exact trivial | exact Wk.top _ | exact wk_int rfl | exact wk_bool rfl | exact wk_ptr rfl rfl rfl rfl | exact wk_ref rfl rfl rfl rfl rfl | exact wk_nil rfl rfl rfl | exact wk_ref rfl rfl rfl rfl (by simp) | exact wk_ref rfl rfl rfl rfl (by simp; omega) | exact wk_old (by assumption) (by simp) | exact wk_eq rfl (by first | exact Bd.int _ _ | exact Bd.bool _ | exact Bd.abool | exact Bd.nils | exact Bd.emp | exact Bd.nilp | exact Bd.nilfn | assumption | exact low_trees _ _ | exact low_treeD _ _ | exact low_ints _ _) | exact Nat.le_refl _ | exact wk_int (by simp) | exact wk_int (by omega) | exact Nat.succ_le_succ (Nat.zero_le _) | exact Nat.le_add_left _ _ | omega))
          · have b1 : (yn == non) = false := by simp [hy]
            rw [if_neg hy, Nat.add_zero] at hcs
            simp -implicitDefEqProofs only [↓symPre, symPost, y_condP, y_condG, run, lver, minD, intsD, eqAll, tupD, splice, Nat.zero_add, Nat.add_zero, Nat.zero_mul, Nat.mul_one, Nat.one_mul, Nat.reduceAdd, Nat.reduceSub, Nat.reduceMul, Nat.reduceLT, Nat.reduceLeDiff, Nat.reduceEqDiff, true_and, and_true, true_implies, if_true, if_false, ite_true, reduceIte, ne_eq, not_false_eq_true, reduceCtorEq, forall_const, bne_self_eq_false, Bool.true_eq_false, Bool.false_eq_true, false_implies, and_self, implies_true, Int.toNat_zero, beq_self_eq_true, decide_true, decide_false, Bool.not_true, Bool.not_false, ↓y_lookv, y_key1, y_mlook, y_mlookn, y_mres1, y_mres0, ↓y_call, p1, p0, decide_true, List.length_map, Int.toNat_natCast, e1, b1, wp]
            refine ⟨p + 1, by omega, by omega, ?_⟩
            simp only [hc1, hcs]
            refine le_to ([.hole, .hole, .old 2, .old 3, .hole, .hole, .old 6] ++ List.replicate 201 .hole) hl rfl ?_ ?_ <;> ((try simp only [y_blk_end, y_blk_hole, y_blk_nil, y_blk_old, y_wkl_end, y_wkl_top, List.replicate, List.cons_append, List.nil_append, and_true, true_and]) <;> (repeat' (first | apply And.intro | apply y_wkl | refine Exists.intro _ (And.intro rfl ?_))) <;> (try first | exact trivial | exact Wk.top _ | exact wk_int rfl | exact wk_bool rfl | exact wk_ptr rfl rfl rfl rfl | exact wk_ref rfl rfl rfl rfl rfl | exact wk_nil rfl rfl rfl | exact wk_ref rfl rfl rfl rfl (by simp) | exact wk_ref rfl rfl rfl rfl (by simp; omega) | exact wk_old (by assumption) (by simp) | exact wk_eq rfl (by first | exact Bd.int _ _ | exact Bd.bool _ | exact Bd.abool | exact Bd.nils | exact Bd.emp | exact Bd.nilp | exact Bd.nilfn | assumption | exact low_trees _ _ | exact low_treeD _ _ | exact low_ints _ _) | exact Nat.le_refl _ | exact wk_int (by simp) | exact wk_int (by omega) | exact Nat.succ_le_succ (Nat.zero_le _) | exact Nat.le_add_left _ _ | omega))
        · have p1 : ¬ (p : Int) < (pre.length : Int) := by omega
          obtain rfl : p = i + 1 := by omega
          rw [← hend1]
          generalize cntA s.attrs (i + 1) non = cc at *
          by_cases c3 : cc > 3
          · have g3 : (cc : Int) > 3 := by omega
            rw [if_pos c3] at hB
            simp -implicitDefEqProofs only [↓symPre, symPost, y_condP, y_condG, run, lver, minD, intsD, eqAll, tupD, splice, Nat.zero_add, Nat.add_zero, Nat.zero_mul, Nat.mul_one, Nat.one_mul, Nat.reduceAdd, Nat.reduceSub, Nat.reduceMul, Nat.reduceLT, Nat.reduceLeDiff, Nat.reduceEqDiff, true_and, and_true, true_implies, if_true, if_false, ite_true, reduceIte, ne_eq, not_false_eq_true, reduceCtorEq, forall_const, bne_self_eq_false, Bool.true_eq_false, Bool.false_eq_true, false_implies, and_self, implies_true, Int.toNat_zero, beq_self_eq_true, decide_true, decide_false, Bool.not_true, Bool.not_false, ↓y_lookv, y_key1, y_mlook, y_mlookn, y_mres1, y_mres0, ↓y_call, p1, decide_false, g3, decide_true]
            exact fin_int hl (by rw [← out (by omega), hB])
          · have g3 : ¬ (cc : Int) > 3 := by omega
            rw [if_neg c3] at hB
            rw [hFs, hB, if_pos rfl] at hF
            simp -implicitDefEqProofs only [↓symPre, symPost, y_condP, y_condG, run, lver, minD, intsD, eqAll, tupD, splice, Nat.zero_add, Nat.add_zero, Nat.zero_mul, Nat.mul_one, Nat.one_mul, Nat.reduceAdd, Nat.reduceSub, Nat.reduceMul, Nat.reduceLT, Nat.reduceLeDiff, Nat.reduceEqDiff, true_and, and_true, true_implies, if_true, if_false, ite_true, reduceIte, ne_eq, not_false_eq_true, reduceCtorEq, forall_const, bne_self_eq_false, Bool.true_eq_false, Bool.false_eq_true, false_implies, and_self, implies_true, Int.toNat_zero, beq_self_eq_true, decide_true, decide_false, Bool.not_true, Bool.not_false, ↓y_lookv, y_key1, y_mlook, y_mlookn, y_mres1, y_mres0, ↓y_call, p1, decide_false, g3, w1]
            refine ⟨i + 1, ⟨by omega, hF⟩, by omega, ?_⟩
            refine le_to ([.hole, .hole, .old 2, .old 3] ++ List.replicate 204 .hole) hl rfl ?_ ?_ <;> ((try simp only [y_blk_end, y_blk_hole, y_blk_nil, y_blk_old, y_wkl_end, y_wkl_top, List.replicate, List.cons_append, List.nil_append, and_true, true_and]) <;> (repeat' (first | apply And.intro | apply y_wkl | refine Exists.intro _ (And.intro rfl ?_))) <;> (try first | exact trivial | exact Wk.top _ | exact wk_int rfl | exact wk_bool rfl | exact wk_ptr rfl rfl rfl rfl | exact wk_ref rfl rfl rfl rfl rfl | exact wk_nil rfl rfl rfl | exact wk_ref rfl rfl rfl rfl (by simp) | exact wk_ref rfl rfl rfl rfl (by simp; omega) | exact wk_old (by assumption) (by simp) | exact wk_eq rfl (by first | exact Bd.int _ _ | exact Bd.bool _ | exact Bd.abool | exact Bd.nils | exact Bd.emp | exact Bd.nilp | exact Bd.nilfn | assumption | exact low_trees _ _ | exact low_treeD _ _ | exact low_ints _ _) | exact Nat.le_refl _ | exact wk_int (by simp) | exact wk_int (by omega) | exact Nat.succ_le_succ (Nat.zero_le _) | exact Nat.le_add_left _ _ | omega))
    | true =>
      simp only [if_true] at hb
      rw [hbf] at hb
      simp -implicitDefEqProofs only [↓symPre, symPost, y_condP, y_condG, run, lver, minD, intsD, eqAll, tupD, splice, Nat.zero_add, Nat.add_zero, Nat.zero_mul, Nat.mul_one, Nat.one_mul, Nat.reduceAdd, Nat.reduceSub, Nat.reduceMul, Nat.reduceLT, Nat.reduceLeDiff, Nat.reduceEqDiff, true_and, and_true, true_implies, if_true, if_false, ite_true, reduceIte, ne_eq, not_false_eq_true, reduceCtorEq, forall_const, bne_self_eq_false, Bool.true_eq_false, Bool.false_eq_true, false_implies, and_self, implies_true, Int.toNat_zero, beq_self_eq_true, decide_true, decide_false, Bool.not_true, Bool.not_false, ↓y_lookv, y_key1, y_mlook, y_mlookn, y_mres1, y_mres0, ↓y_call, f1, f0, decide_true, decide_false, List.length_map, Int.toNat_natCast, e0, c0, c1, hb, w1, i1, i2, hsl, hsc, Nat.sub_zero, List.drop_zero, Int.le_refl, Int.toNat_zero]
      refine aloop (fun p : Nat => St.mk n ([.top, .top, .ptr (n + 2) 1 0, .ptr (n + 3) 1 0, .top, .top, .ptr (n + 6) 1 0, .int .i64 ((pre.take p).filter fun a => decide (a.non = non)).length] ++ List.replicate 15 .top ++ [.lst (s.attrs.map atD), .int .i64 s.attrs.length, .int .i64 i] ++ List.replicate 27 .top ++ [.lst (pre.map atD), .int .i64 pre.length, .int .i64 p] ++ List.replicate 152 .top) h
          ([blk0, blk0, ⟨1, .cells [.int .i64 g.terms, .int .i64 g.nons, .int .i64 g.start, .lst (g.rules.map ruleD)]⟩, ⟨1, .cells [.lst (s.attrs.map atD), .lst (s.eqs.map eqD)]⟩, blk0, blk0, ⟨1, .cells [.int .i64 non, .bool true]⟩] ++ List.replicate 201 blk0))
        (fun p => p ≤ pre.length) (fun p => pre.length - p) 0 (Nat.zero_le _) ?_ ?_
      · refine le_to ([.hole, .hole, .old 2, .old 3, .hole, .hole, .old 6] ++ List.replicate 201 .hole) hl rfl ?_ ?_ <;> (try simp only [List.length_map, hpl2, List.take_zero, List.filter_nil, List.length_nil]) <;> ((try simp only [y_blk_end, y_blk_hole, y_blk_nil, y_blk_old, y_wkl_end, y_wkl_top, List.replicate, List.cons_append, List.nil_append, and_true, true_and]) <;> (repeat' (first | apply And.intro | apply y_wkl | refine Exists.intro _ (And.intro rfl ?_))) <;> (try first | exact trivial | exact Wk.top _ | exact wk_int rfl | exact wk_bool rfl | exact wk_ptr rfl rfl rfl rfl | exact wk_ref rfl rfl rfl rfl rfl | exact wk_nil rfl rfl rfl | exact wk_ref rfl rfl rfl rfl (by simp) | exact wk_ref rfl rfl rfl rfl (by simp; omega) | exact wk_old (by assumption) (by simp) | exact wk_eq rfl (by first | exact Bd.int _ _ | exact Bd.bool _ | exact Bd.abool | exact Bd.nils | exact Bd.emp | exact Bd.nilp | exact Bd.nilfn | assumption | exact low_trees _ _ | exact low_treeD _ _ | exact low_ints _ _) | exact Nat.le_refl _ | exact wk_int (by simp) | exact wk_int (by omega) | exact Nat.succ_le_succ (Nat.zero_le _) | exact Nat.le_add_left _ _ | omega))
      · intro p hp
        by_cases hpl : p < pre.length
        · have p1 : (p : Int) < (pre.length : Int) := by omega
          have p0 : (0 : Int) ≤ (p : Int) := by omega
          have wp : IntKind.i64.wrap ((p : Int) + 1) = ((p + 1 : Nat) : Int) := by rw [IntWalk.i64_in _ (by omega)]; omega
          have e1 := nth_at pre p hpl
          have hcs := cS p hpl
          have hcl := cL p
          generalize hgg : pre.getD p at0 = y at *
          obtain ⟨yn, yi⟩ := y
          simp only at e1 hcs
          generalize hc1 : ((pre.take (p + 1)).filter fun a => decide (a.non = non)).length = k1 at *
          generalize hc0 : ((pre.take p).filter fun a => decide (a.non = non)).length = k0 at *
          by_cases hy : yn = non
          · have b1 : (yn == non) = true := by simp [hy]
            rw [if_pos hy] at hcs
            have wc : IntKind.i64.wrap ((k0 : Int) + 1) = (k1 : Int) := by rw [IntWalk.i64_in _ (by omega)]; omega
            simp -implicitDefEqProofs only [↓symPre, symPost, y_condP, y_condG, run, lver, minD, intsD, eqAll, tupD, splice, Nat.zero_add, Nat.add_zero, Nat.zero_mul, Nat.mul_one, Nat.one_mul, Nat.reduceAdd, Nat.reduceSub, Nat.reduceMul, Nat.reduceLT, Nat.reduceLeDiff, Nat.reduceEqDiff, true_and, and_true, true_implies, if_true, if_false, ite_true, reduceIte, ne_eq, not_false_eq_true, reduceCtorEq, forall_const, bne_self_eq_false, Bool.true_eq_false, Bool.false_eq_true, false_implies, and_self, implies_true, Int.toNat_zero, beq_self_eq_true, decide_true, decide_false, Bool.not_true, Bool.not_false, ↓y_lookv, y_key1, y_mlook, y_mlookn, y_mres1, y_mres0, ↓y_call, p1, p0, decide_true, List.length_map, Int.toNat_natCast, e1, b1, wp, wc]
            refine ⟨p + 1, by omega, by omega, ?_⟩
            simp only [hc1]
            refine le_to ([.hole, .hole, .old 2, .old 3, .hole, .hole, .old 6] ++ List.replicate 201 .hole) hl rfl ?_ ?_ <;> ((try simp only [y_blk_end, y_blk_hole, y_blk_nil, y_blk_old, y_wkl_end, y_wkl_top, List.replicate, List.cons_append, List.nil_append, and_true, true_and]) <;> (repeat' (first | apply And.intro | apply y_wkl | refine Exists.intro _ (And.intro rfl ?_))) <;> (try first | exact trivial | exact Wk.top _ | exact wk_int rfl | exact wk_bool rfl | exact wk_ptr rfl rfl rfl rfl | exact wk_ref rfl rfl rfl rfl rfl | exact wk_nil rfl rfl rfl | exact wk_ref rfl rfl rfl rfl (by simp) | exact wk_ref rfl rfl rfl rfl (by simp; omega) | exact wk_old (by assumption) (by simp) | exact wk_eq rfl (by first | exact Bd.int _ _ | exact Bd.bool _ | exact Bd.abool | exact Bd.nils | exact Bd.emp | exact Bd.nilp | exact Bd.nilfn | assumption | exact low_trees _ _ | exact low_treeD _ _ | exact low_ints _ _) | exact Nat.le_refl _ | exact wk_int (by simp) | exact wk_int (by omega) | exact Nat.succ_le_succ (Nat.zero_le _) | exact Nat.le_add_left _ _ | omega))
          · have b1 : (yn == non) = false := by simp [hy]
            rw [if_neg hy, Nat.add_zero] at hcs
            simp -implicitDefEqProofs only [↓symPre, symPost, y_condP, y_condG, run, lver, minD, intsD, eqAll, tupD, splice, Nat.zero_add, Nat.add_zero, Nat.zero_mul, Nat.mul_one, Nat.one_mul, Nat.reduceAdd, Nat.reduceSub, Nat.reduceMul, Nat.reduceLT, Nat.reduceLeDiff, Nat.reduceEqDiff, true_and, and_true, true_implies, if_true, if_false, ite_true, reduceIte, ne_eq, not_false_eq_true, reduceCtorEq, forall_const, bne_self_eq_false, Bool.true_eq_false, Bool.false_eq_true, false_implies, and_self, implies_true, Int.toNat_zero, beq_self_eq_true, decide_true, decide_false, Bool.not_true, Bool.not_false, ↓y_lookv, y_key1, y_mlook, y_mlookn, y_mres1, y_mres0, ↓y_call, p1, p0, decide_true, List.length_map, Int.toNat_natCast, e1, b1, wp]
            refine ⟨p + 1, by omega, by omega, ?_⟩
            simp only [hc1, hcs]
            refine le_to ([.hole, .hole, .old 2, .old 3, .hole, .hole, .old 6] ++ List.replicate 201 .hole) hl rfl ?_ ?_ <;> ((try simp only [y_blk_end, y_blk_hole, y_blk_nil, y_blk_old, y_wkl_end, y_wkl_top, List.replicate, List.cons_append, List.nil_append, and_true, true_and]) <;> (repeat' (first | apply And.intro | apply y_wkl | refine Exists.intro _ (And.intro rfl ?_))) <;> (try first | exact trivial | exact Wk.top _ | exact wk_int rfl | exact wk_bool rfl | exact wk_ptr rfl rfl rfl rfl | exact wk_ref rfl rfl rfl rfl rfl | exact wk_nil rfl rfl rfl | exact wk_ref rfl rfl rfl rfl (by simp) | exact wk_ref rfl rfl rfl rfl (by simp; omega) | exact wk_old (by assumption) (by simp) | exact wk_eq rfl (by first | exact Bd.int _ _ | exact Bd.bool _ | exact Bd.abool | exact Bd.nils | exact Bd.emp | exact Bd.nilp | exact Bd.nilfn | assumption | exact low_trees _ _ | exact low_treeD _ _ | exact low_ints _ _) | exact Nat.le_refl _ | exact wk_int (by simp) | exact wk_int (by omega) | exact Nat.succ_le_succ (Nat.zero_le _) | exact Nat.le_add_left _ _ | omega))
        · have p1 : ¬ (p : Int) < (pre.length : Int) := by omega
          obtain rfl : p = i + 1 := by omega
          rw [← hend1]
          generalize cntA s.attrs (i + 1) non = cc at *
          by_cases c3 : cc > 3
          · have g3 : (cc : Int) > 3 := by omega
            rw [if_pos c3] at hB
            simp -implicitDefEqProofs only [↓symPre, symPost, y_condP, y_condG, run, lver, minD, intsD, eqAll, tupD, splice, Nat.zero_add, Nat.add_zero, Nat.zero_mul, Nat.mul_one, Nat.one_mul, Nat.reduceAdd, Nat.reduceSub, Nat.reduceMul, Nat.reduceLT, Nat.reduceLeDiff, Nat.reduceEqDiff, true_and, and_true, true_implies, if_true, if_false, ite_true, reduceIte, ne_eq, not_false_eq_true, reduceCtorEq, forall_const, bne_self_eq_false, Bool.true_eq_false, Bool.false_eq_true, false_implies, and_self, implies_true, Int.toNat_zero, beq_self_eq_true, decide_true, decide_false, Bool.not_true, Bool.not_false, ↓y_lookv, y_key1, y_mlook, y_mlookn, y_mres1, y_mres0, ↓y_call, p1, decide_false, g3, decide_true]
            exact fin_int hl (by rw [← out (by omega), hB])
          · have g3 : ¬ (cc : Int) > 3 := by omega
            rw [if_neg c3] at hB
            rw [hFs, hB, if_pos rfl] at hF
            simp -implicitDefEqProofs only [↓symPre, symPost, y_condP, y_condG, run, lver, minD, intsD, eqAll, tupD, splice, Nat.zero_add, Nat.add_zero, Nat.zero_mul, Nat.mul_one, Nat.one_mul, Nat.reduceAdd, Nat.reduceSub, Nat.reduceMul, Nat.reduceLT, Nat.reduceLeDiff, Nat.reduceEqDiff, true_and, and_true, true_implies, if_true, if_false, ite_true, reduceIte, ne_eq, not_false_eq_true, reduceCtorEq, forall_const, bne_self_eq_false, Bool.true_eq_false, Bool.false_eq_true, false_implies, and_self, implies_true, Int.toNat_zero, beq_self_eq_true, decide_true, decide_false, Bool.not_true, Bool.not_false, ↓y_lookv, y_key1, y_mlook, y_mlookn, y_mres1, y_mres0, ↓y_call, p1, decide_false, g3, w1]
            refine ⟨i + 1, ⟨by omega, hF⟩, by omega, ?_⟩
            refine le_to ([.hole, .hole, .old 2, .old 3] ++ List.replicate 204 .hole) hl rfl ?_ ?_ <;> ((try simp only [y_blk_end, y_blk_hole, y_blk_nil, y_blk_old, y_wkl_end, y_wkl_top, List.replicate, List.cons_append, List.nil_append, and_true, true_and]) <;> (repeat' (first | apply And.intro | apply y_wkl | refine Exists.intro _ (And.intro rfl ?_))) <;> (try first | exact trivial | exact Wk.top _ | exact wk_int rfl | exact wk_bool rfl | exact wk_ptr rfl rfl rfl rfl | exact wk_ref rfl rfl rfl rfl rfl | exact wk_nil rfl rfl rfl | exact wk_ref rfl rfl rfl rfl (by simp) | exact wk_ref rfl rfl rfl rfl (by simp; omega) | exact wk_old (by assumption) (by simp) | exact wk_eq rfl (by first | exact Bd.int _ _ | exact Bd.bool _ | exact Bd.abool | exact Bd.nils | exact Bd.emp | exact Bd.nilp | exact Bd.nilfn | assumption | exact low_trees _ _ | exact low_treeD _ _ | exact low_ints _ _) | exact Nat.le_refl _ | exact wk_int (by simp) | exact wk_int (by omega) | exact Nat.succ_le_succ (Nat.zero_le _) | exact Nat.le_add_left _ _ | omega))

end Abs
end Go.Proofs.Ytbdcklchcdkhbaa

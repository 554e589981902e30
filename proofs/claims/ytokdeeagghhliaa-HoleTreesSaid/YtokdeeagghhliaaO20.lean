/- hole.Check, hole.Fill. -/
import Derived.Test.YtokdeeagghhliaaO19
namespace Go.Proofs.Ytokdeeagghhliaa
namespace Abs
set_option linter.unusedVariables false
set_option linter.unusedSimpArgs false
set_option maxRecDepth 20000

theorem ordSy_eq {a b : Sy} (h : ordSy a b = 0) : a = b := by
  obtain ⟨at', an⟩ := a
  obtain ⟨bt, bn⟩ := b
  unfold ordSy at h
  cases at' <;> cases bt <;> simp at h ⊢ <;> exact cmpI_zero h
theorem cmpSy_eq : ∀ {l m : List Sy}, cmpSy l m = 0 → l = m
  | [], [], _ => rfl
  | [], _ :: _, h => by simp [cmpSy] at h
  | _ :: _, [], h => by simp [cmpSy] at h
  | a :: l, b :: m, h => by
    rw [cmpSy] at h
    split at h
    · rename_i e; rw [ordSy_eq e, cmpSy_eq h]
    · rename_i e; exact absurd h e
theorem cmpRu_eq {a b : Ru} (h : cmpRu a b = 0) : a = b := by
  obtain ⟨al, ar⟩ := a
  obtain ⟨bl, br⟩ := b
  unfold cmpRu at h
  simp only at h
  split at h
  · rename_i e; rw [cmpI_zero e, cmpSy_eq h]
  · rename_i e; exact absurd h e

theorem gR_ok {g : Gr} : ∀ {l pre : List Ru}, gR g l pre = 0 → ∀ r ∈ l, 0 ≤ r.left ∧ r.left < g.nons ∧ r.right.length ≤ 4 ∧ ∀ s ∈ r.right, okSy g.terms g.nons s
  | [], _, _, r, hr => by cases hr
  | r :: l, pre, h, r', hr => by
    rw [gR] at h
    split at h
    · cases h
    · rename_i h1
      split at h
      · cases h
      · rename_i h2
        split at h
        · cases h
        · rename_i h3
          split at h
          · cases h
          · rcases List.mem_cons.1 hr with rfl | hr
            · refine ⟨by omega, by omega, by omega, fun s hs => ?_⟩
              have hb : badSy g s = false := by
                cases hb : badSy g s with
                | false => rfl
                | true => exact absurd (List.any_eq_true.2 ⟨s, hs, hb⟩) h3
              unfold badSy at hb
              simp only [Bool.or_eq_false_iff, Bool.and_eq_false_iff, decide_eq_false_iff_not, Bool.not_eq_false'] at hb
              obtain ⟨⟨b1, b2⟩, b3⟩ := hb
              refine ⟨by omega, fun ht => ?_, fun ht => ?_⟩
              · rcases b2 with b2 | b2
                · rw [ht] at b2; cases b2
                · omega
              · rcases b3 with b3 | b3
                · rw [ht] at b3; cases b3
                · omega
            · exact gR_ok h r' hr
theorem gchk_ok {g : Gr} (h : gchk g = 0) : okG g := by
  unfold gchk at h
  split at h
  · cases h
  · rename_i h1
    split at h
    · cases h
    · rename_i h2
      exact ⟨by omega, by omega, by omega, by omega, gR_ok h⟩
theorem gR_zero {g : Gr} : ∀ {l pre : List Ru}, (∀ r ∈ l, 0 ≤ r.left ∧ r.left < g.nons ∧ r.right.length ≤ 4 ∧ ∀ s ∈ r.right, okSy g.terms g.nons s) → (pre ++ l).Nodup → gR g l pre = 0
  | [], _, _, _ => rfl
  | r :: l, pre, h, hn => by
    obtain ⟨h1, h2, h3, h4⟩ := h r (by simp)
    rw [gR, if_neg (by omega), if_neg (by omega), if_neg, if_neg]
    · exact gR_zero (fun r' hr => h r' (by simp [hr])) (by simpa using hn)
    · intro ha
      obtain ⟨q, hq, hqr⟩ := List.any_eq_true.1 ha
      have e := cmpRu_eq (by simpa using hqr)
      subst e
      have := List.nodup_append.1 hn
      exact this.2.2 q hq q (by simp) rfl
    · intro ha
      obtain ⟨s, hs, hb⟩ := List.any_eq_true.1 ha
      obtain ⟨b1, b2, b3⟩ := h4 s hs
      unfold badSy at hb
      simp only [Bool.or_eq_true, Bool.and_eq_true, decide_eq_true_eq, Bool.not_eq_true'] at hb
      rcases hb with (hb | hb) | hb
      · omega
      · have := b2 hb.1; omega
      · have := b3 hb.1; omega
theorem okGr_chk {g : Gr} (h : okGr g) : gchk g = 0 := by
  obtain ⟨h1, h2, h3, h4, h5, h6⟩ := h
  unfold gchk
  rw [if_neg (by omega), if_neg (by omega)]
  exact gR_zero (fun r hr => by obtain ⟨a, b, c, d⟩ := h5 r hr; exact ⟨a, b, by omega, d⟩) (by simpa using h6)

def badP (g : Gr) (x : Sy) : Bool := (x.t && (decide (x.n < -1) || decide (x.n ≥ g.terms))) || (!x.t && (decide (x.n < 0) || decide (x.n ≥ g.nons)))
def hchk (g : Gr) (l : List Sy) : Int := if gchk g ≠ 0 then gchk g else if l.length > 12 then 2 else if l.any (badP g) then 3 else 0
theorem hchk_ok {g : Gr} {l : List Sy} (h : hchk g l = 0) : okG g ∧ okP g l := by
  unfold hchk at h
  split at h
  · exact absurd h ‹_›
  · rename_i h0
    split at h
    · cases h
    · rename_i h1
      split at h
      · cases h
      · rename_i h2
        refine ⟨gchk_ok (by simpa using h0), by omega, fun x hx => ?_⟩
        have hb : badP g x = false := by
          cases hb : badP g x with
          | false => rfl
          | true => exact absurd (List.any_eq_true.2 ⟨x, hx, hb⟩) h2
        obtain ⟨xt, xn⟩ := x
        unfold badP at hb
        cases xt <;> simp at hb ⊢ <;> omega
theorem hchk_zero {g : Gr} {l : List Sy} (h : gchk g = 0) (hl : okP g l) : hchk g l = 0 := by
  unfold hchk
  rw [if_neg (by simp [h]), if_neg (by have := hl.len; omega), if_neg]
  intro ha
  obtain ⟨x, hx, hb⟩ := List.any_eq_true.1 ha
  have := hl.cell x hx
  obtain ⟨xt, xn⟩ := x
  unfold badP at hb
  cases xt <;> simp at hb this <;> omega

theorem any_take_succ {α : Type} (f : α → Bool) (l : List α) {i : Nat} (hi : i < l.length) : (l.take (i + 1)).any f = ((l.take i).any f || f l[i]) := by
  rw [← List.take_append_getElem hi, List.any_append]; simp

set_option maxHeartbeats 2000000 in
theorem pure_holeCheck (g : Gr) (l : List Sy) (hr : g.rules.length < 2 ^ 60) (hx : ∀ r ∈ g.rules, r.right.length < 2 ^ 60) (hl60 : l.length < 2 ^ 60) : Pure prog F_hole_Check [gramD g, .lst (l.map symD)] (.int .i64 (hchk g l)) := by
  intro n h
  have pC := pure_gramCheck g hr hx
  refine K_hole_Check.calls fun hl => ?_
  unfold C_hole_Check
  generalize hH : hchk g l = q
  unfold hchk at hH
  generalize gchk g = cg at *
  unfold gramD at pC ⊢
  simp -implicitDefEqProofs only [↓symPre, symPost, y_condP, y_condG, run, lver, minD, intsD, eqAll, tupD, splice, Nat.zero_add, Nat.add_zero, Nat.zero_mul, Nat.mul_one, Nat.one_mul, Nat.reduceAdd, Nat.reduceSub, Nat.reduceMul, Nat.reduceLT, Nat.reduceLeDiff, Nat.reduceEqDiff, true_and, and_true, true_implies, if_true, if_false, ite_true, reduceIte, ne_eq, not_false_eq_true, reduceCtorEq, forall_const, bne_self_eq_false, Bool.true_eq_false, Bool.false_eq_true, false_implies, and_self, implies_true, Int.toNat_zero, beq_self_eq_true, decide_true, decide_false, Bool.not_true, Bool.not_false, ↓y_lookv, y_key1, y_mlook, y_mlookn, y_mres1, y_mres0, ↓y_call]
  refine pC.call rfl ?_
  by_cases hc : cg = 0
  · rw [if_neg (by simpa using hc)] at hH
    have b0 : (cg != 0) = false := by simp [hc]
    by_cases hlen : l.length > 12
    · rw [if_pos hlen] at hH
      have c1 : (l.length : Int) > 12 := by omega
      simp -implicitDefEqProofs only [↓symPre, symPost, y_condP, y_condG, run, lver, minD, intsD, eqAll, tupD, splice, Nat.zero_add, Nat.add_zero, Nat.zero_mul, Nat.mul_one, Nat.one_mul, Nat.reduceAdd, Nat.reduceSub, Nat.reduceMul, Nat.reduceLT, Nat.reduceLeDiff, Nat.reduceEqDiff, true_and, and_true, true_implies, if_true, if_false, ite_true, reduceIte, ne_eq, not_false_eq_true, reduceCtorEq, forall_const, bne_self_eq_false, Bool.true_eq_false, Bool.false_eq_true, false_implies, and_self, implies_true, Int.toNat_zero, beq_self_eq_true, decide_true, decide_false, Bool.not_true, Bool.not_false, ↓y_lookv, y_key1, y_mlook, y_mlookn, y_mres1, y_mres0, ↓y_call, b0, List.length_map, c1, decide_true]
      exact fin_int hl hH
    · rw [if_neg hlen] at hH
      have c1 : ¬ (l.length : Int) > 12 := by omega
      simp -implicitDefEqProofs only [↓symPre, symPost, y_condP, y_condG, run, lver, minD, intsD, eqAll, tupD, splice, Nat.zero_add, Nat.add_zero, Nat.zero_mul, Nat.mul_one, Nat.one_mul, Nat.reduceAdd, Nat.reduceSub, Nat.reduceMul, Nat.reduceLT, Nat.reduceLeDiff, Nat.reduceEqDiff, true_and, and_true, true_implies, if_true, if_false, ite_true, reduceIte, ne_eq, not_false_eq_true, reduceCtorEq, forall_const, bne_self_eq_false, Bool.true_eq_false, Bool.false_eq_true, false_implies, and_self, implies_true, Int.toNat_zero, beq_self_eq_true, decide_true, decide_false, Bool.not_true, Bool.not_false, ↓y_lookv, y_key1, y_mlook, y_mlookn, y_mres1, y_mres0, ↓y_call, b0, List.length_map, c1, decide_false]
      refine aloop (fun i : Nat => St.mk n ([.top, .top, .ptr (n + 2) 1 0, .top, .top] ++ List.replicate 11 .top ++ [.lst (l.map symD), .int .i64 l.length, .int .i64 i] ++ List.replicate 35 .top) h
          (List.replicate 2 blk0 ++ [⟨1, .cells [.int .i64 g.terms, .int .i64 g.nons, .int .i64 g.start, .lst (g.rules.map ruleD)]⟩] ++ List.replicate 51 blk0)) (fun i => i ≤ l.length ∧ (l.take i).any (badP g) = false) (fun i => l.length - i) 0 ⟨Nat.zero_le _, rfl⟩ ?_ ?_
      · refine le_to (List.replicate 2 .hole ++ [.old 2] ++ List.replicate 51 .hole) hl rfl ?_ ?_ <;> ((try simp only [y_blk_end, y_blk_hole, y_blk_nil, y_blk_old, y_wkl_end, y_wkl_top, List.replicate, List.cons_append, List.nil_append, and_true, true_and]) <;> (repeat' (first | apply And.intro | apply y_wkl | refine Exists.intro _ (And.intro rfl ?_))) <;> (try first | exact trivial | exact Wk.top _ | exact wk_int rfl | exact wk_bool rfl | exact wk_ptr rfl rfl rfl rfl | exact wk_ref rfl rfl rfl rfl rfl | exact wk_nil rfl rfl rfl | exact wk_ref rfl rfl rfl rfl (by simp) | exact wk_ref rfl rfl rfl rfl (by simp; omega) | exact wk_old (by assumption) (by simp) | exact wk_eq rfl (by first | exact Bd.int _ _ | exact Bd.bool _ | exact Bd.abool | exact Bd.nils | exact Bd.emp | exact Bd.nilp | exact Bd.nilfn | assumption | exact low_trees _ _ | exact low_treeD _ _ | exact low_ints _ _) | exact Nat.le_refl _ | exact wk_int (by simp) | exact wk_int (by omega) | exact Nat.succ_le_succ (Nat.zero_le _) | exact Nat.le_add_left _ _ | omega))
        all_goals first | exact .low _ (low_rules n g.rules) | exact .low _ (low_syms n l) | trace_state
      · rintro i ⟨hi, hb⟩
        by_cases hlt : i < l.length
        · have f1 : (i : Int) < (l.length : Int) := by omega
          have f0 : (0 : Int) ≤ (i : Int) := by omega
          have e0 := nth_sym l i hlt
          have tk := any_take_succ (badP g) l hlt
          have em : l.getD i ⟨false, 0⟩ = l[i] := by simp [List.getD, hlt]
          have w1 : IntKind.i64.wrap ((i : Int) + 1) = ((i + 1 : Nat) : Int) := by rw [IntWalk.i64_in _ (by omega)]; omega
          have hbad : badP g l[i] = true → l.any (badP g) = true := fun h => List.any_eq_true.2 ⟨l[i], List.getElem_mem _, h⟩
          rw [em] at e0
          rw [hb, Bool.false_or] at tk
          generalize l[i] = x at *
          obtain ⟨xt, xn⟩ := x
          simp only at e0
          have stop : badP g ⟨xt, xn⟩ = true → (3 : Int) = q := fun h => by rw [if_pos (hbad h)] at hH; exact hH
          have hbd : badP g ⟨xt, xn⟩ = ((xt && (decide (xn < -1) || decide (xn ≥ g.terms))) || (!xt && (decide (xn < 0) || decide (xn ≥ g.nons)))) := rfl
          rw [hbd] at tk stop
          cases xt with
          | true =>
            simp only [Bool.true_and, Bool.not_true, Bool.false_and, Bool.or_false, Bool.or_eq_true, decide_eq_true_eq] at tk stop
            by_cases c2 : xn < -1
            · simp -implicitDefEqProofs only [↓symPre, symPost, y_condP, y_condG, run, lver, minD, intsD, eqAll, tupD, splice, Nat.zero_add, Nat.add_zero, Nat.zero_mul, Nat.mul_one, Nat.one_mul, Nat.reduceAdd, Nat.reduceSub, Nat.reduceMul, Nat.reduceLT, Nat.reduceLeDiff, Nat.reduceEqDiff, true_and, and_true, true_implies, if_true, if_false, ite_true, reduceIte, ne_eq, not_false_eq_true, reduceCtorEq, forall_const, bne_self_eq_false, Bool.true_eq_false, Bool.false_eq_true, false_implies, and_self, implies_true, Int.toNat_zero, beq_self_eq_true, decide_true, decide_false, Bool.not_true, Bool.not_false, ↓y_lookv, y_key1, y_mlook, y_mlookn, y_mres1, y_mres0, ↓y_call, List.length_map, f1, f0, decide_true, Int.toNat_natCast, e0, c2]
              exact fin_int hl (stop (.inl c2))
            · by_cases c3 : xn ≥ g.terms
              · simp -implicitDefEqProofs only [↓symPre, symPost, y_condP, y_condG, run, lver, minD, intsD, eqAll, tupD, splice, Nat.zero_add, Nat.add_zero, Nat.zero_mul, Nat.mul_one, Nat.one_mul, Nat.reduceAdd, Nat.reduceSub, Nat.reduceMul, Nat.reduceLT, Nat.reduceLeDiff, Nat.reduceEqDiff, true_and, and_true, true_implies, if_true, if_false, ite_true, reduceIte, ne_eq, not_false_eq_true, reduceCtorEq, forall_const, bne_self_eq_false, Bool.true_eq_false, Bool.false_eq_true, false_implies, and_self, implies_true, Int.toNat_zero, beq_self_eq_true, decide_true, decide_false, Bool.not_true, Bool.not_false, ↓y_lookv, y_key1, y_mlook, y_mlookn, y_mres1, y_mres0, ↓y_call, List.length_map, f1, f0, decide_true, decide_false, Int.toNat_natCast, e0, c2, c3]
                exact fin_int hl (stop (.inr c3))
              · simp -implicitDefEqProofs only [↓symPre, symPost, y_condP, y_condG, run, lver, minD, intsD, eqAll, tupD, splice, Nat.zero_add, Nat.add_zero, Nat.zero_mul, Nat.mul_one, Nat.one_mul, Nat.reduceAdd, Nat.reduceSub, Nat.reduceMul, Nat.reduceLT, Nat.reduceLeDiff, Nat.reduceEqDiff, true_and, and_true, true_implies, if_true, if_false, ite_true, reduceIte, ne_eq, not_false_eq_true, reduceCtorEq, forall_const, bne_self_eq_false, Bool.true_eq_false, Bool.false_eq_true, false_implies, and_self, implies_true, Int.toNat_zero, beq_self_eq_true, decide_true, decide_false, Bool.not_true, Bool.not_false, ↓y_lookv, y_key1, y_mlook, y_mlookn, y_mres1, y_mres0, ↓y_call, List.length_map, f1, f0, decide_true, decide_false, Int.toNat_natCast, e0, c2, c3, Bool.not_true, w1]
                refine ⟨i + 1, ⟨by omega, by rw [tk]; simp [c2, c3]⟩, by omega, ?_⟩
                refine le_to (List.replicate 2 .hole ++ [.old 2] ++ List.replicate 51 .hole) hl rfl ?_ ?_ <;> ((try simp only [y_blk_end, y_blk_hole, y_blk_nil, y_blk_old, y_wkl_end, y_wkl_top, List.replicate, List.cons_append, List.nil_append, and_true, true_and]) <;> (repeat' (first | apply And.intro | apply y_wkl | refine Exists.intro _ (And.intro rfl ?_))) <;> (try first | exact trivial | exact Wk.top _ | exact wk_int rfl | exact wk_bool rfl | exact wk_ptr rfl rfl rfl rfl | exact wk_ref rfl rfl rfl rfl rfl | exact wk_nil rfl rfl rfl | exact wk_ref rfl rfl rfl rfl (by simp) | exact wk_ref rfl rfl rfl rfl (by simp; omega) | exact wk_old (by assumption) (by simp) | exact wk_eq rfl (by first | exact Bd.int _ _ | exact Bd.bool _ | exact Bd.abool | exact Bd.nils | exact Bd.emp | exact Bd.nilp | exact Bd.nilfn | assumption | exact low_trees _ _ | exact low_treeD _ _ | exact low_ints _ _) | exact Nat.le_refl _ | exact wk_int (by simp) | exact wk_int (by omega) | exact Nat.succ_le_succ (Nat.zero_le _) | exact Nat.le_add_left _ _ | omega))
                all_goals first | exact .low _ (low_rules n g.rules) | exact .low _ (low_syms n l) | trace_state
          | false =>
            simp only [Bool.false_and, Bool.not_false, Bool.true_and, Bool.false_or, Bool.or_eq_true, decide_eq_true_eq] at tk stop
            by_cases c2 : xn < 0
            · simp -implicitDefEqProofs only [↓symPre, symPost, y_condP, y_condG, run, lver, minD, intsD, eqAll, tupD, splice, Nat.zero_add, Nat.add_zero, Nat.zero_mul, Nat.mul_one, Nat.one_mul, Nat.reduceAdd, Nat.reduceSub, Nat.reduceMul, Nat.reduceLT, Nat.reduceLeDiff, Nat.reduceEqDiff, true_and, and_true, true_implies, if_true, if_false, ite_true, reduceIte, ne_eq, not_false_eq_true, reduceCtorEq, forall_const, bne_self_eq_false, Bool.true_eq_false, Bool.false_eq_true, false_implies, and_self, implies_true, Int.toNat_zero, beq_self_eq_true, decide_true, decide_false, Bool.not_true, Bool.not_false, ↓y_lookv, y_key1, y_mlook, y_mlookn, y_mres1, y_mres0, ↓y_call, List.length_map, f1, f0, decide_true, Int.toNat_natCast, e0, c2, Bool.not_false]
              exact fin_int hl (stop (.inl c2))
            · by_cases c3 : xn ≥ g.nons
              · simp -implicitDefEqProofs only [↓symPre, symPost, y_condP, y_condG, run, lver, minD, intsD, eqAll, tupD, splice, Nat.zero_add, Nat.add_zero, Nat.zero_mul, Nat.mul_one, Nat.one_mul, Nat.reduceAdd, Nat.reduceSub, Nat.reduceMul, Nat.reduceLT, Nat.reduceLeDiff, Nat.reduceEqDiff, true_and, and_true, true_implies, if_true, if_false, ite_true, reduceIte, ne_eq, not_false_eq_true, reduceCtorEq, forall_const, bne_self_eq_false, Bool.true_eq_false, Bool.false_eq_true, false_implies, and_self, implies_true, Int.toNat_zero, beq_self_eq_true, decide_true, decide_false, Bool.not_true, Bool.not_false, ↓y_lookv, y_key1, y_mlook, y_mlookn, y_mres1, y_mres0, ↓y_call, List.length_map, f1, f0, decide_true, decide_false, Int.toNat_natCast, e0, c2, c3, Bool.not_false]
                exact fin_int hl (stop (.inr c3))
              · simp -implicitDefEqProofs only [↓symPre, symPost, y_condP, y_condG, run, lver, minD, intsD, eqAll, tupD, splice, Nat.zero_add, Nat.add_zero, Nat.zero_mul, Nat.mul_one, Nat.one_mul, Nat.reduceAdd, Nat.reduceSub, Nat.reduceMul, Nat.reduceLT, Nat.reduceLeDiff, Nat.reduceEqDiff, true_and, and_true, true_implies, if_true, if_false, ite_true, reduceIte, ne_eq, not_false_eq_true, reduceCtorEq, forall_const, bne_self_eq_false, Bool.true_eq_false, Bool.false_eq_true, false_implies, and_self, implies_true, Int.toNat_zero, beq_self_eq_true, decide_true, decide_false, Bool.not_true, Bool.not_false, ↓y_lookv, y_key1, y_mlook, y_mlookn, y_mres1, y_mres0, ↓y_call, List.length_map, f1, f0, decide_true, decide_false, Int.toNat_natCast, e0, c2, c3, Bool.not_false, w1]
                refine ⟨i + 1, ⟨by omega, by rw [tk]; simp [c2, c3]⟩, by omega, ?_⟩
                refine le_to (List.replicate 2 .hole ++ [.old 2] ++ List.replicate 51 .hole) hl rfl ?_ ?_ <;> ((try simp only [y_blk_end, y_blk_hole, y_blk_nil, y_blk_old, y_wkl_end, y_wkl_top, List.replicate, List.cons_append, List.nil_append, and_true, true_and]) <;> (repeat' (first | apply And.intro | apply y_wkl | refine Exists.intro _ (And.intro rfl ?_))) <;> (try first | exact trivial | exact Wk.top _ | exact wk_int rfl | exact wk_bool rfl | exact wk_ptr rfl rfl rfl rfl | exact wk_ref rfl rfl rfl rfl rfl | exact wk_nil rfl rfl rfl | exact wk_ref rfl rfl rfl rfl (by simp) | exact wk_ref rfl rfl rfl rfl (by simp; omega) | exact wk_old (by assumption) (by simp) | exact wk_eq rfl (by first | exact Bd.int _ _ | exact Bd.bool _ | exact Bd.abool | exact Bd.nils | exact Bd.emp | exact Bd.nilp | exact Bd.nilfn | assumption | exact low_trees _ _ | exact low_treeD _ _ | exact low_ints _ _) | exact Nat.le_refl _ | exact wk_int (by simp) | exact wk_int (by omega) | exact Nat.succ_le_succ (Nat.zero_le _) | exact Nat.le_add_left _ _ | omega))
                all_goals first | exact .low _ (low_rules n g.rules) | exact .low _ (low_syms n l) | trace_state
        · have f1 : ¬ (i : Int) < (l.length : Int) := by omega
          obtain rfl : i = l.length := by omega
          rw [List.take_length] at hb
          rw [hb, if_neg (by simp)] at hH
          simp -implicitDefEqProofs only [↓symPre, symPost, y_condP, y_condG, run, lver, minD, intsD, eqAll, tupD, splice, Nat.zero_add, Nat.add_zero, Nat.zero_mul, Nat.mul_one, Nat.one_mul, Nat.reduceAdd, Nat.reduceSub, Nat.reduceMul, Nat.reduceLT, Nat.reduceLeDiff, Nat.reduceEqDiff, true_and, and_true, true_implies, if_true, if_false, ite_true, reduceIte, ne_eq, not_false_eq_true, reduceCtorEq, forall_const, bne_self_eq_false, Bool.true_eq_false, Bool.false_eq_true, false_implies, and_self, implies_true, Int.toNat_zero, beq_self_eq_true, decide_true, decide_false, Bool.not_true, Bool.not_false, ↓y_lookv, y_key1, y_mlook, y_mlookn, y_mres1, y_mres0, ↓y_call, f1, decide_false]
          exact fin_int hl hH
  · have b0 : (cg != 0) = true := by simp [hc]
    rw [if_pos (by simpa using hc)] at hH
    simp -implicitDefEqProofs only [↓symPre, symPost, y_condP, y_condG, run, lver, minD, intsD, eqAll, tupD, splice, Nat.zero_add, Nat.add_zero, Nat.zero_mul, Nat.mul_one, Nat.one_mul, Nat.reduceAdd, Nat.reduceSub, Nat.reduceMul, Nat.reduceLT, Nat.reduceLeDiff, Nat.reduceEqDiff, true_and, and_true, true_implies, if_true, if_false, ite_true, reduceIte, ne_eq, not_false_eq_true, reduceCtorEq, forall_const, bne_self_eq_false, Bool.true_eq_false, Bool.false_eq_true, false_implies, and_self, implies_true, Int.toNat_zero, beq_self_eq_true, decide_true, decide_false, Bool.not_true, Bool.not_false, ↓y_lookv, y_key1, y_mlook, y_mlookn, y_mres1, y_mres0, ↓y_call, b0]
    exact fin_int hl hH

theorem wk_tup2 {X : Wx} {a b a' b' : D} (h1 : Wk X a a') (h2 : Wk X b b') : Wk X (.tup [a, b]) (.tup [a', b']) :=
  .tup _ _ rfl fun i c c' hc hc' => by
    rcases i with _ | _ | i
    · simp at hc hc'; subst hc; subst hc'; exact h1
    · simp at hc hc'; subst hc; subst hc'; exact h2
    · simp at hc

/-- what hole.Fill answers -/
def fillF (g : Gr) (l : List Sy) : List Int × Int :=
  if hchk g l ≠ 0 then ([], hchk g l) else if (wholeW g l).ok = false then ([], 10) else if 2000 < (wholeW g l).n then ([], 2) else ((wholeW g l).w, 0)

set_option maxHeartbeats 2000000 in
theorem pure_Fill (g : Gr) (l : List Sy) (hr : g.rules.length < 2 ^ 60) (hx : ∀ r ∈ g.rules, r.right.length < 2 ^ 60) (hl60 : l.length < 2 ^ 60) : Pure prog F_hole_Fill [gramD g, .lst (l.map symD)] (.tup [iD (fillF g l).1, .int .i64 (fillF g l).2]) := by
  intro n h
  have pC := pure_holeCheck g l hr hx hl60
  have pW := pure_whole g l
  have okk := @hchk_ok g l
  have okw := @wholeW_ok g l
  refine K_hole_Fill.calls fun hl => ?_
  unfold C_hole_Fill
  generalize hF : fillF g l = F
  unfold fillF at hF
  generalize hchk g l = cg at *
  generalize wholeW g l = v at *
  unfold gramD at pC pW ⊢
  obtain ⟨vo, vn, vw⟩ := v
  simp only at hF
  unfold wD at pW
  simp only at pW
  simp -implicitDefEqProofs only [↓symPre, symPost, y_condP, y_condG, run, lver, minD, intsD, eqAll, tupD, splice, Nat.zero_add, Nat.add_zero, Nat.zero_mul, Nat.mul_one, Nat.one_mul, Nat.reduceAdd, Nat.reduceSub, Nat.reduceMul, Nat.reduceLT, Nat.reduceLeDiff, Nat.reduceEqDiff, true_and, and_true, true_implies, if_true, if_false, ite_true, reduceIte, ne_eq, not_false_eq_true, reduceCtorEq, forall_const, bne_self_eq_false, Bool.true_eq_false, Bool.false_eq_true, false_implies, and_self, implies_true, Int.toNat_zero, beq_self_eq_true, decide_true, decide_false, Bool.not_true, Bool.not_false, ↓y_lookv, y_key1, y_mlook, y_mlookn, y_mres1, y_mres0, ↓y_call]
  refine pC.call rfl ?_
  by_cases hc : cg = 0
  · obtain ⟨o1, o2⟩ := okk hc
    have hok := okw o1 o2
    rw [if_neg (by simpa using hc)] at hF
    have b0 : (cg != 0) = false := by simp [hc]
    simp -implicitDefEqProofs only [↓symPre, symPost, y_condP, y_condG, run, lver, minD, intsD, eqAll, tupD, splice, Nat.zero_add, Nat.add_zero, Nat.zero_mul, Nat.mul_one, Nat.one_mul, Nat.reduceAdd, Nat.reduceSub, Nat.reduceMul, Nat.reduceLT, Nat.reduceLeDiff, Nat.reduceEqDiff, true_and, and_true, true_implies, if_true, if_false, ite_true, reduceIte, ne_eq, not_false_eq_true, reduceCtorEq, forall_const, bne_self_eq_false, Bool.true_eq_false, Bool.false_eq_true, false_implies, and_self, implies_true, Int.toNat_zero, beq_self_eq_true, decide_true, decide_false, Bool.not_true, Bool.not_false, ↓y_lookv, y_key1, y_mlook, y_mlookn, y_mres1, y_mres0, ↓y_call, b0]
    refine (pW o1 o2).call rfl ?_
    cases vo with
    | false =>
      rw [if_pos rfl] at hF
      subst hF
      simp -implicitDefEqProofs only [↓symPre, symPost, y_condP, y_condG, run, lver, minD, intsD, eqAll, tupD, splice, Nat.zero_add, Nat.add_zero, Nat.zero_mul, Nat.mul_one, Nat.one_mul, Nat.reduceAdd, Nat.reduceSub, Nat.reduceMul, Nat.reduceLT, Nat.reduceLeDiff, Nat.reduceEqDiff, true_and, and_true, true_implies, if_true, if_false, ite_true, reduceIte, ne_eq, not_false_eq_true, reduceCtorEq, forall_const, bne_self_eq_false, Bool.true_eq_false, Bool.false_eq_true, false_implies, and_self, implies_true, Int.toNat_zero, beq_self_eq_true, decide_true, decide_false, Bool.not_true, Bool.not_false, ↓y_lookv, y_key1, y_mlook, y_mlookn, y_mres1, y_mres0, ↓y_call, Bool.not_false]
      exact fin_wk hl (wk_tup2 .nilsLst wk_i) ⟨rfl, rfl, rfl⟩
    | true =>
      rw [if_neg (by simp)] at hF
      by_cases c1 : 2000 < vn
      · rw [if_pos c1] at hF
        subst hF
        simp -implicitDefEqProofs only [↓symPre, symPost, y_condP, y_condG, run, lver, minD, intsD, eqAll, tupD, splice, Nat.zero_add, Nat.add_zero, Nat.zero_mul, Nat.mul_one, Nat.one_mul, Nat.reduceAdd, Nat.reduceSub, Nat.reduceMul, Nat.reduceLT, Nat.reduceLeDiff, Nat.reduceEqDiff, true_and, and_true, true_implies, if_true, if_false, ite_true, reduceIte, ne_eq, not_false_eq_true, reduceCtorEq, forall_const, bne_self_eq_false, Bool.true_eq_false, Bool.false_eq_true, false_implies, and_self, implies_true, Int.toNat_zero, beq_self_eq_true, decide_true, decide_false, Bool.not_true, Bool.not_false, ↓y_lookv, y_key1, y_mlook, y_mlookn, y_mres1, y_mres0, ↓y_call, Bool.not_true, gt_iff_lt, c1, decide_true]
        exact fin_wk hl (wk_tup2 .nilsLst wk_i) ⟨rfl, rfl, rfl⟩
      · rw [if_neg c1] at hF
        subst hF
        have pK := pure_CloneI vw (by have := hok.short; simp only at this; omega)
        simp -implicitDefEqProofs only [↓symPre, symPost, y_condP, y_condG, run, lver, minD, intsD, eqAll, tupD, splice, Nat.zero_add, Nat.add_zero, Nat.zero_mul, Nat.mul_one, Nat.one_mul, Nat.reduceAdd, Nat.reduceSub, Nat.reduceMul, Nat.reduceLT, Nat.reduceLeDiff, Nat.reduceEqDiff, true_and, and_true, true_implies, if_true, if_false, ite_true, reduceIte, ne_eq, not_false_eq_true, reduceCtorEq, forall_const, bne_self_eq_false, Bool.true_eq_false, Bool.false_eq_true, false_implies, and_self, implies_true, Int.toNat_zero, beq_self_eq_true, decide_true, decide_false, Bool.not_true, Bool.not_false, ↓y_lookv, y_key1, y_mlook, y_mlookn, y_mres1, y_mres0, ↓y_call, Bool.not_true, gt_iff_lt, c1, decide_false]
        refine pK.call rfl ?_
        simp -implicitDefEqProofs only [↓symPre, symPost, y_condP, y_condG, run, lver, minD, intsD, eqAll, tupD, splice, Nat.zero_add, Nat.add_zero, Nat.zero_mul, Nat.mul_one, Nat.one_mul, Nat.reduceAdd, Nat.reduceSub, Nat.reduceMul, Nat.reduceLT, Nat.reduceLeDiff, Nat.reduceEqDiff, true_and, and_true, true_implies, if_true, if_false, ite_true, reduceIte, ne_eq, not_false_eq_true, reduceCtorEq, forall_const, bne_self_eq_false, Bool.true_eq_false, Bool.false_eq_true, false_implies, and_self, implies_true, Int.toNat_zero, beq_self_eq_true, decide_true, decide_false, Bool.not_true, Bool.not_false, ↓y_lookv, y_key1, y_mlook, y_mlookn, y_mres1, y_mres0, ↓y_call]
        exact fin_low hl (.tup _ (by
          intro c hc
          simp only [List.mem_cons, List.not_mem_nil, or_false] at hc
          rcases hc with rfl | rfl
          · exact low_ints _ _
          · exact .int ..)) ⟨rfl, rfl, rfl⟩
  · rw [if_pos (by simpa using hc)] at hF
    subst hF
    have b0 : (cg != 0) = true := by simp [hc]
    simp -implicitDefEqProofs only [↓symPre, symPost, y_condP, y_condG, run, lver, minD, intsD, eqAll, tupD, splice, Nat.zero_add, Nat.add_zero, Nat.zero_mul, Nat.mul_one, Nat.one_mul, Nat.reduceAdd, Nat.reduceSub, Nat.reduceMul, Nat.reduceLT, Nat.reduceLeDiff, Nat.reduceEqDiff, true_and, and_true, true_implies, if_true, if_false, ite_true, reduceIte, ne_eq, not_false_eq_true, reduceCtorEq, forall_const, bne_self_eq_false, Bool.true_eq_false, Bool.false_eq_true, false_implies, and_self, implies_true, Int.toNat_zero, beq_self_eq_true, decide_true, decide_false, Bool.not_true, Bool.not_false, ↓y_lookv, y_key1, y_mlook, y_mlookn, y_mres1, y_mres0, ↓y_call, b0]
    exact fin_wk hl (wk_tup2 .nilsLst wk_i) ⟨rfl, rfl, rfl⟩

end Abs
end Go.Proofs.Ytokdeeagghhliaa

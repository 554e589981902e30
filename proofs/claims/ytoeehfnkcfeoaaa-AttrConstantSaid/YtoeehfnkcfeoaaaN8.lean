/- system: a system of attributes out of raw numbers. -/
import Derived.Test.YtoeehfnkcfeoaaaN7
namespace Go.Proofs.Ytoeehfnkcfeoaaa
namespace Abs
set_option linter.unusedVariables false
set_option linter.unusedSimpArgs false
set_option maxRecDepth 20000

/-- what system makes -/
structure okS (S : Sys) : Prop where
  attrs : S.attrs.length ≤ 8
  eqs : S.eqs.length ≤ 256
  is : ∀ q ∈ S.eqs, okX q.is ∧ sz q.is ≤ 13

def sysSl (n : Nat) (i : Nat) : List D := [.top, .top, .bool false, .ptr (n + 3) 1 0, .top, .top, .ptr (n + 6) 1 0, .ptr (n + 22) 1 0, .ptr (n + 8) 1 0]
def sysBl (n : Nat) (g : Gr) (As : List At) (L : List Int) (E : List Eqn) (v : Nat) (b54 b62 : Blk) : List Blk :=
  List.replicate 3 blk0 ++ [⟨1, .cells [.int .i64 g.terms, .int .i64 g.nons, .int .i64 g.start, .lst (g.rules.map ruleD)]⟩] ++ List.replicate 2 blk0 ++ [⟨1, .cells [.nils, .nils]⟩, blk0, ⟨1, .cells [.lst (As.map atD), .ref 8 (n + 83) v 0 E.length]⟩] ++ List.replicate 13 blk0 ++ [⟨1, .cells [iD L]⟩] ++ List.replicate 31 blk0 ++ [b54] ++ List.replicate 7 blk0 ++ [b62] ++ List.replicate 20 blk0 ++ [⟨v, .cells (cellsF eqD E)⟩] ++ List.replicate 25 blk0
theorem eqn_one_cells (u a b : Int) (k m x r : Int) (ys : List Ex) (E : List Eqn) : cellsF eqD (E ++ [⟨u, a, b, .mk k m x r ys⟩]) = cellsF eqD E ++ [.int .i64 u, .int .i64 a, .int .i64 b, .int .i64 k, .int .i64 m, .int .i64 x, .int .i64 r, .lst (ys.map exD)] := by rw [cellsF_app, cellsF_one]; rfl
theorem eqD_mk (u v w k n a r : Int) (xs : List Ex) : eqD ⟨u, v, w, .mk k n a r xs⟩ = .agg [.int .i64 u, .int .i64 v, .int .i64 w, .int .i64 k, .int .i64 n, .int .i64 a, .int .i64 r, .lst (xs.map exD)] := rfl

set_option maxHeartbeats 16000000 in
theorem at_system (g : Gr) (hg : okGr g) (l : List Int) (hlen : l.length < 2 ^ 60) (n : Nat) (h : Heap) :
    ACalls prog F_parlkeep4_system [gramD g, iD l, .bool false] n h fun d h' x => h' = h ∧ x = [] ∧ ∃ S : Sys, okS S ∧ d = sysD S := by
  obtain ⟨nn, hnn⟩ : ∃ nn : Nat, g.nons = nn := ⟨g.nons.toNat, by have := hg.nons; omega⟩
  have h4 : nn ≤ 4 := by have := hg.nons; omega
  have h8 := hg.len
  have hR3 : ∀ i, i < g.rules.length → (g.rules.getD i ru0).right.length ≤ 3 := fun i hi => by
    have e : g.rules.getD i ru0 = g.rules[i] := by simp [List.getD, hi]
    rw [e]; exact (hg.rules _ (List.getElem_mem hi)).2.2.1
  refine K_parlkeep4_system.calls fun hl => ?_
  unfold C_parlkeep4_system gramD
  have hlr := low_rules n g.rules
  have hll := low_ints n l
  simp -implicitDefEqProofs only [↓symPre, symPost, y_condP, y_condG, run, lver, minD, intsD, eqAll, tupD, splice, Nat.zero_add, Nat.add_zero, Nat.zero_mul, Nat.mul_one, Nat.one_mul, Nat.reduceAdd, Nat.reduceSub, Nat.reduceMul, Nat.reduceLT, Nat.reduceLeDiff, Nat.reduceEqDiff, true_and, and_true, true_implies, if_true, if_false, ite_true, reduceIte, ne_eq, not_false_eq_true, reduceCtorEq, forall_const, bne_self_eq_false, Bool.true_eq_false, Bool.false_eq_true, false_implies, and_self, implies_true, Int.toNat_zero, beq_self_eq_true, decide_true, decide_false, Bool.not_true, Bool.not_false, ↓y_lookv, y_key1, y_mlook, y_mlookn, y_mres1, y_mres0, ↓y_call]
  refine attrs_call hnn h4 hlen rfl rfl (t := 22) rfl fun As l1 hAs hl1 => ?_
  have hla := low_ats n As
  simp -implicitDefEqProofs only [↓symPre, symPost, y_condP, y_condG, run, lver, minD, intsD, eqAll, tupD, splice, Nat.zero_add, Nat.add_zero, Nat.zero_mul, Nat.mul_one, Nat.one_mul, Nat.reduceAdd, Nat.reduceSub, Nat.reduceMul, Nat.reduceLT, Nat.reduceLeDiff, Nat.reduceEqDiff, true_and, and_true, true_implies, if_true, if_false, ite_true, reduceIte, ne_eq, not_false_eq_true, reduceCtorEq, forall_const, bne_self_eq_false, Bool.true_eq_false, Bool.false_eq_true, false_implies, and_self, implies_true, Int.toNat_zero, beq_self_eq_true, decide_true, decide_false, Bool.not_true, Bool.not_false, ↓y_lookv, y_key1, y_mlook, y_mlookn, y_mres1, y_mres0, ↓y_call]
  refine aloop (fun p : Nat × List Int × List Eqn × Nat => St.mk n ([.top, .top, .bool false, .ptr (n + 3) 1 0, .top, .top, .ptr (n + 6) 1 0, .ptr (n + 22) 1 0, .ptr (n + 8) 1 0] ++ List.replicate 19 .top ++ [.lst (g.rules.map ruleD), .int .i64 g.rules.length, .int .i64 p.1] ++ List.replicate 78 .top) h
      (sysBl n g As p.2.1 p.2.2.1 p.2.2.2 blk0 blk0))
    (fun p => p.1 ≤ g.rules.length ∧ p.2.1.length ≤ l.length ∧ p.2.2.1.length ≤ 32 * p.1 ∧ (∀ q ∈ p.2.2.1, okX q.is ∧ sz q.is ≤ 13) ∧ 1 ≤ p.2.2.2) (fun p => g.rules.length - p.1) (0, l1, [], 1) ⟨Nat.zero_le _, hl1, Nat.le_refl _, by simp, Nat.le_refl _⟩ ?_ ?_
  · unfold sysBl
    refine le_to (List.replicate 3 .hole ++ [.old 3] ++ List.replicate 2 .hole ++ [.old 6, .hole, .old 8] ++ List.replicate 13 .hole ++ [.old 22] ++ List.replicate 31 .hole ++ [.hole] ++ List.replicate 7 .hole ++ [.hole] ++ List.replicate 20 .hole ++ [.nil] ++ List.replicate 25 .hole) hl rfl ?_ ?_ <;> (try simp only [List.length_map, cellsF_nil, List.length_nil]) <;> ((try simp only [y_blk_end, y_blk_hole, y_blk_nil, y_blk_old, y_wkl_end, y_wkl_top, List.replicate, List.cons_append, List.nil_append, and_true, true_and]) <;> (repeat' (first | apply And.intro | apply y_wkl | refine Exists.intro _ (And.intro rfl ?_))) <;> (try first | exact trivial | exact Wk.top _ | exact wk_int rfl | exact wk_bool rfl | exact wk_ptr rfl rfl rfl rfl | exact wk_ref rfl rfl rfl rfl rfl | exact wk_nil rfl rfl rfl | exact wk_ref rfl rfl rfl rfl (by simp) | exact wk_ref rfl rfl rfl rfl (by simp; omega) | exact wk_old (by assumption) (by simp) | exact wk_eq rfl (by first | exact Bd.int _ _ | exact Bd.bool _ | exact Bd.abool | exact Bd.nils | exact Bd.emp | exact Bd.nilp | exact Bd.nilfn | assumption | exact low_trees _ _ | exact low_treeD _ _ | exact low_ints _ _) | exact Nat.le_refl _ | exact wk_int (by simp) | exact wk_int (by omega) | exact Nat.succ_le_succ (Nat.zero_le _) | exact Nat.le_add_left _ _ | omega))
    all_goals first | exact wk_eq rfl (low_ints _ _) | skip
  · rintro ⟨i, L, E, v⟩ ⟨hi, hL, hE, hEo, hv⟩
    simp only at hi hL hE hEo hv
    by_cases hlt : i < g.rules.length
    · have f1 : (i : Int) < (g.rules.length : Int) := by omega
      have f0 : (0 : Int) ≤ (i : Int) := by omega
      have w1 : IntKind.i64.wrap ((i : Int) + 1) = ((i + 1 : Nat) : Int) := by rw [IntWalk.i64_in _ (by omega)]; omega
      have e0 := nth_rule g i hlt
      have hR := hR3 i hlt
      have oc := fun (X : D) (k : Nat) (inh : Bool) (hk : k ≤ (g.rules.getD i ru0).right.length) => @occ_call g As X i k inh hlt hk (by omega) (by omega)
      have hlD : ∀ A : List (Int × Int), ∀ c ∈ cellsF pairD A, Low n c := fun A => low_cellsF pairD (low_pairD n) A
      have hlEq := low_cellsF eqD (low_eqD n) E
      generalize g.rules.getD i ru0 = R at *
      obtain ⟨rl, rr⟩ := R
      simp only at e0 hR oc
      have hls := low_syms n rr
      unfold sysBl
      simp -implicitDefEqProofs only [↓symPre, symPost, y_condP, y_condG, run, lver, minD, intsD, eqAll, tupD, splice, Nat.zero_add, Nat.add_zero, Nat.zero_mul, Nat.mul_one, Nat.one_mul, Nat.reduceAdd, Nat.reduceSub, Nat.reduceMul, Nat.reduceLT, Nat.reduceLeDiff, Nat.reduceEqDiff, true_and, and_true, true_implies, if_true, if_false, ite_true, reduceIte, ne_eq, not_false_eq_true, reduceCtorEq, forall_const, bne_self_eq_false, Bool.true_eq_false, Bool.false_eq_true, false_implies, and_self, implies_true, Int.toNat_zero, beq_self_eq_true, decide_true, decide_false, Bool.not_true, Bool.not_false, ↓y_lookv, y_key1, y_mlook, y_mlookn, y_mres1, y_mres0, ↓y_call, f1, f0, decide_true, List.length_map, Int.toNat_natCast, e0]
      refine oc _ 0 true (Nat.zero_le _) rfl rfl fun D0 hD0 => ?_
      have hlD0 := low_pairs n D0
      simp -implicitDefEqProofs only [↓symPre, symPost, y_condP, y_condG, run, lver, minD, intsD, eqAll, tupD, splice, Nat.zero_add, Nat.add_zero, Nat.zero_mul, Nat.mul_one, Nat.one_mul, Nat.reduceAdd, Nat.reduceSub, Nat.reduceMul, Nat.reduceLT, Nat.reduceLeDiff, Nat.reduceEqDiff, true_and, and_true, true_implies, if_true, if_false, ite_true, reduceIte, ne_eq, not_false_eq_true, reduceCtorEq, forall_const, bne_self_eq_false, Bool.true_eq_false, Bool.false_eq_true, false_implies, and_self, implies_true, Int.toNat_zero, beq_self_eq_true, decide_true, decide_false, Bool.not_true, Bool.not_false, ↓y_lookv, y_key1, y_mlook, y_mlookn, y_mres1, y_mres0, ↓y_call]
      refine (fresh_CloneR D0 (by omega)).call (t := 40) (low_cellsF pairD (low_pairD 0) D0) rfl rfl (Nat.le_of_ble_eq_true rfl) rfl ?_
      simp -implicitDefEqProofs only [↓symPre, symPost, y_condP, y_condG, run, lver, minD, intsD, eqAll, tupD, splice, Nat.zero_add, Nat.add_zero, Nat.zero_mul, Nat.mul_one, Nat.one_mul, Nat.reduceAdd, Nat.reduceSub, Nat.reduceMul, Nat.reduceLT, Nat.reduceLeDiff, Nat.reduceEqDiff, true_and, and_true, true_implies, if_true, if_false, ite_true, reduceIte, ne_eq, not_false_eq_true, reduceCtorEq, forall_const, bne_self_eq_false, Bool.true_eq_false, Bool.false_eq_true, false_implies, and_self, implies_true, Int.toNat_zero, beq_self_eq_true, decide_true, decide_false, Bool.not_true, Bool.not_false, ↓y_lookv, y_key1, y_mlook, y_mlookn, y_mres1, y_mres0, ↓y_call, List.length_map]
      refine aloop (fun p : Nat × List (Int × Int) × Nat × List (Int × Int) × Nat => St.mk n ([.top, .top, .bool false, .ptr (n + 3) 1 0, .top, .top, .ptr (n + 6) 1 0, .ptr (n + 22) 1 0, .ptr (n + 8) 1 0, .int .i64 i, .top, .lst (D0.map pairD), .ref 2 (n + 54) p.2.2.1 0 p.2.1.length, .ref 2 (n + 62) p.2.2.2.2 0 p.2.2.2.1.length] ++ List.replicate 14 .top ++ [.lst (g.rules.map ruleD), .int .i64 g.rules.length, .int .i64 i] ++ List.replicate 12 .top ++ [.int .i64 rr.length, .int .i64 p.1] ++ List.replicate 64 .top) h
          (sysBl n g As L E v ⟨p.2.2.1, .cells (cellsF pairD p.2.1)⟩ ⟨p.2.2.2.2, .cells (cellsF pairD p.2.2.2.1)⟩))
        (fun p => p.1 ≤ rr.length ∧ p.2.1.length ≤ 8 * (p.1 + 1) ∧ p.2.2.2.1.length ≤ 8 * p.1 ∧ 1 ≤ p.2.2.1 ∧ 1 ≤ p.2.2.2.2) (fun p => rr.length - p.1) (0, D0, 1, [], 1) ⟨Nat.zero_le _, by simp only; omega, Nat.le_refl _, Nat.le_refl _, Nat.le_refl _⟩ ?_ ?_
      · unfold sysBl
        refine le_to (List.replicate 3 .hole ++ [.old 3] ++ List.replicate 2 .hole ++ [.old 6, .hole, .old 8] ++ List.replicate 13 .hole ++ [.old 22] ++ List.replicate 31 .hole ++ [.old 40] ++ List.replicate 7 .hole ++ [.nil] ++ List.replicate 20 .hole ++ [.old 83] ++ List.replicate 25 .hole) hl rfl ?_ ?_ <;> (try simp only [List.length_map, cellsF_nil, List.length_nil]) <;> ((try simp only [y_blk_end, y_blk_hole, y_blk_nil, y_blk_old, y_wkl_end, y_wkl_top, List.replicate, List.cons_append, List.nil_append, and_true, true_and]) <;> (repeat' (first | apply And.intro | apply y_wkl | refine Exists.intro _ (And.intro rfl ?_))) <;> (try first | exact trivial | exact Wk.top _ | exact wk_int rfl | exact wk_bool rfl | exact wk_ptr rfl rfl rfl rfl | exact wk_ref rfl rfl rfl rfl rfl | exact wk_nil rfl rfl rfl | exact wk_ref rfl rfl rfl rfl (by simp) | exact wk_ref rfl rfl rfl rfl (by simp; omega) | exact wk_old (by assumption) (by simp) | exact wk_eq rfl (by first | exact Bd.int _ _ | exact Bd.bool _ | exact Bd.abool | exact Bd.nils | exact Bd.emp | exact Bd.nilp | exact Bd.nilfn | assumption | exact low_trees _ _ | exact low_treeD _ _ | exact low_ints _ _) | exact Nat.le_refl _ | exact wk_int (by simp) | exact wk_int (by omega) | exact Nat.succ_le_succ (Nat.zero_le _) | exact Nat.le_add_left _ _ | omega))
        all_goals first | exact wk_eq rfl (low_ints _ _) | exact WkL.low (hlD _) | exact WkL.low hlEq | skip
      · rintro ⟨j, Al, va, To, vt⟩ ⟨hj, hAl, hTo, hva, hvt⟩
        simp only at hj hAl hTo hva hvt
        by_cases hjl : j < rr.length
        · have g1 : (j : Int) < (rr.length : Int) := by omega
          have w2 : IntKind.i64.wrap ((j : Int) + 1) = ((j + 1 : Nat) : Int) := by rw [IntWalk.i64_in _ (by omega)]; omega
          have hAc : (cellsF pairD Al).length = Al.length * 2 := cellsF_len pairD pairD_cells Al
          have hAt := take_all (cellsF pairD Al) (k := Al.length * 2) (by rw [hAc])
          have hAf : Al.length * 2 ≤ (cellsF pairD Al).length := by omega
          have hTc : (cellsF pairD To).length = To.length * 2 := cellsF_len pairD pairD_cells To
          have hTt := take_all (cellsF pairD To) (k := To.length * 2) (by rw [hTc])
          have hTf : To.length * 2 ≤ (cellsF pairD To).length := by omega
          unfold sysBl
          simp -implicitDefEqProofs only [↓symPre, symPost, y_condP, y_condG, run, lver, minD, intsD, eqAll, tupD, splice, Nat.zero_add, Nat.add_zero, Nat.zero_mul, Nat.mul_one, Nat.one_mul, Nat.reduceAdd, Nat.reduceSub, Nat.reduceMul, Nat.reduceLT, Nat.reduceLeDiff, Nat.reduceEqDiff, true_and, and_true, true_implies, if_true, if_false, ite_true, reduceIte, ne_eq, not_false_eq_true, reduceCtorEq, forall_const, bne_self_eq_false, Bool.true_eq_false, Bool.false_eq_true, false_implies, and_self, implies_true, Int.toNat_zero, beq_self_eq_true, decide_true, decide_false, Bool.not_true, Bool.not_false, ↓y_lookv, y_key1, y_mlook, y_mlookn, y_mres1, y_mres0, ↓y_call, g1, decide_true, w2]
          refine oc _ (j + 1) false (by omega) rfl rfl fun A1 hA1 => ?_
          have hf1 : (Al.length + A1.length) * 16 ≤ 140737488355328 := by omega
          simp -implicitDefEqProofs only [↓symPre, symPost, y_condP, y_condG, run, lver, minD, intsD, eqAll, tupD, splice, Nat.zero_add, Nat.add_zero, Nat.zero_mul, Nat.mul_one, Nat.one_mul, Nat.reduceAdd, Nat.reduceSub, Nat.reduceMul, Nat.reduceLT, Nat.reduceLeDiff, Nat.reduceEqDiff, true_and, and_true, true_implies, if_true, if_false, ite_true, reduceIte, ne_eq, not_false_eq_true, reduceCtorEq, forall_const, bne_self_eq_false, Bool.true_eq_false, Bool.false_eq_true, false_implies, and_self, implies_true, Int.toNat_zero, beq_self_eq_true, decide_true, decide_false, Bool.not_true, Bool.not_false, ↓y_lookv, y_key1, y_mlook, y_mlookn, y_mres1, y_mres0, ↓y_call, srcOf, List.length_map, pairs_sc, pairs_flat, pairs_one, hf1, hAt, hAf, w2]
          refine oc _ (j + 1) true (by omega) rfl rfl fun A2 hA2 => ?_
          have hf2 : (To.length + A2.length) * 16 ≤ 140737488355328 := by omega
          simp -implicitDefEqProofs only [↓symPre, symPost, y_condP, y_condG, run, lver, minD, intsD, eqAll, tupD, splice, Nat.zero_add, Nat.add_zero, Nat.zero_mul, Nat.mul_one, Nat.one_mul, Nat.reduceAdd, Nat.reduceSub, Nat.reduceMul, Nat.reduceLT, Nat.reduceLeDiff, Nat.reduceEqDiff, true_and, and_true, true_implies, if_true, if_false, ite_true, reduceIte, ne_eq, not_false_eq_true, reduceCtorEq, forall_const, bne_self_eq_false, Bool.true_eq_false, Bool.false_eq_true, false_implies, and_self, implies_true, Int.toNat_zero, beq_self_eq_true, decide_true, decide_false, Bool.not_true, Bool.not_false, ↓y_lookv, y_key1, y_mlook, y_mlookn, y_mres1, y_mres0, ↓y_call, srcOf, List.length_map, pairs_sc, pairs_flat, pairs_one, hf2, hTt, hTf, w2]
          refine ⟨(j + 1, Al ++ A1, va + 1, To ++ A2, vt + 1), ⟨by simp only; omega, by simp; omega, by simp; omega, by simp only; omega, by simp only; omega⟩, by simp only; omega, ?_⟩
          simp only [cellsF_app, List.length_append]
          refine le_to (List.replicate 3 .hole ++ [.old 3] ++ List.replicate 2 .hole ++ [.old 6, .hole, .old 8] ++ List.replicate 13 .hole ++ [.old 22] ++ List.replicate 31 .hole ++ [.old 54] ++ List.replicate 7 .hole ++ [.old 62] ++ List.replicate 20 .hole ++ [.old 83] ++ List.replicate 25 .hole) hl rfl ?_ ?_ <;> ((try simp only [y_blk_end, y_blk_hole, y_blk_nil, y_blk_old, y_wkl_end, y_wkl_top, List.replicate, List.cons_append, List.nil_append, and_true, true_and]) <;> (repeat' (first | apply And.intro | apply y_wkl | refine Exists.intro _ (And.intro rfl ?_))) <;> (try first | exact trivial | exact Wk.top _ | exact wk_int rfl | exact wk_bool rfl | exact wk_ptr rfl rfl rfl rfl | exact wk_ref rfl rfl rfl rfl rfl | exact wk_nil rfl rfl rfl | exact wk_ref rfl rfl rfl rfl (by simp) | exact wk_ref rfl rfl rfl rfl (by simp; omega) | exact wk_old (by assumption) (by simp) | exact wk_eq rfl (by first | exact Bd.int _ _ | exact Bd.bool _ | exact Bd.abool | exact Bd.nils | exact Bd.emp | exact Bd.nilp | exact Bd.nilfn | assumption | exact low_trees _ _ | exact low_treeD _ _ | exact low_ints _ _) | exact Nat.le_refl _ | exact wk_int (by simp) | exact wk_int (by omega) | exact Nat.succ_le_succ (Nat.zero_le _) | exact Nat.le_add_left _ _ | omega))
          all_goals first | exact wk_eq rfl (low_ints _ _) | exact WkL.app (WkL.low (hlD _)) (WkL.low (hlD _)) | exact WkL.low hlEq | skip
        · have g1 : ¬ (j : Int) < (rr.length : Int) := by omega
          obtain rfl : j = rr.length := by omega
          have hlAl := low_pairs n Al
          have hlTo := low_pairs n To
          unfold sysBl
          simp -implicitDefEqProofs only [↓symPre, symPost, y_condP, y_condG, run, lver, minD, intsD, eqAll, tupD, splice, Nat.zero_add, Nat.add_zero, Nat.zero_mul, Nat.mul_one, Nat.one_mul, Nat.reduceAdd, Nat.reduceSub, Nat.reduceMul, Nat.reduceLT, Nat.reduceLeDiff, Nat.reduceEqDiff, true_and, and_true, true_implies, if_true, if_false, ite_true, reduceIte, ne_eq, not_false_eq_true, reduceCtorEq, forall_const, bne_self_eq_false, Bool.true_eq_false, Bool.false_eq_true, false_implies, and_self, implies_true, Int.toNat_zero, beq_self_eq_true, decide_true, decide_false, Bool.not_true, Bool.not_false, ↓y_lookv, y_key1, y_mlook, y_mlookn, y_mres1, y_mres0, ↓y_call, g1, decide_false]
          refine aloop (fun p : Nat × List Int × List Eqn × Nat => St.mk n ([.top, .top, .bool false, .ptr (n + 3) 1 0, .top, .top, .ptr (n + 6) 1 0, .ptr (n + 22) 1 0, .ptr (n + 8) 1 0, .int .i64 i, .top, .lst (D0.map pairD), .lst (Al.map pairD)] ++ List.replicate 15 .top ++ [.lst (g.rules.map ruleD), .int .i64 g.rules.length, .int .i64 i] ++ List.replicate 33 .top ++ [.lst (To.map pairD), .int .i64 To.length, .int .i64 p.1] ++ List.replicate 42 .top) h
              (sysBl n g As p.2.1 p.2.2.1 p.2.2.2 blk0 blk0))
            (fun p => p.1 ≤ To.length ∧ p.2.1.length ≤ l.length ∧ p.2.2.1.length ≤ 32 * i + p.1 ∧ (∀ q ∈ p.2.2.1, okX q.is ∧ sz q.is ≤ 13) ∧ 1 ≤ p.2.2.2) (fun p => To.length - p.1) (0, L, E, v) ⟨Nat.zero_le _, hL, hE, hEo, hv⟩ ?_ ?_
          · unfold sysBl
            refine le_to (List.replicate 3 .hole ++ [.old 3] ++ List.replicate 2 .hole ++ [.old 6, .hole, .old 8] ++ List.replicate 13 .hole ++ [.old 22] ++ List.replicate 31 .hole ++ [.hole] ++ List.replicate 7 .hole ++ [.hole] ++ List.replicate 20 .hole ++ [.old 83] ++ List.replicate 25 .hole) hl rfl ?_ ?_ <;> ((try simp only [y_blk_end, y_blk_hole, y_blk_nil, y_blk_old, y_wkl_end, y_wkl_top, List.replicate, List.cons_append, List.nil_append, and_true, true_and]) <;> (repeat' (first | apply And.intro | apply y_wkl | refine Exists.intro _ (And.intro rfl ?_))) <;> (try first | exact trivial | exact Wk.top _ | exact wk_int rfl | exact wk_bool rfl | exact wk_ptr rfl rfl rfl rfl | exact wk_ref rfl rfl rfl rfl rfl | exact wk_nil rfl rfl rfl | exact wk_ref rfl rfl rfl rfl (by simp) | exact wk_ref rfl rfl rfl rfl (by simp; omega) | exact wk_old (by assumption) (by simp) | exact wk_eq rfl (by first | exact Bd.int _ _ | exact Bd.bool _ | exact Bd.abool | exact Bd.nils | exact Bd.emp | exact Bd.nilp | exact Bd.nilfn | assumption | exact low_trees _ _ | exact low_treeD _ _ | exact low_ints _ _) | exact Nat.le_refl _ | exact wk_int (by simp) | exact wk_int (by omega) | exact Nat.succ_le_succ (Nat.zero_le _) | exact Nat.le_add_left _ _ | omega))
            all_goals first | exact wk_eq rfl (low_ints _ _) | exact WkL.low hlEq | exact wk_frzF pairD pairD_cells (low_pairD n) (t := 54) rfl rfl (by simp) rfl | exact wk_frzF pairD pairD_cells (low_pairD n) (t := 62) rfl rfl (by simp) rfl | skip
          · clear hL hE hEo hv hlEq
            clear v E L
            rintro ⟨t, L, E, v⟩ ⟨ht, hL, hE, hEo, hv⟩
            simp only at ht hL hE hEo hv
            have hlEq := low_cellsF eqD (low_eqD n) E
            have hEc : (cellsF eqD E).length = E.length * 8 := cellsF_len eqD eqD_cells E
            have hEt := take_all (cellsF eqD E) (k := E.length * 8) (by rw [hEc])
            have hEf : E.length * 8 ≤ (cellsF eqD E).length := by omega
            have hf : (E.length + 1) * 80 ≤ 140737488355328 := by omega
            by_cases htl : t < To.length
            · have g1 : (t : Int) < (To.length : Int) := by omega
              have g0 : (0 : Int) ≤ (t : Int) := by omega
              have w2 : IntKind.i64.wrap ((t : Int) + 1) = ((t + 1 : Nat) : Int) := by rw [IntWalk.i64_in _ (by omega)]; omega
              have e1 := nth_pairs To t htl
              generalize To.getD t (0, 0) = o at *
              obtain ⟨oa, ob⟩ := o
              simp only at e1
              have hyo := valF_ok Al 2 L
              have hyl := valF_le Al 2 L
              have hvv := fun n h b ver hb hh => @at_value2 Al (by omega) L (by omega) n h b ver hb hh
              generalize valF Al 2 L = y at *
              obtain ⟨⟨yk, ym, ya, yr, ys⟩, L'⟩ := y
              have hly := low_exs n ys
              simp only [exD_mk] at hvv
              simp only at hyo hyl
              unfold sysBl
              simp -implicitDefEqProofs only [↓symPre, symPost, y_condP, y_condG, run, lver, minD, intsD, eqAll, tupD, splice, Nat.zero_add, Nat.add_zero, Nat.zero_mul, Nat.mul_one, Nat.one_mul, Nat.reduceAdd, Nat.reduceSub, Nat.reduceMul, Nat.reduceLT, Nat.reduceLeDiff, Nat.reduceEqDiff, true_and, and_true, true_implies, if_true, if_false, ite_true, reduceIte, ne_eq, not_false_eq_true, reduceCtorEq, forall_const, bne_self_eq_false, Bool.true_eq_false, Bool.false_eq_true, false_implies, and_self, implies_true, Int.toNat_zero, beq_self_eq_true, decide_true, decide_false, Bool.not_true, Bool.not_false, ↓y_lookv, y_key1, y_mlook, y_mlookn, y_mres1, y_mres0, ↓y_call, g1, g0, decide_true, List.length_map, Int.toNat_natCast, e1]
              refine adrawq hmix [[], [], [], [], [], [], [n + 22], [], [], [], [], [n + 8]] ?_
              simp (maxSteps := 400000) -implicitDefEqProofs only [↓symPre, symPost, y_condP, y_condG, run, lver, minD, intsD, eqAll, tupD, splice, Nat.zero_add, Nat.add_zero, Nat.zero_mul, Nat.mul_one, Nat.one_mul, Nat.reduceAdd, Nat.reduceSub, Nat.reduceMul, Nat.reduceLT, Nat.reduceLeDiff, Nat.reduceEqDiff, true_and, and_true, true_implies, if_true, if_false, ite_true, reduceIte, ne_eq, not_false_eq_true, reduceCtorEq, forall_const, bne_self_eq_false, Bool.true_eq_false, Bool.false_eq_true, false_implies, and_self, implies_true, Int.toNat_zero, beq_self_eq_true, decide_true, decide_false, Bool.not_true, Bool.not_false, ↓y_lookv, y_key1, y_mlook, y_mlookn, y_mres1, y_mres0, ↓y_call, ↓y_adq0, ↓y_adq, ↓y_stepQ_call, ↓y_adq_onT, ↓y_adq_onF, ↓y_adq_onS, drawPost, isCall, isNew, isEff, Option.toList, or_false, false_or, cond_true, cond_false, not_true_eq_false, or_true, true_or, Nat.add_left_cancel_iff, Bool.false_eq_true, ↓y_q0, ↓y_q1, ↓y_q1e, y_qn, isMap, List.flatMap_cons, List.flatMap_nil, List.append_nil, List.getD_cons_succ, List.getD_cons_zero]
              refine ⟨_, _, ACalls.oneD (t := 22) (r := .agg [.int .i64 yk, .int .i64 ym, .int .i64 ya, .int .i64 yr, .lst (ys.map exD)]) (x := ⟨1, .cells [iD L']⟩) rfl ?_ ?_, ?_, ?_⟩
              · intro s hs
                exact hvv _ _ _ _ (by show n + 22 < n + 109; omega) (hs.hp (by show mrg n h _ (n + 22) = _; rw [mrg_loc]; rfl))
              · show 22 < 109; omega
              · exact (by simp [y_cov0, y_cov1, isNew, isEff, Option.toList])
              simp (maxSteps := 400000) -implicitDefEqProofs only [↓symPre, symPost, y_condP, y_condG, run, lver, minD, intsD, eqAll, tupD, splice, Nat.zero_add, Nat.add_zero, Nat.zero_mul, Nat.mul_one, Nat.one_mul, Nat.reduceAdd, Nat.reduceSub, Nat.reduceMul, Nat.reduceLT, Nat.reduceLeDiff, Nat.reduceEqDiff, true_and, and_true, true_implies, if_true, if_false, ite_true, reduceIte, ne_eq, not_false_eq_true, reduceCtorEq, forall_const, bne_self_eq_false, Bool.true_eq_false, Bool.false_eq_true, false_implies, and_self, implies_true, Int.toNat_zero, beq_self_eq_true, decide_true, decide_false, Bool.not_true, Bool.not_false, ↓y_lookv, y_key1, y_mlook, y_mlookn, y_mres1, y_mres0, ↓y_call, ↓y_adq0, ↓y_adq, ↓y_stepQ_call, ↓y_adq_onT, ↓y_adq_onF, ↓y_adq_onS, drawPost, isCall, isNew, isEff, Option.toList, or_false, false_or, cond_true, cond_false, not_true_eq_false, or_true, true_or, Nat.add_left_cancel_iff, Bool.false_eq_true, ↓y_q0, ↓y_q1, ↓y_q1e, y_qn, isMap, List.flatMap_cons, List.flatMap_nil, List.append_nil, List.getD_cons_succ, List.getD_cons_zero, srcOf, Nat.le_refl, hf, hEt, hEf, w2]
              refine ⟨by rintro c (rfl | rfl | rfl | rfl | rfl | rfl | rfl | rfl) <;> rfl, by rintro c rfl; rfl, (t + 1, L', E ++ [⟨i, oa, ob, .mk yk ym ya yr ys⟩], v + 1), ⟨by simp only; omega, by simp only; omega, by simp; omega, ?_, by simp only; omega⟩, by simp only; omega, ?_⟩
              · intro q hq
                rcases List.mem_append.1 hq with hq | hq
                · exact hEo q hq
                · simp only [List.mem_singleton] at hq
                  subst hq
                  exact hyo
              simp only [eqn_one_cells, List.length_append, List.length_cons, List.length_nil, Nat.zero_add]
              refine le_to (List.replicate 3 .hole ++ [.old 3] ++ List.replicate 2 .hole ++ [.old 6, .hole, .old 8] ++ List.replicate 13 .hole ++ [.old 22] ++ List.replicate 31 .hole ++ [.hole] ++ List.replicate 7 .hole ++ [.hole] ++ List.replicate 20 .hole ++ [.old 83] ++ List.replicate 25 .hole) hl rfl ?_ ?_ <;> ((try simp only [y_blk_end, y_blk_hole, y_blk_nil, y_blk_old, y_wkl_end, y_wkl_top, List.replicate, List.cons_append, List.nil_append, and_true, true_and]) <;> (repeat' (first | apply And.intro | apply y_wkl | refine Exists.intro _ (And.intro rfl ?_))) <;> (try first | exact trivial | exact Wk.top _ | exact wk_int rfl | exact wk_bool rfl | exact wk_ptr rfl rfl rfl rfl | exact wk_ref rfl rfl rfl rfl rfl | exact wk_nil rfl rfl rfl | exact wk_ref rfl rfl rfl rfl (by simp) | exact wk_ref rfl rfl rfl rfl (by simp; omega) | exact wk_old (by assumption) (by simp) | exact wk_eq rfl (by first | exact Bd.int _ _ | exact Bd.bool _ | exact Bd.abool | exact Bd.nils | exact Bd.emp | exact Bd.nilp | exact Bd.nilfn | assumption | exact low_trees _ _ | exact low_treeD _ _ | exact low_ints _ _) | exact Nat.le_refl _ | exact wk_int (by simp) | exact wk_int (by omega) | exact Nat.succ_le_succ (Nat.zero_le _) | exact Nat.le_add_left _ _ | omega))
              all_goals first | exact wk_eq rfl (low_ints _ _) | exact WkL.app (WkL.low hlEq) (y_wkl (wk_int rfl) (y_wkl (wk_int rfl) (y_wkl (wk_int rfl) (y_wkl (wk_int rfl) (y_wkl (wk_int rfl) (y_wkl (wk_int rfl) (y_wkl (wk_int rfl) (y_wkl (wk_eq rfl hly) trivial)))))))) | skip
            · have g1 : ¬ (t : Int) < (To.length : Int) := by omega
              obtain rfl : t = To.length := by omega
              unfold sysBl
              simp -implicitDefEqProofs only [↓symPre, symPost, y_condP, y_condG, run, lver, minD, intsD, eqAll, tupD, splice, Nat.zero_add, Nat.add_zero, Nat.zero_mul, Nat.mul_one, Nat.one_mul, Nat.reduceAdd, Nat.reduceSub, Nat.reduceMul, Nat.reduceLT, Nat.reduceLeDiff, Nat.reduceEqDiff, true_and, and_true, true_implies, if_true, if_false, ite_true, reduceIte, ne_eq, not_false_eq_true, reduceCtorEq, forall_const, bne_self_eq_false, Bool.true_eq_false, Bool.false_eq_true, false_implies, and_self, implies_true, Int.toNat_zero, beq_self_eq_true, decide_true, decide_false, Bool.not_true, Bool.not_false, ↓y_lookv, y_key1, y_mlook, y_mlookn, y_mres1, y_mres0, ↓y_call, g1, decide_false]
              refine oc _ 0 false (Nat.zero_le _) rfl rfl fun O hO => ?_
              have hlO := low_pairs n O
              simp -implicitDefEqProofs only [↓symPre, symPost, y_condP, y_condG, run, lver, minD, intsD, eqAll, tupD, splice, Nat.zero_add, Nat.add_zero, Nat.zero_mul, Nat.mul_one, Nat.one_mul, Nat.reduceAdd, Nat.reduceSub, Nat.reduceMul, Nat.reduceLT, Nat.reduceLeDiff, Nat.reduceEqDiff, true_and, and_true, true_implies, if_true, if_false, ite_true, reduceIte, ne_eq, not_false_eq_true, reduceCtorEq, forall_const, bne_self_eq_false, Bool.true_eq_false, Bool.false_eq_true, false_implies, and_self, implies_true, Int.toNat_zero, beq_self_eq_true, decide_true, decide_false, Bool.not_true, Bool.not_false, ↓y_lookv, y_key1, y_mlook, y_mlookn, y_mres1, y_mres0, ↓y_call, List.length_map]
              refine aloop (fun p : Nat × List Int × List Eqn × Nat => St.mk n ([.top, .top, .bool false, .ptr (n + 3) 1 0, .top, .top, .ptr (n + 6) 1 0, .ptr (n + 22) 1 0, .ptr (n + 8) 1 0, .int .i64 i, .top, .top, .lst (Al.map pairD)] ++ List.replicate 15 .top ++ [.lst (g.rules.map ruleD), .int .i64 g.rules.length, .int .i64 i] ++ List.replicate 58 .top ++ [.lst (O.map pairD), .int .i64 O.length, .int .i64 p.1] ++ List.replicate 17 .top) h
                  (sysBl n g As p.2.1 p.2.2.1 p.2.2.2 blk0 blk0))
                (fun p => p.1 ≤ O.length ∧ p.2.1.length ≤ l.length ∧ p.2.2.1.length ≤ 32 * i + 24 + p.1 ∧ (∀ q ∈ p.2.2.1, okX q.is ∧ sz q.is ≤ 13) ∧ 1 ≤ p.2.2.2) (fun p => O.length - p.1) (0, L, E, v) ⟨Nat.zero_le _, hL, by simp only; omega, hEo, hv⟩ ?_ ?_
              · unfold sysBl
                refine le_to (List.replicate 3 .hole ++ [.old 3] ++ List.replicate 2 .hole ++ [.old 6, .hole, .old 8] ++ List.replicate 13 .hole ++ [.old 22] ++ List.replicate 31 .hole ++ [.hole] ++ List.replicate 7 .hole ++ [.hole] ++ List.replicate 20 .hole ++ [.old 83] ++ List.replicate 25 .hole) hl rfl ?_ ?_ <;> ((try simp only [y_blk_end, y_blk_hole, y_blk_nil, y_blk_old, y_wkl_end, y_wkl_top, List.replicate, List.cons_append, List.nil_append, and_true, true_and]) <;> (repeat' (first | apply And.intro | apply y_wkl | refine Exists.intro _ (And.intro rfl ?_))) <;> (try first | exact trivial | exact Wk.top _ | exact wk_int rfl | exact wk_bool rfl | exact wk_ptr rfl rfl rfl rfl | exact wk_ref rfl rfl rfl rfl rfl | exact wk_nil rfl rfl rfl | exact wk_ref rfl rfl rfl rfl (by simp) | exact wk_ref rfl rfl rfl rfl (by simp; omega) | exact wk_old (by assumption) (by simp) | exact wk_eq rfl (by first | exact Bd.int _ _ | exact Bd.bool _ | exact Bd.abool | exact Bd.nils | exact Bd.emp | exact Bd.nilp | exact Bd.nilfn | assumption | exact low_trees _ _ | exact low_treeD _ _ | exact low_ints _ _) | exact Nat.le_refl _ | exact wk_int (by simp) | exact wk_int (by omega) | exact Nat.succ_le_succ (Nat.zero_le _) | exact Nat.le_add_left _ _ | omega))
                all_goals first | exact wk_eq rfl (low_ints _ _) | exact WkL.low hlEq | skip
              · clear hL hE hEo hv hlEq hEc hEt hEf hf
                clear v E L
                rintro ⟨t, L, E, v⟩ ⟨ht, hL, hE, hEo, hv⟩
                simp only at ht hL hE hEo hv
                have hlEq := low_cellsF eqD (low_eqD n) E
                have hEc : (cellsF eqD E).length = E.length * 8 := cellsF_len eqD eqD_cells E
                have hEt := take_all (cellsF eqD E) (k := E.length * 8) (by rw [hEc])
                have hEf : E.length * 8 ≤ (cellsF eqD E).length := by omega
                have hf : (E.length + 1) * 80 ≤ 140737488355328 := by omega
                by_cases htl : t < O.length
                · have g1 : (t : Int) < (O.length : Int) := by omega
                  have g0 : (0 : Int) ≤ (t : Int) := by omega
                  have w2 : IntKind.i64.wrap ((t : Int) + 1) = ((t + 1 : Nat) : Int) := by rw [IntWalk.i64_in _ (by omega)]; omega
                  have e1 := nth_pairs O t htl
                  generalize O.getD t (0, 0) = o at *
                  obtain ⟨oa, ob⟩ := o
                  simp only at e1
                  have hyo := valF_ok Al 2 L
                  have hyl := valF_le Al 2 L
                  have hvv := fun n h b ver hb hh => @at_value2 Al (by omega) L (by omega) n h b ver hb hh
                  generalize valF Al 2 L = y at *
                  obtain ⟨⟨yk, ym, ya, yr, ys⟩, L'⟩ := y
                  have hly := low_exs n ys
                  simp only [exD_mk] at hvv
                  simp only at hyo hyl
                  unfold sysBl
                  simp -implicitDefEqProofs only [↓symPre, symPost, y_condP, y_condG, run, lver, minD, intsD, eqAll, tupD, splice, Nat.zero_add, Nat.add_zero, Nat.zero_mul, Nat.mul_one, Nat.one_mul, Nat.reduceAdd, Nat.reduceSub, Nat.reduceMul, Nat.reduceLT, Nat.reduceLeDiff, Nat.reduceEqDiff, true_and, and_true, true_implies, if_true, if_false, ite_true, reduceIte, ne_eq, not_false_eq_true, reduceCtorEq, forall_const, bne_self_eq_false, Bool.true_eq_false, Bool.false_eq_true, false_implies, and_self, implies_true, Int.toNat_zero, beq_self_eq_true, decide_true, decide_false, Bool.not_true, Bool.not_false, ↓y_lookv, y_key1, y_mlook, y_mlookn, y_mres1, y_mres0, ↓y_call, g1, g0, decide_true, List.length_map, Int.toNat_natCast, e1]
                  refine adrawq hmix [[], [], [], [], [], [], [n + 22], [], [], [n + 83], [], [n + 8]] ?_
                  simp (maxSteps := 400000) -implicitDefEqProofs only [↓symPre, symPost, y_condP, y_condG, run, lver, minD, intsD, eqAll, tupD, splice, Nat.zero_add, Nat.add_zero, Nat.zero_mul, Nat.mul_one, Nat.one_mul, Nat.reduceAdd, Nat.reduceSub, Nat.reduceMul, Nat.reduceLT, Nat.reduceLeDiff, Nat.reduceEqDiff, true_and, and_true, true_implies, if_true, if_false, ite_true, reduceIte, ne_eq, not_false_eq_true, reduceCtorEq, forall_const, bne_self_eq_false, Bool.true_eq_false, Bool.false_eq_true, false_implies, and_self, implies_true, Int.toNat_zero, beq_self_eq_true, decide_true, decide_false, Bool.not_true, Bool.not_false, ↓y_lookv, y_key1, y_mlook, y_mlookn, y_mres1, y_mres0, ↓y_call, ↓y_adq0, ↓y_adq, ↓y_stepQ_call, ↓y_adq_onT, ↓y_adq_onF, ↓y_adq_onS, drawPost, isCall, isNew, isEff, Option.toList, or_false, false_or, cond_true, cond_false, not_true_eq_false, or_true, true_or, Nat.add_left_cancel_iff, Bool.false_eq_true, ↓y_q0, ↓y_q1, ↓y_q1e, y_qn, isMap, List.flatMap_cons, List.flatMap_nil, List.append_nil, List.getD_cons_succ, List.getD_cons_zero]
                  refine ⟨_, _, ACalls.oneD (t := 22) (r := .agg [.int .i64 yk, .int .i64 ym, .int .i64 ya, .int .i64 yr, .lst (ys.map exD)]) (x := ⟨1, .cells [iD L']⟩) rfl ?_ ?_, ?_, ?_⟩
                  · intro s hs
                    exact hvv _ _ _ _ (by show n + 22 < n + 109; omega) (hs.hp (by show mrg n h _ (n + 22) = _; rw [mrg_loc]; rfl))
                  · show 22 < 109; omega
                  · exact (by simp [y_cov0, y_cov1, isNew, isEff, Option.toList])
                  simp (maxSteps := 400000) -implicitDefEqProofs only [↓symPre, symPost, y_condP, y_condG, run, lver, minD, intsD, eqAll, tupD, splice, Nat.zero_add, Nat.add_zero, Nat.zero_mul, Nat.mul_one, Nat.one_mul, Nat.reduceAdd, Nat.reduceSub, Nat.reduceMul, Nat.reduceLT, Nat.reduceLeDiff, Nat.reduceEqDiff, true_and, and_true, true_implies, if_true, if_false, ite_true, reduceIte, ne_eq, not_false_eq_true, reduceCtorEq, forall_const, bne_self_eq_false, Bool.true_eq_false, Bool.false_eq_true, false_implies, and_self, implies_true, Int.toNat_zero, beq_self_eq_true, decide_true, decide_false, Bool.not_true, Bool.not_false, ↓y_lookv, y_key1, y_mlook, y_mlookn, y_mres1, y_mres0, ↓y_call, ↓y_adq0, ↓y_adq, ↓y_stepQ_call, ↓y_adq_onT, ↓y_adq_onF, ↓y_adq_onS, drawPost, isCall, isNew, isEff, Option.toList, or_false, false_or, cond_true, cond_false, not_true_eq_false, or_true, true_or, Nat.add_left_cancel_iff, Bool.false_eq_true, ↓y_q0, ↓y_q1, ↓y_q1e, y_qn, isMap, List.flatMap_cons, List.flatMap_nil, List.append_nil, List.getD_cons_succ, List.getD_cons_zero, srcOf, Nat.le_refl, hf, hEt, hEf, w2]
                  refine ⟨by rintro c (rfl | rfl | rfl | rfl | rfl | rfl | rfl | rfl) <;> rfl, by rintro c rfl; rfl, (t + 1, L', E ++ [⟨i, oa, ob, .mk yk ym ya yr ys⟩], v + 1), ⟨by simp only; omega, by simp only; omega, by simp; omega, ?_, by simp only; omega⟩, by simp only; omega, ?_⟩
                  · intro q hq
                    rcases List.mem_append.1 hq with hq | hq
                    · exact hEo q hq
                    · simp only [List.mem_singleton] at hq
                      subst hq
                      exact hyo
                  simp only [eqn_one_cells, List.length_append, List.length_cons, List.length_nil, Nat.zero_add]
                  refine le_to (List.replicate 3 .hole ++ [.old 3] ++ List.replicate 2 .hole ++ [.old 6, .hole, .old 8] ++ List.replicate 13 .hole ++ [.old 22] ++ List.replicate 31 .hole ++ [.hole] ++ List.replicate 7 .hole ++ [.hole] ++ List.replicate 20 .hole ++ [.old 83] ++ List.replicate 25 .hole) hl rfl ?_ ?_ <;> ((try simp only [y_blk_end, y_blk_hole, y_blk_nil, y_blk_old, y_wkl_end, y_wkl_top, List.replicate, List.cons_append, List.nil_append, and_true, true_and]) <;> (repeat' (first | apply And.intro | apply y_wkl | refine Exists.intro _ (And.intro rfl ?_))) <;> (try first | exact trivial | exact Wk.top _ | exact wk_int rfl | exact wk_bool rfl | exact wk_ptr rfl rfl rfl rfl | exact wk_ref rfl rfl rfl rfl rfl | exact wk_nil rfl rfl rfl | exact wk_ref rfl rfl rfl rfl (by simp) | exact wk_ref rfl rfl rfl rfl (by simp; omega) | exact wk_old (by assumption) (by simp) | exact wk_eq rfl (by first | exact Bd.int _ _ | exact Bd.bool _ | exact Bd.abool | exact Bd.nils | exact Bd.emp | exact Bd.nilp | exact Bd.nilfn | assumption | exact low_trees _ _ | exact low_treeD _ _ | exact low_ints _ _) | exact Nat.le_refl _ | exact wk_int (by simp) | exact wk_int (by omega) | exact Nat.succ_le_succ (Nat.zero_le _) | exact Nat.le_add_left _ _ | omega))
                  all_goals first | exact wk_eq rfl (low_ints _ _) | exact WkL.app (WkL.low hlEq) (y_wkl (wk_int rfl) (y_wkl (wk_int rfl) (y_wkl (wk_int rfl) (y_wkl (wk_int rfl) (y_wkl (wk_int rfl) (y_wkl (wk_int rfl) (y_wkl (wk_int rfl) (y_wkl (wk_eq rfl hly) trivial)))))))) | skip
                · have g1 : ¬ (t : Int) < (O.length : Int) := by omega
                  unfold sysBl
                  simp -implicitDefEqProofs only [↓symPre, symPost, y_condP, y_condG, run, lver, minD, intsD, eqAll, tupD, splice, Nat.zero_add, Nat.add_zero, Nat.zero_mul, Nat.mul_one, Nat.one_mul, Nat.reduceAdd, Nat.reduceSub, Nat.reduceMul, Nat.reduceLT, Nat.reduceLeDiff, Nat.reduceEqDiff, true_and, and_true, true_implies, if_true, if_false, ite_true, reduceIte, ne_eq, not_false_eq_true, reduceCtorEq, forall_const, bne_self_eq_false, Bool.true_eq_false, Bool.false_eq_true, false_implies, and_self, implies_true, Int.toNat_zero, beq_self_eq_true, decide_true, decide_false, Bool.not_true, Bool.not_false, ↓y_lookv, y_key1, y_mlook, y_mlookn, y_mres1, y_mres0, ↓y_call, g1, decide_false, w1]
                  refine ⟨(i + 1, L, E, v), ⟨by simp only; omega, hL, by simp only; omega, hEo, hv⟩, by simp only; omega, ?_⟩
                  refine le_to (List.replicate 3 .hole ++ [.old 3] ++ List.replicate 2 .hole ++ [.old 6, .hole, .old 8] ++ List.replicate 13 .hole ++ [.old 22] ++ List.replicate 31 .hole ++ [.hole] ++ List.replicate 7 .hole ++ [.hole] ++ List.replicate 20 .hole ++ [.old 83] ++ List.replicate 25 .hole) hl rfl ?_ ?_ <;> ((try simp only [y_blk_end, y_blk_hole, y_blk_nil, y_blk_old, y_wkl_end, y_wkl_top, List.replicate, List.cons_append, List.nil_append, and_true, true_and]) <;> (repeat' (first | apply And.intro | apply y_wkl | refine Exists.intro _ (And.intro rfl ?_))) <;> (try first | exact trivial | exact Wk.top _ | exact wk_int rfl | exact wk_bool rfl | exact wk_ptr rfl rfl rfl rfl | exact wk_ref rfl rfl rfl rfl rfl | exact wk_nil rfl rfl rfl | exact wk_ref rfl rfl rfl rfl (by simp) | exact wk_ref rfl rfl rfl rfl (by simp; omega) | exact wk_old (by assumption) (by simp) | exact wk_eq rfl (by first | exact Bd.int _ _ | exact Bd.bool _ | exact Bd.abool | exact Bd.nils | exact Bd.emp | exact Bd.nilp | exact Bd.nilfn | assumption | exact low_trees _ _ | exact low_treeD _ _ | exact low_ints _ _) | exact Nat.le_refl _ | exact wk_int (by simp) | exact wk_int (by omega) | exact Nat.succ_le_succ (Nat.zero_le _) | exact Nat.le_add_left _ _ | omega))
                  all_goals first | exact wk_eq rfl (low_ints _ _) | exact WkL.low hlEq | skip
    · have f1 : ¬ (i : Int) < (g.rules.length : Int) := by omega
      unfold sysBl
      simp -implicitDefEqProofs only [↓symPre, symPost, y_condP, y_condG, run, lver, minD, intsD, eqAll, tupD, splice, Nat.zero_add, Nat.add_zero, Nat.zero_mul, Nat.mul_one, Nat.one_mul, Nat.reduceAdd, Nat.reduceSub, Nat.reduceMul, Nat.reduceLT, Nat.reduceLeDiff, Nat.reduceEqDiff, true_and, and_true, true_implies, if_true, if_false, ite_true, reduceIte, ne_eq, not_false_eq_true, reduceCtorEq, forall_const, bne_self_eq_false, Bool.true_eq_false, Bool.false_eq_true, false_implies, and_self, implies_true, Int.toNat_zero, beq_self_eq_true, decide_true, decide_false, Bool.not_true, Bool.not_false, ↓y_lookv, y_key1, y_mlook, y_mlookn, y_mres1, y_mres0, ↓y_call, f1, decide_false]
      exact fin_wk (d := sysD ⟨As, E⟩) hl (wk_agg2 (.low _ hla) (wk_frzF eqD eqD_cells (low_eqD n) (t := 83) rfl rfl (by simp) rfl)) ⟨rfl, rfl, ⟨As, E⟩, ⟨by simp only; omega, by simp only; omega, hEo⟩, rfl⟩

end Abs
end Go.Proofs.Ytoeehfnkcfeoaaa

/- A copy of occurrences; attributes. -/
import Derived.Test.YtoeehfnkcfeoaaaN3
namespace Go.Proofs.Ytoeehfnkcfeoaaa
namespace Abs
set_option linter.unusedVariables false
set_option linter.unusedSimpArgs false
set_option maxRecDepth 20000

theorem pairs_sc (A : List (Int × Int)) : (∀ x ∈ A.map pairD, x.cells.length = 2) = True := by
  simp only [eq_iff_iff, iff_true]
  intro x hx
  obtain ⟨y, _, rfl⟩ := List.mem_map.1 hx; rfl
theorem pairs_flat (A : List (Int × Int)) : (A.map pairD).flatMap D.cells = cellsF pairD A := rfl
theorem pairs_one (A : List (Int × Int)) : (∀ c ∈ cellsF pairD A, c.one = true) = True := by
  simp only [eq_iff_iff, iff_true]
  intro c hc
  simp only [cellsF, List.mem_flatMap, List.mem_map] at hc
  obtain ⟨d, ⟨y, _, rfl⟩, hc⟩ := hc
  simp [pairD, D.cells] at hc
  rcases hc with rfl | rfl <;> rfl

/-- a copy: nil, or in an array of its own -/
theorem at_CloneR (A : List (Int × Int)) (hfit : A.length * 16 ≤ 140737488355328) (n : Nat) (h : Heap) : ACalls prog F_slices_Clone_attr_Ref_attr_Ref [.lst (A.map pairD)] n h fun d h' x => h' = h ∧ ((x = [] ∧ d = .nils ∧ A = []) ∨ ∃ v, x = [⟨v, .cells (cellsF pairD A)⟩] ∧ d = .ref 2 n v 0 A.length) := by
  refine K_slices_Clone_attr_Ref_attr_Ref.calls fun hl => ?_
  unfold C_slices_Clone_attr_Ref_attr_Ref
  by_cases hne : A = []
  · subst hne
    simp -implicitDefEqProofs only [↓symPre, symPost, y_condP, y_condG, run, lver, minD, intsD, eqAll, tupD, splice, Nat.zero_add, Nat.add_zero, Nat.zero_mul, Nat.mul_one, Nat.one_mul, Nat.reduceAdd, Nat.reduceSub, Nat.reduceMul, Nat.reduceLT, Nat.reduceLeDiff, Nat.reduceEqDiff, true_and, and_true, true_implies, if_true, if_false, ite_true, reduceIte, ne_eq, not_false_eq_true, reduceCtorEq, forall_const, bne_self_eq_false, Bool.true_eq_false, Bool.false_eq_true, false_implies, and_self, implies_true, Int.toNat_zero, beq_self_eq_true, decide_true, decide_false, Bool.not_true, Bool.not_false, ↓y_lookv, y_key1, y_mlook, y_mlookn, y_mres1, y_mres0, ↓y_call, srcOf, List.length_nil, List.map_nil, List.flatMap_nil, Nat.zero_le]
    exact ⟨⟨fin_low hl .nils ⟨rfl, .inl (by simp [tupD])⟩, by simp, fin_ref hl (t := 5) rfl (by omega) (by simp) ⟨rfl, .inr ⟨2, rfl, rfl⟩⟩⟩, fun h => (h trivial).elim⟩
  · have hne' : ¬ A.map pairD = [] := by simpa using hne
    simp -implicitDefEqProofs only [↓symPre, symPost, y_condP, y_condG, run, lver, minD, intsD, eqAll, tupD, splice, Nat.zero_add, Nat.add_zero, Nat.zero_mul, Nat.mul_one, Nat.one_mul, Nat.reduceAdd, Nat.reduceSub, Nat.reduceMul, Nat.reduceLT, Nat.reduceLeDiff, Nat.reduceEqDiff, true_and, and_true, true_implies, if_true, if_false, ite_true, reduceIte, ne_eq, not_false_eq_true, reduceCtorEq, forall_const, bne_self_eq_false, Bool.true_eq_false, Bool.false_eq_true, false_implies, and_self, implies_true, Int.toNat_zero, beq_self_eq_true, decide_true, decide_false, Bool.not_true, Bool.not_false, ↓y_lookv, y_key1, y_mlook, y_mlookn, y_mres1, y_mres0, ↓y_call, hne', srcOf, List.length_map, pairs_sc, pairs_flat, pairs_one, Nat.zero_le, hfit]
    exact fin_ref hl (t := 5) rfl (by omega) (low_cellsF pairD (low_pairD n) A) ⟨rfl, .inr ⟨2, rfl, rfl⟩⟩

theorem CloneR_call {A : List (Int × Int)} (hfit : A.length * 16 ≤ 140737488355328) {n : Nat} {sl : List D} {h : Heap} {lc : List Blk} {t N : Nat} {H : Heap} {K : D → Chg → Prop} (hN : N = n + lc.length) (hH : H = mrg n h lc)
    (ht : t < lc.length) (ho : (lc.getD t blk0).con.isOpq = false) (hK0 : A = [] → K .nils []) (hK : K (.ref 2 (n + t) (lver lc t) 0 A.length) [(n + t, ⟨lver lc t, .cells (cellsF pairD A)⟩)]) :
    ACalls prog F_slices_Clone_attr_Ref_attr_Ref [.lst (A.map pairD)] N H (callK (St.mk n sl h lc) (some t) K) := by
  subst hN; subst hH
  refine (at_CloneR A hfit _ _).mono fun d h' x ⟨hh, hd⟩ => ?_
  rcases hd with ⟨hx, hd, hA⟩ | ⟨v, hx, hd⟩
  · exact .inl ⟨[], by simp [St.inr], hx, by rw [hh]; rfl, by rw [hd]; exact hK0 hA⟩
  · exact .inr ⟨t, 2, A.length, v, _, rfl, ht, ho, hh, hx, hd, low_cellsF pairD (low_pairD _) A, hK⟩

/-! ### attributes -/
set_option maxHeartbeats 4000000 in
theorem at_attributes (g : Gr) (nn : Nat) (hnn : g.nons = nn) (h4 : nn ≤ 4) (l : List Int) (hlen : l.length < 2 ^ 60) {n : Nat} {h : Heap} {b ver : Nat} (hb : b < n) (hh : h b = ⟨ver, .cells [iD l]⟩) :
    ACalls prog F_parlkeep4_attributes [gramD g, .ptr b ver 0] n h fun d h' x => x = [] ∧ ∃ (A : List At) (l' : List Int), A.length ≤ 8 ∧ l'.length ≤ l.length ∧ d = .lst (A.map atD) ∧ h' = upd h b ⟨ver, .cells [iD l']⟩ := by
  refine K_parlkeep4_attributes.calls fun hl => ?_
  unfold C_parlkeep4_attributes gramD
  have hlr := low_rules n g.rules
  rw [hnn]
  have hself : h = upd h b ⟨ver, .cells [iD l]⟩ := (upd_self hh).symm
  have hlo : ∀ l' : List Int, LowH n (upd h b ⟨ver, .cells [iD l']⟩) := fun l' => lowH_upd hl (by simp; exact low_ints n l')
  simp -implicitDefEqProofs only [↓symPre, symPost, y_condP, y_condG, run, lver, minD, intsD, eqAll, tupD, splice, Nat.zero_add, Nat.add_zero, Nat.zero_mul, Nat.mul_one, Nat.one_mul, Nat.reduceAdd, Nat.reduceSub, Nat.reduceMul, Nat.reduceLT, Nat.reduceLeDiff, Nat.reduceEqDiff, true_and, and_true, true_implies, if_true, if_false, ite_true, reduceIte, ne_eq, not_false_eq_true, reduceCtorEq, forall_const, bne_self_eq_false, Bool.true_eq_false, Bool.false_eq_true, false_implies, and_self, implies_true, Int.toNat_zero, beq_self_eq_true, decide_true, decide_false, Bool.not_true, Bool.not_false, ↓y_lookv, y_key1, y_mlook, y_mlookn, y_mres1, y_mres0, ↓y_call]
  refine aloop (fun p : Nat × List At × List Int × Nat => St.mk n ([.top, .ptr b ver 0, .ptr (n + 2) 1 0, .top, .top, .ref 2 (n + 30) p.2.2.2 0 p.2.1.length, .top, .top, .int .i64 nn, .int .i64 p.1] ++ List.replicate 24 .top) (upd h b ⟨ver, .cells [iD p.2.2.1]⟩)
      ([blk0, blk0, ⟨1, .cells [.int .i64 g.terms, .int .i64 nn, .int .i64 g.start, .lst (g.rules.map ruleD)]⟩] ++ List.replicate 27 blk0 ++ [⟨p.2.2.2, .cells (cellsF atD p.2.1)⟩] ++ List.replicate 3 blk0))
    (fun p => p.1 ≤ nn ∧ p.2.1.length ≤ 2 * p.1 ∧ p.2.2.1.length ≤ l.length ∧ 1 ≤ p.2.2.2) (fun p => nn - p.1) (0, [], l, 1) ⟨Nat.zero_le _, Nat.le_refl _, Nat.le_refl _, Nat.le_refl _⟩ ?_ ?_
  · refine le_toh ([.hole, .hole, .old 2] ++ List.replicate 27 .hole ++ [.nil] ++ List.replicate 3 .hole) hl hself.symm rfl ?_ ?_ <;> simp only [cellsF_nil] <;> ((try simp only [y_blk_end, y_blk_hole, y_blk_nil, y_blk_old, y_wkl_end, y_wkl_top, List.replicate, List.cons_append, List.nil_append, and_true, true_and]) <;> (repeat' (first | apply And.intro | apply y_wkl | refine Exists.intro _ (And.intro rfl ?_))) <;> (try first | exact trivial | exact Wk.top _ | exact wk_int rfl | exact wk_bool rfl | exact wk_ptr rfl rfl rfl rfl | exact wk_ref rfl rfl rfl rfl rfl | exact wk_nil rfl rfl rfl | exact wk_ref rfl rfl rfl rfl (by simp) | exact wk_ref rfl rfl rfl rfl (by simp; omega) | exact wk_old (by assumption) (by simp) | exact wk_eq rfl (by first | exact Bd.int _ _ | exact Bd.bool _ | exact Bd.abool | exact Bd.nils | exact Bd.emp | exact Bd.nilp | exact Bd.nilfn | assumption | exact low_trees _ _ | exact low_treeD _ _ | exact low_ints _ _) | exact Nat.le_refl _ | exact wk_int (by simp) | exact wk_int (by omega) | exact Nat.succ_le_succ (Nat.zero_le _) | exact Nat.le_add_left _ _ | omega))
    all_goals exact .low _ (.ptr _ _ _ (.inl hb))
  · rintro ⟨i, A, L, v⟩ ⟨hi, hA, hL, hv⟩
    simp only at hi hA hL hv
    by_cases hlt : i < nn
    · have f1 : (i : Int) < (nn : Int) := by omega
      have w1 : IntKind.i64.wrap ((i : Int) + 1) = ((i + 1 : Nat) : Int) := by rw [IntWalk.i64_in _ (by omega)]; omega
      simp -implicitDefEqProofs only [↓symPre, symPost, y_condP, y_condG, run, lver, minD, intsD, eqAll, tupD, splice, Nat.zero_add, Nat.add_zero, Nat.zero_mul, Nat.mul_one, Nat.one_mul, Nat.reduceAdd, Nat.reduceSub, Nat.reduceMul, Nat.reduceLT, Nat.reduceLeDiff, Nat.reduceEqDiff, true_and, and_true, true_implies, if_true, if_false, ite_true, reduceIte, ne_eq, not_false_eq_true, reduceCtorEq, forall_const, bne_self_eq_false, Bool.true_eq_false, Bool.false_eq_true, false_implies, and_self, implies_true, Int.toNat_zero, beq_self_eq_true, decide_true, decide_false, Bool.not_true, Bool.not_false, ↓y_lookv, y_key1, y_mlook, y_mlookn, y_mres1, y_mres0, ↓y_call, f1, decide_true]
      refine rnext_callO (l := L) (by omega) (by omega) rfl rfl (by show b < n + 34; omega) (by show mrg n _ _ b = _; rw [mrg_lt hb, upd_same]) fun z L1 hz0 hz1 hL1 => ?_
      have hz2 := hz1 (by omega)
      obtain ⟨m, hm⟩ : ∃ m : Nat, 1 + z = m := ⟨(1 + z).toNat, by omega⟩
      have wz : IntKind.i64.wrap (1 + z) = (m : Int) := by rw [IntWalk.i64_in _ (by omega), hm]
      simp -implicitDefEqProofs only [↓symPre, symPost, y_condP, y_condG, run, lver, minD, intsD, eqAll, tupD, splice, Nat.zero_add, Nat.add_zero, Nat.zero_mul, Nat.mul_one, Nat.one_mul, Nat.reduceAdd, Nat.reduceSub, Nat.reduceMul, Nat.reduceLT, Nat.reduceLeDiff, Nat.reduceEqDiff, true_and, and_true, true_implies, if_true, if_false, ite_true, reduceIte, ne_eq, not_false_eq_true, reduceCtorEq, forall_const, bne_self_eq_false, Bool.true_eq_false, Bool.false_eq_true, false_implies, and_self, implies_true, Int.toNat_zero, beq_self_eq_true, decide_true, decide_false, Bool.not_true, Bool.not_false, ↓y_lookv, y_key1, y_mlook, y_mlookn, y_mres1, y_mres0, ↓y_call, hb, upd_upd, wz]
      refine aloop (fun q : Nat × List At × List Int × Nat => St.mk n ([.top, .ptr b ver 0, .ptr (n + 2) 1 0, .top, .top, .ref 2 (n + 30) q.2.2.2 0 q.2.1.length, .int .i64 i, .top, .int .i64 nn, .int .i64 i] ++ List.replicate 4 .top ++ [.int .i64 m, .int .i64 q.1] ++ List.replicate 18 .top) (upd h b ⟨ver, .cells [iD q.2.2.1]⟩)
          ([blk0, blk0, ⟨1, .cells [.int .i64 g.terms, .int .i64 nn, .int .i64 g.start, .lst (g.rules.map ruleD)]⟩] ++ List.replicate 27 blk0 ++ [⟨q.2.2.2, .cells (cellsF atD q.2.1)⟩] ++ List.replicate 3 blk0))
        (fun q => q.1 ≤ m ∧ q.2.1.length ≤ 2 * i + q.1 ∧ q.2.2.1.length ≤ l.length ∧ 1 ≤ q.2.2.2) (fun q => m - q.1) (0, A, L1, v) ⟨Nat.zero_le _, by simp only; omega, by simp only; omega, hv⟩ ?_ ?_
      · refine le_to ([.hole, .hole, .old 2] ++ List.replicate 27 .hole ++ [.old 30] ++ List.replicate 3 .hole) (hlo _) rfl ?_ ?_ <;> ((try simp only [y_blk_end, y_blk_hole, y_blk_nil, y_blk_old, y_wkl_end, y_wkl_top, List.replicate, List.cons_append, List.nil_append, and_true, true_and]) <;> (repeat' (first | apply And.intro | apply y_wkl | refine Exists.intro _ (And.intro rfl ?_))) <;> (try first | exact trivial | exact Wk.top _ | exact wk_int rfl | exact wk_bool rfl | exact wk_ptr rfl rfl rfl rfl | exact wk_ref rfl rfl rfl rfl rfl | exact wk_nil rfl rfl rfl | exact wk_ref rfl rfl rfl rfl (by simp) | exact wk_ref rfl rfl rfl rfl (by simp; omega) | exact wk_old (by assumption) (by simp) | exact wk_eq rfl (by first | exact Bd.int _ _ | exact Bd.bool _ | exact Bd.abool | exact Bd.nils | exact Bd.emp | exact Bd.nilp | exact Bd.nilfn | assumption | exact low_trees _ _ | exact low_treeD _ _ | exact low_ints _ _) | exact Nat.le_refl _ | exact wk_int (by simp) | exact wk_int (by omega) | exact Nat.succ_le_succ (Nat.zero_le _) | exact Nat.le_add_left _ _ | omega))
        all_goals first | exact .low _ (.ptr _ _ _ (.inl hb)) | exact WkL.low (low_cellsF atD (low_atD n) A)
      · rintro ⟨j, E, L2, u⟩ ⟨hj, hE, hL2, hu⟩
        simp only at hj hE hL2 hu
        by_cases hjl : j < m
        · have g1 : (j : Int) < (m : Int) := by omega
          have w2 : IntKind.i64.wrap ((j : Int) + 1) = ((j + 1 : Nat) : Int) := by rw [IntWalk.i64_in _ (by omega)]; omega
          have hAl : (cellsF atD E).length = E.length * 2 := cellsF_len atD atD_cells E
          have hAt := take_all (cellsF atD E) (k := E.length * 2) (by rw [hAl])
          have hAf : E.length * 2 ≤ (cellsF atD E).length := by omega
          have hf : (E.length + 1) * 16 ≤ 140737488355328 := by omega
          by_cases c1 : (i : Int) = g.start
          · have b1 : ((i : Int) != g.start) = false := by simp [c1]
            simp -implicitDefEqProofs only [↓symPre, symPost, y_condP, y_condG, run, lver, minD, intsD, eqAll, tupD, splice, Nat.zero_add, Nat.add_zero, Nat.zero_mul, Nat.mul_one, Nat.one_mul, Nat.reduceAdd, Nat.reduceSub, Nat.reduceMul, Nat.reduceLT, Nat.reduceLeDiff, Nat.reduceEqDiff, true_and, and_true, true_implies, if_true, if_false, ite_true, reduceIte, ne_eq, not_false_eq_true, reduceCtorEq, forall_const, bne_self_eq_false, Bool.true_eq_false, Bool.false_eq_true, false_implies, and_self, implies_true, Int.toNat_zero, beq_self_eq_true, decide_true, decide_false, Bool.not_true, Bool.not_false, ↓y_lookv, y_key1, y_mlook, y_mlookn, y_mres1, y_mres0, ↓y_call, g1, decide_true, b1, w2, srcOf, Nat.le_refl, hf, hAt, hAf]
            refine ⟨(j + 1, E ++ [⟨(i : Int), false⟩], L2, u + 1), ⟨by simp only; omega, by simp; omega, by simp only; omega, by simp only; omega⟩, by simp only; omega, ?_⟩
            simp only [at_one_cells]
            refine le_to ([.hole, .hole, .old 2] ++ List.replicate 27 .hole ++ [.old 30] ++ List.replicate 3 .hole) (hlo _) rfl ?_ ?_ <;> ((try simp only [y_blk_end, y_blk_hole, y_blk_nil, y_blk_old, y_wkl_end, y_wkl_top, List.replicate, List.cons_append, List.nil_append, and_true, true_and]) <;> (repeat' (first | apply And.intro | apply y_wkl | refine Exists.intro _ (And.intro rfl ?_))) <;> (try first | exact trivial | exact Wk.top _ | exact wk_int rfl | exact wk_bool rfl | exact wk_ptr rfl rfl rfl rfl | exact wk_ref rfl rfl rfl rfl rfl | exact wk_nil rfl rfl rfl | exact wk_ref rfl rfl rfl rfl (by simp) | exact wk_ref rfl rfl rfl rfl (by simp; omega) | exact wk_old (by assumption) (by simp) | exact wk_eq rfl (by first | exact Bd.int _ _ | exact Bd.bool _ | exact Bd.abool | exact Bd.nils | exact Bd.emp | exact Bd.nilp | exact Bd.nilfn | assumption | exact low_trees _ _ | exact low_treeD _ _ | exact low_ints _ _) | exact Nat.le_refl _ | exact wk_int (by simp) | exact wk_int (by omega) | exact Nat.succ_le_succ (Nat.zero_le _) | exact Nat.le_add_left _ _ | omega))
            all_goals first | exact .low _ (.ptr _ _ _ (.inl hb)) | exact WkL.app (WkL.low (low_cellsF atD (low_atD n) E)) (y_wkl (wk_int rfl) (y_wkl (wk_bool rfl) trivial))
          · have b1 : ((i : Int) == g.start) = false := by simp [c1]
            obtain ⟨bb, hbb, hbt⟩ : ∃ bb : Bool, ((i : Int) != g.start) = bb ∧ bb = true := ⟨_, rfl, by simp [c1]⟩
            simp -implicitDefEqProofs only [↓symPre, symPost, y_condP, y_condG, run, lver, minD, intsD, eqAll, tupD, splice, Nat.zero_add, Nat.add_zero, Nat.zero_mul, Nat.mul_one, Nat.one_mul, Nat.reduceAdd, Nat.reduceSub, Nat.reduceMul, Nat.reduceLT, Nat.reduceLeDiff, Nat.reduceEqDiff, true_and, and_true, true_implies, if_true, if_false, ite_true, reduceIte, ne_eq, not_false_eq_true, reduceCtorEq, forall_const, bne_self_eq_false, Bool.true_eq_false, Bool.false_eq_true, false_implies, and_self, implies_true, Int.toNat_zero, beq_self_eq_true, decide_true, decide_false, Bool.not_true, Bool.not_false, ↓y_lookv, y_key1, y_mlook, y_mlookn, y_mres1, y_mres0, ↓y_call, g1, decide_true, hbb, hbt]
            refine rnext_callO (l := L2) (by omega) (by omega) rfl rfl (by show b < n + 34; omega) (by show mrg n _ _ b = _; rw [mrg_lt hb, upd_same]) fun z2 L3 hy0 hy1 hL3 => ?_
            generalize hzz : (z2 == 1) = zb
            simp -implicitDefEqProofs only [↓symPre, symPost, y_condP, y_condG, run, lver, minD, intsD, eqAll, tupD, splice, Nat.zero_add, Nat.add_zero, Nat.zero_mul, Nat.mul_one, Nat.one_mul, Nat.reduceAdd, Nat.reduceSub, Nat.reduceMul, Nat.reduceLT, Nat.reduceLeDiff, Nat.reduceEqDiff, true_and, and_true, true_implies, if_true, if_false, ite_true, reduceIte, ne_eq, not_false_eq_true, reduceCtorEq, forall_const, bne_self_eq_false, Bool.true_eq_false, Bool.false_eq_true, false_implies, and_self, implies_true, Int.toNat_zero, beq_self_eq_true, decide_true, decide_false, Bool.not_true, Bool.not_false, ↓y_lookv, y_key1, y_mlook, y_mlookn, y_mres1, y_mres0, ↓y_call, hb, upd_upd, hzz, w2, srcOf, Nat.le_refl, hf, hAt, hAf]
            refine ⟨(j + 1, E ++ [⟨(i : Int), zb⟩], L3, u + 1), ⟨by simp only; omega, by simp; omega, by simp only; omega, by simp only; omega⟩, by simp only; omega, ?_⟩
            simp only [at_one_cells]
            refine le_to ([.hole, .hole, .old 2] ++ List.replicate 27 .hole ++ [.old 30] ++ List.replicate 3 .hole) (hlo _) rfl ?_ ?_ <;> ((try simp only [y_blk_end, y_blk_hole, y_blk_nil, y_blk_old, y_wkl_end, y_wkl_top, List.replicate, List.cons_append, List.nil_append, and_true, true_and]) <;> (repeat' (first | apply And.intro | apply y_wkl | refine Exists.intro _ (And.intro rfl ?_))) <;> (try first | exact trivial | exact Wk.top _ | exact wk_int rfl | exact wk_bool rfl | exact wk_ptr rfl rfl rfl rfl | exact wk_ref rfl rfl rfl rfl rfl | exact wk_nil rfl rfl rfl | exact wk_ref rfl rfl rfl rfl (by simp) | exact wk_ref rfl rfl rfl rfl (by simp; omega) | exact wk_old (by assumption) (by simp) | exact wk_eq rfl (by first | exact Bd.int _ _ | exact Bd.bool _ | exact Bd.abool | exact Bd.nils | exact Bd.emp | exact Bd.nilp | exact Bd.nilfn | assumption | exact low_trees _ _ | exact low_treeD _ _ | exact low_ints _ _) | exact Nat.le_refl _ | exact wk_int (by simp) | exact wk_int (by omega) | exact Nat.succ_le_succ (Nat.zero_le _) | exact Nat.le_add_left _ _ | omega))
            all_goals first | exact .low _ (.ptr _ _ _ (.inl hb)) | exact WkL.app (WkL.low (low_cellsF atD (low_atD n) E)) (y_wkl (wk_int rfl) (y_wkl (wk_bool rfl) trivial))
        · have g1 : ¬ (j : Int) < (m : Int) := by omega
          simp -implicitDefEqProofs only [↓symPre, symPost, y_condP, y_condG, run, lver, minD, intsD, eqAll, tupD, splice, Nat.zero_add, Nat.add_zero, Nat.zero_mul, Nat.mul_one, Nat.one_mul, Nat.reduceAdd, Nat.reduceSub, Nat.reduceMul, Nat.reduceLT, Nat.reduceLeDiff, Nat.reduceEqDiff, true_and, and_true, true_implies, if_true, if_false, ite_true, reduceIte, ne_eq, not_false_eq_true, reduceCtorEq, forall_const, bne_self_eq_false, Bool.true_eq_false, Bool.false_eq_true, false_implies, and_self, implies_true, Int.toNat_zero, beq_self_eq_true, decide_true, decide_false, Bool.not_true, Bool.not_false, ↓y_lookv, y_key1, y_mlook, y_mlookn, y_mres1, y_mres0, ↓y_call, g1, decide_false, w1]
          refine ⟨(i + 1, E, L2, u), ⟨by simp only; omega, by simp only; omega, by simp only; omega, hu⟩, by simp only; omega, ?_⟩
          refine le_to ([.hole, .hole, .old 2] ++ List.replicate 27 .hole ++ [.old 30] ++ List.replicate 3 .hole) (hlo _) rfl ?_ ?_ <;> ((try simp only [y_blk_end, y_blk_hole, y_blk_nil, y_blk_old, y_wkl_end, y_wkl_top, List.replicate, List.cons_append, List.nil_append, and_true, true_and]) <;> (repeat' (first | apply And.intro | apply y_wkl | refine Exists.intro _ (And.intro rfl ?_))) <;> (try first | exact trivial | exact Wk.top _ | exact wk_int rfl | exact wk_bool rfl | exact wk_ptr rfl rfl rfl rfl | exact wk_ref rfl rfl rfl rfl rfl | exact wk_nil rfl rfl rfl | exact wk_ref rfl rfl rfl rfl (by simp) | exact wk_ref rfl rfl rfl rfl (by simp; omega) | exact wk_old (by assumption) (by simp) | exact wk_eq rfl (by first | exact Bd.int _ _ | exact Bd.bool _ | exact Bd.abool | exact Bd.nils | exact Bd.emp | exact Bd.nilp | exact Bd.nilfn | assumption | exact low_trees _ _ | exact low_treeD _ _ | exact low_ints _ _) | exact Nat.le_refl _ | exact wk_int (by simp) | exact wk_int (by omega) | exact Nat.succ_le_succ (Nat.zero_le _) | exact Nat.le_add_left _ _ | omega))
          all_goals first | exact .low _ (.ptr _ _ _ (.inl hb)) | exact WkL.low (low_cellsF atD (low_atD n) E)
    · have f1 : ¬ (i : Int) < (nn : Int) := by omega
      simp -implicitDefEqProofs only [↓symPre, symPost, y_condP, y_condG, run, lver, minD, intsD, eqAll, tupD, splice, Nat.zero_add, Nat.add_zero, Nat.zero_mul, Nat.mul_one, Nat.one_mul, Nat.reduceAdd, Nat.reduceSub, Nat.reduceMul, Nat.reduceLT, Nat.reduceLeDiff, Nat.reduceEqDiff, true_and, and_true, true_implies, if_true, if_false, ite_true, reduceIte, ne_eq, not_false_eq_true, reduceCtorEq, forall_const, bne_self_eq_false, Bool.true_eq_false, Bool.false_eq_true, false_implies, and_self, implies_true, Int.toNat_zero, beq_self_eq_true, decide_true, decide_false, Bool.not_true, Bool.not_false, ↓y_lookv, y_key1, y_mlook, y_mlookn, y_mres1, y_mres0, ↓y_call, f1, decide_false]
      exact fin_wk (hlo _) (wk_frzF atD atD_cells (low_atD n) (t := 30) rfl rfl (by simp) rfl) ⟨rfl, A, L, by omega, hL, rfl, rfl⟩

end Abs
end Go.Proofs.Ytoeehfnkcfeoaaa

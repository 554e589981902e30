/- edit.distances. -/
import Derived.Test.YtfojedaccfenfabV2
namespace Go.Proofs.Ytfojedaccfenfab
namespace Abs
set_option linter.unusedVariables false
set_option linter.unusedSimpArgs false
set_option maxRecDepth 20000

abbrev dG (a b : List Int) (r c : Nat) : Int := dE (a.drop r) (b.drop c)

set_option maxHeartbeats 4000000 in
theorem pure_distances (a b : List Int) (ha : a.length < 2 ^ 30) (hb : b.length < 2 ^ 30) : Pure prog F_edit_distances [iD a, iD b] (.lst ((matL (a.length + 1) (b.length + 1) (dG a b)).map iD)) := by
  intro n h
  refine K_edit_distances.calls fun hl => ?_
  unfold C_edit_distances
  obtain ⟨m, hm⟩ : ∃ m, m = a.length + 1 := ⟨_, rfl⟩
  obtain ⟨cols, hcols⟩ : ∃ cols, cols = b.length + 1 := ⟨_, rfl⟩
  rw [← hm, ← hcols]
  have wm : IntKind.i64.wrap ((a.length : Int) + 1) = (m : Int) := by rw [IntWalk.i64_in _ (by omega)]; omega
  have wc : IntKind.i64.wrap ((b.length : Int) + 1) = (cols : Int) := by rw [IntWalk.i64_in _ (by omega)]; omega
  have m0 : (0 : Int) ≤ (m : Int) := by omega
  have c0 : (0 : Int) ≤ (cols : Int) := by omega
  have mf : (m : Int) * ((24 : Nat) : Int) ≤ 140737488355328 := by omega
  have cf : (cols : Int) * ((8 : Nat) : Int) ≤ 140737488355328 := by omega
  have mx : (m : Int) ≤ 9223372036854775807 := by omega
  have cx : (cols : Int) ≤ 9223372036854775807 := by omega
  simp -implicitDefEqProofs only [↓symPre, symPost, y_condP, y_condG, run, lver, minD, intsD, eqAll, tupD, splice, Nat.zero_add, Nat.add_zero, Nat.zero_mul, Nat.mul_one, Nat.one_mul, Nat.reduceAdd, Nat.reduceSub, Nat.reduceMul, Nat.reduceLT, Nat.reduceLeDiff, Nat.reduceEqDiff, true_and, and_true, true_implies, if_true, if_false, ite_true, reduceIte, ne_eq, not_false_eq_true, reduceCtorEq, forall_const, bne_self_eq_false, Bool.true_eq_false, Bool.false_eq_true, false_implies, and_self, implies_true, Int.toNat_zero, beq_self_eq_true, decide_true, decide_false, Bool.not_true, Bool.not_false, ↓y_call, List.length_map, wm, m0, mf, mx, Int.le_refl, Int.toNat_natCast, flat_rep]
  refine aloop (fun i : Nat => St.mk n ([iD a, iD b, .top, .top, .top, .ref 1 (n + 12) 1 0 m] ++ List.replicate 7 .top ++ [.ref 1 (n + 12) 1 0 m, .int .i64 m, .int .i64 i] ++ List.replicate 102 .top) h (matI 118 n m cols i))
    (fun i => i ≤ m) (fun i => m - i) 0 (Nat.zero_le _) ?_ ?_
  · refine le_start (T := 118) (by omega) ?_
    simp only [List.replicate, List.cons_append, List.nil_append, tops_top, tops_same, tops_nil, Int.cast_ofNat_Int]
  · intro i hi
    by_cases hlt : i < m
    · have h1 : (i : Int) < (m : Int) := by omega
      have h0 : (0 : Int) ≤ (i : Int) := by omega
      have w1 : IntKind.i64.wrap ((i : Int) + 1) = ((i + 1 : Nat) : Int) := by rw [IntWalk.i64_in _ (by omega)]; omega
      have g12 : (matI 118 n m cols i).getD 12 blk0 = ⟨1, .cells (refsI 118 n m cols i)⟩ := by rw [matI_getD (by omega), matB, if_pos rfl]
      have g23 : (matI 118 n m cols i).getD 23 blk0 = blk0 := by rw [matI_getD (by omega), matB, if_neg (by omega), if_neg (by omega)]
      have g12' : ∀ x, ((matI 118 n m cols i).set 23 x).getD 12 blk0 = ⟨1, .cells (refsI 118 n m cols i)⟩ := fun x => by rw [List.getD, List.getElem?_set_ne (by omega)]; exact g12
      have gl : (matI 118 n m cols i).length = 118 + m := matI_len ..
      have gr : (refsI 118 n m cols i).length = m := refsI_len ..
      have fin := fun (sl sl' : List D) => le_row (T := 118) (n := n) (cols := cols) (h := h) (sl := sl) (sl' := sl') hl (by omega) hlt
      generalize matI 118 n m cols i = L at *
      generalize refsI 118 n m cols i = R at *
      simp -implicitDefEqProofs only [↓symPre, symPost, y_condP, y_condG, run, lver, minD, intsD, eqAll, tupD, splice, Nat.zero_add, Nat.add_zero, Nat.zero_mul, Nat.mul_one, Nat.one_mul, Nat.reduceAdd, Nat.reduceSub, Nat.reduceMul, Nat.reduceLT, Nat.reduceLeDiff, Nat.reduceEqDiff, true_and, and_true, true_implies, if_true, if_false, ite_true, reduceIte, ne_eq, not_false_eq_true, reduceCtorEq, forall_const, bne_self_eq_false, Bool.true_eq_false, Bool.false_eq_true, false_implies, and_self, implies_true, Int.toNat_zero, beq_self_eq_true, decide_true, decide_false, Bool.not_true, Bool.not_false, ↓y_call, List.length_map, h1, h0, decide_true, Int.toNat_natCast, wc, c0, cf, cx, w1, Int.le_refl, flat_rep, g12, g12', g23, gl, gr, hlt]
      refine ⟨by omega, by omega, i + 1, by omega, by omega, fin _ _ ?_⟩
      repeat (first | rw [slk_top] | refine slk_mat ?_ | refine slk_low (by first | exact low_ints _ _ | exact Bd.int _ _) ?_)
      exact trivial
    · have h1 : ¬ (i : Int) < (m : Int) := by omega
      obtain rfl : i = m := by omega
      have g12 : (matI 118 n i cols i).getD 12 blk0 = ⟨1, .cells (refsI 118 n i cols i)⟩ := by rw [matI_getD (by omega), matB, if_pos rfl]
      simp -implicitDefEqProofs only [↓symPre, symPost, y_condP, y_condG, run, lver, minD, intsD, eqAll, tupD, splice, Nat.zero_add, Nat.add_zero, Nat.zero_mul, Nat.mul_one, Nat.one_mul, Nat.reduceAdd, Nat.reduceSub, Nat.reduceMul, Nat.reduceLT, Nat.reduceLeDiff, Nat.reduceEqDiff, true_and, and_true, true_implies, if_true, if_false, ite_true, reduceIte, ne_eq, not_false_eq_true, reduceCtorEq, forall_const, bne_self_eq_false, Bool.true_eq_false, Bool.false_eq_true, false_implies, and_self, implies_true, Int.toNat_zero, beq_self_eq_true, decide_true, decide_false, Bool.not_true, Bool.not_false, ↓y_call, List.length_map, h1, decide_false, g12]
      refine aloop (fun p : Nat × List Blk => St.mk n ([iD a, iD b, .top, .top, .top, .ref 1 (n + 12) 1 0 i, .top, .int .i64 ((p.1 : Int) - 1)] ++ List.replicate 110 .top) h p.2)
        (fun p => p.1 ≤ i ∧ Mat 118 n i cols (fun r _ => p.1 ≤ r) (dG a b) p.2) (fun p => p.1) (i, matI 118 n i cols i) ⟨Nat.le_refl _, (Mat.start (Kn := fun _ _ => False) (by omega) (fun _ _ h => h.elim)).mono (fun r c h1 _ h2 => by omega)⟩ ?_ ?_
      · refine le_tops ?_
        have e : ((i : Int) - 1) = (a.length : Int) := by omega
        simp only [e, List.replicate, List.cons_append, List.nil_append, tops_top, tops_same, tops_nil, Int.cast_ofNat_Int]
      · rintro ⟨q, L⟩ ⟨hq, hL⟩
        simp only at hq hL
        cases q with
        | zero =>
          have hg : decide (((0 : Nat) : Int) - 1 ≥ 0) = false := rfl
          simp -implicitDefEqProofs only [↓symPre, symPost, y_condP, y_condG, run, lver, minD, intsD, eqAll, tupD, splice, Nat.zero_add, Nat.add_zero, Nat.zero_mul, Nat.mul_one, Nat.one_mul, Nat.reduceAdd, Nat.reduceSub, Nat.reduceMul, Nat.reduceLT, Nat.reduceLeDiff, Nat.reduceEqDiff, true_and, and_true, true_implies, if_true, if_false, ite_true, reduceIte, ne_eq, not_false_eq_true, reduceCtorEq, forall_const, bne_self_eq_false, Bool.true_eq_false, Bool.false_eq_true, false_implies, and_self, implies_true, Int.toNat_zero, beq_self_eq_true, decide_true, decide_false, Bool.not_true, Bool.not_false, ↓y_call, hg]
          exact fin_wk hl ((hL.mono fun r c _ _ _ => Nat.zero_le _).wk (by omega)) ⟨rfl, rfl, rfl⟩
        | succ q =>
          have hqq : (((q + 1 : Nat) : Int) - 1) = (q : Int) := by omega
          have hg : decide ((q : Int) ≥ 0) = true := by simp
          simp -implicitDefEqProofs only [↓symPre, symPost, y_condP, y_condG, run, lver, minD, intsD, eqAll, tupD, splice, Nat.zero_add, Nat.add_zero, Nat.zero_mul, Nat.mul_one, Nat.one_mul, Nat.reduceAdd, Nat.reduceSub, Nat.reduceMul, Nat.reduceLT, Nat.reduceLeDiff, Nat.reduceEqDiff, true_and, and_true, true_implies, if_true, if_false, ite_true, reduceIte, ne_eq, not_false_eq_true, reduceCtorEq, forall_const, bne_self_eq_false, Bool.true_eq_false, Bool.false_eq_true, false_implies, and_self, implies_true, Int.toNat_zero, beq_self_eq_true, decide_true, decide_false, Bool.not_true, Bool.not_false, ↓y_call, hqq, hg, List.length_map]
          refine aloop (fun p : Nat × List Blk => St.mk n ([iD a, iD b, .top, .top, .top, .ref 1 (n + 12) 1 0 i, .top, .int .i64 q, .int .i64 ((p.1 : Int) - 1)] ++ List.replicate 109 .top) h p.2)
            (fun p => p.1 ≤ cols ∧ Mat 118 n i cols (fun r c => q < r ∨ (r = q ∧ p.1 ≤ c)) (dG a b) p.2) (fun p => p.1) (cols, L) ⟨Nat.le_refl _, hL.mono (fun r c _ _ h2 => by omega)⟩ ?_ ?_
          · refine le_tops ?_
            have e : ((cols : Int) - 1) = (b.length : Int) := by omega
            simp only [e, List.replicate, List.cons_append, List.nil_append, tops_top, tops_same, tops_nil, Int.cast_ofNat_Int]
          · rintro ⟨p, L⟩ ⟨hp, hL⟩
            simp only at hp hL
            cases p with
            | zero =>
              have hg : decide (((0 : Nat) : Int) - 1 ≥ 0) = false := rfl
              have w5 : IntKind.i64.wrap ((q : Int) - 1) = (q : Int) - 1 := IntWalk.i64_in _ (by omega)
              simp -implicitDefEqProofs only [↓symPre, symPost, y_condP, y_condG, run, lver, minD, intsD, eqAll, tupD, splice, Nat.zero_add, Nat.add_zero, Nat.zero_mul, Nat.mul_one, Nat.one_mul, Nat.reduceAdd, Nat.reduceSub, Nat.reduceMul, Nat.reduceLT, Nat.reduceLeDiff, Nat.reduceEqDiff, true_and, and_true, true_implies, if_true, if_false, ite_true, reduceIte, ne_eq, not_false_eq_true, reduceCtorEq, forall_const, bne_self_eq_false, Bool.true_eq_false, Bool.false_eq_true, false_implies, and_self, implies_true, Int.toNat_zero, beq_self_eq_true, decide_true, decide_false, Bool.not_true, Bool.not_false, ↓y_call, hg, w5]
              refine ⟨(q, L), ⟨by simp only; omega, hL.mono fun r c _ _ h => by simp only at h; omega⟩, by simp only; omega, le_tops ?_⟩
              simp only [List.replicate, List.cons_append, List.nil_append, tops_top, tops_same, tops_nil, Int.cast_ofNat_Int]
            | succ j =>
              have hpp : (((j + 1 : Nat) : Int) - 1) = (j : Int) := by omega
              have hg : decide ((j : Int) ≥ 0) = true := by simp
              have w5 : IntKind.i64.wrap ((j : Int) - 1) = (j : Int) - 1 := IntWalk.i64_in _ (by omega)
              have q0 : (0 : Int) ≤ (q : Int) := by omega
              have q1 : (q : Int) < (i : Int) := by omega
              have j0 : (0 : Int) ≤ (j : Int) := by omega
              have j1 : (j : Int) < (cols : Int) := by omega
              obtain ⟨R, gR, gRl, gRn⟩ := hL.d
              obtain ⟨C, gC, gCl, gCn⟩ := hL.row q (by omega)
              have gRq := gRn q (by omega)
              have next : ∀ v, v = dG a b q j → ∃ L', L' = L.set (118 + q) ⟨1, .cells (C.take j ++ [.int .i64 v] ++ C.drop (j + 1))⟩ ∧ Mat 118 n i cols (fun r c => q < r ∨ (r = q ∧ j ≤ c)) (dG a b) L' := fun v hv =>
                ⟨_, rfl, hL.put (by omega) (by omega) (by omega) gC hv fun r' c' _ _ h => by omega⟩
              have rng := dE_range (a.drop q) (b.drop j)
              have gll := hL.len
              have qb : q < i := by omega
              have jb : j < cols := by omega
              by_cases cA : q = a.length
              · have bA : ((q : Int) == (a.length : Int)) = true := by simp [cA]
                have hval : (b.length : Int) - j = dG a b q j := by
                  rw [dG, List.drop_eq_nil_of_le (by omega), dE_nil]; simp; omega
                obtain ⟨L', eL', hL'⟩ := next _ hval
                have u1 : IntKind.i64.wrap ((b.length : Int) - (j : Int)) = (b.length : Int) - j := IntWalk.i64_in _ (by omega)
                simp -implicitDefEqProofs only [↓symPre, symPost, y_condP, y_condG, run, lver, minD, intsD, eqAll, tupD, splice, Nat.zero_add, Nat.add_zero, Nat.zero_mul, Nat.mul_one, Nat.one_mul, Nat.reduceAdd, Nat.reduceSub, Nat.reduceMul, Nat.reduceLT, Nat.reduceLeDiff, Nat.reduceEqDiff, true_and, and_true, true_implies, if_true, if_false, ite_true, reduceIte, ne_eq, not_false_eq_true, reduceCtorEq, forall_const, bne_self_eq_false, Bool.true_eq_false, Bool.false_eq_true, false_implies, and_self, implies_true, Int.toNat_zero, beq_self_eq_true, decide_true, decide_false, Bool.not_true, Bool.not_false, ↓y_call, hpp, hg, List.length_map, bA, gR, gC, gRq, gRl, gCl, q0, q1, j0, j1, qb, jb, u1, w5, Int.toNat_natCast]
                refine ⟨by omega, (j, L'), ⟨by simp only; omega, hL'⟩, by simp only; omega, ?_⟩
                subst eL'
                refine le_tops ?_
                simp only [List.replicate, List.cons_append, List.nil_append, tops_top, tops_same, tops_nil, Int.cast_ofNat_Int]
              · have bA : ((q : Int) == (a.length : Int)) = false := beq_eq_false_iff_ne.2 (by omega)
                by_cases cB : j = b.length
                · have bB : ((j : Int) == (b.length : Int)) = true := by simp [cB]
                  have hval : (a.length : Int) - q = dG a b q j := by
                    have : b.drop j = [] := List.drop_eq_nil_of_le (by omega)
                    rw [dG, this, dE_nil2]; simp; omega
                  obtain ⟨L', eL', hL'⟩ := next _ hval
                  have u1 : IntKind.i64.wrap ((a.length : Int) - (q : Int)) = (a.length : Int) - q := IntWalk.i64_in _ (by omega)
                  simp -implicitDefEqProofs only [↓symPre, symPost, y_condP, y_condG, run, lver, minD, intsD, eqAll, tupD, splice, Nat.zero_add, Nat.add_zero, Nat.zero_mul, Nat.mul_one, Nat.one_mul, Nat.reduceAdd, Nat.reduceSub, Nat.reduceMul, Nat.reduceLT, Nat.reduceLeDiff, Nat.reduceEqDiff, true_and, and_true, true_implies, if_true, if_false, ite_true, reduceIte, ne_eq, not_false_eq_true, reduceCtorEq, forall_const, bne_self_eq_false, Bool.true_eq_false, Bool.false_eq_true, false_implies, and_self, implies_true, Int.toNat_zero, beq_self_eq_true, decide_true, decide_false, Bool.not_true, Bool.not_false, ↓y_call, hpp, hg, List.length_map, bA, bB, gR, gC, gRq, gRl, gCl, q0, q1, j0, j1, qb, jb, u1, w5, Int.toNat_natCast]
                  refine ⟨by omega, (j, L'), ⟨by simp only; omega, hL'⟩, by simp only; omega, ?_⟩
                  subst eL'
                  refine le_tops ?_
                  simp only [List.replicate, List.cons_append, List.nil_append, tops_top, tops_same, tops_nil, Int.cast_ofNat_Int]
                · have bB : ((j : Int) == (b.length : Int)) = false := beq_eq_false_iff_ne.2 (by omega)
                  have hqa : q < a.length := by omega
                  have hjb : j < b.length := by omega
                  have e0 := nth_ints a q hqa
                  have e1 := nth_ints b j hjb
                  have q2 : (q : Int) < (a.length : Int) := by omega
                  have j2 : (j : Int) < (b.length : Int) := by omega
                  have wq1 : IntKind.i64.wrap ((q : Int) + 1) = ((q + 1 : Nat) : Int) := by rw [IntWalk.i64_in _ (by omega)]; omega
                  have wj1 : IntKind.i64.wrap ((j : Int) + 1) = ((j + 1 : Nat) : Int) := by rw [IntWalk.i64_in _ (by omega)]; omega
                  have q3 : (0 : Int) ≤ ((q + 1 : Nat) : Int) := by omega
                  have q4 : ((q + 1 : Nat) : Int) < (i : Int) := by omega
                  have j3 : (0 : Int) ≤ ((j + 1 : Nat) : Int) := by omega
                  have j4 : ((j + 1 : Nat) : Int) < (cols : Int) := by omega
                  have qb1 : q + 1 < i := by omega
                  have jb1 : j + 1 < cols := by omega
                  obtain ⟨C1, gC1, gC1l, gC1n⟩ := hL.row (q + 1) (by omega)
                  have gRq1 := gRn (q + 1) (by omega)
                  have n1 := gC1n j (by omega) (.inl (by omega))
                  have n2 := gC1n (j + 1) (by omega) (.inl (by omega))
                  have n3 := gCn (j + 1) (by omega) (.inr ⟨rfl, by omega⟩)
                  have r1 := dE_range (a.drop (q + 1)) (b.drop j)
                  have r2 := dE_range (a.drop (q + 1)) (b.drop (j + 1))
                  have r3 := dE_range (a.drop q) (b.drop (j + 1))
                  have hval : dG a b q j = if a[q] = b[j] then dG a b (q + 1) (j + 1) else 1 + min (dG a b (q + 1) j) (dG a b q (j + 1)) := by
                    unfold dG
                    conv => lhs; rw [List.drop_eq_getElem_cons hqa, List.drop_eq_getElem_cons hjb]
                    rw [dE_cons, ← List.drop_eq_getElem_cons hqa, ← List.drop_eq_getElem_cons hjb]
                  simp only [List.length_drop] at r1 r2 r3
                  rw [hval] at next
                  unfold dG at n1 n2 n3 next
                  generalize dE (a.drop (q + 1)) (b.drop (j + 1)) = x at *
                  generalize dE (a.drop (q + 1)) (b.drop j) = y at *
                  generalize dE (a.drop q) (b.drop (j + 1)) = z at *
                  by_cases cC : a[q] = b[j]
                  · have bC : (a[q] == b[j]) = true := by simp [cC]
                    rw [if_pos cC] at next
                    obtain ⟨L', eL', hL'⟩ := next _ rfl
                    simp -implicitDefEqProofs only [↓symPre, symPost, y_condP, y_condG, run, lver, minD, intsD, eqAll, tupD, splice, Nat.zero_add, Nat.add_zero, Nat.zero_mul, Nat.mul_one, Nat.one_mul, Nat.reduceAdd, Nat.reduceSub, Nat.reduceMul, Nat.reduceLT, Nat.reduceLeDiff, Nat.reduceEqDiff, true_and, and_true, true_implies, if_true, if_false, ite_true, reduceIte, ne_eq, not_false_eq_true, reduceCtorEq, forall_const, bne_self_eq_false, Bool.true_eq_false, Bool.false_eq_true, false_implies, and_self, implies_true, Int.toNat_zero, beq_self_eq_true, decide_true, decide_false, Bool.not_true, Bool.not_false, ↓y_call, hpp, hg, List.length_map, bA, bB]
                    refine adrawq hmix [] ?_
                    simp (maxSteps := 400000) -implicitDefEqProofs only [↓symPre, symPost, y_condP, y_condG, run, lver, minD, intsD, eqAll, tupD, splice, Nat.zero_add, Nat.add_zero, Nat.zero_mul, Nat.mul_one, Nat.one_mul, Nat.reduceAdd, Nat.reduceSub, Nat.reduceMul, Nat.reduceLT, Nat.reduceLeDiff, Nat.reduceEqDiff, true_and, and_true, true_implies, if_true, if_false, ite_true, reduceIte, ne_eq, not_false_eq_true, reduceCtorEq, forall_const, bne_self_eq_false, Bool.true_eq_false, Bool.false_eq_true, false_implies, and_self, implies_true, Int.toNat_zero, beq_self_eq_true, decide_true, decide_false, Bool.not_true, Bool.not_false, ↓y_call, ↓drawPre, ↓y_adq_onS, drawPost, isCall, isNew, isEff, Option.toList, or_false, false_or, cond_true, cond_false, not_true_eq_false, or_true, true_or, Nat.add_left_cancel_iff, Bool.false_eq_true, List.length_map, q0, q2, j0, j2, Int.toNat_natCast, e0, e1, bC]
                    refine adrawq hmix (List.replicate 15 [] ++ [[n + (118 + q)]]) ?_
                    simp (maxSteps := 400000) -implicitDefEqProofs only [↓symPre, symPost, y_condP, y_condG, run, lver, minD, intsD, eqAll, tupD, splice, Nat.zero_add, Nat.add_zero, Nat.zero_mul, Nat.mul_one, Nat.one_mul, Nat.reduceAdd, Nat.reduceSub, Nat.reduceMul, Nat.reduceLT, Nat.reduceLeDiff, Nat.reduceEqDiff, true_and, and_true, true_implies, if_true, if_false, ite_true, reduceIte, ne_eq, not_false_eq_true, reduceCtorEq, forall_const, bne_self_eq_false, Bool.true_eq_false, Bool.false_eq_true, false_implies, and_self, implies_true, Int.toNat_zero, beq_self_eq_true, decide_true, decide_false, Bool.not_true, Bool.not_false, ↓y_call, ↓drawPre, ↓y_adq_onS, drawPost, isCall, isNew, isEff, Option.toList, or_false, false_or, cond_true, cond_false, not_true_eq_false, or_true, true_or, Nat.add_left_cancel_iff, Bool.false_eq_true, List.length_map, gR, gC, gC1, gRq, gRq1, gRl, gCl, gC1l, n1, n2, n3, q0, q1, q3, q4, j0, j1, j3, j4, qb, jb, qb1, jb1, wq1, wj1, w5, Int.toNat_natCast, List.replicate, List.cons_append, List.nil_append, List.getD_cons_succ, List.getD_cons_zero]
                    refine ⟨by rintro c rfl; rfl, by omega, (j, L'), ⟨by simp only; omega, hL'⟩, by simp only; omega, ?_⟩
                    subst eL'
                    refine le_tops ?_
                    simp only [List.replicate, List.cons_append, List.nil_append, tops_top, tops_same, tops_nil, Int.cast_ofNat_Int]
                  · have bC : (a[q] == b[j]) = false := by simp [cC]
                    rw [if_neg cC] at next
                    have hmin : (if z < y then z else y) = min y z := by rw [Int.min_def]; split <;> split <;> omega
                    have r4 : 0 ≤ min y z ∧ min y z ≤ y := by omega
                    generalize min y z = M at *
                    have u1 : IntKind.i64.wrap (1 + M) = 1 + M := IntWalk.i64_in _ (by omega)
                    obtain ⟨L', eL', hL'⟩ := next _ rfl
                    simp -implicitDefEqProofs only [↓symPre, symPost, y_condP, y_condG, run, lver, minD, intsD, eqAll, tupD, splice, Nat.zero_add, Nat.add_zero, Nat.zero_mul, Nat.mul_one, Nat.one_mul, Nat.reduceAdd, Nat.reduceSub, Nat.reduceMul, Nat.reduceLT, Nat.reduceLeDiff, Nat.reduceEqDiff, true_and, and_true, true_implies, if_true, if_false, ite_true, reduceIte, ne_eq, not_false_eq_true, reduceCtorEq, forall_const, bne_self_eq_false, Bool.true_eq_false, Bool.false_eq_true, false_implies, and_self, implies_true, Int.toNat_zero, beq_self_eq_true, decide_true, decide_false, Bool.not_true, Bool.not_false, ↓y_call, hpp, hg, List.length_map, bA, bB]
                    refine adrawq hmix [] ?_
                    simp (maxSteps := 400000) -implicitDefEqProofs only [↓symPre, symPost, y_condP, y_condG, run, lver, minD, intsD, eqAll, tupD, splice, Nat.zero_add, Nat.add_zero, Nat.zero_mul, Nat.mul_one, Nat.one_mul, Nat.reduceAdd, Nat.reduceSub, Nat.reduceMul, Nat.reduceLT, Nat.reduceLeDiff, Nat.reduceEqDiff, true_and, and_true, true_implies, if_true, if_false, ite_true, reduceIte, ne_eq, not_false_eq_true, reduceCtorEq, forall_const, bne_self_eq_false, Bool.true_eq_false, Bool.false_eq_true, false_implies, and_self, implies_true, Int.toNat_zero, beq_self_eq_true, decide_true, decide_false, Bool.not_true, Bool.not_false, ↓y_call, ↓drawPre, ↓y_adq_onS, drawPost, isCall, isNew, isEff, Option.toList, or_false, false_or, cond_true, cond_false, not_true_eq_false, or_true, true_or, Nat.add_left_cancel_iff, Bool.false_eq_true, List.length_map, q0, q2, j0, j2, Int.toNat_natCast, e0, e1, bC]
                    refine adrawq hmix (List.replicate 24 [] ++ [[n + (118 + q)]]) ?_
                    simp (maxSteps := 400000) -implicitDefEqProofs only [↓symPre, symPost, y_condP, y_condG, run, lver, minD, intsD, eqAll, tupD, splice, Nat.zero_add, Nat.add_zero, Nat.zero_mul, Nat.mul_one, Nat.one_mul, Nat.reduceAdd, Nat.reduceSub, Nat.reduceMul, Nat.reduceLT, Nat.reduceLeDiff, Nat.reduceEqDiff, true_and, and_true, true_implies, if_true, if_false, ite_true, reduceIte, ne_eq, not_false_eq_true, reduceCtorEq, forall_const, bne_self_eq_false, Bool.true_eq_false, Bool.false_eq_true, false_implies, and_self, implies_true, Int.toNat_zero, beq_self_eq_true, decide_true, decide_false, Bool.not_true, Bool.not_false, ↓y_call, ↓drawPre, ↓y_adq_onS, drawPost, isCall, isNew, isEff, Option.toList, or_false, false_or, cond_true, cond_false, not_true_eq_false, or_true, true_or, Nat.add_left_cancel_iff, Bool.false_eq_true, List.length_map, gR, gC, gC1, gRq, gRq1, gRl, gCl, gC1l, n1, n2, n3, q0, q1, q3, q4, j0, j1, j3, j4, qb, jb, qb1, jb1, wq1, wj1, w5, hmin, u1, Int.toNat_natCast, List.foldl_cons, List.foldl_nil, List.replicate, List.cons_append, List.nil_append, List.getD_cons_succ, List.getD_cons_zero]
                    refine ⟨by rintro c rfl; rfl, by omega, (j, L'), ⟨by simp only; omega, hL'⟩, by simp only; omega, ?_⟩
                    subst eL'
                    refine le_tops ?_
                    simp only [List.replicate, List.cons_append, List.nil_append, tops_top, tops_same, tops_nil, Int.cast_ofNat_Int]

end Abs
end Go.Proofs.Ytfojedaccfenfab

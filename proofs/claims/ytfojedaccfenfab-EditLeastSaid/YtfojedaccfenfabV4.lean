/- parlref4.Common. -/
import Derived.Test.YtfojedaccfenfabV3
namespace Go.Proofs.Ytfojedaccfenfab
namespace Abs
set_option linter.unusedVariables false
set_option linter.unusedSimpArgs false
set_option maxRecDepth 20000

abbrev cG (a b : List Int) (r c : Nat) : Int := cE (a.drop r) (b.drop c)
theorem Mat.mono2 {T n m cols : Nat} {Kn Kn' : Nat → Nat → Prop} {G G' : Nat → Nat → Int} {L : List Blk} (h : Mat T n m cols Kn G L) (hk : ∀ r c, r < m → c < cols → Kn' r c → Kn r c ∧ G r c = G' r c) : Mat T n m cols Kn' G' L :=
  ⟨h.len, h.d, fun r hr => let ⟨C, h1, h2, h3⟩ := h.row r hr; ⟨C, h1, h2, fun c hc hkn => by rw [← (hk r c hr hc hkn).2]; exact h3 c hc (hk r c hr hc hkn).1⟩⟩

set_option maxHeartbeats 4000000 in
theorem pure_Common (a b : List Int) (ha : a.length < 2 ^ 30) (hb : b.length < 2 ^ 30) : Pure prog F_parlref4_Common [iD a, iD b] (.lst ((matL (a.length + 1) (b.length + 1) (cG a b)).map iD)) := by
  intro n h
  refine K_parlref4_Common.calls fun hl => ?_
  unfold C_parlref4_Common
  obtain ⟨m, hm⟩ : ∃ m, m = a.length + 1 := ⟨_, rfl⟩
  obtain ⟨cols, hcols⟩ : ∃ cols, cols = b.length + 1 := ⟨_, rfl⟩
  rw [← hm, ← hcols]
  have wm : IntKind.i64.wrap ((a.length : Int) + 1) = (m : Int) := by rw [IntWalk.i64_in _ (by omega)]; omega
  have wc : IntKind.i64.wrap ((b.length : Int) + 1) = (cols : Int) := by rw [IntWalk.i64_in _ (by omega)]; omega
  have m0 : (0 : Int) ≤ (m : Int) := by omega
  have c0 : (0 : Int) ≤ (cols : Int) := by omega
  have mf : (m : Int) * ((24 : Nat) : Int) ≤ 140737488355328 := by omega
  have cf : (cols : Int) * ((8 : Nat) : Int) ≤ 140737488355328 := by omega
  have mx : (m : Int) ≤ 9223372036854775807 := by omega
  have cx : (cols : Int) ≤ 9223372036854775807 := by omega
  simp -implicitDefEqProofs only [↓symPre, symPost, y_condP, y_condG, run, lver, minD, intsD, eqAll, tupD, splice, Nat.zero_add, Nat.add_zero, Nat.zero_mul, Nat.mul_one, Nat.one_mul, Nat.reduceAdd, Nat.reduceSub, Nat.reduceMul, Nat.reduceLT, Nat.reduceLeDiff, Nat.reduceEqDiff, true_and, and_true, true_implies, if_true, if_false, ite_true, reduceIte, ne_eq, not_false_eq_true, reduceCtorEq, forall_const, bne_self_eq_false, Bool.true_eq_false, Bool.false_eq_true, false_implies, and_self, implies_true, Int.toNat_zero, beq_self_eq_true, decide_true, decide_false, Bool.not_true, Bool.not_false, ↓y_call, List.length_map, wm, m0, mf, mx, Int.le_refl, Int.toNat_natCast, flat_rep]
  refine aloop (fun i : Nat => St.mk n ([iD a, iD b, .top, .top, .top, .ref 1 (n + 12) 1 0 m] ++ List.replicate 7 .top ++ [.ref 1 (n + 12) 1 0 m, .int .i64 m, .int .i64 i] ++ List.replicate 81 .top) h (matI 97 n m cols i))
    (fun i => i ≤ m) (fun i => m - i) 0 (Nat.zero_le _) ?_ ?_
  · refine le_start (T := 97) (by omega) ?_
    simp only [List.replicate, List.cons_append, List.nil_append, tops_top, tops_same, tops_nil, Int.cast_ofNat_Int]
  · intro i hi
    by_cases hlt : i < m
    · have h1 : (i : Int) < (m : Int) := by omega
      have h0 : (0 : Int) ≤ (i : Int) := by omega
      have w1 : IntKind.i64.wrap ((i : Int) + 1) = ((i + 1 : Nat) : Int) := by rw [IntWalk.i64_in _ (by omega)]; omega
      have g12 : (matI 97 n m cols i).getD 12 blk0 = ⟨1, .cells (refsI 97 n m cols i)⟩ := by rw [matI_getD (by omega), matB, if_pos rfl]
      have g23 : (matI 97 n m cols i).getD 23 blk0 = blk0 := by rw [matI_getD (by omega), matB, if_neg (by omega), if_neg (by omega)]
      have g12' : ∀ x, ((matI 97 n m cols i).set 23 x).getD 12 blk0 = ⟨1, .cells (refsI 97 n m cols i)⟩ := fun x => by rw [List.getD, List.getElem?_set_ne (by omega)]; exact g12
      have gl : (matI 97 n m cols i).length = 97 + m := matI_len ..
      have gr : (refsI 97 n m cols i).length = m := refsI_len ..
      have fin := fun (sl sl' : List D) => le_row (T := 97) (n := n) (cols := cols) (h := h) (sl := sl) (sl' := sl') hl (by omega) hlt
      generalize matI 97 n m cols i = L at *
      generalize refsI 97 n m cols i = R at *
      simp -implicitDefEqProofs only [↓symPre, symPost, y_condP, y_condG, run, lver, minD, intsD, eqAll, tupD, splice, Nat.zero_add, Nat.add_zero, Nat.zero_mul, Nat.mul_one, Nat.one_mul, Nat.reduceAdd, Nat.reduceSub, Nat.reduceMul, Nat.reduceLT, Nat.reduceLeDiff, Nat.reduceEqDiff, true_and, and_true, true_implies, if_true, if_false, ite_true, reduceIte, ne_eq, not_false_eq_true, reduceCtorEq, forall_const, bne_self_eq_false, Bool.true_eq_false, Bool.false_eq_true, false_implies, and_self, implies_true, Int.toNat_zero, beq_self_eq_true, decide_true, decide_false, Bool.not_true, Bool.not_false, ↓y_call, List.length_map, h1, h0, decide_true, Int.toNat_natCast, wc, c0, cf, cx, w1, Int.le_refl, flat_rep, g12, g12', g23, gl, gr, hlt]
      refine ⟨by omega, by omega, i + 1, by omega, by omega, fin _ _ ?_⟩
      repeat (first | rw [slk_top] | refine slk_mat ?_ | refine slk_low (by first | exact low_ints _ _ | exact Bd.int _ _) ?_)
      exact trivial
    · have h1 : ¬ (i : Int) < (m : Int) := by omega
      obtain rfl : i = m := by omega
      have g12 : (matI 97 n i cols i).getD 12 blk0 = ⟨1, .cells (refsI 97 n i cols i)⟩ := by rw [matI_getD (by omega), matB, if_pos rfl]
      have wa1 : IntKind.i64.wrap ((a.length : Int) - 1) = (a.length : Int) - 1 := IntWalk.i64_in _ (by omega)
      simp -implicitDefEqProofs only [↓symPre, symPost, y_condP, y_condG, run, lver, minD, intsD, eqAll, tupD, splice, Nat.zero_add, Nat.add_zero, Nat.zero_mul, Nat.mul_one, Nat.one_mul, Nat.reduceAdd, Nat.reduceSub, Nat.reduceMul, Nat.reduceLT, Nat.reduceLeDiff, Nat.reduceEqDiff, true_and, and_true, true_implies, if_true, if_false, ite_true, reduceIte, ne_eq, not_false_eq_true, reduceCtorEq, forall_const, bne_self_eq_false, Bool.true_eq_false, Bool.false_eq_true, false_implies, and_self, implies_true, Int.toNat_zero, beq_self_eq_true, decide_true, decide_false, Bool.not_true, Bool.not_false, ↓y_call, List.length_map, h1, decide_false, g12, wa1]
      refine aloop (fun p : Nat × List Blk => St.mk n ([iD a, iD b, .top, .top, .top, .ref 1 (n + 12) 1 0 i, .top, .int .i64 ((p.1 : Int) - 1)] ++ List.replicate 89 .top) h p.2)
        (fun p => p.1 ≤ a.length ∧ Mat 97 n i cols (fun r c => p.1 ≤ r ∨ b.length ≤ c) (cG a b) p.2) (fun p => p.1) (a.length, matI 97 n i cols i) ⟨Nat.le_refl _, Mat.start (by omega) (fun r c h => by
          rcases h with h | h
          · rw [cG, List.drop_eq_nil_of_le h, cE_nil]
          · rw [cG, List.drop_eq_nil_of_le h, cE_nil2])⟩ ?_ ?_
      · refine le_tops ?_
        simp only [List.replicate, List.cons_append, List.nil_append, tops_top, tops_same, tops_nil, Int.cast_ofNat_Int]
      · rintro ⟨q, L⟩ ⟨hq, hL⟩
        simp only at hq hL
        cases q with
        | zero =>
          have hg : decide (((0 : Nat) : Int) - 1 ≥ 0) = false := rfl
          simp -implicitDefEqProofs only [↓symPre, symPost, y_condP, y_condG, run, lver, minD, intsD, eqAll, tupD, splice, Nat.zero_add, Nat.add_zero, Nat.zero_mul, Nat.mul_one, Nat.one_mul, Nat.reduceAdd, Nat.reduceSub, Nat.reduceMul, Nat.reduceLT, Nat.reduceLeDiff, Nat.reduceEqDiff, true_and, and_true, true_implies, if_true, if_false, ite_true, reduceIte, ne_eq, not_false_eq_true, reduceCtorEq, forall_const, bne_self_eq_false, Bool.true_eq_false, Bool.false_eq_true, false_implies, and_self, implies_true, Int.toNat_zero, beq_self_eq_true, decide_true, decide_false, Bool.not_true, Bool.not_false, ↓y_call, hg]
          exact fin_wk hl ((hL.mono fun r c _ _ _ => .inl (Nat.zero_le _)).wk (by omega)) ⟨rfl, rfl, rfl⟩
        | succ q =>
          have hqq : (((q + 1 : Nat) : Int) - 1) = (q : Int) := by omega
          have hg : decide ((q : Int) ≥ 0) = true := by simp
          have wb1 : IntKind.i64.wrap ((b.length : Int) - 1) = (b.length : Int) - 1 := IntWalk.i64_in _ (by omega)
          simp -implicitDefEqProofs only [↓symPre, symPost, y_condP, y_condG, run, lver, minD, intsD, eqAll, tupD, splice, Nat.zero_add, Nat.add_zero, Nat.zero_mul, Nat.mul_one, Nat.one_mul, Nat.reduceAdd, Nat.reduceSub, Nat.reduceMul, Nat.reduceLT, Nat.reduceLeDiff, Nat.reduceEqDiff, true_and, and_true, true_implies, if_true, if_false, ite_true, reduceIte, ne_eq, not_false_eq_true, reduceCtorEq, forall_const, bne_self_eq_false, Bool.true_eq_false, Bool.false_eq_true, false_implies, and_self, implies_true, Int.toNat_zero, beq_self_eq_true, decide_true, decide_false, Bool.not_true, Bool.not_false, ↓y_call, hqq, hg, List.length_map, wb1]
          refine aloop (fun p : Nat × List Blk => St.mk n ([iD a, iD b, .top, .top, .top, .ref 1 (n + 12) 1 0 i, .top, .int .i64 q, .int .i64 ((p.1 : Int) - 1)] ++ List.replicate 88 .top) h p.2)
            (fun p => p.1 ≤ b.length ∧ Mat 97 n i cols (fun r c => q < r ∨ b.length ≤ c ∨ (r = q ∧ p.1 ≤ c)) (cG a b) p.2) (fun p => p.1) (b.length, L) ⟨Nat.le_refl _, hL.mono (fun r c _ _ h2 => by simp only at h2; omega)⟩ ?_ ?_
          · refine le_tops ?_
            simp only [List.replicate, List.cons_append, List.nil_append, tops_top, tops_same, tops_nil, Int.cast_ofNat_Int]
          · rintro ⟨p, L⟩ ⟨hp, hL⟩
            simp only at hp hL
            cases p with
            | zero =>
              have hg : decide (((0 : Nat) : Int) - 1 ≥ 0) = false := rfl
              have w5 : IntKind.i64.wrap ((q : Int) - 1) = (q : Int) - 1 := IntWalk.i64_in _ (by omega)
              simp -implicitDefEqProofs only [↓symPre, symPost, y_condP, y_condG, run, lver, minD, intsD, eqAll, tupD, splice, Nat.zero_add, Nat.add_zero, Nat.zero_mul, Nat.mul_one, Nat.one_mul, Nat.reduceAdd, Nat.reduceSub, Nat.reduceMul, Nat.reduceLT, Nat.reduceLeDiff, Nat.reduceEqDiff, true_and, and_true, true_implies, if_true, if_false, ite_true, reduceIte, ne_eq, not_false_eq_true, reduceCtorEq, forall_const, bne_self_eq_false, Bool.true_eq_false, Bool.false_eq_true, false_implies, and_self, implies_true, Int.toNat_zero, beq_self_eq_true, decide_true, decide_false, Bool.not_true, Bool.not_false, ↓y_call, hg, w5]
              refine ⟨(q, L), ⟨by simp only; omega, hL.mono fun r c _ _ h => by simp only at h; omega⟩, by simp only; omega, le_tops ?_⟩
              simp only [List.replicate, List.cons_append, List.nil_append, tops_top, tops_same, tops_nil, Int.cast_ofNat_Int]
            | succ j =>
              have hpp : (((j + 1 : Nat) : Int) - 1) = (j : Int) := by omega
              have hg : decide ((j : Int) ≥ 0) = true := by simp
              have w5 : IntKind.i64.wrap ((j : Int) - 1) = (j : Int) - 1 := IntWalk.i64_in _ (by omega)
              have q0 : (0 : Int) ≤ (q : Int) := by omega
              have q1 : (q : Int) < (i : Int) := by omega
              have j0 : (0 : Int) ≤ (j : Int) := by omega
              have j1 : (j : Int) < (cols : Int) := by omega
              obtain ⟨R, gR, gRl, gRn⟩ := hL.d
              obtain ⟨C, gC, gCl, gCn⟩ := hL.row q (by omega)
              have gRq := gRn q (by omega)
              have gll := hL.len
              have qb : q < i := by omega
              have jb : j < cols := by omega
              have hqa : q < a.length := by omega
              have hjb : j < b.length := by omega
              have e0 := nth_ints a q hqa
              have e1 := nth_ints b j hjb
              have q2 : (q : Int) < (a.length : Int) := by omega
              have j2 : (j : Int) < (b.length : Int) := by omega
              have wq1 : IntKind.i64.wrap ((q : Int) + 1) = ((q + 1 : Nat) : Int) := by rw [IntWalk.i64_in _ (by omega)]; omega
              have wj1 : IntKind.i64.wrap ((j : Int) + 1) = ((j + 1 : Nat) : Int) := by rw [IntWalk.i64_in _ (by omega)]; omega
              have q3 : (0 : Int) ≤ ((q + 1 : Nat) : Int) := by omega
              have q4 : ((q + 1 : Nat) : Int) < (i : Int) := by omega
              have j3 : (0 : Int) ≤ ((j + 1 : Nat) : Int) := by omega
              have j4 : ((j + 1 : Nat) : Int) < (cols : Int) := by omega
              have qb1 : q + 1 < i := by omega
              have jb1 : j + 1 < cols := by omega
              obtain ⟨C1, gC1, gC1l, gC1n⟩ := hL.row (q + 1) (by omega)
              have gRq1 := gRn (q + 1) (by omega)
              have n1 := gC1n j (by omega) (.inl (by omega))
              have n2 := gC1n (j + 1) (by omega) (.inl (by omega))
              have n3 := gCn (j + 1) (by omega) (.inr (.inr ⟨rfl, by omega⟩))
              have r1 := cE_range (a.drop (q + 1)) (b.drop j)
              have r2 := cE_range (a.drop (q + 1)) (b.drop (j + 1))
              have r3 := cE_range (a.drop q) (b.drop (j + 1))
              have hval : cG a b q j = if a[q] = b[j] then max (max (cG a b (q + 1) j) (cG a b q (j + 1))) (cG a b (q + 1) (j + 1) + 1) else max (cG a b (q + 1) j) (cG a b q (j + 1)) := by
                unfold cG
                conv => lhs; rw [List.drop_eq_getElem_cons hqa, List.drop_eq_getElem_cons hjb]
                rw [cE_cons, ← List.drop_eq_getElem_cons hqa, ← List.drop_eq_getElem_cons hjb]
              simp only [List.length_drop] at r1 r2 r3
              have hmax : (if cG a b q (j + 1) > cG a b (q + 1) j then cG a b q (j + 1) else cG a b (q + 1) j) = max (cG a b (q + 1) j) (cG a b q (j + 1)) := by rw [Int.max_def]; split <;> split <;> omega
              have r4 : 0 ≤ max (cG a b (q + 1) j) (cG a b q (j + 1)) ∧ max (cG a b (q + 1) j) (cG a b q (j + 1)) ≤ a.length := by unfold cG; omega
              have hL1 : Mat 97 n i cols (fun r c => q < r ∨ b.length ≤ c ∨ (r = q ∧ j ≤ c)) (fun r c => if r = q ∧ c = j then max (cG a b (q + 1) j) (cG a b q (j + 1)) else cG a b r c) (L.set (97 + q) ⟨1, .cells (C.take j ++ [.int .i64 (max (cG a b (q + 1) j) (cG a b q (j + 1)))] ++ C.drop (j + 1))⟩) := by
                refine (hL.mono2 (Kn' := fun r c => (q < r ∨ b.length ≤ c ∨ (r = q ∧ j + 1 ≤ c)) ∧ ¬ (r = q ∧ c = j)) fun r c _ _ h => ⟨h.1, (if_neg h.2).symm⟩).put (by omega) (by omega) (by omega) gC (by rw [if_pos ⟨rfl, rfl⟩]) fun r' c' _ _ h => ?_
                by_cases hh : r' = q ∧ c' = j
                · exact .inl hh
                · exact .inr ⟨by omega, hh⟩
              unfold cG at n1 n2 n3 hmax r4 hL1 hval
              generalize hx : cE (a.drop (q + 1)) (b.drop (j + 1)) = x at n2 r2 hval
              generalize cE (a.drop (q + 1)) (b.drop j) = y at *
              generalize cE (a.drop q) (b.drop (j + 1)) = z at *
              generalize max y z = M at *
              simp -implicitDefEqProofs only [↓symPre, symPost, y_condP, y_condG, run, lver, minD, intsD, eqAll, tupD, splice, Nat.zero_add, Nat.add_zero, Nat.zero_mul, Nat.mul_one, Nat.one_mul, Nat.reduceAdd, Nat.reduceSub, Nat.reduceMul, Nat.reduceLT, Nat.reduceLeDiff, Nat.reduceEqDiff, true_and, and_true, true_implies, if_true, if_false, ite_true, reduceIte, ne_eq, not_false_eq_true, reduceCtorEq, forall_const, bne_self_eq_false, Bool.true_eq_false, Bool.false_eq_true, false_implies, and_self, implies_true, Int.toNat_zero, beq_self_eq_true, decide_true, decide_false, Bool.not_true, Bool.not_false, ↓y_call, hpp, hg]
              refine adrawq hmix (List.replicate 23 [] ++ [[n + (97 + q)]]) ?_
              simp (maxSteps := 400000) -implicitDefEqProofs only [↓symPre, symPost, y_condP, y_condG, run, lver, minD, intsD, eqAll, tupD, splice, Nat.zero_add, Nat.add_zero, Nat.zero_mul, Nat.mul_one, Nat.one_mul, Nat.reduceAdd, Nat.reduceSub, Nat.reduceMul, Nat.reduceLT, Nat.reduceLeDiff, Nat.reduceEqDiff, true_and, and_true, true_implies, if_true, if_false, ite_true, reduceIte, ne_eq, not_false_eq_true, reduceCtorEq, forall_const, bne_self_eq_false, Bool.true_eq_false, Bool.false_eq_true, false_implies, and_self, implies_true, Int.toNat_zero, beq_self_eq_true, decide_true, decide_false, Bool.not_true, Bool.not_false, ↓y_call, ↓drawPre, ↓y_adq_onS, drawPost, isCall, isNew, isEff, Option.toList, or_false, false_or, cond_true, cond_false, not_true_eq_false, or_true, true_or, Nat.add_left_cancel_iff, Bool.false_eq_true, List.length_map, gR, gC, gC1, gRq, gRq1, gRl, gCl, gC1l, n1, n2, n3, q0, q1, q3, q4, j0, j1, j3, j4, qb, jb, qb1, jb1, wq1, wj1, hmax, Int.toNat_natCast, List.foldl_cons, List.foldl_nil, List.replicate, List.cons_append, List.nil_append, List.getD_cons_succ, List.getD_cons_zero]
              refine ⟨by rintro c rfl; rfl, by omega, ?_⟩
              have n5G : cE (a.drop (q + 1)) (b.drop (j + 1)) = x := hx
              generalize L.set (97 + q) ⟨1, .cells (C.take j ++ [.int .i64 M] ++ C.drop (j + 1))⟩ = L1 at hL1 ⊢
              obtain ⟨R', gR', gRl', gRn'⟩ := hL1.d
              have gRq' := gRn' q (by omega)
              have gRq1' := gRn' (q + 1) (by omega)
              obtain ⟨D0, gD, gDl, gDn⟩ := hL1.row q (by omega)
              have n4 := gDn j (by omega) (.inr (.inr ⟨rfl, Nat.le_refl _⟩))
              rw [if_pos ⟨rfl, rfl⟩] at n4
              obtain ⟨D1, gD1, gD1l, gD1n⟩ := hL1.row (q + 1) (by omega)
              have n5 := gD1n (j + 1) (by omega) (.inl (by omega))
              rw [if_neg (by omega), n5G] at n5
              by_cases cC : a[q] = b[j]
              · have bC : (a[q] == b[j]) = true := by simp [cC]
                rw [if_pos cC] at hval
                have u1 : IntKind.i64.wrap (x + 1) = x + 1 := IntWalk.i64_in _ (by omega)
                have hmax2 : (if x + 1 > M then x + 1 else M) = max M (x + 1) := by rw [Int.max_def]; split <;> split <;> omega
                refine adrawq hmix [] ?_
                simp (maxSteps := 400000) -implicitDefEqProofs only [↓symPre, symPost, y_condP, y_condG, run, lver, minD, intsD, eqAll, tupD, splice, Nat.zero_add, Nat.add_zero, Nat.zero_mul, Nat.mul_one, Nat.one_mul, Nat.reduceAdd, Nat.reduceSub, Nat.reduceMul, Nat.reduceLT, Nat.reduceLeDiff, Nat.reduceEqDiff, true_and, and_true, true_implies, if_true, if_false, ite_true, reduceIte, ne_eq, not_false_eq_true, reduceCtorEq, forall_const, bne_self_eq_false, Bool.true_eq_false, Bool.false_eq_true, false_implies, and_self, implies_true, Int.toNat_zero, beq_self_eq_true, decide_true, decide_false, Bool.not_true, Bool.not_false, ↓y_call, ↓drawPre, ↓y_adq_onS, drawPost, isCall, isNew, isEff, Option.toList, or_false, false_or, cond_true, cond_false, not_true_eq_false, or_true, true_or, Nat.add_left_cancel_iff, Bool.false_eq_true, List.length_map, q0, q2, j0, j2, Int.toNat_natCast, e0, e1, bC]
                refine adrawq hmix (List.replicate 24 [] ++ [[n + (97 + q)]]) ?_
                simp (maxSteps := 400000) -implicitDefEqProofs only [↓symPre, symPost, y_condP, y_condG, run, lver, minD, intsD, eqAll, tupD, splice, Nat.zero_add, Nat.add_zero, Nat.zero_mul, Nat.mul_one, Nat.one_mul, Nat.reduceAdd, Nat.reduceSub, Nat.reduceMul, Nat.reduceLT, Nat.reduceLeDiff, Nat.reduceEqDiff, true_and, and_true, true_implies, if_true, if_false, ite_true, reduceIte, ne_eq, not_false_eq_true, reduceCtorEq, forall_const, bne_self_eq_false, Bool.true_eq_false, Bool.false_eq_true, false_implies, and_self, implies_true, Int.toNat_zero, beq_self_eq_true, decide_true, decide_false, Bool.not_true, Bool.not_false, ↓y_call, ↓drawPre, ↓y_adq_onS, drawPost, isCall, isNew, isEff, Option.toList, or_false, false_or, cond_true, cond_false, not_true_eq_false, or_true, true_or, Nat.add_left_cancel_iff, Bool.false_eq_true, List.length_map, gR', gD, gD1, gRq', gRq1', gRl', gDl, gD1l, n4, n5, q0, q1, q3, q4, j0, j1, j3, j4, qb, jb, qb1, jb1, wq1, wj1, w5, u1, hmax2, Int.toNat_natCast, List.foldl_cons, List.foldl_nil, List.replicate, List.cons_append, List.nil_append, List.getD_cons_succ, List.getD_cons_zero]
                refine ⟨by rintro c rfl; rfl, by omega, (j, _), ⟨by simp only; omega, ?_⟩, by simp only; omega, le_tops ?_⟩
                rotate_left
                · simp only [List.replicate, List.cons_append, List.nil_append, tops_top, tops_same, tops_nil, Int.cast_ofNat_Int]
                · refine (hL1.mono2 (Kn' := fun r c => (q < r ∨ b.length ≤ c ∨ (r = q ∧ j + 1 ≤ c)) ∧ ¬ (r = q ∧ c = j)) (G' := cG a b) fun r c _ _ h => ⟨by omega, if_neg h.2⟩).put (by omega) (by omega) (by omega) gD hval.symm fun r' c' _ _ h => ?_
                  by_cases hh : r' = q ∧ c' = j
                  · exact .inl hh
                  · exact .inr ⟨by omega, hh⟩
              · have bC : (a[q] == b[j]) = false := by simp [cC]
                rw [if_neg cC] at hval
                refine adrawq hmix [] ?_
                simp (maxSteps := 400000) -implicitDefEqProofs only [↓symPre, symPost, y_condP, y_condG, run, lver, minD, intsD, eqAll, tupD, splice, Nat.zero_add, Nat.add_zero, Nat.zero_mul, Nat.mul_one, Nat.one_mul, Nat.reduceAdd, Nat.reduceSub, Nat.reduceMul, Nat.reduceLT, Nat.reduceLeDiff, Nat.reduceEqDiff, true_and, and_true, true_implies, if_true, if_false, ite_true, reduceIte, ne_eq, not_false_eq_true, reduceCtorEq, forall_const, bne_self_eq_false, Bool.true_eq_false, Bool.false_eq_true, false_implies, and_self, implies_true, Int.toNat_zero, beq_self_eq_true, decide_true, decide_false, Bool.not_true, Bool.not_false, ↓y_call, ↓drawPre, ↓y_adq_onS, drawPost, isCall, isNew, isEff, Option.toList, or_false, false_or, cond_true, cond_false, not_true_eq_false, or_true, true_or, Nat.add_left_cancel_iff, Bool.false_eq_true, List.length_map, q0, q2, j0, j2, Int.toNat_natCast, e0, e1, bC, w5]
                refine ⟨(j, L1), ⟨by simp only; omega, ?_⟩, by simp only; omega, le_tops ?_⟩
                rotate_left
                · simp only [List.replicate, List.cons_append, List.nil_append, tops_top, tops_same, tops_nil, Int.cast_ofNat_Int]
                · refine hL1.mono2 (G' := cG a b) fun r c _ _ h => ⟨h, ?_⟩
                  by_cases hh : r = q ∧ c = j
                  · rw [if_pos hh, hh.1, hh.2]; exact hval.symm
                  · rw [if_neg hh]

end Abs
end Go.Proofs.Ytfojedaccfenfab

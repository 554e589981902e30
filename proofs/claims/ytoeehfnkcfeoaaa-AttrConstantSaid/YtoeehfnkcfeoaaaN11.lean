/- constant; Refs of what mentions nothing; System. -/
import Derived.Test.YtoeehfnkcfeoaaaN8
import Derived.Test.YtoeehfnkcfeoaaaN9
import Derived.Test.YtoeehfnkcfeoaaaN1
namespace Go.Proofs.Ytoeehfnkcfeoaaa
namespace Abs
set_option linter.unusedVariables false
set_option linter.unusedSimpArgs false
set_option maxRecDepth 20000

/-- a call that changes nothing, in a draw -/
theorem ACalls.noneD {P : Program} {f : FuncId} {ds : List D} {r : D} {V : St} {args : List Opd} {dst : Option Nat} {g : AGuard} (ha : args.map V.val = ds)
    (hp : ∀ s, Sub s V [] → ACalls P f ds (V.n + V.lc.length) s.hp fun d h' x' => x' = [] ∧ h' = s.hp ∧ d = r) :
    stepV P ⟨dst, .call f args, g⟩ V fun d' δ' => d' = r ∧ δ' = [] := by
  intro s hs
  rw [ha]
  exact (hp s hs).mono fun d h' x' ⟨h1, h2, h3⟩ => .inl ⟨[], by simp [St.inr], h1, by rw [h2]; rfl, h3, rfl⟩

/-! ### constant -/
def conE (f : Int → Int → Int) : Ex → Ex
  | .mk k n a r xs => if k = 1 then .mk 0 (f a r) 0 0 [] else .mk k n a r (xs.map (conE f))
theorem conE_mk (f : Int → Int → Int) (k n a r : Int) (xs : List Ex) : conE f (.mk k n a r xs) = if k = 1 then .mk 0 (f a r) 0 0 [] else .mk k n a r (xs.map (conE f)) := by rw [conE]

set_option maxHeartbeats 4000000 in
theorem at_constant (f : Int → Int → Int) (F : FuncId) (cs : List D) : ∀ (x : Ex), sz x < 2 ^ 30 → ∀ (n : Nat) (h : Heap), (∀ c ∈ cs, Low n c) → Gets n h F cs f →
    ACalls prog F_parlkeep4_constant [exD x, .fn F cs] n h fun d h' y => y = [] ∧ h' = h ∧ d = exD (conE f x)
  | .mk k nn a r xs, hsz, n, h, hcs, hg => by
    have hszm := sz_mk k nn a r xs
    have hkl := len_le_sz xs
    have hrec := fun y (hy : y ∈ xs) (m : Nat) (H : Heap) => at_constant f F cs y (by have := sz_mem hy; omega) m H
    rw [conE_mk, exD_mk]
    refine K_parlkeep4_constant.calls fun hl => ?_
    unfold C_parlkeep4_constant
    have lowF : Low n (.fn F cs) := .fn _ _ hcs
    have hlx := low_exs n xs
    by_cases k1 : k = 1
    · have b1 : (k == 1) = true := by simp [k1]
      rw [if_pos k1, exD_mk, List.map_nil]
      simp -implicitDefEqProofs only [↓symPre, symPost, y_condP, y_condG, run, lver, minD, intsD, eqAll, tupD, splice, Nat.zero_add, Nat.add_zero, Nat.zero_mul, Nat.mul_one, Nat.one_mul, Nat.reduceAdd, Nat.reduceSub, Nat.reduceMul, Nat.reduceLT, Nat.reduceLeDiff, Nat.reduceEqDiff, true_and, and_true, true_implies, if_true, if_false, ite_true, reduceIte, ne_eq, not_false_eq_true, reduceCtorEq, forall_const, bne_self_eq_false, Bool.true_eq_false, Bool.false_eq_true, false_implies, and_self, implies_true, Int.toNat_zero, beq_self_eq_true, decide_true, decide_false, Bool.not_true, Bool.not_false, ↓y_lookv, y_key1, y_mlook, y_mlookn, y_mres1, y_mres0, ↓y_call, List.length_map, b1, ↓y_callv]
      refine (hg a r (n + 40) _ (by omega) Keeps.mrg).mono fun d h' x ⟨hx, hh, hd⟩ => .inl ⟨[], by simp [St.inr], hx, by rw [hh]; rfl, ?_⟩
      subst hd
      simp -implicitDefEqProofs only [↓symPre, symPost, y_condP, y_condG, run, lver, minD, intsD, eqAll, tupD, splice, Nat.zero_add, Nat.add_zero, Nat.zero_mul, Nat.mul_one, Nat.one_mul, Nat.reduceAdd, Nat.reduceSub, Nat.reduceMul, Nat.reduceLT, Nat.reduceLeDiff, Nat.reduceEqDiff, true_and, and_true, true_implies, if_true, if_false, ite_true, reduceIte, ne_eq, not_false_eq_true, reduceCtorEq, forall_const, bne_self_eq_false, Bool.true_eq_false, Bool.false_eq_true, false_implies, and_self, implies_true, Int.toNat_zero, beq_self_eq_true, decide_true, decide_false, Bool.not_true, Bool.not_false, ↓y_lookv, y_key1, y_mlook, y_mlookn, y_mres1, y_mres0, ↓y_call]
      exact fin_wk (d := .agg [.int .i64 0, .int .i64 (f a r), .int .i64 0, .int .i64 0, .lst []]) hl (wk_agg5 (y_wkl (wk_int rfl) (y_wkl (wk_int rfl) (y_wkl (wk_int rfl) (y_wkl (wk_int rfl) (y_wkl .nilsLst trivial)))))) ⟨rfl, rfl, rfl⟩
    have b1 : (k == 1) = false := by simp [k1]
    rw [if_neg k1, exD_mk]
    simp -implicitDefEqProofs only [↓symPre, symPost, y_condP, y_condG, run, lver, minD, intsD, eqAll, tupD, splice, Nat.zero_add, Nat.add_zero, Nat.zero_mul, Nat.mul_one, Nat.one_mul, Nat.reduceAdd, Nat.reduceSub, Nat.reduceMul, Nat.reduceLT, Nat.reduceLeDiff, Nat.reduceEqDiff, true_and, and_true, true_implies, if_true, if_false, ite_true, reduceIte, ne_eq, not_false_eq_true, reduceCtorEq, forall_const, bne_self_eq_false, Bool.true_eq_false, Bool.false_eq_true, false_implies, and_self, implies_true, Int.toNat_zero, beq_self_eq_true, decide_true, decide_false, Bool.not_true, Bool.not_false, ↓y_lookv, y_key1, y_mlook, y_mlookn, y_mres1, y_mres0, ↓y_call, List.length_map, b1]
    refine aloop (fun p : Nat × Nat => St.mk n ([.top, .fn F cs, .top, .top, .ptr (n + 4) 1 0, .ptr (n + 5) 1 0] ++ List.replicate 18 .top ++ [.lst (xs.map exD), .int .i64 xs.length, .int .i64 p.1] ++ List.replicate 13 .top) h
        (List.replicate 4 blk0 ++ [⟨1, .cells [.int .i64 0, .int .i64 0, .int .i64 0, .int .i64 0, .nils]⟩, ⟨1, .cells [.int .i64 k, .int .i64 nn, .int .i64 a, .int .i64 r, .ref 5 (n + 36) p.2 0 p.1]⟩] ++ List.replicate 30 blk0 ++ [⟨p.2, .cells (cellsF exD ((xs.take p.1).map (conE f)))⟩] ++ List.replicate 3 blk0))
      (fun p => p.1 ≤ xs.length ∧ 1 ≤ p.2) (fun p => xs.length - p.1) (0, 1) ⟨Nat.zero_le _, Nat.le_refl _⟩ ?_ ?_
    · refine le_to (List.replicate 4 .hole ++ [.old 4, .old 5] ++ List.replicate 30 .hole ++ [.nil] ++ List.replicate 3 .hole) hl rfl ?_ ?_ <;> (try simp only [List.take_zero, List.map_nil, cellsF_nil]) <;> ((try simp only [y_blk_end, y_blk_hole, y_blk_nil, y_blk_old, y_wkl_end, y_wkl_top, List.replicate, List.cons_append, List.nil_append, and_true, true_and]) <;> (repeat' (first | apply And.intro | apply y_wkl | refine Exists.intro _ (And.intro rfl ?_))) <;> (try first | exact trivial | exact Wk.top _ | exact wk_int rfl | exact wk_bool rfl | exact wk_ptr rfl rfl rfl rfl | exact wk_ref rfl rfl rfl rfl rfl | exact wk_nil rfl rfl rfl | exact wk_ref rfl rfl rfl rfl (by simp) | exact wk_ref rfl rfl rfl rfl (by simp; omega) | exact wk_old (by assumption) (by simp) | exact wk_eq rfl (by first | exact Bd.int _ _ | exact Bd.bool _ | exact Bd.abool | exact Bd.nils | exact Bd.emp | exact Bd.nilp | exact Bd.nilfn | assumption | exact low_trees _ _ | exact low_treeD _ _ | exact low_ints _ _) | exact Nat.le_refl _ | exact wk_int (by simp) | exact wk_int (by omega) | exact Nat.succ_le_succ (Nat.zero_le _) | exact Nat.le_add_left _ _ | omega))
    · rintro ⟨i, v⟩ ⟨hi, hv⟩
      simp only at hi hv
      by_cases hlt : i < xs.length
      · have f1 : (i : Int) < (xs.length : Int) := by omega
        have f0 : (0 : Int) ≤ (i : Int) := by omega
        have w1 : IntKind.i64.wrap ((i : Int) + 1) = ((i + 1 : Nat) : Int) := by rw [IntWalk.i64_in _ (by omega)]; omega
        have e0 := nth_exs xs i hlt
        have hT : (xs.take (i + 1)).map (conE f) = (xs.take i).map (conE f) ++ [conE f xs[i]] := by
          rw [List.take_succ_eq_append_getElem hlt, List.map_append]; rfl
        have hc1 := hrec xs[i] (List.getElem_mem hlt) (n + 40)
        have hTl : ((xs.take i).map (conE f)).length = i := by simp; omega
        generalize (xs.take i).map (conE f) = T at *
        have hEl : (cellsF exD T).length = i * 5 := by rw [cellsF_len exD exD_cells, hTl]
        have hEt := take_all (cellsF exD T) (k := i * 5) (by rw [hEl])
        have hEf : i * 5 ≤ (cellsF exD T).length := by omega
        have hf : (i + 1) * 56 ≤ 140737488355328 := by omega
        have hlT := low_cellsF exD (low_exD n) T
        generalize hcy : conE f xs[i] = cy at *
        generalize hyy : xs[i] = y at *
        obtain ⟨yk, yn, ya, yr, ys⟩ := y
        obtain ⟨ck, cn, ca, cr, cx⟩ := cy
        have hly := low_exs n ys
        have hlc := low_exs n cx
        rw [exD_mk] at e0
        simp only [exD_mk] at hc1
        simp -implicitDefEqProofs only [↓symPre, symPost, y_condP, y_condG, run, lver, minD, intsD, eqAll, tupD, splice, Nat.zero_add, Nat.add_zero, Nat.zero_mul, Nat.mul_one, Nat.one_mul, Nat.reduceAdd, Nat.reduceSub, Nat.reduceMul, Nat.reduceLT, Nat.reduceLeDiff, Nat.reduceEqDiff, true_and, and_true, true_implies, if_true, if_false, ite_true, reduceIte, ne_eq, not_false_eq_true, reduceCtorEq, forall_const, bne_self_eq_false, Bool.true_eq_false, Bool.false_eq_true, false_implies, and_self, implies_true, Int.toNat_zero, beq_self_eq_true, decide_true, decide_false, Bool.not_true, Bool.not_false, ↓y_lookv, y_key1, y_mlook, y_mlookn, y_mres1, y_mres0, ↓y_call, f1, f0, decide_true, List.length_map, Int.toNat_natCast, e0]
        refine adrawq hmix [[], [], [], [], [], [], [], [], [n + 5]] ?_
        simp (maxSteps := 400000) -implicitDefEqProofs only [↓symPre, symPost, y_condP, y_condG, run, lver, minD, intsD, eqAll, tupD, splice, Nat.zero_add, Nat.add_zero, Nat.zero_mul, Nat.mul_one, Nat.one_mul, Nat.reduceAdd, Nat.reduceSub, Nat.reduceMul, Nat.reduceLT, Nat.reduceLeDiff, Nat.reduceEqDiff, true_and, and_true, true_implies, if_true, if_false, ite_true, reduceIte, ne_eq, not_false_eq_true, reduceCtorEq, forall_const, bne_self_eq_false, Bool.true_eq_false, Bool.false_eq_true, false_implies, and_self, implies_true, Int.toNat_zero, beq_self_eq_true, decide_true, decide_false, Bool.not_true, Bool.not_false, ↓y_lookv, y_key1, y_mlook, y_mlookn, y_mres1, y_mres0, ↓y_call, ↓y_adq0, ↓y_adq, ↓y_stepQ_call, ↓y_adq_onT, ↓y_adq_onF, ↓y_adq_onS, drawPost, isCall, isNew, isEff, Option.toList, or_false, false_or, cond_true, cond_false, not_true_eq_false, or_true, true_or, Nat.add_left_cancel_iff, Bool.false_eq_true, ↓y_q0, ↓y_q1, ↓y_q1e, y_qn, isMap, List.flatMap_cons, List.flatMap_nil, List.append_nil, List.getD_cons_succ, List.getD_cons_zero]
        refine ⟨_, _, ACalls.noneD (r := .agg [.int .i64 ck, .int .i64 cn, .int .i64 ca, .int .i64 cr, .lst (cx.map exD)]) rfl ?_, ?_, ?_⟩
        · intro s hs
          exact hc1 _ (fun c hc => (hcs c hc).mono (by omega)) (hg.mono (by omega) fun t ver c ht hc => hs.hp (by show mrg n h _ t = _; rw [mrg_lt ht]; exact hc))
        · exact (by simp [y_cov0, y_cov1, isNew, isEff, Option.toList])
        simp (maxSteps := 400000) -implicitDefEqProofs only [↓symPre, symPost, y_condP, y_condG, run, lver, minD, intsD, eqAll, tupD, splice, Nat.zero_add, Nat.add_zero, Nat.zero_mul, Nat.mul_one, Nat.one_mul, Nat.reduceAdd, Nat.reduceSub, Nat.reduceMul, Nat.reduceLT, Nat.reduceLeDiff, Nat.reduceEqDiff, true_and, and_true, true_implies, if_true, if_false, ite_true, reduceIte, ne_eq, not_false_eq_true, reduceCtorEq, forall_const, bne_self_eq_false, Bool.true_eq_false, Bool.false_eq_true, false_implies, and_self, implies_true, Int.toNat_zero, beq_self_eq_true, decide_true, decide_false, Bool.not_true, Bool.not_false, ↓y_lookv, y_key1, y_mlook, y_mlookn, y_mres1, y_mres0, ↓y_call, ↓y_adq0, ↓y_adq, ↓y_stepQ_call, ↓y_adq_onT, ↓y_adq_onF, ↓y_adq_onS, drawPost, isCall, isNew, isEff, Option.toList, or_false, false_or, cond_true, cond_false, not_true_eq_false, or_true, true_or, Nat.add_left_cancel_iff, Bool.false_eq_true, ↓y_q0, ↓y_q1, ↓y_q1e, y_qn, isMap, List.flatMap_cons, List.flatMap_nil, List.append_nil, List.getD_cons_succ, List.getD_cons_zero, srcOf, Nat.le_refl, hf, hEt, hEf, w1]
        refine ⟨by rintro c (rfl | rfl | rfl | rfl | rfl) <;> rfl, by rintro c rfl; rfl, (i + 1, v + 1), ⟨by simp only; omega, by simp only; omega⟩, by simp only; omega, ?_⟩
        simp only [hT, cellsF_app, cellsF_one, exD_mk, D.cells]
        refine le_to (List.replicate 4 .hole ++ [.old 4, .old 5] ++ List.replicate 30 .hole ++ [.old 36] ++ List.replicate 3 .hole) hl rfl ?_ ?_ <;> ((try simp only [y_blk_end, y_blk_hole, y_blk_nil, y_blk_old, y_wkl_end, y_wkl_top, List.replicate, List.cons_append, List.nil_append, and_true, true_and]) <;> (repeat' (first | apply And.intro | apply y_wkl | refine Exists.intro _ (And.intro rfl ?_))) <;> (try first | exact trivial | exact Wk.top _ | exact wk_int rfl | exact wk_bool rfl | exact wk_ptr rfl rfl rfl rfl | exact wk_ref rfl rfl rfl rfl rfl | exact wk_nil rfl rfl rfl | exact wk_ref rfl rfl rfl rfl (by simp) | exact wk_ref rfl rfl rfl rfl (by simp; omega) | exact wk_old (by assumption) (by simp) | exact wk_eq rfl (by first | exact Bd.int _ _ | exact Bd.bool _ | exact Bd.abool | exact Bd.nils | exact Bd.emp | exact Bd.nilp | exact Bd.nilfn | assumption | exact low_trees _ _ | exact low_treeD _ _ | exact low_ints _ _) | exact Nat.le_refl _ | exact wk_int (by simp) | exact wk_int (by omega) | exact Nat.succ_le_succ (Nat.zero_le _) | exact Nat.le_add_left _ _ | omega))
        all_goals first | exact WkL.app (WkL.low hlT) (y_wkl (wk_int rfl) (y_wkl (wk_int rfl) (y_wkl (wk_int rfl) (y_wkl (wk_int rfl) (y_wkl (wk_eq rfl hlc) trivial))))) | skip
      · have f1 : ¬ (i : Int) < (xs.length : Int) := by omega
        obtain rfl : i = xs.length := by omega
        rw [List.take_length]
        simp -implicitDefEqProofs only [↓symPre, symPost, y_condP, y_condG, run, lver, minD, intsD, eqAll, tupD, splice, Nat.zero_add, Nat.add_zero, Nat.zero_mul, Nat.mul_one, Nat.one_mul, Nat.reduceAdd, Nat.reduceSub, Nat.reduceMul, Nat.reduceLT, Nat.reduceLeDiff, Nat.reduceEqDiff, true_and, and_true, true_implies, if_true, if_false, ite_true, reduceIte, ne_eq, not_false_eq_true, reduceCtorEq, forall_const, bne_self_eq_false, Bool.true_eq_false, Bool.false_eq_true, false_implies, and_self, implies_true, Int.toNat_zero, beq_self_eq_true, decide_true, decide_false, Bool.not_true, Bool.not_false, ↓y_lookv, y_key1, y_mlook, y_mlookn, y_mres1, y_mres0, ↓y_call, f1, decide_false]
        exact fin_wk (d := .agg [.int .i64 k, .int .i64 nn, .int .i64 a, .int .i64 r, .lst ((xs.map (conE f)).map exD)]) hl (wk_agg5 (y_wkl (wk_int rfl) (y_wkl (wk_int rfl) (y_wkl (wk_int rfl) (y_wkl (wk_int rfl) (y_wkl (wk_frzF exD exD_cells (low_exD n) (t := 36) rfl rfl (by simp) (by simp)) trivial)))))) ⟨rfl, rfl, rfl⟩

/-! ### Refs -/
def noV : Ex → Prop
  | .mk k _ _ _ xs => k ≠ 1 ∧ ∀ y ∈ xs, noV y
theorem noV_mk {k n a r : Int} {xs : List Ex} : noV (.mk k n a r xs) ↔ k ≠ 1 ∧ ∀ y ∈ xs, noV y := by rw [noV]
theorem conE_noV (f : Int → Int → Int) : ∀ x : Ex, noV (conE f x)
  | .mk k n a r xs => by
    rw [conE_mk]
    split
    · exact noV_mk.2 ⟨by decide, by simp⟩
    · rename_i h
      refine noV_mk.2 ⟨h, fun y hy => ?_⟩
      obtain ⟨z, hz, rfl⟩ := List.mem_map.1 hy
      exact conE_noV f z
theorem conE_sz (f : Int → Int → Int) : ∀ x : Ex, sz (conE f x) ≤ sz x
  | .mk k n a r xs => by
    rw [conE_mk, sz_mk]
    split
    · simp [sz_mk]
    · rw [sz_mk, List.map_map]
      have h : ∀ l : List Ex, (∀ y ∈ l, sz (conE f y) ≤ sz y) → (l.map (sz ∘ conE f)).sum ≤ (l.map sz).sum := by
        intro l
        induction l with
        | nil => intro _; exact Nat.le_refl _
        | cons y l ih =>
          intro hl
          have h1 := ih fun z hz => hl z (by simp [hz])
          have h2 := hl y (by simp)
          simp only [List.map_cons, List.sum_cons, Function.comp]
          omega
      have := h xs fun y hy => conE_sz f y
      omega

set_option maxHeartbeats 2000000 in
theorem pure_Refs : ∀ (x : Ex), noV x → sz x < 2 ^ 30 → Pure prog F_attr_Refs [exD x] (.lst [])
  | .mk k nn a r xs, hnv, hsz => by
    have hszm := sz_mk k nn a r xs
    have hkl := len_le_sz xs
    have hrec := fun y (hy : y ∈ xs) => pure_Refs y ((noV_mk.1 hnv).2 y hy) (by have := sz_mem hy; omega)
    have b1 : (k == 1) = false := by simpa using (noV_mk.1 hnv).1
    intro n h
    rw [exD_mk]
    refine K_attr_Refs.calls fun hl => ?_
    unfold C_attr_Refs
    have hlx := low_exs n xs
    simp -implicitDefEqProofs only [↓symPre, symPost, y_condP, y_condG, run, lver, minD, intsD, eqAll, tupD, splice, Nat.zero_add, Nat.add_zero, Nat.zero_mul, Nat.mul_one, Nat.one_mul, Nat.reduceAdd, Nat.reduceSub, Nat.reduceMul, Nat.reduceLT, Nat.reduceLeDiff, Nat.reduceEqDiff, true_and, and_true, true_implies, if_true, if_false, ite_true, reduceIte, ne_eq, not_false_eq_true, reduceCtorEq, forall_const, bne_self_eq_false, Bool.true_eq_false, Bool.false_eq_true, false_implies, and_self, implies_true, Int.toNat_zero, beq_self_eq_true, decide_true, decide_false, Bool.not_true, Bool.not_false, ↓y_lookv, y_key1, y_mlook, y_mlookn, y_mres1, y_mres0, ↓y_call, List.length_map, b1]
    refine aloop (fun p : Nat × Nat => St.mk n ([.top, .top, .top, .ref 2 (n + 24) p.2 0 0] ++ List.replicate 11 .top ++ [.lst (xs.map exD), .int .i64 xs.length, .int .i64 p.1] ++ List.replicate 12 .top) h
        (List.replicate 24 blk0 ++ [⟨p.2, .cells []⟩] ++ List.replicate 5 blk0))
      (fun p => p.1 ≤ xs.length ∧ 1 ≤ p.2) (fun p => xs.length - p.1) (0, 1) ⟨Nat.zero_le _, Nat.le_refl _⟩ ?_ ?_
    · refine le_to (List.replicate 24 .hole ++ [.nil] ++ List.replicate 5 .hole) hl rfl ?_ ?_ <;> ((try simp only [y_blk_end, y_blk_hole, y_blk_nil, y_blk_old, y_wkl_end, y_wkl_top, List.replicate, List.cons_append, List.nil_append, and_true, true_and]) <;> (repeat' (first | apply And.intro | apply y_wkl | refine Exists.intro _ (And.intro rfl ?_))) <;> (try first | exact trivial | exact Wk.top _ | exact wk_int rfl | exact wk_bool rfl | exact wk_ptr rfl rfl rfl rfl | exact wk_ref rfl rfl rfl rfl rfl | exact wk_nil rfl rfl rfl | exact wk_ref rfl rfl rfl rfl (by simp) | exact wk_ref rfl rfl rfl rfl (by simp; omega) | exact wk_old (by assumption) (by simp) | exact wk_eq rfl (by first | exact Bd.int _ _ | exact Bd.bool _ | exact Bd.abool | exact Bd.nils | exact Bd.emp | exact Bd.nilp | exact Bd.nilfn | assumption | exact low_trees _ _ | exact low_treeD _ _ | exact low_ints _ _) | exact Nat.le_refl _ | exact wk_int (by simp) | exact wk_int (by omega) | exact Nat.succ_le_succ (Nat.zero_le _) | exact Nat.le_add_left _ _ | omega))
    · rintro ⟨i, v⟩ ⟨hi, hv⟩
      simp only at hi hv
      by_cases hlt : i < xs.length
      · have f1 : (i : Int) < (xs.length : Int) := by omega
        have f0 : (0 : Int) ≤ (i : Int) := by omega
        have w1 : IntKind.i64.wrap ((i : Int) + 1) = ((i + 1 : Nat) : Int) := by rw [IntWalk.i64_in _ (by omega)]; omega
        have e0 := nth_exs xs i hlt
        have hc1 := hrec xs[i] (List.getElem_mem hlt)
        generalize xs[i] = y at *
        obtain ⟨yk, yn, ya, yr, ys⟩ := y
        have hly := low_exs n ys
        rw [exD_mk] at e0 hc1
        simp -implicitDefEqProofs only [↓symPre, symPost, y_condP, y_condG, run, lver, minD, intsD, eqAll, tupD, splice, Nat.zero_add, Nat.add_zero, Nat.zero_mul, Nat.mul_one, Nat.one_mul, Nat.reduceAdd, Nat.reduceSub, Nat.reduceMul, Nat.reduceLT, Nat.reduceLeDiff, Nat.reduceEqDiff, true_and, and_true, true_implies, if_true, if_false, ite_true, reduceIte, ne_eq, not_false_eq_true, reduceCtorEq, forall_const, bne_self_eq_false, Bool.true_eq_false, Bool.false_eq_true, false_implies, and_self, implies_true, Int.toNat_zero, beq_self_eq_true, decide_true, decide_false, Bool.not_true, Bool.not_false, ↓y_lookv, y_key1, y_mlook, y_mlookn, y_mres1, y_mres0, ↓y_call, f1, f0, decide_true, List.length_map, Int.toNat_natCast, e0]
        refine hc1.call rfl ?_
        simp -implicitDefEqProofs only [↓symPre, symPost, y_condP, y_condG, run, lver, minD, intsD, eqAll, tupD, splice, Nat.zero_add, Nat.add_zero, Nat.zero_mul, Nat.mul_one, Nat.one_mul, Nat.reduceAdd, Nat.reduceSub, Nat.reduceMul, Nat.reduceLT, Nat.reduceLeDiff, Nat.reduceEqDiff, true_and, and_true, true_implies, if_true, if_false, ite_true, reduceIte, ne_eq, not_false_eq_true, reduceCtorEq, forall_const, bne_self_eq_false, Bool.true_eq_false, Bool.false_eq_true, false_implies, and_self, implies_true, Int.toNat_zero, beq_self_eq_true, decide_true, decide_false, Bool.not_true, Bool.not_false, ↓y_lookv, y_key1, y_mlook, y_mlookn, y_mres1, y_mres0, ↓y_call, srcOf, List.length_nil, List.map_nil, List.flatMap_nil, List.take_nil, List.append_nil, Nat.zero_le, Nat.le_refl, w1, List.not_mem_nil]
        refine ⟨(i + 1, v + 1), ⟨by simp only; omega, by simp only; omega⟩, by simp only; omega, ?_⟩
        refine le_to (List.replicate 24 .hole ++ [.old 24] ++ List.replicate 5 .hole) hl rfl ?_ ?_ <;> ((try simp only [y_blk_end, y_blk_hole, y_blk_nil, y_blk_old, y_wkl_end, y_wkl_top, List.replicate, List.cons_append, List.nil_append, and_true, true_and]) <;> (repeat' (first | apply And.intro | apply y_wkl | refine Exists.intro _ (And.intro rfl ?_))) <;> (try first | exact trivial | exact Wk.top _ | exact wk_int rfl | exact wk_bool rfl | exact wk_ptr rfl rfl rfl rfl | exact wk_ref rfl rfl rfl rfl rfl | exact wk_nil rfl rfl rfl | exact wk_ref rfl rfl rfl rfl (by simp) | exact wk_ref rfl rfl rfl rfl (by simp; omega) | exact wk_old (by assumption) (by simp) | exact wk_eq rfl (by first | exact Bd.int _ _ | exact Bd.bool _ | exact Bd.abool | exact Bd.nils | exact Bd.emp | exact Bd.nilp | exact Bd.nilfn | assumption | exact low_trees _ _ | exact low_treeD _ _ | exact low_ints _ _) | exact Nat.le_refl _ | exact wk_int (by simp) | exact wk_int (by omega) | exact Nat.succ_le_succ (Nat.zero_le _) | exact Nat.le_add_left _ _ | omega))
      · have f1 : ¬ (i : Int) < (xs.length : Int) := by omega
        simp -implicitDefEqProofs only [↓symPre, symPost, y_condP, y_condG, run, lver, minD, intsD, eqAll, tupD, splice, Nat.zero_add, Nat.add_zero, Nat.zero_mul, Nat.mul_one, Nat.one_mul, Nat.reduceAdd, Nat.reduceSub, Nat.reduceMul, Nat.reduceLT, Nat.reduceLeDiff, Nat.reduceEqDiff, true_and, and_true, true_implies, if_true, if_false, ite_true, reduceIte, ne_eq, not_false_eq_true, reduceCtorEq, forall_const, bne_self_eq_false, Bool.true_eq_false, Bool.false_eq_true, false_implies, and_self, implies_true, Int.toNat_zero, beq_self_eq_true, decide_true, decide_false, Bool.not_true, Bool.not_false, ↓y_lookv, y_key1, y_mlook, y_mlookn, y_mres1, y_mres0, ↓y_call, f1, decide_false]
        refine pure_sort0.callF (.tup _ (by simp)) rfl (y_wkl (fz_F pairD pairD_cells (low_pairD 0) (l := []) (by omega) (by rw [mrg_loc]; rfl) rfl) (y_wkl (.low _ (.fn _ _ (by simp))) trivial)) ?_
        simp -implicitDefEqProofs only [↓symPre, symPost, y_condP, y_condG, run, lver, minD, intsD, eqAll, tupD, splice, Nat.zero_add, Nat.add_zero, Nat.zero_mul, Nat.mul_one, Nat.one_mul, Nat.reduceAdd, Nat.reduceSub, Nat.reduceMul, Nat.reduceLT, Nat.reduceLeDiff, Nat.reduceEqDiff, true_and, and_true, true_implies, if_true, if_false, ite_true, reduceIte, ne_eq, not_false_eq_true, reduceCtorEq, forall_const, bne_self_eq_false, Bool.true_eq_false, Bool.false_eq_true, false_implies, and_self, implies_true, Int.toNat_zero, beq_self_eq_true, decide_true, decide_false, Bool.not_true, Bool.not_false, ↓y_lookv, y_key1, y_mlook, y_mlookn, y_mres1, y_mres0, ↓y_call]
        refine (at_compact0 (n := n + 30) (b := n + 24) (cs := []) (by omega) (by rw [mrg_loc]; rfl)).mono fun d h' x ⟨hh, hx, hd⟩ => .inl ⟨[], by simp [St.inr], hx, by rw [hh]; rfl, ?_⟩
        subst hd
        simp -implicitDefEqProofs only [↓symPre, symPost, y_condP, y_condG, run, lver, minD, intsD, eqAll, tupD, splice, Nat.zero_add, Nat.add_zero, Nat.zero_mul, Nat.mul_one, Nat.one_mul, Nat.reduceAdd, Nat.reduceSub, Nat.reduceMul, Nat.reduceLT, Nat.reduceLeDiff, Nat.reduceEqDiff, true_and, and_true, true_implies, if_true, if_false, ite_true, reduceIte, ne_eq, not_false_eq_true, reduceCtorEq, forall_const, bne_self_eq_false, Bool.true_eq_false, Bool.false_eq_true, false_implies, and_self, implies_true, Int.toNat_zero, beq_self_eq_true, decide_true, decide_false, Bool.not_true, Bool.not_false, ↓y_lookv, y_key1, y_mlook, y_mlookn, y_mres1, y_mres0, ↓y_call]
        exact fin_wk hl (wk_frzF pairD pairD_cells (low_pairD n) (l := []) (t := 24) rfl rfl (by simp) rfl) ⟨rfl, rfl, rfl⟩

end Abs
end Go.Proofs.Ytoeehfnkcfeoaaa

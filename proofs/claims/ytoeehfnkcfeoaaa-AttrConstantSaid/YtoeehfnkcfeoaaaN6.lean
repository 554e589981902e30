/- value. -/
import Derived.Test.YtoeehfnkcfeoaaaN5
namespace Go.Proofs.Ytoeehfnkcfeoaaa
namespace Abs
set_option linter.unusedVariables false
set_option linter.unusedSimpArgs false
set_option maxRecDepth 20000

theorem ACalls.oneDO {P : Program} {f : FuncId} {ds : List D} {r : D} {V : St} {args : List Opd} {dst : Option Nat} {g : AGuard} {b : Nat} {x : Blk} (ha : args.map V.val = ds)
    (hp : ∀ s, Sub s V [] → ACalls P f ds (V.n + V.lc.length) s.hp fun d h' x' => x' = [] ∧ h' = upd s.hp b x ∧ d = r) (hb : b < V.n) :
    stepV P ⟨dst, .call f args, g⟩ V fun d' δ' => d' = r ∧ δ' = [(b, x)] := by
  intro s hs
  rw [ha]
  exact (hp s hs).mono fun d h' x' ⟨h1, h2, h3⟩ => .inl ⟨[(b, x)], by simp [St.inr]; rw [← hs.n, ← hs.len]; omega, h1, by rw [h2]; rfl, h3, rfl⟩
theorem y_hide_old {n : Nat} {sl : List D} {h : Heap} {lc : List Blk} {b : Nat} {bs : List Nat} (hb : b < n) : St.hide (St.mk n sl h lc) (b :: bs) = St.hide (St.mk n sl (upd h b ⟨0, .veil⟩) lc) bs := by
  simp [St.hide, St.app, St.app1, hb]

def bnd : Nat → Nat
  | 0 => 1
  | d + 1 => 1 + 3 * bnd d
theorem exs_one (l : List Ex) : (∀ c ∈ cellsF exD l, c.one = true) = True := by
  simp only [eq_iff_iff, iff_true]
  intro c hc
  simp only [cellsF, List.mem_flatMap, List.mem_map] at hc
  obtain ⟨d, ⟨⟨k, n, a, r, xs⟩, _, rfl⟩, hc⟩ := hc
  rw [exD_mk] at hc
  simp only [D.cells, List.mem_cons, List.not_mem_nil, or_false] at hc
  rcases hc with rfl | rfl | rfl | rfl | rfl <;> rfl

set_option maxHeartbeats 4000000 in
theorem at_value (F : List (Int × Int)) (hF : F.length < 2 ^ 30) : ∀ (deep : Nat), deep ≤ 2 → ∀ (l : List Int), l.length < 2 ^ 60 → ∀ {n : Nat} {h : Heap} {b ver : Nat}, b < n → h b = ⟨ver, .cells [iD l]⟩ →
    ACalls prog F_parlkeep4_value [.ptr b ver 0, .lst (F.map pairD), .int .i64 deep] n h fun d h' x => x = [] ∧ h' = upd h b ⟨ver, .cells [iD (valF F deep l).2]⟩ ∧ d = exD (valF F deep l).1
  | 0, _, l, hlen, n, h, b, ver, hb, hh => at_leaf F hF 0 l hlen (.inl rfl) hb hh
  | deep + 1, hd2, l, hlen, n, h, b, ver, hb, hh => by
    by_cases hlf : nextV l 7 = 0 ∨ nextV l 7 = 1
    · have := at_leaf F hF ((deep + 1 : Nat) : Int) l hlen (.inr hlf) hb hh
      rw [valF, if_pos hlf]; exact this
    have ih := at_value F hF deep (by omega)
    have hv : valF F (deep + 1) l = (.mk (nextV l 7) 0 0 0 (itF (valF F deep) (manyF (nextV l 7) (nextL l 7)).toNat (nextL (nextL l 7) 2)).1, (itF (valF F deep) (manyF (nextV l 7) (nextL l 7)).toNat (nextL (nextL l 7) 2)).2) := by rw [valF, if_neg hlf]
    have hle := valF_le F deep
    have hil := @itF_len (valF F deep)
    have hile := itF_le hle
    have hr7 := nextV_range l 7
    have hl1 := nextL_le l 7
    have hr2 := nextV_range (nextL l 7) 2
    have hl2 := nextL_le (nextL l 7) 2
    have hmany : manyF (nextV l 7) (nextL l 7) = if nextV l 7 = 5 then 2 else if nextV l 7 = 6 then 3 else 1 + nextV (nextL l 7) 2 := rfl
    have hmr : 1 ≤ manyF (nextV l 7) (nextL l 7) ∧ manyF (nextV l 7) (nextL l 7) ≤ 3 := by rw [hmany]; split <;> (try split) <;> omega
    rw [hv]
    simp only
    rw [exD_mk]
    refine K_parlkeep4_value.calls fun hl => ?_
    unfold C_parlkeep4_value
    have hlF := low_pairs n F
    have hlo : ∀ l' : List Int, LowH n (upd h b ⟨ver, .cells [iD l']⟩) := fun l' => lowH_upd hl (by simp; exact low_ints n l')
    have b0 : (((deep + 1 : Nat) : Int) == 0) = false := beq_eq_false_iff_ne.2 (by omega)
    have wd : IntKind.i64.wrap (((deep + 1 : Nat) : Int) - 1) = (deep : Int) := by rw [IntWalk.i64_in _ (by omega)]; omega
    simp -implicitDefEqProofs only [↓symPre, symPost, y_condP, y_condG, run, lver, minD, intsD, eqAll, tupD, splice, Nat.zero_add, Nat.add_zero, Nat.zero_mul, Nat.mul_one, Nat.one_mul, Nat.reduceAdd, Nat.reduceSub, Nat.reduceMul, Nat.reduceLT, Nat.reduceLeDiff, Nat.reduceEqDiff, true_and, and_true, true_implies, if_true, if_false, ite_true, reduceIte, ne_eq, not_false_eq_true, reduceCtorEq, forall_const, bne_self_eq_false, Bool.true_eq_false, Bool.false_eq_true, false_implies, and_self, implies_true, Int.toNat_zero, beq_self_eq_true, decide_true, decide_false, Bool.not_true, Bool.not_false, ↓y_lookv, y_key1, y_mlook, y_mlookn, y_mres1, y_mres0, ↓y_call]
    refine next_callO (l := l) (by omega) hlen rfl rfl (by show b < n + 65; omega) (by show mrg n _ _ b = _; rw [mrg_lt hb, hh]) ?_
    generalize nextV l 7 = z at *
    generalize nextL l 7 = l1 at *
    have z0 : (z == 0) = false := beq_eq_false_iff_ne.2 (by omega)
    have z1 : (z == 1) = false := beq_eq_false_iff_ne.2 (by omega)
    simp -implicitDefEqProofs only [↓symPre, symPost, y_condP, y_condG, run, lver, minD, intsD, eqAll, tupD, splice, Nat.zero_add, Nat.add_zero, Nat.zero_mul, Nat.mul_one, Nat.one_mul, Nat.reduceAdd, Nat.reduceSub, Nat.reduceMul, Nat.reduceLT, Nat.reduceLeDiff, Nat.reduceEqDiff, true_and, and_true, true_implies, if_true, if_false, ite_true, reduceIte, ne_eq, not_false_eq_true, reduceCtorEq, forall_const, bne_self_eq_false, Bool.true_eq_false, Bool.false_eq_true, false_implies, and_self, implies_true, Int.toNat_zero, beq_self_eq_true, decide_true, decide_false, Bool.not_true, Bool.not_false, ↓y_lookv, y_key1, y_mlook, y_mlookn, y_mres1, y_mres0, ↓y_call, hb, b0, z0, z1]
    refine next_callO (l := l1) (by omega) (by omega) rfl rfl (by show b < n + 65; omega) (by show mrg n _ _ b = _; rw [mrg_lt hb, upd_same]) ?_
    have w1 : IntKind.i64.wrap (1 + nextV l1 2) = 1 + nextV l1 2 := IntWalk.i64_in _ (by omega)
    obtain ⟨m, hm⟩ : ∃ m : Nat, manyF z l1 = m := ⟨(manyF z l1).toNat, by omega⟩
    rw [hm, Int.toNat_natCast]
    generalize nextL l1 2 = l2 at *
    have hx0 : ∀ c ∈ cellsF exD ([] : List Ex), Low n c := by simp [cellsF]
    by_cases c5 : z = 5
    · have b5 : (z == 5) = true := by simp [c5]
      have hm2 : (2 : Int) = (m : Int) := by rw [← hm, hmany, if_pos c5]
      simp -implicitDefEqProofs only [↓symPre, symPost, y_condP, y_condG, run, lver, minD, intsD, eqAll, tupD, splice, Nat.zero_add, Nat.add_zero, Nat.zero_mul, Nat.mul_one, Nat.one_mul, Nat.reduceAdd, Nat.reduceSub, Nat.reduceMul, Nat.reduceLT, Nat.reduceLeDiff, Nat.reduceEqDiff, true_and, and_true, true_implies, if_true, if_false, ite_true, reduceIte, ne_eq, not_false_eq_true, reduceCtorEq, forall_const, bne_self_eq_false, Bool.true_eq_false, Bool.false_eq_true, false_implies, and_self, implies_true, Int.toNat_zero, beq_self_eq_true, decide_true, decide_false, Bool.not_true, Bool.not_false, ↓y_lookv, y_key1, y_mlook, y_mlookn, y_mres1, y_mres0, ↓y_call, hb, upd_upd, b5, hm2]
      refine aloop (fun p : Nat × Nat => St.mk n ([.ptr b ver 0, .lst (F.map pairD), .int .i64 ((deep + 1 : Nat) : Int), .top, .top, .top, .ptr (n + 6) 1 0, .top, .top, .ptr (n + 9) 1 0] ++ List.replicate 40 .top ++ [.int .i64 m, .int .i64 p.1] ++ List.replicate 13 .top) (upd h b ⟨ver, .cells [iD (itF (valF F deep) p.1 l2).2]⟩)
          (List.replicate 6 blk0 ++ [⟨1, .cells [.int .i64 0, .int .i64 0, .int .i64 0, .int .i64 0, .nils]⟩, blk0, blk0, ⟨1, .cells [.int .i64 z, .int .i64 0, .int .i64 0, .int .i64 0, .ref 5 (n + 61) p.2 0 p.1]⟩] ++ List.replicate 51 blk0 ++ [⟨p.2, .cells (cellsF exD (itF (valF F deep) p.1 l2).1)⟩] ++ List.replicate 3 blk0))
        (fun p => p.1 ≤ m ∧ 1 ≤ p.2) (fun p => m - p.1) (0, 1) ⟨Nat.zero_le _, Nat.le_refl _⟩ ?_ ?_
      · refine le_to (List.replicate 6 .hole ++ [.old 6, .hole, .hole, .old 9] ++ List.replicate 51 .hole ++ [.nil] ++ List.replicate 3 .hole) (hlo _) rfl ?_ ?_ <;> (try simp only [itF, cellsF_nil]) <;> ((try simp only [y_blk_end, y_blk_hole, y_blk_nil, y_blk_old, y_wkl_end, y_wkl_top, List.replicate, List.cons_append, List.nil_append, and_true, true_and]) <;> (repeat' (first | apply And.intro | apply y_wkl | refine Exists.intro _ (And.intro rfl ?_))) <;> (try first | exact trivial | exact Wk.top _ | exact wk_int rfl | exact wk_bool rfl | exact wk_ptr rfl rfl rfl rfl | exact wk_ref rfl rfl rfl rfl rfl | exact wk_nil rfl rfl rfl | exact wk_ref rfl rfl rfl rfl (by simp) | exact wk_ref rfl rfl rfl rfl (by simp; omega) | exact wk_old (by assumption) (by simp) | exact wk_eq rfl (by first | exact Bd.int _ _ | exact Bd.bool _ | exact Bd.abool | exact Bd.nils | exact Bd.emp | exact Bd.nilp | exact Bd.nilfn | assumption | exact low_trees _ _ | exact low_treeD _ _ | exact low_ints _ _) | exact Nat.le_refl _ | exact wk_int (by simp) | exact wk_int (by omega) | exact Nat.succ_le_succ (Nat.zero_le _) | exact Nat.le_add_left _ _ | omega))
        all_goals first | exact .low _ (.ptr _ _ _ (.inl hb)) | exact wk_eq rfl hlF
      · rintro ⟨j, v⟩ ⟨hj, hv1⟩
        simp only at hj hv1
        by_cases hjl : j < m
        · have g1 : (j : Int) < (m : Int) := by omega
          have w2 : IntKind.i64.wrap ((j : Int) + 1) = ((j + 1 : Nat) : Int) := by rw [IntWalk.i64_in _ (by omega)]; omega
          have hEl : (cellsF exD (itF (valF F deep) j l2).1).length = j * 5 := by rw [cellsF_len exD exD_cells, hil]
          have hEt := take_all (cellsF exD (itF (valF F deep) j l2).1) (k := j * 5) (by rw [hEl])
          have hEf : j * 5 ≤ (cellsF exD (itF (valF F deep) j l2).1).length := by omega
          have hf : (j + 1) * 56 ≤ 140737488355328 := by omega
          have hLl := hile j l2
          have e1 : (itF (valF F deep) (j + 1) l2).1 = (itF (valF F deep) j l2).1 ++ [(valF F deep (itF (valF F deep) j l2).2).1] := rfl
          have e2 : (itF (valF F deep) (j + 1) l2).2 = (valF F deep (itF (valF F deep) j l2).2).2 := rfl
          simp only [e1, e2]
          have ih1 := fun n h b ver hb hh => @ih (itF (valF F deep) j l2).2 (by omega) n h b ver hb hh
          have hlE := low_cellsF exD (low_exD n) (itF (valF F deep) j l2).1
          generalize (itF (valF F deep) j l2).1 = E at *
          generalize (itF (valF F deep) j l2).2 = L at *
          generalize hy : valF F deep L = y at *
          obtain ⟨⟨yk, ym, ya, yr, ys⟩, L'⟩ := y
          have hly := low_exs n ys
          simp only [exD_mk] at ih1
          simp -implicitDefEqProofs only [↓symPre, symPost, y_condP, y_condG, run, lver, minD, intsD, eqAll, tupD, splice, Nat.zero_add, Nat.add_zero, Nat.zero_mul, Nat.mul_one, Nat.one_mul, Nat.reduceAdd, Nat.reduceSub, Nat.reduceMul, Nat.reduceLT, Nat.reduceLeDiff, Nat.reduceEqDiff, true_and, and_true, true_implies, if_true, if_false, ite_true, reduceIte, ne_eq, not_false_eq_true, reduceCtorEq, forall_const, bne_self_eq_false, Bool.true_eq_false, Bool.false_eq_true, false_implies, and_self, implies_true, Int.toNat_zero, beq_self_eq_true, decide_true, decide_false, Bool.not_true, Bool.not_false, ↓y_lookv, y_key1, y_mlook, y_mlookn, y_mres1, y_mres0, ↓y_call, g1, decide_true]
          refine adrawq hmix [[], [], [], [], [], [], [b], [], [], [], [n + 9]] ?_
          simp (maxSteps := 400000) -implicitDefEqProofs only [↓symPre, symPost, y_condP, y_condG, run, lver, minD, intsD, eqAll, tupD, splice, Nat.zero_add, Nat.add_zero, Nat.zero_mul, Nat.mul_one, Nat.one_mul, Nat.reduceAdd, Nat.reduceSub, Nat.reduceMul, Nat.reduceLT, Nat.reduceLeDiff, Nat.reduceEqDiff, true_and, and_true, true_implies, if_true, if_false, ite_true, reduceIte, ne_eq, not_false_eq_true, reduceCtorEq, forall_const, bne_self_eq_false, Bool.true_eq_false, Bool.false_eq_true, false_implies, and_self, implies_true, Int.toNat_zero, beq_self_eq_true, decide_true, decide_false, Bool.not_true, Bool.not_false, ↓y_lookv, y_key1, y_mlook, y_mlookn, y_mres1, y_mres0, ↓y_call, ↓y_adq0, ↓y_adq, ↓y_stepQ_call, ↓y_adq_onT, ↓y_adq_onF, ↓y_adq_onS, drawPost, isCall, isNew, isEff, Option.toList, or_false, false_or, cond_true, cond_false, not_true_eq_false, or_true, true_or, Nat.add_left_cancel_iff, Bool.false_eq_true, ↓y_q0, ↓y_q1, ↓y_q1e, y_qn, isMap, List.flatMap_cons, List.flatMap_nil, List.append_nil, List.getD_cons_succ, List.getD_cons_zero, y_hide_old, hb, wd]
          refine ⟨_, _, ACalls.oneDO (b := b) (r := .agg [.int .i64 yk, .int .i64 ym, .int .i64 ya, .int .i64 yr, .lst (ys.map exD)]) (x := ⟨ver, .cells [iD L']⟩) rfl ?_ hb, ?_, ?_⟩
          · intro s hs
            exact ih1 _ _ _ _ (by show b < n + 65; omega) (hs.hp (by show mrg n (upd h b ⟨ver, .cells [iD L]⟩) _ b = _; rw [mrg_lt hb, upd_same]))
          · exact (by simp [y_cov0, y_cov1, isNew, isEff, Option.toList])
          simp (maxSteps := 400000) -implicitDefEqProofs only [↓symPre, symPost, y_condP, y_condG, run, lver, minD, intsD, eqAll, tupD, splice, Nat.zero_add, Nat.add_zero, Nat.zero_mul, Nat.mul_one, Nat.one_mul, Nat.reduceAdd, Nat.reduceSub, Nat.reduceMul, Nat.reduceLT, Nat.reduceLeDiff, Nat.reduceEqDiff, true_and, and_true, true_implies, if_true, if_false, ite_true, reduceIte, ne_eq, not_false_eq_true, reduceCtorEq, forall_const, bne_self_eq_false, Bool.true_eq_false, Bool.false_eq_true, false_implies, and_self, implies_true, Int.toNat_zero, beq_self_eq_true, decide_true, decide_false, Bool.not_true, Bool.not_false, ↓y_lookv, y_key1, y_mlook, y_mlookn, y_mres1, y_mres0, ↓y_call, ↓y_adq0, ↓y_adq, ↓y_stepQ_call, ↓y_adq_onT, ↓y_adq_onF, ↓y_adq_onS, drawPost, isCall, isNew, isEff, Option.toList, or_false, false_or, cond_true, cond_false, not_true_eq_false, or_true, true_or, Nat.add_left_cancel_iff, Bool.false_eq_true, ↓y_q0, ↓y_q1, ↓y_q1e, y_qn, isMap, List.flatMap_cons, List.flatMap_nil, List.append_nil, List.getD_cons_succ, List.getD_cons_zero, hb, srcOf, Nat.le_refl, hf, hEt, hEf, w2, upd_upd]
          refine ⟨by rintro c (rfl | rfl | rfl | rfl | rfl) <;> rfl, by rintro c rfl; rfl, (j + 1, v + 1), ⟨by simp only; omega, by simp only; omega⟩, by simp only; omega, ?_⟩
          simp only [e1, e2, cellsF_app, cellsF_one, exD_mk, D.cells]
          refine le_to (List.replicate 6 .hole ++ [.old 6, .hole, .hole, .old 9] ++ List.replicate 51 .hole ++ [.old 61] ++ List.replicate 3 .hole) (hlo _) rfl ?_ ?_ <;> ((try simp only [y_blk_end, y_blk_hole, y_blk_nil, y_blk_old, y_wkl_end, y_wkl_top, List.replicate, List.cons_append, List.nil_append, and_true, true_and]) <;> (repeat' (first | apply And.intro | apply y_wkl | refine Exists.intro _ (And.intro rfl ?_))) <;> (try first | exact trivial | exact Wk.top _ | exact wk_int rfl | exact wk_bool rfl | exact wk_ptr rfl rfl rfl rfl | exact wk_ref rfl rfl rfl rfl rfl | exact wk_nil rfl rfl rfl | exact wk_ref rfl rfl rfl rfl (by simp) | exact wk_ref rfl rfl rfl rfl (by simp; omega) | exact wk_old (by assumption) (by simp) | exact wk_eq rfl (by first | exact Bd.int _ _ | exact Bd.bool _ | exact Bd.abool | exact Bd.nils | exact Bd.emp | exact Bd.nilp | exact Bd.nilfn | assumption | exact low_trees _ _ | exact low_treeD _ _ | exact low_ints _ _) | exact Nat.le_refl _ | exact wk_int (by simp) | exact wk_int (by omega) | exact Nat.succ_le_succ (Nat.zero_le _) | exact Nat.le_add_left _ _ | omega))
          all_goals first | exact .low _ (.ptr _ _ _ (.inl hb)) | exact wk_eq rfl hlF | exact WkL.app (WkL.low hlE) (y_wkl (wk_int rfl) (y_wkl (wk_int rfl) (y_wkl (wk_int rfl) (y_wkl (wk_int rfl) (y_wkl (wk_eq rfl hly) trivial)))))
        · have g1 : ¬ (j : Int) < (m : Int) := by omega
          obtain rfl : j = m := by omega
          simp -implicitDefEqProofs only [↓symPre, symPost, y_condP, y_condG, run, lver, minD, intsD, eqAll, tupD, splice, Nat.zero_add, Nat.add_zero, Nat.zero_mul, Nat.mul_one, Nat.one_mul, Nat.reduceAdd, Nat.reduceSub, Nat.reduceMul, Nat.reduceLT, Nat.reduceLeDiff, Nat.reduceEqDiff, true_and, and_true, true_implies, if_true, if_false, ite_true, reduceIte, ne_eq, not_false_eq_true, reduceCtorEq, forall_const, bne_self_eq_false, Bool.true_eq_false, Bool.false_eq_true, false_implies, and_self, implies_true, Int.toNat_zero, beq_self_eq_true, decide_true, decide_false, Bool.not_true, Bool.not_false, ↓y_lookv, y_key1, y_mlook, y_mlookn, y_mres1, y_mres0, ↓y_call, g1, decide_false]
          exact fin_wk (d := .agg [.int .i64 z, .int .i64 0, .int .i64 0, .int .i64 0, .lst ((itF (valF F deep) j l2).1.map exD)]) (hlo _) (wk_agg5 (y_wkl (wk_int rfl) (y_wkl (wk_int rfl) (y_wkl (wk_int rfl) (y_wkl (wk_int rfl) (y_wkl (wk_frzF exD exD_cells (low_exD n) (t := 61) rfl rfl (by simp) (hil _ _).symm) trivial)))))) ⟨rfl, rfl, rfl⟩
    have b5 : (z == 5) = false := by simp [c5]
    by_cases c6 : z = 6
    · have b6 : (z == 6) = true := by simp [c6]
      have hm2 : (3 : Int) = (m : Int) := by rw [← hm, hmany, if_neg c5, if_pos c6]
      simp -implicitDefEqProofs only [↓symPre, symPost, y_condP, y_condG, run, lver, minD, intsD, eqAll, tupD, splice, Nat.zero_add, Nat.add_zero, Nat.zero_mul, Nat.mul_one, Nat.one_mul, Nat.reduceAdd, Nat.reduceSub, Nat.reduceMul, Nat.reduceLT, Nat.reduceLeDiff, Nat.reduceEqDiff, true_and, and_true, true_implies, if_true, if_false, ite_true, reduceIte, ne_eq, not_false_eq_true, reduceCtorEq, forall_const, bne_self_eq_false, Bool.true_eq_false, Bool.false_eq_true, false_implies, and_self, implies_true, Int.toNat_zero, beq_self_eq_true, decide_true, decide_false, Bool.not_true, Bool.not_false, ↓y_lookv, y_key1, y_mlook, y_mlookn, y_mres1, y_mres0, ↓y_call, hb, upd_upd, b5, b6, hm2]
      refine aloop (fun p : Nat × Nat => St.mk n ([.ptr b ver 0, .lst (F.map pairD), .int .i64 ((deep + 1 : Nat) : Int), .top, .top, .top, .ptr (n + 6) 1 0, .top, .top, .ptr (n + 9) 1 0] ++ List.replicate 40 .top ++ [.int .i64 m, .int .i64 p.1] ++ List.replicate 13 .top) (upd h b ⟨ver, .cells [iD (itF (valF F deep) p.1 l2).2]⟩)
          (List.replicate 6 blk0 ++ [⟨1, .cells [.int .i64 0, .int .i64 0, .int .i64 0, .int .i64 0, .nils]⟩, blk0, blk0, ⟨1, .cells [.int .i64 z, .int .i64 0, .int .i64 0, .int .i64 0, .ref 5 (n + 61) p.2 0 p.1]⟩] ++ List.replicate 51 blk0 ++ [⟨p.2, .cells (cellsF exD (itF (valF F deep) p.1 l2).1)⟩] ++ List.replicate 3 blk0))
        (fun p => p.1 ≤ m ∧ 1 ≤ p.2) (fun p => m - p.1) (0, 1) ⟨Nat.zero_le _, Nat.le_refl _⟩ ?_ ?_
      · refine le_to (List.replicate 6 .hole ++ [.old 6, .hole, .hole, .old 9] ++ List.replicate 51 .hole ++ [.nil] ++ List.replicate 3 .hole) (hlo _) rfl ?_ ?_ <;> (try simp only [itF, cellsF_nil]) <;> ((try simp only [y_blk_end, y_blk_hole, y_blk_nil, y_blk_old, y_wkl_end, y_wkl_top, List.replicate, List.cons_append, List.nil_append, and_true, true_and]) <;> (repeat' (first | apply And.intro | apply y_wkl | refine Exists.intro _ (And.intro rfl ?_))) <;> (try first | exact trivial | exact Wk.top _ | exact wk_int rfl | exact wk_bool rfl | exact wk_ptr rfl rfl rfl rfl | exact wk_ref rfl rfl rfl rfl rfl | exact wk_nil rfl rfl rfl | exact wk_ref rfl rfl rfl rfl (by simp) | exact wk_ref rfl rfl rfl rfl (by simp; omega) | exact wk_old (by assumption) (by simp) | exact wk_eq rfl (by first | exact Bd.int _ _ | exact Bd.bool _ | exact Bd.abool | exact Bd.nils | exact Bd.emp | exact Bd.nilp | exact Bd.nilfn | assumption | exact low_trees _ _ | exact low_treeD _ _ | exact low_ints _ _) | exact Nat.le_refl _ | exact wk_int (by simp) | exact wk_int (by omega) | exact Nat.succ_le_succ (Nat.zero_le _) | exact Nat.le_add_left _ _ | omega))
        all_goals first | exact .low _ (.ptr _ _ _ (.inl hb)) | exact wk_eq rfl hlF
      · rintro ⟨j, v⟩ ⟨hj, hv1⟩
        simp only at hj hv1
        by_cases hjl : j < m
        · have g1 : (j : Int) < (m : Int) := by omega
          have w2 : IntKind.i64.wrap ((j : Int) + 1) = ((j + 1 : Nat) : Int) := by rw [IntWalk.i64_in _ (by omega)]; omega
          have hEl : (cellsF exD (itF (valF F deep) j l2).1).length = j * 5 := by rw [cellsF_len exD exD_cells, hil]
          have hEt := take_all (cellsF exD (itF (valF F deep) j l2).1) (k := j * 5) (by rw [hEl])
          have hEf : j * 5 ≤ (cellsF exD (itF (valF F deep) j l2).1).length := by omega
          have hf : (j + 1) * 56 ≤ 140737488355328 := by omega
          have hLl := hile j l2
          have e1 : (itF (valF F deep) (j + 1) l2).1 = (itF (valF F deep) j l2).1 ++ [(valF F deep (itF (valF F deep) j l2).2).1] := rfl
          have e2 : (itF (valF F deep) (j + 1) l2).2 = (valF F deep (itF (valF F deep) j l2).2).2 := rfl
          simp only [e1, e2]
          have ih1 := fun n h b ver hb hh => @ih (itF (valF F deep) j l2).2 (by omega) n h b ver hb hh
          have hlE := low_cellsF exD (low_exD n) (itF (valF F deep) j l2).1
          generalize (itF (valF F deep) j l2).1 = E at *
          generalize (itF (valF F deep) j l2).2 = L at *
          generalize hy : valF F deep L = y at *
          obtain ⟨⟨yk, ym, ya, yr, ys⟩, L'⟩ := y
          have hly := low_exs n ys
          simp only [exD_mk] at ih1
          simp -implicitDefEqProofs only [↓symPre, symPost, y_condP, y_condG, run, lver, minD, intsD, eqAll, tupD, splice, Nat.zero_add, Nat.add_zero, Nat.zero_mul, Nat.mul_one, Nat.one_mul, Nat.reduceAdd, Nat.reduceSub, Nat.reduceMul, Nat.reduceLT, Nat.reduceLeDiff, Nat.reduceEqDiff, true_and, and_true, true_implies, if_true, if_false, ite_true, reduceIte, ne_eq, not_false_eq_true, reduceCtorEq, forall_const, bne_self_eq_false, Bool.true_eq_false, Bool.false_eq_true, false_implies, and_self, implies_true, Int.toNat_zero, beq_self_eq_true, decide_true, decide_false, Bool.not_true, Bool.not_false, ↓y_lookv, y_key1, y_mlook, y_mlookn, y_mres1, y_mres0, ↓y_call, g1, decide_true]
          refine adrawq hmix [[], [], [], [], [], [], [b], [], [], [], [n + 9]] ?_
          simp (maxSteps := 400000) -implicitDefEqProofs only [↓symPre, symPost, y_condP, y_condG, run, lver, minD, intsD, eqAll, tupD, splice, Nat.zero_add, Nat.add_zero, Nat.zero_mul, Nat.mul_one, Nat.one_mul, Nat.reduceAdd, Nat.reduceSub, Nat.reduceMul, Nat.reduceLT, Nat.reduceLeDiff, Nat.reduceEqDiff, true_and, and_true, true_implies, if_true, if_false, ite_true, reduceIte, ne_eq, not_false_eq_true, reduceCtorEq, forall_const, bne_self_eq_false, Bool.true_eq_false, Bool.false_eq_true, false_implies, and_self, implies_true, Int.toNat_zero, beq_self_eq_true, decide_true, decide_false, Bool.not_true, Bool.not_false, ↓y_lookv, y_key1, y_mlook, y_mlookn, y_mres1, y_mres0, ↓y_call, ↓y_adq0, ↓y_adq, ↓y_stepQ_call, ↓y_adq_onT, ↓y_adq_onF, ↓y_adq_onS, drawPost, isCall, isNew, isEff, Option.toList, or_false, false_or, cond_true, cond_false, not_true_eq_false, or_true, true_or, Nat.add_left_cancel_iff, Bool.false_eq_true, ↓y_q0, ↓y_q1, ↓y_q1e, y_qn, isMap, List.flatMap_cons, List.flatMap_nil, List.append_nil, List.getD_cons_succ, List.getD_cons_zero, y_hide_old, hb, wd]
          refine ⟨_, _, ACalls.oneDO (b := b) (r := .agg [.int .i64 yk, .int .i64 ym, .int .i64 ya, .int .i64 yr, .lst (ys.map exD)]) (x := ⟨ver, .cells [iD L']⟩) rfl ?_ hb, ?_, ?_⟩
          · intro s hs
            exact ih1 _ _ _ _ (by show b < n + 65; omega) (hs.hp (by show mrg n (upd h b ⟨ver, .cells [iD L]⟩) _ b = _; rw [mrg_lt hb, upd_same]))
          · exact (by simp [y_cov0, y_cov1, isNew, isEff, Option.toList])
          simp (maxSteps := 400000) -implicitDefEqProofs only [↓symPre, symPost, y_condP, y_condG, run, lver, minD, intsD, eqAll, tupD, splice, Nat.zero_add, Nat.add_zero, Nat.zero_mul, Nat.mul_one, Nat.one_mul, Nat.reduceAdd, Nat.reduceSub, Nat.reduceMul, Nat.reduceLT, Nat.reduceLeDiff, Nat.reduceEqDiff, true_and, and_true, true_implies, if_true, if_false, ite_true, reduceIte, ne_eq, not_false_eq_true, reduceCtorEq, forall_const, bne_self_eq_false, Bool.true_eq_false, Bool.false_eq_true, false_implies, and_self, implies_true, Int.toNat_zero, beq_self_eq_true, decide_true, decide_false, Bool.not_true, Bool.not_false, ↓y_lookv, y_key1, y_mlook, y_mlookn, y_mres1, y_mres0, ↓y_call, ↓y_adq0, ↓y_adq, ↓y_stepQ_call, ↓y_adq_onT, ↓y_adq_onF, ↓y_adq_onS, drawPost, isCall, isNew, isEff, Option.toList, or_false, false_or, cond_true, cond_false, not_true_eq_false, or_true, true_or, Nat.add_left_cancel_iff, Bool.false_eq_true, ↓y_q0, ↓y_q1, ↓y_q1e, y_qn, isMap, List.flatMap_cons, List.flatMap_nil, List.append_nil, List.getD_cons_succ, List.getD_cons_zero, hb, srcOf, Nat.le_refl, hf, hEt, hEf, w2, upd_upd]
          refine ⟨by rintro c (rfl | rfl | rfl | rfl | rfl) <;> rfl, by rintro c rfl; rfl, (j + 1, v + 1), ⟨by simp only; omega, by simp only; omega⟩, by simp only; omega, ?_⟩
          simp only [e1, e2, cellsF_app, cellsF_one, exD_mk, D.cells]
          refine le_to (List.replicate 6 .hole ++ [.old 6, .hole, .hole, .old 9] ++ List.replicate 51 .hole ++ [.old 61] ++ List.replicate 3 .hole) (hlo _) rfl ?_ ?_ <;> ((try simp only [y_blk_end, y_blk_hole, y_blk_nil, y_blk_old, y_wkl_end, y_wkl_top, List.replicate, List.cons_append, List.nil_append, and_true, true_and]) <;> (repeat' (first | apply And.intro | apply y_wkl | refine Exists.intro _ (And.intro rfl ?_))) <;> (try first | exact trivial | exact Wk.top _ | exact wk_int rfl | exact wk_bool rfl | exact wk_ptr rfl rfl rfl rfl | exact wk_ref rfl rfl rfl rfl rfl | exact wk_nil rfl rfl rfl | exact wk_ref rfl rfl rfl rfl (by simp) | exact wk_ref rfl rfl rfl rfl (by simp; omega) | exact wk_old (by assumption) (by simp) | exact wk_eq rfl (by first | exact Bd.int _ _ | exact Bd.bool _ | exact Bd.abool | exact Bd.nils | exact Bd.emp | exact Bd.nilp | exact Bd.nilfn | assumption | exact low_trees _ _ | exact low_treeD _ _ | exact low_ints _ _) | exact Nat.le_refl _ | exact wk_int (by simp) | exact wk_int (by omega) | exact Nat.succ_le_succ (Nat.zero_le _) | exact Nat.le_add_left _ _ | omega))
          all_goals first | exact .low _ (.ptr _ _ _ (.inl hb)) | exact wk_eq rfl hlF | exact WkL.app (WkL.low hlE) (y_wkl (wk_int rfl) (y_wkl (wk_int rfl) (y_wkl (wk_int rfl) (y_wkl (wk_int rfl) (y_wkl (wk_eq rfl hly) trivial)))))
        · have g1 : ¬ (j : Int) < (m : Int) := by omega
          obtain rfl : j = m := by omega
          simp -implicitDefEqProofs only [↓symPre, symPost, y_condP, y_condG, run, lver, minD, intsD, eqAll, tupD, splice, Nat.zero_add, Nat.add_zero, Nat.zero_mul, Nat.mul_one, Nat.one_mul, Nat.reduceAdd, Nat.reduceSub, Nat.reduceMul, Nat.reduceLT, Nat.reduceLeDiff, Nat.reduceEqDiff, true_and, and_true, true_implies, if_true, if_false, ite_true, reduceIte, ne_eq, not_false_eq_true, reduceCtorEq, forall_const, bne_self_eq_false, Bool.true_eq_false, Bool.false_eq_true, false_implies, and_self, implies_true, Int.toNat_zero, beq_self_eq_true, decide_true, decide_false, Bool.not_true, Bool.not_false, ↓y_lookv, y_key1, y_mlook, y_mlookn, y_mres1, y_mres0, ↓y_call, g1, decide_false]
          exact fin_wk (d := .agg [.int .i64 z, .int .i64 0, .int .i64 0, .int .i64 0, .lst ((itF (valF F deep) j l2).1.map exD)]) (hlo _) (wk_agg5 (y_wkl (wk_int rfl) (y_wkl (wk_int rfl) (y_wkl (wk_int rfl) (y_wkl (wk_int rfl) (y_wkl (wk_frzF exD exD_cells (low_exD n) (t := 61) rfl rfl (by simp) (hil _ _).symm) trivial)))))) ⟨rfl, rfl, rfl⟩
    · have b6 : (z == 6) = false := by simp [c6]
      have hm2 : IntKind.i64.wrap (1 + nextV l1 2) = (m : Int) := by rw [w1, ← hm, hmany, if_neg c5, if_neg c6]
      simp -implicitDefEqProofs only [↓symPre, symPost, y_condP, y_condG, run, lver, minD, intsD, eqAll, tupD, splice, Nat.zero_add, Nat.add_zero, Nat.zero_mul, Nat.mul_one, Nat.one_mul, Nat.reduceAdd, Nat.reduceSub, Nat.reduceMul, Nat.reduceLT, Nat.reduceLeDiff, Nat.reduceEqDiff, true_and, and_true, true_implies, if_true, if_false, ite_true, reduceIte, ne_eq, not_false_eq_true, reduceCtorEq, forall_const, bne_self_eq_false, Bool.true_eq_false, Bool.false_eq_true, false_implies, and_self, implies_true, Int.toNat_zero, beq_self_eq_true, decide_true, decide_false, Bool.not_true, Bool.not_false, ↓y_lookv, y_key1, y_mlook, y_mlookn, y_mres1, y_mres0, ↓y_call, hb, upd_upd, b5, b6, hm2]
      refine aloop (fun p : Nat × Nat => St.mk n ([.ptr b ver 0, .lst (F.map pairD), .int .i64 ((deep + 1 : Nat) : Int), .top, .top, .top, .ptr (n + 6) 1 0, .top, .top, .ptr (n + 9) 1 0] ++ List.replicate 40 .top ++ [.int .i64 m, .int .i64 p.1] ++ List.replicate 13 .top) (upd h b ⟨ver, .cells [iD (itF (valF F deep) p.1 l2).2]⟩)
          (List.replicate 6 blk0 ++ [⟨1, .cells [.int .i64 0, .int .i64 0, .int .i64 0, .int .i64 0, .nils]⟩, blk0, blk0, ⟨1, .cells [.int .i64 z, .int .i64 0, .int .i64 0, .int .i64 0, .ref 5 (n + 61) p.2 0 p.1]⟩] ++ List.replicate 51 blk0 ++ [⟨p.2, .cells (cellsF exD (itF (valF F deep) p.1 l2).1)⟩] ++ List.replicate 3 blk0))
        (fun p => p.1 ≤ m ∧ 1 ≤ p.2) (fun p => m - p.1) (0, 1) ⟨Nat.zero_le _, Nat.le_refl _⟩ ?_ ?_
      · refine le_to (List.replicate 6 .hole ++ [.old 6, .hole, .hole, .old 9] ++ List.replicate 51 .hole ++ [.nil] ++ List.replicate 3 .hole) (hlo _) rfl ?_ ?_ <;> (try simp only [itF, cellsF_nil]) <;> ((try simp only [y_blk_end, y_blk_hole, y_blk_nil, y_blk_old, y_wkl_end, y_wkl_top, List.replicate, List.cons_append, List.nil_append, and_true, true_and]) <;> (repeat' (first | apply And.intro | apply y_wkl | refine Exists.intro _ (And.intro rfl ?_))) <;> (try first | exact trivial | exact Wk.top _ | exact wk_int rfl | exact wk_bool rfl | exact wk_ptr rfl rfl rfl rfl | exact wk_ref rfl rfl rfl rfl rfl | exact wk_nil rfl rfl rfl | exact wk_ref rfl rfl rfl rfl (by simp) | exact wk_ref rfl rfl rfl rfl (by simp; omega) | exact wk_old (by assumption) (by simp) | exact wk_eq rfl (by first | exact Bd.int _ _ | exact Bd.bool _ | exact Bd.abool | exact Bd.nils | exact Bd.emp | exact Bd.nilp | exact Bd.nilfn | assumption | exact low_trees _ _ | exact low_treeD _ _ | exact low_ints _ _) | exact Nat.le_refl _ | exact wk_int (by simp) | exact wk_int (by omega) | exact Nat.succ_le_succ (Nat.zero_le _) | exact Nat.le_add_left _ _ | omega))
        all_goals first | exact .low _ (.ptr _ _ _ (.inl hb)) | exact wk_eq rfl hlF
      · rintro ⟨j, v⟩ ⟨hj, hv1⟩
        simp only at hj hv1
        by_cases hjl : j < m
        · have g1 : (j : Int) < (m : Int) := by omega
          have w2 : IntKind.i64.wrap ((j : Int) + 1) = ((j + 1 : Nat) : Int) := by rw [IntWalk.i64_in _ (by omega)]; omega
          have hEl : (cellsF exD (itF (valF F deep) j l2).1).length = j * 5 := by rw [cellsF_len exD exD_cells, hil]
          have hEt := take_all (cellsF exD (itF (valF F deep) j l2).1) (k := j * 5) (by rw [hEl])
          have hEf : j * 5 ≤ (cellsF exD (itF (valF F deep) j l2).1).length := by omega
          have hf : (j + 1) * 56 ≤ 140737488355328 := by omega
          have hLl := hile j l2
          have e1 : (itF (valF F deep) (j + 1) l2).1 = (itF (valF F deep) j l2).1 ++ [(valF F deep (itF (valF F deep) j l2).2).1] := rfl
          have e2 : (itF (valF F deep) (j + 1) l2).2 = (valF F deep (itF (valF F deep) j l2).2).2 := rfl
          simp only [e1, e2]
          have ih1 := fun n h b ver hb hh => @ih (itF (valF F deep) j l2).2 (by omega) n h b ver hb hh
          have hlE := low_cellsF exD (low_exD n) (itF (valF F deep) j l2).1
          generalize (itF (valF F deep) j l2).1 = E at *
          generalize (itF (valF F deep) j l2).2 = L at *
          generalize hy : valF F deep L = y at *
          obtain ⟨⟨yk, ym, ya, yr, ys⟩, L'⟩ := y
          have hly := low_exs n ys
          simp only [exD_mk] at ih1
          simp -implicitDefEqProofs only [↓symPre, symPost, y_condP, y_condG, run, lver, minD, intsD, eqAll, tupD, splice, Nat.zero_add, Nat.add_zero, Nat.zero_mul, Nat.mul_one, Nat.one_mul, Nat.reduceAdd, Nat.reduceSub, Nat.reduceMul, Nat.reduceLT, Nat.reduceLeDiff, Nat.reduceEqDiff, true_and, and_true, true_implies, if_true, if_false, ite_true, reduceIte, ne_eq, not_false_eq_true, reduceCtorEq, forall_const, bne_self_eq_false, Bool.true_eq_false, Bool.false_eq_true, false_implies, and_self, implies_true, Int.toNat_zero, beq_self_eq_true, decide_true, decide_false, Bool.not_true, Bool.not_false, ↓y_lookv, y_key1, y_mlook, y_mlookn, y_mres1, y_mres0, ↓y_call, g1, decide_true]
          refine adrawq hmix [[], [], [], [], [], [], [b], [], [], [], [n + 9]] ?_
          simp (maxSteps := 400000) -implicitDefEqProofs only [↓symPre, symPost, y_condP, y_condG, run, lver, minD, intsD, eqAll, tupD, splice, Nat.zero_add, Nat.add_zero, Nat.zero_mul, Nat.mul_one, Nat.one_mul, Nat.reduceAdd, Nat.reduceSub, Nat.reduceMul, Nat.reduceLT, Nat.reduceLeDiff, Nat.reduceEqDiff, true_and, and_true, true_implies, if_true, if_false, ite_true, reduceIte, ne_eq, not_false_eq_true, reduceCtorEq, forall_const, bne_self_eq_false, Bool.true_eq_false, Bool.false_eq_true, false_implies, and_self, implies_true, Int.toNat_zero, beq_self_eq_true, decide_true, decide_false, Bool.not_true, Bool.not_false, ↓y_lookv, y_key1, y_mlook, y_mlookn, y_mres1, y_mres0, ↓y_call, ↓y_adq0, ↓y_adq, ↓y_stepQ_call, ↓y_adq_onT, ↓y_adq_onF, ↓y_adq_onS, drawPost, isCall, isNew, isEff, Option.toList, or_false, false_or, cond_true, cond_false, not_true_eq_false, or_true, true_or, Nat.add_left_cancel_iff, Bool.false_eq_true, ↓y_q0, ↓y_q1, ↓y_q1e, y_qn, isMap, List.flatMap_cons, List.flatMap_nil, List.append_nil, List.getD_cons_succ, List.getD_cons_zero, y_hide_old, hb, wd]
          refine ⟨_, _, ACalls.oneDO (b := b) (r := .agg [.int .i64 yk, .int .i64 ym, .int .i64 ya, .int .i64 yr, .lst (ys.map exD)]) (x := ⟨ver, .cells [iD L']⟩) rfl ?_ hb, ?_, ?_⟩
          · intro s hs
            exact ih1 _ _ _ _ (by show b < n + 65; omega) (hs.hp (by show mrg n (upd h b ⟨ver, .cells [iD L]⟩) _ b = _; rw [mrg_lt hb, upd_same]))
          · exact (by simp [y_cov0, y_cov1, isNew, isEff, Option.toList])
          simp (maxSteps := 400000) -implicitDefEqProofs only [↓symPre, symPost, y_condP, y_condG, run, lver, minD, intsD, eqAll, tupD, splice, Nat.zero_add, Nat.add_zero, Nat.zero_mul, Nat.mul_one, Nat.one_mul, Nat.reduceAdd, Nat.reduceSub, Nat.reduceMul, Nat.reduceLT, Nat.reduceLeDiff, Nat.reduceEqDiff, true_and, and_true, true_implies, if_true, if_false, ite_true, reduceIte, ne_eq, not_false_eq_true, reduceCtorEq, forall_const, bne_self_eq_false, Bool.true_eq_false, Bool.false_eq_true, false_implies, and_self, implies_true, Int.toNat_zero, beq_self_eq_true, decide_true, decide_false, Bool.not_true, Bool.not_false, ↓y_lookv, y_key1, y_mlook, y_mlookn, y_mres1, y_mres0, ↓y_call, ↓y_adq0, ↓y_adq, ↓y_stepQ_call, ↓y_adq_onT, ↓y_adq_onF, ↓y_adq_onS, drawPost, isCall, isNew, isEff, Option.toList, or_false, false_or, cond_true, cond_false, not_true_eq_false, or_true, true_or, Nat.add_left_cancel_iff, Bool.false_eq_true, ↓y_q0, ↓y_q1, ↓y_q1e, y_qn, isMap, List.flatMap_cons, List.flatMap_nil, List.append_nil, List.getD_cons_succ, List.getD_cons_zero, hb, srcOf, Nat.le_refl, hf, hEt, hEf, w2, upd_upd]
          refine ⟨by rintro c (rfl | rfl | rfl | rfl | rfl) <;> rfl, by rintro c rfl; rfl, (j + 1, v + 1), ⟨by simp only; omega, by simp only; omega⟩, by simp only; omega, ?_⟩
          simp only [e1, e2, cellsF_app, cellsF_one, exD_mk, D.cells]
          refine le_to (List.replicate 6 .hole ++ [.old 6, .hole, .hole, .old 9] ++ List.replicate 51 .hole ++ [.old 61] ++ List.replicate 3 .hole) (hlo _) rfl ?_ ?_ <;> ((try simp only [y_blk_end, y_blk_hole, y_blk_nil, y_blk_old, y_wkl_end, y_wkl_top, List.replicate, List.cons_append, List.nil_append, and_true, true_and]) <;> (repeat' (first | apply And.intro | apply y_wkl | refine Exists.intro _ (And.intro rfl ?_))) <;> (try first | exact trivial | exact Wk.top _ | exact wk_int rfl | exact wk_bool rfl | exact wk_ptr rfl rfl rfl rfl | exact wk_ref rfl rfl rfl rfl rfl | exact wk_nil rfl rfl rfl | exact wk_ref rfl rfl rfl rfl (by simp) | exact wk_ref rfl rfl rfl rfl (by simp; omega) | exact wk_old (by assumption) (by simp) | exact wk_eq rfl (by first | exact Bd.int _ _ | exact Bd.bool _ | exact Bd.abool | exact Bd.nils | exact Bd.emp | exact Bd.nilp | exact Bd.nilfn | assumption | exact low_trees _ _ | exact low_treeD _ _ | exact low_ints _ _) | exact Nat.le_refl _ | exact wk_int (by simp) | exact wk_int (by omega) | exact Nat.succ_le_succ (Nat.zero_le _) | exact Nat.le_add_left _ _ | omega))
          all_goals first | exact .low _ (.ptr _ _ _ (.inl hb)) | exact wk_eq rfl hlF | exact WkL.app (WkL.low hlE) (y_wkl (wk_int rfl) (y_wkl (wk_int rfl) (y_wkl (wk_int rfl) (y_wkl (wk_int rfl) (y_wkl (wk_eq rfl hly) trivial)))))
        · have g1 : ¬ (j : Int) < (m : Int) := by omega
          obtain rfl : j = m := by omega
          simp -implicitDefEqProofs only [↓symPre, symPost, y_condP, y_condG, run, lver, minD, intsD, eqAll, tupD, splice, Nat.zero_add, Nat.add_zero, Nat.zero_mul, Nat.mul_one, Nat.one_mul, Nat.reduceAdd, Nat.reduceSub, Nat.reduceMul, Nat.reduceLT, Nat.reduceLeDiff, Nat.reduceEqDiff, true_and, and_true, true_implies, if_true, if_false, ite_true, reduceIte, ne_eq, not_false_eq_true, reduceCtorEq, forall_const, bne_self_eq_false, Bool.true_eq_false, Bool.false_eq_true, false_implies, and_self, implies_true, Int.toNat_zero, beq_self_eq_true, decide_true, decide_false, Bool.not_true, Bool.not_false, ↓y_lookv, y_key1, y_mlook, y_mlookn, y_mres1, y_mres0, ↓y_call, g1, decide_false]
          exact fin_wk (d := .agg [.int .i64 z, .int .i64 0, .int .i64 0, .int .i64 0, .lst ((itF (valF F deep) j l2).1.map exD)]) (hlo _) (wk_agg5 (y_wkl (wk_int rfl) (y_wkl (wk_int rfl) (y_wkl (wk_int rfl) (y_wkl (wk_int rfl) (y_wkl (wk_frzF exD exD_cells (low_exD n) (t := 61) rfl rfl (by simp) (hil _ _).symm) trivial)))))) ⟨rfl, rfl, rfl⟩

end Abs
end Go.Proofs.Ytoeehfnkcfeoaaa

/- parlkeep4.frontier. -/
import Derived.Test.YtokdeeagghhliaaP5
namespace Go.Proofs.Ytokdeeagghhliaa
namespace Abs
set_option linter.unusedVariables false
set_option linter.unusedSimpArgs false
set_option maxRecDepth 20000

theorem size_le_full : ∀ t : Tree, size t ≤ full t
  | .mk r t ks => by
    rw [size_mk, full_mk]
    have : ∀ l : List Tree, (∀ k ∈ l, k ∈ ks) → (l.map size).sum ≤ (l.map full).sum := by
      intro l
      induction l with
      | nil => intro _; exact Nat.le_refl _
      | cons k l ih =>
        intro hl
        have hk : k ∈ ks := hl k (by simp)
        have := size_le_full k
        have := ih fun k hk => hl k (by simp [hk])
        simp only [List.map_cons, List.sum_cons]
        omega
    have := this ks fun _ h => h
    split <;> omega
theorem nth_tree (ks : List Tree) {j : Nat} (hj : j < ks.length) : ks.getD j zeroT ∈ ks := by simp [List.getD, hj]
theorem front_len : ∀ (p : List Int) (t : Tree) (y : Sy), (frT p t y).length ≤ full t
  | [], t, y => by rw [frT]; exact full_pos t
  | i :: p, .mk r tm ks, y => by
    rw [frT, full_mk, List.length_flatten, List.map_map]
    have : ∀ l : List Nat, (∀ j ∈ l, j < ks.length) → ((l.map fun j : Nat => (if (j : Int) = i then frT p (ks.getD j zeroT) y else (wordL (ks.getD j zeroT)).map tSy).length)).sum ≤ ((l.map fun j : Nat => full (ks.getD j zeroT))).sum := by
      intro l
      induction l with
      | nil => intro _; exact Nat.le_refl _
      | cons j l ih =>
        intro hl
        have := ih fun j hj => hl j (by simp [hj])
        have h1 : (if (j : Int) = i then frT p (ks.getD j zeroT) y else (wordL (ks.getD j zeroT)).map tSy).length ≤ full (ks.getD j zeroT) := by
          split
          · exact front_len p _ y
          · rw [List.length_map]
            have := wordL_len (ks.getD j zeroT)
            have := size_le_full (ks.getD j zeroT)
            omega
        simp only [List.map_cons, List.sum_cons]
        omega
    have h2 := this (List.range ks.length) fun j hj => List.mem_range.1 hj
    have h3 : (List.range ks.length).map (fun j => full (ks.getD j zeroT)) = ks.map full := by
      refine List.ext_getElem? fun t => ?_
      by_cases ht : t < ks.length
      · simp [List.getElem?_range ht, ht, List.getD]
      · rw [List.getElem?_eq_none (by simp; omega), List.getElem?_eq_none (by simp; omega)]
    rw [h3] at h2
    refine Nat.le_trans h2 (by omega)

/-- the cells of the first kids -/
def frF (i : Int) (p : List Int) (ks : List Tree) (y : Sy) (j : Nat) : List Sy := if (j : Int) = i then frT p (ks.getD j zeroT) y else (wordL (ks.getD j zeroT)).map tSy
def frO (i : Int) (p : List Int) (ks : List Tree) (y : Sy) (j : Nat) : List Sy := ((List.range j).map (frF i p ks y)).flatten
theorem frO_s (i : Int) (p : List Int) (ks : List Tree) (y : Sy) (j : Nat) : frO i p ks y (j + 1) = frO i p ks y j ++ frF i p ks y j := by
  unfold frO; rw [List.range_succ, List.map_append, List.flatten_append]; simp
theorem frO_mono (i : Int) (p : List Int) (ks : List Tree) (y : Sy) {j k : Nat} (h : j ≤ k) : (frO i p ks y j).length ≤ (frO i p ks y k).length := by
  induction h with
  | refl => exact Nat.le_refl _
  | step _ ih => rw [frO_s, List.length_append]; omega

theorem syms_scT (l : List Sy) : (∀ d ∈ l.map symD, d.cells.length = 2) = True := by
  simp only [eq_iff_iff, iff_true]
  intro d hd
  obtain ⟨y, _, rfl⟩ := List.mem_map.1 hd; rfl
theorem syms_flatT (l : List Sy) : (l.map symD).flatMap D.cells = cellsF symD l := rfl
theorem syms_oneT (l : List Sy) : (∀ c ∈ cellsF symD l, c.one = true) = True := by
  simp only [eq_iff_iff, iff_true]
  intro c hc
  simp only [cellsF, List.mem_flatMap, List.mem_map] at hc
  obtain ⟨d, ⟨t, ht, rfl⟩, hc⟩ := hc
  simp only [symD, D.cells, List.mem_cons, List.not_mem_nil, or_false] at hc
  rcases hc with rfl | rfl <;> rfl

set_option maxHeartbeats 2000000 in
theorem pure_frontier : ∀ (p : List Int) (t : Tree) (y : Sy), full t * 40 ≤ 140737488355328 → p.length < 2 ^ 60 → Pure prog F_parlkeep4_frontier [treeD t, iD p, symD y] (.lst ((frT p t y).map symD))
  | [], .mk r tm ks, y, hf, hp => by
    intro n h
    rw [treeD_mk]
    refine K_parlkeep4_frontier.calls fun hl => ?_
    unfold C_parlkeep4_frontier
    rw [show symD y = .agg [.bool y.t, .int .i64 y.n] from rfl]
    have b0 : (((0 : Nat) : Int) == 0) = true := rfl
    simp -implicitDefEqProofs only [↓symPre, symPost, y_condP, y_condG, run, lver, minD, intsD, eqAll, tupD, splice, Nat.zero_add, Nat.add_zero, Nat.zero_mul, Nat.mul_one, Nat.one_mul, Nat.reduceAdd, Nat.reduceSub, Nat.reduceMul, Nat.reduceLT, Nat.reduceLeDiff, Nat.reduceEqDiff, true_and, and_true, true_implies, if_true, if_false, ite_true, reduceIte, ne_eq, not_false_eq_true, reduceCtorEq, forall_const, bne_self_eq_false, Bool.true_eq_false, Bool.false_eq_true, false_implies, and_self, implies_true, Int.toNat_zero, beq_self_eq_true, decide_true, decide_false, Bool.not_true, Bool.not_false, ↓y_lookv, y_key1, y_mlook, y_mlookn, y_mres1, y_mres0, ↓y_call, List.length_nil, List.map_nil, b0]
    exact fin_wk hl (wk_frzF symD symD_cells (low_symD n) (t := 14) (l := [y]) rfl rfl (by simp) rfl) ⟨rfl, rfl, rfl⟩
  | i :: q, .mk r tm ks, y, hf, hp => by
    have ih := pure_frontier q
    have hflen := front_len (i :: q) (.mk r tm ks) y
    have hres : frT (i :: q) (.mk r tm ks) y = frO i q ks y ks.length := rfl
    rw [hres] at hflen ⊢
    intro n h
    rw [treeD_mk]
    refine K_parlkeep4_frontier.calls fun hl => ?_
    unfold C_parlkeep4_frontier
    have b0 : (((q.length + 1 : Nat) : Int) == 0) = false := by simp; omega
    rw [show symD y = .agg [.bool y.t, .int .i64 y.n] from rfl]
    simp -implicitDefEqProofs only [↓symPre, symPost, y_condP, y_condG, run, lver, minD, intsD, eqAll, tupD, splice, Nat.zero_add, Nat.add_zero, Nat.zero_mul, Nat.mul_one, Nat.one_mul, Nat.reduceAdd, Nat.reduceSub, Nat.reduceMul, Nat.reduceLT, Nat.reduceLeDiff, Nat.reduceEqDiff, true_and, and_true, true_implies, if_true, if_false, ite_true, reduceIte, ne_eq, not_false_eq_true, reduceCtorEq, forall_const, bne_self_eq_false, Bool.true_eq_false, Bool.false_eq_true, false_implies, and_self, implies_true, Int.toNat_zero, beq_self_eq_true, decide_true, decide_false, Bool.not_true, Bool.not_false, ↓y_lookv, y_key1, y_mlook, y_mlookn, y_mres1, y_mres0, ↓y_call, List.length_map, b0]
    refine aloop (fun s : Nat × Nat => St.mk n ([.top, iD (i :: q), .top, .ptr (n + 3) 1 0, .top, .ptr (n + 5) 1 0, .top, .ref 2 (n + 34) s.2 0 (frO i q ks y s.1).length] ++ List.replicate 8 .top ++ [.lst (ks.map treeD), .int .i64 ks.length, .int .i64 s.1] ++ List.replicate 23 .top) h
        ([blk0, blk0, blk0, ⟨1, .cells [.int .i64 r, .int .i64 tm, .lst (ks.map treeD)]⟩, blk0, ⟨1, .cells [.bool y.t, .int .i64 y.n]⟩] ++ List.replicate 28 blk0 ++ [⟨s.2, .cells (cellsF symD (frO i q ks y s.1))⟩] ++ List.replicate 7 blk0)) (fun s => s.1 ≤ ks.length ∧ 1 ≤ s.2) (fun s => ks.length - s.1) (0, 1) ⟨Nat.zero_le _, Nat.le_refl _⟩ ?_ ?_
    · refine le_to ([.hole, .hole, .hole, .old 3, .hole, .old 5] ++ List.replicate 28 .hole ++ [.nil] ++ List.replicate 7 .hole) hl rfl ?_ ?_ <;> ((try simp only [y_blk_end, y_blk_hole, y_blk_nil, y_blk_old, y_wkl_end, y_wkl_top, List.replicate, List.cons_append, List.nil_append, and_true, true_and]) <;> (repeat' (first | apply And.intro | apply y_wkl | refine Exists.intro _ (And.intro rfl ?_))) <;> (try first | exact trivial | exact Wk.top _ | exact wk_int rfl | exact wk_bool rfl | exact wk_ptr rfl rfl rfl rfl | exact wk_ref rfl rfl rfl rfl rfl | exact wk_nil rfl rfl rfl | exact wk_ref rfl rfl rfl rfl (by simp) | exact wk_ref rfl rfl rfl rfl (by simp; omega) | exact wk_old (by assumption) (by simp) | exact wk_eq rfl (by first | exact Bd.int _ _ | exact Bd.bool _ | exact Bd.abool | exact Bd.nils | exact Bd.emp | exact Bd.nilp | exact Bd.nilfn | assumption | exact low_trees _ _ | exact low_treeD _ _ | exact low_ints _ _) | exact Nat.le_refl _ | exact wk_int (by simp) | exact wk_int (by omega) | exact Nat.succ_le_succ (Nat.zero_le _) | exact Nat.le_add_left _ _ | omega))
      all_goals first | exact .low _ (low_trees n ks) | trace_state
    · rintro ⟨j, v⟩ ⟨hj, hv⟩
      simp only at hj hv
      by_cases hjl : j < ks.length
      · have f1 : (j : Int) < (ks.length : Int) := by omega
        have f0 : (0 : Int) ≤ (j : Int) := by omega
        have e0 := nth_map_tree ks j hjl
        have ekd : ks.getD j zeroT = ks[j] := by simp [List.getD, hjl]
        have w1 : IntKind.i64.wrap ((j : Int) + 1) = ((j + 1 : Nat) : Int) := by
          have := full_len ks; rw [full_mk] at hf; rw [IntWalk.i64_in _ (by omega)]; omega
        have hs := frO_s i q ks y j
        have hm := frO_mono i q ks y (show j + 1 ≤ ks.length by omega)
        have hfk := full_kid (List.getElem_mem hjl)
        rw [full_mk] at hf hflen
        have hsk := size_le_full ks[j]
        have pWd := pure_Word ks[j] (by omega)
        have hwl := wordL_len ks[j]
        have ihk := ih ks[j] y (by omega) (by simp only [List.length_cons] at hp; omega)
        have hfF : frF i q ks y j = if (j : Int) = i then frT q ks[j] y else (wordL ks[j]).map tSy := by unfold frF; rw [ekd]
        rw [hs, List.length_append] at hm
        have hOt := take_all (cellsF symD (frO i q ks y j)) (k := (frO i q ks y j).length * 2) (by rw [cellsF_len symD symD_cells])
        have elO : (cellsF symD (frO i q ks y j)).length = (frO i q ks y j).length * 2 := cellsF_len symD symD_cells _
        generalize hO : frO i q ks y j = O at *
        generalize ks[j] = kk at *
        obtain ⟨kr, kt, kks, rfl⟩ : ∃ r' t' k', kk = .mk r' t' k' := by cases h : kk; exact ⟨_, _, _, rfl⟩
        rw [treeD_mk] at e0 ihk pWd
        rw [show symD y = .agg [.bool y.t, .int .i64 y.n] from rfl] at ihk
        have g0 : (0 : Int) < ((q.length + 1 : Nat) : Int) := by omega
        have g1 : nth ((i :: q).map (D.int .i64)) 0 = .int .i64 i := rfl
        by_cases hji : (j : Int) = i
        · have b1 : ((j : Int) == i) = true := by simp [hji]
          rw [if_pos hji] at hfF
          rw [hfF] at hs hm
          simp -implicitDefEqProofs only [↓symPre, symPost, y_condP, y_condG, run, lver, minD, intsD, eqAll, tupD, splice, Nat.zero_add, Nat.add_zero, Nat.zero_mul, Nat.mul_one, Nat.one_mul, Nat.reduceAdd, Nat.reduceSub, Nat.reduceMul, Nat.reduceLT, Nat.reduceLeDiff, Nat.reduceEqDiff, true_and, and_true, true_implies, if_true, if_false, ite_true, reduceIte, ne_eq, not_false_eq_true, reduceCtorEq, forall_const, bne_self_eq_false, Bool.true_eq_false, Bool.false_eq_true, false_implies, and_self, implies_true, Int.toNat_zero, beq_self_eq_true, decide_true, decide_false, Bool.not_true, Bool.not_false, ↓y_lookv, y_key1, y_mlook, y_mlookn, y_mres1, y_mres0, ↓y_call, List.length_map, f0, f1, decide_true, Int.toNat_natCast, e0, g0, g1, b1, Int.le_refl]
          generalize hWW : frT q (.mk kr kt kks) y = W at *
          have hfit : (O.length + W.length) * 16 ≤ 140737488355328 := by omega
          have hsl : List.take (q.length + 1 - 1) (List.map (D.int .i64) q) = List.map (D.int .i64) q := by rw [Nat.add_sub_cancel]; exact take_all _ (by simp)
          have g2 : (1 : Int) ≤ ((q.length + 1 : Nat) : Int) := by omega
          have g3 : (0 : Int) ≤ 1 := by omega
          have g4 : Int.toNat 1 = 1 := rfl
          refine adrawq hmix [] ?_
          simp (maxSteps := 400000) -implicitDefEqProofs only [↓symPre, symPost, y_condP, y_condG, run, lver, minD, intsD, eqAll, tupD, splice, Nat.zero_add, Nat.add_zero, Nat.zero_mul, Nat.mul_one, Nat.one_mul, Nat.reduceAdd, Nat.reduceSub, Nat.reduceMul, Nat.reduceLT, Nat.reduceLeDiff, Nat.reduceEqDiff, true_and, and_true, true_implies, if_true, if_false, ite_true, reduceIte, ne_eq, not_false_eq_true, reduceCtorEq, forall_const, bne_self_eq_false, Bool.true_eq_false, Bool.false_eq_true, false_implies, and_self, implies_true, Int.toNat_zero, beq_self_eq_true, decide_true, decide_false, Bool.not_true, Bool.not_false, ↓y_lookv, y_key1, y_mlook, y_mlookn, y_mres1, y_mres0, ↓y_call, ↓y_adq0, ↓y_adq, ↓y_stepQ_call, ↓y_adq_onT, ↓y_adq_onF, ↓y_adq_onS, drawPost, isCall, isNew, isEff, Option.toList, or_false, false_or, cond_true, cond_false, not_true_eq_false, or_true, true_or, Nat.add_left_cancel_iff, Bool.false_eq_true, ↓y_q0, ↓y_q1, ↓y_q1e, y_qn, isMap, List.length_map, List.length_cons, g2, g3, g4, hsl, Int.toNat_natCast, Int.le_refl]
          refine ⟨by
            rintro d (rfl | hd)
            · rfl
            · obtain ⟨y, _, rfl⟩ := List.mem_map.1 hd; rfl, _, _, ihk.draw rfl, (by simp [y_cov0, y_cov1, isNew, isEff, Option.toList]), ?_⟩
          simp (maxSteps := 400000) -implicitDefEqProofs only [↓symPre, symPost, y_condP, y_condG, run, lver, minD, intsD, eqAll, tupD, splice, Nat.zero_add, Nat.add_zero, Nat.zero_mul, Nat.mul_one, Nat.one_mul, Nat.reduceAdd, Nat.reduceSub, Nat.reduceMul, Nat.reduceLT, Nat.reduceLeDiff, Nat.reduceEqDiff, true_and, and_true, true_implies, if_true, if_false, ite_true, reduceIte, ne_eq, not_false_eq_true, reduceCtorEq, forall_const, bne_self_eq_false, Bool.true_eq_false, Bool.false_eq_true, false_implies, and_self, implies_true, Int.toNat_zero, beq_self_eq_true, decide_true, decide_false, Bool.not_true, Bool.not_false, ↓y_lookv, y_key1, y_mlook, y_mlookn, y_mres1, y_mres0, ↓y_call, ↓y_adq0, ↓y_adq, ↓y_stepQ_call, ↓y_adq_onT, ↓y_adq_onF, ↓y_adq_onS, drawPost, isCall, isNew, isEff, Option.toList, or_false, false_or, cond_true, cond_false, not_true_eq_false, or_true, true_or, Nat.add_left_cancel_iff, Bool.false_eq_true, ↓y_q0, ↓y_q1, ↓y_q1e, y_qn, isMap, srcOf, Nat.le_refl, hfit, hOt, elO, syms_scT, syms_flatT, syms_oneT, List.length_map, w1]
          refine ⟨(j + 1, v + 1), ⟨by simp only; omega, by simp only; omega⟩, by simp only; omega, ?_⟩
          have hlO : ∀ c ∈ cellsF symD O, Low n c := low_cellsF symD (low_symD n) _
          have hlW : ∀ c ∈ cellsF symD W, Low n c := low_cellsF symD (low_symD n) _
          simp only [hs, List.length_append, cellsF_app]
          refine le_to ([.hole, .hole, .hole, .old 3, .hole, .old 5] ++ List.replicate 28 .hole ++ [.old 34] ++ List.replicate 7 .hole) hl rfl ?_ ?_ <;> ((try simp only [y_blk_end, y_blk_hole, y_blk_nil, y_blk_old, y_wkl_end, y_wkl_top, List.replicate, List.cons_append, List.nil_append, and_true, true_and]) <;> (repeat' (first | apply And.intro | apply y_wkl | refine Exists.intro _ (And.intro rfl ?_))) <;> (try first | exact trivial | exact Wk.top _ | exact wk_int rfl | exact wk_bool rfl | exact wk_ptr rfl rfl rfl rfl | exact wk_ref rfl rfl rfl rfl rfl | exact wk_nil rfl rfl rfl | exact wk_ref rfl rfl rfl rfl (by simp) | exact wk_ref rfl rfl rfl rfl (by simp; omega) | exact wk_old (by assumption) (by simp) | exact wk_eq rfl (by first | exact Bd.int _ _ | exact Bd.bool _ | exact Bd.abool | exact Bd.nils | exact Bd.emp | exact Bd.nilp | exact Bd.nilfn | assumption | exact low_trees _ _ | exact low_treeD _ _ | exact low_ints _ _) | exact Nat.le_refl _ | exact wk_int (by simp) | exact wk_int (by omega) | exact Nat.succ_le_succ (Nat.zero_le _) | exact Nat.le_add_left _ _ | omega))
          all_goals first | exact .low _ (low_trees n ks) | exact WkL.app (WkL.low hlO) (WkL.low hlW) | exact .low _ (.bool _) | trace_state
        · have b1 : ((j : Int) == i) = false := by simpa using hji
          rw [if_neg hji] at hfF
          rw [hfF] at hs hm
          simp -implicitDefEqProofs only [↓symPre, symPost, y_condP, y_condG, run, lver, minD, intsD, eqAll, tupD, splice, Nat.zero_add, Nat.add_zero, Nat.zero_mul, Nat.mul_one, Nat.one_mul, Nat.reduceAdd, Nat.reduceSub, Nat.reduceMul, Nat.reduceLT, Nat.reduceLeDiff, Nat.reduceEqDiff, true_and, and_true, true_implies, if_true, if_false, ite_true, reduceIte, ne_eq, not_false_eq_true, reduceCtorEq, forall_const, bne_self_eq_false, Bool.true_eq_false, Bool.false_eq_true, false_implies, and_self, implies_true, Int.toNat_zero, beq_self_eq_true, decide_true, decide_false, Bool.not_true, Bool.not_false, ↓y_lookv, y_key1, y_mlook, y_mlookn, y_mres1, y_mres0, ↓y_call, List.length_map, f0, f1, decide_true, Int.toNat_natCast, e0, g0, g1, b1, Int.le_refl]
          have pWd' := pWd
          refine pWd.call rfl ?_
          simp -implicitDefEqProofs only [↓symPre, symPost, y_condP, y_condG, run, lver, minD, intsD, eqAll, tupD, splice, Nat.zero_add, Nat.add_zero, Nat.zero_mul, Nat.mul_one, Nat.one_mul, Nat.reduceAdd, Nat.reduceSub, Nat.reduceMul, Nat.reduceLT, Nat.reduceLeDiff, Nat.reduceEqDiff, true_and, and_true, true_implies, if_true, if_false, ite_true, reduceIte, ne_eq, not_false_eq_true, reduceCtorEq, forall_const, bne_self_eq_false, Bool.true_eq_false, Bool.false_eq_true, false_implies, and_self, implies_true, Int.toNat_zero, beq_self_eq_true, decide_true, decide_false, Bool.not_true, Bool.not_false, ↓y_lookv, y_key1, y_mlook, y_mlookn, y_mres1, y_mres0, ↓y_call]
          refine (fresh_terminals (wordL (.mk kr kt kks)) (by omega)).call (fun c hc => low_cellsF symD (low_symD 0) _ c hc) rfl rfl (Nat.le_of_ble_eq_true rfl) rfl ?_
          generalize hWW : (wordL (.mk kr kt kks)).map tSy = W at *
          have lW : (wordL (.mk kr kt kks)).length = W.length := by rw [← hWW, List.length_map]
          have elW : (cellsF symD W).length = W.length * 2 := cellsF_len symD symD_cells _
          have hWt := take_all (cellsF symD W) (k := W.length * 2) (by omega)
          rw [lW]
          have hfit : (O.length + W.length) * 16 ≤ 140737488355328 := by omega
          simp -implicitDefEqProofs only [↓symPre, symPost, y_condP, y_condG, run, lver, minD, intsD, eqAll, tupD, splice, Nat.zero_add, Nat.add_zero, Nat.zero_mul, Nat.mul_one, Nat.one_mul, Nat.reduceAdd, Nat.reduceSub, Nat.reduceMul, Nat.reduceLT, Nat.reduceLeDiff, Nat.reduceEqDiff, true_and, and_true, true_implies, if_true, if_false, ite_true, reduceIte, ne_eq, not_false_eq_true, reduceCtorEq, forall_const, bne_self_eq_false, Bool.true_eq_false, Bool.false_eq_true, false_implies, and_self, implies_true, Int.toNat_zero, beq_self_eq_true, decide_true, decide_false, Bool.not_true, Bool.not_false, ↓y_lookv, y_key1, y_mlook, y_mlookn, y_mres1, y_mres0, ↓y_call, srcOf, Nat.le_refl, hfit, hOt, elO, elW, hWt, w1]
          refine ⟨fun c hc => by have := syms_oneT W; rw [eq_iff_iff, iff_true] at this; exact this c hc, (j + 1, v + 1), ⟨by simp only; omega, by simp only; omega⟩, by simp only; omega, ?_⟩
          have hlO : ∀ c ∈ cellsF symD O, Low n c := low_cellsF symD (low_symD n) _
          have hlW : ∀ c ∈ cellsF symD W, Low n c := low_cellsF symD (low_symD n) _
          simp only [hs, List.length_append, cellsF_app]
          refine le_to ([.hole, .hole, .hole, .old 3, .hole, .old 5] ++ List.replicate 28 .hole ++ [.old 34] ++ List.replicate 7 .hole) hl rfl ?_ ?_ <;> ((try simp only [y_blk_end, y_blk_hole, y_blk_nil, y_blk_old, y_wkl_end, y_wkl_top, List.replicate, List.cons_append, List.nil_append, and_true, true_and]) <;> (repeat' (first | apply And.intro | apply y_wkl | refine Exists.intro _ (And.intro rfl ?_))) <;> (try first | exact trivial | exact Wk.top _ | exact wk_int rfl | exact wk_bool rfl | exact wk_ptr rfl rfl rfl rfl | exact wk_ref rfl rfl rfl rfl rfl | exact wk_nil rfl rfl rfl | exact wk_ref rfl rfl rfl rfl (by simp) | exact wk_ref rfl rfl rfl rfl (by simp; omega) | exact wk_old (by assumption) (by simp) | exact wk_eq rfl (by first | exact Bd.int _ _ | exact Bd.bool _ | exact Bd.abool | exact Bd.nils | exact Bd.emp | exact Bd.nilp | exact Bd.nilfn | assumption | exact low_trees _ _ | exact low_treeD _ _ | exact low_ints _ _) | exact Nat.le_refl _ | exact wk_int (by simp) | exact wk_int (by omega) | exact Nat.succ_le_succ (Nat.zero_le _) | exact Nat.le_add_left _ _ | omega))
          all_goals first | exact .low _ (low_trees n ks) | exact WkL.app (WkL.low hlO) (WkL.low hlW) | exact .low _ (.bool _) | trace_state
      · have f1 : ¬ (j : Int) < (ks.length : Int) := by omega
        obtain rfl : j = ks.length := by omega
        simp -implicitDefEqProofs only [↓symPre, symPost, y_condP, y_condG, run, lver, minD, intsD, eqAll, tupD, splice, Nat.zero_add, Nat.add_zero, Nat.zero_mul, Nat.mul_one, Nat.one_mul, Nat.reduceAdd, Nat.reduceSub, Nat.reduceMul, Nat.reduceLT, Nat.reduceLeDiff, Nat.reduceEqDiff, true_and, and_true, true_implies, if_true, if_false, ite_true, reduceIte, ne_eq, not_false_eq_true, reduceCtorEq, forall_const, bne_self_eq_false, Bool.true_eq_false, Bool.false_eq_true, false_implies, and_self, implies_true, Int.toNat_zero, beq_self_eq_true, decide_true, decide_false, Bool.not_true, Bool.not_false, ↓y_lookv, y_key1, y_mlook, y_mlookn, y_mres1, y_mres0, ↓y_call, f1, decide_false]
        exact fin_wk hl (wk_frzF symD symD_cells (low_symD n) (t := 34) rfl rfl (by simp) rfl) ⟨rfl, rfl, rfl⟩

end Abs
end Go.Proofs.Ytokdeeagghhliaa

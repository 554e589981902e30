/- Edits made of raw numbers. -/
import Derived.Test.YtfojedaccfenfaaD7
namespace Go.Proofs.Ytfojedaccfenfaa
namespace Abs
set_option linter.unusedVariables false
set_option linter.unusedSimpArgs false
set_option maxRecDepth 20000

/-- a call that changes one block of its caller's -/
theorem ACalls.one {P : Program} {f : FuncId} {ds : List D} {r : D} {n : Nat} {sl : List D} {h : Heap} {lc : List Blk} {dst : Option Nat} {K : D → Chg → Prop} {N : Nat} {H : Heap} (t : Nat) (x : Blk)
    (hN : N = n + lc.length) (hH : H = mrg n h lc) (ht : t < lc.length) (hp : ACalls P f ds N H fun d h' x' => x' = [] ∧ h' = upd H (n + t) x ∧ d = r) (hK : K r [(n + t, x)]) :
    ACalls P f ds N H (callK (St.mk n sl h lc) dst K) := by
  subst hN; subst hH
  exact hp.mono fun d h' x' ⟨h1, h2, h3⟩ => .inl ⟨[(n + t, x)], by simp [St.inr]; omega, h1, by rw [h2]; rfl, by rw [h3]; exact hK⟩

theorem ACalls.oneD {P : Program} {f : FuncId} {ds : List D} {r : D} {V : St} {args : List Opd} {dst : Option Nat} {g : AGuard} {t : Nat} {x : Blk} (ha : args.map V.val = ds)
    (hp : ∀ s, Sub s V [] → ACalls P f ds (V.n + V.lc.length) s.hp fun d h' x' => x' = [] ∧ h' = upd s.hp (V.n + t) x ∧ d = r) (ht : t < V.lc.length) :
    stepV P ⟨dst, .call f args, g⟩ V fun d' δ' => d' = r ∧ δ' = [(V.n + t, x)] := by
  intro s hs
  rw [ha]
  exact (hp s hs).mono fun d h' x' ⟨h1, h2, h3⟩ => .inl ⟨[(V.n + t, x)], by simp [St.inr]; rw [← hs.n, ← hs.len]; omega, h1, by rw [h2]; rfl, h3, rfl⟩

def newsL (terms : Int) (l : List Int) : Nat → List Int × List Int
  | 0 => (l, [])
  | j + 1 => (nextL (newsL terms l j).1 terms, (newsL terms l j).2 ++ [nextV (newsL terms l j).1 terms])
theorem newsL_len (terms : Int) (l : List Int) : ∀ j, (newsL terms l j).2.length = j
  | 0 => rfl
  | j + 1 => by simp [newsL, newsL_len terms l j]
theorem nextL_len (l : List Int) (k : Int) : (nextL l k).length ≤ l.length := by
  unfold nextL
  split
  · simp
  · split <;> simp
theorem newsL_rest (terms : Int) (l : List Int) : ∀ j, (newsL terms l j).1.length ≤ l.length
  | 0 => Nat.le_refl _
  | j + 1 => Nat.le_trans (nextL_len _ _) (newsL_rest terms l j)

/-- the edit that the numbers make -/
def mkF (n : Int) (l : List Int) : Int := nextV l (n + 1)
def mkB (n : Int) (l : List Int) : Int := nextV (nextL l (n + 1)) (min 4 (n - mkF n l + 1))
def mkR (n : Int) (l : List Int) : List Int := nextL (nextL l (n + 1)) (min 4 (n - mkF n l + 1))
def mkC (n : Int) (l : List Int) : Int := nextV (mkR n l) 4
def mkE (n terms : Int) (l : List Int) : Ed := ⟨mkF n l, mkF n l + mkB n l, (newsL terms (nextL (mkR n l) 4) (mkC n l).toNat).2⟩

theorem mkE_ok (n : Nat) (terms : Int) (l : List Int) : okE n (mkE n terms l) ∧ (mkE n terms l).w.length ≤ 3 ∧ mkE n terms l = ⟨mkF n l, mkF n l + mkB n l, (mkE n terms l).w⟩ := by
  have h1 := nextV_range l (n + 1)
  have h2 := nextV_range (nextL l (n + 1)) (min 4 (n - mkF n l + 1))
  have h3 := nextV_range (mkR n l) 4
  refine ⟨?_, ?_, rfl⟩
  · unfold okE mkE
    simp only
    unfold mkB at *
    unfold mkF at *
    omega
  · show (newsL _ _ _).2.length ≤ 3
    rw [newsL_len]
    unfold mkC
    omega

theorem pure_mkEdit (m : Nat) (terms : Int) (l : List Int) (hm : m < 2 ^ 30) (ht : terms < 2 ^ 62) (hlen : l.length < 2 ^ 60) : Pure prog F_parlkeep4_Edit [.int .i64 m, .int .i64 terms, iD l] (edD (mkE m terms l)) := by
  intro n h
  have r1 := nextV_range l (m + 1)
  have r2 := nextV_range (nextL l (m + 1)) (min 4 (m - mkF m l + 1))
  have r3 := nextV_range (mkR m l) 4
  have b1 := nextL_len l (m + 1)
  have b2 := nextL_len (nextL l (m + 1)) (min 4 (m - mkF m l + 1))
  have b3 := nextL_len (mkR m l) 4
  have hF : nextV l ((m : Int) + 1) = mkF m l := rfl
  have hB : nextV (nextL l ((m : Int) + 1)) (min 4 ((m : Int) - mkF m l + 1)) = mkB m l := rfl
  have hR : nextL (nextL l ((m : Int) + 1)) (min 4 ((m : Int) - mkF m l + 1)) = mkR m l := rfl
  have hC : nextV (mkR m l) 4 = mkC m l := rfl
  rw [hF] at r1
  rw [hB] at r2
  rw [hR] at b2
  rw [hC] at r3
  have w1 : IntKind.i64.wrap ((m : Int) + 1) = (m : Int) + 1 := IntWalk.i64_in _ (by omega)
  have w2 : IntKind.i64.wrap ((m : Int) - mkF m l) = m - mkF m l := IntWalk.i64_in _ (by omega)
  have w3 : IntKind.i64.wrap ((m : Int) - mkF m l + 1) = m - mkF m l + 1 := IntWalk.i64_in _ (by omega)
  have w4 : IntKind.i64.wrap (mkF m l + mkB m l) = mkF m l + mkB m l := IntWalk.i64_in _ (by omega)
  refine K_parlkeep4_Edit.calls fun hl => ?_
  unfold C_parlkeep4_Edit
  simp -implicitDefEqProofs only [↓symPre, symPost, y_condP, y_condG, run, lver, minD, intsD, eqAll, tupD, splice, Nat.zero_add, Nat.add_zero, Nat.zero_mul, Nat.mul_one, Nat.one_mul, Nat.reduceAdd, Nat.reduceSub, Nat.reduceMul, Nat.reduceLT, Nat.reduceLeDiff, Nat.reduceEqDiff, true_and, and_true, true_implies, if_true, if_false, ite_true, reduceIte, ne_eq, not_false_eq_true, reduceCtorEq, forall_const, bne_self_eq_false, Bool.true_eq_false, Bool.false_eq_true, false_implies, and_self, implies_true, Int.toNat_zero, beq_self_eq_true, decide_true, decide_false, Bool.not_true, Bool.not_false, ↓y_call]
  rw [w1]
  refine ACalls.one (r := .int .i64 (mkF m l)) 11 ⟨1, .cells [iD (nextL l ((m : Int) + 1))]⟩ rfl rfl (by simp) ?_ ?_
  · exact at_next l ((m : Int) + 1) (by omega) hlen (by omega) (by rw [mrg_loc]; rfl)
  simp -implicitDefEqProofs only [↓symPre, symPost, y_condP, y_condG, run, lver, minD, intsD, eqAll, tupD, splice, Nat.zero_add, Nat.add_zero, Nat.zero_mul, Nat.mul_one, Nat.one_mul, Nat.reduceAdd, Nat.reduceSub, Nat.reduceMul, Nat.reduceLT, Nat.reduceLeDiff, Nat.reduceEqDiff, true_and, and_true, true_implies, if_true, if_false, ite_true, reduceIte, ne_eq, not_false_eq_true, reduceCtorEq, forall_const, bne_self_eq_false, Bool.true_eq_false, Bool.false_eq_true, false_implies, and_self, implies_true, Int.toNat_zero, beq_self_eq_true, decide_true, decide_false, Bool.not_true, Bool.not_false, ↓y_call, w1]
  refine adrawq hmix ([[], [], [], [], [], [], [], [], [], [n + 11], [], [], [n + 8]]) ?_
  have hmn : (if (m : Int) - mkF m l + 1 < 4 then (m : Int) - mkF m l + 1 else 4) = min 4 ((m : Int) - mkF m l + 1) := by split <;> omega
  simp (maxSteps := 400000) -implicitDefEqProofs only [↓symPre, symPost, y_condP, y_condG, run, lver, minD, intsD, eqAll, tupD, splice, Nat.zero_add, Nat.add_zero, Nat.zero_mul, Nat.mul_one, Nat.one_mul, Nat.reduceAdd, Nat.reduceSub, Nat.reduceMul, Nat.reduceLT, Nat.reduceLeDiff, Nat.reduceEqDiff, true_and, and_true, true_implies, if_true, if_false, ite_true, reduceIte, ne_eq, not_false_eq_true, reduceCtorEq, forall_const, bne_self_eq_false, Bool.true_eq_false, Bool.false_eq_true, false_implies, and_self, implies_true, Int.toNat_zero, beq_self_eq_true, decide_true, decide_false, Bool.not_true, Bool.not_false, ↓y_call, ↓drawPre, drawPost, isCall, isNew, isEff, Option.toList, or_false, false_or, cond_true, cond_false, not_true_eq_false, or_true, true_or, Nat.add_left_cancel_iff, Bool.false_eq_true, w2, w3, hmn, List.foldl_cons, List.foldl_nil, List.flatMap_cons, List.flatMap_nil, List.append_nil, List.getD_cons_succ, List.getD_cons_zero]
  refine ⟨_, _, ACalls.oneD (t := 11) (r := .int .i64 (mkB m l)) (x := ⟨1, .cells [iD (mkR m l)]⟩) rfl ?_ ?_, ?_, ?_⟩
  · intro s hs
    exact at_next (nextL l ((m : Int) + 1)) (min 4 ((m : Int) - mkF m l + 1)) (by omega) (by omega) (by show n + 11 < n + 43; omega) (hs.hp (by show mrg n h _ (n + 11) = _; rw [mrg_loc]; rfl))
  · show 11 < 43; omega
  · exact (by simp [y_cov0, y_cov1, isNew, isEff, Option.toList])
  simp (maxSteps := 400000) -implicitDefEqProofs only [↓symPre, symPost, y_condP, y_condG, run, lver, minD, intsD, eqAll, tupD, splice, Nat.zero_add, Nat.add_zero, Nat.zero_mul, Nat.mul_one, Nat.one_mul, Nat.reduceAdd, Nat.reduceSub, Nat.reduceMul, Nat.reduceLT, Nat.reduceLeDiff, Nat.reduceEqDiff, true_and, and_true, true_implies, if_true, if_false, ite_true, reduceIte, ne_eq, not_false_eq_true, reduceCtorEq, forall_const, bne_self_eq_false, Bool.true_eq_false, Bool.false_eq_true, false_implies, and_self, implies_true, Int.toNat_zero, beq_self_eq_true, decide_true, decide_false, Bool.not_true, Bool.not_false, ↓y_call, ↓drawPre, drawPost, isCall, isNew, isEff, Option.toList, or_false, false_or, cond_true, cond_false, not_true_eq_false, or_true, true_or, Nat.add_left_cancel_iff, Bool.false_eq_true, w4, List.getD_cons_succ, List.getD_cons_zero]
  refine ⟨by rintro c rfl; rfl, ?_⟩
  refine ACalls.one (r := .int .i64 (mkC m l)) 11 ⟨1, .cells [iD (nextL (mkR m l) 4)]⟩ rfl rfl (by simp) ?_ ?_
  · exact at_next (mkR m l) 4 (by omega) (by omega) (by omega) (by rw [mrg_loc]; rfl)
  unfold mkE
  generalize hl3 : nextL (mkR m l) 4 = l3 at *
  obtain ⟨c, hcc⟩ : ∃ c : Nat, mkC m l = c := ⟨(mkC m l).toNat, by omega⟩
  generalize mkC m l = C at *
  subst hcc
  generalize mkF m l = F at *
  generalize mkB m l = B at *
  have hc3 : c ≤ 4 := by omega
  have hl60 : l3.length < 2 ^ 60 := by omega
  clear r1 r2 r3 b1 b2 b3 hF hB hR hC w1 w2 w3 w4 hmn hl3
  simp only [Int.toNat_natCast]
  simp -implicitDefEqProofs only [↓symPre, symPost, y_condP, y_condG, run, lver, minD, intsD, eqAll, tupD, splice, Nat.zero_add, Nat.add_zero, Nat.zero_mul, Nat.mul_one, Nat.one_mul, Nat.reduceAdd, Nat.reduceSub, Nat.reduceMul, Nat.reduceLT, Nat.reduceLeDiff, Nat.reduceEqDiff, true_and, and_true, true_implies, if_true, if_false, ite_true, reduceIte, ne_eq, not_false_eq_true, reduceCtorEq, forall_const, bne_self_eq_false, Bool.true_eq_false, Bool.false_eq_true, false_implies, and_self, implies_true, Int.toNat_zero, beq_self_eq_true, decide_true, decide_false, Bool.not_true, Bool.not_false, ↓y_call]
  refine aloop (fun p : Nat × Nat => St.mk n ([.top, .int .i64 terms, .top, .top, .top, .top, .ptr (n + 6) 1 0, .ptr (n + 11) 1 0, .ptr (n + 8) 1 0] ++ List.replicate 21 .top ++ [.int .i64 c, .int .i64 p.1] ++ List.replicate 11 .top) h
      (List.replicate 6 blk0 ++ [⟨1, .cells [.int .i64 0, .int .i64 0, .nils]⟩, blk0, ⟨1, .cells [.int .i64 F, .int .i64 (F + B), .ref 1 (n + 39) p.2 0 p.1]⟩, blk0, blk0, ⟨1, .cells [iD (newsL terms l3 p.1).1]⟩] ++ List.replicate 27 blk0 ++ [⟨p.2, .cells ((newsL terms l3 p.1).2.map (.int .i64))⟩] ++ List.replicate 3 blk0))
      (fun p => p.1 ≤ c ∧ 1 ≤ p.2) (fun p => c - p.1) (0, 1) ⟨Nat.zero_le _, Nat.le_refl _⟩ ?_ ?_
  · refine le_to (List.replicate 6 .hole ++ [.old 6, .hole, .old 8, .hole, .hole, .old 11] ++ List.replicate 27 .hole ++ [.nil] ++ List.replicate 3 .hole) hl rfl ?_ ?_ <;> ((try simp only [y_blk_end, y_blk_hole, y_blk_nil, y_blk_old, y_wkl_end, y_wkl_top, List.replicate, List.cons_append, List.nil_append, and_true, true_and]) <;> (repeat' (first | apply And.intro | apply y_wkl | refine Exists.intro _ (And.intro rfl ?_))) <;> (try first | exact trivial | exact Wk.top _ | exact wk_int rfl | exact wk_bool rfl | exact wk_ptr rfl rfl rfl rfl | exact wk_ref rfl rfl rfl rfl rfl | exact wk_nil rfl rfl rfl | exact wk_ref rfl rfl rfl rfl (by simp) | exact wk_ref rfl rfl rfl rfl (by simp; omega) | exact wk_old (by assumption) (by simp) | exact wk_eq rfl (by first | exact Bd.int _ _ | exact Bd.bool _ | exact Bd.abool | exact Bd.nils | exact Bd.emp | exact Bd.nilp | exact Bd.nilfn | assumption | exact low_trees _ _ | exact low_treeD _ _ | exact low_ints _ _) | exact Nat.le_refl _ | exact wk_int (by simp) | exact wk_int (by omega) | exact Nat.succ_le_succ (Nat.zero_le _) | exact Nat.le_add_left _ _ | omega))
  · rintro ⟨j, v⟩ ⟨hj, hv⟩
    simp only at hj hv
    have hAl := newsL_len terms l3 j
    have hRl := newsL_rest terms l3 j
    have hN1 : newsL terms l3 (j + 1) = (nextL (newsL terms l3 j).1 terms, (newsL terms l3 j).2 ++ [nextV (newsL terms l3 j).1 terms]) := rfl
    generalize hst : newsL terms l3 j = st at *
    obtain ⟨R, A⟩ := st
    simp only at hAl hRl hN1
    by_cases hlt : j < c
    · have h1 : (j : Int) < (c : Int) := by omega
      have w1 : IntKind.i64.wrap ((j : Int) + 1) = ((j + 1 : Nat) : Int) := by rw [IntWalk.i64_in _ (by omega)]; omega
      have hf8 : (j + 1) * 8 ≤ 140737488355328 := by omega
      have hCt := take_all (A.map (D.int .i64)) (k := j) (by simp [hAl])
      simp -implicitDefEqProofs only [↓symPre, symPost, y_condP, y_condG, run, lver, minD, intsD, eqAll, tupD, splice, Nat.zero_add, Nat.add_zero, Nat.zero_mul, Nat.mul_one, Nat.one_mul, Nat.reduceAdd, Nat.reduceSub, Nat.reduceMul, Nat.reduceLT, Nat.reduceLeDiff, Nat.reduceEqDiff, true_and, and_true, true_implies, if_true, if_false, ite_true, reduceIte, ne_eq, not_false_eq_true, reduceCtorEq, forall_const, bne_self_eq_false, Bool.true_eq_false, Bool.false_eq_true, false_implies, and_self, implies_true, Int.toNat_zero, beq_self_eq_true, decide_true, decide_false, Bool.not_true, Bool.not_false, ↓y_call, h1, decide_true]
      refine adrawq hmix ([[], [], [], [], [n + 11], [], [], [], [n + 8]]) ?_
      simp (maxSteps := 400000) -implicitDefEqProofs only [↓symPre, symPost, y_condP, y_condG, run, lver, minD, intsD, eqAll, tupD, splice, Nat.zero_add, Nat.add_zero, Nat.zero_mul, Nat.mul_one, Nat.one_mul, Nat.reduceAdd, Nat.reduceSub, Nat.reduceMul, Nat.reduceLT, Nat.reduceLeDiff, Nat.reduceEqDiff, true_and, and_true, true_implies, if_true, if_false, ite_true, reduceIte, ne_eq, not_false_eq_true, reduceCtorEq, forall_const, bne_self_eq_false, Bool.true_eq_false, Bool.false_eq_true, false_implies, and_self, implies_true, Int.toNat_zero, beq_self_eq_true, decide_true, decide_false, Bool.not_true, Bool.not_false, ↓y_call, ↓drawPre, drawPost, isCall, isNew, isEff, Option.toList, or_false, false_or, cond_true, cond_false, not_true_eq_false, or_true, true_or, Nat.add_left_cancel_iff, Bool.false_eq_true, List.flatMap_cons, List.flatMap_nil, List.append_nil, List.getD_cons_succ, List.getD_cons_zero]
      refine ⟨_, _, ACalls.oneD (t := 11) (r := .int .i64 (nextV R terms)) (x := ⟨1, .cells [iD (nextL R terms)]⟩) rfl ?_ ?_, ?_, ?_⟩
      · intro s hs
        exact at_next R terms ht (by omega) (by show n + 11 < n + 43; omega) (hs.hp (by show mrg n h _ (n + 11) = _; rw [mrg_loc]; rfl))
      · show 11 < 43; omega
      · exact (by simp [y_cov0, y_cov1, isNew, isEff, Option.toList])
      simp (maxSteps := 400000) -implicitDefEqProofs only [↓symPre, symPost, y_condP, y_condG, run, lver, minD, intsD, eqAll, tupD, splice, Nat.zero_add, Nat.add_zero, Nat.zero_mul, Nat.mul_one, Nat.one_mul, Nat.reduceAdd, Nat.reduceSub, Nat.reduceMul, Nat.reduceLT, Nat.reduceLeDiff, Nat.reduceEqDiff, true_and, and_true, true_implies, if_true, if_false, ite_true, reduceIte, ne_eq, not_false_eq_true, reduceCtorEq, forall_const, bne_self_eq_false, Bool.true_eq_false, Bool.false_eq_true, false_implies, and_self, implies_true, Int.toNat_zero, beq_self_eq_true, decide_true, decide_false, Bool.not_true, Bool.not_false, ↓y_call, ↓drawPre, drawPost, isCall, isNew, isEff, Option.toList, or_false, false_or, cond_true, cond_false, not_true_eq_false, or_true, true_or, Nat.add_left_cancel_iff, Bool.false_eq_true, List.length_map, srcOf, Nat.le_refl, hf8, hCt, hAl, List.getD_cons_succ, List.getD_cons_zero, w1]
      refine ⟨by rintro c rfl; rfl, by rintro c rfl; rfl, (j + 1, v + 1), ⟨by simp only; omega, by simp only; omega⟩, by simp only; omega, ?_⟩
      simp only [hN1, List.map_append, List.map_cons, List.map_nil]
      refine le_to (List.replicate 6 .hole ++ [.old 6, .hole, .old 8, .hole, .hole, .old 11] ++ List.replicate 27 .hole ++ [.old 39] ++ List.replicate 3 .hole) hl rfl ?_ ?_ <;> ((try simp only [y_blk_end, y_blk_hole, y_blk_nil, y_blk_old, y_wkl_end, y_wkl_top, List.replicate, List.cons_append, List.nil_append, and_true, true_and]) <;> (repeat' (first | apply And.intro | apply y_wkl | refine Exists.intro _ (And.intro rfl ?_))) <;> (try first | exact trivial | exact Wk.top _ | exact wk_int rfl | exact wk_bool rfl | exact wk_ptr rfl rfl rfl rfl | exact wk_ref rfl rfl rfl rfl rfl | exact wk_nil rfl rfl rfl | exact wk_ref rfl rfl rfl rfl (by simp) | exact wk_ref rfl rfl rfl rfl (by simp; omega) | exact wk_old (by assumption) (by simp) | exact wk_eq rfl (by first | exact Bd.int _ _ | exact Bd.bool _ | exact Bd.abool | exact Bd.nils | exact Bd.emp | exact Bd.nilp | exact Bd.nilfn | assumption | exact low_trees _ _ | exact low_treeD _ _ | exact low_ints _ _) | exact Nat.le_refl _ | exact wk_int (by simp) | exact wk_int (by omega) | exact Nat.succ_le_succ (Nat.zero_le _) | exact Nat.le_add_left _ _ | omega))
      exact WkL.low (fun c hc => by
        rcases List.mem_append.1 hc with hc | hc
        · exact low_iD _ _ c hc
        · simp only [List.mem_cons, List.not_mem_nil, or_false] at hc
          subst hc; exact .int ..)
    · have h1 : ¬ (j : Int) < (c : Int) := by omega
      have hjc : j = c := by omega
      subst hjc
      simp -implicitDefEqProofs only [↓symPre, symPost, y_condP, y_condG, run, lver, minD, intsD, eqAll, tupD, splice, Nat.zero_add, Nat.add_zero, Nat.zero_mul, Nat.mul_one, Nat.one_mul, Nat.reduceAdd, Nat.reduceSub, Nat.reduceMul, Nat.reduceLT, Nat.reduceLeDiff, Nat.reduceEqDiff, true_and, and_true, true_implies, if_true, if_false, ite_true, reduceIte, ne_eq, not_false_eq_true, reduceCtorEq, forall_const, bne_self_eq_false, Bool.true_eq_false, Bool.false_eq_true, false_implies, and_self, implies_true, Int.toNat_zero, beq_self_eq_true, decide_true, decide_false, Bool.not_true, Bool.not_false, ↓y_call, h1, decide_false]
      rw [hst]
      exact fin_wk hl (wk_agg3 wk_i wk_i (wk_ints (t := 39) rfl hAl.symm)) ⟨rfl, rfl, rfl⟩

end Abs
end Go.Proofs.Ytfojedaccfenfaa

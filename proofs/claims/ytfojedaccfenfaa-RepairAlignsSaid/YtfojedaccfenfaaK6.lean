/- RepairRun. -/
import Derived.Test.YtfojedaccfenfaaK4
import Derived.Test.YtfojedaccfenfaaK5
namespace Go.Proofs.Ytfojedaccfenfaa
namespace Abs
set_option linter.unusedVariables false
set_option linter.unusedSimpArgs false
set_option maxRecDepth 20000

/-- a live slice of this frame's, data from now on -/
theorem fz_locF {α : Type} (f : α → D) {n : Nat} {h : Heap} {lc : List Blk} {Z : List Nat} {sz t ver len : Nat} {l : List α} (hsz : ∀ x, (f x).cells.length = sz) (hz : n + t ∈ Z) (hb : lc[t]? = some ⟨ver, .cells (cellsF f l)⟩) (hl : len = l.length) :
    Fz (mrg n h lc) Z (.ref sz (n + t) ver 0 len) (.lst (l.map f)) := by
  subst hl
  refine .frz sz (n + t) ver 0 l.length (cellsF f l) _ hz (by rw [mrg_loc]; simp [List.getD, hb]) (by simp) (by rw [cellsF_len f hsz]; omega) (fun d hd => ?_) fun i d hd j e he => ?_
  · obtain ⟨x, _, rfl⟩ := List.mem_map.1 hd; exact hsz x
  · simp only [List.getElem?_map, Option.map_eq_some_iff] at hd
    obtain ⟨x, hx, rfl⟩ := hd
    have := cellsF_get f hsz l i j x e hx he
    have e1 : nth (cellsF f l) (0 + i * sz + j) = e := by simp [nth, List.getD, this]
    rw [e1]
    exact .same _

theorem sum_nonneg {l : List Int} (h : ∀ x ∈ l, 0 ≤ x) : 0 ≤ l.sum := by
  induction l with
  | nil => simp
  | cons a l ih =>
    have := h a (by simp)
    have := ih fun x hx => h x (by simp [hx])
    simp; omega
theorem sum_take_leI {l : List Int} (h : ∀ x ∈ l, 0 ≤ x) (i : Nat) : 0 ≤ (l.take i).sum ∧ (l.take i).sum ≤ l.sum := by
  have h1 := sum_nonneg (l := l.take i) fun x hx => h x (List.mem_of_mem_take hx)
  have h2 := sum_nonneg (l := l.drop i) fun x hx => h x (List.mem_of_mem_drop hx)
  have h3 : (l.take i ++ l.drop i).sum = l.sum := by rw [List.take_append_drop]
  rw [List.sum_append] at h3
  omega
theorem sum_take_succI (l : List Int) (i : Nat) (hi : i < l.length) : (l.take (i + 1)).sum = (l.take i).sum + l[i] := by
  rw [List.take_succ_eq_append_getElem hi, List.sum_append]; simp
theorem costR_range {q : Co} (hq : okCo q 100) (o : Ope) : 0 ≤ costR q o ∧ costR q o ≤ 100 := by
  obtain ⟨h1, h2, h3, h4, h5, h6⟩ := hq
  unfold costR
  split
  · omega
  · split
    · omega
    · split <;> omega

set_option maxHeartbeats 8000000 in
theorem pure_RepairRun (w0 v0 c0 : List Int) (h1 : w0.length < 2 ^ 60) (h2 : v0.length < 2 ^ 60) (h3 : c0.length < 2 ^ 60) : Pure prog F_parlkeep4_RepairRun [iD w0, iD v0, iD c0] (.bool true) := by
  intro n h
  have pR0 := pure_RunOk [4] [⟨3, 0, 5⟩] [5] (by simp) (by simp) (by simp [runR])
  have pE0 := pure_Equal [5] [5] (by simp) (by simp)
  have hE0 : decide (([5] : List Int) = [5]) = true := by simp
  rw [hE0] at pE0
  have pW := pure_MWord 3 30 w0 (by omega) (by omega) (by omega) h1
  have pV := pure_MWord 3 30 v0 (by omega) (by omega) (by omega) h2
  have lW : (wordM 3 30 w0).length ≤ 30 := by simp [wordM]; omega
  have lV : (wordM 3 30 v0).length ≤ 30 := by simp [wordM]; omega
  generalize wordM 3 30 w0 = w at *
  generalize wordM 3 30 v0 = v at *
  refine K_parlkeep4_RepairRun.calls fun hl => ?_
  unfold C_parlkeep4_RepairRun
  simp -implicitDefEqProofs only [↓symPre, symPost, y_condP, y_condG, run, lver, minD, intsD, eqAll, tupD, splice, Nat.zero_add, Nat.add_zero, Nat.zero_mul, Nat.mul_one, Nat.one_mul, Nat.reduceAdd, Nat.reduceSub, Nat.reduceMul, Nat.reduceLT, Nat.reduceLeDiff, Nat.reduceEqDiff, true_and, and_true, true_implies, if_true, if_false, ite_true, reduceIte, ne_eq, not_false_eq_true, reduceCtorEq, forall_const, bne_self_eq_false, Bool.true_eq_false, Bool.false_eq_true, false_implies, and_self, implies_true, Int.toNat_zero, beq_self_eq_true, decide_true, decide_false, Bool.not_true, Bool.not_false, ↓y_call]
  refine pR0.callZ [19, 21] rfl rfl (by simp [Con.isOpq]) ⟨fz_locF (D.int .i64) (l := [4]) (fun _ => rfl) (by simp) rfl rfl, fz_locF opeD (l := [⟨3, 0, 5⟩]) opeD_cells (by simp) rfl rfl, trivial⟩ ?_
  simp -implicitDefEqProofs only [↓symPre, symPost, y_condP, y_condG, run, lver, minD, intsD, eqAll, tupD, splice, Nat.zero_add, Nat.add_zero, Nat.zero_mul, Nat.mul_one, Nat.one_mul, Nat.reduceAdd, Nat.reduceSub, Nat.reduceMul, Nat.reduceLT, Nat.reduceLeDiff, Nat.reduceEqDiff, true_and, and_true, true_implies, if_true, if_false, ite_true, reduceIte, ne_eq, not_false_eq_true, reduceCtorEq, forall_const, bne_self_eq_false, Bool.true_eq_false, Bool.false_eq_true, false_implies, and_self, implies_true, Int.toNat_zero, beq_self_eq_true, decide_true, decide_false, Bool.not_true, Bool.not_false, ↓y_call, bne_self_eq_false]
  refine pE0.callF (.bool _) rfl (y_wkl (.low _ (low_ints _ _)) (y_wkl (fz_ints (l := [5]) (by omega) (by show mrg n h _ (n + 29) = _; rw [mrg_loc]; rfl) rfl) trivial)) ?_
  simp -implicitDefEqProofs only [↓symPre, symPost, y_condP, y_condG, run, lver, minD, intsD, eqAll, tupD, splice, Nat.zero_add, Nat.add_zero, Nat.zero_mul, Nat.mul_one, Nat.one_mul, Nat.reduceAdd, Nat.reduceSub, Nat.reduceMul, Nat.reduceLT, Nat.reduceLeDiff, Nat.reduceEqDiff, true_and, and_true, true_implies, if_true, if_false, ite_true, reduceIte, ne_eq, not_false_eq_true, reduceCtorEq, forall_const, bne_self_eq_false, Bool.true_eq_false, Bool.false_eq_true, false_implies, and_self, implies_true, Int.toNat_zero, beq_self_eq_true, decide_true, decide_false, Bool.not_true, Bool.not_false, ↓y_call]
  refine pW.call rfl ?_
  simp -implicitDefEqProofs only [↓symPre, symPost, y_condP, y_condG, run, lver, minD, intsD, eqAll, tupD, splice, Nat.zero_add, Nat.add_zero, Nat.zero_mul, Nat.mul_one, Nat.one_mul, Nat.reduceAdd, Nat.reduceSub, Nat.reduceMul, Nat.reduceLT, Nat.reduceLeDiff, Nat.reduceEqDiff, true_and, and_true, true_implies, if_true, if_false, ite_true, reduceIte, ne_eq, not_false_eq_true, reduceCtorEq, forall_const, bne_self_eq_false, Bool.true_eq_false, Bool.false_eq_true, false_implies, and_self, implies_true, Int.toNat_zero, beq_self_eq_true, decide_true, decide_false, Bool.not_true, Bool.not_false, ↓y_call]
  refine pV.call rfl ?_
  simp -implicitDefEqProofs only [↓symPre, symPost, y_condP, y_condG, run, lver, minD, intsD, eqAll, tupD, splice, Nat.zero_add, Nat.add_zero, Nat.zero_mul, Nat.mul_one, Nat.one_mul, Nat.reduceAdd, Nat.reduceSub, Nat.reduceMul, Nat.reduceLT, Nat.reduceLeDiff, Nat.reduceEqDiff, true_and, and_true, true_implies, if_true, if_false, ite_true, reduceIte, ne_eq, not_false_eq_true, reduceCtorEq, forall_const, bne_self_eq_false, Bool.true_eq_false, Bool.false_eq_true, false_implies, and_self, implies_true, Int.toNat_zero, beq_self_eq_true, decide_true, decide_false, Bool.not_true, Bool.not_false, ↓y_call]
  refine (at_price c0 h3 _ _).mono fun d h' x ⟨e1, e2, q, hq, e3⟩ => .inl ⟨[], by simp [St.inr], e2, by rw [e1]; rfl, ?_⟩
  subst e3
  have pA := pure_Align q hq w v (by omega) (by omega)
  have hal := alignR_len q 0 w v
  have hrun := align_run q w 0 w v rfl (Nat.zero_le _) []
  have hcost := align_cost q 0 w v
  have hdr := dR_range hq w v
  rw [List.nil_append] at hrun
  have pR := pure_RunOk w (alignR q 0 w v) v (by omega) (by omega) hrun
  have pE := pure_Equal v v (by omega) (by omega)
  have hE : decide (v = v) = true := by simp
  rw [hE] at pE
  generalize alignR q 0 w v = L at *
  generalize dR q w v = dd at *
  unfold coD at pA ⊢
  simp -implicitDefEqProofs only [↓symPre, symPost, y_condP, y_condG, run, lver, minD, intsD, eqAll, tupD, splice, Nat.zero_add, Nat.add_zero, Nat.zero_mul, Nat.mul_one, Nat.one_mul, Nat.reduceAdd, Nat.reduceSub, Nat.reduceMul, Nat.reduceLT, Nat.reduceLeDiff, Nat.reduceEqDiff, true_and, and_true, true_implies, if_true, if_false, ite_true, reduceIte, ne_eq, not_false_eq_true, reduceCtorEq, forall_const, bne_self_eq_false, Bool.true_eq_false, Bool.false_eq_true, false_implies, and_self, implies_true, Int.toNat_zero, beq_self_eq_true, decide_true, decide_false, Bool.not_true, Bool.not_false, ↓y_call]
  refine pA.call rfl ?_
  simp -implicitDefEqProofs only [↓symPre, symPost, y_condP, y_condG, run, lver, minD, intsD, eqAll, tupD, splice, Nat.zero_add, Nat.add_zero, Nat.zero_mul, Nat.mul_one, Nat.one_mul, Nat.reduceAdd, Nat.reduceSub, Nat.reduceMul, Nat.reduceLT, Nat.reduceLeDiff, Nat.reduceEqDiff, true_and, and_true, true_implies, if_true, if_false, ite_true, reduceIte, ne_eq, not_false_eq_true, reduceCtorEq, forall_const, bne_self_eq_false, Bool.true_eq_false, Bool.false_eq_true, false_implies, and_self, implies_true, Int.toNat_zero, beq_self_eq_true, decide_true, decide_false, Bool.not_true, Bool.not_false, ↓y_call]
  refine pR.call rfl ?_
  have c03 : (0 : Int) < ((3 : Nat) : Int) := by decide
  have c13 : (1 : Int) < ((3 : Nat) : Int) := by decide
  have c23 : (2 : Int) < ((3 : Nat) : Int) := by decide
  have c01 : (0 : Int) ≤ 1 := by decide
  have c02 : (0 : Int) ≤ 2 := by decide
  have t1 : (1 : Int).toNat = 1 := rfl
  have t2 : (2 : Int).toNat = 2 := rfl
  have hnn : ∀ x ∈ L.map (costR q), 0 ≤ x := fun x hx => by
    obtain ⟨o, _, rfl⟩ := List.mem_map.1 hx
    exact (costR_range hq o).1
  simp -implicitDefEqProofs only [↓symPre, symPost, y_condP, y_condG, run, lver, minD, intsD, eqAll, tupD, splice, Nat.zero_add, Nat.add_zero, Nat.zero_mul, Nat.mul_one, Nat.one_mul, Nat.reduceAdd, Nat.reduceSub, Nat.reduceMul, Nat.reduceLT, Nat.reduceLeDiff, Nat.reduceEqDiff, true_and, and_true, true_implies, if_true, if_false, ite_true, reduceIte, ne_eq, not_false_eq_true, reduceCtorEq, forall_const, bne_self_eq_false, Bool.true_eq_false, Bool.false_eq_true, false_implies, and_self, implies_true, Int.toNat_zero, beq_self_eq_true, decide_true, decide_false, Bool.not_true, Bool.not_false, ↓y_call, List.length_map]
  refine aloop (fun i : Nat => St.mk n ([.top, iD v, .top, .top, .top, .top, .top, .top, .top, .ptr (n + 9) 1 0, .int .i64 dd, .top, .int .i64 0, iD v, .int .i64 0, .int .i64 ((L.map (costR q)).take i).sum] ++ List.replicate 37 .top ++ [.lst (L.map opeD), .int .i64 L.length, .int .i64 i] ++ List.replicate 35 .top) h
      (List.replicate 9 blk0 ++ [⟨1, .cells [.int .i64 q.a, .int .i64 q.b, .int .i64 q.c]⟩] ++ List.replicate 81 blk0)) (fun i => i ≤ L.length) (fun i => L.length - i) 0 (Nat.zero_le _) ?_ ?_
  · refine le_to (List.replicate 9 .hole ++ [.old 9] ++ List.replicate 81 .hole) hl rfl ?_ ?_ <;> ((try simp only [y_blk_end, y_blk_hole, y_blk_nil, y_blk_old, y_wkl_end, y_wkl_top, List.replicate, List.cons_append, List.nil_append, and_true, true_and]) <;> (repeat' (first | apply And.intro | apply y_wkl | refine Exists.intro _ (And.intro rfl ?_))) <;> (try first | exact trivial | exact Wk.top _ | exact wk_int rfl | exact wk_bool rfl | exact wk_ptr rfl rfl rfl rfl | exact wk_ref rfl rfl rfl rfl rfl | exact wk_nil rfl rfl rfl | exact wk_ref rfl rfl rfl rfl (by simp) | exact wk_ref rfl rfl rfl rfl (by simp; omega) | exact wk_old (by assumption) (by simp) | exact wk_eq rfl (by first | exact Bd.int _ _ | exact Bd.bool _ | exact Bd.abool | exact Bd.nils | exact Bd.emp | exact Bd.nilp | exact Bd.nilfn | assumption | exact low_trees _ _ | exact low_treeD _ _ | exact low_ints _ _) | exact Nat.le_refl _ | exact wk_int (by simp) | exact wk_int (by omega) | exact Nat.succ_le_succ (Nat.zero_le _) | exact Nat.le_add_left _ _ | omega))
    exact wk_eq rfl (low_opes _ _)
  · intro i hi
    by_cases hlt : i < L.length
    · have f1 : (i : Int) < (L.length : Int) := by omega
      have f0 : (0 : Int) ≤ (i : Int) := by omega
      have w1 : IntKind.i64.wrap ((i : Int) + 1) = ((i + 1 : Nat) : Int) := by rw [IntWalk.i64_in _ (by omega)]; omega
      have e0 : nth (L.map opeD) i = .agg [.int .i64 L[i].k, .int .i64 L[i].p, .int .i64 L[i].x] := nth_mapF opeD L i hlt
      have hs := sum_take_succI (L.map (costR q)) i (by simpa using hlt)
      rw [List.getElem_map] at hs
      have hb := sum_take_leI hnn (i + 1)
      have hb2 := sum_take_leI hnn i
      have hcr := costR_range hq L[i]
      generalize ((L.map (costR q)).take i).sum = S at *
      have next : ∀ c, costR q L[i] = c → (((L.map (costR q)).take (i + 1)).sum = S + c) := fun c hc => by rw [hs, hc]
      generalize hoo : L[i] = o at *
      obtain ⟨k, p, x⟩ := o
      simp only at e0
      by_cases g1 : k > 0
      · by_cases g2 : k ≤ 3
        · have hk : k = 1 ∨ k = 2 ∨ k = 3 := by omega
          rcases hk with rfl | rfl | rfl
          · have hc : costR q ⟨1, p, x⟩ = q.a := rfl
            rw [hc] at hs hcr
            have u1 : IntKind.i64.wrap ((1 : Int) - 1) = 0 := rfl
            have u2 : IntKind.i64.wrap (S + q.a) = S + q.a := IntWalk.i64_in _ (by omega)
            simp -implicitDefEqProofs only [↓symPre, symPost, y_condP, y_condG, run, lver, minD, intsD, eqAll, tupD, splice, Nat.zero_add, Nat.add_zero, Nat.zero_mul, Nat.mul_one, Nat.one_mul, Nat.reduceAdd, Nat.reduceSub, Nat.reduceMul, Nat.reduceLT, Nat.reduceLeDiff, Nat.reduceEqDiff, true_and, and_true, true_implies, if_true, if_false, ite_true, reduceIte, ne_eq, not_false_eq_true, reduceCtorEq, forall_const, bne_self_eq_false, Bool.true_eq_false, Bool.false_eq_true, false_implies, and_self, implies_true, Int.toNat_zero, beq_self_eq_true, decide_true, decide_false, Bool.not_true, Bool.not_false, ↓y_call, List.length_map, f1, f0, decide_true, Int.toNat_natCast, e0, g1, g2, u1, u2, w1, c03, Int.le_refl]
            refine ⟨i + 1, by omega, by omega, ?_⟩
            rw [hs]
            refine le_to (List.replicate 9 .hole ++ [.old 9] ++ List.replicate 81 .hole) hl rfl ?_ ?_ <;> ((try simp only [y_blk_end, y_blk_hole, y_blk_nil, y_blk_old, y_wkl_end, y_wkl_top, List.replicate, List.cons_append, List.nil_append, and_true, true_and]) <;> (repeat' (first | apply And.intro | apply y_wkl | refine Exists.intro _ (And.intro rfl ?_))) <;> (try first | exact trivial | exact Wk.top _ | exact wk_int rfl | exact wk_bool rfl | exact wk_ptr rfl rfl rfl rfl | exact wk_ref rfl rfl rfl rfl rfl | exact wk_nil rfl rfl rfl | exact wk_ref rfl rfl rfl rfl (by simp) | exact wk_ref rfl rfl rfl rfl (by simp; omega) | exact wk_old (by assumption) (by simp) | exact wk_eq rfl (by first | exact Bd.int _ _ | exact Bd.bool _ | exact Bd.abool | exact Bd.nils | exact Bd.emp | exact Bd.nilp | exact Bd.nilfn | assumption | exact low_trees _ _ | exact low_treeD _ _ | exact low_ints _ _) | exact Nat.le_refl _ | exact wk_int (by simp) | exact wk_int (by omega) | exact Nat.succ_le_succ (Nat.zero_le _) | exact Nat.le_add_left _ _ | omega))
            exact wk_eq rfl (low_opes _ _)
          · have hc : costR q ⟨2, p, x⟩ = q.b := rfl
            rw [hc] at hs hcr
            have u1 : IntKind.i64.wrap ((2 : Int) - 1) = 1 := rfl
            have u2 : IntKind.i64.wrap (S + q.b) = S + q.b := IntWalk.i64_in _ (by omega)
            simp -implicitDefEqProofs only [↓symPre, symPost, y_condP, y_condG, run, lver, minD, intsD, eqAll, tupD, splice, Nat.zero_add, Nat.add_zero, Nat.zero_mul, Nat.mul_one, Nat.one_mul, Nat.reduceAdd, Nat.reduceSub, Nat.reduceMul, Nat.reduceLT, Nat.reduceLeDiff, Nat.reduceEqDiff, true_and, and_true, true_implies, if_true, if_false, ite_true, reduceIte, ne_eq, not_false_eq_true, reduceCtorEq, forall_const, bne_self_eq_false, Bool.true_eq_false, Bool.false_eq_true, false_implies, and_self, implies_true, Int.toNat_zero, beq_self_eq_true, decide_true, decide_false, Bool.not_true, Bool.not_false, ↓y_call, List.length_map, f1, f0, decide_true, Int.toNat_natCast, e0, g1, g2, u1, u2, w1, c13, c01, t1]
            refine ⟨i + 1, by omega, by omega, ?_⟩
            rw [hs]
            refine le_to (List.replicate 9 .hole ++ [.old 9] ++ List.replicate 81 .hole) hl rfl ?_ ?_ <;> ((try simp only [y_blk_end, y_blk_hole, y_blk_nil, y_blk_old, y_wkl_end, y_wkl_top, List.replicate, List.cons_append, List.nil_append, and_true, true_and]) <;> (repeat' (first | apply And.intro | apply y_wkl | refine Exists.intro _ (And.intro rfl ?_))) <;> (try first | exact trivial | exact Wk.top _ | exact wk_int rfl | exact wk_bool rfl | exact wk_ptr rfl rfl rfl rfl | exact wk_ref rfl rfl rfl rfl rfl | exact wk_nil rfl rfl rfl | exact wk_ref rfl rfl rfl rfl (by simp) | exact wk_ref rfl rfl rfl rfl (by simp; omega) | exact wk_old (by assumption) (by simp) | exact wk_eq rfl (by first | exact Bd.int _ _ | exact Bd.bool _ | exact Bd.abool | exact Bd.nils | exact Bd.emp | exact Bd.nilp | exact Bd.nilfn | assumption | exact low_trees _ _ | exact low_treeD _ _ | exact low_ints _ _) | exact Nat.le_refl _ | exact wk_int (by simp) | exact wk_int (by omega) | exact Nat.succ_le_succ (Nat.zero_le _) | exact Nat.le_add_left _ _ | omega))
            exact wk_eq rfl (low_opes _ _)
          · have hc : costR q ⟨3, p, x⟩ = q.c := rfl
            rw [hc] at hs hcr
            have u1 : IntKind.i64.wrap ((3 : Int) - 1) = 2 := rfl
            have u2 : IntKind.i64.wrap (S + q.c) = S + q.c := IntWalk.i64_in _ (by omega)
            simp -implicitDefEqProofs only [↓symPre, symPost, y_condP, y_condG, run, lver, minD, intsD, eqAll, tupD, splice, Nat.zero_add, Nat.add_zero, Nat.zero_mul, Nat.mul_one, Nat.one_mul, Nat.reduceAdd, Nat.reduceSub, Nat.reduceMul, Nat.reduceLT, Nat.reduceLeDiff, Nat.reduceEqDiff, true_and, and_true, true_implies, if_true, if_false, ite_true, reduceIte, ne_eq, not_false_eq_true, reduceCtorEq, forall_const, bne_self_eq_false, Bool.true_eq_false, Bool.false_eq_true, false_implies, and_self, implies_true, Int.toNat_zero, beq_self_eq_true, decide_true, decide_false, Bool.not_true, Bool.not_false, ↓y_call, List.length_map, f1, f0, decide_true, Int.toNat_natCast, e0, g1, g2, u1, u2, w1, c23, c02, t2]
            refine ⟨i + 1, by omega, by omega, ?_⟩
            rw [hs]
            refine le_to (List.replicate 9 .hole ++ [.old 9] ++ List.replicate 81 .hole) hl rfl ?_ ?_ <;> ((try simp only [y_blk_end, y_blk_hole, y_blk_nil, y_blk_old, y_wkl_end, y_wkl_top, List.replicate, List.cons_append, List.nil_append, and_true, true_and]) <;> (repeat' (first | apply And.intro | apply y_wkl | refine Exists.intro _ (And.intro rfl ?_))) <;> (try first | exact trivial | exact Wk.top _ | exact wk_int rfl | exact wk_bool rfl | exact wk_ptr rfl rfl rfl rfl | exact wk_ref rfl rfl rfl rfl rfl | exact wk_nil rfl rfl rfl | exact wk_ref rfl rfl rfl rfl (by simp) | exact wk_ref rfl rfl rfl rfl (by simp; omega) | exact wk_old (by assumption) (by simp) | exact wk_eq rfl (by first | exact Bd.int _ _ | exact Bd.bool _ | exact Bd.abool | exact Bd.nils | exact Bd.emp | exact Bd.nilp | exact Bd.nilfn | assumption | exact low_trees _ _ | exact low_treeD _ _ | exact low_ints _ _) | exact Nat.le_refl _ | exact wk_int (by simp) | exact wk_int (by omega) | exact Nat.succ_le_succ (Nat.zero_le _) | exact Nat.le_add_left _ _ | omega))
            exact wk_eq rfl (low_opes _ _)
        · have hc : costR q ⟨k, p, x⟩ = 0 := by
            simp only [costR]; rw [if_neg (by omega), if_neg (by omega), if_neg (by omega)]
          rw [hc] at hs
          simp -implicitDefEqProofs only [↓symPre, symPost, y_condP, y_condG, run, lver, minD, intsD, eqAll, tupD, splice, Nat.zero_add, Nat.add_zero, Nat.zero_mul, Nat.mul_one, Nat.one_mul, Nat.reduceAdd, Nat.reduceSub, Nat.reduceMul, Nat.reduceLT, Nat.reduceLeDiff, Nat.reduceEqDiff, true_and, and_true, true_implies, if_true, if_false, ite_true, reduceIte, ne_eq, not_false_eq_true, reduceCtorEq, forall_const, bne_self_eq_false, Bool.true_eq_false, Bool.false_eq_true, false_implies, and_self, implies_true, Int.toNat_zero, beq_self_eq_true, decide_true, decide_false, Bool.not_true, Bool.not_false, ↓y_call, List.length_map, f1, f0, decide_true, Int.toNat_natCast, e0, g1, g2, w1]
          refine ⟨i + 1, by omega, by omega, ?_⟩
          rw [hs, Int.add_zero]
          refine le_to (List.replicate 9 .hole ++ [.old 9] ++ List.replicate 81 .hole) hl rfl ?_ ?_ <;> ((try simp only [y_blk_end, y_blk_hole, y_blk_nil, y_blk_old, y_wkl_end, y_wkl_top, List.replicate, List.cons_append, List.nil_append, and_true, true_and]) <;> (repeat' (first | apply And.intro | apply y_wkl | refine Exists.intro _ (And.intro rfl ?_))) <;> (try first | exact trivial | exact Wk.top _ | exact wk_int rfl | exact wk_bool rfl | exact wk_ptr rfl rfl rfl rfl | exact wk_ref rfl rfl rfl rfl rfl | exact wk_nil rfl rfl rfl | exact wk_ref rfl rfl rfl rfl (by simp) | exact wk_ref rfl rfl rfl rfl (by simp; omega) | exact wk_old (by assumption) (by simp) | exact wk_eq rfl (by first | exact Bd.int _ _ | exact Bd.bool _ | exact Bd.abool | exact Bd.nils | exact Bd.emp | exact Bd.nilp | exact Bd.nilfn | assumption | exact low_trees _ _ | exact low_treeD _ _ | exact low_ints _ _) | exact Nat.le_refl _ | exact wk_int (by simp) | exact wk_int (by omega) | exact Nat.succ_le_succ (Nat.zero_le _) | exact Nat.le_add_left _ _ | omega))
          exact wk_eq rfl (low_opes _ _)
      · have hc : costR q ⟨k, p, x⟩ = 0 := by
          simp only [costR]; rw [if_neg (by omega), if_neg (by omega), if_neg (by omega)]
        rw [hc] at hs
        simp -implicitDefEqProofs only [↓symPre, symPost, y_condP, y_condG, run, lver, minD, intsD, eqAll, tupD, splice, Nat.zero_add, Nat.add_zero, Nat.zero_mul, Nat.mul_one, Nat.one_mul, Nat.reduceAdd, Nat.reduceSub, Nat.reduceMul, Nat.reduceLT, Nat.reduceLeDiff, Nat.reduceEqDiff, true_and, and_true, true_implies, if_true, if_false, ite_true, reduceIte, ne_eq, not_false_eq_true, reduceCtorEq, forall_const, bne_self_eq_false, Bool.true_eq_false, Bool.false_eq_true, false_implies, and_self, implies_true, Int.toNat_zero, beq_self_eq_true, decide_true, decide_false, Bool.not_true, Bool.not_false, ↓y_call, List.length_map, f1, f0, decide_true, Int.toNat_natCast, e0, g1, w1]
        refine ⟨i + 1, by omega, by omega, ?_⟩
        rw [hs, Int.add_zero]
        refine le_to (List.replicate 9 .hole ++ [.old 9] ++ List.replicate 81 .hole) hl rfl ?_ ?_ <;> ((try simp only [y_blk_end, y_blk_hole, y_blk_nil, y_blk_old, y_wkl_end, y_wkl_top, List.replicate, List.cons_append, List.nil_append, and_true, true_and]) <;> (repeat' (first | apply And.intro | apply y_wkl | refine Exists.intro _ (And.intro rfl ?_))) <;> (try first | exact trivial | exact Wk.top _ | exact wk_int rfl | exact wk_bool rfl | exact wk_ptr rfl rfl rfl rfl | exact wk_ref rfl rfl rfl rfl rfl | exact wk_nil rfl rfl rfl | exact wk_ref rfl rfl rfl rfl (by simp) | exact wk_ref rfl rfl rfl rfl (by simp; omega) | exact wk_old (by assumption) (by simp) | exact wk_eq rfl (by first | exact Bd.int _ _ | exact Bd.bool _ | exact Bd.abool | exact Bd.nils | exact Bd.emp | exact Bd.nilp | exact Bd.nilfn | assumption | exact low_trees _ _ | exact low_treeD _ _ | exact low_ints _ _) | exact Nat.le_refl _ | exact wk_int (by simp) | exact wk_int (by omega) | exact Nat.succ_le_succ (Nat.zero_le _) | exact Nat.le_add_left _ _ | omega))
        exact wk_eq rfl (low_opes _ _)
    · have f1 : ¬ (i : Int) < (L.length : Int) := by omega
      have hil : i = L.length := by omega
      have hS : ((L.map (costR q)).take i).sum = dd := by rw [List.take_of_length_le (by simp; omega)]; exact hcost
      rw [hS]
      simp -implicitDefEqProofs only [↓symPre, symPost, y_condP, y_condG, run, lver, minD, intsD, eqAll, tupD, splice, Nat.zero_add, Nat.add_zero, Nat.zero_mul, Nat.mul_one, Nat.one_mul, Nat.reduceAdd, Nat.reduceSub, Nat.reduceMul, Nat.reduceLT, Nat.reduceLeDiff, Nat.reduceEqDiff, true_and, and_true, true_implies, if_true, if_false, ite_true, reduceIte, ne_eq, not_false_eq_true, reduceCtorEq, forall_const, bne_self_eq_false, Bool.true_eq_false, Bool.false_eq_true, false_implies, and_self, implies_true, Int.toNat_zero, beq_self_eq_true, decide_true, decide_false, Bool.not_true, Bool.not_false, ↓y_call, f1, decide_false]
      refine pE.call rfl ?_
      simp -implicitDefEqProofs only [↓symPre, symPost, y_condP, y_condG, run, lver, minD, intsD, eqAll, tupD, splice, Nat.zero_add, Nat.add_zero, Nat.zero_mul, Nat.mul_one, Nat.one_mul, Nat.reduceAdd, Nat.reduceSub, Nat.reduceMul, Nat.reduceLT, Nat.reduceLeDiff, Nat.reduceEqDiff, true_and, and_true, true_implies, if_true, if_false, ite_true, reduceIte, ne_eq, not_false_eq_true, reduceCtorEq, forall_const, bne_self_eq_false, Bool.true_eq_false, Bool.false_eq_true, false_implies, and_self, implies_true, Int.toNat_zero, beq_self_eq_true, decide_true, decide_false, Bool.not_true, Bool.not_false, ↓y_call]
      exact fin_bool hl rfl

end Abs
end Go.Proofs.Ytfojedaccfenfaa

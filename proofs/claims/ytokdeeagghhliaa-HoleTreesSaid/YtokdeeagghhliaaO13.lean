/- The table: row. -/
import Derived.Test.YtokdeeagghhliaaO12
namespace Go.Proofs.Ytokdeeagghhliaa
namespace Abs
set_option linter.unusedVariables false
set_option linter.unusedSimpArgs false
set_option maxRecDepth 20000

theorem PartAt.up {n : Nat} {h : Heap} {Pa : D} {P : List (List (List Wd))} (hP : PartAt n h Pa P) {lc : List Blk} {N : Nat} (hN : n ≤ N) : PartAt N (mrg n h lc) Pa P := by
  rcases hP with h1 | ⟨pb, pv, R1, h1, h2, h3, h4, h5⟩
  · exact .inl h1
  · refine .inr ⟨pb, pv, R1, by omega, h2, by rw [mrg_lt h1]; exact h3, h4, fun a A hA => ?_⟩
    obtain ⟨ab, av, R2, q1, q2, q3, q4, q5⟩ := h5 a A hA
    refine ⟨ab, av, R2, by omega, q2, by rw [mrg_lt q1]; exact q3, q4, fun i R hR => ?_⟩
    obtain ⟨rb, rv, s1, s2, s3⟩ := q5 i R hR
    exact ⟨rb, rv, by omega, s2, by rw [mrg_lt s1]; exact s3⟩

theorem WkL.take {X : Wx} : ∀ {a b : List D} (k : Nat), WkL X a b → WkL X (a.take k) (b.take k)
  | [], [], k, h => by simpa using h
  | [], _ :: _, _, h => by simp [WkL] at h
  | _ :: _, [], _, h => by simp [WkL] at h
  | d :: a, d' :: b, 0, h => trivial
  | d :: a, d' :: b, k + 1, h => by
    cases d' with
    | top => simp only [List.take_succ_cons, y_wkl_top] at h ⊢; exact WkL.take k h
    | _ => simp only [WkL] at h; exact y_wkl h.1 (WkL.take k h.2)
theorem WkL.drop {X : Wx} : ∀ {a b : List D} (k : Nat), WkL X a b → WkL X (a.drop k) (b.drop k)
  | [], [], k, h => by simpa using h
  | [], _ :: _, _, h => by simp [WkL] at h
  | _ :: _, [], _, h => by simp [WkL] at h
  | d :: a, d' :: b, 0, h => h
  | d :: a, d' :: b, k + 1, h => by
    cases d' with
    | top => simp only [List.drop_succ_cons, y_wkl_top] at h ⊢; exact WkL.drop k h
    | _ => simp only [WkL] at h; exact WkL.drop k h.2
theorem wd1_cells {X : Wx} : WkL X [D.bool true, .int .i64 0, .nils] (wD wd1).cells := y_wkl (.low _ (.bool _)) (y_wkl wk_i (y_wkl .nilsLst trivial))

set_option maxHeartbeats 2000000 in
theorem at_row {B N : Nat} (g : Gr) (l : List Sy) (ws : List Wd) (P : Tb) (Ls Pa : D) {n : Nat} {h : Heap} {b ver : Nat} (hb : b < n) (hh : h b = ⟨ver, .cells (tabC g l Ls Pa)⟩)
    (hL : LeastAt n h Ls ws) (hP : PartAt n h Pa P) (hw : PatW B N ws l) (hG : GoodP B ws l N P) (r : Ru) (i : Nat) (hi : i ≤ l.length) (hr : r.right.length ≤ 4) (hx : ∀ x ∈ r.right, symOk B N x) :
    ACalls prog F_hole_table_row [.ptr b ver 0, ruleD r, .int .i64 i] n h fun d h' x' => h' = h ∧ x' = [] ∧ d = rowD (rowX ws P l i r.right) := by
  refine K_hole_table_row.calls fun hl => ?_
  unfold C_hole_table_row
  unfold tabC at hh
  obtain ⟨rl, rr⟩ := r
  unfold ruleD
  simp only at hr hx ⊢
  obtain ⟨L, hL1⟩ : ∃ L, L = l.length + 1 := ⟨_, rfl⟩
  have hL12 := hw.len
  have i0 : (0 : Int) ≤ (i : Int) := by omega
  have iL : (i : Int) < ((L : Nat) : Int) := by omega
  have iLn : i < L := by omega
  have wL : IntKind.i64.wrap ((l.length : Int) + 1) = ((L : Nat) : Int) := by rw [IntWalk.i64_in _ (by omega)]; omega
  have L0 : ¬ ((L : Nat) : Int) < 0 := by omega
  have L1 : (0 : Int) ≤ ((L : Nat) : Int) := by omega
  have hz := cells_put wD_cells (List.replicate L wd0) (i := i) (by simp; omega) wd1
  have ez : (List.replicate L [D.bool false, .int .i64 0, .nils]).flatten.length = L * 3 := by simp
  have iz : i * 3 + 3 ≤ L * 3 := by omega
  simp -implicitDefEqProofs only [↓symPre, symPost, y_condP, y_condG, run, lver, minD, intsD, eqAll, tupD, splice, Nat.zero_add, Nat.add_zero, Nat.zero_mul, Nat.mul_one, Nat.one_mul, Nat.reduceAdd, Nat.reduceSub, Nat.reduceMul, Nat.reduceLT, Nat.reduceLeDiff, Nat.reduceEqDiff, true_and, and_true, true_implies, if_true, if_false, ite_true, reduceIte, ne_eq, not_false_eq_true, reduceCtorEq, forall_const, bne_self_eq_false, Bool.true_eq_false, Bool.false_eq_true, false_implies, and_self, implies_true, Int.toNat_zero, beq_self_eq_true, decide_true, decide_false, Bool.not_true, Bool.not_false, ↓y_lookv, y_key1, y_mlook, y_mlookn, y_mres1, y_mres0, ↓y_call, ↓y_at_old hb, hh, hb, List.length_map, wL, L0, L1, Int.toNat_natCast, Int.le_refl, i0, iL, ez, iz]
  refine ⟨by omega, by omega, ?_⟩
  refine aloop (fun k : Nat => St.mk n ([.ptr b ver 0, .top, .int .i64 i, .top, .ptr (n + 4) 1 0, .top, .top, rowD (rowX ws P l i (rr.take k))] ++ List.replicate 18 .top ++ [.lst (rr.map symD), .int .i64 rr.length, .int .i64 k] ++ List.replicate 64 .top) h
      (List.replicate 4 blk0 ++ [⟨1, .cells [.int .i64 rl, .lst (rr.map symD)]⟩] ++ List.replicate 88 blk0)) (fun k => k ≤ rr.length) (fun k => rr.length - k) 0 (Nat.zero_le _) ?_ ?_
  · refine Abs.Le.trans (s2 := St.mk n ([.ptr b ver 0, .top, .int .i64 i, .top, .ptr (n + 4) 1 0, .top, .top, .ref 3 (n + 20) 1 0 L] ++ List.replicate 18 .top ++ [.lst (rr.map symD), .int .i64 rr.length, .int .i64 0] ++ List.replicate 64 .top) h
      (List.replicate 4 blk0 ++ [⟨1, .cells [.int .i64 rl, .lst (rr.map symD)]⟩] ++ List.replicate 15 blk0 ++ [⟨1, .cells (cellsF wD ((List.replicate L wd0).set i wd1))⟩] ++ List.replicate 72 blk0)) ?_ ?_
    · refine le_to (List.replicate 4 .hole ++ [.old 4] ++ List.replicate 15 .hole ++ [.old 20] ++ List.replicate 72 .hole) hl rfl ?_ ?_ <;> ((try simp only [y_blk_end, y_blk_hole, y_blk_nil, y_blk_old, y_wkl_end, y_wkl_top, List.replicate, List.cons_append, List.nil_append, and_true, true_and]) <;> (repeat' (first | apply And.intro | apply y_wkl | refine Exists.intro _ (And.intro rfl ?_))) <;> (try first | exact trivial | exact Wk.top _ | exact wk_int rfl | exact wk_bool rfl | exact wk_ptr rfl rfl rfl rfl | exact wk_ref rfl rfl rfl rfl rfl | exact wk_nil rfl rfl rfl | exact wk_ref rfl rfl rfl rfl (by simp) | exact wk_ref rfl rfl rfl rfl (by simp; omega) | exact wk_old (by assumption) (by simp) | exact wk_eq rfl (by first | exact Bd.int _ _ | exact Bd.bool _ | exact Bd.abool | exact Bd.nils | exact Bd.emp | exact Bd.nilp | exact Bd.nilfn | assumption | exact low_trees _ _ | exact low_treeD _ _ | exact low_ints _ _) | exact Nat.le_refl _ | exact wk_int (by simp) | exact wk_int (by omega) | exact Nat.succ_le_succ (Nat.zero_le _) | exact Nat.le_add_left _ _ | omega))
      all_goals first | exact .low _ (.ptr _ _ _ (.inl hb)) | exact .low _ (low_syms n rr) | (rw [← hz]; exact WkL.app (WkL.app (WkL.take _ (cells_wd0 L)) wd1_cells) (WkL.drop _ (cells_wd0 L))) | trace_state
    · refine le_to (List.replicate 4 .hole ++ [.old 4] ++ List.replicate 88 .hole) hl rfl ?_ ?_ <;> ((try simp only [y_blk_end, y_blk_hole, y_blk_nil, y_blk_old, y_wkl_end, y_wkl_top, List.replicate, List.cons_append, List.nil_append, and_true, true_and]) <;> (repeat' (first | apply And.intro | apply y_wkl | refine Exists.intro _ (And.intro rfl ?_))) <;> (try first | exact trivial | exact Wk.top _ | exact wk_int rfl | exact wk_bool rfl | exact wk_ptr rfl rfl rfl rfl | exact wk_ref rfl rfl rfl rfl rfl | exact wk_nil rfl rfl rfl | exact wk_ref rfl rfl rfl rfl (by simp) | exact wk_ref rfl rfl rfl rfl (by simp; omega) | exact wk_old (by assumption) (by simp) | exact wk_eq rfl (by first | exact Bd.int _ _ | exact Bd.bool _ | exact Bd.abool | exact Bd.nils | exact Bd.emp | exact Bd.nilp | exact Bd.nilfn | assumption | exact low_trees _ _ | exact low_treeD _ _ | exact low_ints _ _) | exact Nat.le_refl _ | exact wk_int (by simp) | exact wk_int (by omega) | exact Nat.succ_le_succ (Nat.zero_le _) | exact Nat.le_add_left _ _ | omega))
      all_goals first | exact .low _ (.ptr _ _ _ (.inl hb)) | exact .low _ (low_syms n rr) | (rw [List.take_zero]; unfold rowX row0; rw [← hL1]; exact wk_frzF wD wD_cells (low_wD n) (t := 20) rfl rfl (by simp) (by simp)) | trace_state
  · intro k hk
    by_cases hlt : k < rr.length
    · have f1 : (k : Int) < (rr.length : Int) := by omega
      have f0 : (0 : Int) ≤ (k : Int) := by omega
      have s0 := nth_sym rr k hlt
      have hxm := hx (rr.getD k ⟨false, 0⟩) (by simp [List.getD, hlt])
      have hnow := rowX_good hw hG hi hx k hk
      have tkx := rowX_take ws P l i hlt
      generalize rr.getD k ⟨false, 0⟩ = x at *
      generalize rowX ws P l i (rr.take k) = now at *
      obtain ⟨xt, xn⟩ := x
      simp only at s0
      simp -implicitDefEqProofs only [↓symPre, symPost, y_condP, y_condG, run, lver, minD, intsD, eqAll, tupD, splice, Nat.zero_add, Nat.add_zero, Nat.zero_mul, Nat.mul_one, Nat.one_mul, Nat.reduceAdd, Nat.reduceSub, Nat.reduceMul, Nat.reduceLT, Nat.reduceLeDiff, Nat.reduceEqDiff, true_and, and_true, true_implies, if_true, if_false, ite_true, reduceIte, ne_eq, not_false_eq_true, reduceCtorEq, forall_const, bne_self_eq_false, Bool.true_eq_false, Bool.false_eq_true, false_implies, and_self, implies_true, Int.toNat_zero, beq_self_eq_true, decide_true, decide_false, Bool.not_true, Bool.not_false, ↓y_lookv, y_key1, y_mlook, y_mlookn, y_mres1, y_mres0, ↓y_call, ↓y_at_old hb, hh, hb, List.length_map, wL, L0, L1, Int.toNat_natCast, Int.le_refl, f1, f0, decide_true, s0]
      refine ⟨by omega, by omega, ?_⟩
      refine aloop (fun t : Nat => St.mk n ([.ptr b ver 0, .top, .int .i64 i, .top, .ptr (n + 4) 1 0, .top, .top, rowD now, .top, .ptr (n + 9) 1 0, .ref 3 (n + 38) 1 0 L, .int .i64 ((i + t : Nat) : Int)] ++ List.replicate 14 .top ++ [.lst (rr.map symD), .int .i64 rr.length, .int .i64 k] ++ List.replicate 64 .top) h
          (List.replicate 4 blk0 ++ [⟨1, .cells [.int .i64 rl, .lst (rr.map symD)]⟩] ++ List.replicate 4 blk0 ++ [⟨1, .cells [.bool xt, .int .i64 xn]⟩] ++ List.replicate 28 blk0 ++ [⟨1, .cells (cellsF wD (rowM ws P l ⟨xt, xn⟩ now i t (row0 l)))⟩] ++ List.replicate 54 blk0))
          (fun t => i + t ≤ L) (fun t => L - t) 0 (by omega) ?_ ?_
      · refine le_to (List.replicate 4 .hole ++ [.old 4] ++ List.replicate 4 .hole ++ [.old 9] ++ List.replicate 28 .hole ++ [.old 38] ++ List.replicate 54 .hole) hl rfl ?_ ?_ <;> ((try simp only [y_blk_end, y_blk_hole, y_blk_nil, y_blk_old, y_wkl_end, y_wkl_top, List.replicate, List.cons_append, List.nil_append, and_true, true_and]) <;> (repeat' (first | apply And.intro | apply y_wkl | refine Exists.intro _ (And.intro rfl ?_))) <;> (try first | exact trivial | exact Wk.top _ | exact wk_int rfl | exact wk_bool rfl | exact wk_ptr rfl rfl rfl rfl | exact wk_ref rfl rfl rfl rfl rfl | exact wk_nil rfl rfl rfl | exact wk_ref rfl rfl rfl rfl (by simp) | exact wk_ref rfl rfl rfl rfl (by simp; omega) | exact wk_old (by assumption) (by simp) | exact wk_eq rfl (by first | exact Bd.int _ _ | exact Bd.bool _ | exact Bd.abool | exact Bd.nils | exact Bd.emp | exact Bd.nilp | exact Bd.nilfn | assumption | exact low_trees _ _ | exact low_treeD _ _ | exact low_ints _ _) | exact Nat.le_refl _ | exact wk_int (by simp) | exact wk_int (by omega) | exact Nat.succ_le_succ (Nat.zero_le _) | exact Nat.le_add_left _ _ | omega))
        all_goals first | exact .low _ (.ptr _ _ _ (.inl hb)) | exact .low _ (low_syms n rr) | exact .low _ (low_lstF wD (low_wD n) _) | (rw [rowM_0]; unfold row0; rw [← hL1]; exact cells_wd0 L) | trace_state
      · intro t ht
        have hnx := rowM_good hw hG hxm hnow row0_good t (by omega)
        have tkm := rowM_s ws P l ⟨xt, xn⟩ now i t (row0 l)
        generalize hnxe : rowM ws P l ⟨xt, xn⟩ now i t (row0 l) = nx at *
        by_cases htl : i + t < L
        · have g1 : ((i + t : Nat) : Int) ≤ (l.length : Int) := by omega
          generalize hm : i + t = m at *
          have m0 : (0 : Int) ≤ (m : Int) := by omega
          have hnl := hnow.len
          have m1 : (m : Int) < ((now.length : Nat) : Int) := by omega
          have e1 := nth_wD now m (by omega)
          simp -implicitDefEqProofs only [↓symPre, symPost, y_condP, y_condG, run, lver, minD, intsD, eqAll, tupD, splice, Nat.zero_add, Nat.add_zero, Nat.zero_mul, Nat.mul_one, Nat.one_mul, Nat.reduceAdd, Nat.reduceSub, Nat.reduceMul, Nat.reduceLT, Nat.reduceLeDiff, Nat.reduceEqDiff, true_and, and_true, true_implies, if_true, if_false, ite_true, reduceIte, ne_eq, not_false_eq_true, reduceCtorEq, forall_const, bne_self_eq_false, Bool.true_eq_false, Bool.false_eq_true, false_implies, and_self, implies_true, Int.toNat_zero, beq_self_eq_true, decide_true, decide_false, Bool.not_true, Bool.not_false, ↓y_lookv, y_key1, y_mlook, y_mlookn, y_mres1, y_mres0, ↓y_call, ↓y_at_old hb, hh, hb, List.length_map, g1, decide_true]
          generalize hu : now.getD m wd0 = u at *
          have hue := hnow.ent m (by omega)
          rw [hu] at hue
          obtain ⟨uo, un, uw⟩ := u
          simp only [wD] at e1
          have hLm : l.length + 1 - m = L - m := by omega
          refine aloop (fun s : Nat => St.mk n ([.ptr b ver 0, .top, .int .i64 i, .top, .ptr (n + 4) 1 0, .top, .top, rowD now, .top, .ptr (n + 9) 1 0, .ref 3 (n + 38) 1 0 L, .int .i64 ((m : Nat) : Int), .int .i64 ((m + s : Nat) : Int)] ++ List.replicate 13 .top ++ [.lst (rr.map symD), .int .i64 rr.length, .int .i64 k] ++ List.replicate 64 .top) h
              (List.replicate 4 blk0 ++ [⟨1, .cells [.int .i64 rl, .lst (rr.map symD)]⟩] ++ List.replicate 4 blk0 ++ [⟨1, .cells [.bool xt, .int .i64 xn]⟩] ++ List.replicate 28 blk0 ++ [⟨1, .cells (cellsF wD (rowJ ws P l ⟨xt, xn⟩ now m s nx))⟩] ++ List.replicate 54 blk0))
              (fun s => m + s ≤ L ∧ (uo = false → s = 0)) (fun s => L - s) 0 ⟨by omega, fun _ => rfl⟩ ?_ ?_
          · refine le_to (List.replicate 4 .hole ++ [.old 4] ++ List.replicate 4 .hole ++ [.old 9] ++ List.replicate 28 .hole ++ [.old 38] ++ List.replicate 54 .hole) hl rfl ?_ ?_ <;> ((try simp only [y_blk_end, y_blk_hole, y_blk_nil, y_blk_old, y_wkl_end, y_wkl_top, List.replicate, List.cons_append, List.nil_append, and_true, true_and]) <;> (repeat' (first | apply And.intro | apply y_wkl | refine Exists.intro _ (And.intro rfl ?_))) <;> (try first | exact trivial | exact Wk.top _ | exact wk_int rfl | exact wk_bool rfl | exact wk_ptr rfl rfl rfl rfl | exact wk_ref rfl rfl rfl rfl rfl | exact wk_nil rfl rfl rfl | exact wk_ref rfl rfl rfl rfl (by simp) | exact wk_ref rfl rfl rfl rfl (by simp; omega) | exact wk_old (by assumption) (by simp) | exact wk_eq rfl (by first | exact Bd.int _ _ | exact Bd.bool _ | exact Bd.abool | exact Bd.nils | exact Bd.emp | exact Bd.nilp | exact Bd.nilfn | assumption | exact low_trees _ _ | exact low_treeD _ _ | exact low_ints _ _) | exact Nat.le_refl _ | exact wk_int (by simp) | exact wk_int (by omega) | exact Nat.succ_le_succ (Nat.zero_le _) | exact Nat.le_add_left _ _ | omega))
            all_goals first | exact .low _ (.ptr _ _ _ (.inl hb)) | exact .low _ (low_syms n rr) | exact .low _ (low_lstF wD (low_wD n) _) | exact WkL.low (low_cellsF wD (low_wD n) _) | trace_state
          · rintro s ⟨hs, hs0⟩
            have hny := rowJ_good hw hG hxm hnow (by omega : m ≤ l.length) hnx s (by omega)
            have tkj := rowJ_s ws P l ⟨xt, xn⟩ now m s nx
            generalize hnye : rowJ ws P l ⟨xt, xn⟩ now m s nx = ny at *
            cases uo with
            | false =>
              obtain rfl := hs0 rfl
              have ety : ny = nx := by rw [← hnye]; rfl
              subst ety
              simp -implicitDefEqProofs only [↓symPre, symPost, y_condP, y_condG, run, lver, minD, intsD, eqAll, tupD, splice, Nat.zero_add, Nat.add_zero, Nat.zero_mul, Nat.mul_one, Nat.one_mul, Nat.reduceAdd, Nat.reduceSub, Nat.reduceMul, Nat.reduceLT, Nat.reduceLeDiff, Nat.reduceEqDiff, true_and, and_true, true_implies, if_true, if_false, ite_true, reduceIte, ne_eq, not_false_eq_true, reduceCtorEq, forall_const, bne_self_eq_false, Bool.true_eq_false, Bool.false_eq_true, false_implies, and_self, implies_true, Int.toNat_zero, beq_self_eq_true, decide_true, decide_false, Bool.not_true, Bool.not_false, ↓y_lookv, y_key1, y_mlook, y_mlookn, y_mres1, y_mres0, ↓y_call, ↓y_at_old hb, hh, hb, List.length_map, m0, m1, Int.toNat_natCast, e1, wD, decide_true, decide_false]
              have w2 : IntKind.i64.wrap ((m : Int) + 1) = ((i + (t + 1) : Nat) : Int) := by rw [IntWalk.i64_in _ (by omega)]; omega
              have tk2 : rowM ws P l ⟨xt, xn⟩ now i (t + 1) (row0 l) = ny := by
                rw [tkm]; unfold cellM; rw [hu, if_neg (by simp)]
              refine ⟨t + 1, by omega, by omega, ?_⟩
              rw [tk2, w2]
              refine le_to (List.replicate 4 .hole ++ [.old 4] ++ List.replicate 4 .hole ++ [.old 9] ++ List.replicate 28 .hole ++ [.old 38] ++ List.replicate 54 .hole) hl rfl ?_ ?_ <;> ((try simp only [y_blk_end, y_blk_hole, y_blk_nil, y_blk_old, y_wkl_end, y_wkl_top, List.replicate, List.cons_append, List.nil_append, and_true, true_and]) <;> (repeat' (first | apply And.intro | apply y_wkl | refine Exists.intro _ (And.intro rfl ?_))) <;> (try first | exact trivial | exact Wk.top _ | exact wk_int rfl | exact wk_bool rfl | exact wk_ptr rfl rfl rfl rfl | exact wk_ref rfl rfl rfl rfl rfl | exact wk_nil rfl rfl rfl | exact wk_ref rfl rfl rfl rfl (by simp) | exact wk_ref rfl rfl rfl rfl (by simp; omega) | exact wk_old (by assumption) (by simp) | exact wk_eq rfl (by first | exact Bd.int _ _ | exact Bd.bool _ | exact Bd.abool | exact Bd.nils | exact Bd.emp | exact Bd.nilp | exact Bd.nilfn | assumption | exact low_trees _ _ | exact low_treeD _ _ | exact low_ints _ _) | exact Nat.le_refl _ | exact wk_int (by simp) | exact wk_int (by omega) | exact Nat.succ_le_succ (Nat.zero_le _) | exact Nat.le_add_left _ _ | omega))
              all_goals first | exact .low _ (.ptr _ _ _ (.inl hb)) | exact .low _ (low_syms n rr) | exact .low _ (low_lstF wD (low_wD n) _) | exact WkL.low (low_cellsF wD (low_wD n) _) | trace_state
            | true =>
              by_cases hsl : m + s < L
              · have k1 : ((m + s : Nat) : Int) ≤ (l.length : Int) := by omega
                simp -implicitDefEqProofs only [↓symPre, symPost, y_condP, y_condG, run, lver, minD, intsD, eqAll, tupD, splice, Nat.zero_add, Nat.add_zero, Nat.zero_mul, Nat.mul_one, Nat.one_mul, Nat.reduceAdd, Nat.reduceSub, Nat.reduceMul, Nat.reduceLT, Nat.reduceLeDiff, Nat.reduceEqDiff, true_and, and_true, true_implies, if_true, if_false, ite_true, reduceIte, ne_eq, not_false_eq_true, reduceCtorEq, forall_const, bne_self_eq_false, Bool.true_eq_false, Bool.false_eq_true, false_implies, and_self, implies_true, Int.toNat_zero, beq_self_eq_true, decide_true, decide_false, Bool.not_true, Bool.not_false, ↓y_lookv, y_key1, y_mlook, y_mlookn, y_mres1, y_mres0, ↓y_call, ↓y_at_old hb, hh, hb, List.length_map, m0, m1, Int.toNat_natCast, e1, wD, k1, decide_true, decide_false]
                have hse := ent_sym hw hG hxm (i := m) (j := m + s) (by omega) (by omega)
                have hf := fun lc : List Blk => at_symbol g l ⟨xt, xn⟩ m (m + s) ws P Ls Pa (n := n + 93) (h := mrg n h lc) (b := b) (ver := ver) (by omega) (by rw [mrg_lt hb]; exact hh) (hL.up (by omega)) (hP.up (by omega))
                  (fun ht => ⟨hxm.1, by have := hxm.2.2 ht; have := hw.ws.len; omega, hG.inW (by have := hxm.2.2 ht; have := hxm.1; simp only at *; omega) (by omega) (by omega), (hG.ent _ m (m + s) (by have := hxm.2.2 ht; have := hxm.1; simp only at *; omega) (by omega) (by omega)).ok⟩) (by omega) (by omega) (by omega)
                  (fun _ => (ent_cell hw hxm (i := m) (by omega)).ok)
                generalize hv : symW ws P l ⟨xt, xn⟩ m (m + s) = v at *
                unfold symD at hf
                simp only at hf
                refine ACalls.none0 rfl (hf _) ?_
                have hnyl := hny.len
                have hce := hny.ent (m + s) (by omega)
                have pS := pure_shorter ⟨true, un, uw⟩ v (ny.getD (m + s) wd0) hue.ok hse.ok hce.ok
                have pJ := pure_join ⟨true, un, uw⟩ v hue.ok hse.ok
                have j0 : (0 : Int) ≤ ((m + s : Nat) : Int) := by omega
                have j1 : ((m + s : Nat) : Int) < ((L : Nat) : Int) := by omega
                have e2 := cells_wD ny (m + s) (by omega)
                have elen : (cellsF wD ny).length = L * 3 := by rw [cellsF_len wD wD_cells ny]; omega
                have i1 : (m + s) * 3 + 3 ≤ L * 3 := by omega
                have hput := cells_put wD_cells ny (i := m + s) (by omega) (joinW ⟨true, un, uw⟩ v)
                have w2 : IntKind.i64.wrap (((m + s : Nat) : Int) + 1) = ((m + (s + 1) : Nat) : Int) := by rw [IntWalk.i64_in _ (by omega)]; omega
                have tk2 : rowJ ws P l ⟨xt, xn⟩ now m (s + 1) nx = if shorterW ⟨true, un, uw⟩ v (ny.getD (m + s) wd0) = true then ny.set (m + s) (joinW ⟨true, un, uw⟩ v) else ny := by
                  rw [tkj]; unfold cellJ; rw [hu, hv]
                generalize ny.getD (m + s) wd0 = c at *
                generalize joinW ⟨true, un, uw⟩ v = jv at *
                generalize hsh : shorterW ⟨true, un, uw⟩ v c = sh at *
                obtain ⟨vo, vn, vw⟩ := v
                obtain ⟨co, cn, cw⟩ := c
                obtain ⟨jo, jn, jw⟩ := jv
                unfold wD at pS pJ
                simp only at pS pJ e2
                rw [show wD ⟨vo, vn, vw⟩ = D.agg [.bool vo, .int .i64 vn, iD vw] from rfl]
                simp -implicitDefEqProofs only [↓symPre, symPost, y_condP, y_condG, run, lver, minD, intsD, eqAll, tupD, splice, Nat.zero_add, Nat.add_zero, Nat.zero_mul, Nat.mul_one, Nat.one_mul, Nat.reduceAdd, Nat.reduceSub, Nat.reduceMul, Nat.reduceLT, Nat.reduceLeDiff, Nat.reduceEqDiff, true_and, and_true, true_implies, if_true, if_false, ite_true, reduceIte, ne_eq, not_false_eq_true, reduceCtorEq, forall_const, bne_self_eq_false, Bool.true_eq_false, Bool.false_eq_true, false_implies, and_self, implies_true, Int.toNat_zero, beq_self_eq_true, decide_true, decide_false, Bool.not_true, Bool.not_false, ↓y_lookv, y_key1, y_mlook, y_mlookn, y_mres1, y_mres0, ↓y_call, ↓y_at_old hb, hh, hb]
                refine adrawq hmix [] ?_
                simp (maxSteps := 400000) -implicitDefEqProofs only [↓symPre, symPost, y_condP, y_condG, run, lver, minD, intsD, eqAll, tupD, splice, Nat.zero_add, Nat.add_zero, Nat.zero_mul, Nat.mul_one, Nat.one_mul, Nat.reduceAdd, Nat.reduceSub, Nat.reduceMul, Nat.reduceLT, Nat.reduceLeDiff, Nat.reduceEqDiff, true_and, and_true, true_implies, if_true, if_false, ite_true, reduceIte, ne_eq, not_false_eq_true, reduceCtorEq, forall_const, bne_self_eq_false, Bool.true_eq_false, Bool.false_eq_true, false_implies, and_self, implies_true, Int.toNat_zero, beq_self_eq_true, decide_true, decide_false, Bool.not_true, Bool.not_false, ↓y_lookv, y_key1, y_mlook, y_mlookn, y_mres1, y_mres0, ↓y_call, ↓y_adq0, ↓y_adq, ↓y_stepQ_call, ↓y_adq_onT, ↓y_adq_onF, ↓y_adq_onS, drawPost, isCall, isNew, isEff, Option.toList, or_false, false_or, cond_true, cond_false, not_true_eq_false, or_true, true_or, Nat.add_left_cancel_iff, Bool.false_eq_true, ↓y_q0, ↓y_q1, ↓y_q1e, y_qn, isMap, ↓y_at_old hb, hh, hb, List.length_map, m0, m1, j0, j1, Int.toNat_natCast, e1, e2, elen, i1]
                refine ⟨_, _, pS.draw rfl, (by simp [y_cov0, y_cov1, isNew, isEff, Option.toList]), ?_⟩
                cases sh with
                | true =>
                  simp (maxSteps := 400000) -implicitDefEqProofs only [↓symPre, symPost, y_condP, y_condG, run, lver, minD, intsD, eqAll, tupD, splice, Nat.zero_add, Nat.add_zero, Nat.zero_mul, Nat.mul_one, Nat.one_mul, Nat.reduceAdd, Nat.reduceSub, Nat.reduceMul, Nat.reduceLT, Nat.reduceLeDiff, Nat.reduceEqDiff, true_and, and_true, true_implies, if_true, if_false, ite_true, reduceIte, ne_eq, not_false_eq_true, reduceCtorEq, forall_const, bne_self_eq_false, Bool.true_eq_false, Bool.false_eq_true, false_implies, and_self, implies_true, Int.toNat_zero, beq_self_eq_true, decide_true, decide_false, Bool.not_true, Bool.not_false, ↓y_lookv, y_key1, y_mlook, y_mlookn, y_mres1, y_mres0, ↓y_call, ↓y_adq0, ↓y_adq, ↓y_stepQ_call, ↓y_adq_onT, ↓y_adq_onF, ↓y_adq_onS, drawPost, isCall, isNew, isEff, Option.toList, or_false, false_or, cond_true, cond_false, not_true_eq_false, or_true, true_or, Nat.add_left_cancel_iff, Bool.false_eq_true, ↓y_q0, ↓y_q1, ↓y_q1e, y_qn, isMap, ↓y_at_old hb, hh, hb]
                  refine adrawq hmix (List.replicate 9 [] ++ [[n + 38]]) ?_
                  simp (maxSteps := 400000) -implicitDefEqProofs only [↓symPre, symPost, y_condP, y_condG, run, lver, minD, intsD, eqAll, tupD, splice, Nat.zero_add, Nat.add_zero, Nat.zero_mul, Nat.mul_one, Nat.one_mul, Nat.reduceAdd, Nat.reduceSub, Nat.reduceMul, Nat.reduceLT, Nat.reduceLeDiff, Nat.reduceEqDiff, true_and, and_true, true_implies, if_true, if_false, ite_true, reduceIte, ne_eq, not_false_eq_true, reduceCtorEq, forall_const, bne_self_eq_false, Bool.true_eq_false, Bool.false_eq_true, false_implies, and_self, implies_true, Int.toNat_zero, beq_self_eq_true, decide_true, decide_false, Bool.not_true, Bool.not_false, ↓y_lookv, y_key1, y_mlook, y_mlookn, y_mres1, y_mres0, ↓y_call, ↓y_adq0, ↓y_adq, ↓y_stepQ_call, ↓y_adq_onT, ↓y_adq_onF, ↓y_adq_onS, drawPost, isCall, isNew, isEff, Option.toList, or_false, false_or, cond_true, cond_false, not_true_eq_false, or_true, true_or, Nat.add_left_cancel_iff, Bool.false_eq_true, ↓y_q0, ↓y_q1, ↓y_q1e, y_qn, isMap, ↓y_at_old hb, hh, hb, List.length_map, m0, m1, j0, j1, Int.toNat_natCast, e1, e2, elen, i1]
                  refine ⟨_, _, pJ.draw rfl, (by simp [y_cov0, y_cov1, isNew, isEff, Option.toList]), ?_⟩
                  simp (maxSteps := 400000) -implicitDefEqProofs only [↓symPre, symPost, y_condP, y_condG, run, lver, minD, intsD, eqAll, tupD, splice, Nat.zero_add, Nat.add_zero, Nat.zero_mul, Nat.mul_one, Nat.one_mul, Nat.reduceAdd, Nat.reduceSub, Nat.reduceMul, Nat.reduceLT, Nat.reduceLeDiff, Nat.reduceEqDiff, true_and, and_true, true_implies, if_true, if_false, ite_true, reduceIte, ne_eq, not_false_eq_true, reduceCtorEq, forall_const, bne_self_eq_false, Bool.true_eq_false, Bool.false_eq_true, false_implies, and_self, implies_true, Int.toNat_zero, beq_self_eq_true, decide_true, decide_false, Bool.not_true, Bool.not_false, ↓y_lookv, y_key1, y_mlook, y_mlookn, y_mres1, y_mres0, ↓y_call, ↓y_adq0, ↓y_adq, ↓y_stepQ_call, ↓y_adq_onT, ↓y_adq_onF, ↓y_adq_onS, drawPost, isCall, isNew, isEff, Option.toList, or_false, false_or, cond_true, cond_false, not_true_eq_false, or_true, true_or, Nat.add_left_cancel_iff, Bool.false_eq_true, ↓y_q0, ↓y_q1, ↓y_q1e, y_qn, isMap, ↓y_at_old hb, hh, hb, List.length_map, m0, m1, j0, j1, Int.toNat_natCast, e1, e2, elen, i1, w2]
                  refine ⟨by rintro c (rfl | rfl | rfl) <;> rfl, ?_⟩
                  refine ⟨s + 1, by omega, by omega, ?_⟩
                  rw [tk2, if_pos rfl]
                  refine le_to (List.replicate 4 .hole ++ [.old 4] ++ List.replicate 4 .hole ++ [.old 9] ++ List.replicate 28 .hole ++ [.old 38] ++ List.replicate 54 .hole) hl rfl ?_ ?_ <;> ((try simp only [y_blk_end, y_blk_hole, y_blk_nil, y_blk_old, y_wkl_end, y_wkl_top, List.replicate, List.cons_append, List.nil_append, and_true, true_and]) <;> (repeat' (first | apply And.intro | apply y_wkl | refine Exists.intro _ (And.intro rfl ?_))) <;> (try first | exact trivial | exact Wk.top _ | exact wk_int rfl | exact wk_bool rfl | exact wk_ptr rfl rfl rfl rfl | exact wk_ref rfl rfl rfl rfl rfl | exact wk_nil rfl rfl rfl | exact wk_ref rfl rfl rfl rfl (by simp) | exact wk_ref rfl rfl rfl rfl (by simp; omega) | exact wk_old (by assumption) (by simp) | exact wk_eq rfl (by first | exact Bd.int _ _ | exact Bd.bool _ | exact Bd.abool | exact Bd.nils | exact Bd.emp | exact Bd.nilp | exact Bd.nilfn | assumption | exact low_trees _ _ | exact low_treeD _ _ | exact low_ints _ _) | exact Nat.le_refl _ | exact wk_int (by simp) | exact wk_int (by omega) | exact Nat.succ_le_succ (Nat.zero_le _) | exact Nat.le_add_left _ _ | omega))
                  all_goals first | exact .low _ (.ptr _ _ _ (.inl hb)) | exact .low _ (low_syms n rr) | exact .low _ (low_lstF wD (low_wD n) _) | (rw [← hput]; exact WkL.low (fun c hc => low_cellsF wD (low_wD n) _ c (by rw [← hput]; exact hc))) | trace_state
                | false =>
                  simp (maxSteps := 400000) -implicitDefEqProofs only [↓symPre, symPost, y_condP, y_condG, run, lver, minD, intsD, eqAll, tupD, splice, Nat.zero_add, Nat.add_zero, Nat.zero_mul, Nat.mul_one, Nat.one_mul, Nat.reduceAdd, Nat.reduceSub, Nat.reduceMul, Nat.reduceLT, Nat.reduceLeDiff, Nat.reduceEqDiff, true_and, and_true, true_implies, if_true, if_false, ite_true, reduceIte, ne_eq, not_false_eq_true, reduceCtorEq, forall_const, bne_self_eq_false, Bool.true_eq_false, Bool.false_eq_true, false_implies, and_self, implies_true, Int.toNat_zero, beq_self_eq_true, decide_true, decide_false, Bool.not_true, Bool.not_false, ↓y_lookv, y_key1, y_mlook, y_mlookn, y_mres1, y_mres0, ↓y_call, ↓y_adq0, ↓y_adq, ↓y_stepQ_call, ↓y_adq_onT, ↓y_adq_onF, ↓y_adq_onS, drawPost, isCall, isNew, isEff, Option.toList, or_false, false_or, cond_true, cond_false, not_true_eq_false, or_true, true_or, Nat.add_left_cancel_iff, Bool.false_eq_true, ↓y_q0, ↓y_q1, ↓y_q1e, y_qn, isMap, ↓y_at_old hb, hh, hb, w2]
                  refine ⟨s + 1, by omega, by omega, ?_⟩
                  rw [tk2, if_neg (by simp)]
                  refine le_to (List.replicate 4 .hole ++ [.old 4] ++ List.replicate 4 .hole ++ [.old 9] ++ List.replicate 28 .hole ++ [.old 38] ++ List.replicate 54 .hole) hl rfl ?_ ?_ <;> ((try simp only [y_blk_end, y_blk_hole, y_blk_nil, y_blk_old, y_wkl_end, y_wkl_top, List.replicate, List.cons_append, List.nil_append, and_true, true_and]) <;> (repeat' (first | apply And.intro | apply y_wkl | refine Exists.intro _ (And.intro rfl ?_))) <;> (try first | exact trivial | exact Wk.top _ | exact wk_int rfl | exact wk_bool rfl | exact wk_ptr rfl rfl rfl rfl | exact wk_ref rfl rfl rfl rfl rfl | exact wk_nil rfl rfl rfl | exact wk_ref rfl rfl rfl rfl (by simp) | exact wk_ref rfl rfl rfl rfl (by simp; omega) | exact wk_old (by assumption) (by simp) | exact wk_eq rfl (by first | exact Bd.int _ _ | exact Bd.bool _ | exact Bd.abool | exact Bd.nils | exact Bd.emp | exact Bd.nilp | exact Bd.nilfn | assumption | exact low_trees _ _ | exact low_treeD _ _ | exact low_ints _ _) | exact Nat.le_refl _ | exact wk_int (by simp) | exact wk_int (by omega) | exact Nat.succ_le_succ (Nat.zero_le _) | exact Nat.le_add_left _ _ | omega))
                  all_goals first | exact .low _ (.ptr _ _ _ (.inl hb)) | exact .low _ (low_syms n rr) | exact .low _ (low_lstF wD (low_wD n) _) | exact WkL.low (low_cellsF wD (low_wD n) _) | trace_state
              · have k1 : ¬ ((m + s : Nat) : Int) ≤ (l.length : Int) := by omega
                simp -implicitDefEqProofs only [↓symPre, symPost, y_condP, y_condG, run, lver, minD, intsD, eqAll, tupD, splice, Nat.zero_add, Nat.add_zero, Nat.zero_mul, Nat.mul_one, Nat.one_mul, Nat.reduceAdd, Nat.reduceSub, Nat.reduceMul, Nat.reduceLT, Nat.reduceLeDiff, Nat.reduceEqDiff, true_and, and_true, true_implies, if_true, if_false, ite_true, reduceIte, ne_eq, not_false_eq_true, reduceCtorEq, forall_const, bne_self_eq_false, Bool.true_eq_false, Bool.false_eq_true, false_implies, and_self, implies_true, Int.toNat_zero, beq_self_eq_true, decide_true, decide_false, Bool.not_true, Bool.not_false, ↓y_lookv, y_key1, y_mlook, y_mlookn, y_mres1, y_mres0, ↓y_call, ↓y_at_old hb, hh, hb, List.length_map, m0, m1, Int.toNat_natCast, e1, wD, k1, decide_true, decide_false]
                have es : s = l.length + 1 - m := by omega
                have w2 : IntKind.i64.wrap ((m : Int) + 1) = ((i + (t + 1) : Nat) : Int) := by rw [IntWalk.i64_in _ (by omega)]; omega
                have tk2 : rowM ws P l ⟨xt, xn⟩ now i (t + 1) (row0 l) = ny := by
                  rw [tkm]; unfold cellM; rw [hu, if_pos rfl, ← es]; exact hnye
                refine ⟨t + 1, by omega, by omega, ?_⟩
                rw [tk2, w2]
                refine le_to (List.replicate 4 .hole ++ [.old 4] ++ List.replicate 4 .hole ++ [.old 9] ++ List.replicate 28 .hole ++ [.old 38] ++ List.replicate 54 .hole) hl rfl ?_ ?_ <;> ((try simp only [y_blk_end, y_blk_hole, y_blk_nil, y_blk_old, y_wkl_end, y_wkl_top, List.replicate, List.cons_append, List.nil_append, and_true, true_and]) <;> (repeat' (first | apply And.intro | apply y_wkl | refine Exists.intro _ (And.intro rfl ?_))) <;> (try first | exact trivial | exact Wk.top _ | exact wk_int rfl | exact wk_bool rfl | exact wk_ptr rfl rfl rfl rfl | exact wk_ref rfl rfl rfl rfl rfl | exact wk_nil rfl rfl rfl | exact wk_ref rfl rfl rfl rfl (by simp) | exact wk_ref rfl rfl rfl rfl (by simp; omega) | exact wk_old (by assumption) (by simp) | exact wk_eq rfl (by first | exact Bd.int _ _ | exact Bd.bool _ | exact Bd.abool | exact Bd.nils | exact Bd.emp | exact Bd.nilp | exact Bd.nilfn | assumption | exact low_trees _ _ | exact low_treeD _ _ | exact low_ints _ _) | exact Nat.le_refl _ | exact wk_int (by simp) | exact wk_int (by omega) | exact Nat.succ_le_succ (Nat.zero_le _) | exact Nat.le_add_left _ _ | omega))
                all_goals first | exact .low _ (.ptr _ _ _ (.inl hb)) | exact .low _ (low_syms n rr) | exact .low _ (low_lstF wD (low_wD n) _) | exact WkL.low (low_cellsF wD (low_wD n) _) | trace_state
        · have g1 : ¬ ((i + t : Nat) : Int) ≤ (l.length : Int) := by omega
          have et : t = l.length + 1 - i := by omega
          subst et
          simp -implicitDefEqProofs only [↓symPre, symPost, y_condP, y_condG, run, lver, minD, intsD, eqAll, tupD, splice, Nat.zero_add, Nat.add_zero, Nat.zero_mul, Nat.mul_one, Nat.one_mul, Nat.reduceAdd, Nat.reduceSub, Nat.reduceMul, Nat.reduceLT, Nat.reduceLeDiff, Nat.reduceEqDiff, true_and, and_true, true_implies, if_true, if_false, ite_true, reduceIte, ne_eq, not_false_eq_true, reduceCtorEq, forall_const, bne_self_eq_false, Bool.true_eq_false, Bool.false_eq_true, false_implies, and_self, implies_true, Int.toNat_zero, beq_self_eq_true, decide_true, decide_false, Bool.not_true, Bool.not_false, ↓y_lookv, y_key1, y_mlook, y_mlookn, y_mres1, y_mres0, ↓y_call, ↓y_at_old hb, hh, hb, List.length_map, g1, decide_false]
          have w1 : IntKind.i64.wrap ((k : Int) + 1) = ((k + 1 : Nat) : Int) := by rw [IntWalk.i64_in _ (by omega)]; omega
          refine ⟨k + 1, by omega, by omega, ?_⟩
          rw [tkx, show stepX ws P l i now ⟨xt, xn⟩ = nx from hnxe, w1]
          have hnxl := hnx.len
          refine le_to (List.replicate 4 .hole ++ [.old 4] ++ List.replicate 88 .hole) hl rfl ?_ ?_ <;> ((try simp only [y_blk_end, y_blk_hole, y_blk_nil, y_blk_old, y_wkl_end, y_wkl_top, List.replicate, List.cons_append, List.nil_append, and_true, true_and]) <;> (repeat' (first | apply And.intro | apply y_wkl | refine Exists.intro _ (And.intro rfl ?_))) <;> (try first | exact trivial | exact Wk.top _ | exact wk_int rfl | exact wk_bool rfl | exact wk_ptr rfl rfl rfl rfl | exact wk_ref rfl rfl rfl rfl rfl | exact wk_nil rfl rfl rfl | exact wk_ref rfl rfl rfl rfl (by simp) | exact wk_ref rfl rfl rfl rfl (by simp; omega) | exact wk_old (by assumption) (by simp) | exact wk_eq rfl (by first | exact Bd.int _ _ | exact Bd.bool _ | exact Bd.abool | exact Bd.nils | exact Bd.emp | exact Bd.nilp | exact Bd.nilfn | assumption | exact low_trees _ _ | exact low_treeD _ _ | exact low_ints _ _) | exact Nat.le_refl _ | exact wk_int (by simp) | exact wk_int (by omega) | exact Nat.succ_le_succ (Nat.zero_le _) | exact Nat.le_add_left _ _ | omega))
          all_goals first | exact .low _ (.ptr _ _ _ (.inl hb)) | exact .low _ (low_syms n rr) | exact wk_frzF wD wD_cells (low_wD n) (t := 38) rfl rfl (by simp) (by omega) | trace_state
    · have f1 : ¬ (k : Int) < (rr.length : Int) := by omega
      obtain rfl : k = rr.length := by omega
      rw [List.take_length] at *
      simp -implicitDefEqProofs only [↓symPre, symPost, y_condP, y_condG, run, lver, minD, intsD, eqAll, tupD, splice, Nat.zero_add, Nat.add_zero, Nat.zero_mul, Nat.mul_one, Nat.one_mul, Nat.reduceAdd, Nat.reduceSub, Nat.reduceMul, Nat.reduceLT, Nat.reduceLeDiff, Nat.reduceEqDiff, true_and, and_true, true_implies, if_true, if_false, ite_true, reduceIte, ne_eq, not_false_eq_true, reduceCtorEq, forall_const, bne_self_eq_false, Bool.true_eq_false, Bool.false_eq_true, false_implies, and_self, implies_true, Int.toNat_zero, beq_self_eq_true, decide_true, decide_false, Bool.not_true, Bool.not_false, ↓y_lookv, y_key1, y_mlook, y_mlookn, y_mres1, y_mres0, ↓y_call, f1, decide_false]
      exact fin_low hl (low_lstF wD (low_wD n) _) ⟨rfl, rfl, rfl⟩

end Abs
end Go.Proofs.Ytokdeeagghhliaa

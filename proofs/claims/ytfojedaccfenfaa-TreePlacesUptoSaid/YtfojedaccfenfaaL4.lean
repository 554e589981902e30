/- The reference's Inside. -/
import Derived.Test.YtfojedaccfenfaaL3
namespace Go.Proofs.Ytfojedaccfenfaa
namespace Abs
set_option linter.unusedVariables false
set_option linter.unusedSimpArgs false
set_option maxRecDepth 20000

/-- nil, held to be an empty slice of its own -/
theorem fin_nil0 {n : Nat} {sl : List D} {h : Heap} {lc : List Blk} {R : D → Heap → List Blk → Prop} {sz : Nat} (hl : LowH n h)
    (hR : R (.ref sz (n + 0) 1 0 0) h [⟨1, .cells []⟩]) : Fin (St.mk n sl h lc) R [.nils] := by
  refine ⟨hl, [.nil], [⟨1, .cells []⟩], _, ⟨rfl, ?_, ?_⟩, wk_nil (n := n) (i := 0) rfl rfl rfl, by simp, hR⟩
  · intro i x k h1 h2
    cases i with
    | zero => simp at h1 h2; subst h1; subst h2; exact Nat.le_refl _
    | succ i => simp at h1
  · intro i j t' h1 h2
    cases i <;> cases j <;> simp at h1 h2

theorem fresh_CloneI (l : List Int) (hfit : l.length * 8 ≤ 140737488355328) : Fresh prog F_slices_Clone_int_int [iD l] 1 (l.map (.int .i64)) l.length := by
  intro n h
  refine K_slices_Clone_int_int.calls fun hl => ?_
  unfold C_slices_Clone_int_int
  simp -implicitDefEqProofs only [↓symPre, symPost, y_condP, y_condG, run, lver, minD, intsD, eqAll, tupD, splice, Nat.zero_add, Nat.add_zero, Nat.zero_mul, Nat.mul_one, Nat.one_mul, Nat.reduceAdd, Nat.reduceSub, Nat.reduceMul, Nat.reduceLT, Nat.reduceLeDiff, Nat.reduceEqDiff, true_and, and_true, true_implies, if_true, if_false, ite_true, reduceIte, ne_eq, not_false_eq_true, reduceCtorEq, forall_const, bne_self_eq_false, Bool.true_eq_false, Bool.false_eq_true, false_implies, and_self, implies_true, Int.toNat_zero, beq_self_eq_true, decide_true, decide_false, Bool.not_true, Bool.not_false, ↓y_call]
  refine ⟨fun h0 => ⟨?_, ?_⟩, fun h0 => ?_⟩
  · have : l = [] := by simpa using h0
    subst this
    exact fin_nil0 hl ⟨rfl, 1, rfl, rfl⟩
  · simp -implicitDefEqProofs only [↓symPre, symPost, y_condP, y_condG, run, lver, minD, intsD, eqAll, tupD, splice, Nat.zero_add, Nat.add_zero, Nat.zero_mul, Nat.mul_one, Nat.one_mul, Nat.reduceAdd, Nat.reduceSub, Nat.reduceMul, Nat.reduceLT, Nat.reduceLeDiff, Nat.reduceEqDiff, true_and, and_true, true_implies, if_true, if_false, ite_true, reduceIte, ne_eq, not_false_eq_true, reduceCtorEq, forall_const, bne_self_eq_false, Bool.true_eq_false, Bool.false_eq_true, false_implies, and_self, implies_true, Int.toNat_zero, beq_self_eq_true, decide_true, decide_false, Bool.not_true, Bool.not_false, ↓y_call, srcOf, ints_cells, ints_flat, ints_one, List.length_map, hfit, Nat.zero_le]
    exact fin_ref hl (t := 5) rfl (by omega) (low_iD n l) ⟨rfl, _, rfl, rfl⟩
  · simp -implicitDefEqProofs only [↓symPre, symPost, y_condP, y_condG, run, lver, minD, intsD, eqAll, tupD, splice, Nat.zero_add, Nat.add_zero, Nat.zero_mul, Nat.mul_one, Nat.one_mul, Nat.reduceAdd, Nat.reduceSub, Nat.reduceMul, Nat.reduceLT, Nat.reduceLeDiff, Nat.reduceEqDiff, true_and, and_true, true_implies, if_true, if_false, ite_true, reduceIte, ne_eq, not_false_eq_true, reduceCtorEq, forall_const, bne_self_eq_false, Bool.true_eq_false, Bool.false_eq_true, false_implies, and_self, implies_true, Int.toNat_zero, beq_self_eq_true, decide_true, decide_false, Bool.not_true, Bool.not_false, ↓y_call, srcOf, ints_cells, ints_flat, ints_one, List.length_map, hfit, Nat.zero_le]
    exact fin_ref hl (t := 5) rfl (by omega) (low_iD n l) ⟨rfl, _, rfl, rfl⟩

theorem below_app : ∀ (p : List Int) (t s : Tree) (q : List Int), belowT t p = some s → belowT t (p ++ q) = belowT s q
  | [], t, s, q, h => by simp [belowT] at h; subst h; rfl
  | i :: p, t, s, q, h => by
    simp only [belowT, Option.bind_eq_some_iff] at h
    obtain ⟨k, h1, h2⟩ := h
    rw [List.cons_append, belowT, h1, Option.bind_some]
    exact below_app p k s q h2
theorem off_app : ∀ (p : List Int) (t s : Tree) (q : List Int), belowT t p = some s → offT t (p ++ q) = offT t p + offT s q
  | [], t, s, q, h => by simp [belowT] at h; subst h; simp [offT]
  | i :: p, .mk r tm ks, s, q, h => by
    simp only [belowT, Option.bind_eq_some_iff] at h
    obtain ⟨k, h1, h2⟩ := h
    simp only [kidT] at h1
    split at h1
    · cases h1
    · rw [List.cons_append]
      simp only [offT, h1]
      rw [off_app p k s q h2]
      omega
theorem off_one {r tm : Int} {ks : List Tree} {j : Nat} (hj : j < ks.length) : offT (.mk r tm ks) [(j : Int)] = wlen (ks.take j) := by
  have : ks[j]? = some ks[j] := by simp [hj]
  simp [offT, this]
theorem coverK_drop {ks : List Tree} {i : Nat} (hi : i < ks.length) (low a b : Int) : coverK (ks.drop i) i low a b = if low ≤ a ∧ b ≤ low + (wordL ks[i]).length then (i : Int) :: coverP ks[i] (a - low) (b - low) else coverK (ks.drop (i + 1)) (i + 1) (low + (wordL ks[i]).length) a b := by
  rw [List.drop_eq_getElem_cons hi, coverK]
theorem coverK_end (i : Nat) (low a b : Int) : coverK [] i low a b = [] := by rw [coverK]

set_option maxHeartbeats 4000000 in
theorem pure_Inside (t : Tree) (a b : Int) (hsz : size t * 40 ≤ 140737488355328) : Pure prog F_parlref4_Inside [treeD t, .int .i64 a, .int .i64 b] (iD (coverP t a b)) := by
  intro n h
  obtain ⟨r0, t0, k0, ht⟩ : ∃ r t' k, t = .mk r t' k := by cases t; exact ⟨_, _, _, rfl⟩
  have htD : treeD t = .agg [.int .i64 r0, .int .i64 t0, .lst (k0.map treeD)] := by rw [ht, treeD_mk]
  have pB := fun p hp => pure_Below4 t p hp
  have pR := fun p s hb => pure_Range t p s hb hsz
  rw [htD] at pB pR ⊢
  refine K_parlref4_Inside.calls fun hl => ?_
  unfold C_parlref4_Inside
  simp -implicitDefEqProofs only [↓symPre, symPost, y_condP, y_condG, run, lver, minD, intsD, eqAll, tupD, splice, Nat.zero_add, Nat.add_zero, Nat.zero_mul, Nat.mul_one, Nat.one_mul, Nat.reduceAdd, Nat.reduceSub, Nat.reduceMul, Nat.reduceLT, Nat.reduceLeDiff, Nat.reduceEqDiff, true_and, and_true, true_implies, if_true, if_false, ite_true, reduceIte, ne_eq, not_false_eq_true, reduceCtorEq, forall_const, bne_self_eq_false, Bool.true_eq_false, Bool.false_eq_true, false_implies, and_self, implies_true, Int.toNat_zero, beq_self_eq_true, decide_true, decide_false, Bool.not_true, Bool.not_false, ↓y_call]
  refine aloop (fun q : List Int × Tree => St.mk n ([.top, .int .i64 a, .int .i64 b, .ptr (n + 3) 1 0, .top, .top, .top, iD q.1] ++ List.replicate 51 .top) h
      ([blk0, blk0, blk0, ⟨1, .cells [.int .i64 r0, .int .i64 t0, .lst (k0.map treeD)]⟩] ++ List.replicate 55 blk0))
      (fun q => belowT t q.1 = some q.2 ∧ coverP t a b = q.1 ++ coverP q.2 (a - (offT t q.1 : Nat)) (b - (offT t q.1 : Nat)))
      (fun q => size q.2) ([], t) ⟨rfl, by cases t; simp [offT]⟩ ?_ ?_
  · refine le_to ([.hole, .hole, .hole, .old 3] ++ List.replicate 55 .hole) hl rfl ?_ ?_ <;> ((try simp only [y_blk_end, y_blk_hole, y_blk_nil, y_blk_old, y_wkl_end, y_wkl_top, List.replicate, List.cons_append, List.nil_append, and_true, true_and]) <;> (repeat' (first | apply And.intro | apply y_wkl | refine Exists.intro _ (And.intro rfl ?_))) <;> (try first | exact trivial | exact Wk.top _ | exact wk_int rfl | exact wk_bool rfl | exact wk_ptr rfl rfl rfl rfl | exact wk_ref rfl rfl rfl rfl rfl | exact wk_nil rfl rfl rfl | exact wk_ref rfl rfl rfl rfl (by simp) | exact wk_ref rfl rfl rfl rfl (by simp; omega) | exact wk_old (by assumption) (by simp) | exact wk_eq rfl (by first | exact Bd.int _ _ | exact Bd.bool _ | exact Bd.abool | exact Bd.nils | exact Bd.emp | exact Bd.nilp | exact Bd.nilfn | assumption | exact low_trees _ _ | exact low_treeD _ _ | exact low_ints _ _) | exact Nat.le_refl _ | exact wk_int (by simp) | exact wk_int (by omega) | exact Nat.succ_le_succ (Nat.zero_le _) | exact Nat.le_add_left _ _ | omega))
    exact .nilsLst
  · rintro ⟨P, x⟩ ⟨hb, hc⟩
    simp only at hb hc
    have hlen := below_len P t x hb
    obtain ⟨cr, ct, ck, rfl⟩ : ∃ r t' k, x = .mk r t' k := by cases x; exact ⟨_, _, _, rfl⟩
    have hsx := size_mk cr ct ck
    have pB1 := pB P (by omega)
    rw [show belT t P = (.mk cr ct ck, true) by rw [belT, hb]] at pB1
    simp only at pB1
    rw [treeD_mk] at pB1
    simp -implicitDefEqProofs only [↓symPre, symPost, y_condP, y_condG, run, lver, minD, intsD, eqAll, tupD, splice, Nat.zero_add, Nat.add_zero, Nat.zero_mul, Nat.mul_one, Nat.one_mul, Nat.reduceAdd, Nat.reduceSub, Nat.reduceMul, Nat.reduceLT, Nat.reduceLeDiff, Nat.reduceEqDiff, true_and, and_true, true_implies, if_true, if_false, ite_true, reduceIte, ne_eq, not_false_eq_true, reduceCtorEq, forall_const, bne_self_eq_false, Bool.true_eq_false, Bool.false_eq_true, false_implies, and_self, implies_true, Int.toNat_zero, beq_self_eq_true, decide_true, decide_false, Bool.not_true, Bool.not_false, ↓y_call]
    refine pB1.call rfl ?_
    rw [coverP_mk] at hc
    by_cases c1 : cr = -1
    · have b1 : (cr == -1) = true := by simp [c1]
      rw [if_pos c1, List.append_nil] at hc
      simp -implicitDefEqProofs only [↓symPre, symPost, y_condP, y_condG, run, lver, minD, intsD, eqAll, tupD, splice, Nat.zero_add, Nat.add_zero, Nat.zero_mul, Nat.mul_one, Nat.one_mul, Nat.reduceAdd, Nat.reduceSub, Nat.reduceMul, Nat.reduceLT, Nat.reduceLeDiff, Nat.reduceEqDiff, true_and, and_true, true_implies, if_true, if_false, ite_true, reduceIte, ne_eq, not_false_eq_true, reduceCtorEq, forall_const, bne_self_eq_false, Bool.true_eq_false, Bool.false_eq_true, false_implies, and_self, implies_true, Int.toNat_zero, beq_self_eq_true, decide_true, decide_false, Bool.not_true, Bool.not_false, ↓y_call, List.length_map, b1]
      exact fin_low hl (low_ints n P) ⟨rfl, rfl, by rw [hc]; rfl⟩
    have b1 : (cr == -1) = false := by simp [c1]
    rw [if_neg c1] at hc hsx
    have hkl := len_le_sum ck
    generalize hA : a - (offT t P : Nat) = a9 at *
    generalize hB : b - (offT t P : Nat) = b9 at *
    simp -implicitDefEqProofs only [↓symPre, symPost, y_condP, y_condG, run, lver, minD, intsD, eqAll, tupD, splice, Nat.zero_add, Nat.add_zero, Nat.zero_mul, Nat.mul_one, Nat.one_mul, Nat.reduceAdd, Nat.reduceSub, Nat.reduceMul, Nat.reduceLT, Nat.reduceLeDiff, Nat.reduceEqDiff, true_and, and_true, true_implies, if_true, if_false, ite_true, reduceIte, ne_eq, not_false_eq_true, reduceCtorEq, forall_const, bne_self_eq_false, Bool.true_eq_false, Bool.false_eq_true, false_implies, and_self, implies_true, Int.toNat_zero, beq_self_eq_true, decide_true, decide_false, Bool.not_true, Bool.not_false, ↓y_call, List.length_map, b1]
    refine aloop (fun i : Nat => St.mk n ([.top, .int .i64 a, .int .i64 b, .ptr (n + 3) 1 0, .top, .top, .top, iD P, .top, .top, .int .i64 P.length] ++ List.replicate 18 .top ++ [.int .i64 ck.length, .int .i64 i] ++ List.replicate 28 .top) h
        ([blk0, blk0, blk0, ⟨1, .cells [.int .i64 r0, .int .i64 t0, .lst (k0.map treeD)]⟩] ++ List.replicate 55 blk0)) (fun i => i ≤ ck.length ∧ coverK (ck.drop i) i (wlen (ck.take i) : Nat) a9 b9 = coverK ck 0 0 a9 b9) (fun i => ck.length - i) 0 ⟨Nat.zero_le _, by simp [wlen_nil]⟩ ?_ ?_
    · refine le_to ([.hole, .hole, .hole, .old 3] ++ List.replicate 55 .hole) hl rfl ?_ ?_ <;> ((try simp only [y_blk_end, y_blk_hole, y_blk_nil, y_blk_old, y_wkl_end, y_wkl_top, List.replicate, List.cons_append, List.nil_append, and_true, true_and]) <;> (repeat' (first | apply And.intro | apply y_wkl | refine Exists.intro _ (And.intro rfl ?_))) <;> (try first | exact trivial | exact Wk.top _ | exact wk_int rfl | exact wk_bool rfl | exact wk_ptr rfl rfl rfl rfl | exact wk_ref rfl rfl rfl rfl rfl | exact wk_nil rfl rfl rfl | exact wk_ref rfl rfl rfl rfl (by simp) | exact wk_ref rfl rfl rfl rfl (by simp; omega) | exact wk_old (by assumption) (by simp) | exact wk_eq rfl (by first | exact Bd.int _ _ | exact Bd.bool _ | exact Bd.abool | exact Bd.nils | exact Bd.emp | exact Bd.nilp | exact Bd.nilfn | assumption | exact low_trees _ _ | exact low_treeD _ _ | exact low_ints _ _) | exact Nat.le_refl _ | exact wk_int (by simp) | exact wk_int (by omega) | exact Nat.succ_le_succ (Nat.zero_le _) | exact Nat.le_add_left _ _ | omega))
    · rintro i ⟨hi, hk⟩
      by_cases hlt : i < ck.length
      · have f1 : (i : Int) < (ck.length : Int) := by omega
        have w1 : IntKind.i64.wrap ((i : Int) + 1) = ((i + 1 : Nat) : Int) := by rw [IntWalk.i64_in _ (by omega)]; omega
        have hf8 : (P.length + 1) * 8 ≤ 140737488355328 := by omega
        have hCt := take_all (P.map (D.int .i64)) (k := P.length) (by simp)
        have hki : ck[i]? = some ck[i] := by simp [hlt]
        have hbi : belowT t (P ++ [(i : Int)]) = some ck[i] := by rw [below_app P t _ _ hb, below_cons c1 hki]; rfl
        have hoi : offT t (P ++ [(i : Int)]) = offT t P + wlen (ck.take i) := by rw [off_app P t _ _ hb, off_one hlt]
        have hsk := size_kid (List.getElem_mem hlt)
        have hws := wlen_take_succ ck i hlt
        rw [coverK_drop hlt] at hk
        generalize ck[i] = kk at *
        have pRi := pR _ _ hbi (by simp; omega)
        rw [hoi] at pRi
        simp -implicitDefEqProofs only [↓symPre, symPost, y_condP, y_condG, run, lver, minD, intsD, eqAll, tupD, splice, Nat.zero_add, Nat.add_zero, Nat.zero_mul, Nat.mul_one, Nat.one_mul, Nat.reduceAdd, Nat.reduceSub, Nat.reduceMul, Nat.reduceLT, Nat.reduceLeDiff, Nat.reduceEqDiff, true_and, and_true, true_implies, if_true, if_false, ite_true, reduceIte, ne_eq, not_false_eq_true, reduceCtorEq, forall_const, bne_self_eq_false, Bool.true_eq_false, Bool.false_eq_true, false_implies, and_self, implies_true, Int.toNat_zero, beq_self_eq_true, decide_true, decide_false, Bool.not_true, Bool.not_false, ↓y_call, f1, decide_true]
        refine (fresh_CloneI P (by omega)).call (t := 34) (low_iD 0 P) rfl rfl (Nat.le_of_ble_eq_true rfl) rfl ?_
        simp -implicitDefEqProofs only [↓symPre, symPost, y_condP, y_condG, run, lver, minD, intsD, eqAll, tupD, splice, Nat.zero_add, Nat.add_zero, Nat.zero_mul, Nat.mul_one, Nat.one_mul, Nat.reduceAdd, Nat.reduceSub, Nat.reduceMul, Nat.reduceLT, Nat.reduceLeDiff, Nat.reduceEqDiff, true_and, and_true, true_implies, if_true, if_false, ite_true, reduceIte, ne_eq, not_false_eq_true, reduceCtorEq, forall_const, bne_self_eq_false, Bool.true_eq_false, Bool.false_eq_true, false_implies, and_self, implies_true, Int.toNat_zero, beq_self_eq_true, decide_true, decide_false, Bool.not_true, Bool.not_false, ↓y_call, List.length_map, srcOf, Nat.le_refl, hf8, hCt]
        refine pRi.callF (.tup _ fun c hc => ?_) rfl (y_wkl (.low _ ?_) (y_wkl (fz_ints (l := P ++ [(i : Int)]) (by omega) ?_ ?_) trivial)) ?_
        · simp only [List.mem_cons, List.not_mem_nil, or_false] at hc
          rcases hc with rfl | rfl <;> exact .int ..
        · rw [← htD]; exact low_treeD 0 t
        · show mrg n h _ (n + 34) = _
          rw [mrg_loc]
          simp
        · simp
        by_cases d1 : ((offT t P + wlen (ck.take i) : Nat) : Int) ≤ a
        · by_cases d2 : b ≤ ((offT t P + wlen (ck.take i) + (wordL kk).length : Nat) : Int)
          · rw [if_pos (by omega)] at hk
            have hne : (((P.length + 1 : Nat) : Int) == (P.length : Int)) = false := beq_eq_false_iff_ne.2 (by omega)
            simp -implicitDefEqProofs only [↓symPre, symPost, y_condP, y_condG, run, lver, minD, intsD, eqAll, tupD, splice, Nat.zero_add, Nat.add_zero, Nat.zero_mul, Nat.mul_one, Nat.one_mul, Nat.reduceAdd, Nat.reduceSub, Nat.reduceMul, Nat.reduceLT, Nat.reduceLeDiff, Nat.reduceEqDiff, true_and, and_true, true_implies, if_true, if_false, ite_true, reduceIte, ne_eq, not_false_eq_true, reduceCtorEq, forall_const, bne_self_eq_false, Bool.true_eq_false, Bool.false_eq_true, false_implies, and_self, implies_true, Int.toNat_zero, beq_self_eq_true, decide_true, decide_false, Bool.not_true, Bool.not_false, ↓y_call, d1, d2, hne, List.length_map, List.length_append, List.length_cons, List.length_nil]
            refine ⟨(P ++ [(i : Int)], kk), ⟨hbi, ?_⟩, by simp only; omega, ?_⟩
            · simp only
              rw [hoi, hc, ← hk, List.append_assoc]
              simp only [List.cons_append, List.nil_append]
              congr 3 <;> omega
            · refine le_to ([.hole, .hole, .hole, .old 3] ++ List.replicate 55 .hole) hl rfl ?_ ?_ <;> ((try simp only [y_blk_end, y_blk_hole, y_blk_nil, y_blk_old, y_wkl_end, y_wkl_top, List.replicate, List.cons_append, List.nil_append, and_true, true_and]) <;> (repeat' (first | apply And.intro | apply y_wkl | refine Exists.intro _ (And.intro rfl ?_))) <;> (try first | exact trivial | exact Wk.top _ | exact wk_int rfl | exact wk_bool rfl | exact wk_ptr rfl rfl rfl rfl | exact wk_ref rfl rfl rfl rfl rfl | exact wk_nil rfl rfl rfl | exact wk_ref rfl rfl rfl rfl (by simp) | exact wk_ref rfl rfl rfl rfl (by simp; omega) | exact wk_old (by assumption) (by simp) | exact wk_eq rfl (by first | exact Bd.int _ _ | exact Bd.bool _ | exact Bd.abool | exact Bd.nils | exact Bd.emp | exact Bd.nilp | exact Bd.nilfn | assumption | exact low_trees _ _ | exact low_treeD _ _ | exact low_ints _ _) | exact Nat.le_refl _ | exact wk_int (by simp) | exact wk_int (by omega) | exact Nat.succ_le_succ (Nat.zero_le _) | exact Nat.le_add_left _ _ | omega))
              exact wk_frzF (D.int .i64) (sz := 1) (fun _ => rfl) (low_intD n) (t := 34) (ver := 2) (l := P ++ [(i : Int)]) rfl (by rw [cellsF_int]; simp) (by simp) (by simp)
          · rw [if_neg (by omega)] at hk
            simp -implicitDefEqProofs only [↓symPre, symPost, y_condP, y_condG, run, lver, minD, intsD, eqAll, tupD, splice, Nat.zero_add, Nat.add_zero, Nat.zero_mul, Nat.mul_one, Nat.one_mul, Nat.reduceAdd, Nat.reduceSub, Nat.reduceMul, Nat.reduceLT, Nat.reduceLeDiff, Nat.reduceEqDiff, true_and, and_true, true_implies, if_true, if_false, ite_true, reduceIte, ne_eq, not_false_eq_true, reduceCtorEq, forall_const, bne_self_eq_false, Bool.true_eq_false, Bool.false_eq_true, false_implies, and_self, implies_true, Int.toNat_zero, beq_self_eq_true, decide_true, decide_false, Bool.not_true, Bool.not_false, ↓y_call, d1, d2, w1]
            refine ⟨i + 1, ⟨by omega, by rw [← hk, hws]; rfl⟩, by omega, ?_⟩
            refine le_to ([.hole, .hole, .hole, .old 3] ++ List.replicate 55 .hole) hl rfl ?_ ?_ <;> ((try simp only [y_blk_end, y_blk_hole, y_blk_nil, y_blk_old, y_wkl_end, y_wkl_top, List.replicate, List.cons_append, List.nil_append, and_true, true_and]) <;> (repeat' (first | apply And.intro | apply y_wkl | refine Exists.intro _ (And.intro rfl ?_))) <;> (try first | exact trivial | exact Wk.top _ | exact wk_int rfl | exact wk_bool rfl | exact wk_ptr rfl rfl rfl rfl | exact wk_ref rfl rfl rfl rfl rfl | exact wk_nil rfl rfl rfl | exact wk_ref rfl rfl rfl rfl (by simp) | exact wk_ref rfl rfl rfl rfl (by simp; omega) | exact wk_old (by assumption) (by simp) | exact wk_eq rfl (by first | exact Bd.int _ _ | exact Bd.bool _ | exact Bd.abool | exact Bd.nils | exact Bd.emp | exact Bd.nilp | exact Bd.nilfn | assumption | exact low_trees _ _ | exact low_treeD _ _ | exact low_ints _ _) | exact Nat.le_refl _ | exact wk_int (by simp) | exact wk_int (by omega) | exact Nat.succ_le_succ (Nat.zero_le _) | exact Nat.le_add_left _ _ | omega))
        · rw [if_neg (by omega)] at hk
          simp -implicitDefEqProofs only [↓symPre, symPost, y_condP, y_condG, run, lver, minD, intsD, eqAll, tupD, splice, Nat.zero_add, Nat.add_zero, Nat.zero_mul, Nat.mul_one, Nat.one_mul, Nat.reduceAdd, Nat.reduceSub, Nat.reduceMul, Nat.reduceLT, Nat.reduceLeDiff, Nat.reduceEqDiff, true_and, and_true, true_implies, if_true, if_false, ite_true, reduceIte, ne_eq, not_false_eq_true, reduceCtorEq, forall_const, bne_self_eq_false, Bool.true_eq_false, Bool.false_eq_true, false_implies, and_self, implies_true, Int.toNat_zero, beq_self_eq_true, decide_true, decide_false, Bool.not_true, Bool.not_false, ↓y_call, d1, w1]
          refine ⟨i + 1, ⟨by omega, by rw [← hk, hws]; rfl⟩, by omega, ?_⟩
          refine le_to ([.hole, .hole, .hole, .old 3] ++ List.replicate 55 .hole) hl rfl ?_ ?_ <;> ((try simp only [y_blk_end, y_blk_hole, y_blk_nil, y_blk_old, y_wkl_end, y_wkl_top, List.replicate, List.cons_append, List.nil_append, and_true, true_and]) <;> (repeat' (first | apply And.intro | apply y_wkl | refine Exists.intro _ (And.intro rfl ?_))) <;> (try first | exact trivial | exact Wk.top _ | exact wk_int rfl | exact wk_bool rfl | exact wk_ptr rfl rfl rfl rfl | exact wk_ref rfl rfl rfl rfl rfl | exact wk_nil rfl rfl rfl | exact wk_ref rfl rfl rfl rfl (by simp) | exact wk_ref rfl rfl rfl rfl (by simp; omega) | exact wk_old (by assumption) (by simp) | exact wk_eq rfl (by first | exact Bd.int _ _ | exact Bd.bool _ | exact Bd.abool | exact Bd.nils | exact Bd.emp | exact Bd.nilp | exact Bd.nilfn | assumption | exact low_trees _ _ | exact low_treeD _ _ | exact low_ints _ _) | exact Nat.le_refl _ | exact wk_int (by simp) | exact wk_int (by omega) | exact Nat.succ_le_succ (Nat.zero_le _) | exact Nat.le_add_left _ _ | omega))
      · have f1 : ¬ (i : Int) < (ck.length : Int) := by omega
        have hil : i = ck.length := by omega
        subst hil
        rw [List.drop_length, coverK_end] at hk
        rw [← hk, List.append_nil] at hc
        simp -implicitDefEqProofs only [↓symPre, symPost, y_condP, y_condG, run, lver, minD, intsD, eqAll, tupD, splice, Nat.zero_add, Nat.add_zero, Nat.zero_mul, Nat.mul_one, Nat.one_mul, Nat.reduceAdd, Nat.reduceSub, Nat.reduceMul, Nat.reduceLT, Nat.reduceLeDiff, Nat.reduceEqDiff, true_and, and_true, true_implies, if_true, if_false, ite_true, reduceIte, ne_eq, not_false_eq_true, reduceCtorEq, forall_const, bne_self_eq_false, Bool.true_eq_false, Bool.false_eq_true, false_implies, and_self, implies_true, Int.toNat_zero, beq_self_eq_true, decide_true, decide_false, Bool.not_true, Bool.not_false, ↓y_call, f1, decide_false, beq_self_eq_true, List.length_map]
        exact fin_low hl (low_ints n P) ⟨rfl, rfl, by rw [hc]; rfl⟩

end Abs
end Go.Proofs.Ytfojedaccfenfaa

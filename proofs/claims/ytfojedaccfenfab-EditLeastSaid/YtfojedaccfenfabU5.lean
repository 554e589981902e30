/- edit.Run: what it checks, and all that it does ahead of its range over slices.Backward. -/
import Derived.Test.YtfojedaccfenfabU4
namespace Go.Proofs.Ytfojedaccfenfab
namespace Abs
set_option linter.unusedVariables false
set_option linter.unusedSimpArgs false
set_option maxRecDepth 20000

/-! ### plain -/
def edAt (l : List Ed) (i : Nat) : Ed := l.getD i ed0
def atK (l : List Ed) (k : Nat) : Int := if k = 0 then 0 else (edAt l (k - 1)).t
def shK (l : List Ed) (k : Nat) : Int := ((l.take k).map shiftE).sum
def okIx (n : Nat) (l : List Ed) (i : Nat) : Prop := atK l i ≤ (edAt l i).f ∧ (0 < i → atK l i < (edAt l i).f) ∧ (edAt l i).f ≤ (edAt l i).t ∧ (edAt l i).t ≤ n
instance (n : Nat) (l : List Ed) (i : Nat) : Decidable (okIx n l i) := inferInstanceAs (Decidable (_ ∧ _ ∧ _ ∧ _))
def okUp (n : Nat) (l : List Ed) (k : Nat) : Prop := ∀ i, i < k → okIx n l i
instance (n : Nat) (l : List Ed) (k : Nat) : Decidable (okUp n l k) := inferInstanceAs (Decidable (∀ i, i < k → okIx n l i))
def runF (n : Nat) (l : List Ed) : Int := if okUp n l l.length then (if (n : Int) + shK l l.length > 2000 then 2 else 0) else 1
def runB (w : List Int) (l : List Ed) : List Int := l.foldr (fun e acc => applyL acc e) w
def runL (w : List Int) (l : List Ed) : List Int := if runF w.length l = 0 then runB w l else []

theorem edAt_get {l : List Ed} {i : Nat} (hi : i < l.length) : edAt l i = l[i] := by simp [edAt, hi]
theorem nth_eds (l : List Ed) (i : Nat) (hi : i < l.length) : nth (l.map edD) i = .agg [.int .i64 (edAt l i).f, .int .i64 (edAt l i).t, iD (edAt l i).w] := by
  simp [nth, List.getD, hi, edAt, edD]
theorem low_eds (n : Nat) (l : List Ed) : Low n (.lst (l.map edD)) := by
  refine .lst _ fun c hc => ?_
  obtain ⟨e, _, rfl⟩ := List.mem_map.1 hc
  exact low_edD n e
theorem shK_succ {l : List Ed} {i : Nat} (hi : i < l.length) : shK l (i + 1) = shK l i + shiftE (edAt l i) := by
  rw [shK, List.take_succ_eq_append_getElem hi, List.map_append, List.sum_append, edAt_get hi]; simp [shK]
theorem atK_bound {n : Nat} {l : List Ed} : ∀ {k : Nat}, okUp n l k → 0 ≤ atK l k ∧ atK l k ≤ n
  | 0, _ => by simp [atK]
  | k + 1, h => by
    have h1 := atK_bound (k := k) fun i hi => h i (by omega)
    have h2 := h k (by omega)
    unfold okIx at h2
    simp only [atK, Nat.add_one_ne_zero, if_false, Nat.add_sub_cancel] at *
    omega
/-- the symbols that scripts bring -/
def newK (l : List Ed) : Nat := (l.map fun e => e.w.length).sum
theorem newK_mem {l : List Ed} {e : Ed} (h : e ∈ l) : e.w.length ≤ newK l := by
  induction l with
  | nil => simp at h
  | cons a l ih =>
    have := @ih
    simp only [newK, List.map_cons, List.sum_cons] at *
    rcases List.mem_cons.1 h with rfl | h
    · omega
    · have := ih h; omega
theorem newK_at (l : List Ed) {i : Nat} (hi : i < l.length) : (edAt l i).w.length ≤ newK l := by
  rw [edAt_get hi]; exact newK_mem (List.getElem_mem hi)
theorem shK_bound {n : Nat} {l : List Ed} : ∀ {k : Nat}, k ≤ l.length → okUp n l k → - (k * n : Nat) ≤ shK l k ∧ shK l k ≤ (k * newK l : Nat)
  | 0, _, _ => by simp [shK]
  | k + 1, hk, h => by
    have h1 := shK_bound (k := k) (by omega) fun i hi => h i (by omega)
    have h2 := h k (by omega)
    have h3 := (atK_bound (k := k) fun i hi => h i (by omega)).1
    have h4 := newK_at l (i := k) (by omega)
    rw [shK_succ (by omega)]
    unfold okIx at h2
    simp only [shiftE, Nat.add_mul, Nat.one_mul]
    generalize k * n = A at *
    generalize k * newK l = B at *
    omega

/-! ### the walk up to the range -/
def C_Run_pre : AC :=
  (.seq (.region [⟨(.some 4), (.mov (.val .nils)), .always⟩, ⟨(.some 5), (.mov (.val (.int .i64 0))), .always⟩]) (.seq (.region [⟨(.some 13), (.mov (.tmp 0)), .always⟩, ⟨(.some 14), (.len (.tmp 13)), .always⟩, ⟨(.some 6), (.mov (.val (.int .i64 0))), .always⟩, ⟨(.some 7), (.mov (.tmp 14)), .always⟩]) (.seq (.seq (.region [⟨(.some 15), (.mov (.tmp 1)), .always⟩, ⟨(.some 16), (.len (.tmp 15)), .always⟩, ⟨(.some 17), (.mov (.val (.int .i64 0))), .always⟩]) (.block 0 (.loop (.seq (.region [⟨(.some 18), (.bin .lss (.tmp 17) (.tmp 16)), .always⟩]) (.seq (.cond (.tmp 18) .skip (.exit 0)) (.seq (.block 1 (.seq (.region [⟨(.some 19), (.mov (.tmp 17)), .always⟩, ⟨(.some 20), (.idxS 3 (.tmp 15) (.tmp 17)), .always⟩, ⟨(.some 21), (.load .true 3 (.tmp 20)), .always⟩, ⟨(.some 9), (.alloc [(.int .i64 0), (.int .i64 0), .nils]), .always⟩, ⟨(.some 8), (.mov (.tmp 19)), .always⟩, ⟨.none, (.store 3 (.tmp 9) (.tmp 21)), .always⟩]) (.seq (.seq (.region [⟨(.some 22), (.fieldAddr 0 (.tmp 9)), .always⟩, ⟨(.some 23), (.load .false 1 (.tmp 22)), .always⟩, ⟨(.some 24), (.mov (.tmp 6)), .always⟩, ⟨(.some 25), (.bin .lss (.tmp 23) (.tmp 24)), .always⟩, ⟨(.some 26), (.mov (.tmp 25)), .always⟩, ⟨(.some 27), (.mov (.tmp 8)), (.on 26 .false)⟩, ⟨(.some 28), (.bin .gtr (.tmp 27) (.val (.int .i64 0))), (.on 26 .false)⟩, ⟨(.some 29), (.mov (.tmp 28)), (.on 26 .false)⟩, ⟨(.some 30), (.fieldAddr 0 (.tmp 9)), (.on 29 .true)⟩, ⟨(.some 31), (.load .false 1 (.tmp 30)), (.on 29 .true)⟩, ⟨(.some 32), (.mov (.tmp 6)), (.on 29 .true)⟩, ⟨(.some 33), (.bin .eql (.tmp 31) (.tmp 32)), (.on 29 .true)⟩, ⟨(.some 34), (.pick (.tmp 29) (.tmp 33) (.val (.bool .false))), (.on 26 .false)⟩, ⟨(.some 35), (.pick (.tmp 26) (.val (.bool .true)) (.tmp 34)), .always⟩, ⟨(.some 36), (.mov (.tmp 35)), .always⟩, ⟨(.some 37), (.fieldAddr 1 (.tmp 9)), (.on 36 .false)⟩, ⟨(.some 38), (.load .false 1 (.tmp 37)), (.on 36 .false)⟩, ⟨(.some 39), (.fieldAddr 0 (.tmp 9)), (.on 36 .false)⟩, ⟨(.some 40), (.load .false 1 (.tmp 39)), (.on 36 .false)⟩, ⟨(.some 41), (.bin .lss (.tmp 38) (.tmp 40)), (.on 36 .false)⟩, ⟨(.some 42), (.pick (.tmp 36) (.val (.bool .true)) (.tmp 41)), .always⟩, ⟨(.some 43), (.mov (.tmp 42)), .always⟩, ⟨(.some 44), (.fieldAddr 1 (.tmp 9)), (.on 43 .false)⟩, ⟨(.some 45), (.load .false 1 (.tmp 44)), (.on 43 .false)⟩, ⟨(.some 46), (.mov (.tmp 0)), (.on 43 .false)⟩, ⟨(.some 47), (.len (.tmp 46)), (.on 43 .false)⟩, ⟨(.some 48), (.bin .gtr (.tmp 45) (.tmp 47)), (.on 43 .false)⟩, ⟨(.some 49), (.pick (.tmp 43) (.val (.bool .true)) (.tmp 48)), .always⟩]) (.cond (.tmp 49) (.seq (.region [⟨(.some 4), (.mov (.val .nils)), .always⟩, ⟨(.some 5), (.mov (.val (.int .i64 1))), .always⟩]) .ret) .skip)) (.seq (.region [⟨(.some 50), (.fieldAddr 1 (.tmp 9)), .always⟩, ⟨(.some 51), (.load .false 1 (.tmp 50)), .always⟩, ⟨(.some 6), (.mov (.tmp 51)), .always⟩]) (.region [⟨(.some 52), (.mov (.tmp 7)), .always⟩, ⟨(.some 53), (.load .true 3 (.tmp 9)), .always⟩, ⟨(.some 54), (.call F_edit_Edit_shift [(.tmp 53)]), .always⟩, ⟨(.some 55), (.bin .add (.tmp 52) (.tmp 54)), .always⟩, ⟨(.some 7), (.mov (.tmp 55)), .always⟩]))))) (.region [⟨(.some 56), (.bin .add (.tmp 17) (.val (.int .i64 1))), .always⟩, ⟨(.some 17), (.mov (.tmp 56)), .always⟩]))))))) (.seq (.seq (.region [⟨(.some 57), (.mov (.tmp 7)), .always⟩, ⟨(.some 58), (.bin .gtr (.tmp 57) (.val (.int .i64 2000))), .always⟩]) (.cond (.tmp 58) (.seq (.region [⟨(.some 4), (.mov (.val .nils)), .always⟩, ⟨(.some 5), (.mov (.val (.int .i64 2))), .always⟩]) .ret) .skip)) (.seq (.region [⟨(.some 59), (.mov (.tmp 0)), .always⟩, ⟨(.some 60), (.call F_slices_Clone_int_int [(.tmp 59)]), .always⟩, ⟨(.some 10), (.alloc [.nils]), .always⟩, ⟨.none, (.store 1 (.tmp 10) (.tmp 60)), .always⟩]) .skip)))))

def preQ (R : D → Heap → List Blk → Prop) (n : Nat) (h : Heap) (w : List Int) (l : List Ed) : Exit → St → Prop
  | .normal, s => s.n = n ∧ s.h = h ∧ s.lc.length = 69 ∧ s.sl.length = 69 ∧ runF w.length l = 0 ∧ nth s.sl 1 = .lst (l.map edD) ∧ ∃ ver, nth s.sl 10 = .ptr (n + 10) ver 0 ∧ s.lc[10]? = some ⟨ver, .cells [iD w]⟩
  | .ret, s => FnQ [.tmp 4, .tmp 5] R .ret s
  | _, _ => False

theorem run_pre (w : List Int) (l : List Ed) (hw : w.length + newK l < 2 ^ 30) (hll : l.length < 2 ^ 30) {n : Nat} {h : Heap} (hl : LowH n h) {R : D → Heap → List Blk → Prop} (hR : R (.tup [iD (runL w l), .int .i64 (runF w.length l)]) h []) :
    awpS prog C_Run_pre (preQ R n h w l) ⟨n, [iD w, .lst (l.map edD)] ++ List.replicate 67 .top, h, List.replicate 69 blk0⟩ := by
  unfold C_Run_pre
  have hlow := low_eds n l
  have h00 : (w.length : Int) + shK l 0 = w.length := by simp [shK]
  have h01 : atK l 0 = 0 := rfl
  simp -implicitDefEqProofs only [↓symPre, symPost, y_condP, y_condG, run, lver, minD, intsD, eqAll, tupD, splice, Nat.zero_add, Nat.add_zero, Nat.zero_mul, Nat.mul_one, Nat.one_mul, Nat.reduceAdd, Nat.reduceSub, Nat.reduceMul, Nat.reduceLT, Nat.reduceLeDiff, Nat.reduceEqDiff, true_and, and_true, true_implies, if_true, if_false, ite_true, reduceIte, ne_eq, not_false_eq_true, reduceCtorEq, forall_const, bne_self_eq_false, Bool.true_eq_false, Bool.false_eq_true, false_implies, and_self, implies_true, Int.toNat_zero, beq_self_eq_true, decide_true, decide_false, Bool.not_true, Bool.not_false, ↓y_call, List.length_map]
  refine aloop (fun i : Nat => St.mk n ([iD w, .lst (l.map edD), .top, .top, .nils, .int .i64 0, .int .i64 (atK l i), .int .i64 (w.length + shK l i)] ++ List.replicate 7 .top ++ [.lst (l.map edD), .int .i64 l.length, .int .i64 i] ++ List.replicate 51 .top) h
      (List.replicate 69 blk0)) (fun i => i ≤ l.length ∧ okUp w.length l i) (fun i => l.length - i) 0 ⟨Nat.zero_le _, fun i hi => by omega⟩ ?_ ?_
  · rw [h00, h01]
    refine le_to (List.replicate 69 .hole) hl rfl ?_ ?_ <;> ((try simp only [y_blk_end, y_blk_hole, y_blk_nil, y_blk_old, y_wkl_end, y_wkl_top, List.replicate, List.cons_append, List.nil_append, and_true, true_and]) <;> (repeat' (first | apply And.intro | apply y_wkl | refine Exists.intro _ (And.intro rfl ?_))) <;> (try first | exact trivial | exact Wk.top _ | exact wk_int rfl | exact wk_bool rfl | exact wk_ptr rfl rfl rfl rfl | exact wk_ref rfl rfl rfl rfl rfl | exact wk_nil rfl rfl rfl | exact wk_ref rfl rfl rfl rfl (by simp) | exact wk_ref rfl rfl rfl rfl (by simp; omega) | exact wk_old (by assumption) (by simp) | exact wk_eq rfl (by first | exact Bd.int _ _ | exact Bd.bool _ | exact Bd.abool | exact Bd.nils | exact Bd.emp | exact Bd.nilp | exact Bd.nilfn | assumption | exact low_trees _ _ | exact low_treeD _ _ | exact low_ints _ _) | exact Nat.le_refl _ | exact wk_int (by simp) | exact wk_int (by omega) | exact Nat.succ_le_succ (Nat.zero_le _) | exact Nat.le_add_left _ _ | omega))
  · rintro i ⟨hi, hok⟩
    obtain ⟨a1, a2⟩ := atK_bound hok
    obtain ⟨b1, b2⟩ := shK_bound hi hok
    have c1 : i * w.length ≤ 2 ^ 30 * 2 ^ 30 := Nat.mul_le_mul (by omega) (by omega)
    have c2 : i * newK l ≤ 2 ^ 30 * 2 ^ 30 := Nat.mul_le_mul (by omega) (by omega)
    by_cases hlt : i < l.length
    · have h1 : (i : Int) < (l.length : Int) := by omega
      have h0 : (0 : Int) ≤ (i : Int) := by omega
      have e0 := nth_eds l i hlt
      have hfin : ¬ okIx w.length l i → ∀ (s : St), s.n = n → s.h = h → s.sl.length = 69 → nth s.sl 4 = .nils → nth s.sl 5 = .int .i64 1 → FnQ [.tmp 4, .tmp 5] R .ret s := by
        rintro hno ⟨n', sl', h', lc'⟩ rfl rfl _ q4 q5
        simp only at q4 q5
        simp only [FnQ, resAll, resVal, q4, q5]
        have hf : runF w.length l = 1 := by rw [runF, if_neg fun hall => hno (hall i hlt)]
        refine fin_wk (d := .tup [iD (runL w l), .int .i64 (runF w.length l)]) hl ?_ hR
        rw [runL, hf]
        exact wk_tup2 .nilsLst wk_i
      have hw8 := newK_at l hlt
      generalize hE : edAt l i = e at *
      by_cases g1 : e.f < atK l i
      · have hno := hfin (fun ⟨q, _⟩ => by rw [hE] at q; omega)
        simp -implicitDefEqProofs only [↓symPre, symPost, y_condP, y_condG, run, lver, minD, intsD, eqAll, tupD, splice, Nat.zero_add, Nat.add_zero, Nat.zero_mul, Nat.mul_one, Nat.one_mul, Nat.reduceAdd, Nat.reduceSub, Nat.reduceMul, Nat.reduceLT, Nat.reduceLeDiff, Nat.reduceEqDiff, true_and, and_true, true_implies, if_true, if_false, ite_true, reduceIte, ne_eq, not_false_eq_true, reduceCtorEq, forall_const, bne_self_eq_false, Bool.true_eq_false, Bool.false_eq_true, false_implies, and_self, implies_true, Int.toNat_zero, beq_self_eq_true, decide_true, decide_false, Bool.not_true, Bool.not_false, ↓y_call, List.length_map, h1, h0, e0, decide_true, Int.toNat_natCast, g1, hlow]
        exact hno _ rfl rfl rfl rfl rfl
      · by_cases g2 : (i : Int) > 0
        · by_cases g3 : e.f = atK l i
          · have hno := hfin (fun ⟨_, q, _⟩ => by rw [hE] at q; have := q (by omega); omega)
            have g3' : (atK l i == atK l i) = true := by simp
            simp -implicitDefEqProofs only [↓symPre, symPost, y_condP, y_condG, run, lver, minD, intsD, eqAll, tupD, splice, Nat.zero_add, Nat.add_zero, Nat.zero_mul, Nat.mul_one, Nat.one_mul, Nat.reduceAdd, Nat.reduceSub, Nat.reduceMul, Nat.reduceLT, Nat.reduceLeDiff, Nat.reduceEqDiff, true_and, and_true, true_implies, if_true, if_false, ite_true, reduceIte, ne_eq, not_false_eq_true, reduceCtorEq, forall_const, bne_self_eq_false, Bool.true_eq_false, Bool.false_eq_true, false_implies, and_self, implies_true, Int.toNat_zero, beq_self_eq_true, decide_true, decide_false, Bool.not_true, Bool.not_false, ↓y_call, List.length_map, h1, h0, e0, decide_true, decide_false, Int.toNat_natCast, g1, g2, g3, g3', hlow, Int.lt_irrefl]
            exact hno _ rfl rfl rfl rfl rfl
          · have g3' : (e.f == atK l i) = false := by simpa using g3
            by_cases g4 : e.t < e.f
            · have hno := hfin (fun ⟨_, _, q, _⟩ => by rw [hE] at q; omega)
              simp -implicitDefEqProofs only [↓symPre, symPost, y_condP, y_condG, run, lver, minD, intsD, eqAll, tupD, splice, Nat.zero_add, Nat.add_zero, Nat.zero_mul, Nat.mul_one, Nat.one_mul, Nat.reduceAdd, Nat.reduceSub, Nat.reduceMul, Nat.reduceLT, Nat.reduceLeDiff, Nat.reduceEqDiff, true_and, and_true, true_implies, if_true, if_false, ite_true, reduceIte, ne_eq, not_false_eq_true, reduceCtorEq, forall_const, bne_self_eq_false, Bool.true_eq_false, Bool.false_eq_true, false_implies, and_self, implies_true, Int.toNat_zero, beq_self_eq_true, decide_true, decide_false, Bool.not_true, Bool.not_false, ↓y_call, List.length_map, h1, h0, e0, decide_true, decide_false, Int.toNat_natCast, g1, g2, g3', g4, hlow]
              exact hno _ rfl rfl rfl rfl rfl
            · by_cases g5 : e.t > (w.length : Int)
              · have hno := hfin (fun ⟨_, _, _, q⟩ => by rw [hE] at q; omega)
                simp -implicitDefEqProofs only [↓symPre, symPost, y_condP, y_condG, run, lver, minD, intsD, eqAll, tupD, splice, Nat.zero_add, Nat.add_zero, Nat.zero_mul, Nat.mul_one, Nat.one_mul, Nat.reduceAdd, Nat.reduceSub, Nat.reduceMul, Nat.reduceLT, Nat.reduceLeDiff, Nat.reduceEqDiff, true_and, and_true, true_implies, if_true, if_false, ite_true, reduceIte, ne_eq, not_false_eq_true, reduceCtorEq, forall_const, bne_self_eq_false, Bool.true_eq_false, Bool.false_eq_true, false_implies, and_self, implies_true, Int.toNat_zero, beq_self_eq_true, decide_true, decide_false, Bool.not_true, Bool.not_false, ↓y_call, List.length_map, h1, h0, e0, decide_true, decide_false, Int.toNat_natCast, g1, g2, g3', g4, g5, hlow]
                exact hno _ rfl rfl rfl rfl rfl
              · have hok1 : okUp w.length l (i + 1) := fun j hj => by
                  rcases Nat.lt_or_ge j i with hj2 | hj2
                  · exact hok j hj2
                  · obtain rfl : j = i := by omega
                    unfold okIx; rw [hE]; omega
                have hat : atK l (i + 1) = e.t := by simp [atK, hE]
                have hsh : shK l (i + 1) = shK l i + shiftE e := by rw [shK_succ hlt, hE]
                have hs2 : shiftE e = e.w.length - (e.t - e.f) := rfl
                have w1 : IntKind.i64.wrap ((i : Int) + 1) = ((i + 1 : Nat) : Int) := by rw [IntWalk.i64_in _ (by omega)]; omega
                have w2 : IntKind.i64.wrap ((w.length : Int) + shK l i + shiftE e) = (w.length : Int) + shK l (i + 1) := by rw [hsh, IntWalk.i64_in _ (by omega)]; omega
                simp -implicitDefEqProofs only [↓symPre, symPost, y_condP, y_condG, run, lver, minD, intsD, eqAll, tupD, splice, Nat.zero_add, Nat.add_zero, Nat.zero_mul, Nat.mul_one, Nat.one_mul, Nat.reduceAdd, Nat.reduceSub, Nat.reduceMul, Nat.reduceLT, Nat.reduceLeDiff, Nat.reduceEqDiff, true_and, and_true, true_implies, if_true, if_false, ite_true, reduceIte, ne_eq, not_false_eq_true, reduceCtorEq, forall_const, bne_self_eq_false, Bool.true_eq_false, Bool.false_eq_true, false_implies, and_self, implies_true, Int.toNat_zero, beq_self_eq_true, decide_true, decide_false, Bool.not_true, Bool.not_false, ↓y_call, List.length_map, h1, h0, e0, decide_true, decide_false, Int.toNat_natCast, g1, g2, g3', g4, g5, hlow]
                refine (pure_shift e (by omega) (by omega) (by omega)).call rfl ?_
                simp -implicitDefEqProofs only [↓symPre, symPost, y_condP, y_condG, run, lver, minD, intsD, eqAll, tupD, splice, Nat.zero_add, Nat.add_zero, Nat.zero_mul, Nat.mul_one, Nat.one_mul, Nat.reduceAdd, Nat.reduceSub, Nat.reduceMul, Nat.reduceLT, Nat.reduceLeDiff, Nat.reduceEqDiff, true_and, and_true, true_implies, if_true, if_false, ite_true, reduceIte, ne_eq, not_false_eq_true, reduceCtorEq, forall_const, bne_self_eq_false, Bool.true_eq_false, Bool.false_eq_true, false_implies, and_self, implies_true, Int.toNat_zero, beq_self_eq_true, decide_true, decide_false, Bool.not_true, Bool.not_false, ↓y_call, w1, w2]
                refine ⟨i + 1, ⟨by omega, hok1⟩, by omega, ?_⟩
                rw [← hat]
                refine le_to (List.replicate 69 .hole) hl rfl ?_ ?_ <;> ((try simp only [y_blk_end, y_blk_hole, y_blk_nil, y_blk_old, y_wkl_end, y_wkl_top, List.replicate, List.cons_append, List.nil_append, and_true, true_and]) <;> (repeat' (first | apply And.intro | apply y_wkl | refine Exists.intro _ (And.intro rfl ?_))) <;> (try first | exact trivial | exact Wk.top _ | exact wk_int rfl | exact wk_bool rfl | exact wk_ptr rfl rfl rfl rfl | exact wk_ref rfl rfl rfl rfl rfl | exact wk_nil rfl rfl rfl | exact wk_ref rfl rfl rfl rfl (by simp) | exact wk_ref rfl rfl rfl rfl (by simp; omega) | exact wk_old (by assumption) (by simp) | exact wk_eq rfl (by first | exact Bd.int _ _ | exact Bd.bool _ | exact Bd.abool | exact Bd.nils | exact Bd.emp | exact Bd.nilp | exact Bd.nilfn | assumption | exact low_trees _ _ | exact low_treeD _ _ | exact low_ints _ _) | exact Nat.le_refl _ | exact wk_int (by simp) | exact wk_int (by omega) | exact Nat.succ_le_succ (Nat.zero_le _) | exact Nat.le_add_left _ _ | omega))
        · have g3' : e.f ≥ atK l i := by omega
          by_cases g4 : e.t < e.f
          · have hno := hfin (fun ⟨_, _, q, _⟩ => by rw [hE] at q; omega)
            simp -implicitDefEqProofs only [↓symPre, symPost, y_condP, y_condG, run, lver, minD, intsD, eqAll, tupD, splice, Nat.zero_add, Nat.add_zero, Nat.zero_mul, Nat.mul_one, Nat.one_mul, Nat.reduceAdd, Nat.reduceSub, Nat.reduceMul, Nat.reduceLT, Nat.reduceLeDiff, Nat.reduceEqDiff, true_and, and_true, true_implies, if_true, if_false, ite_true, reduceIte, ne_eq, not_false_eq_true, reduceCtorEq, forall_const, bne_self_eq_false, Bool.true_eq_false, Bool.false_eq_true, false_implies, and_self, implies_true, Int.toNat_zero, beq_self_eq_true, decide_true, decide_false, Bool.not_true, Bool.not_false, ↓y_call, List.length_map, h1, h0, e0, decide_true, decide_false, Int.toNat_natCast, g1, g2, g4, hlow]
            exact hno _ rfl rfl rfl rfl rfl
          · by_cases g5 : e.t > (w.length : Int)
            · have hno := hfin (fun ⟨_, _, _, q⟩ => by rw [hE] at q; omega)
              simp -implicitDefEqProofs only [↓symPre, symPost, y_condP, y_condG, run, lver, minD, intsD, eqAll, tupD, splice, Nat.zero_add, Nat.add_zero, Nat.zero_mul, Nat.mul_one, Nat.one_mul, Nat.reduceAdd, Nat.reduceSub, Nat.reduceMul, Nat.reduceLT, Nat.reduceLeDiff, Nat.reduceEqDiff, true_and, and_true, true_implies, if_true, if_false, ite_true, reduceIte, ne_eq, not_false_eq_true, reduceCtorEq, forall_const, bne_self_eq_false, Bool.true_eq_false, Bool.false_eq_true, false_implies, and_self, implies_true, Int.toNat_zero, beq_self_eq_true, decide_true, decide_false, Bool.not_true, Bool.not_false, ↓y_call, List.length_map, h1, h0, e0, decide_true, decide_false, Int.toNat_natCast, g1, g2, g4, g5, hlow]
              exact hno _ rfl rfl rfl rfl rfl
            · have hok1 : okUp w.length l (i + 1) := fun j hj => by
                rcases Nat.lt_or_ge j i with hj2 | hj2
                · exact hok j hj2
                · obtain rfl : j = i := by omega
                  unfold okIx; rw [hE]; omega
              have hat : atK l (i + 1) = e.t := by simp [atK, hE]
              have hsh : shK l (i + 1) = shK l i + shiftE e := by rw [shK_succ hlt, hE]
              have hs2 : shiftE e = e.w.length - (e.t - e.f) := rfl
              have w1 : IntKind.i64.wrap ((i : Int) + 1) = ((i + 1 : Nat) : Int) := by rw [IntWalk.i64_in _ (by omega)]; omega
              have w2 : IntKind.i64.wrap ((w.length : Int) + shK l i + shiftE e) = (w.length : Int) + shK l (i + 1) := by rw [hsh, IntWalk.i64_in _ (by omega)]; omega
              simp -implicitDefEqProofs only [↓symPre, symPost, y_condP, y_condG, run, lver, minD, intsD, eqAll, tupD, splice, Nat.zero_add, Nat.add_zero, Nat.zero_mul, Nat.mul_one, Nat.one_mul, Nat.reduceAdd, Nat.reduceSub, Nat.reduceMul, Nat.reduceLT, Nat.reduceLeDiff, Nat.reduceEqDiff, true_and, and_true, true_implies, if_true, if_false, ite_true, reduceIte, ne_eq, not_false_eq_true, reduceCtorEq, forall_const, bne_self_eq_false, Bool.true_eq_false, Bool.false_eq_true, false_implies, and_self, implies_true, Int.toNat_zero, beq_self_eq_true, decide_true, decide_false, Bool.not_true, Bool.not_false, ↓y_call, List.length_map, h1, h0, e0, decide_true, decide_false, Int.toNat_natCast, g1, g2, g4, g5, hlow]
              refine (pure_shift e (by omega) (by omega) (by omega)).call rfl ?_
              simp -implicitDefEqProofs only [↓symPre, symPost, y_condP, y_condG, run, lver, minD, intsD, eqAll, tupD, splice, Nat.zero_add, Nat.add_zero, Nat.zero_mul, Nat.mul_one, Nat.one_mul, Nat.reduceAdd, Nat.reduceSub, Nat.reduceMul, Nat.reduceLT, Nat.reduceLeDiff, Nat.reduceEqDiff, true_and, and_true, true_implies, if_true, if_false, ite_true, reduceIte, ne_eq, not_false_eq_true, reduceCtorEq, forall_const, bne_self_eq_false, Bool.true_eq_false, Bool.false_eq_true, false_implies, and_self, implies_true, Int.toNat_zero, beq_self_eq_true, decide_true, decide_false, Bool.not_true, Bool.not_false, ↓y_call, w1, w2]
              refine ⟨i + 1, ⟨by omega, hok1⟩, by omega, ?_⟩
              rw [← hat]
              refine le_to (List.replicate 69 .hole) hl rfl ?_ ?_ <;> ((try simp only [y_blk_end, y_blk_hole, y_blk_nil, y_blk_old, y_wkl_end, y_wkl_top, List.replicate, List.cons_append, List.nil_append, and_true, true_and]) <;> (repeat' (first | apply And.intro | apply y_wkl | refine Exists.intro _ (And.intro rfl ?_))) <;> (try first | exact trivial | exact Wk.top _ | exact wk_int rfl | exact wk_bool rfl | exact wk_ptr rfl rfl rfl rfl | exact wk_ref rfl rfl rfl rfl rfl | exact wk_nil rfl rfl rfl | exact wk_ref rfl rfl rfl rfl (by simp) | exact wk_ref rfl rfl rfl rfl (by simp; omega) | exact wk_old (by assumption) (by simp) | exact wk_eq rfl (by first | exact Bd.int _ _ | exact Bd.bool _ | exact Bd.abool | exact Bd.nils | exact Bd.emp | exact Bd.nilp | exact Bd.nilfn | assumption | exact low_trees _ _ | exact low_treeD _ _ | exact low_ints _ _) | exact Nat.le_refl _ | exact wk_int (by simp) | exact wk_int (by omega) | exact Nat.succ_le_succ (Nat.zero_le _) | exact Nat.le_add_left _ _ | omega))
    · have h1 : ¬ (i : Int) < (l.length : Int) := by omega
      obtain rfl : i = l.length := by omega
      simp -implicitDefEqProofs only [↓symPre, symPost, y_condP, y_condG, run, lver, minD, intsD, eqAll, tupD, splice, Nat.zero_add, Nat.add_zero, Nat.zero_mul, Nat.mul_one, Nat.one_mul, Nat.reduceAdd, Nat.reduceSub, Nat.reduceMul, Nat.reduceLT, Nat.reduceLeDiff, Nat.reduceEqDiff, true_and, and_true, true_implies, if_true, if_false, ite_true, reduceIte, ne_eq, not_false_eq_true, reduceCtorEq, forall_const, bne_self_eq_false, Bool.true_eq_false, Bool.false_eq_true, false_implies, and_self, implies_true, Int.toNat_zero, beq_self_eq_true, decide_true, decide_false, Bool.not_true, Bool.not_false, ↓y_call, List.length_map, h1, decide_false]
      have hnK : (w.length : Int) + shK l l.length ≤ 2 ^ 62 := by omega
      by_cases g : (w.length : Int) + shK l l.length > 2000
      · simp -implicitDefEqProofs only [↓symPre, symPost, y_condP, y_condG, run, lver, minD, intsD, eqAll, tupD, splice, Nat.zero_add, Nat.add_zero, Nat.zero_mul, Nat.mul_one, Nat.one_mul, Nat.reduceAdd, Nat.reduceSub, Nat.reduceMul, Nat.reduceLT, Nat.reduceLeDiff, Nat.reduceEqDiff, true_and, and_true, true_implies, if_true, if_false, ite_true, reduceIte, ne_eq, not_false_eq_true, reduceCtorEq, forall_const, bne_self_eq_false, Bool.true_eq_false, Bool.false_eq_true, false_implies, and_self, implies_true, Int.toNat_zero, beq_self_eq_true, decide_true, decide_false, Bool.not_true, Bool.not_false, ↓y_call, g, decide_true]
        have hf : runF w.length l = 2 := by rw [runF, if_pos hok, if_pos g]
        show FnQ [.tmp 4, .tmp 5] R .ret _
        simp -implicitDefEqProofs only [↓symPre, symPost, y_condP, y_condG, run, lver, minD, intsD, eqAll, tupD, splice, Nat.zero_add, Nat.add_zero, Nat.zero_mul, Nat.mul_one, Nat.one_mul, Nat.reduceAdd, Nat.reduceSub, Nat.reduceMul, Nat.reduceLT, Nat.reduceLeDiff, Nat.reduceEqDiff, true_and, and_true, true_implies, if_true, if_false, ite_true, reduceIte, ne_eq, not_false_eq_true, reduceCtorEq, forall_const, bne_self_eq_false, Bool.true_eq_false, Bool.false_eq_true, false_implies, and_self, implies_true, Int.toNat_zero, beq_self_eq_true, decide_true, decide_false, Bool.not_true, Bool.not_false, ↓y_call]
        refine fin_wk (d := .tup [iD (runL w l), .int .i64 (runF w.length l)]) hl ?_ hR
        rw [runL, hf]
        exact wk_tup2 .nilsLst wk_i
      · have hf : runF w.length l = 0 := by rw [runF, if_pos hok, if_neg g]
        simp -implicitDefEqProofs only [↓symPre, symPost, y_condP, y_condG, run, lver, minD, intsD, eqAll, tupD, splice, Nat.zero_add, Nat.add_zero, Nat.zero_mul, Nat.mul_one, Nat.one_mul, Nat.reduceAdd, Nat.reduceSub, Nat.reduceMul, Nat.reduceLT, Nat.reduceLeDiff, Nat.reduceEqDiff, true_and, and_true, true_implies, if_true, if_false, ite_true, reduceIte, ne_eq, not_false_eq_true, reduceCtorEq, forall_const, bne_self_eq_false, Bool.true_eq_false, Bool.false_eq_true, false_implies, and_self, implies_true, Int.toNat_zero, beq_self_eq_true, decide_true, decide_false, Bool.not_true, Bool.not_false, ↓y_call, g, decide_false]
        refine (pure_CloneI w (by omega)).call rfl ?_
        simp -implicitDefEqProofs only [↓symPre, symPost, y_condP, y_condG, run, lver, minD, intsD, eqAll, tupD, splice, Nat.zero_add, Nat.add_zero, Nat.zero_mul, Nat.mul_one, Nat.one_mul, Nat.reduceAdd, Nat.reduceSub, Nat.reduceMul, Nat.reduceLT, Nat.reduceLeDiff, Nat.reduceEqDiff, true_and, and_true, true_implies, if_true, if_false, ite_true, reduceIte, ne_eq, not_false_eq_true, reduceCtorEq, forall_const, bne_self_eq_false, Bool.true_eq_false, Bool.false_eq_true, false_implies, and_self, implies_true, Int.toNat_zero, beq_self_eq_true, decide_true, decide_false, Bool.not_true, Bool.not_false, ↓y_call]
        exact ⟨rfl, rfl, rfl, rfl, hf, rfl, 1, rfl, rfl⟩

end Abs
end Go.Proofs.Ytfojedaccfenfab

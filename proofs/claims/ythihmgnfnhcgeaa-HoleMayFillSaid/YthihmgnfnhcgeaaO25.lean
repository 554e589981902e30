/- hole.May of a pattern that lies in a caller's slice (printed by tools/genO25.py). -/
import Derived.Test.YthihmgnfnhcgeaaO29
namespace Go.Proofs.Ythihmgnfnhcgeaa
namespace Abs
set_option linter.unusedVariables false
set_option linter.unusedSimpArgs false
set_option maxRecDepth 20000

theorem ACalls.freshC {P : Program} {f : FuncId} {ds : List D} {sz m n t : Nat} {out : List D} {sl : List D} {h : Heap} {lc : List Blk} {N : Nat} {H : Heap} {K : D → Chg → Prop} (hN : N = n + lc.length) (hH : H = mrg n h lc)
    (hp : ACalls P f ds N H fun d h' x => h' = H ∧ ∃ v, x = [⟨v, .cells out⟩] ∧ d = .ref sz N v 0 m) (hlow : ∀ c ∈ out, Low 0 c)
    (ht : t < lc.length) (ho : (lc.getD t blk0).con.isOpq = false) (hK : K (.ref sz (n + t) (lver lc t) 0 m) [(n + t, ⟨lver lc t, .cells out⟩)]) : ACalls P f ds N H (callK (St.mk n sl h lc) (some t) K) := by
  subst hN; subst hH
  exact hp.mono fun d h' x ⟨hh, v, hx, hd⟩ => .inr ⟨t, sz, m, v, out, rfl, ht, ho, hh, hx, hd, fun c hc => (hlow c hc).mono fun b ver h => h.elim (fun h => (Nat.not_lt_zero _ h).elim) .inr, hK⟩

theorem at_CloneS (A : List Sy) (hne : A ≠ []) (hfit : A.length * 16 ≤ 140737488355328) {n : Nat} {h : Heap} {b ver : Nat} (hb : b < n) (hh : h b = ⟨ver, .cells (cellsF symD A)⟩) :
    ACalls prog F_slices_Clone_api_Sym_api_Sym [.ref 2 b ver 0 A.length] n h fun d h' x => h' = h ∧ ∃ v, x = [⟨v, .cells (cellsF symD A)⟩] ∧ d = .ref 2 n v 0 A.length := by
  refine K_slices_Clone_api_Sym_api_Sym.calls fun hl => ?_
  unfold C_slices_Clone_api_Sym_api_Sym
  have hne' : ¬ A.length = 0 := by cases A with
    | nil => exact absurd rfl hne
    | cons => simp
  have el : (cellsF symD A).length = A.length * 2 := cellsF_len symD symD_cells A
  have et := take_all (cellsF symD A) (k := A.length * 2) (by omega)
  simp -implicitDefEqProofs only [↓symPre, symPost, y_condP, y_condG, run, lver, minD, intsD, eqAll, tupD, splice, Nat.zero_add, Nat.add_zero, Nat.zero_mul, Nat.mul_one, Nat.one_mul, Nat.reduceAdd, Nat.reduceSub, Nat.reduceMul, Nat.reduceLT, Nat.reduceLeDiff, Nat.reduceEqDiff, true_and, and_true, true_implies, if_true, if_false, ite_true, reduceIte, ne_eq, not_false_eq_true, reduceCtorEq, forall_const, bne_self_eq_false, Bool.true_eq_false, Bool.false_eq_true, false_implies, and_self, implies_true, Int.toNat_zero, beq_self_eq_true, decide_true, decide_false, Bool.not_true, Bool.not_false, ↓y_lookv, y_key1, y_mlook, y_mlookn, y_mres1, y_mres0, ↓y_call, ↓y_at_old hb, hh, hne', srcOf, el, et, Nat.zero_le, Nat.le_refl, hfit, false_implies]
  exact ⟨syms_one A, fin_ref hl (t := 5) rfl (by omega) (low_cellsF symD (low_symD n) A) ⟨rfl, 2, rfl, rfl⟩⟩

theorem cells_sy0 : ∀ (l : List Sy) (i : Nat), i < l.length → nth (cellsF symD l) (i * 2) = .bool (l.getD i ⟨false, 0⟩).t
  | [], i, h => by simp at h
  | x :: l, 0, h => rfl
  | x :: l, i + 1, h => by
    have e : (i + 1) * 2 = i * 2 + 1 + 1 := by omega
    rw [e]
    exact cells_sy0 l i (by simpa using h)
theorem cells_sy1 : ∀ (l : List Sy) (i : Nat), i < l.length → nth (cellsF symD l) (i * 2 + 1) = .int .i64 (l.getD i ⟨false, 0⟩).n
  | [], i, h => by simp at h
  | x :: l, 0, h => rfl
  | x :: l, i + 1, h => by
    have e : (i + 1) * 2 + 1 = (i * 2 + 1) + 1 + 1 := by omega
    rw [e]
    exact cells_sy1 l i (by simpa using h)

set_option maxHeartbeats 4000000 in
theorem at_May (g : Gr) (l : List Sy) (i : Int) {n : Nat} {h : Heap} {b ver : Nat} (hb : b < n) (hh : h b = ⟨ver, .cells (cellsF symD l)⟩) (hr : g.rules.length < 2 ^ 60) (hx : ∀ r ∈ g.rules, r.right.length < 2 ^ 60) (hl60 : l.length < 2 ^ 60) :
    ACalls prog F_hole_May [gramD g, .ref 2 b ver 0 l.length, .int .i64 i] n h fun d h' x => h' = h ∧ x = [] ∧ d = .tup [.lst ((mayF g l i).1.map .bool), .int .i64 (mayF g l i).2] := by
  have pC := pure_holeCheck g l hr hx hl60
  have okk := @hchk_ok g l
  refine K_hole_May.calls fun hl => ?_
  unfold C_hole_May
  generalize hF : mayF g l i = F
  unfold mayF at hF
  generalize hchk g l = cg at *
  have lg := low_gramD 0 g
  unfold gramD at pC lg ⊢
  simp -implicitDefEqProofs only [↓symPre, symPost, y_condP, y_condG, run, lver, minD, intsD, eqAll, tupD, splice, Nat.zero_add, Nat.add_zero, Nat.zero_mul, Nat.mul_one, Nat.one_mul, Nat.reduceAdd, Nat.reduceSub, Nat.reduceMul, Nat.reduceLT, Nat.reduceLeDiff, Nat.reduceEqDiff, true_and, and_true, true_implies, if_true, if_false, ite_true, reduceIte, ne_eq, not_false_eq_true, reduceCtorEq, forall_const, bne_self_eq_false, Bool.true_eq_false, Bool.false_eq_true, false_implies, and_self, implies_true, Int.toNat_zero, beq_self_eq_true, decide_true, decide_false, Bool.not_true, Bool.not_false, ↓y_lookv, y_key1, y_mlook, y_mlookn, y_mres1, y_mres0, ↓y_call]
  refine pC.callF (.int ..) rfl (y_wkl (.low _ lg) (y_wkl (fz_F symD symD_cells (low_symD 0) (l := l) (by omega) (by rw [mrg_lt hb]; exact hh) rfl) trivial)) ?_
  by_cases hc : cg = 0
  · obtain ⟨o1, o2⟩ := okk hc
    rw [if_neg (by simpa using hc)] at hF
    have b0 : (cg != 0) = false := by simp [hc]
    by_cases c1 : i < 0
    · rw [if_pos (.inl c1)] at hF
      subst hF
      simp -implicitDefEqProofs only [↓symPre, symPost, y_condP, y_condG, run, lver, minD, intsD, eqAll, tupD, splice, Nat.zero_add, Nat.add_zero, Nat.zero_mul, Nat.mul_one, Nat.one_mul, Nat.reduceAdd, Nat.reduceSub, Nat.reduceMul, Nat.reduceLT, Nat.reduceLeDiff, Nat.reduceEqDiff, true_and, and_true, true_implies, if_true, if_false, ite_true, reduceIte, ne_eq, not_false_eq_true, reduceCtorEq, forall_const, bne_self_eq_false, Bool.true_eq_false, Bool.false_eq_true, false_implies, and_self, implies_true, Int.toNat_zero, beq_self_eq_true, decide_true, decide_false, Bool.not_true, Bool.not_false, ↓y_lookv, y_key1, y_mlook, y_mlookn, y_mres1, y_mres0, ↓y_call, b0, c1, decide_true]
      exact fin_wk hl (wk_tup2 .nilsLst wk_i) ⟨rfl, rfl, rfl⟩
    · by_cases c2 : i ≥ (l.length : Int)
      · rw [if_pos (.inr c2)] at hF
        subst hF
        simp -implicitDefEqProofs only [↓symPre, symPost, y_condP, y_condG, run, lver, minD, intsD, eqAll, tupD, splice, Nat.zero_add, Nat.add_zero, Nat.zero_mul, Nat.mul_one, Nat.one_mul, Nat.reduceAdd, Nat.reduceSub, Nat.reduceMul, Nat.reduceLT, Nat.reduceLeDiff, Nat.reduceEqDiff, true_and, and_true, true_implies, if_true, if_false, ite_true, reduceIte, ne_eq, not_false_eq_true, reduceCtorEq, forall_const, bne_self_eq_false, Bool.true_eq_false, Bool.false_eq_true, false_implies, and_self, implies_true, Int.toNat_zero, beq_self_eq_true, decide_true, decide_false, Bool.not_true, Bool.not_false, ↓y_lookv, y_key1, y_mlook, y_mlookn, y_mres1, y_mres0, ↓y_call, b0, c1, c2, decide_true, decide_false, ↓y_at_old hb, hh]
        exact fin_wk hl (wk_tup2 .nilsLst wk_i) ⟨rfl, rfl, rfl⟩
      · rw [if_neg (by omega)] at hF
        obtain ⟨p, rfl⟩ : ∃ p : Nat, i = p := ⟨i.toNat, by omega⟩
        rw [Int.toNat_natCast] at hF
        have hp : p < l.length := by omega
        have p0 : (0 : Int) ≤ (p : Int) := by omega
        have p1 : (p : Int) < (l.length : Int) := by omega
        have lne : ¬ cellsF symD l = [] := fun h => by have := cellsF_len symD symD_cells l; rw [h] at this; simp at this; omega
        have e0 := cells_sy0 l p hp
        have e1 := cells_sy1 l p hp
        have el := cellsF_len symD symD_cells l
        have ip0 : p * 2 < l.length * 2 := by omega
        have ip1 : p * 2 + 1 < l.length * 2 := by omega
        have hcell : l.getD p sy0 = l.getD p ⟨false, 0⟩ := rfl
        rw [hcell] at hF
        generalize hxc : l.getD p ⟨false, 0⟩ = x at *
        obtain ⟨xt, xn⟩ := x
        simp only at e0 e1 hF
        cases xt with
        | false =>
          rw [if_pos (.inl rfl)] at hF
          subst hF
          simp -implicitDefEqProofs only [↓symPre, symPost, y_condP, y_condG, run, lver, minD, intsD, eqAll, tupD, splice, Nat.zero_add, Nat.add_zero, Nat.zero_mul, Nat.mul_one, Nat.one_mul, Nat.reduceAdd, Nat.reduceSub, Nat.reduceMul, Nat.reduceLT, Nat.reduceLeDiff, Nat.reduceEqDiff, true_and, and_true, true_implies, if_true, if_false, ite_true, reduceIte, ne_eq, not_false_eq_true, reduceCtorEq, forall_const, bne_self_eq_false, Bool.true_eq_false, Bool.false_eq_true, false_implies, and_self, implies_true, Int.toNat_zero, beq_self_eq_true, decide_true, decide_false, Bool.not_true, Bool.not_false, ↓y_lookv, y_key1, y_mlook, y_mlookn, y_mres1, y_mres0, ↓y_call, b0, c1, c2, decide_true, decide_false, List.length_map, p0, p1, hp, Int.toNat_natCast, e0, e1, el, ip0, ip1, ↓y_at_old hb, hh, lne, Bool.not_false]
          exact fin_wk hl (wk_tup2 .nilsLst wk_i) ⟨rfl, rfl, rfl⟩
        | true =>
          by_cases c3 : xn = -1
          · subst c3
            rw [if_neg (by simp)] at hF
            have b3 : ((-1 : Int) != -1) = false := by simp
            have hne : l ≠ [] := by intro h; subst h; simp at hp
            obtain ⟨T, hT⟩ : ∃ T : Nat, g.terms = T := ⟨g.terms.toNat, by have := o1.terms; omega⟩
            have hT1 := o1.terms
            have hTt : g.terms.toNat = T := by omega
            rw [hTt] at hF
            have t0 : ¬ (T : Int) < 0 := by omega
            have t1 : (0 : Int) ≤ (T : Int) := by omega
            have tf : (T : Int) * ((1 : Nat) : Int) ≤ 140737488355328 := by omega
            have tx : (T : Int) ≤ 9223372036854775807 := by omega
            have em : (List.replicate T [D.bool false]).flatten = List.replicate T (.bool false) := by
              have : ∀ k, (List.replicate k [D.bool false]).flatten = List.replicate k (.bool false) := fun k => by
                induction k with
                | zero => rfl
                | succ k ih => simp [List.replicate_succ] at *
              exact this T
            simp -implicitDefEqProofs only [↓symPre, symPost, y_condP, y_condG, run, lver, minD, intsD, eqAll, tupD, splice, Nat.zero_add, Nat.add_zero, Nat.zero_mul, Nat.mul_one, Nat.one_mul, Nat.reduceAdd, Nat.reduceSub, Nat.reduceMul, Nat.reduceLT, Nat.reduceLeDiff, Nat.reduceEqDiff, true_and, and_true, true_implies, if_true, if_false, ite_true, reduceIte, ne_eq, not_false_eq_true, reduceCtorEq, forall_const, bne_self_eq_false, Bool.true_eq_false, Bool.false_eq_true, false_implies, and_self, implies_true, Int.toNat_zero, beq_self_eq_true, decide_true, decide_false, Bool.not_true, Bool.not_false, ↓y_lookv, y_key1, y_mlook, y_mlookn, y_mres1, y_mres0, ↓y_call, b0, c1, c2, decide_true, decide_false, List.length_map, p0, p1, hp, Int.toNat_natCast, e0, e1, el, ip0, ip1, ↓y_at_old hb, hh, lne, Bool.not_true, b3]
            have hfit : l.length * 16 ≤ 140737488355328 := by have := o2.len; omega
            apply ACalls.freshC (out := cellsF symD l) (sz := 2) (m := l.length)
            · rfl
            · rfl
            · exact at_CloneS l hne hfit (by omega) (by rw [mrg_lt hb]; exact hh)
            · exact fun c hc => low_cellsF symD (low_symD 0) l c hc
            · exact Nat.le_of_ble_eq_true rfl
            · rfl
            simp -implicitDefEqProofs only [↓symPre, symPost, y_condP, y_condG, run, lver, minD, intsD, eqAll, tupD, splice, Nat.zero_add, Nat.add_zero, Nat.zero_mul, Nat.mul_one, Nat.one_mul, Nat.reduceAdd, Nat.reduceSub, Nat.reduceMul, Nat.reduceLT, Nat.reduceLeDiff, Nat.reduceEqDiff, true_and, and_true, true_implies, if_true, if_false, ite_true, reduceIte, ne_eq, not_false_eq_true, reduceCtorEq, forall_const, bne_self_eq_false, Bool.true_eq_false, Bool.false_eq_true, false_implies, and_self, implies_true, Int.toNat_zero, beq_self_eq_true, decide_true, decide_false, Bool.not_true, Bool.not_false, ↓y_lookv, y_key1, y_mlook, y_mlookn, y_mres1, y_mres0, ↓y_call, hT, t0, t1, tf, tx, em, Int.toNat_natCast, Int.le_refl]
            refine aloop (fun k : Nat => St.mk n ([.top, .top, .int .i64 p, .ptr (n + 3) 1 0] ++ List.replicate 5 .top ++ [.ref 2 (n + 43) 1 0 l.length, .ref 1 (n + 46) 1 0 T] ++ List.replicate 37 .top ++ [.int .i64 T, .int .i64 k] ++ List.replicate 16 .top) h
                (List.replicate 3 blk0 ++ [⟨1, .cells [.int .i64 T, .int .i64 g.nons, .int .i64 g.start, .lst (g.rules.map ruleD)]⟩] ++ List.replicate 39 blk0 ++ [⟨1, .cells (cellsF symD (atM l p k))⟩] ++ List.replicate 2 blk0 ++ [⟨1, .cells ((halfB T (fun t => (wholeW g (setN l p t)).ok) k).map .bool)⟩] ++ List.replicate 19 blk0))
                (fun k => k ≤ T) (fun k => T - k) 0 (Nat.zero_le _) ?_ ?_
            · refine le_to (List.replicate 3 .hole ++ [.old 3] ++ List.replicate 39 .hole ++ [.old 43] ++ List.replicate 2 .hole ++ [.old 46] ++ List.replicate 19 .hole) hl rfl ?_ ?_ <;> ((try simp only [y_blk_end, y_blk_hole, y_blk_nil, y_blk_old, y_wkl_end, y_wkl_top, List.replicate, List.cons_append, List.nil_append, and_true, true_and]) <;> (repeat' (first | apply And.intro | apply y_wkl | refine Exists.intro _ (And.intro rfl ?_))) <;> (try first | exact trivial | exact Wk.top _ | exact wk_int rfl | exact wk_bool rfl | exact wk_ptr rfl rfl rfl rfl | exact wk_ref rfl rfl rfl rfl rfl | exact wk_nil rfl rfl rfl | exact wk_ref rfl rfl rfl rfl (by simp) | exact wk_ref rfl rfl rfl rfl (by simp; omega) | exact wk_old (by assumption) (by simp) | exact wk_eq rfl (by first | exact Bd.int _ _ | exact Bd.bool _ | exact Bd.abool | exact Bd.nils | exact Bd.emp | exact Bd.nilp | exact Bd.nilfn | assumption | exact low_trees _ _ | exact low_treeD _ _ | exact low_ints _ _) | exact Nat.le_refl _ | exact wk_int (by simp) | exact wk_int (by omega) | exact Nat.succ_le_succ (Nat.zero_le _) | exact Nat.le_add_left _ _ | omega))
              all_goals first | exact .low _ (low_rules n g.rules) | exact .low _ (low_syms n l) | exact WkL.low (low_cellsF symD (low_symD n) _) | (rw [halfB_zero]; exact WkL.low (fun c hc => by rw [List.eq_of_mem_replicate hc]; exact .bool _)) | trace_state
            · intro k hk
              have ht0 : (l.getD p sy0).t = true := by
                have : l.getD p sy0 = (⟨true, -1⟩ : Sy) := hxc
                rw [this]
              have hml := atM_len l p k
              have hms := atM_set hp ht0 k
              by_cases hkt : k < T
              · have f1 : (k : Int) < (T : Int) := by omega
                have f0 : (0 : Int) ≤ (k : Int) := by omega
                have hput := cells_putN (atM l p k) (i := p) (by omega) (k : Int)
                rw [hms] at hput
                have hbp := halfB_put (N := T) (f := fun t => (wholeW g (setN l p t)).ok) hkt
                have elen : (cellsF symD (atM l p k)).length = l.length * 2 := by rw [cellsF_len symD symD_cells]; omega
                have e46 := halfB_len T (fun t => (wholeW g (setN l p t)).ok) k
                have ip : p * 2 + 1 + 1 ≤ l.length * 2 := by omega
                have iq : p * 2 + 1 < l.length * 2 := by omega
                have pW := pure_whole g (setN l p k) o1 (okP_setN o2 (by omega))
                have hsn : atM l p (k + 1) = setN l p k := by unfold atM; rw [if_neg (by omega), Nat.add_sub_cancel]
                have w1 : IntKind.i64.wrap ((k : Int) + 1) = ((k + 1 : Nat) : Int) := by rw [IntWalk.i64_in _ (by omega)]; omega
                rw [hsn] at hput
                generalize hhb : halfB T (fun t => (wholeW g (setN l p t)).ok) k = HB at *
                generalize hvv : wholeW g (setN l p k) = v at *
                unfold gramD at pW
                rw [hT] at pW
                generalize atM l p k = A at *
                simp -implicitDefEqProofs only [↓symPre, symPost, y_condP, y_condG, run, lver, minD, intsD, eqAll, tupD, splice, Nat.zero_add, Nat.add_zero, Nat.zero_mul, Nat.mul_one, Nat.one_mul, Nat.reduceAdd, Nat.reduceSub, Nat.reduceMul, Nat.reduceLT, Nat.reduceLeDiff, Nat.reduceEqDiff, true_and, and_true, true_implies, if_true, if_false, ite_true, reduceIte, ne_eq, not_false_eq_true, reduceCtorEq, forall_const, bne_self_eq_false, Bool.true_eq_false, Bool.false_eq_true, false_implies, and_self, implies_true, Int.toNat_zero, beq_self_eq_true, decide_true, decide_false, Bool.not_true, Bool.not_false, ↓y_lookv, y_key1, y_mlook, y_mlookn, y_mres1, y_mres0, ↓y_call, f1, f0, decide_true, p0, p1, hp, Int.toNat_natCast, elen, ip, iq, hput]
                refine ⟨fun h => by rw [h] at elen; simp at elen; omega, ?_⟩
                refine pW.callT rfl (y_wkl (.low _ ?_) (y_wkl (fz_F symD symD_cells (low_symD 0) (l := setN l p k) (by omega) (by rw [mrg_loc]; rfl) (by simp [setN])) trivial)) ?_
                · have := low_gramD 0 g
                  unfold gramD at this
                  rw [hT] at this
                  exact this
                rw [show tpD (wD v) = .agg [.bool v.ok, .int .i64 v.n, .top] from rfl]
                have kb : k < HB.length := by omega
                have hbne : ¬ HB = [] := fun h => by rw [h] at kb; simp at kb
                obtain ⟨vo, vn, vw⟩ := v
                simp -implicitDefEqProofs only [↓symPre, symPost, y_condP, y_condG, run, lver, minD, intsD, eqAll, tupD, splice, Nat.zero_add, Nat.add_zero, Nat.zero_mul, Nat.mul_one, Nat.one_mul, Nat.reduceAdd, Nat.reduceSub, Nat.reduceMul, Nat.reduceLT, Nat.reduceLeDiff, Nat.reduceEqDiff, true_and, and_true, true_implies, if_true, if_false, ite_true, reduceIte, ne_eq, not_false_eq_true, reduceCtorEq, forall_const, bne_self_eq_false, Bool.true_eq_false, Bool.false_eq_true, false_implies, and_self, implies_true, Int.toNat_zero, beq_self_eq_true, decide_true, decide_false, Bool.not_true, Bool.not_false, ↓y_lookv, y_key1, y_mlook, y_mlookn, y_mres1, y_mres0, ↓y_call, f0, f1, hkt, Int.toNat_natCast, e46, List.length_map, hbp, kb, hbne, w1]
                refine ⟨by omega, k + 1, by omega, by omega, ?_⟩
                rw [hsn]
                refine le_to (List.replicate 3 .hole ++ [.old 3] ++ List.replicate 39 .hole ++ [.old 43] ++ List.replicate 2 .hole ++ [.old 46] ++ List.replicate 19 .hole) hl rfl ?_ ?_ <;> ((try simp only [y_blk_end, y_blk_hole, y_blk_nil, y_blk_old, y_wkl_end, y_wkl_top, List.replicate, List.cons_append, List.nil_append, and_true, true_and]) <;> (repeat' (first | apply And.intro | apply y_wkl | refine Exists.intro _ (And.intro rfl ?_))) <;> (try first | exact trivial | exact Wk.top _ | exact wk_int rfl | exact wk_bool rfl | exact wk_ptr rfl rfl rfl rfl | exact wk_ref rfl rfl rfl rfl rfl | exact wk_nil rfl rfl rfl | exact wk_ref rfl rfl rfl rfl (by simp) | exact wk_ref rfl rfl rfl rfl (by simp; omega) | exact wk_old (by assumption) (by simp) | exact wk_eq rfl (by first | exact Bd.int _ _ | exact Bd.bool _ | exact Bd.abool | exact Bd.nils | exact Bd.emp | exact Bd.nilp | exact Bd.nilfn | assumption | exact low_trees _ _ | exact low_treeD _ _ | exact low_ints _ _) | exact Nat.le_refl _ | exact wk_int (by simp) | exact wk_int (by omega) | exact Nat.succ_le_succ (Nat.zero_le _) | exact Nat.le_add_left _ _ | omega))
                all_goals first | exact .low _ (low_rules n g.rules) | exact .low _ (low_syms n l) | exact WkL.low (low_cellsF symD (low_symD n) _) | exact WkL.low (fun c hc => by obtain ⟨x, _, rfl⟩ := List.mem_map.1 hc; exact .bool _) | trace_state
              · have f1 : ¬ (k : Int) < (T : Int) := by omega
                obtain rfl : k = T := by omega
                rw [halfB_all]
                simp -implicitDefEqProofs only [↓symPre, symPost, y_condP, y_condG, run, lver, minD, intsD, eqAll, tupD, splice, Nat.zero_add, Nat.add_zero, Nat.zero_mul, Nat.mul_one, Nat.one_mul, Nat.reduceAdd, Nat.reduceSub, Nat.reduceMul, Nat.reduceLT, Nat.reduceLeDiff, Nat.reduceEqDiff, true_and, and_true, true_implies, if_true, if_false, ite_true, reduceIte, ne_eq, not_false_eq_true, reduceCtorEq, forall_const, bne_self_eq_false, Bool.true_eq_false, Bool.false_eq_true, false_implies, and_self, implies_true, Int.toNat_zero, beq_self_eq_true, decide_true, decide_false, Bool.not_true, Bool.not_false, ↓y_lookv, y_key1, y_mlook, y_mlookn, y_mres1, y_mres0, ↓y_call, f1, decide_false]
                subst hF
                exact fin_wk hl (wk_tup2 (wk_bools (t := 46) rfl (by simp)) wk_i) ⟨rfl, rfl, rfl⟩
          · rw [if_pos (.inr c3)] at hF
            subst hF
            have b3 : (xn != -1) = true := by simp [c3]
            simp -implicitDefEqProofs only [↓symPre, symPost, y_condP, y_condG, run, lver, minD, intsD, eqAll, tupD, splice, Nat.zero_add, Nat.add_zero, Nat.zero_mul, Nat.mul_one, Nat.one_mul, Nat.reduceAdd, Nat.reduceSub, Nat.reduceMul, Nat.reduceLT, Nat.reduceLeDiff, Nat.reduceEqDiff, true_and, and_true, true_implies, if_true, if_false, ite_true, reduceIte, ne_eq, not_false_eq_true, reduceCtorEq, forall_const, bne_self_eq_false, Bool.true_eq_false, Bool.false_eq_true, false_implies, and_self, implies_true, Int.toNat_zero, beq_self_eq_true, decide_true, decide_false, Bool.not_true, Bool.not_false, ↓y_lookv, y_key1, y_mlook, y_mlookn, y_mres1, y_mres0, ↓y_call, b0, c1, c2, decide_true, decide_false, List.length_map, p0, p1, hp, Int.toNat_natCast, e0, e1, el, ip0, ip1, ↓y_at_old hb, hh, lne, Bool.not_true, b3]
            exact fin_wk hl (wk_tup2 .nilsLst wk_i) ⟨rfl, rfl, rfl⟩
  · rw [if_pos (by simpa using hc)] at hF
    subst hF
    have b0 : (cg != 0) = true := by simp [hc]
    simp -implicitDefEqProofs only [↓symPre, symPost, y_condP, y_condG, run, lver, minD, intsD, eqAll, tupD, splice, Nat.zero_add, Nat.add_zero, Nat.zero_mul, Nat.mul_one, Nat.one_mul, Nat.reduceAdd, Nat.reduceSub, Nat.reduceMul, Nat.reduceLT, Nat.reduceLeDiff, Nat.reduceEqDiff, true_and, and_true, true_implies, if_true, if_false, ite_true, reduceIte, ne_eq, not_false_eq_true, reduceCtorEq, forall_const, bne_self_eq_false, Bool.true_eq_false, Bool.false_eq_true, false_implies, and_self, implies_true, Int.toNat_zero, beq_self_eq_true, decide_true, decide_false, Bool.not_true, Bool.not_false, ↓y_lookv, y_key1, y_mlook, y_mlookn, y_mres1, y_mres0, ↓y_call, b0]
    exact fin_wk hl (wk_tup2 .nilsLst wk_i) ⟨rfl, rfl, rfl⟩

end Abs
end Go.Proofs.Ythihmgnfnhcgeaa

/- parlkeep4.HoleMayFill. -/
import Derived.Test.YthihmgnfnhcgeaaO27
namespace Go.Proofs.Ythihmgnfnhcgeaa
namespace Abs
set_option linter.unusedVariables false
set_option linter.unusedSimpArgs false
set_option maxRecDepth 20000

theorem fill_err {g : Gr} {l : List Sy} (h : hchk g l = 0) : ((fillF g l).2 == 10) = !(wholeW g l).ok := by
  unfold fillF
  rw [h, if_neg (by simp)]
  cases ho : (wholeW g l).ok with
  | false => rfl
  | true =>
    rw [if_neg (by simp)]
    split <;> rfl
theorem okGr_G {g : Gr} (h : okGr g) : okG g := gchk_ok (okGr_chk h)
theorem okP_cells {g : Gr} {W : List Int} (hW : ∀ x ∈ W, 0 ≤ x ∧ x < g.terms) (hT : 1 ≤ g.terms) (hl : W.length ≤ 12) (p : Nat) : okP g ((W.map tSy).set p ⟨true, -1⟩) := by
  refine ⟨by simpa using hl, fun x hx => ?_⟩
  rcases List.mem_or_eq_of_mem_set hx with hx | rfl
  · obtain ⟨y, hy, rfl⟩ := List.mem_map.1 hx
    have := hW y hy
    exact ⟨fun _ => ⟨by show (-1 : Int) ≤ y; omega, this.2⟩, fun h => by cases h⟩
  · exact ⟨fun _ => ⟨Int.le_refl _, by show (-1 : Int) < _; omega⟩, fun h => by cases h⟩

set_option maxHeartbeats 8000000 in
theorem pure_HoleMayFill (l w : List Int) (i : Int) (hl60 : l.length < 2 ^ 60) (hw60 : w.length < 2 ^ 60) : Pure prog F_parlkeep4_HoleMayFill [iD l, iD w, .int .i64 i] (.bool true) := by
  intro n h
  refine K_parlkeep4_HoleMayFill.calls fun hl => ?_
  unfold C_parlkeep4_HoleMayFill
  simp -implicitDefEqProofs only [↓symPre, symPost, y_condP, y_condG, run, lver, minD, intsD, eqAll, tupD, splice, Nat.zero_add, Nat.add_zero, Nat.zero_mul, Nat.mul_one, Nat.one_mul, Nat.reduceAdd, Nat.reduceSub, Nat.reduceMul, Nat.reduceLT, Nat.reduceLeDiff, Nat.reduceEqDiff, true_and, and_true, true_implies, if_true, if_false, ite_true, reduceIte, ne_eq, not_false_eq_true, reduceCtorEq, forall_const, bne_self_eq_false, Bool.true_eq_false, Bool.false_eq_true, false_implies, and_self, implies_true, Int.toNat_zero, beq_self_eq_true, decide_true, decide_false, Bool.not_true, Bool.not_false, ↓y_lookv, y_key1, y_mlook, y_mlookn, y_mres1, y_mres0, ↓y_call]
  refine pure_list.call rfl ?_
  simp -implicitDefEqProofs only [↓symPre, symPost, y_condP, y_condG, run, lver, minD, intsD, eqAll, tupD, splice, Nat.zero_add, Nat.add_zero, Nat.zero_mul, Nat.mul_one, Nat.one_mul, Nat.reduceAdd, Nat.reduceSub, Nat.reduceMul, Nat.reduceLT, Nat.reduceLeDiff, Nat.reduceEqDiff, true_and, and_true, true_implies, if_true, if_false, ite_true, reduceIte, ne_eq, not_false_eq_true, reduceCtorEq, forall_const, bne_self_eq_false, Bool.true_eq_false, Bool.false_eq_true, false_implies, and_self, implies_true, Int.toNat_zero, beq_self_eq_true, decide_true, decide_false, Bool.not_true, Bool.not_false, ↓y_lookv, y_key1, y_mlook, y_mlookn, y_mres1, y_mres0, ↓y_call]
  refine ACalls.none0 rfl (at_May listG [⟨true, -1⟩] 0 (b := n + 22) (ver := 1) (by omega) (by rw [mrg_loc]; rfl) (by decide) (by decide) (by decide)) ?_
  rw [may_list]
  simp -implicitDefEqProofs only [↓symPre, symPost, y_condP, y_condG, run, lver, minD, intsD, eqAll, tupD, splice, Nat.zero_add, Nat.add_zero, Nat.zero_mul, Nat.mul_one, Nat.one_mul, Nat.reduceAdd, Nat.reduceSub, Nat.reduceMul, Nat.reduceLT, Nat.reduceLeDiff, Nat.reduceEqDiff, true_and, and_true, true_implies, if_true, if_false, ite_true, reduceIte, ne_eq, not_false_eq_true, reduceCtorEq, forall_const, bne_self_eq_false, Bool.true_eq_false, Bool.false_eq_true, false_implies, and_self, implies_true, Int.toNat_zero, beq_self_eq_true, decide_true, decide_false, Bool.not_true, Bool.not_false, ↓y_lookv, y_key1, y_mlook, y_mlookn, y_mres1, y_mres0, ↓y_call]
  refine (pure_EqualB [true] [true] (by decide) (by decide)).callF (.bool _) rfl (y_wkl (.low _ (low_bools 0 [true])) (y_wkl (fz_ref1 (l := [.bool true]) (by omega) (by rw [mrg_loc]; rfl) rfl (by simp) (fun i d hd => by
    rcases i with _ | i
    · simp at hd; subst hd; exact ⟨rfl, rfl, .bool _⟩
    · simp at hd)) trivial)) ?_
  rw [show decide ([true] = [true]) = true from rfl]
  simp -implicitDefEqProofs only [↓symPre, symPost, y_condP, y_condG, run, lver, minD, intsD, eqAll, tupD, splice, Nat.zero_add, Nat.add_zero, Nat.zero_mul, Nat.mul_one, Nat.one_mul, Nat.reduceAdd, Nat.reduceSub, Nat.reduceMul, Nat.reduceLT, Nat.reduceLeDiff, Nat.reduceEqDiff, true_and, and_true, true_implies, if_true, if_false, ite_true, reduceIte, ne_eq, not_false_eq_true, reduceCtorEq, forall_const, bne_self_eq_false, Bool.true_eq_false, Bool.false_eq_true, false_implies, and_self, implies_true, Int.toNat_zero, beq_self_eq_true, decide_true, decide_false, Bool.not_true, Bool.not_false, ↓y_lookv, y_key1, y_mlook, y_mlookn, y_mres1, y_mres0, ↓y_call, Bool.not_true]
  refine (at_Grammar l hl60 _ _).mono fun d h' x ⟨hh, hx, g, hg, hd⟩ => .inl ⟨[], by simp [St.inr], hx, by rw [hh]; rfl, ?_⟩
  subst hd
  have hgG := okGr_G hg
  have hgc := okGr_chk hg
  have hr60 : g.rules.length < 2 ^ 60 := by have := hg.len; omega
  have hx60 : ∀ r ∈ g.rules, r.right.length < 2 ^ 60 := fun r hr => by have := (hg.rules r hr).2.2.1; omega
  have hT := hg.terms
  have lg := low_gramD 0 g
  unfold gramD
  simp -implicitDefEqProofs only [↓symPre, symPost, y_condP, y_condG, run, lver, minD, intsD, eqAll, tupD, splice, Nat.zero_add, Nat.add_zero, Nat.zero_mul, Nat.mul_one, Nat.one_mul, Nat.reduceAdd, Nat.reduceSub, Nat.reduceMul, Nat.reduceLT, Nat.reduceLeDiff, Nat.reduceEqDiff, true_and, and_true, true_implies, if_true, if_false, ite_true, reduceIte, ne_eq, not_false_eq_true, reduceCtorEq, forall_const, bne_self_eq_false, Bool.true_eq_false, Bool.false_eq_true, false_implies, and_self, implies_true, Int.toNat_zero, beq_self_eq_true, decide_true, decide_false, Bool.not_true, Bool.not_false, ↓y_lookv, y_key1, y_mlook, y_mlookn, y_mres1, y_mres0, ↓y_call]
  have pW := pure_MWord g.terms 6 w (by omega) (by omega) (by omega) hw60
  refine pW.call rfl ?_
  have hWr : ∀ x ∈ wordM g.terms 6 w, 0 ≤ x ∧ x < g.terms := fun x hx => by
    obtain ⟨y, _, rfl⟩ := List.mem_map.1 hx
    exact below_range y g.terms (by omega)
  have hWl : (wordM g.terms 6 w).length ≤ 6 := by simp [wordM]; omega
  generalize wordM g.terms 6 w = W at *
  simp -implicitDefEqProofs only [↓symPre, symPost, y_condP, y_condG, run, lver, minD, intsD, eqAll, tupD, splice, Nat.zero_add, Nat.add_zero, Nat.zero_mul, Nat.mul_one, Nat.one_mul, Nat.reduceAdd, Nat.reduceSub, Nat.reduceMul, Nat.reduceLT, Nat.reduceLeDiff, Nat.reduceEqDiff, true_and, and_true, true_implies, if_true, if_false, ite_true, reduceIte, ne_eq, not_false_eq_true, reduceCtorEq, forall_const, bne_self_eq_false, Bool.true_eq_false, Bool.false_eq_true, false_implies, and_self, implies_true, Int.toNat_zero, beq_self_eq_true, decide_true, decide_false, Bool.not_true, Bool.not_false, ↓y_lookv, y_key1, y_mlook, y_mlookn, y_mres1, y_mres0, ↓y_call]
  refine (fresh_terminals W (by omega)).call (fun c hc => low_cellsF symD (low_symD 0) _ c hc) rfl rfl (Nat.le_of_ble_eq_true rfl) rfl ?_
  by_cases hW0 : W.length = 0
  · have b0 : ((W.length : Int) == 0) = true := by simp [hW0]
    simp -implicitDefEqProofs only [↓symPre, symPost, y_condP, y_condG, run, lver, minD, intsD, eqAll, tupD, splice, Nat.zero_add, Nat.add_zero, Nat.zero_mul, Nat.mul_one, Nat.one_mul, Nat.reduceAdd, Nat.reduceSub, Nat.reduceMul, Nat.reduceLT, Nat.reduceLeDiff, Nat.reduceEqDiff, true_and, and_true, true_implies, if_true, if_false, ite_true, reduceIte, ne_eq, not_false_eq_true, reduceCtorEq, forall_const, bne_self_eq_false, Bool.true_eq_false, Bool.false_eq_true, false_implies, and_self, implies_true, Int.toNat_zero, beq_self_eq_true, decide_true, decide_false, Bool.not_true, Bool.not_false, ↓y_lookv, y_key1, y_mlook, y_mlookn, y_mres1, y_mres0, ↓y_call, b0]
    exact fin_bool hl rfl
  · have b0 : ((W.length : Int) == 0) = false := by simpa using hW0
    have hne : ¬ (W.length : Int) = 0 := by simpa using hW0
    simp -implicitDefEqProofs only [↓symPre, symPost, y_condP, y_condG, run, lver, minD, intsD, eqAll, tupD, splice, Nat.zero_add, Nat.add_zero, Nat.zero_mul, Nat.mul_one, Nat.one_mul, Nat.reduceAdd, Nat.reduceSub, Nat.reduceMul, Nat.reduceLT, Nat.reduceLeDiff, Nat.reduceEqDiff, true_and, and_true, true_implies, if_true, if_false, ite_true, reduceIte, ne_eq, not_false_eq_true, reduceCtorEq, forall_const, bne_self_eq_false, Bool.true_eq_false, Bool.false_eq_true, false_implies, and_self, implies_true, Int.toNat_zero, beq_self_eq_true, decide_true, decide_false, Bool.not_true, Bool.not_false, ↓y_lookv, y_key1, y_mlook, y_mlookn, y_mres1, y_mres0, ↓y_call, b0]
    refine (pure_Below i W.length (by omega) (by omega)).call rfl ?_
    have hbr := below_range i W.length (by omega)
    obtain ⟨p, hp⟩ : ∃ p : Nat, belowI i W.length = p := ⟨(belowI i W.length).toNat, by omega⟩
    rw [hp] at hbr ⊢
    have p0 : (0 : Int) ≤ (p : Int) := by omega
    have p1 : (p : Int) < (W.length : Int) := by omega
    have hpl : p < W.length := by omega
    have hput := cells_putN (W.map tSy) (i := p) (by simpa using hpl) (-1)
    have el0 : (cellsF symD (W.map tSy)).length = W.length * 2 := by rw [cellsF_len symD symD_cells]; simp
    have gt0 : ((W.map tSy).getD p sy0).t = true := by simp [List.getD, hpl, tSy]
    rw [gt0] at hput
    have okA := okP_cells hWr (by omega) (by omega) p
    have lA : ((W.map tSy).set p ⟨true, -1⟩).length = W.length := by simp
    have gA : ((W.map tSy).set p ⟨true, -1⟩).getD p sy0 = ⟨true, -1⟩ := by simp [List.getD, hpl]
    generalize hAA : (W.map tSy).set p ⟨true, -1⟩ = A at *
    have hA := hchk_zero hgc okA
    have ip : p * 2 + 1 + 1 ≤ W.length * 2 := by omega
    have lne0 : ¬ cellsF symD (W.map tSy) = [] := fun h => by rw [h] at el0; simp at el0; omega
    simp -implicitDefEqProofs only [↓symPre, symPost, y_condP, y_condG, run, lver, minD, intsD, eqAll, tupD, splice, Nat.zero_add, Nat.add_zero, Nat.zero_mul, Nat.mul_one, Nat.one_mul, Nat.reduceAdd, Nat.reduceSub, Nat.reduceMul, Nat.reduceLT, Nat.reduceLeDiff, Nat.reduceEqDiff, true_and, and_true, true_implies, if_true, if_false, ite_true, reduceIte, ne_eq, not_false_eq_true, reduceCtorEq, forall_const, bne_self_eq_false, Bool.true_eq_false, Bool.false_eq_true, false_implies, and_self, implies_true, Int.toNat_zero, beq_self_eq_true, decide_true, decide_false, Bool.not_true, Bool.not_false, ↓y_lookv, y_key1, y_mlook, y_mlookn, y_mres1, y_mres0, ↓y_call, p0, p1, hpl, Int.toNat_natCast, el0, ip, hput, lne0]
    have hmay : mayF g A p = ((List.range g.terms.toNat).map fun t => (wholeW g (setN A p t)).ok, 0) := by
      unfold mayF
      rw [hA, if_neg (by simp), if_neg (by omega), if_neg (by rw [Int.toNat_natCast, gA]; simp)]
      rw [Int.toNat_natCast]
    have pM := fun (lc : List Blk) (he : lc.getD 40 blk0 = ⟨1, .cells (cellsF symD A)⟩) => at_May g A p (n := n + 104) (h := mrg n h lc) (b := n + 40) (ver := 1) (by omega) (by rw [mrg_loc]; exact he) hr60 hx60 (by omega)
    rw [hmay, lA] at pM
    have hany := whole_any (p := p) hgG (by omega) gA okA
    generalize hbs : ((List.range g.terms.toNat).map fun t => (wholeW g (setN A p t)).ok) = bs at *
    have lbs : bs.length = g.terms.toNat := by rw [← hbs]; simp
    have hbt : ∀ t, t < bs.length → bs[t]? = some (wholeW g (setN A p t)).ok := fun t ht => by
      rw [lbs] at ht
      rw [← hbs]; simp [ht]
    unfold gramD at pM
    refine ACalls.none0 rfl (pM _ rfl) ?_
    simp -implicitDefEqProofs only [↓symPre, symPost, y_condP, y_condG, run, lver, minD, intsD, eqAll, tupD, splice, Nat.zero_add, Nat.add_zero, Nat.zero_mul, Nat.mul_one, Nat.one_mul, Nat.reduceAdd, Nat.reduceSub, Nat.reduceMul, Nat.reduceLT, Nat.reduceLeDiff, Nat.reduceEqDiff, true_and, and_true, true_implies, if_true, if_false, ite_true, reduceIte, ne_eq, not_false_eq_true, reduceCtorEq, forall_const, bne_self_eq_false, Bool.true_eq_false, Bool.false_eq_true, false_implies, and_self, implies_true, Int.toNat_zero, beq_self_eq_true, decide_true, decide_false, Bool.not_true, Bool.not_false, ↓y_lookv, y_key1, y_mlook, y_mlookn, y_mres1, y_mres0, ↓y_call]
    have pF := pure_Fill g A hr60 hx60 (by omega)
    have he := fill_err hA
    generalize (fillF g A).2 = e at *
    unfold gramD at pF lg
    refine pF.callT rfl (y_wkl (.low _ lg) (y_wkl (fz_F symD symD_cells (low_symD 0) (l := A) (by omega) (by rw [mrg_loc]; rfl) lA.symm) trivial)) ?_
    rw [show tpD (D.tup [iD (fillF g A).1, .int .i64 e]) = .tup [.top, .int .i64 e] from rfl]
    have b1 : ((bs.length : Int) != g.terms) = false := by simp; omega
    have he2 : (e != 10) = (wholeW g A).ok := by unfold bne; rw [he, Bool.not_not]
    rw [hany] at he2
    simp -implicitDefEqProofs only [↓symPre, symPost, y_condP, y_condG, run, lver, minD, intsD, eqAll, tupD, splice, Nat.zero_add, Nat.add_zero, Nat.zero_mul, Nat.mul_one, Nat.one_mul, Nat.reduceAdd, Nat.reduceSub, Nat.reduceMul, Nat.reduceLT, Nat.reduceLeDiff, Nat.reduceEqDiff, true_and, and_true, true_implies, if_true, if_false, ite_true, reduceIte, ne_eq, not_false_eq_true, reduceCtorEq, forall_const, bne_self_eq_false, Bool.true_eq_false, Bool.false_eq_true, false_implies, and_self, implies_true, Int.toNat_zero, beq_self_eq_true, decide_true, decide_false, Bool.not_true, Bool.not_false, ↓y_lookv, y_key1, y_mlook, y_mlookn, y_mres1, y_mres0, ↓y_call, List.length_map, b1]
    refine (pure_ContainsB bs (by omega)).call rfl ?_
    have b2 : (bs.contains true == bs.contains true) = true := by simp
    simp -implicitDefEqProofs only [↓symPre, symPost, y_condP, y_condG, run, lver, minD, intsD, eqAll, tupD, splice, Nat.zero_add, Nat.add_zero, Nat.zero_mul, Nat.mul_one, Nat.one_mul, Nat.reduceAdd, Nat.reduceSub, Nat.reduceMul, Nat.reduceLT, Nat.reduceLeDiff, Nat.reduceEqDiff, true_and, and_true, true_implies, if_true, if_false, ite_true, reduceIte, ne_eq, not_false_eq_true, reduceCtorEq, forall_const, bne_self_eq_false, Bool.true_eq_false, Bool.false_eq_true, false_implies, and_self, implies_true, Int.toNat_zero, beq_self_eq_true, decide_true, decide_false, Bool.not_true, Bool.not_false, ↓y_lookv, y_key1, y_mlook, y_mlookn, y_mres1, y_mres0, ↓y_call, he2, b2, List.length_map]
    have htA : (A.getD p sy0).t = true := by rw [gA]
    have hpA : p < A.length := by omega
    refine aloop (fun k : Nat => St.mk n ([.top, .top, .int .i64 p] ++ List.replicate 6 .top ++ [.ptr (n + 9) 1 0, .ref 2 (n + 40) 1 0 W.length] ++ List.replicate 70 .top ++ [.lst (bs.map .bool), .int .i64 bs.length, .int .i64 k] ++ List.replicate 20 .top) h
        (List.replicate 9 blk0 ++ [⟨1, .cells [.int .i64 g.terms, .int .i64 g.nons, .int .i64 g.start, .lst (g.rules.map ruleD)]⟩] ++ List.replicate 30 blk0 ++ [⟨1, .cells (cellsF symD (atM A p k))⟩] ++ List.replicate 63 blk0)) (fun k => k ≤ bs.length) (fun k => bs.length - k) 0 (Nat.zero_le _) ?_ ?_
    · refine le_to (List.replicate 9 .hole ++ [.old 9] ++ List.replicate 30 .hole ++ [.old 40] ++ List.replicate 63 .hole) hl rfl ?_ ?_ <;> ((try simp only [y_blk_end, y_blk_hole, y_blk_nil, y_blk_old, y_wkl_end, y_wkl_top, List.replicate, List.cons_append, List.nil_append, and_true, true_and]) <;> (repeat' (first | apply And.intro | apply y_wkl | refine Exists.intro _ (And.intro rfl ?_))) <;> (try first | exact trivial | exact Wk.top _ | exact wk_int rfl | exact wk_bool rfl | exact wk_ptr rfl rfl rfl rfl | exact wk_ref rfl rfl rfl rfl rfl | exact wk_nil rfl rfl rfl | exact wk_ref rfl rfl rfl rfl (by simp) | exact wk_ref rfl rfl rfl rfl (by simp; omega) | exact wk_old (by assumption) (by simp) | exact wk_eq rfl (by first | exact Bd.int _ _ | exact Bd.bool _ | exact Bd.abool | exact Bd.nils | exact Bd.emp | exact Bd.nilp | exact Bd.nilfn | assumption | exact low_trees _ _ | exact low_treeD _ _ | exact low_ints _ _) | exact Nat.le_refl _ | exact wk_int (by simp) | exact wk_int (by omega) | exact Nat.succ_le_succ (Nat.zero_le _) | exact Nat.le_add_left _ _ | omega))
      all_goals first | exact .low _ (low_bools n bs) | exact .low _ (low_rules n g.rules) | exact WkL.low (low_cellsF symD (low_symD n) _) | trace_state
    · intro k hk
      by_cases hkt : k < bs.length
      · have f1 : (k : Int) < (bs.length : Int) := by omega
        have f0 : (0 : Int) ≤ (k : Int) := by omega
        have e0 := nth_bools bs k hkt
        have hbk := hbt k hkt
        rw [List.getElem?_eq_getElem hkt] at hbk
        have hbk := Option.some.inj hbk
        have hml := atM_len A p k
        have hput := cells_putN (atM A p k) (i := p) (by omega) (k : Int)
        rw [atM_set hpA htA k] at hput
        have hsn : atM A p (k + 1) = setN A p k := by unfold atM; rw [if_neg (by omega), Nat.add_sub_cancel]
        rw [hsn] at hput
        have elen : (cellsF symD (atM A p k)).length = W.length * 2 := by rw [cellsF_len symD symD_cells]; omega
        have lne : ¬ cellsF symD (atM A p k) = [] := fun h => by rw [h] at elen; simp at elen; omega
        have okB := okP_setN (i := p) okA (show (k : Int) < g.terms by omega)
        have pF := pure_Fill g (setN A p k) hr60 hx60 (by simp [setN]; omega)
        have he := fill_err (hchk_zero hgc okB)
        have w1 : IntKind.i64.wrap ((k : Int) + 1) = ((k + 1 : Nat) : Int) := by rw [IntWalk.i64_in _ (by omega)]; omega
        unfold gramD at pF
        rw [hbk] at e0
        generalize (wholeW g (setN A p k)).ok = ok at *
        generalize (fillF g (setN A p k)).2 = e at *
        generalize atM A p k = M at *
        simp -implicitDefEqProofs only [↓symPre, symPost, y_condP, y_condG, run, lver, minD, intsD, eqAll, tupD, splice, Nat.zero_add, Nat.add_zero, Nat.zero_mul, Nat.mul_one, Nat.one_mul, Nat.reduceAdd, Nat.reduceSub, Nat.reduceMul, Nat.reduceLT, Nat.reduceLeDiff, Nat.reduceEqDiff, true_and, and_true, true_implies, if_true, if_false, ite_true, reduceIte, ne_eq, not_false_eq_true, reduceCtorEq, forall_const, bne_self_eq_false, Bool.true_eq_false, Bool.false_eq_true, false_implies, and_self, implies_true, Int.toNat_zero, beq_self_eq_true, decide_true, decide_false, Bool.not_true, Bool.not_false, ↓y_lookv, y_key1, y_mlook, y_mlookn, y_mres1, y_mres0, ↓y_call, List.length_map, f1, f0, hkt, p0, p1, hpl, Int.toNat_natCast, e0, elen, ip, hput, lne, decide_true]
        refine pF.callT rfl (y_wkl (.low _ lg) (y_wkl (fz_F symD symD_cells (low_symD 0) (l := setN A p k) (by omega) (by rw [mrg_loc]; rfl) (by simp [setN]; omega)) trivial)) ?_
        rw [show tpD (D.tup [iD (fillF g (setN A p k)).1, .int .i64 e]) = .tup [.top, .int .i64 e] from rfl]
        have b3 : (ok == !ok) = false := by cases ok <;> rfl
        simp -implicitDefEqProofs only [↓symPre, symPost, y_condP, y_condG, run, lver, minD, intsD, eqAll, tupD, splice, Nat.zero_add, Nat.add_zero, Nat.zero_mul, Nat.mul_one, Nat.one_mul, Nat.reduceAdd, Nat.reduceSub, Nat.reduceMul, Nat.reduceLT, Nat.reduceLeDiff, Nat.reduceEqDiff, true_and, and_true, true_implies, if_true, if_false, ite_true, reduceIte, ne_eq, not_false_eq_true, reduceCtorEq, forall_const, bne_self_eq_false, Bool.true_eq_false, Bool.false_eq_true, false_implies, and_self, implies_true, Int.toNat_zero, beq_self_eq_true, decide_true, decide_false, Bool.not_true, Bool.not_false, ↓y_lookv, y_key1, y_mlook, y_mlookn, y_mres1, y_mres0, ↓y_call, he, b3, w1]
        refine ⟨k + 1, by omega, by omega, ?_⟩
        rw [hsn]
        refine le_to (List.replicate 9 .hole ++ [.old 9] ++ List.replicate 30 .hole ++ [.old 40] ++ List.replicate 63 .hole) hl rfl ?_ ?_ <;> ((try simp only [y_blk_end, y_blk_hole, y_blk_nil, y_blk_old, y_wkl_end, y_wkl_top, List.replicate, List.cons_append, List.nil_append, and_true, true_and]) <;> (repeat' (first | apply And.intro | apply y_wkl | refine Exists.intro _ (And.intro rfl ?_))) <;> (try first | exact trivial | exact Wk.top _ | exact wk_int rfl | exact wk_bool rfl | exact wk_ptr rfl rfl rfl rfl | exact wk_ref rfl rfl rfl rfl rfl | exact wk_nil rfl rfl rfl | exact wk_ref rfl rfl rfl rfl (by simp) | exact wk_ref rfl rfl rfl rfl (by simp; omega) | exact wk_old (by assumption) (by simp) | exact wk_eq rfl (by first | exact Bd.int _ _ | exact Bd.bool _ | exact Bd.abool | exact Bd.nils | exact Bd.emp | exact Bd.nilp | exact Bd.nilfn | assumption | exact low_trees _ _ | exact low_treeD _ _ | exact low_ints _ _) | exact Nat.le_refl _ | exact wk_int (by simp) | exact wk_int (by omega) | exact Nat.succ_le_succ (Nat.zero_le _) | exact Nat.le_add_left _ _ | omega))
        all_goals first | exact .low _ (low_bools n bs) | exact .low _ (low_rules n g.rules) | exact WkL.low (low_cellsF symD (low_symD n) _) | trace_state
      · have f1 : ¬ (k : Int) < (bs.length : Int) := by omega
        simp -implicitDefEqProofs only [↓symPre, symPost, y_condP, y_condG, run, lver, minD, intsD, eqAll, tupD, splice, Nat.zero_add, Nat.add_zero, Nat.zero_mul, Nat.mul_one, Nat.one_mul, Nat.reduceAdd, Nat.reduceSub, Nat.reduceMul, Nat.reduceLT, Nat.reduceLeDiff, Nat.reduceEqDiff, true_and, and_true, true_implies, if_true, if_false, ite_true, reduceIte, ne_eq, not_false_eq_true, reduceCtorEq, forall_const, bne_self_eq_false, Bool.true_eq_false, Bool.false_eq_true, false_implies, and_self, implies_true, Int.toNat_zero, beq_self_eq_true, decide_true, decide_false, Bool.not_true, Bool.not_false, ↓y_lookv, y_key1, y_mlook, y_mlookn, y_mres1, y_mres0, ↓y_call, f1, decide_false]
        exact fin_bool hl rfl

end Abs
end Go.Proofs.Ythihmgnfnhcgeaa

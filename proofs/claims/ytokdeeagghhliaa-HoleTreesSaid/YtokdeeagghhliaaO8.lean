/- The table: symbol (printed by tools/genO8.py). -/
import Derived.Test.YtokdeeagghhliaaO7
namespace Go.Proofs.Ytokdeeagghhliaa
namespace Abs
set_option linter.unusedVariables false
set_option linter.unusedSimpArgs false
set_option maxRecDepth 20000

abbrev rowD (R : List Wd) : D := .lst (R.map wD)
abbrev gridD (A : List (List Wd)) : D := .lst (A.map rowD)
abbrev partD (P : List (List (List Wd))) : D := .lst (P.map gridD)
/-- the words of the parts, where a table has them: frozen, or live in three layers of blocks -/
def PartAt (n : Nat) (h : Heap) (Pa : D) (P : List (List (List Wd))) : Prop := Pa = partD P ∨
  ∃ pb pv R1, pb < n ∧ Pa = .ref 1 pb pv 0 P.length ∧ h pb = ⟨pv, .cells R1⟩ ∧ R1.length = P.length ∧ ∀ (a : Nat) (A : List (List Wd)), P[a]? = some A →
    ∃ ab av R2, ab < n ∧ nth R1 a = .ref 1 ab av 0 A.length ∧ h ab = ⟨av, .cells R2⟩ ∧ R2.length = A.length ∧ ∀ (i : Nat) (R : List Wd), A[i]? = some R →
      ∃ rb rv, rb < n ∧ nth R2 i = .ref 3 rb rv 0 R.length ∧ h rb = ⟨rv, .cells (cellsF wD R)⟩
def partW (P : List (List (List Wd))) (a i j : Nat) : Wd := ((P.getD a []).getD i []).getD j wd0
def inW (P : List (List (List Wd))) (a i j : Nat) : Prop := ∃ A R, P[a]? = some A ∧ A[i]? = some R ∧ j < R.length
theorem partW_eq {P : List (List (List Wd))} {a i j : Nat} {A : List (List Wd)} {R : List Wd} (h1 : P[a]? = some A) (h2 : A[i]? = some R) : partW P a i j = R.getD j wd0 := by
  unfold partW
  rw [show P.getD a [] = A by simp [List.getD, h1], show A.getD i [] = R by simp [List.getD, h2]]

def symW (ws : List Wd) (P : List (List (List Wd))) (l : List Sy) (x : Sy) (i j : Nat) : Wd :=
  let o := if j = i + 1 then cellW ws l x i else wd0
  if x.t = false ∧ shorterW (partW P x.n.toNat i j) wd1 o = true then partW P x.n.toNat i j else o

theorem Pure.wkd {P : Program} {f : FuncId} {ds ds' : List D} {r : D} (hp : Pure P f ds r) (hr : Sc r) (hf : ∀ N H, WkL (FX N H) ds' ds) : Pure P f ds' r := fun N H => hp.frz hr (hf N H)
def wdN (o : Bool) : D := .agg [.bool o, .int .i64 0, .nils]
theorem wk_wdN {X : Wx} (o : Bool) : Wk X (wdN o) (wD ⟨o, 0, []⟩) := wk_agg3w (.low _ (.bool _)) wk_i .nilsLst
theorem wk_wD {N : Nat} {H : Heap} (x : Wd) : Wk (FX N H) (wD x) (wD x) := fz_low (low_wD 0 x)
theorem pure_shorter1 (a c : Wd) (ha : okW a) (hc : okW c) : Pure prog F_hole_shorter [wD a, wdN true, wD c] (.bool (shorterW a wd1 c)) :=
  (pure_shorter a wd1 c ha okW1 hc).wkd (.bool _) fun N H => y_wkl (wk_wD a) (y_wkl (wk_wdN true) (y_wkl (wk_wD c) trivial))
theorem pure_shorter10 (a : Wd) (ha : okW a) : Pure prog F_hole_shorter [wD a, wdN true, wdN false] (.bool (shorterW a wd1 wd0)) :=
  (pure_shorter a wd1 wd0 ha okW1 okW0).wkd (.bool _) fun N H => y_wkl (wk_wD a) (y_wkl (wk_wdN true) (y_wkl (wk_wdN false) trivial))

theorem at_symbol (g : Gr) (l : List Sy) (x : Sy) (i j : Nat) (ws : List Wd) (P : List (List (List Wd))) (Le Pa : D) {n : Nat} {h : Heap} {b ver : Nat} (hb : b < n) (hh : h b = ⟨ver, .cells (tabC g l Le Pa)⟩)
    (hL : LeastAt n h Le ws) (hP : PartAt n h Pa P) (hx : x.t = false → 0 ≤ x.n ∧ x.n < ws.length ∧ inW P x.n.toNat i j ∧ okW (partW P x.n.toNat i j)) (hij : i ≤ j) (hj : j ≤ l.length) (hl60 : l.length < 2 ^ 60)
    (hc : j = i + 1 → okW (cellW ws l x i)) :
    ACalls prog F_hole_table_symbol [.ptr b ver 0, symD x, .int .i64 i, .int .i64 j] n h fun d h' x' => h' = h ∧ x' = [] ∧ d = wD (symW ws P l x i j) := by
  have hf := fun (lc : List Blk) (hi : i < l.length) => at_cell g l x i ws Le Pa (n := n + 55) (h := mrg n h lc) (b := b) (ver := ver) (by omega) (by rw [mrg_lt hb]; exact hh) (hL.up (by omega)) (fun h => ⟨(hx h).1, (hx h).2.1⟩) hi
  refine K_hole_table_symbol.calls fun hl => ?_
  unfold C_hole_table_symbol
  have w1 : IntKind.i64.wrap ((i : Int) + 1) = (i : Int) + 1 := IntWalk.i64_in _ (by omega)
  obtain ⟨xt, xn⟩ := x
  unfold tabC at hh
  unfold symD at hf ⊢
  simp only at hf hx
  have hok : okW (if j = i + 1 then cellW ws l ⟨xt, xn⟩ i else wd0) := by
    split
    · exact hc ‹_›
    · exact okW0
  generalize hS : symW ws P l ⟨xt, xn⟩ i j = s
  unfold symW at hS
  simp only at hS
  have i0 : (0 : Int) ≤ (i : Int) := by omega
  have j0 : (0 : Int) ≤ (j : Int) := by omega
  cases xt with
  | true =>
    rw [if_neg (by simp)] at hS
    by_cases h1 : j = i + 1
    · have b1 : ((j : Int) == (i : Int) + 1) = true := by simp; omega
      rw [if_pos h1] at hS hok
      rw [hS] at hok hf
      obtain ⟨so, sn, sw⟩ := s
      simp -implicitDefEqProofs only [↓symPre, symPost, y_condP, y_condG, run, lver, minD, intsD, eqAll, tupD, splice, Nat.zero_add, Nat.add_zero, Nat.zero_mul, Nat.mul_one, Nat.one_mul, Nat.reduceAdd, Nat.reduceSub, Nat.reduceMul, Nat.reduceLT, Nat.reduceLeDiff, Nat.reduceEqDiff, true_and, and_true, true_implies, if_true, if_false, ite_true, reduceIte, ne_eq, not_false_eq_true, reduceCtorEq, forall_const, bne_self_eq_false, Bool.true_eq_false, Bool.false_eq_true, false_implies, and_self, implies_true, Int.toNat_zero, beq_self_eq_true, decide_true, decide_false, Bool.not_true, Bool.not_false, ↓y_lookv, y_key1, y_mlook, y_mlookn, y_mres1, y_mres0, ↓y_call, w1, b1, ↓y_at_old hb, hh, hb]
      refine ACalls.none0 rfl (hf _ (by omega)) ?_
      unfold wD
      simp -implicitDefEqProofs only [↓symPre, symPost, y_condP, y_condG, run, lver, minD, intsD, eqAll, tupD, splice, Nat.zero_add, Nat.add_zero, Nat.zero_mul, Nat.mul_one, Nat.one_mul, Nat.reduceAdd, Nat.reduceSub, Nat.reduceMul, Nat.reduceLT, Nat.reduceLeDiff, Nat.reduceEqDiff, true_and, and_true, true_implies, if_true, if_false, ite_true, reduceIte, ne_eq, not_false_eq_true, reduceCtorEq, forall_const, bne_self_eq_false, Bool.true_eq_false, Bool.false_eq_true, false_implies, and_self, implies_true, Int.toNat_zero, beq_self_eq_true, decide_true, decide_false, Bool.not_true, Bool.not_false, ↓y_lookv, y_key1, y_mlook, y_mlookn, y_mres1, y_mres0, ↓y_call]
      refine adrawq hmix [] ?_
      simp (maxSteps := 400000) -implicitDefEqProofs only [↓symPre, symPost, y_condP, y_condG, run, lver, minD, intsD, eqAll, tupD, splice, Nat.zero_add, Nat.add_zero, Nat.zero_mul, Nat.mul_one, Nat.one_mul, Nat.reduceAdd, Nat.reduceSub, Nat.reduceMul, Nat.reduceLT, Nat.reduceLeDiff, Nat.reduceEqDiff, true_and, and_true, true_implies, if_true, if_false, ite_true, reduceIte, ne_eq, not_false_eq_true, reduceCtorEq, forall_const, bne_self_eq_false, Bool.true_eq_false, Bool.false_eq_true, false_implies, and_self, implies_true, Int.toNat_zero, beq_self_eq_true, decide_true, decide_false, Bool.not_true, Bool.not_false, ↓y_lookv, y_key1, y_mlook, y_mlookn, y_mres1, y_mres0, ↓y_call, ↓y_adq0, ↓y_adq, ↓y_stepQ_call, ↓y_adq_onT, ↓y_adq_onF, ↓y_adq_onS, drawPost, isCall, isNew, isEff, Option.toList, or_false, false_or, cond_true, cond_false, not_true_eq_false, or_true, true_or, Nat.add_left_cancel_iff, Bool.false_eq_true, ↓y_q0, ↓y_q1, ↓y_q1e, y_qn, isMap, Bool.not_true, Bool.not_false]
      iterate 3 (first | refine ⟨by rintro c (rfl | rfl | rfl) <;> rfl, ?_⟩ | skip)
      exact fin_low hl (low_wD n ⟨so, sn, sw⟩) ⟨rfl, rfl, rfl⟩
    · have b1 : ((j : Int) == (i : Int) + 1) = false := by simp; omega
      rw [if_neg h1] at hS
      subst hS
      simp -implicitDefEqProofs only [↓symPre, symPost, y_condP, y_condG, run, lver, minD, intsD, eqAll, tupD, splice, Nat.zero_add, Nat.add_zero, Nat.zero_mul, Nat.mul_one, Nat.one_mul, Nat.reduceAdd, Nat.reduceSub, Nat.reduceMul, Nat.reduceLT, Nat.reduceLeDiff, Nat.reduceEqDiff, true_and, and_true, true_implies, if_true, if_false, ite_true, reduceIte, ne_eq, not_false_eq_true, reduceCtorEq, forall_const, bne_self_eq_false, Bool.true_eq_false, Bool.false_eq_true, false_implies, and_self, implies_true, Int.toNat_zero, beq_self_eq_true, decide_true, decide_false, Bool.not_true, Bool.not_false, ↓y_lookv, y_key1, y_mlook, y_mlookn, y_mres1, y_mres0, ↓y_call, w1, b1, ↓y_at_old hb, hh, hb]
      refine adrawq hmix [] ?_
      simp (maxSteps := 400000) -implicitDefEqProofs only [↓symPre, symPost, y_condP, y_condG, run, lver, minD, intsD, eqAll, tupD, splice, Nat.zero_add, Nat.add_zero, Nat.zero_mul, Nat.mul_one, Nat.one_mul, Nat.reduceAdd, Nat.reduceSub, Nat.reduceMul, Nat.reduceLT, Nat.reduceLeDiff, Nat.reduceEqDiff, true_and, and_true, true_implies, if_true, if_false, ite_true, reduceIte, ne_eq, not_false_eq_true, reduceCtorEq, forall_const, bne_self_eq_false, Bool.true_eq_false, Bool.false_eq_true, false_implies, and_self, implies_true, Int.toNat_zero, beq_self_eq_true, decide_true, decide_false, Bool.not_true, Bool.not_false, ↓y_lookv, y_key1, y_mlook, y_mlookn, y_mres1, y_mres0, ↓y_call, ↓y_adq0, ↓y_adq, ↓y_stepQ_call, ↓y_adq_onT, ↓y_adq_onF, ↓y_adq_onS, drawPost, isCall, isNew, isEff, Option.toList, or_false, false_or, cond_true, cond_false, not_true_eq_false, or_true, true_or, Nat.add_left_cancel_iff, Bool.false_eq_true, ↓y_q0, ↓y_q1, ↓y_q1e, y_qn, isMap, Bool.not_true, Bool.not_false]
      iterate 3 (first | refine ⟨by rintro c (rfl | rfl | rfl) <;> rfl, ?_⟩ | skip)
      exact fin_wk hl (wk_agg3w (.low _ (.bool _)) wk_i .nilsLst) ⟨rfl, rfl, rfl⟩
  | false =>
    obtain ⟨x1, x2, ⟨A, R, p1, p2, p3⟩, pok⟩ := hx rfl
    have k1 : xn < (P.length : Int) := by have := (List.getElem?_eq_some_iff.1 p1).1; omega
    have k2 : (i : Int) < (A.length : Int) := by have := (List.getElem?_eq_some_iff.1 p2).1; omega
    have k3 : (j : Int) < (R.length : Int) := by omega
    have k1' : xn.toNat < P.length := by omega
    have k2' : i < A.length := by omega
    rw [partW_eq p1 p2] at hS pok
    rcases hP with rfl | ⟨pb, pv, R1, hpb, rfl, h1b, l1, hP⟩
    · have f1 : nth (P.map gridD) xn.toNat = gridD A := by rw [nth_mapF gridD P _ k1', show P[xn.toNat] = A from Option.some.inj ((List.getElem?_eq_getElem k1').symm.trans p1)]
      have f2 : nth (A.map rowD) i = rowD R := by rw [nth_mapF rowD A _ k2', show A[i] = R from Option.some.inj ((List.getElem?_eq_getElem k2').symm.trans p2)]
      have f3 : nth (R.map wD) j = .agg [.bool (R.getD j wd0).ok, .int .i64 (R.getD j wd0).n, iD (R.getD j wd0).w] := nth_wD R j p3
      by_cases h1 : j = i + 1
      · have b1 : ((j : Int) == (i : Int) + 1) = true := by simp; omega
        rw [if_pos h1] at hS hok
        generalize cellW ws l ⟨false, xn⟩ i = c at *
        have pS := pure_shorter1 (R.getD j wd0) c pok hok
        generalize hq : R.getD j wd0 = q at *
        obtain ⟨qo, qn, qw⟩ := q
        obtain ⟨co, cn, cw⟩ := c
        unfold wD wdN wd1 at pS
        simp only at f3
        simp -implicitDefEqProofs only [↓symPre, symPost, y_condP, y_condG, run, lver, minD, intsD, eqAll, tupD, splice, Nat.zero_add, Nat.add_zero, Nat.zero_mul, Nat.mul_one, Nat.one_mul, Nat.reduceAdd, Nat.reduceSub, Nat.reduceMul, Nat.reduceLT, Nat.reduceLeDiff, Nat.reduceEqDiff, true_and, and_true, true_implies, if_true, if_false, ite_true, reduceIte, ne_eq, not_false_eq_true, reduceCtorEq, forall_const, bne_self_eq_false, Bool.true_eq_false, Bool.false_eq_true, false_implies, and_self, implies_true, Int.toNat_zero, beq_self_eq_true, decide_true, decide_false, Bool.not_true, Bool.not_false, ↓y_lookv, y_key1, y_mlook, y_mlookn, y_mres1, y_mres0, ↓y_call, w1, b1, ↓y_at_old hb, hh, hb]
        refine ACalls.none0 rfl (hf _ (by omega)) ?_
        unfold wD
        simp -implicitDefEqProofs only [↓symPre, symPost, y_condP, y_condG, run, lver, minD, intsD, eqAll, tupD, splice, Nat.zero_add, Nat.add_zero, Nat.zero_mul, Nat.mul_one, Nat.one_mul, Nat.reduceAdd, Nat.reduceSub, Nat.reduceMul, Nat.reduceLT, Nat.reduceLeDiff, Nat.reduceEqDiff, true_and, and_true, true_implies, if_true, if_false, ite_true, reduceIte, ne_eq, not_false_eq_true, reduceCtorEq, forall_const, bne_self_eq_false, Bool.true_eq_false, Bool.false_eq_true, false_implies, and_self, implies_true, Int.toNat_zero, beq_self_eq_true, decide_true, decide_false, Bool.not_true, Bool.not_false, ↓y_lookv, y_key1, y_mlook, y_mlookn, y_mres1, y_mres0, ↓y_call]
        refine adrawq hmix [] ?_
        simp (maxSteps := 400000) -implicitDefEqProofs only [↓symPre, symPost, y_condP, y_condG, run, lver, minD, intsD, eqAll, tupD, splice, Nat.zero_add, Nat.add_zero, Nat.zero_mul, Nat.mul_one, Nat.one_mul, Nat.reduceAdd, Nat.reduceSub, Nat.reduceMul, Nat.reduceLT, Nat.reduceLeDiff, Nat.reduceEqDiff, true_and, and_true, true_implies, if_true, if_false, ite_true, reduceIte, ne_eq, not_false_eq_true, reduceCtorEq, forall_const, bne_self_eq_false, Bool.true_eq_false, Bool.false_eq_true, false_implies, and_self, implies_true, Int.toNat_zero, beq_self_eq_true, decide_true, decide_false, Bool.not_true, Bool.not_false, ↓y_lookv, y_key1, y_mlook, y_mlookn, y_mres1, y_mres0, ↓y_call, ↓y_adq0, ↓y_adq, ↓y_stepQ_call, ↓y_adq_onT, ↓y_adq_onF, ↓y_adq_onS, drawPost, isCall, isNew, isEff, Option.toList, or_false, false_or, cond_true, cond_false, not_true_eq_false, or_true, true_or, Nat.add_left_cancel_iff, Bool.false_eq_true, ↓y_q0, ↓y_q1, ↓y_q1e, y_qn, isMap, Bool.not_true, Bool.not_false, w1, ↓y_at_old hb, hh, hb, List.length_map, x1, i0, j0, k1, k2, k3, k1', k2', Int.toNat_natCast, f1, f2, f3]
        refine ⟨_, _, pS.draw rfl, (by simp [y_cov0, y_cov1, isNew, isEff, Option.toList]), ?_⟩
        cases hsh : shorterW ⟨qo, qn, qw⟩ ⟨true, 0, []⟩ ⟨co, cn, cw⟩ with
        | true =>
          simp (maxSteps := 400000) -implicitDefEqProofs only [↓symPre, symPost, y_condP, y_condG, run, lver, minD, intsD, eqAll, tupD, splice, Nat.zero_add, Nat.add_zero, Nat.zero_mul, Nat.mul_one, Nat.one_mul, Nat.reduceAdd, Nat.reduceSub, Nat.reduceMul, Nat.reduceLT, Nat.reduceLeDiff, Nat.reduceEqDiff, true_and, and_true, true_implies, if_true, if_false, ite_true, reduceIte, ne_eq, not_false_eq_true, reduceCtorEq, forall_const, bne_self_eq_false, Bool.true_eq_false, Bool.false_eq_true, false_implies, and_self, implies_true, Int.toNat_zero, beq_self_eq_true, decide_true, decide_false, Bool.not_true, Bool.not_false, ↓y_lookv, y_key1, y_mlook, y_mlookn, y_mres1, y_mres0, ↓y_call, ↓y_adq0, ↓y_adq, ↓y_stepQ_call, ↓y_adq_onT, ↓y_adq_onF, ↓y_adq_onS, drawPost, isCall, isNew, isEff, Option.toList, or_false, false_or, cond_true, cond_false, not_true_eq_false, or_true, true_or, Nat.add_left_cancel_iff, Bool.false_eq_true, ↓y_q0, ↓y_q1, ↓y_q1e, y_qn, isMap, Bool.not_true, Bool.not_false, w1, ↓y_at_old hb, hh, hb, List.length_map, x1, i0, j0, k1, k2, k3, k1', k2', Int.toNat_natCast, f1, f2, f3, hsh]
          refine adrawq hmix (List.replicate 14 [] ++ [[n + 9]]) ?_
          simp (maxSteps := 400000) -implicitDefEqProofs only [↓symPre, symPost, y_condP, y_condG, run, lver, minD, intsD, eqAll, tupD, splice, Nat.zero_add, Nat.add_zero, Nat.zero_mul, Nat.mul_one, Nat.one_mul, Nat.reduceAdd, Nat.reduceSub, Nat.reduceMul, Nat.reduceLT, Nat.reduceLeDiff, Nat.reduceEqDiff, true_and, and_true, true_implies, if_true, if_false, ite_true, reduceIte, ne_eq, not_false_eq_true, reduceCtorEq, forall_const, bne_self_eq_false, Bool.true_eq_false, Bool.false_eq_true, false_implies, and_self, implies_true, Int.toNat_zero, beq_self_eq_true, decide_true, decide_false, Bool.not_true, Bool.not_false, ↓y_lookv, y_key1, y_mlook, y_mlookn, y_mres1, y_mres0, ↓y_call, ↓y_adq0, ↓y_adq, ↓y_stepQ_call, ↓y_adq_onT, ↓y_adq_onF, ↓y_adq_onS, drawPost, isCall, isNew, isEff, Option.toList, or_false, false_or, cond_true, cond_false, not_true_eq_false, or_true, true_or, Nat.add_left_cancel_iff, Bool.false_eq_true, ↓y_q0, ↓y_q1, ↓y_q1e, y_qn, isMap, Bool.not_true, Bool.not_false, w1, ↓y_at_old hb, hh, hb, List.length_map, x1, i0, j0, k1, k2, k3, k1', k2', Int.toNat_natCast, f1, f2, f3]
          iterate 3 (first | refine ⟨by rintro c (rfl | rfl | rfl) <;> rfl, ?_⟩ | skip)
          rw [if_pos ⟨rfl, hsh⟩] at hS
          subst hS
          exact fin_low hl (low_wD n ⟨qo, qn, qw⟩) ⟨rfl, rfl, rfl⟩
        | false =>
          simp (maxSteps := 400000) -implicitDefEqProofs only [↓symPre, symPost, y_condP, y_condG, run, lver, minD, intsD, eqAll, tupD, splice, Nat.zero_add, Nat.add_zero, Nat.zero_mul, Nat.mul_one, Nat.one_mul, Nat.reduceAdd, Nat.reduceSub, Nat.reduceMul, Nat.reduceLT, Nat.reduceLeDiff, Nat.reduceEqDiff, true_and, and_true, true_implies, if_true, if_false, ite_true, reduceIte, ne_eq, not_false_eq_true, reduceCtorEq, forall_const, bne_self_eq_false, Bool.true_eq_false, Bool.false_eq_true, false_implies, and_self, implies_true, Int.toNat_zero, beq_self_eq_true, decide_true, decide_false, Bool.not_true, Bool.not_false, ↓y_lookv, y_key1, y_mlook, y_mlookn, y_mres1, y_mres0, ↓y_call, ↓y_adq0, ↓y_adq, ↓y_stepQ_call, ↓y_adq_onT, ↓y_adq_onF, ↓y_adq_onS, drawPost, isCall, isNew, isEff, Option.toList, or_false, false_or, cond_true, cond_false, not_true_eq_false, or_true, true_or, Nat.add_left_cancel_iff, Bool.false_eq_true, ↓y_q0, ↓y_q1, ↓y_q1e, y_qn, isMap, Bool.not_true, Bool.not_false, w1, ↓y_at_old hb, hh, hb, List.length_map, x1, i0, j0, k1, k2, k3, k1', k2', Int.toNat_natCast, f1, f2, f3, hsh]
          iterate 3 (first | refine ⟨by rintro c (rfl | rfl | rfl) <;> rfl, ?_⟩ | skip)
          rw [if_neg fun h => by have h2 := h.2; exact absurd (h2.symm.trans hsh) (by simp)] at hS
          subst hS
          exact fin_low hl (low_wD n ⟨co, cn, cw⟩) ⟨rfl, rfl, rfl⟩
      · have b1 : ((j : Int) == (i : Int) + 1) = false := by simp; omega
        rw [if_neg h1] at hS hok
        have pS := pure_shorter10 (R.getD j wd0) pok
        generalize hq : R.getD j wd0 = q at *
        obtain ⟨qo, qn, qw⟩ := q
        unfold wD wdN wd1 wd0 at pS
        simp only at f3
        simp -implicitDefEqProofs only [↓symPre, symPost, y_condP, y_condG, run, lver, minD, intsD, eqAll, tupD, splice, Nat.zero_add, Nat.add_zero, Nat.zero_mul, Nat.mul_one, Nat.one_mul, Nat.reduceAdd, Nat.reduceSub, Nat.reduceMul, Nat.reduceLT, Nat.reduceLeDiff, Nat.reduceEqDiff, true_and, and_true, true_implies, if_true, if_false, ite_true, reduceIte, ne_eq, not_false_eq_true, reduceCtorEq, forall_const, bne_self_eq_false, Bool.true_eq_false, Bool.false_eq_true, false_implies, and_self, implies_true, Int.toNat_zero, beq_self_eq_true, decide_true, decide_false, Bool.not_true, Bool.not_false, ↓y_lookv, y_key1, y_mlook, y_mlookn, y_mres1, y_mres0, ↓y_call, w1, b1, ↓y_at_old hb, hh, hb]
        refine adrawq hmix [] ?_
        simp (maxSteps := 400000) -implicitDefEqProofs only [↓symPre, symPost, y_condP, y_condG, run, lver, minD, intsD, eqAll, tupD, splice, Nat.zero_add, Nat.add_zero, Nat.zero_mul, Nat.mul_one, Nat.one_mul, Nat.reduceAdd, Nat.reduceSub, Nat.reduceMul, Nat.reduceLT, Nat.reduceLeDiff, Nat.reduceEqDiff, true_and, and_true, true_implies, if_true, if_false, ite_true, reduceIte, ne_eq, not_false_eq_true, reduceCtorEq, forall_const, bne_self_eq_false, Bool.true_eq_false, Bool.false_eq_true, false_implies, and_self, implies_true, Int.toNat_zero, beq_self_eq_true, decide_true, decide_false, Bool.not_true, Bool.not_false, ↓y_lookv, y_key1, y_mlook, y_mlookn, y_mres1, y_mres0, ↓y_call, ↓y_adq0, ↓y_adq, ↓y_stepQ_call, ↓y_adq_onT, ↓y_adq_onF, ↓y_adq_onS, drawPost, isCall, isNew, isEff, Option.toList, or_false, false_or, cond_true, cond_false, not_true_eq_false, or_true, true_or, Nat.add_left_cancel_iff, Bool.false_eq_true, ↓y_q0, ↓y_q1, ↓y_q1e, y_qn, isMap, Bool.not_true, Bool.not_false, w1, ↓y_at_old hb, hh, hb, List.length_map, x1, i0, j0, k1, k2, k3, k1', k2', Int.toNat_natCast, f1, f2, f3]
        refine ⟨_, _, pS.draw rfl, (by simp [y_cov0, y_cov1, isNew, isEff, Option.toList]), ?_⟩
        cases hsh : shorterW ⟨qo, qn, qw⟩ ⟨true, 0, []⟩ ⟨false, 0, []⟩ with
        | true =>
          simp (maxSteps := 400000) -implicitDefEqProofs only [↓symPre, symPost, y_condP, y_condG, run, lver, minD, intsD, eqAll, tupD, splice, Nat.zero_add, Nat.add_zero, Nat.zero_mul, Nat.mul_one, Nat.one_mul, Nat.reduceAdd, Nat.reduceSub, Nat.reduceMul, Nat.reduceLT, Nat.reduceLeDiff, Nat.reduceEqDiff, true_and, and_true, true_implies, if_true, if_false, ite_true, reduceIte, ne_eq, not_false_eq_true, reduceCtorEq, forall_const, bne_self_eq_false, Bool.true_eq_false, Bool.false_eq_true, false_implies, and_self, implies_true, Int.toNat_zero, beq_self_eq_true, decide_true, decide_false, Bool.not_true, Bool.not_false, ↓y_lookv, y_key1, y_mlook, y_mlookn, y_mres1, y_mres0, ↓y_call, ↓y_adq0, ↓y_adq, ↓y_stepQ_call, ↓y_adq_onT, ↓y_adq_onF, ↓y_adq_onS, drawPost, isCall, isNew, isEff, Option.toList, or_false, false_or, cond_true, cond_false, not_true_eq_false, or_true, true_or, Nat.add_left_cancel_iff, Bool.false_eq_true, ↓y_q0, ↓y_q1, ↓y_q1e, y_qn, isMap, Bool.not_true, Bool.not_false, w1, ↓y_at_old hb, hh, hb, List.length_map, x1, i0, j0, k1, k2, k3, k1', k2', Int.toNat_natCast, f1, f2, f3, hsh]
          refine adrawq hmix (List.replicate 14 [] ++ [[n + 9]]) ?_
          simp (maxSteps := 400000) -implicitDefEqProofs only [↓symPre, symPost, y_condP, y_condG, run, lver, minD, intsD, eqAll, tupD, splice, Nat.zero_add, Nat.add_zero, Nat.zero_mul, Nat.mul_one, Nat.one_mul, Nat.reduceAdd, Nat.reduceSub, Nat.reduceMul, Nat.reduceLT, Nat.reduceLeDiff, Nat.reduceEqDiff, true_and, and_true, true_implies, if_true, if_false, ite_true, reduceIte, ne_eq, not_false_eq_true, reduceCtorEq, forall_const, bne_self_eq_false, Bool.true_eq_false, Bool.false_eq_true, false_implies, and_self, implies_true, Int.toNat_zero, beq_self_eq_true, decide_true, decide_false, Bool.not_true, Bool.not_false, ↓y_lookv, y_key1, y_mlook, y_mlookn, y_mres1, y_mres0, ↓y_call, ↓y_adq0, ↓y_adq, ↓y_stepQ_call, ↓y_adq_onT, ↓y_adq_onF, ↓y_adq_onS, drawPost, isCall, isNew, isEff, Option.toList, or_false, false_or, cond_true, cond_false, not_true_eq_false, or_true, true_or, Nat.add_left_cancel_iff, Bool.false_eq_true, ↓y_q0, ↓y_q1, ↓y_q1e, y_qn, isMap, Bool.not_true, Bool.not_false, w1, ↓y_at_old hb, hh, hb, List.length_map, x1, i0, j0, k1, k2, k3, k1', k2', Int.toNat_natCast, f1, f2, f3]
          iterate 3 (first | refine ⟨by rintro c (rfl | rfl | rfl) <;> rfl, ?_⟩ | skip)
          rw [if_pos ⟨rfl, hsh⟩] at hS
          subst hS
          exact fin_low hl (low_wD n ⟨qo, qn, qw⟩) ⟨rfl, rfl, rfl⟩
        | false =>
          simp (maxSteps := 400000) -implicitDefEqProofs only [↓symPre, symPost, y_condP, y_condG, run, lver, minD, intsD, eqAll, tupD, splice, Nat.zero_add, Nat.add_zero, Nat.zero_mul, Nat.mul_one, Nat.one_mul, Nat.reduceAdd, Nat.reduceSub, Nat.reduceMul, Nat.reduceLT, Nat.reduceLeDiff, Nat.reduceEqDiff, true_and, and_true, true_implies, if_true, if_false, ite_true, reduceIte, ne_eq, not_false_eq_true, reduceCtorEq, forall_const, bne_self_eq_false, Bool.true_eq_false, Bool.false_eq_true, false_implies, and_self, implies_true, Int.toNat_zero, beq_self_eq_true, decide_true, decide_false, Bool.not_true, Bool.not_false, ↓y_lookv, y_key1, y_mlook, y_mlookn, y_mres1, y_mres0, ↓y_call, ↓y_adq0, ↓y_adq, ↓y_stepQ_call, ↓y_adq_onT, ↓y_adq_onF, ↓y_adq_onS, drawPost, isCall, isNew, isEff, Option.toList, or_false, false_or, cond_true, cond_false, not_true_eq_false, or_true, true_or, Nat.add_left_cancel_iff, Bool.false_eq_true, ↓y_q0, ↓y_q1, ↓y_q1e, y_qn, isMap, Bool.not_true, Bool.not_false, w1, ↓y_at_old hb, hh, hb, List.length_map, x1, i0, j0, k1, k2, k3, k1', k2', Int.toNat_natCast, f1, f2, f3, hsh]
          iterate 3 (first | refine ⟨by rintro c (rfl | rfl | rfl) <;> rfl, ?_⟩ | skip)
          rw [if_neg fun h => by have h2 := h.2; exact absurd (h2.symm.trans hsh) (by simp)] at hS
          subst hS
          exact fin_wk hl (wk_agg3w (.low _ (.bool _)) wk_i .nilsLst) ⟨rfl, rfl, rfl⟩
    · obtain ⟨ab, av, R2, hab, f1, h2b, l2, hP⟩ := hP _ _ p1
      obtain ⟨rb, rv, hrb, f2, h3b⟩ := hP _ _ p2
      have f3 := cells_wD R j p3
      have elen : (cellsF wD R).length = R.length * 3 := cellsF_len wD wD_cells R
      have i1 : j * 3 + 3 ≤ R.length * 3 := by omega
      have g1 : xn.toNat < R1.length := by omega
      have g2 : i < R2.length := by omega
      by_cases h1 : j = i + 1
      · have b1 : ((j : Int) == (i : Int) + 1) = true := by simp; omega
        rw [if_pos h1] at hS hok
        generalize cellW ws l ⟨false, xn⟩ i = c at *
        have pS := pure_shorter1 (R.getD j wd0) c pok hok
        generalize hq : R.getD j wd0 = q at *
        obtain ⟨qo, qn, qw⟩ := q
        obtain ⟨co, cn, cw⟩ := c
        unfold wD wdN wd1 at pS
        simp only at f3
        simp -implicitDefEqProofs only [↓symPre, symPost, y_condP, y_condG, run, lver, minD, intsD, eqAll, tupD, splice, Nat.zero_add, Nat.add_zero, Nat.zero_mul, Nat.mul_one, Nat.one_mul, Nat.reduceAdd, Nat.reduceSub, Nat.reduceMul, Nat.reduceLT, Nat.reduceLeDiff, Nat.reduceEqDiff, true_and, and_true, true_implies, if_true, if_false, ite_true, reduceIte, ne_eq, not_false_eq_true, reduceCtorEq, forall_const, bne_self_eq_false, Bool.true_eq_false, Bool.false_eq_true, false_implies, and_self, implies_true, Int.toNat_zero, beq_self_eq_true, decide_true, decide_false, Bool.not_true, Bool.not_false, ↓y_lookv, y_key1, y_mlook, y_mlookn, y_mres1, y_mres0, ↓y_call, w1, b1, ↓y_at_old hb, hh, hb]
        refine ACalls.none0 rfl (hf _ (by omega)) ?_
        unfold wD
        simp -implicitDefEqProofs only [↓symPre, symPost, y_condP, y_condG, run, lver, minD, intsD, eqAll, tupD, splice, Nat.zero_add, Nat.add_zero, Nat.zero_mul, Nat.mul_one, Nat.one_mul, Nat.reduceAdd, Nat.reduceSub, Nat.reduceMul, Nat.reduceLT, Nat.reduceLeDiff, Nat.reduceEqDiff, true_and, and_true, true_implies, if_true, if_false, ite_true, reduceIte, ne_eq, not_false_eq_true, reduceCtorEq, forall_const, bne_self_eq_false, Bool.true_eq_false, Bool.false_eq_true, false_implies, and_self, implies_true, Int.toNat_zero, beq_self_eq_true, decide_true, decide_false, Bool.not_true, Bool.not_false, ↓y_lookv, y_key1, y_mlook, y_mlookn, y_mres1, y_mres0, ↓y_call]
        refine adrawq hmix [] ?_
        simp (maxSteps := 400000) -implicitDefEqProofs only [↓symPre, symPost, y_condP, y_condG, run, lver, minD, intsD, eqAll, tupD, splice, Nat.zero_add, Nat.add_zero, Nat.zero_mul, Nat.mul_one, Nat.one_mul, Nat.reduceAdd, Nat.reduceSub, Nat.reduceMul, Nat.reduceLT, Nat.reduceLeDiff, Nat.reduceEqDiff, true_and, and_true, true_implies, if_true, if_false, ite_true, reduceIte, ne_eq, not_false_eq_true, reduceCtorEq, forall_const, bne_self_eq_false, Bool.true_eq_false, Bool.false_eq_true, false_implies, and_self, implies_true, Int.toNat_zero, beq_self_eq_true, decide_true, decide_false, Bool.not_true, Bool.not_false, ↓y_lookv, y_key1, y_mlook, y_mlookn, y_mres1, y_mres0, ↓y_call, ↓y_adq0, ↓y_adq, ↓y_stepQ_call, ↓y_adq_onT, ↓y_adq_onF, ↓y_adq_onS, drawPost, isCall, isNew, isEff, Option.toList, or_false, false_or, cond_true, cond_false, not_true_eq_false, or_true, true_or, Nat.add_left_cancel_iff, Bool.false_eq_true, ↓y_q0, ↓y_q1, ↓y_q1e, y_qn, isMap, Bool.not_true, Bool.not_false, w1, ↓y_at_old hb, hh, hb, List.length_map, x1, i0, j0, k1, k2, k3, k1', k2', Int.toNat_natCast, f1, f2, f3, g1, g2, elen, i1, hpb, hab, hrb, ↓y_at_old hpb, ↓y_at_old hab, ↓y_at_old hrb, h1b, h2b, h3b]
        refine ⟨_, _, pS.draw rfl, (by simp [y_cov0, y_cov1, isNew, isEff, Option.toList]), ?_⟩
        cases hsh : shorterW ⟨qo, qn, qw⟩ ⟨true, 0, []⟩ ⟨co, cn, cw⟩ with
        | true =>
          simp (maxSteps := 400000) -implicitDefEqProofs only [↓symPre, symPost, y_condP, y_condG, run, lver, minD, intsD, eqAll, tupD, splice, Nat.zero_add, Nat.add_zero, Nat.zero_mul, Nat.mul_one, Nat.one_mul, Nat.reduceAdd, Nat.reduceSub, Nat.reduceMul, Nat.reduceLT, Nat.reduceLeDiff, Nat.reduceEqDiff, true_and, and_true, true_implies, if_true, if_false, ite_true, reduceIte, ne_eq, not_false_eq_true, reduceCtorEq, forall_const, bne_self_eq_false, Bool.true_eq_false, Bool.false_eq_true, false_implies, and_self, implies_true, Int.toNat_zero, beq_self_eq_true, decide_true, decide_false, Bool.not_true, Bool.not_false, ↓y_lookv, y_key1, y_mlook, y_mlookn, y_mres1, y_mres0, ↓y_call, ↓y_adq0, ↓y_adq, ↓y_stepQ_call, ↓y_adq_onT, ↓y_adq_onF, ↓y_adq_onS, drawPost, isCall, isNew, isEff, Option.toList, or_false, false_or, cond_true, cond_false, not_true_eq_false, or_true, true_or, Nat.add_left_cancel_iff, Bool.false_eq_true, ↓y_q0, ↓y_q1, ↓y_q1e, y_qn, isMap, Bool.not_true, Bool.not_false, w1, ↓y_at_old hb, hh, hb, List.length_map, x1, i0, j0, k1, k2, k3, k1', k2', Int.toNat_natCast, f1, f2, f3, g1, g2, elen, i1, hpb, hab, hrb, ↓y_at_old hpb, ↓y_at_old hab, ↓y_at_old hrb, h1b, h2b, h3b, hsh]
          refine adrawq hmix (List.replicate 14 [] ++ [[n + 9]]) ?_
          simp (maxSteps := 400000) -implicitDefEqProofs only [↓symPre, symPost, y_condP, y_condG, run, lver, minD, intsD, eqAll, tupD, splice, Nat.zero_add, Nat.add_zero, Nat.zero_mul, Nat.mul_one, Nat.one_mul, Nat.reduceAdd, Nat.reduceSub, Nat.reduceMul, Nat.reduceLT, Nat.reduceLeDiff, Nat.reduceEqDiff, true_and, and_true, true_implies, if_true, if_false, ite_true, reduceIte, ne_eq, not_false_eq_true, reduceCtorEq, forall_const, bne_self_eq_false, Bool.true_eq_false, Bool.false_eq_true, false_implies, and_self, implies_true, Int.toNat_zero, beq_self_eq_true, decide_true, decide_false, Bool.not_true, Bool.not_false, ↓y_lookv, y_key1, y_mlook, y_mlookn, y_mres1, y_mres0, ↓y_call, ↓y_adq0, ↓y_adq, ↓y_stepQ_call, ↓y_adq_onT, ↓y_adq_onF, ↓y_adq_onS, drawPost, isCall, isNew, isEff, Option.toList, or_false, false_or, cond_true, cond_false, not_true_eq_false, or_true, true_or, Nat.add_left_cancel_iff, Bool.false_eq_true, ↓y_q0, ↓y_q1, ↓y_q1e, y_qn, isMap, Bool.not_true, Bool.not_false, w1, ↓y_at_old hb, hh, hb, List.length_map, x1, i0, j0, k1, k2, k3, k1', k2', Int.toNat_natCast, f1, f2, f3, g1, g2, elen, i1, hpb, hab, hrb, ↓y_at_old hpb, ↓y_at_old hab, ↓y_at_old hrb, h1b, h2b, h3b]
          iterate 3 (first | refine ⟨by rintro c (rfl | rfl | rfl) <;> rfl, ?_⟩ | skip)
          rw [if_pos ⟨rfl, hsh⟩] at hS
          subst hS
          exact fin_low hl (low_wD n ⟨qo, qn, qw⟩) ⟨rfl, rfl, rfl⟩
        | false =>
          simp (maxSteps := 400000) -implicitDefEqProofs only [↓symPre, symPost, y_condP, y_condG, run, lver, minD, intsD, eqAll, tupD, splice, Nat.zero_add, Nat.add_zero, Nat.zero_mul, Nat.mul_one, Nat.one_mul, Nat.reduceAdd, Nat.reduceSub, Nat.reduceMul, Nat.reduceLT, Nat.reduceLeDiff, Nat.reduceEqDiff, true_and, and_true, true_implies, if_true, if_false, ite_true, reduceIte, ne_eq, not_false_eq_true, reduceCtorEq, forall_const, bne_self_eq_false, Bool.true_eq_false, Bool.false_eq_true, false_implies, and_self, implies_true, Int.toNat_zero, beq_self_eq_true, decide_true, decide_false, Bool.not_true, Bool.not_false, ↓y_lookv, y_key1, y_mlook, y_mlookn, y_mres1, y_mres0, ↓y_call, ↓y_adq0, ↓y_adq, ↓y_stepQ_call, ↓y_adq_onT, ↓y_adq_onF, ↓y_adq_onS, drawPost, isCall, isNew, isEff, Option.toList, or_false, false_or, cond_true, cond_false, not_true_eq_false, or_true, true_or, Nat.add_left_cancel_iff, Bool.false_eq_true, ↓y_q0, ↓y_q1, ↓y_q1e, y_qn, isMap, Bool.not_true, Bool.not_false, w1, ↓y_at_old hb, hh, hb, List.length_map, x1, i0, j0, k1, k2, k3, k1', k2', Int.toNat_natCast, f1, f2, f3, g1, g2, elen, i1, hpb, hab, hrb, ↓y_at_old hpb, ↓y_at_old hab, ↓y_at_old hrb, h1b, h2b, h3b, hsh]
          iterate 3 (first | refine ⟨by rintro c (rfl | rfl | rfl) <;> rfl, ?_⟩ | skip)
          rw [if_neg fun h => by have h2 := h.2; exact absurd (h2.symm.trans hsh) (by simp)] at hS
          subst hS
          exact fin_low hl (low_wD n ⟨co, cn, cw⟩) ⟨rfl, rfl, rfl⟩
      · have b1 : ((j : Int) == (i : Int) + 1) = false := by simp; omega
        rw [if_neg h1] at hS hok
        have pS := pure_shorter10 (R.getD j wd0) pok
        generalize hq : R.getD j wd0 = q at *
        obtain ⟨qo, qn, qw⟩ := q
        unfold wD wdN wd1 wd0 at pS
        simp only at f3
        simp -implicitDefEqProofs only [↓symPre, symPost, y_condP, y_condG, run, lver, minD, intsD, eqAll, tupD, splice, Nat.zero_add, Nat.add_zero, Nat.zero_mul, Nat.mul_one, Nat.one_mul, Nat.reduceAdd, Nat.reduceSub, Nat.reduceMul, Nat.reduceLT, Nat.reduceLeDiff, Nat.reduceEqDiff, true_and, and_true, true_implies, if_true, if_false, ite_true, reduceIte, ne_eq, not_false_eq_true, reduceCtorEq, forall_const, bne_self_eq_false, Bool.true_eq_false, Bool.false_eq_true, false_implies, and_self, implies_true, Int.toNat_zero, beq_self_eq_true, decide_true, decide_false, Bool.not_true, Bool.not_false, ↓y_lookv, y_key1, y_mlook, y_mlookn, y_mres1, y_mres0, ↓y_call, w1, b1, ↓y_at_old hb, hh, hb]
        refine adrawq hmix [] ?_
        simp (maxSteps := 400000) -implicitDefEqProofs only [↓symPre, symPost, y_condP, y_condG, run, lver, minD, intsD, eqAll, tupD, splice, Nat.zero_add, Nat.add_zero, Nat.zero_mul, Nat.mul_one, Nat.one_mul, Nat.reduceAdd, Nat.reduceSub, Nat.reduceMul, Nat.reduceLT, Nat.reduceLeDiff, Nat.reduceEqDiff, true_and, and_true, true_implies, if_true, if_false, ite_true, reduceIte, ne_eq, not_false_eq_true, reduceCtorEq, forall_const, bne_self_eq_false, Bool.true_eq_false, Bool.false_eq_true, false_implies, and_self, implies_true, Int.toNat_zero, beq_self_eq_true, decide_true, decide_false, Bool.not_true, Bool.not_false, ↓y_lookv, y_key1, y_mlook, y_mlookn, y_mres1, y_mres0, ↓y_call, ↓y_adq0, ↓y_adq, ↓y_stepQ_call, ↓y_adq_onT, ↓y_adq_onF, ↓y_adq_onS, drawPost, isCall, isNew, isEff, Option.toList, or_false, false_or, cond_true, cond_false, not_true_eq_false, or_true, true_or, Nat.add_left_cancel_iff, Bool.false_eq_true, ↓y_q0, ↓y_q1, ↓y_q1e, y_qn, isMap, Bool.not_true, Bool.not_false, w1, ↓y_at_old hb, hh, hb, List.length_map, x1, i0, j0, k1, k2, k3, k1', k2', Int.toNat_natCast, f1, f2, f3, g1, g2, elen, i1, hpb, hab, hrb, ↓y_at_old hpb, ↓y_at_old hab, ↓y_at_old hrb, h1b, h2b, h3b]
        refine ⟨_, _, pS.draw rfl, (by simp [y_cov0, y_cov1, isNew, isEff, Option.toList]), ?_⟩
        cases hsh : shorterW ⟨qo, qn, qw⟩ ⟨true, 0, []⟩ ⟨false, 0, []⟩ with
        | true =>
          simp (maxSteps := 400000) -implicitDefEqProofs only [↓symPre, symPost, y_condP, y_condG, run, lver, minD, intsD, eqAll, tupD, splice, Nat.zero_add, Nat.add_zero, Nat.zero_mul, Nat.mul_one, Nat.one_mul, Nat.reduceAdd, Nat.reduceSub, Nat.reduceMul, Nat.reduceLT, Nat.reduceLeDiff, Nat.reduceEqDiff, true_and, and_true, true_implies, if_true, if_false, ite_true, reduceIte, ne_eq, not_false_eq_true, reduceCtorEq, forall_const, bne_self_eq_false, Bool.true_eq_false, Bool.false_eq_true, false_implies, and_self, implies_true, Int.toNat_zero, beq_self_eq_true, decide_true, decide_false, Bool.not_true, Bool.not_false, ↓y_lookv, y_key1, y_mlook, y_mlookn, y_mres1, y_mres0, ↓y_call, ↓y_adq0, ↓y_adq, ↓y_stepQ_call, ↓y_adq_onT, ↓y_adq_onF, ↓y_adq_onS, drawPost, isCall, isNew, isEff, Option.toList, or_false, false_or, cond_true, cond_false, not_true_eq_false, or_true, true_or, Nat.add_left_cancel_iff, Bool.false_eq_true, ↓y_q0, ↓y_q1, ↓y_q1e, y_qn, isMap, Bool.not_true, Bool.not_false, w1, ↓y_at_old hb, hh, hb, List.length_map, x1, i0, j0, k1, k2, k3, k1', k2', Int.toNat_natCast, f1, f2, f3, g1, g2, elen, i1, hpb, hab, hrb, ↓y_at_old hpb, ↓y_at_old hab, ↓y_at_old hrb, h1b, h2b, h3b, hsh]
          refine adrawq hmix (List.replicate 14 [] ++ [[n + 9]]) ?_
          simp (maxSteps := 400000) -implicitDefEqProofs only [↓symPre, symPost, y_condP, y_condG, run, lver, minD, intsD, eqAll, tupD, splice, Nat.zero_add, Nat.add_zero, Nat.zero_mul, Nat.mul_one, Nat.one_mul, Nat.reduceAdd, Nat.reduceSub, Nat.reduceMul, Nat.reduceLT, Nat.reduceLeDiff, Nat.reduceEqDiff, true_and, and_true, true_implies, if_true, if_false, ite_true, reduceIte, ne_eq, not_false_eq_true, reduceCtorEq, forall_const, bne_self_eq_false, Bool.true_eq_false, Bool.false_eq_true, false_implies, and_self, implies_true, Int.toNat_zero, beq_self_eq_true, decide_true, decide_false, Bool.not_true, Bool.not_false, ↓y_lookv, y_key1, y_mlook, y_mlookn, y_mres1, y_mres0, ↓y_call, ↓y_adq0, ↓y_adq, ↓y_stepQ_call, ↓y_adq_onT, ↓y_adq_onF, ↓y_adq_onS, drawPost, isCall, isNew, isEff, Option.toList, or_false, false_or, cond_true, cond_false, not_true_eq_false, or_true, true_or, Nat.add_left_cancel_iff, Bool.false_eq_true, ↓y_q0, ↓y_q1, ↓y_q1e, y_qn, isMap, Bool.not_true, Bool.not_false, w1, ↓y_at_old hb, hh, hb, List.length_map, x1, i0, j0, k1, k2, k3, k1', k2', Int.toNat_natCast, f1, f2, f3, g1, g2, elen, i1, hpb, hab, hrb, ↓y_at_old hpb, ↓y_at_old hab, ↓y_at_old hrb, h1b, h2b, h3b]
          iterate 3 (first | refine ⟨by rintro c (rfl | rfl | rfl) <;> rfl, ?_⟩ | skip)
          rw [if_pos ⟨rfl, hsh⟩] at hS
          subst hS
          exact fin_low hl (low_wD n ⟨qo, qn, qw⟩) ⟨rfl, rfl, rfl⟩
        | false =>
          simp (maxSteps := 400000) -implicitDefEqProofs only [↓symPre, symPost, y_condP, y_condG, run, lver, minD, intsD, eqAll, tupD, splice, Nat.zero_add, Nat.add_zero, Nat.zero_mul, Nat.mul_one, Nat.one_mul, Nat.reduceAdd, Nat.reduceSub, Nat.reduceMul, Nat.reduceLT, Nat.reduceLeDiff, Nat.reduceEqDiff, true_and, and_true, true_implies, if_true, if_false, ite_true, reduceIte, ne_eq, not_false_eq_true, reduceCtorEq, forall_const, bne_self_eq_false, Bool.true_eq_false, Bool.false_eq_true, false_implies, and_self, implies_true, Int.toNat_zero, beq_self_eq_true, decide_true, decide_false, Bool.not_true, Bool.not_false, ↓y_lookv, y_key1, y_mlook, y_mlookn, y_mres1, y_mres0, ↓y_call, ↓y_adq0, ↓y_adq, ↓y_stepQ_call, ↓y_adq_onT, ↓y_adq_onF, ↓y_adq_onS, drawPost, isCall, isNew, isEff, Option.toList, or_false, false_or, cond_true, cond_false, not_true_eq_false, or_true, true_or, Nat.add_left_cancel_iff, Bool.false_eq_true, ↓y_q0, ↓y_q1, ↓y_q1e, y_qn, isMap, Bool.not_true, Bool.not_false, w1, ↓y_at_old hb, hh, hb, List.length_map, x1, i0, j0, k1, k2, k3, k1', k2', Int.toNat_natCast, f1, f2, f3, g1, g2, elen, i1, hpb, hab, hrb, ↓y_at_old hpb, ↓y_at_old hab, ↓y_at_old hrb, h1b, h2b, h3b, hsh]
          iterate 3 (first | refine ⟨by rintro c (rfl | rfl | rfl) <;> rfl, ?_⟩ | skip)
          rw [if_neg fun h => by have h2 := h.2; exact absurd (h2.symm.trans hsh) (by simp)] at hS
          subst hS
          exact fin_wk hl (wk_agg3w (.low _ (.bool _)) wk_i .nilsLst) ⟨rfl, rfl, rfl⟩

end Abs
end Go.Proofs.Ytokdeeagghhliaa

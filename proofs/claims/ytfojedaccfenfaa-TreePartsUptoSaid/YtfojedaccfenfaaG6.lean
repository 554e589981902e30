/- TreeOrderTotal. -/
import Derived.Test.YtfojedaccfenfaaG5
import Derived.Test.YtfojedaccfenfaaE8
namespace Go.Proofs.Ytfojedaccfenfaa
namespace Abs
set_option linter.unusedVariables false
set_option linter.unusedSimpArgs false
set_option maxRecDepth 20000

theorem pure_two4 : Pure prog F_parlkeep4_two [] (treeD twoT) := by
  intro n h
  refine K_parlkeep4_two.calls fun hl => ?_
  unfold C_parlkeep4_two
  simp -implicitDefEqProofs only [↓symPre, symPost, y_condP, y_condG, run, lver, minD, intsD, eqAll, tupD, splice, Nat.zero_add, Nat.add_zero, Nat.zero_mul, Nat.mul_one, Nat.one_mul, Nat.reduceAdd, Nat.reduceSub, Nat.reduceMul, Nat.reduceLT, Nat.reduceLeDiff, Nat.reduceEqDiff, true_and, and_true, true_implies, if_true, if_false, ite_true, reduceIte, ne_eq, not_false_eq_true, reduceCtorEq, forall_const, bne_self_eq_false, Bool.true_eq_false, Bool.false_eq_true, false_implies, and_self, implies_true, Int.toNat_zero, beq_self_eq_true, decide_true, decide_false, Bool.not_true, Bool.not_false, ↓y_call, List.length_append]
  refine fin_wk (d := treeD twoT) hl ?_ ⟨rfl, rfl, rfl⟩
  rw [treeD_two]
  have hleaf : ∀ {X : Wx} (j : Nat) (e : D), (D.agg [.int .i64 (-1), .int .i64 0, .lst []]).cells[j]? = some e → Wk X (nth [.int .i64 (-1), .int .i64 0, .nils] j) e := by
    intro X j e he
    rcases j with _ | _ | _ | j
    · simp [D.cells] at he; subst he; exact .low _ (.int ..)
    · simp [D.cells] at he; subst he; exact .low _ (.int ..)
    · simp [D.cells] at he; subst he; exact .nilsLst
    · simp [D.cells] at he
  refine wk_agg3 wk_i wk_i ?_
  refine .frz 3 7 1 0 2 _ _ rfl (by simp) rfl (Nat.le_of_ble_eq_true rfl) (by simp [D.cells]) fun i d hd j e he => ?_
  rcases i with _ | _ | i
  · simp at hd; subst hd
    rcases j with _ | _ | _ | j
    · simp [D.cells] at he; subst he; exact .low _ (.int ..)
    · simp [D.cells] at he; subst he; exact .low _ (.int ..)
    · simp [D.cells] at he; subst he
      refine .frz 3 4 1 0 1 _ _ rfl (by simp) rfl (Nat.le_of_ble_eq_true rfl) (by simp [D.cells]) fun i d hd j e he => ?_
      rcases i with _ | i
      · simp at hd; subst hd
        rw [show 0 + 0 * 3 + j = j by omega]
        exact hleaf j e he
      · simp at hd
    · simp [D.cells] at he
  · simp at hd; subst hd
    rcases j with _ | _ | _ | j
    · simp [D.cells] at he; subst he; exact .low _ (.int ..)
    · simp [D.cells] at he; subst he; exact .low _ (.int ..)
    · simp [D.cells] at he; subst he; exact .nilsLst
    · simp [D.cells] at he
  · simp at hd

/-- what parlmake.Tree hands back -/
def MTree (g : Gr) (d : D) : Prop := ∃ (r t : Int) (ks : List Tree) (ok : Bool), d = .tup [.agg [.int .i64 r, .int .i64 t, .lst (ks.map treeD)], .bool ok] ∧ (ok = true → Der g ⟨false, g.start⟩ (.mk r t ks) ∧ size (.mk r t ks) ≤ 60)

theorem mtree_call {g : Gr} (hg : okGr g) {l : List Int} (hlen : l.length < 2 ^ 60) {s : St} {dst : Option Nat} {K : D → Chg → Prop} {N : Nat} {H : Heap} (hH : H = s.hp)
    (hK : ∀ (r t : Int) (ks : List Tree) (ok : Bool), (ok = true → Der g ⟨false, g.start⟩ (.mk r t ks) ∧ size (.mk r t ks) ≤ 60) → K (.tup [.agg [.int .i64 r, .int .i64 t, .lst (ks.map treeD)], .bool ok]) []) :
    ACalls prog F_parlmake_Tree [.agg [.int .i64 g.terms, .int .i64 g.nons, .int .i64 g.start, .lst (g.rules.map ruleD)], iD l] N H (callK s dst K) :=
  (at_TreeM g hg l hlen N H).mono fun d h' x ⟨h1, h2, r, t, ks, ok, h3, h4⟩ => .inl ⟨[], by simp [St.inr], h2, by rw [h1, hH]; rfl, by rw [h3]; exact hK r t ks ok h4⟩

theorem gram_call {l : List Int} (hlen : l.length < 2 ^ 60) {s : St} {dst : Option Nat} {K : D → Chg → Prop} {N : Nat} {H : Heap} (hH : H = s.hp)
    (hK : ∀ g : Gr, okGr g → K (.agg [.int .i64 g.terms, .int .i64 g.nons, .int .i64 g.start, .lst (g.rules.map ruleD)]) []) :
    ACalls prog F_parlmake_Grammar [iD l] N H (callK s dst K) :=
  (at_Grammar l hlen N H).mono fun d h' x ⟨h1, h2, g, h3, h4⟩ => .inl ⟨[], by simp [St.inr], h2, by rw [h1, hH]; rfl, by rw [h4]; exact hK g h3⟩

set_option maxHeartbeats 4000000 in
theorem pure_TreeOrderTotal (l m k p : List Int) (h1 : l.length < 2 ^ 60) (h2 : m.length < 2 ^ 60) (h3 : k.length < 2 ^ 60) (h4 : p.length < 2 ^ 60) : Pure prog F_parlkeep4_TreeOrderTotal [iD l, iD m, iD k, iD p] (.bool true) := by
  intro n h
  have p1 := pure_two4
  have p2 := pure_Compare twoT leafU (by rw [size_two]; omega) (by rw [size_leafU]; omega)
  rw [ord_two, treeD_leafU] at p2
  have hl2 := low_treeD 0 twoT
  rw [treeD_two] at p1 p2 hl2
  refine K_parlkeep4_TreeOrderTotal.calls fun hl => ?_
  unfold C_parlkeep4_TreeOrderTotal
  have hz1 : (((1 : Nat) : Int) != 1) = false := by decide
  simp -implicitDefEqProofs only [↓symPre, symPost, y_condP, y_condG, run, lver, minD, intsD, eqAll, tupD, splice, Nat.zero_add, Nat.add_zero, Nat.zero_mul, Nat.mul_one, Nat.one_mul, Nat.reduceAdd, Nat.reduceSub, Nat.reduceMul, Nat.reduceLT, Nat.reduceLeDiff, Nat.reduceEqDiff, true_and, and_true, true_implies, if_true, if_false, ite_true, reduceIte, ne_eq, not_false_eq_true, reduceCtorEq, forall_const, bne_self_eq_false, Bool.true_eq_false, Bool.false_eq_true, false_implies, and_self, implies_true, Int.toNat_zero, beq_self_eq_true, decide_true, decide_false, Bool.not_true, Bool.not_false, ↓y_call]
  refine p1.call rfl ?_
  simp -implicitDefEqProofs only [↓symPre, symPost, y_condP, y_condG, run, lver, minD, intsD, eqAll, tupD, splice, Nat.zero_add, Nat.add_zero, Nat.zero_mul, Nat.mul_one, Nat.one_mul, Nat.reduceAdd, Nat.reduceSub, Nat.reduceMul, Nat.reduceLT, Nat.reduceLeDiff, Nat.reduceEqDiff, true_and, and_true, true_implies, if_true, if_false, ite_true, reduceIte, ne_eq, not_false_eq_true, reduceCtorEq, forall_const, bne_self_eq_false, Bool.true_eq_false, Bool.false_eq_true, false_implies, and_self, implies_true, Int.toNat_zero, beq_self_eq_true, decide_true, decide_false, Bool.not_true, Bool.not_false, ↓y_call]
  refine p2.callF (.int ..) rfl (y_wkl (.low _ hl2) (y_wkl (wk_agg3 wk_i wk_i .nilsLst) trivial)) ?_
  simp -implicitDefEqProofs only [↓symPre, symPost, y_condP, y_condG, run, lver, minD, intsD, eqAll, tupD, splice, Nat.zero_add, Nat.add_zero, Nat.zero_mul, Nat.mul_one, Nat.one_mul, Nat.reduceAdd, Nat.reduceSub, Nat.reduceMul, Nat.reduceLT, Nat.reduceLeDiff, Nat.reduceEqDiff, true_and, and_true, true_implies, if_true, if_false, ite_true, reduceIte, ne_eq, not_false_eq_true, reduceCtorEq, forall_const, bne_self_eq_false, Bool.true_eq_false, Bool.false_eq_true, false_implies, and_self, implies_true, Int.toNat_zero, beq_self_eq_true, decide_true, decide_false, Bool.not_true, Bool.not_false, ↓y_call, bne_self_eq_false]
  refine gram_call h1 rfl fun g hg => ?_
  simp -implicitDefEqProofs only [↓symPre, symPost, y_condP, y_condG, run, lver, minD, intsD, eqAll, tupD, splice, Nat.zero_add, Nat.add_zero, Nat.zero_mul, Nat.mul_one, Nat.one_mul, Nat.reduceAdd, Nat.reduceSub, Nat.reduceMul, Nat.reduceLT, Nat.reduceLeDiff, Nat.reduceEqDiff, true_and, and_true, true_implies, if_true, if_false, ite_true, reduceIte, ne_eq, not_false_eq_true, reduceCtorEq, forall_const, bne_self_eq_false, Bool.true_eq_false, Bool.false_eq_true, false_implies, and_self, implies_true, Int.toNat_zero, beq_self_eq_true, decide_true, decide_false, Bool.not_true, Bool.not_false, ↓y_call]
  refine mtree_call hg h2 rfl fun ar at' ak aok ha => ?_
  simp -implicitDefEqProofs only [↓symPre, symPost, y_condP, y_condG, run, lver, minD, intsD, eqAll, tupD, splice, Nat.zero_add, Nat.add_zero, Nat.zero_mul, Nat.mul_one, Nat.one_mul, Nat.reduceAdd, Nat.reduceSub, Nat.reduceMul, Nat.reduceLT, Nat.reduceLeDiff, Nat.reduceEqDiff, true_and, and_true, true_implies, if_true, if_false, ite_true, reduceIte, ne_eq, not_false_eq_true, reduceCtorEq, forall_const, bne_self_eq_false, Bool.true_eq_false, Bool.false_eq_true, false_implies, and_self, implies_true, Int.toNat_zero, beq_self_eq_true, decide_true, decide_false, Bool.not_true, Bool.not_false, ↓y_call]
  refine mtree_call hg h3 rfl fun br bt bk bok hb => ?_
  simp -implicitDefEqProofs only [↓symPre, symPost, y_condP, y_condG, run, lver, minD, intsD, eqAll, tupD, splice, Nat.zero_add, Nat.add_zero, Nat.zero_mul, Nat.mul_one, Nat.one_mul, Nat.reduceAdd, Nat.reduceSub, Nat.reduceMul, Nat.reduceLT, Nat.reduceLeDiff, Nat.reduceEqDiff, true_and, and_true, true_implies, if_true, if_false, ite_true, reduceIte, ne_eq, not_false_eq_true, reduceCtorEq, forall_const, bne_self_eq_false, Bool.true_eq_false, Bool.false_eq_true, false_implies, and_self, implies_true, Int.toNat_zero, beq_self_eq_true, decide_true, decide_false, Bool.not_true, Bool.not_false, ↓y_call]
  refine mtree_call hg h4 rfl fun cr ct ck cok hc => ?_
  by_cases c1 : aok = true
  rotate_left
  · have c1 : aok = false := by simpa using c1
    subst c1
    simp -implicitDefEqProofs only [↓symPre, symPost, y_condP, y_condG, run, lver, minD, intsD, eqAll, tupD, splice, Nat.zero_add, Nat.add_zero, Nat.zero_mul, Nat.mul_one, Nat.one_mul, Nat.reduceAdd, Nat.reduceSub, Nat.reduceMul, Nat.reduceLT, Nat.reduceLeDiff, Nat.reduceEqDiff, true_and, and_true, true_implies, if_true, if_false, ite_true, reduceIte, ne_eq, not_false_eq_true, reduceCtorEq, forall_const, bne_self_eq_false, Bool.true_eq_false, Bool.false_eq_true, false_implies, and_self, implies_true, Int.toNat_zero, beq_self_eq_true, decide_true, decide_false, Bool.not_true, Bool.not_false, ↓y_call]
    exact fin_bool hl rfl
  by_cases c2 : bok = true
  rotate_left
  · have c2 : bok = false := by simpa using c2
    subst c1; subst c2
    simp -implicitDefEqProofs only [↓symPre, symPost, y_condP, y_condG, run, lver, minD, intsD, eqAll, tupD, splice, Nat.zero_add, Nat.add_zero, Nat.zero_mul, Nat.mul_one, Nat.one_mul, Nat.reduceAdd, Nat.reduceSub, Nat.reduceMul, Nat.reduceLT, Nat.reduceLeDiff, Nat.reduceEqDiff, true_and, and_true, true_implies, if_true, if_false, ite_true, reduceIte, ne_eq, not_false_eq_true, reduceCtorEq, forall_const, bne_self_eq_false, Bool.true_eq_false, Bool.false_eq_true, false_implies, and_self, implies_true, Int.toNat_zero, beq_self_eq_true, decide_true, decide_false, Bool.not_true, Bool.not_false, ↓y_call]
    exact fin_bool hl rfl
  by_cases c3 : cok = true
  rotate_left
  · have c3 : cok = false := by simpa using c3
    subst c1; subst c2; subst c3
    simp -implicitDefEqProofs only [↓symPre, symPost, y_condP, y_condG, run, lver, minD, intsD, eqAll, tupD, splice, Nat.zero_add, Nat.add_zero, Nat.zero_mul, Nat.mul_one, Nat.one_mul, Nat.reduceAdd, Nat.reduceSub, Nat.reduceMul, Nat.reduceLT, Nat.reduceLeDiff, Nat.reduceEqDiff, true_and, and_true, true_implies, if_true, if_false, ite_true, reduceIte, ne_eq, not_false_eq_true, reduceCtorEq, forall_const, bne_self_eq_false, Bool.true_eq_false, Bool.false_eq_true, false_implies, and_self, implies_true, Int.toNat_zero, beq_self_eq_true, decide_true, decide_false, Bool.not_true, Bool.not_false, ↓y_call]
    exact fin_bool hl rfl
  subst c1; subst c2; subst c3
  obtain ⟨da, sa⟩ := ha rfl
  obtain ⟨db, sb⟩ := hb rfl
  obtain ⟨dc, sc⟩ := hc rfl
  have hf := full_der da
  have qab := pure_Compare (.mk ar at' ak) (.mk br bt bk) (by omega) (by omega)
  have qbc := pure_Compare (.mk br bt bk) (.mk cr ct ck) (by omega) (by omega)
  have qac := pure_Compare (.mk ar at' ak) (.mk cr ct ck) (by omega) (by omega)
  have qba := pure_Compare (.mk br bt bk) (.mk ar at' ak) (by omega) (by omega)
  have qs := pure_same (.mk ar at' ak) (by omega) (.mk br bt bk)
  rw [ordT_neg] at qba
  rw [← der_ord da db] at qs
  have htr := @ordT_trans (.mk ar at' ak) (.mk br bt bk) (.mk cr ct ck)
  have hr := ordT_range (.mk ar at' ak) (.mk br bt bk)
  generalize ordT (.mk ar at' ak) (.mk br bt bk) = o1 at *
  generalize ordT (.mk br bt bk) (.mk cr ct ck) = o2 at *
  generalize ordT (.mk ar at' ak) (.mk cr ct ck) = o3 at *
  simp only [treeD_mk] at qab qbc qac qba qs
  clear ha hb hc hf da db dc sa sb sc
  have hbt : (true != false) = true := rfl
  have w1 : IntKind.i64.wrap (0 - -o1) = o1 := by rw [IntWalk.i64_in _ (by omega)]; omega
  simp -implicitDefEqProofs only [↓symPre, symPost, y_condP, y_condG, run, lver, minD, intsD, eqAll, tupD, splice, Nat.zero_add, Nat.add_zero, Nat.zero_mul, Nat.mul_one, Nat.one_mul, Nat.reduceAdd, Nat.reduceSub, Nat.reduceMul, Nat.reduceLT, Nat.reduceLeDiff, Nat.reduceEqDiff, true_and, and_true, true_implies, if_true, if_false, ite_true, reduceIte, ne_eq, not_false_eq_true, reduceCtorEq, forall_const, bne_self_eq_false, Bool.true_eq_false, Bool.false_eq_true, false_implies, and_self, implies_true, Int.toNat_zero, beq_self_eq_true, decide_true, decide_false, Bool.not_true, Bool.not_false, ↓y_call]
  refine adrawq hmix [] ?_
  simp (maxSteps := 400000) -implicitDefEqProofs only [↓symPre, symPost, y_condP, y_condG, run, lver, minD, intsD, eqAll, tupD, splice, Nat.zero_add, Nat.add_zero, Nat.zero_mul, Nat.mul_one, Nat.one_mul, Nat.reduceAdd, Nat.reduceSub, Nat.reduceMul, Nat.reduceLT, Nat.reduceLeDiff, Nat.reduceEqDiff, true_and, and_true, true_implies, if_true, if_false, ite_true, reduceIte, ne_eq, not_false_eq_true, reduceCtorEq, forall_const, bne_self_eq_false, Bool.true_eq_false, Bool.false_eq_true, false_implies, and_self, implies_true, Int.toNat_zero, beq_self_eq_true, decide_true, decide_false, Bool.not_true, Bool.not_false, ↓y_call, ↓drawPre, drawPost, isCall, isNew, isEff, Option.toList, or_false, false_or, cond_true, cond_false, not_true_eq_false, or_true, true_or, Nat.add_left_cancel_iff, Bool.false_eq_true]
  refine ⟨_, _, qab.draw rfl, (by simp [y_cov0, y_cov1, isNew, isEff, Option.toList]), ?_⟩
  simp (maxSteps := 400000) -implicitDefEqProofs only [↓symPre, symPost, y_condP, y_condG, run, lver, minD, intsD, eqAll, tupD, splice, Nat.zero_add, Nat.add_zero, Nat.zero_mul, Nat.mul_one, Nat.one_mul, Nat.reduceAdd, Nat.reduceSub, Nat.reduceMul, Nat.reduceLT, Nat.reduceLeDiff, Nat.reduceEqDiff, true_and, and_true, true_implies, if_true, if_false, ite_true, reduceIte, ne_eq, not_false_eq_true, reduceCtorEq, forall_const, bne_self_eq_false, Bool.true_eq_false, Bool.false_eq_true, false_implies, and_self, implies_true, Int.toNat_zero, beq_self_eq_true, decide_true, decide_false, Bool.not_true, Bool.not_false, ↓y_call, ↓drawPre, drawPost, isCall, isNew, isEff, Option.toList, or_false, false_or, cond_true, cond_false, not_true_eq_false, or_true, true_or, Nat.add_left_cancel_iff, Bool.false_eq_true]
  refine ⟨_, _, qbc.draw rfl, (by simp [y_cov0, y_cov1, isNew, isEff, Option.toList]), ?_⟩
  simp (maxSteps := 400000) -implicitDefEqProofs only [↓symPre, symPost, y_condP, y_condG, run, lver, minD, intsD, eqAll, tupD, splice, Nat.zero_add, Nat.add_zero, Nat.zero_mul, Nat.mul_one, Nat.one_mul, Nat.reduceAdd, Nat.reduceSub, Nat.reduceMul, Nat.reduceLT, Nat.reduceLeDiff, Nat.reduceEqDiff, true_and, and_true, true_implies, if_true, if_false, ite_true, reduceIte, ne_eq, not_false_eq_true, reduceCtorEq, forall_const, bne_self_eq_false, Bool.true_eq_false, Bool.false_eq_true, false_implies, and_self, implies_true, Int.toNat_zero, beq_self_eq_true, decide_true, decide_false, Bool.not_true, Bool.not_false, ↓y_call, ↓drawPre, drawPost, isCall, isNew, isEff, Option.toList, or_false, false_or, cond_true, cond_false, not_true_eq_false, or_true, true_or, Nat.add_left_cancel_iff, Bool.false_eq_true]
  refine ⟨_, _, qac.draw rfl, (by simp [y_cov0, y_cov1, isNew, isEff, Option.toList]), ?_⟩
  simp (maxSteps := 400000) -implicitDefEqProofs only [↓symPre, symPost, y_condP, y_condG, run, lver, minD, intsD, eqAll, tupD, splice, Nat.zero_add, Nat.add_zero, Nat.zero_mul, Nat.mul_one, Nat.one_mul, Nat.reduceAdd, Nat.reduceSub, Nat.reduceMul, Nat.reduceLT, Nat.reduceLeDiff, Nat.reduceEqDiff, true_and, and_true, true_implies, if_true, if_false, ite_true, reduceIte, ne_eq, not_false_eq_true, reduceCtorEq, forall_const, bne_self_eq_false, Bool.true_eq_false, Bool.false_eq_true, false_implies, and_self, implies_true, Int.toNat_zero, beq_self_eq_true, decide_true, decide_false, Bool.not_true, Bool.not_false, ↓y_call, ↓drawPre, drawPost, isCall, isNew, isEff, Option.toList, or_false, false_or, cond_true, cond_false, not_true_eq_false, or_true, true_or, Nat.add_left_cancel_iff, Bool.false_eq_true]
  refine qba.call rfl ?_
  simp -implicitDefEqProofs only [↓symPre, symPost, y_condP, y_condG, run, lver, minD, intsD, eqAll, tupD, splice, Nat.zero_add, Nat.add_zero, Nat.zero_mul, Nat.mul_one, Nat.one_mul, Nat.reduceAdd, Nat.reduceSub, Nat.reduceMul, Nat.reduceLT, Nat.reduceLeDiff, Nat.reduceEqDiff, true_and, and_true, true_implies, if_true, if_false, ite_true, reduceIte, ne_eq, not_false_eq_true, reduceCtorEq, forall_const, bne_self_eq_false, Bool.true_eq_false, Bool.false_eq_true, false_implies, and_self, implies_true, Int.toNat_zero, beq_self_eq_true, decide_true, decide_false, Bool.not_true, Bool.not_false, ↓y_call, w1]
  refine qs.call rfl ?_
  by_cases t1 : o1 > 0
  · have g1 : decide (o1 > 0) = true := by simp [t1]
    simp -implicitDefEqProofs only [↓symPre, symPost, y_condP, y_condG, run, lver, minD, intsD, eqAll, tupD, splice, Nat.zero_add, Nat.add_zero, Nat.zero_mul, Nat.mul_one, Nat.one_mul, Nat.reduceAdd, Nat.reduceSub, Nat.reduceMul, Nat.reduceLT, Nat.reduceLeDiff, Nat.reduceEqDiff, true_and, and_true, true_implies, if_true, if_false, ite_true, reduceIte, ne_eq, not_false_eq_true, reduceCtorEq, forall_const, bne_self_eq_false, Bool.true_eq_false, Bool.false_eq_true, false_implies, and_self, implies_true, Int.toNat_zero, beq_self_eq_true, decide_true, decide_false, Bool.not_true, Bool.not_false, ↓y_call, g1, hbt]
    exact fin_bool hl rfl
  by_cases t2 : o2 > 0
  · have g1 : decide (o1 > 0) = false := by simp [t1]
    have g2 : decide (o2 > 0) = true := by simp [t2]
    simp -implicitDefEqProofs only [↓symPre, symPost, y_condP, y_condG, run, lver, minD, intsD, eqAll, tupD, splice, Nat.zero_add, Nat.add_zero, Nat.zero_mul, Nat.mul_one, Nat.one_mul, Nat.reduceAdd, Nat.reduceSub, Nat.reduceMul, Nat.reduceLT, Nat.reduceLeDiff, Nat.reduceEqDiff, true_and, and_true, true_implies, if_true, if_false, ite_true, reduceIte, ne_eq, not_false_eq_true, reduceCtorEq, forall_const, bne_self_eq_false, Bool.true_eq_false, Bool.false_eq_true, false_implies, and_self, implies_true, Int.toNat_zero, beq_self_eq_true, decide_true, decide_false, Bool.not_true, Bool.not_false, ↓y_call, g1, g2, hbt]
    exact fin_bool hl rfl
  have g1 : decide (o1 > 0) = false := by simp [t1]
  have g2 : decide (o2 > 0) = false := by simp [t2]
  have g3 : decide (o3 ≤ 0) = true := by simp [htr (by omega) (by omega)]
  simp -implicitDefEqProofs only [↓symPre, symPost, y_condP, y_condG, run, lver, minD, intsD, eqAll, tupD, splice, Nat.zero_add, Nat.add_zero, Nat.zero_mul, Nat.mul_one, Nat.one_mul, Nat.reduceAdd, Nat.reduceSub, Nat.reduceMul, Nat.reduceLT, Nat.reduceLeDiff, Nat.reduceEqDiff, true_and, and_true, true_implies, if_true, if_false, ite_true, reduceIte, ne_eq, not_false_eq_true, reduceCtorEq, forall_const, bne_self_eq_false, Bool.true_eq_false, Bool.false_eq_true, false_implies, and_self, implies_true, Int.toNat_zero, beq_self_eq_true, decide_true, decide_false, Bool.not_true, Bool.not_false, ↓y_call, g1, g2, g3, hbt]
  exact fin_bool hl rfl

end Abs
end Go.Proofs.Ytfojedaccfenfaa

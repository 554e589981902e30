/- RepairAligns. -/
import Derived.Test.YtfojedaccfenfaaM4
import Derived.Test.YtfojedaccfenfaaM5
import Derived.Test.YtfojedaccfenfaaM6
import Derived.Test.YtfojedaccfenfaaK6
namespace Go.Proofs.Ytfojedaccfenfaa
namespace Abs
set_option linter.unusedVariables false
set_option linter.unusedSimpArgs false
set_option maxRecDepth 20000

theorem of_callG {q : Co} {w v : List Int} {i j : Nat} {n : Nat} {sl : List D} {h : Heap} {lc : List Blk} {bm bw bc bv bo bM : Nat} (hc : OfC q w v i j) {N : Nat} {G : Heap} (H : OfH q w v G N bm bw bc bv bo bM) {dst : Option Nat} {K : D → Chg → Prop}
    (hN : N = n + lc.length) (hG : G = Abs.mrg n h lc) (hK : K (.int .i64 (dR q (w.drop i) (v.drop j))) []) :
    ACalls prog F_parlref4_Weigh_1 [.int .i64 i, .int .i64 j, .ptr bm 1 0, .ptr bw 1 0, .ptr bc 1 0, .ptr bv 1 0, .ptr bo 1 0] N G (callK (St.mk n sl h lc) dst K) := by
  subst hN; subst hG
  exact (hc _ _ bm bw bc bv bo bM H).mono fun d h' x ⟨h1, h2, h3⟩ => .inl ⟨[], by simp [St.inr], h2, by rw [h1]; rfl, by rw [h3]; exact hK⟩
theorem at_aligned' (q : Co) (hq : okCo q 100) (w v : List Int) (hw : w.length ≤ 200) (hv : v.length ≤ 200) {n : Nat} {h : Heap} {bm bw bc bv bo bM : Nat} (H : OfH q w v h n bm bw bc bv bo bM) :
    ACalls prog F_parllaw4_aligned [iD w, iD v, .agg [.int .i64 q.a, .int .i64 q.b, .int .i64 q.c], ofD bm bw bc bv bo] n h fun d h' x => h' = h ∧ x = [] ∧ d = .lst ((alignR q 0 w v).map opeD) := at_aligned q hq w v hw hv H

theorem perf_len (w : List Int) : ∀ (l : List Ope) (i : Nat) (out : List Int), (perfR w l i out).1.length ≤ out.length + l.length
  | [], i, out => by rw [perfR]; simp
  | o :: l, i, out => by
    rw [perfR]
    split
    · refine Nat.le_trans (perf_len w l _ _) ?_
      split
      · simp; omega
      · split <;> simp <;> omega
    · simp

theorem ex_Align : Pure prog F_repair_Align [iD [1, 2], iD [1, 3], coD ⟨5, 5, 7⟩] (.tup [.int .i64 7, .lst ((alignR ⟨5, 5, 7⟩ 0 [1, 2] [1, 3]).map opeD), .int .i64 0]) := by
  have h := pure_Align ⟨5, 5, 7⟩ ⟨by decide, by decide, by decide, by decide, by decide, by decide⟩ [1, 2] [1, 3] (by decide) (by decide)
  have e : dR ⟨5, 5, 7⟩ [1, 2] [1, 3] = 7 := by
    simp only [dR_cons, dR_nil, dR_nil2, min3]; decide
  rw [e] at h
  exact h

set_option maxHeartbeats 8000000 in
theorem ra_big1 (w v : List Int) (q : Co) (l : List Ope) (hw60 : w.length < 2 ^ 60) (hv60 : v.length < 2 ^ 60) (hlen : l.length < 2 ^ 43) (r : Option (List Int)) (X : List Int) (ok : Bool) (hr : runR w l 0 [] = r) (hp : perfR w l 0 [] = (X, ok)) (hbig : ¬ (w.length ≤ 200 ∧ v.length ≤ 200)) (hok1 : ok = true) : Pure prog F_parllaw4_RepairAligns [iD w, iD v, coD q, .lst (l.map opeD)] (.bool true) := by
  intro n h
  have pA := pure_AlignBig q w v hbig
  have pRun := pure_Run w l r hw60 hlen hr
  have pPerf := pure_performed w l (X, ok) hw60 hlen hp
  have er := perf_run w l 0 []
  rw [hp, hr, hok1] at er
  simp only [if_true] at er
  subst er
  subst hok1
  rw [show runD (some X) = .tup [iD X, .int .i64 0] from rfl] at pRun
  have k00 : ([1] : List Int).length = 1 := rfl
  have pA0 := ex_Align
  have z00 : (((0 : Nat) : Int) == 0) = true := rfl
  have z0 : (((0 : Nat) : Int) != 0) = false := rfl
  have hok : X.length < 2 ^ 60 := by have := perf_len w l 0 []; rw [hp] at this; simp at this; omega
  have pE := pure_Equal X X (by omega) (by omega)
  have hE : decide (X = X) = true := by simp
  rw [hE] at pE
  unfold coD at pA pA0  ⊢
  refine K_parllaw4_RepairAligns.callsM 6 fun hl => ?_
  unfold C_parllaw4_RepairAligns
  simp -implicitDefEqProofs only [↓symPre, symPost, y_condP, y_condG, run, lver, minD, intsD, eqAll, tupD, splice, Nat.zero_add, Nat.add_zero, Nat.zero_mul, Nat.mul_one, Nat.one_mul, Nat.reduceAdd, Nat.reduceSub, Nat.reduceMul, Nat.reduceLT, Nat.reduceLeDiff, Nat.reduceEqDiff, true_and, and_true, true_implies, if_true, if_false, ite_true, reduceIte, ne_eq, not_false_eq_true, reduceCtorEq, forall_const, bne_self_eq_false, Bool.true_eq_false, Bool.false_eq_true, false_implies, and_self, implies_true, Int.toNat_zero, beq_self_eq_true, decide_true, decide_false, Bool.not_true, Bool.not_false, ↓y_call]
  refine pA0.callZ [21, 22] rfl rfl (by simp [Con.isOpq]) ⟨fz_locF (D.int .i64) (l := [1, 2]) (fun _ => rfl) (by simp) rfl rfl, fz_locF (D.int .i64) (l := [1, 3]) (fun _ => rfl) (by simp) rfl rfl, .same _, trivial⟩ ?_
  simp -implicitDefEqProofs only [↓symPre, symPost, y_condP, y_condG, run, lver, minD, intsD, eqAll, tupD, splice, Nat.zero_add, Nat.add_zero, Nat.zero_mul, Nat.mul_one, Nat.one_mul, Nat.reduceAdd, Nat.reduceSub, Nat.reduceMul, Nat.reduceLT, Nat.reduceLeDiff, Nat.reduceEqDiff, true_and, and_true, true_implies, if_true, if_false, ite_true, reduceIte, ne_eq, not_false_eq_true, reduceCtorEq, forall_const, bne_self_eq_false, Bool.true_eq_false, Bool.false_eq_true, false_implies, and_self, implies_true, Int.toNat_zero, beq_self_eq_true, decide_true, decide_false, Bool.not_true, Bool.not_false, ↓y_call, bne_self_eq_false]
  refine pA.call rfl ?_
  by_cases g1 : (w.length : Int) > 200
  · simp -implicitDefEqProofs only [↓symPre, symPost, y_condP, y_condG, run, lver, minD, intsD, eqAll, tupD, splice, Nat.zero_add, Nat.add_zero, Nat.zero_mul, Nat.mul_one, Nat.one_mul, Nat.reduceAdd, Nat.reduceSub, Nat.reduceMul, Nat.reduceLT, Nat.reduceLeDiff, Nat.reduceEqDiff, true_and, and_true, true_implies, if_true, if_false, ite_true, reduceIte, ne_eq, not_false_eq_true, reduceCtorEq, forall_const, bne_self_eq_false, Bool.true_eq_false, Bool.false_eq_true, false_implies, and_self, implies_true, Int.toNat_zero, beq_self_eq_true, decide_true, decide_false, Bool.not_true, Bool.not_false, ↓y_call, List.length_map, g1, bne_self_eq_false, List.map_nil, List.length_nil, z0]
    refine pRun.call rfl ?_
    simp -implicitDefEqProofs only [↓symPre, symPost, y_condP, y_condG, run, lver, minD, intsD, eqAll, tupD, splice, Nat.zero_add, Nat.add_zero, Nat.zero_mul, Nat.mul_one, Nat.one_mul, Nat.reduceAdd, Nat.reduceSub, Nat.reduceMul, Nat.reduceLT, Nat.reduceLeDiff, Nat.reduceEqDiff, true_and, and_true, true_implies, if_true, if_false, ite_true, reduceIte, ne_eq, not_false_eq_true, reduceCtorEq, forall_const, bne_self_eq_false, Bool.true_eq_false, Bool.false_eq_true, false_implies, and_self, implies_true, Int.toNat_zero, beq_self_eq_true, decide_true, decide_false, Bool.not_true, Bool.not_false, ↓y_call, Bool.not_true]
    refine pPerf.call rfl ?_
    simp -implicitDefEqProofs only [↓symPre, symPost, y_condP, y_condG, run, lver, minD, intsD, eqAll, tupD, splice, Nat.zero_add, Nat.add_zero, Nat.zero_mul, Nat.mul_one, Nat.one_mul, Nat.reduceAdd, Nat.reduceSub, Nat.reduceMul, Nat.reduceLT, Nat.reduceLeDiff, Nat.reduceEqDiff, true_and, and_true, true_implies, if_true, if_false, ite_true, reduceIte, ne_eq, not_false_eq_true, reduceCtorEq, forall_const, bne_self_eq_false, Bool.true_eq_false, Bool.false_eq_true, false_implies, and_self, implies_true, Int.toNat_zero, beq_self_eq_true, decide_true, decide_false, Bool.not_true, Bool.not_false, ↓y_call, Bool.not_true, beq_self_eq_true]
    refine pE.call rfl ?_
    simp -implicitDefEqProofs only [↓symPre, symPost, y_condP, y_condG, run, lver, minD, intsD, eqAll, tupD, splice, Nat.zero_add, Nat.add_zero, Nat.zero_mul, Nat.mul_one, Nat.one_mul, Nat.reduceAdd, Nat.reduceSub, Nat.reduceMul, Nat.reduceLT, Nat.reduceLeDiff, Nat.reduceEqDiff, true_and, and_true, true_implies, if_true, if_false, ite_true, reduceIte, ne_eq, not_false_eq_true, reduceCtorEq, forall_const, bne_self_eq_false, Bool.true_eq_false, Bool.false_eq_true, false_implies, and_self, implies_true, Int.toNat_zero, beq_self_eq_true, decide_true, decide_false, Bool.not_true, Bool.not_false, ↓y_call]
    exact fin_bool hl rfl
  · have g2 : (v.length : Int) > 200 := by omega
    simp -implicitDefEqProofs only [↓symPre, symPost, y_condP, y_condG, run, lver, minD, intsD, eqAll, tupD, splice, Nat.zero_add, Nat.add_zero, Nat.zero_mul, Nat.mul_one, Nat.one_mul, Nat.reduceAdd, Nat.reduceSub, Nat.reduceMul, Nat.reduceLT, Nat.reduceLeDiff, Nat.reduceEqDiff, true_and, and_true, true_implies, if_true, if_false, ite_true, reduceIte, ne_eq, not_false_eq_true, reduceCtorEq, forall_const, bne_self_eq_false, Bool.true_eq_false, Bool.false_eq_true, false_implies, and_self, implies_true, Int.toNat_zero, beq_self_eq_true, decide_true, decide_false, Bool.not_true, Bool.not_false, ↓y_call, List.length_map, g1, g2, bne_self_eq_false, List.map_nil, List.length_nil, z0]
    refine pRun.call rfl ?_
    simp -implicitDefEqProofs only [↓symPre, symPost, y_condP, y_condG, run, lver, minD, intsD, eqAll, tupD, splice, Nat.zero_add, Nat.add_zero, Nat.zero_mul, Nat.mul_one, Nat.one_mul, Nat.reduceAdd, Nat.reduceSub, Nat.reduceMul, Nat.reduceLT, Nat.reduceLeDiff, Nat.reduceEqDiff, true_and, and_true, true_implies, if_true, if_false, ite_true, reduceIte, ne_eq, not_false_eq_true, reduceCtorEq, forall_const, bne_self_eq_false, Bool.true_eq_false, Bool.false_eq_true, false_implies, and_self, implies_true, Int.toNat_zero, beq_self_eq_true, decide_true, decide_false, Bool.not_true, Bool.not_false, ↓y_call, Bool.not_true]
    refine pPerf.call rfl ?_
    simp -implicitDefEqProofs only [↓symPre, symPost, y_condP, y_condG, run, lver, minD, intsD, eqAll, tupD, splice, Nat.zero_add, Nat.add_zero, Nat.zero_mul, Nat.mul_one, Nat.one_mul, Nat.reduceAdd, Nat.reduceSub, Nat.reduceMul, Nat.reduceLT, Nat.reduceLeDiff, Nat.reduceEqDiff, true_and, and_true, true_implies, if_true, if_false, ite_true, reduceIte, ne_eq, not_false_eq_true, reduceCtorEq, forall_const, bne_self_eq_false, Bool.true_eq_false, Bool.false_eq_true, false_implies, and_self, implies_true, Int.toNat_zero, beq_self_eq_true, decide_true, decide_false, Bool.not_true, Bool.not_false, ↓y_call, Bool.not_true, beq_self_eq_true]
    refine pE.call rfl ?_
    simp -implicitDefEqProofs only [↓symPre, symPost, y_condP, y_condG, run, lver, minD, intsD, eqAll, tupD, splice, Nat.zero_add, Nat.add_zero, Nat.zero_mul, Nat.mul_one, Nat.one_mul, Nat.reduceAdd, Nat.reduceSub, Nat.reduceMul, Nat.reduceLT, Nat.reduceLeDiff, Nat.reduceEqDiff, true_and, and_true, true_implies, if_true, if_false, ite_true, reduceIte, ne_eq, not_false_eq_true, reduceCtorEq, forall_const, bne_self_eq_false, Bool.true_eq_false, Bool.false_eq_true, false_implies, and_self, implies_true, Int.toNat_zero, beq_self_eq_true, decide_true, decide_false, Bool.not_true, Bool.not_false, ↓y_call]
    exact fin_bool hl rfl

set_option maxHeartbeats 8000000 in
theorem ra_bad1 (w v : List Int) (q : Co) (l : List Ope) (hw60 : w.length < 2 ^ 60) (hv60 : v.length < 2 ^ 60) (hlen : l.length < 2 ^ 43) (r : Option (List Int)) (X : List Int) (ok : Bool) (hr : runR w l 0 [] = r) (hp : perfR w l 0 [] = (X, ok)) (hw : w.length ≤ 200) (hv : v.length ≤ 200) (hb : badC q = true) (hok1 : ok = true) : Pure prog F_parllaw4_RepairAligns [iD w, iD v, coD q, .lst (l.map opeD)] (.bool true) := by
  intro n h
  have pA := pure_AlignBad q w v hw hv hb
  have pc := pure_lcosts q
  have pRun := pure_Run w l r hw60 hlen hr
  have pPerf := pure_performed w l (X, ok) hw60 hlen hp
  have er := perf_run w l 0 []
  rw [hp, hr, hok1] at er
  simp only [if_true] at er
  subst er
  subst hok1
  rw [show runD (some X) = .tup [iD X, .int .i64 0] from rfl] at pRun
  have k00 : ([1] : List Int).length = 1 := rfl
  have pA0 := ex_Align
  have z00 : (((0 : Nat) : Int) == 0) = true := rfl
  have z0 : (((0 : Nat) : Int) != 0) = false := rfl
  have hok : X.length < 2 ^ 60 := by have := perf_len w l 0 []; rw [hp] at this; simp at this; omega
  have pE := pure_Equal X X (by omega) (by omega)
  have hE : decide (X = X) = true := by simp
  rw [hE] at pE
  unfold coD at pA pA0 pc ⊢
  refine K_parllaw4_RepairAligns.callsM 6 fun hl => ?_
  unfold C_parllaw4_RepairAligns
  simp -implicitDefEqProofs only [↓symPre, symPost, y_condP, y_condG, run, lver, minD, intsD, eqAll, tupD, splice, Nat.zero_add, Nat.add_zero, Nat.zero_mul, Nat.mul_one, Nat.one_mul, Nat.reduceAdd, Nat.reduceSub, Nat.reduceMul, Nat.reduceLT, Nat.reduceLeDiff, Nat.reduceEqDiff, true_and, and_true, true_implies, if_true, if_false, ite_true, reduceIte, ne_eq, not_false_eq_true, reduceCtorEq, forall_const, bne_self_eq_false, Bool.true_eq_false, Bool.false_eq_true, false_implies, and_self, implies_true, Int.toNat_zero, beq_self_eq_true, decide_true, decide_false, Bool.not_true, Bool.not_false, ↓y_call]
  refine pA0.callZ [21, 22] rfl rfl (by simp [Con.isOpq]) ⟨fz_locF (D.int .i64) (l := [1, 2]) (fun _ => rfl) (by simp) rfl rfl, fz_locF (D.int .i64) (l := [1, 3]) (fun _ => rfl) (by simp) rfl rfl, .same _, trivial⟩ ?_
  simp -implicitDefEqProofs only [↓symPre, symPost, y_condP, y_condG, run, lver, minD, intsD, eqAll, tupD, splice, Nat.zero_add, Nat.add_zero, Nat.zero_mul, Nat.mul_one, Nat.one_mul, Nat.reduceAdd, Nat.reduceSub, Nat.reduceMul, Nat.reduceLT, Nat.reduceLeDiff, Nat.reduceEqDiff, true_and, and_true, true_implies, if_true, if_false, ite_true, reduceIte, ne_eq, not_false_eq_true, reduceCtorEq, forall_const, bne_self_eq_false, Bool.true_eq_false, Bool.false_eq_true, false_implies, and_self, implies_true, Int.toNat_zero, beq_self_eq_true, decide_true, decide_false, Bool.not_true, Bool.not_false, ↓y_call, bne_self_eq_false]
  refine pA.call rfl ?_
  have g1 : ¬ (w.length : Int) > 200 := by omega
  have g2 : ¬ (v.length : Int) > 200 := by omega
  simp -implicitDefEqProofs only [↓symPre, symPost, y_condP, y_condG, run, lver, minD, intsD, eqAll, tupD, splice, Nat.zero_add, Nat.add_zero, Nat.zero_mul, Nat.mul_one, Nat.one_mul, Nat.reduceAdd, Nat.reduceSub, Nat.reduceMul, Nat.reduceLT, Nat.reduceLeDiff, Nat.reduceEqDiff, true_and, and_true, true_implies, if_true, if_false, ite_true, reduceIte, ne_eq, not_false_eq_true, reduceCtorEq, forall_const, bne_self_eq_false, Bool.true_eq_false, Bool.false_eq_true, false_implies, and_self, implies_true, Int.toNat_zero, beq_self_eq_true, decide_true, decide_false, Bool.not_true, Bool.not_false, ↓y_call, List.length_map, g1, g2]
  refine pc.call rfl ?_
  simp -implicitDefEqProofs only [↓symPre, symPost, y_condP, y_condG, run, lver, minD, intsD, eqAll, tupD, splice, Nat.zero_add, Nat.add_zero, Nat.zero_mul, Nat.mul_one, Nat.one_mul, Nat.reduceAdd, Nat.reduceSub, Nat.reduceMul, Nat.reduceLT, Nat.reduceLeDiff, Nat.reduceEqDiff, true_and, and_true, true_implies, if_true, if_false, ite_true, reduceIte, ne_eq, not_false_eq_true, reduceCtorEq, forall_const, bne_self_eq_false, Bool.true_eq_false, Bool.false_eq_true, false_implies, and_self, implies_true, Int.toNat_zero, beq_self_eq_true, decide_true, decide_false, Bool.not_true, Bool.not_false, ↓y_call, hb, Bool.not_true, Bool.not_false, bne_self_eq_false, List.map_nil, List.length_nil, z0]
  refine pRun.call rfl ?_
  simp -implicitDefEqProofs only [↓symPre, symPost, y_condP, y_condG, run, lver, minD, intsD, eqAll, tupD, splice, Nat.zero_add, Nat.add_zero, Nat.zero_mul, Nat.mul_one, Nat.one_mul, Nat.reduceAdd, Nat.reduceSub, Nat.reduceMul, Nat.reduceLT, Nat.reduceLeDiff, Nat.reduceEqDiff, true_and, and_true, true_implies, if_true, if_false, ite_true, reduceIte, ne_eq, not_false_eq_true, reduceCtorEq, forall_const, bne_self_eq_false, Bool.true_eq_false, Bool.false_eq_true, false_implies, and_self, implies_true, Int.toNat_zero, beq_self_eq_true, decide_true, decide_false, Bool.not_true, Bool.not_false, ↓y_call, Bool.not_true]
  refine pPerf.call rfl ?_
  simp -implicitDefEqProofs only [↓symPre, symPost, y_condP, y_condG, run, lver, minD, intsD, eqAll, tupD, splice, Nat.zero_add, Nat.add_zero, Nat.zero_mul, Nat.mul_one, Nat.one_mul, Nat.reduceAdd, Nat.reduceSub, Nat.reduceMul, Nat.reduceLT, Nat.reduceLeDiff, Nat.reduceEqDiff, true_and, and_true, true_implies, if_true, if_false, ite_true, reduceIte, ne_eq, not_false_eq_true, reduceCtorEq, forall_const, bne_self_eq_false, Bool.true_eq_false, Bool.false_eq_true, false_implies, and_self, implies_true, Int.toNat_zero, beq_self_eq_true, decide_true, decide_false, Bool.not_true, Bool.not_false, ↓y_call, Bool.not_true, beq_self_eq_true]
  refine pE.call rfl ?_
  simp -implicitDefEqProofs only [↓symPre, symPost, y_condP, y_condG, run, lver, minD, intsD, eqAll, tupD, splice, Nat.zero_add, Nat.add_zero, Nat.zero_mul, Nat.mul_one, Nat.one_mul, Nat.reduceAdd, Nat.reduceSub, Nat.reduceMul, Nat.reduceLT, Nat.reduceLeDiff, Nat.reduceEqDiff, true_and, and_true, true_implies, if_true, if_false, ite_true, reduceIte, ne_eq, not_false_eq_true, reduceCtorEq, forall_const, bne_self_eq_false, Bool.true_eq_false, Bool.false_eq_true, false_implies, and_self, implies_true, Int.toNat_zero, beq_self_eq_true, decide_true, decide_false, Bool.not_true, Bool.not_false, ↓y_call]
  exact fin_bool hl rfl

set_option maxHeartbeats 8000000 in
theorem ra_good1 (w v : List Int) (q : Co) (l : List Ope) (hw60 : w.length < 2 ^ 60) (hv60 : v.length < 2 ^ 60) (hlen : l.length < 2 ^ 43) (r : Option (List Int)) (X : List Int) (ok : Bool) (hr : runR w l 0 [] = r) (hp : perfR w l 0 [] = (X, ok)) (hw : w.length ≤ 200) (hv : v.length ≤ 200) (hb : badC q = false) (hok1 : ok = true) : Pure prog F_parllaw4_RepairAligns [iD w, iD v, coD q, .lst (l.map opeD)] (.bool true) := by
  intro n h
  have hq := badC_ok.1 hb
  have pA := pure_Align q hq w v hw hv
  have pc := pure_lcosts q
  have pWg := spn_Weigh q w v
  have o00 := at_of q hq w v hw hv _ 0 0 rfl (Nat.zero_le _) (Nat.zero_le _)
  have hal := alignR_len q 0 w v
  have pEO := pure_EqOp (alignR q 0 w v) (alignR q 0 w v) (by omega) (by omega)
  have hEO : decide (alignR q 0 w v = alignR q 0 w v) = true := by simp
  rw [hEO] at pEO
  have pRun := pure_Run w l r hw60 hlen hr
  have pPerf := pure_performed w l (X, ok) hw60 hlen hp
  have er := perf_run w l 0 []
  rw [hp, hr, hok1] at er
  simp only [if_true] at er
  subst er
  subst hok1
  rw [show runD (some X) = .tup [iD X, .int .i64 0] from rfl] at pRun
  have k00 : ([1] : List Int).length = 1 := rfl
  have pA0 := ex_Align
  have z00 : (((0 : Nat) : Int) == 0) = true := rfl
  have z0 : (((0 : Nat) : Int) != 0) = false := rfl
  have hok : X.length < 2 ^ 60 := by have := perf_len w l 0 []; rw [hp] at this; simp at this; omega
  have pE := pure_Equal X X (by omega) (by omega)
  have hE : decide (X = X) = true := by simp
  rw [hE] at pE
  unfold coD at pA pA0 pc pWg ⊢
  refine K_parllaw4_RepairAligns.callsM 6 fun hl => ?_
  unfold C_parllaw4_RepairAligns
  simp -implicitDefEqProofs only [↓symPre, symPost, y_condP, y_condG, run, lver, minD, intsD, eqAll, tupD, splice, Nat.zero_add, Nat.add_zero, Nat.zero_mul, Nat.mul_one, Nat.one_mul, Nat.reduceAdd, Nat.reduceSub, Nat.reduceMul, Nat.reduceLT, Nat.reduceLeDiff, Nat.reduceEqDiff, true_and, and_true, true_implies, if_true, if_false, ite_true, reduceIte, ne_eq, not_false_eq_true, reduceCtorEq, forall_const, bne_self_eq_false, Bool.true_eq_false, Bool.false_eq_true, false_implies, and_self, implies_true, Int.toNat_zero, beq_self_eq_true, decide_true, decide_false, Bool.not_true, Bool.not_false, ↓y_call]
  refine pA0.callZ [21, 22] rfl rfl (by simp [Con.isOpq]) ⟨fz_locF (D.int .i64) (l := [1, 2]) (fun _ => rfl) (by simp) rfl rfl, fz_locF (D.int .i64) (l := [1, 3]) (fun _ => rfl) (by simp) rfl rfl, .same _, trivial⟩ ?_
  simp -implicitDefEqProofs only [↓symPre, symPost, y_condP, y_condG, run, lver, minD, intsD, eqAll, tupD, splice, Nat.zero_add, Nat.add_zero, Nat.zero_mul, Nat.mul_one, Nat.one_mul, Nat.reduceAdd, Nat.reduceSub, Nat.reduceMul, Nat.reduceLT, Nat.reduceLeDiff, Nat.reduceEqDiff, true_and, and_true, true_implies, if_true, if_false, ite_true, reduceIte, ne_eq, not_false_eq_true, reduceCtorEq, forall_const, bne_self_eq_false, Bool.true_eq_false, Bool.false_eq_true, false_implies, and_self, implies_true, Int.toNat_zero, beq_self_eq_true, decide_true, decide_false, Bool.not_true, Bool.not_false, ↓y_call, bne_self_eq_false]
  refine pA.call rfl ?_
  have g1 : ¬ (w.length : Int) > 200 := by omega
  have g2 : ¬ (v.length : Int) > 200 := by omega
  simp -implicitDefEqProofs only [↓symPre, symPost, y_condP, y_condG, run, lver, minD, intsD, eqAll, tupD, splice, Nat.zero_add, Nat.add_zero, Nat.zero_mul, Nat.mul_one, Nat.one_mul, Nat.reduceAdd, Nat.reduceSub, Nat.reduceMul, Nat.reduceLT, Nat.reduceLeDiff, Nat.reduceEqDiff, true_and, and_true, true_implies, if_true, if_false, ite_true, reduceIte, ne_eq, not_false_eq_true, reduceCtorEq, forall_const, bne_self_eq_false, Bool.true_eq_false, Bool.false_eq_true, false_implies, and_self, implies_true, Int.toNat_zero, beq_self_eq_true, decide_true, decide_false, Bool.not_true, Bool.not_false, ↓y_call, List.length_map, g1, g2]
  refine pc.call rfl ?_
  simp -implicitDefEqProofs only [↓symPre, symPost, y_condP, y_condG, run, lver, minD, intsD, eqAll, tupD, splice, Nat.zero_add, Nat.add_zero, Nat.zero_mul, Nat.mul_one, Nat.one_mul, Nat.reduceAdd, Nat.reduceSub, Nat.reduceMul, Nat.reduceLT, Nat.reduceLeDiff, Nat.reduceEqDiff, true_and, and_true, true_implies, if_true, if_false, ite_true, reduceIte, ne_eq, not_false_eq_true, reduceCtorEq, forall_const, bne_self_eq_false, Bool.true_eq_false, Bool.false_eq_true, false_implies, and_self, implies_true, Int.toNat_zero, beq_self_eq_true, decide_true, decide_false, Bool.not_true, Bool.not_false, ↓y_call, hb, Bool.not_true, Bool.not_false]
  refine pWg.call' 127 ?_ ?_ ?_ ?_ ?_
  · rfl
  · simp only [List.length_cons]; omega
  · rfl
  · rfl
  rw [fin_chgAt' (L := 127) rfl (by simp only [List.length_cons]; omega)]
  rw [show ofR (n + 127) = ofD (n + 127 + 3) (n + 127) (n + 127 + 2) (n + 127 + 1) (n + 127 + 4) from rfl]
  simp -implicitDefEqProofs only [↓symPre, symPost, y_condP, y_condG, run, lver, minD, intsD, eqAll, tupD, splice, Nat.zero_add, Nat.add_zero, Nat.zero_mul, Nat.mul_one, Nat.one_mul, Nat.reduceAdd, Nat.reduceSub, Nat.reduceMul, Nat.reduceLT, Nat.reduceLeDiff, Nat.reduceEqDiff, true_and, and_true, true_implies, if_true, if_false, ite_true, reduceIte, ne_eq, not_false_eq_true, reduceCtorEq, forall_const, bne_self_eq_false, Bool.true_eq_false, Bool.false_eq_true, false_implies, and_self, implies_true, Int.toNat_zero, beq_self_eq_true, decide_true, decide_false, Bool.not_true, Bool.not_false, ↓y_call, List.take_succ_cons, List.take_zero, bne_self_eq_false, ↓y_callv]
  refine of_callG o00 (bM := n + 127 + 5) ?_ rfl rfl ?_
  · exact ofH_of (by simp only [List.length_cons, List.length_append, ofB_len]; omega) fun i hi => by rw [Nat.add_assoc, mrg_loc]; rcases i with _ | _ | _ | _ | _ | _ | i <;> first | rfl | omega
  simp -implicitDefEqProofs only [↓symPre, symPost, y_condP, y_condG, run, lver, minD, intsD, eqAll, tupD, splice, Nat.zero_add, Nat.add_zero, Nat.zero_mul, Nat.mul_one, Nat.one_mul, Nat.reduceAdd, Nat.reduceSub, Nat.reduceMul, Nat.reduceLT, Nat.reduceLeDiff, Nat.reduceEqDiff, true_and, and_true, true_implies, if_true, if_false, ite_true, reduceIte, ne_eq, not_false_eq_true, reduceCtorEq, forall_const, bne_self_eq_false, Bool.true_eq_false, Bool.false_eq_true, false_implies, and_self, implies_true, Int.toNat_zero, beq_self_eq_true, decide_true, decide_false, Bool.not_true, Bool.not_false, ↓y_call, List.drop_zero, bne_self_eq_false]
  refine (at_aligned' q hq w v hw hv (bM := n + 127 + 5) ?_).mono fun d h' x ⟨e1, e2, e3⟩ => .inl ⟨[], by simp [St.inr], e2, by rw [e1]; rfl, ?_⟩
  · exact ofH_of (by simp only [List.length_cons, List.length_append, ofB_len]; omega) fun i hi => by rw [Nat.add_assoc, mrg_loc]; rcases i with _ | _ | _ | _ | _ | _ | i <;> first | rfl | omega
  subst e3
  simp -implicitDefEqProofs only [↓symPre, symPost, y_condP, y_condG, run, lver, minD, intsD, eqAll, tupD, splice, Nat.zero_add, Nat.add_zero, Nat.zero_mul, Nat.mul_one, Nat.one_mul, Nat.reduceAdd, Nat.reduceSub, Nat.reduceMul, Nat.reduceLT, Nat.reduceLeDiff, Nat.reduceEqDiff, true_and, and_true, true_implies, if_true, if_false, ite_true, reduceIte, ne_eq, not_false_eq_true, reduceCtorEq, forall_const, bne_self_eq_false, Bool.true_eq_false, Bool.false_eq_true, false_implies, and_self, implies_true, Int.toNat_zero, beq_self_eq_true, decide_true, decide_false, Bool.not_true, Bool.not_false, ↓y_call]
  refine pEO.call rfl ?_
  simp -implicitDefEqProofs only [↓symPre, symPost, y_condP, y_condG, run, lver, minD, intsD, eqAll, tupD, splice, Nat.zero_add, Nat.add_zero, Nat.zero_mul, Nat.mul_one, Nat.one_mul, Nat.reduceAdd, Nat.reduceSub, Nat.reduceMul, Nat.reduceLT, Nat.reduceLeDiff, Nat.reduceEqDiff, true_and, and_true, true_implies, if_true, if_false, ite_true, reduceIte, ne_eq, not_false_eq_true, reduceCtorEq, forall_const, bne_self_eq_false, Bool.true_eq_false, Bool.false_eq_true, false_implies, and_self, implies_true, Int.toNat_zero, beq_self_eq_true, decide_true, decide_false, Bool.not_true, Bool.not_false, ↓y_call, Bool.not_true]
  refine pRun.call rfl ?_
  simp -implicitDefEqProofs only [↓symPre, symPost, y_condP, y_condG, run, lver, minD, intsD, eqAll, tupD, splice, Nat.zero_add, Nat.add_zero, Nat.zero_mul, Nat.mul_one, Nat.one_mul, Nat.reduceAdd, Nat.reduceSub, Nat.reduceMul, Nat.reduceLT, Nat.reduceLeDiff, Nat.reduceEqDiff, true_and, and_true, true_implies, if_true, if_false, ite_true, reduceIte, ne_eq, not_false_eq_true, reduceCtorEq, forall_const, bne_self_eq_false, Bool.true_eq_false, Bool.false_eq_true, false_implies, and_self, implies_true, Int.toNat_zero, beq_self_eq_true, decide_true, decide_false, Bool.not_true, Bool.not_false, ↓y_call, Bool.not_true]
  refine pPerf.call rfl ?_
  simp -implicitDefEqProofs only [↓symPre, symPost, y_condP, y_condG, run, lver, minD, intsD, eqAll, tupD, splice, Nat.zero_add, Nat.add_zero, Nat.zero_mul, Nat.mul_one, Nat.one_mul, Nat.reduceAdd, Nat.reduceSub, Nat.reduceMul, Nat.reduceLT, Nat.reduceLeDiff, Nat.reduceEqDiff, true_and, and_true, true_implies, if_true, if_false, ite_true, reduceIte, ne_eq, not_false_eq_true, reduceCtorEq, forall_const, bne_self_eq_false, Bool.true_eq_false, Bool.false_eq_true, false_implies, and_self, implies_true, Int.toNat_zero, beq_self_eq_true, decide_true, decide_false, Bool.not_true, Bool.not_false, ↓y_call, Bool.not_true, beq_self_eq_true]
  refine pE.call rfl ?_
  simp -implicitDefEqProofs only [↓symPre, symPost, y_condP, y_condG, run, lver, minD, intsD, eqAll, tupD, splice, Nat.zero_add, Nat.add_zero, Nat.zero_mul, Nat.mul_one, Nat.one_mul, Nat.reduceAdd, Nat.reduceSub, Nat.reduceMul, Nat.reduceLT, Nat.reduceLeDiff, Nat.reduceEqDiff, true_and, and_true, true_implies, if_true, if_false, ite_true, reduceIte, ne_eq, not_false_eq_true, reduceCtorEq, forall_const, bne_self_eq_false, Bool.true_eq_false, Bool.false_eq_true, false_implies, and_self, implies_true, Int.toNat_zero, beq_self_eq_true, decide_true, decide_false, Bool.not_true, Bool.not_false, ↓y_call]
  exact fin_bool hl rfl

set_option maxHeartbeats 8000000 in
theorem ra_big0 (w v : List Int) (q : Co) (l : List Ope) (hw60 : w.length < 2 ^ 60) (hv60 : v.length < 2 ^ 60) (hlen : l.length < 2 ^ 43) (r : Option (List Int)) (X : List Int) (ok : Bool) (hr : runR w l 0 [] = r) (hp : perfR w l 0 [] = (X, ok)) (hbig : ¬ (w.length ≤ 200 ∧ v.length ≤ 200)) (hok1 : ok = false) : Pure prog F_parllaw4_RepairAligns [iD w, iD v, coD q, .lst (l.map opeD)] (.bool true) := by
  intro n h
  have pA := pure_AlignBig q w v hbig
  have pRun := pure_Run w l r hw60 hlen hr
  have pPerf := pure_performed w l (X, ok) hw60 hlen hp
  have er := perf_run w l 0 []
  rw [hp, hr, hok1] at er
  simp only [if_false, Bool.false_eq_true] at er
  subst er
  subst hok1
  rw [show runD none = .tup [.lst [], .int .i64 1] from rfl] at pRun
  have k00 : ([1] : List Int).length = 1 := rfl
  have pA0 := ex_Align
  have z00 : (((0 : Nat) : Int) == 0) = true := rfl
  have z0 : (((0 : Nat) : Int) != 0) = false := rfl
  have hok : X.length < 2 ^ 60 := by have := perf_len w l 0 []; rw [hp] at this; simp at this; omega
  have pE := pure_Equal X X (by omega) (by omega)
  have hE : decide (X = X) = true := by simp
  rw [hE] at pE
  unfold coD at pA pA0  ⊢
  refine K_parllaw4_RepairAligns.callsM 6 fun hl => ?_
  unfold C_parllaw4_RepairAligns
  simp -implicitDefEqProofs only [↓symPre, symPost, y_condP, y_condG, run, lver, minD, intsD, eqAll, tupD, splice, Nat.zero_add, Nat.add_zero, Nat.zero_mul, Nat.mul_one, Nat.one_mul, Nat.reduceAdd, Nat.reduceSub, Nat.reduceMul, Nat.reduceLT, Nat.reduceLeDiff, Nat.reduceEqDiff, true_and, and_true, true_implies, if_true, if_false, ite_true, reduceIte, ne_eq, not_false_eq_true, reduceCtorEq, forall_const, bne_self_eq_false, Bool.true_eq_false, Bool.false_eq_true, false_implies, and_self, implies_true, Int.toNat_zero, beq_self_eq_true, decide_true, decide_false, Bool.not_true, Bool.not_false, ↓y_call]
  refine pA0.callZ [21, 22] rfl rfl (by simp [Con.isOpq]) ⟨fz_locF (D.int .i64) (l := [1, 2]) (fun _ => rfl) (by simp) rfl rfl, fz_locF (D.int .i64) (l := [1, 3]) (fun _ => rfl) (by simp) rfl rfl, .same _, trivial⟩ ?_
  simp -implicitDefEqProofs only [↓symPre, symPost, y_condP, y_condG, run, lver, minD, intsD, eqAll, tupD, splice, Nat.zero_add, Nat.add_zero, Nat.zero_mul, Nat.mul_one, Nat.one_mul, Nat.reduceAdd, Nat.reduceSub, Nat.reduceMul, Nat.reduceLT, Nat.reduceLeDiff, Nat.reduceEqDiff, true_and, and_true, true_implies, if_true, if_false, ite_true, reduceIte, ne_eq, not_false_eq_true, reduceCtorEq, forall_const, bne_self_eq_false, Bool.true_eq_false, Bool.false_eq_true, false_implies, and_self, implies_true, Int.toNat_zero, beq_self_eq_true, decide_true, decide_false, Bool.not_true, Bool.not_false, ↓y_call, bne_self_eq_false]
  refine pA.call rfl ?_
  by_cases g1 : (w.length : Int) > 200
  · simp -implicitDefEqProofs only [↓symPre, symPost, y_condP, y_condG, run, lver, minD, intsD, eqAll, tupD, splice, Nat.zero_add, Nat.add_zero, Nat.zero_mul, Nat.mul_one, Nat.one_mul, Nat.reduceAdd, Nat.reduceSub, Nat.reduceMul, Nat.reduceLT, Nat.reduceLeDiff, Nat.reduceEqDiff, true_and, and_true, true_implies, if_true, if_false, ite_true, reduceIte, ne_eq, not_false_eq_true, reduceCtorEq, forall_const, bne_self_eq_false, Bool.true_eq_false, Bool.false_eq_true, false_implies, and_self, implies_true, Int.toNat_zero, beq_self_eq_true, decide_true, decide_false, Bool.not_true, Bool.not_false, ↓y_call, List.length_map, g1, bne_self_eq_false, List.map_nil, List.length_nil, z0]
    refine pRun.call rfl ?_
    simp -implicitDefEqProofs only [↓symPre, symPost, y_condP, y_condG, run, lver, minD, intsD, eqAll, tupD, splice, Nat.zero_add, Nat.add_zero, Nat.zero_mul, Nat.mul_one, Nat.one_mul, Nat.reduceAdd, Nat.reduceSub, Nat.reduceMul, Nat.reduceLT, Nat.reduceLeDiff, Nat.reduceEqDiff, true_and, and_true, true_implies, if_true, if_false, ite_true, reduceIte, ne_eq, not_false_eq_true, reduceCtorEq, forall_const, bne_self_eq_false, Bool.true_eq_false, Bool.false_eq_true, false_implies, and_self, implies_true, Int.toNat_zero, beq_self_eq_true, decide_true, decide_false, Bool.not_true, Bool.not_false, ↓y_call, Bool.not_false]
    refine pPerf.call rfl ?_
    simp -implicitDefEqProofs only [↓symPre, symPost, y_condP, y_condG, run, lver, minD, intsD, eqAll, tupD, splice, Nat.zero_add, Nat.add_zero, Nat.zero_mul, Nat.mul_one, Nat.one_mul, Nat.reduceAdd, Nat.reduceSub, Nat.reduceMul, Nat.reduceLT, Nat.reduceLeDiff, Nat.reduceEqDiff, true_and, and_true, true_implies, if_true, if_false, ite_true, reduceIte, ne_eq, not_false_eq_true, reduceCtorEq, forall_const, bne_self_eq_false, Bool.true_eq_false, Bool.false_eq_true, false_implies, and_self, implies_true, Int.toNat_zero, beq_self_eq_true, decide_true, decide_false, Bool.not_true, Bool.not_false, ↓y_call, Bool.not_false, beq_self_eq_true, List.length_nil, List.map_nil, z00]
    exact fin_bool hl rfl
  · have g2 : (v.length : Int) > 200 := by omega
    simp -implicitDefEqProofs only [↓symPre, symPost, y_condP, y_condG, run, lver, minD, intsD, eqAll, tupD, splice, Nat.zero_add, Nat.add_zero, Nat.zero_mul, Nat.mul_one, Nat.one_mul, Nat.reduceAdd, Nat.reduceSub, Nat.reduceMul, Nat.reduceLT, Nat.reduceLeDiff, Nat.reduceEqDiff, true_and, and_true, true_implies, if_true, if_false, ite_true, reduceIte, ne_eq, not_false_eq_true, reduceCtorEq, forall_const, bne_self_eq_false, Bool.true_eq_false, Bool.false_eq_true, false_implies, and_self, implies_true, Int.toNat_zero, beq_self_eq_true, decide_true, decide_false, Bool.not_true, Bool.not_false, ↓y_call, List.length_map, g1, g2, bne_self_eq_false, List.map_nil, List.length_nil, z0]
    refine pRun.call rfl ?_
    simp -implicitDefEqProofs only [↓symPre, symPost, y_condP, y_condG, run, lver, minD, intsD, eqAll, tupD, splice, Nat.zero_add, Nat.add_zero, Nat.zero_mul, Nat.mul_one, Nat.one_mul, Nat.reduceAdd, Nat.reduceSub, Nat.reduceMul, Nat.reduceLT, Nat.reduceLeDiff, Nat.reduceEqDiff, true_and, and_true, true_implies, if_true, if_false, ite_true, reduceIte, ne_eq, not_false_eq_true, reduceCtorEq, forall_const, bne_self_eq_false, Bool.true_eq_false, Bool.false_eq_true, false_implies, and_self, implies_true, Int.toNat_zero, beq_self_eq_true, decide_true, decide_false, Bool.not_true, Bool.not_false, ↓y_call, Bool.not_false]
    refine pPerf.call rfl ?_
    simp -implicitDefEqProofs only [↓symPre, symPost, y_condP, y_condG, run, lver, minD, intsD, eqAll, tupD, splice, Nat.zero_add, Nat.add_zero, Nat.zero_mul, Nat.mul_one, Nat.one_mul, Nat.reduceAdd, Nat.reduceSub, Nat.reduceMul, Nat.reduceLT, Nat.reduceLeDiff, Nat.reduceEqDiff, true_and, and_true, true_implies, if_true, if_false, ite_true, reduceIte, ne_eq, not_false_eq_true, reduceCtorEq, forall_const, bne_self_eq_false, Bool.true_eq_false, Bool.false_eq_true, false_implies, and_self, implies_true, Int.toNat_zero, beq_self_eq_true, decide_true, decide_false, Bool.not_true, Bool.not_false, ↓y_call, Bool.not_false, beq_self_eq_true, List.length_nil, List.map_nil, z00]
    exact fin_bool hl rfl

set_option maxHeartbeats 8000000 in
theorem ra_bad0 (w v : List Int) (q : Co) (l : List Ope) (hw60 : w.length < 2 ^ 60) (hv60 : v.length < 2 ^ 60) (hlen : l.length < 2 ^ 43) (r : Option (List Int)) (X : List Int) (ok : Bool) (hr : runR w l 0 [] = r) (hp : perfR w l 0 [] = (X, ok)) (hw : w.length ≤ 200) (hv : v.length ≤ 200) (hb : badC q = true) (hok1 : ok = false) : Pure prog F_parllaw4_RepairAligns [iD w, iD v, coD q, .lst (l.map opeD)] (.bool true) := by
  intro n h
  have pA := pure_AlignBad q w v hw hv hb
  have pc := pure_lcosts q
  have pRun := pure_Run w l r hw60 hlen hr
  have pPerf := pure_performed w l (X, ok) hw60 hlen hp
  have er := perf_run w l 0 []
  rw [hp, hr, hok1] at er
  simp only [if_false, Bool.false_eq_true] at er
  subst er
  subst hok1
  rw [show runD none = .tup [.lst [], .int .i64 1] from rfl] at pRun
  have k00 : ([1] : List Int).length = 1 := rfl
  have pA0 := ex_Align
  have z00 : (((0 : Nat) : Int) == 0) = true := rfl
  have z0 : (((0 : Nat) : Int) != 0) = false := rfl
  have hok : X.length < 2 ^ 60 := by have := perf_len w l 0 []; rw [hp] at this; simp at this; omega
  have pE := pure_Equal X X (by omega) (by omega)
  have hE : decide (X = X) = true := by simp
  rw [hE] at pE
  unfold coD at pA pA0 pc ⊢
  refine K_parllaw4_RepairAligns.callsM 6 fun hl => ?_
  unfold C_parllaw4_RepairAligns
  simp -implicitDefEqProofs only [↓symPre, symPost, y_condP, y_condG, run, lver, minD, intsD, eqAll, tupD, splice, Nat.zero_add, Nat.add_zero, Nat.zero_mul, Nat.mul_one, Nat.one_mul, Nat.reduceAdd, Nat.reduceSub, Nat.reduceMul, Nat.reduceLT, Nat.reduceLeDiff, Nat.reduceEqDiff, true_and, and_true, true_implies, if_true, if_false, ite_true, reduceIte, ne_eq, not_false_eq_true, reduceCtorEq, forall_const, bne_self_eq_false, Bool.true_eq_false, Bool.false_eq_true, false_implies, and_self, implies_true, Int.toNat_zero, beq_self_eq_true, decide_true, decide_false, Bool.not_true, Bool.not_false, ↓y_call]
  refine pA0.callZ [21, 22] rfl rfl (by simp [Con.isOpq]) ⟨fz_locF (D.int .i64) (l := [1, 2]) (fun _ => rfl) (by simp) rfl rfl, fz_locF (D.int .i64) (l := [1, 3]) (fun _ => rfl) (by simp) rfl rfl, .same _, trivial⟩ ?_
  simp -implicitDefEqProofs only [↓symPre, symPost, y_condP, y_condG, run, lver, minD, intsD, eqAll, tupD, splice, Nat.zero_add, Nat.add_zero, Nat.zero_mul, Nat.mul_one, Nat.one_mul, Nat.reduceAdd, Nat.reduceSub, Nat.reduceMul, Nat.reduceLT, Nat.reduceLeDiff, Nat.reduceEqDiff, true_and, and_true, true_implies, if_true, if_false, ite_true, reduceIte, ne_eq, not_false_eq_true, reduceCtorEq, forall_const, bne_self_eq_false, Bool.true_eq_false, Bool.false_eq_true, false_implies, and_self, implies_true, Int.toNat_zero, beq_self_eq_true, decide_true, decide_false, Bool.not_true, Bool.not_false, ↓y_call, bne_self_eq_false]
  refine pA.call rfl ?_
  have g1 : ¬ (w.length : Int) > 200 := by omega
  have g2 : ¬ (v.length : Int) > 200 := by omega
  simp -implicitDefEqProofs only [↓symPre, symPost, y_condP, y_condG, run, lver, minD, intsD, eqAll, tupD, splice, Nat.zero_add, Nat.add_zero, Nat.zero_mul, Nat.mul_one, Nat.one_mul, Nat.reduceAdd, Nat.reduceSub, Nat.reduceMul, Nat.reduceLT, Nat.reduceLeDiff, Nat.reduceEqDiff, true_and, and_true, true_implies, if_true, if_false, ite_true, reduceIte, ne_eq, not_false_eq_true, reduceCtorEq, forall_const, bne_self_eq_false, Bool.true_eq_false, Bool.false_eq_true, false_implies, and_self, implies_true, Int.toNat_zero, beq_self_eq_true, decide_true, decide_false, Bool.not_true, Bool.not_false, ↓y_call, List.length_map, g1, g2]
  refine pc.call rfl ?_
  simp -implicitDefEqProofs only [↓symPre, symPost, y_condP, y_condG, run, lver, minD, intsD, eqAll, tupD, splice, Nat.zero_add, Nat.add_zero, Nat.zero_mul, Nat.mul_one, Nat.one_mul, Nat.reduceAdd, Nat.reduceSub, Nat.reduceMul, Nat.reduceLT, Nat.reduceLeDiff, Nat.reduceEqDiff, true_and, and_true, true_implies, if_true, if_false, ite_true, reduceIte, ne_eq, not_false_eq_true, reduceCtorEq, forall_const, bne_self_eq_false, Bool.true_eq_false, Bool.false_eq_true, false_implies, and_self, implies_true, Int.toNat_zero, beq_self_eq_true, decide_true, decide_false, Bool.not_true, Bool.not_false, ↓y_call, hb, Bool.not_true, Bool.not_false, bne_self_eq_false, List.map_nil, List.length_nil, z0]
  refine pRun.call rfl ?_
  simp -implicitDefEqProofs only [↓symPre, symPost, y_condP, y_condG, run, lver, minD, intsD, eqAll, tupD, splice, Nat.zero_add, Nat.add_zero, Nat.zero_mul, Nat.mul_one, Nat.one_mul, Nat.reduceAdd, Nat.reduceSub, Nat.reduceMul, Nat.reduceLT, Nat.reduceLeDiff, Nat.reduceEqDiff, true_and, and_true, true_implies, if_true, if_false, ite_true, reduceIte, ne_eq, not_false_eq_true, reduceCtorEq, forall_const, bne_self_eq_false, Bool.true_eq_false, Bool.false_eq_true, false_implies, and_self, implies_true, Int.toNat_zero, beq_self_eq_true, decide_true, decide_false, Bool.not_true, Bool.not_false, ↓y_call, Bool.not_false]
  refine pPerf.call rfl ?_
  simp -implicitDefEqProofs only [↓symPre, symPost, y_condP, y_condG, run, lver, minD, intsD, eqAll, tupD, splice, Nat.zero_add, Nat.add_zero, Nat.zero_mul, Nat.mul_one, Nat.one_mul, Nat.reduceAdd, Nat.reduceSub, Nat.reduceMul, Nat.reduceLT, Nat.reduceLeDiff, Nat.reduceEqDiff, true_and, and_true, true_implies, if_true, if_false, ite_true, reduceIte, ne_eq, not_false_eq_true, reduceCtorEq, forall_const, bne_self_eq_false, Bool.true_eq_false, Bool.false_eq_true, false_implies, and_self, implies_true, Int.toNat_zero, beq_self_eq_true, decide_true, decide_false, Bool.not_true, Bool.not_false, ↓y_call, Bool.not_false, beq_self_eq_true, List.length_nil, List.map_nil, z00]
  exact fin_bool hl rfl

set_option maxHeartbeats 8000000 in
theorem ra_good0 (w v : List Int) (q : Co) (l : List Ope) (hw60 : w.length < 2 ^ 60) (hv60 : v.length < 2 ^ 60) (hlen : l.length < 2 ^ 43) (r : Option (List Int)) (X : List Int) (ok : Bool) (hr : runR w l 0 [] = r) (hp : perfR w l 0 [] = (X, ok)) (hw : w.length ≤ 200) (hv : v.length ≤ 200) (hb : badC q = false) (hok1 : ok = false) : Pure prog F_parllaw4_RepairAligns [iD w, iD v, coD q, .lst (l.map opeD)] (.bool true) := by
  intro n h
  have hq := badC_ok.1 hb
  have pA := pure_Align q hq w v hw hv
  have pc := pure_lcosts q
  have pWg := spn_Weigh q w v
  have o00 := at_of q hq w v hw hv _ 0 0 rfl (Nat.zero_le _) (Nat.zero_le _)
  have hal := alignR_len q 0 w v
  have pEO := pure_EqOp (alignR q 0 w v) (alignR q 0 w v) (by omega) (by omega)
  have hEO : decide (alignR q 0 w v = alignR q 0 w v) = true := by simp
  rw [hEO] at pEO
  have pRun := pure_Run w l r hw60 hlen hr
  have pPerf := pure_performed w l (X, ok) hw60 hlen hp
  have er := perf_run w l 0 []
  rw [hp, hr, hok1] at er
  simp only [if_false, Bool.false_eq_true] at er
  subst er
  subst hok1
  rw [show runD none = .tup [.lst [], .int .i64 1] from rfl] at pRun
  have k00 : ([1] : List Int).length = 1 := rfl
  have pA0 := ex_Align
  have z00 : (((0 : Nat) : Int) == 0) = true := rfl
  have z0 : (((0 : Nat) : Int) != 0) = false := rfl
  have hok : X.length < 2 ^ 60 := by have := perf_len w l 0 []; rw [hp] at this; simp at this; omega
  have pE := pure_Equal X X (by omega) (by omega)
  have hE : decide (X = X) = true := by simp
  rw [hE] at pE
  unfold coD at pA pA0 pc pWg ⊢
  refine K_parllaw4_RepairAligns.callsM 6 fun hl => ?_
  unfold C_parllaw4_RepairAligns
  simp -implicitDefEqProofs only [↓symPre, symPost, y_condP, y_condG, run, lver, minD, intsD, eqAll, tupD, splice, Nat.zero_add, Nat.add_zero, Nat.zero_mul, Nat.mul_one, Nat.one_mul, Nat.reduceAdd, Nat.reduceSub, Nat.reduceMul, Nat.reduceLT, Nat.reduceLeDiff, Nat.reduceEqDiff, true_and, and_true, true_implies, if_true, if_false, ite_true, reduceIte, ne_eq, not_false_eq_true, reduceCtorEq, forall_const, bne_self_eq_false, Bool.true_eq_false, Bool.false_eq_true, false_implies, and_self, implies_true, Int.toNat_zero, beq_self_eq_true, decide_true, decide_false, Bool.not_true, Bool.not_false, ↓y_call]
  refine pA0.callZ [21, 22] rfl rfl (by simp [Con.isOpq]) ⟨fz_locF (D.int .i64) (l := [1, 2]) (fun _ => rfl) (by simp) rfl rfl, fz_locF (D.int .i64) (l := [1, 3]) (fun _ => rfl) (by simp) rfl rfl, .same _, trivial⟩ ?_
  simp -implicitDefEqProofs only [↓symPre, symPost, y_condP, y_condG, run, lver, minD, intsD, eqAll, tupD, splice, Nat.zero_add, Nat.add_zero, Nat.zero_mul, Nat.mul_one, Nat.one_mul, Nat.reduceAdd, Nat.reduceSub, Nat.reduceMul, Nat.reduceLT, Nat.reduceLeDiff, Nat.reduceEqDiff, true_and, and_true, true_implies, if_true, if_false, ite_true, reduceIte, ne_eq, not_false_eq_true, reduceCtorEq, forall_const, bne_self_eq_false, Bool.true_eq_false, Bool.false_eq_true, false_implies, and_self, implies_true, Int.toNat_zero, beq_self_eq_true, decide_true, decide_false, Bool.not_true, Bool.not_false, ↓y_call, bne_self_eq_false]
  refine pA.call rfl ?_
  have g1 : ¬ (w.length : Int) > 200 := by omega
  have g2 : ¬ (v.length : Int) > 200 := by omega
  simp -implicitDefEqProofs only [↓symPre, symPost, y_condP, y_condG, run, lver, minD, intsD, eqAll, tupD, splice, Nat.zero_add, Nat.add_zero, Nat.zero_mul, Nat.mul_one, Nat.one_mul, Nat.reduceAdd, Nat.reduceSub, Nat.reduceMul, Nat.reduceLT, Nat.reduceLeDiff, Nat.reduceEqDiff, true_and, and_true, true_implies, if_true, if_false, ite_true, reduceIte, ne_eq, not_false_eq_true, reduceCtorEq, forall_const, bne_self_eq_false, Bool.true_eq_false, Bool.false_eq_true, false_implies, and_self, implies_true, Int.toNat_zero, beq_self_eq_true, decide_true, decide_false, Bool.not_true, Bool.not_false, ↓y_call, List.length_map, g1, g2]
  refine pc.call rfl ?_
  simp -implicitDefEqProofs only [↓symPre, symPost, y_condP, y_condG, run, lver, minD, intsD, eqAll, tupD, splice, Nat.zero_add, Nat.add_zero, Nat.zero_mul, Nat.mul_one, Nat.one_mul, Nat.reduceAdd, Nat.reduceSub, Nat.reduceMul, Nat.reduceLT, Nat.reduceLeDiff, Nat.reduceEqDiff, true_and, and_true, true_implies, if_true, if_false, ite_true, reduceIte, ne_eq, not_false_eq_true, reduceCtorEq, forall_const, bne_self_eq_false, Bool.true_eq_false, Bool.false_eq_true, false_implies, and_self, implies_true, Int.toNat_zero, beq_self_eq_true, decide_true, decide_false, Bool.not_true, Bool.not_false, ↓y_call, hb, Bool.not_true, Bool.not_false]
  refine pWg.call' 127 ?_ ?_ ?_ ?_ ?_
  · rfl
  · simp only [List.length_cons]; omega
  · rfl
  · rfl
  rw [fin_chgAt' (L := 127) rfl (by simp only [List.length_cons]; omega)]
  rw [show ofR (n + 127) = ofD (n + 127 + 3) (n + 127) (n + 127 + 2) (n + 127 + 1) (n + 127 + 4) from rfl]
  simp -implicitDefEqProofs only [↓symPre, symPost, y_condP, y_condG, run, lver, minD, intsD, eqAll, tupD, splice, Nat.zero_add, Nat.add_zero, Nat.zero_mul, Nat.mul_one, Nat.one_mul, Nat.reduceAdd, Nat.reduceSub, Nat.reduceMul, Nat.reduceLT, Nat.reduceLeDiff, Nat.reduceEqDiff, true_and, and_true, true_implies, if_true, if_false, ite_true, reduceIte, ne_eq, not_false_eq_true, reduceCtorEq, forall_const, bne_self_eq_false, Bool.true_eq_false, Bool.false_eq_true, false_implies, and_self, implies_true, Int.toNat_zero, beq_self_eq_true, decide_true, decide_false, Bool.not_true, Bool.not_false, ↓y_call, List.take_succ_cons, List.take_zero, bne_self_eq_false, ↓y_callv]
  refine of_callG o00 (bM := n + 127 + 5) ?_ rfl rfl ?_
  · exact ofH_of (by simp only [List.length_cons, List.length_append, ofB_len]; omega) fun i hi => by rw [Nat.add_assoc, mrg_loc]; rcases i with _ | _ | _ | _ | _ | _ | i <;> first | rfl | omega
  simp -implicitDefEqProofs only [↓symPre, symPost, y_condP, y_condG, run, lver, minD, intsD, eqAll, tupD, splice, Nat.zero_add, Nat.add_zero, Nat.zero_mul, Nat.mul_one, Nat.one_mul, Nat.reduceAdd, Nat.reduceSub, Nat.reduceMul, Nat.reduceLT, Nat.reduceLeDiff, Nat.reduceEqDiff, true_and, and_true, true_implies, if_true, if_false, ite_true, reduceIte, ne_eq, not_false_eq_true, reduceCtorEq, forall_const, bne_self_eq_false, Bool.true_eq_false, Bool.false_eq_true, false_implies, and_self, implies_true, Int.toNat_zero, beq_self_eq_true, decide_true, decide_false, Bool.not_true, Bool.not_false, ↓y_call, List.drop_zero, bne_self_eq_false]
  refine (at_aligned' q hq w v hw hv (bM := n + 127 + 5) ?_).mono fun d h' x ⟨e1, e2, e3⟩ => .inl ⟨[], by simp [St.inr], e2, by rw [e1]; rfl, ?_⟩
  · exact ofH_of (by simp only [List.length_cons, List.length_append, ofB_len]; omega) fun i hi => by rw [Nat.add_assoc, mrg_loc]; rcases i with _ | _ | _ | _ | _ | _ | i <;> first | rfl | omega
  subst e3
  simp -implicitDefEqProofs only [↓symPre, symPost, y_condP, y_condG, run, lver, minD, intsD, eqAll, tupD, splice, Nat.zero_add, Nat.add_zero, Nat.zero_mul, Nat.mul_one, Nat.one_mul, Nat.reduceAdd, Nat.reduceSub, Nat.reduceMul, Nat.reduceLT, Nat.reduceLeDiff, Nat.reduceEqDiff, true_and, and_true, true_implies, if_true, if_false, ite_true, reduceIte, ne_eq, not_false_eq_true, reduceCtorEq, forall_const, bne_self_eq_false, Bool.true_eq_false, Bool.false_eq_true, false_implies, and_self, implies_true, Int.toNat_zero, beq_self_eq_true, decide_true, decide_false, Bool.not_true, Bool.not_false, ↓y_call]
  refine pEO.call rfl ?_
  simp -implicitDefEqProofs only [↓symPre, symPost, y_condP, y_condG, run, lver, minD, intsD, eqAll, tupD, splice, Nat.zero_add, Nat.add_zero, Nat.zero_mul, Nat.mul_one, Nat.one_mul, Nat.reduceAdd, Nat.reduceSub, Nat.reduceMul, Nat.reduceLT, Nat.reduceLeDiff, Nat.reduceEqDiff, true_and, and_true, true_implies, if_true, if_false, ite_true, reduceIte, ne_eq, not_false_eq_true, reduceCtorEq, forall_const, bne_self_eq_false, Bool.true_eq_false, Bool.false_eq_true, false_implies, and_self, implies_true, Int.toNat_zero, beq_self_eq_true, decide_true, decide_false, Bool.not_true, Bool.not_false, ↓y_call, Bool.not_true]
  refine pRun.call rfl ?_
  simp -implicitDefEqProofs only [↓symPre, symPost, y_condP, y_condG, run, lver, minD, intsD, eqAll, tupD, splice, Nat.zero_add, Nat.add_zero, Nat.zero_mul, Nat.mul_one, Nat.one_mul, Nat.reduceAdd, Nat.reduceSub, Nat.reduceMul, Nat.reduceLT, Nat.reduceLeDiff, Nat.reduceEqDiff, true_and, and_true, true_implies, if_true, if_false, ite_true, reduceIte, ne_eq, not_false_eq_true, reduceCtorEq, forall_const, bne_self_eq_false, Bool.true_eq_false, Bool.false_eq_true, false_implies, and_self, implies_true, Int.toNat_zero, beq_self_eq_true, decide_true, decide_false, Bool.not_true, Bool.not_false, ↓y_call, Bool.not_false]
  refine pPerf.call rfl ?_
  simp -implicitDefEqProofs only [↓symPre, symPost, y_condP, y_condG, run, lver, minD, intsD, eqAll, tupD, splice, Nat.zero_add, Nat.add_zero, Nat.zero_mul, Nat.mul_one, Nat.one_mul, Nat.reduceAdd, Nat.reduceSub, Nat.reduceMul, Nat.reduceLT, Nat.reduceLeDiff, Nat.reduceEqDiff, true_and, and_true, true_implies, if_true, if_false, ite_true, reduceIte, ne_eq, not_false_eq_true, reduceCtorEq, forall_const, bne_self_eq_false, Bool.true_eq_false, Bool.false_eq_true, false_implies, and_self, implies_true, Int.toNat_zero, beq_self_eq_true, decide_true, decide_false, Bool.not_true, Bool.not_false, ↓y_call, Bool.not_false, beq_self_eq_true, List.length_nil, List.map_nil, z00]
  exact fin_bool hl rfl

theorem pure_RepairAligns (w v : List Int) (q : Co) (l : List Ope) (hw60 : w.length < 2 ^ 60) (hv60 : v.length < 2 ^ 60) (hlen : l.length < 2 ^ 43) : Pure prog F_parllaw4_RepairAligns [iD w, iD v, coD q, .lst (l.map opeD)] (.bool true) := by
  rcases hp : perfR w l 0 [] with ⟨X, ok⟩
  by_cases hs : w.length ≤ 200 ∧ v.length ≤ 200
  · cases hb : badC q <;> cases ok
    · exact ra_good0 w v q l hw60 hv60 hlen _ X false rfl hp hs.1 hs.2 hb rfl
    · exact ra_good1 w v q l hw60 hv60 hlen _ X true rfl hp hs.1 hs.2 hb rfl
    · exact ra_bad0 w v q l hw60 hv60 hlen _ X false rfl hp hs.1 hs.2 hb rfl
    · exact ra_bad1 w v q l hw60 hv60 hlen _ X true rfl hp hs.1 hs.2 hb rfl
  · cases ok
    · exact ra_big0 w v q l hw60 hv60 hlen _ X false rfl hp hs rfl
    · exact ra_big1 w v q l hw60 hv60 hlen _ X true rfl hp hs rfl

end Abs
end Go.Proofs.Ytfojedaccfenfaa

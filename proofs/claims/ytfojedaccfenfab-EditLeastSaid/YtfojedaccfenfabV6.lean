/- edit.Script. Printed by wip/tools/genV6.py. -/
import Derived.Test.YtfojedaccfenfabV5
namespace Go.Proofs.Ytfojedaccfenfab
namespace Abs
set_option linter.unusedVariables false
set_option linter.unusedSimpArgs false
set_option maxRecDepth 20000

def C_Script_round : AC :=
  (.seq (.seq (.region [⟨(.some 23), (.mov (.tmp 9)), .always⟩, ⟨(.some 24), (.mov (.tmp 0)), .always⟩, ⟨(.some 25), (.len (.tmp 24)), .always⟩, ⟨(.some 26), (.bin .lss (.tmp 23) (.tmp 25)), .always⟩, ⟨(.some 27), (.mov (.tmp 26)), .always⟩, ⟨(.some 28), (.mov (.tmp 10)), (.on 27 .false)⟩, ⟨(.some 29), (.mov (.tmp 1)), (.on 27 .false)⟩, ⟨(.some 30), (.len (.tmp 29)), (.on 27 .false)⟩, ⟨(.some 31), (.bin .lss (.tmp 28) (.tmp 30)), (.on 27 .false)⟩, ⟨(.some 32), (.pick (.tmp 27) (.val (.bool .true)) (.tmp 31)), .always⟩]) (.cond (.tmp 32) .skip (.exit 0))) (.block 1 (.seq (.seq (.draw [⟨⟨(.some 33), (.mov (.tmp 9)), .always⟩, [], []⟩, ⟨⟨(.some 34), (.mov (.tmp 0)), .always⟩, [], []⟩, ⟨⟨(.some 35), (.len (.tmp 34)), .always⟩, [], []⟩, ⟨⟨(.some 36), (.bin .lss (.tmp 33) (.tmp 35)), .always⟩, [], []⟩, ⟨⟨(.some 37), (.mov (.tmp 36)), .always⟩, [], []⟩, ⟨⟨(.some 38), (.mov (.tmp 10)), (.on 37 .true)⟩, [], []⟩, ⟨⟨(.some 39), (.mov (.tmp 1)), (.on 37 .true)⟩, [], []⟩, ⟨⟨(.some 40), (.len (.tmp 39)), (.on 37 .true)⟩, [], []⟩, ⟨⟨(.some 41), (.bin .lss (.tmp 38) (.tmp 40)), (.on 37 .true)⟩, [], []⟩, ⟨⟨(.some 42), (.pick (.tmp 37) (.tmp 41) (.val (.bool .false))), .always⟩, [], []⟩, ⟨⟨(.some 43), (.mov (.tmp 42)), .always⟩, [], []⟩, ⟨⟨(.some 44), (.mov (.tmp 0)), (.on 43 .true)⟩, [], []⟩, ⟨⟨(.some 45), (.mov (.tmp 9)), (.on 43 .true)⟩, [], []⟩, ⟨⟨(.some 46), (.idxS 1 (.tmp 44) (.tmp 45)), (.on 43 .true)⟩, [], []⟩, ⟨⟨(.some 47), (.load .false 1 (.tmp 46)), (.on 43 .true)⟩, [], []⟩, ⟨⟨(.some 48), (.mov (.tmp 1)), (.on 43 .true)⟩, [], []⟩, ⟨⟨(.some 49), (.mov (.tmp 10)), (.on 43 .true)⟩, [], []⟩, ⟨⟨(.some 50), (.idxS 1 (.tmp 48) (.tmp 49)), (.on 43 .true)⟩, [], []⟩, ⟨⟨(.some 51), (.load .false 1 (.tmp 50)), (.on 43 .true)⟩, [], []⟩, ⟨⟨(.some 52), (.bin .eql (.tmp 47) (.tmp 51)), (.on 43 .true)⟩, [], []⟩, ⟨⟨(.some 53), (.pick (.tmp 43) (.tmp 52) (.val (.bool .false))), .always⟩, [], []⟩]) (.cond (.tmp 53) (.seq (.region [⟨(.some 54), (.mov (.tmp 9)), .always⟩, ⟨(.some 55), (.bin .add (.tmp 54) (.val (.int .i64 1))), .always⟩, ⟨(.some 56), (.mov (.tmp 10)), .always⟩, ⟨(.some 57), (.bin .add (.tmp 56) (.val (.int .i64 1))), .always⟩, ⟨(.some 9), (.mov (.tmp 55)), .always⟩, ⟨(.some 10), (.mov (.tmp 57)), .always⟩, ⟨(.some 8), (.mov (.val (.bool .false))), .always⟩]) (.exit 1)) .skip)) (.seq (.seq (.region [⟨(.some 58), (.mov (.tmp 8)), .always⟩, ⟨(.some 59), (.un .not (.tmp 58)), .always⟩]) (.cond (.tmp 59) (.region [⟨(.some 60), (.mov (.tmp 7)), .always⟩, ⟨(.some 61), (.mov (.tmp 9)), .always⟩, ⟨(.some 62), (.mov (.tmp 9)), .always⟩, ⟨(.some 63), (.build [(.int .i64 0), (.int .i64 0), .nils] [(0, (1, (.tmp 61))), (1, (1, (.tmp 62)))]), .always⟩, ⟨(.some 64), (.buildSlice 3 [(.int .i64 0), (.int .i64 0), .nils] 1 [(0, (3, (.tmp 63)))]), .always⟩, ⟨(.some 65), (.append 3 40 (.tmp 60) (.tmp 64)), .always⟩, ⟨(.some 7), (.mov (.tmp 65)), .always⟩, ⟨(.some 8), (.mov (.val (.bool .true))), .always⟩]) .skip)) (.seq (.region [⟨(.some 66), (.mov (.tmp 7)), .always⟩, ⟨(.some 67), (.mov (.tmp 7)), .always⟩, ⟨(.some 68), (.len (.tmp 67)), .always⟩, ⟨(.some 69), (.bin .sub (.tmp 68) (.val (.int .i64 1))), .always⟩, ⟨(.some 70), (.idxS 3 (.tmp 66) (.tmp 69)), .always⟩, ⟨(.some 11), (.mov (.tmp 70)), .always⟩]) (.seq (.draw [⟨⟨(.some 71), (.mov (.tmp 9)), .always⟩, [], []⟩, ⟨⟨(.some 72), (.mov (.tmp 0)), .always⟩, [], []⟩, ⟨⟨(.some 73), (.len (.tmp 72)), .always⟩, [], []⟩, ⟨⟨(.some 74), (.bin .lss (.tmp 71) (.tmp 73)), .always⟩, [], []⟩, ⟨⟨(.some 75), (.mov (.tmp 74)), .always⟩, [], []⟩, ⟨⟨(.some 76), (.mov (.tmp 6)), (.on 75 .true)⟩, [], []⟩, ⟨⟨(.some 77), (.mov (.tmp 9)), (.on 75 .true)⟩, [], []⟩, ⟨⟨(.some 78), (.idxS 1 (.tmp 76) (.tmp 77)), (.on 75 .true)⟩, [], []⟩, ⟨⟨(.some 79), (.load .false 1 (.tmp 78)), (.on 75 .true)⟩, [], []⟩, ⟨⟨(.some 80), (.mov (.tmp 10)), (.on 75 .true)⟩, [], []⟩, ⟨⟨(.some 81), (.idxS 1 (.tmp 79) (.tmp 80)), (.on 75 .true)⟩, [], []⟩, ⟨⟨(.some 82), (.load .false 1 (.tmp 81)), (.on 75 .true)⟩, [], []⟩, ⟨⟨(.some 83), (.mov (.tmp 6)), (.on 75 .true)⟩, [], []⟩, ⟨⟨(.some 84), (.mov (.tmp 9)), (.on 75 .true)⟩, [], []⟩, ⟨⟨(.some 85), (.bin .add (.tmp 84) (.val (.int .i64 1))), (.on 75 .true)⟩, [], []⟩, ⟨⟨(.some 86), (.idxS 1 (.tmp 83) (.tmp 85)), (.on 75 .true)⟩, [], []⟩, ⟨⟨(.some 87), (.load .false 1 (.tmp 86)), (.on 75 .true)⟩, [], []⟩, ⟨⟨(.some 88), (.mov (.tmp 10)), (.on 75 .true)⟩, [], []⟩, ⟨⟨(.some 89), (.idxS 1 (.tmp 87) (.tmp 88)), (.on 75 .true)⟩, [], []⟩, ⟨⟨(.some 90), (.load .false 1 (.tmp 89)), (.on 75 .true)⟩, [], []⟩, ⟨⟨(.some 91), (.bin .add (.val (.int .i64 1)) (.tmp 90)), (.on 75 .true)⟩, [], []⟩, ⟨⟨(.some 92), (.bin .eql (.tmp 82) (.tmp 91)), (.on 75 .true)⟩, [], []⟩, ⟨⟨(.some 93), (.pick (.tmp 75) (.tmp 92) (.val (.bool .false))), .always⟩, [], []⟩]) (.cond (.tmp 93) (.seq (.region [⟨(.some 94), (.mov (.tmp 9)), .always⟩, ⟨(.some 95), (.bin .add (.tmp 94) (.val (.int .i64 1))), .always⟩, ⟨(.some 9), (.mov (.tmp 95)), .always⟩]) (.region [⟨(.some 96), (.mov (.tmp 11)), .always⟩, ⟨(.some 97), (.mov (.tmp 9)), .always⟩, ⟨(.some 98), (.nilck (.tmp 96)), .always⟩, ⟨(.some 99), (.fieldAddr 1 (.tmp 98)), .always⟩, ⟨.none, (.store 1 (.tmp 99) (.tmp 97)), .always⟩])) (.seq (.draw [⟨⟨(.some 100), (.mov (.tmp 11)), .always⟩, [109, 110], [10]⟩, ⟨⟨(.some 101), (.mov (.tmp 11)), .always⟩, [109], []⟩, ⟨⟨(.some 102), (.nilck (.tmp 101)), .always⟩, [109], []⟩, ⟨⟨(.some 103), (.fieldAddr 2 (.tmp 102)), .always⟩, [109], []⟩, ⟨⟨(.some 104), (.load .false 1 (.tmp 103)), .always⟩, [109], []⟩, ⟨⟨(.some 105), (.mov (.tmp 1)), .always⟩, [], []⟩, ⟨⟨(.some 106), (.mov (.tmp 10)), .always⟩, [], []⟩, ⟨⟨(.some 107), (.idxS 1 (.tmp 105) (.tmp 106)), .always⟩, [], []⟩, ⟨⟨(.some 108), (.load .false 1 (.tmp 107)), .always⟩, [], []⟩, ⟨⟨(.some 109), (.buildSlice 1 [(.int .i64 0)] 1 [(0, (1, (.tmp 108)))]), .always⟩, [], []⟩, ⟨⟨(.some 110), (.append 1 8 (.tmp 104) (.tmp 109)), .always⟩, [], []⟩, ⟨⟨(.some 111), (.nilck (.tmp 100)), .always⟩, [], []⟩, ⟨⟨(.some 112), (.fieldAddr 2 (.tmp 111)), .always⟩, [], []⟩, ⟨⟨.none, (.store 1 (.tmp 112) (.tmp 110)), .always⟩, [], []⟩]) (.region [⟨(.some 113), (.mov (.tmp 10)), .always⟩, ⟨(.some 114), (.bin .add (.tmp 113) (.val (.int .i64 1))), .always⟩, ⟨(.some 10), (.mov (.tmp 114)), .always⟩])))))))))

def lpS (n : Nat) (h : Heap) (a b : List Int) (TT : List D) (p : Lp) : St :=
  St.mk n ([iD a, iD b, .top, .top, .top, .top, .lst TT, .ref 3 (n + 65) p.vO 0 (outN p.E p.o), .bool p.o.isSome, .int .i64 p.i, .int .i64 p.j] ++ List.replicate 105 .top) h
    (List.replicate 65 blk0 ++ [⟨p.vO, .cells (outC n 110 p.vN p.E p.o)⟩] ++ List.replicate 44 blk0 ++ [⟨p.vN, .cells (newC p.o)⟩] ++ List.replicate 5 blk0)

set_option maxHeartbeats 4000000 in
theorem rS_M_none {n : Nat} {h : Heap} (hl : LowH n h) {a b : List Int} (ha : a.length < 2 ^ 30) (hb : b.length < 2 ^ 30) {TT : List D} (tll : TT.length = a.length + 1) (tlow : Low n (.lst TT))
    (tab : ∀ {i j : Nat}, i ≤ a.length → j ≤ b.length → ∃ R : List Int, nth TT i = iD R ∧ R.length = b.length + 1 ∧ nth (R.map (D.int .i64)) j = .int .i64 (dG a b i j)) {i j : Nat} {E : List Ed} {vO vN : Nat}
    (hp : LpOk a b ⟨i, j, E, none, vO, vN⟩) (hia : i < a.length) (hjb : j < b.length) (hc : a[i] = b[j]) (Q : Exit → St → Prop) : awpS prog C_Script_round (AThen (fun s' => ∃ b', LpOk a b b' ∧ a.length + b.length - b'.i - b'.j < a.length + b.length - i - j ∧ Le s' (lpS n h a b TT b')) Q) (lpS n h a b TT ⟨i, j, E, none, vO, vN⟩) := by
  obtain ⟨hi, hj, hvO, hvN, hlen, hnw, hall⟩ := hp
  simp only at hi hj hvO hvN hlen hnw hall
  have i0 : (0 : Int) ≤ (i : Int) := by omega
  have j0 : (0 : Int) ≤ (j : Int) := by omega
  have wi1 : IntKind.i64.wrap ((i : Int) + 1) = ((i + 1 : Nat) : Int) := by rw [IntWalk.i64_in _ (by omega)]; omega
  have wj1 : IntKind.i64.wrap ((j : Int) + 1) = ((j + 1 : Nat) : Int) := by rw [IntWalk.i64_in _ (by omega)]; omega
  have i3 : (0 : Int) ≤ ((i + 1 : Nat) : Int) := by omega
  have k0 : (0 : Int) ≤ (E.length : Int) := by omega
  have k1 : (E.length : Int) < ((E.length + 1 : Nat) : Int) := by omega
  have ws : IntKind.i64.wrap (((E.length + 1 : Nat) : Int) - 1) = (E.length : Int) := by rw [IntWalk.i64_in _ (by simp only [outN] at hlen; omega)]; omega
  have kf : (E.length + 1) * 40 ≤ 140737488355328 := by simp only [outN] at hlen; omega
  have hLl := eds_len E
  have i1 : (i : Int) < (a.length : Int) := by omega
  have e0 := nth_ints a i hia
  have iT : (i : Int) < (TT.length : Int) := by omega
  have iT1 : ((i + 1 : Nat) : Int) < (TT.length : Int) := by omega
  obtain ⟨R0, t0, R0l, n0⟩ := tab (i := i) (j := j) (by omega) (by omega)
  obtain ⟨R1, t1, R1l, n1⟩ := tab (i := i + 1) (j := j) (by omega) (by omega)
  have jR0 : (j : Int) < (R0.length : Int) := by omega
  have jR1 : (j : Int) < (R1.length : Int) := by omega
  have rg := dE_range (a.drop (i + 1)) (b.drop j)
  simp only [List.length_drop] at rg
  have u1 : IntKind.i64.wrap (1 + dG a b (i + 1) j) = 1 + dG a b (i + 1) j := IntWalk.i64_in _ (by unfold dG; omega)
  have j1 : (j : Int) < (b.length : Int) := by omega
  have e1 := nth_ints b j hjb
  have bC : (a[i] == b[j]) = true := by simp [hc]
  rw [scrAt_same hia hjb hc] at hall
  unfold C_Script_round lpS
  simp -implicitDefEqProofs only [↓symPre, symPost, y_condP, y_condG, run, lver, minD, intsD, eqAll, tupD, splice, Nat.zero_add, Nat.add_zero, Nat.zero_mul, Nat.mul_one, Nat.one_mul, Nat.reduceAdd, Nat.reduceSub, Nat.reduceMul, Nat.reduceLT, Nat.reduceLeDiff, Nat.reduceEqDiff, true_and, and_true, true_implies, if_true, if_false, ite_true, reduceIte, ne_eq, not_false_eq_true, reduceCtorEq, forall_const, bne_self_eq_false, Bool.true_eq_false, Bool.false_eq_true, false_implies, and_self, implies_true, Int.toNat_zero, beq_self_eq_true, decide_true, decide_false, Bool.not_true, Bool.not_false, ↓y_call, List.length_map, i1, decide_true]
  refine adrawq hmix [] ?_
  simp (maxSteps := 400000) -implicitDefEqProofs only [↓symPre, symPost, y_condP, y_condG, run, lver, minD, intsD, eqAll, tupD, splice, Nat.zero_add, Nat.add_zero, Nat.zero_mul, Nat.mul_one, Nat.one_mul, Nat.reduceAdd, Nat.reduceSub, Nat.reduceMul, Nat.reduceLT, Nat.reduceLeDiff, Nat.reduceEqDiff, true_and, and_true, true_implies, if_true, if_false, ite_true, reduceIte, ne_eq, not_false_eq_true, reduceCtorEq, forall_const, bne_self_eq_false, Bool.true_eq_false, Bool.false_eq_true, false_implies, and_self, implies_true, Int.toNat_zero, beq_self_eq_true, decide_true, decide_false, Bool.not_true, Bool.not_false, ↓y_call, ↓drawPre, ↓y_adq_onS, drawPost, isCall, isNew, isEff, Option.toList, or_false, false_or, cond_true, cond_false, not_true_eq_false, or_true, true_or, Nat.add_left_cancel_iff, Bool.false_eq_true, List.length_map, i0, i1, j0, j1, Int.toNat_natCast, e0, e1, bC, wi1, wj1, decide_true]
  refine ⟨⟨i + 1, j + 1, E, none, vO, vN⟩, ⟨by simp only; omega, by simp only; omega, hvO, hvN, by simp only [outN] at hlen ⊢; omega, fun e he => (by cases he), hall⟩, by simp only; omega, ?_⟩
  refine le_to (List.replicate 65 .hole ++ [.old 65] ++ List.replicate 44 .hole ++ [.nil] ++ List.replicate 5 .hole) hl rfl ?_ ?_ <;> ((try simp only [y_blk_end, y_blk_hole, y_blk_nil, y_blk_old, y_wkl_end, y_wkl_top, List.replicate, List.cons_append, List.nil_append, and_true, true_and]) <;> (repeat' (first | apply And.intro | apply y_wkl | refine Exists.intro _ (And.intro rfl ?_))) <;> (try first | exact trivial | exact Wk.top _ | exact wk_int rfl | exact wk_bool rfl | exact wk_ptr rfl rfl rfl rfl | exact wk_ref rfl rfl rfl rfl rfl | exact wk_nil rfl rfl rfl | exact wk_ref rfl rfl rfl rfl (by simp) | exact wk_ref rfl rfl rfl rfl (by simp; omega) | exact wk_old (by assumption) (by simp) | exact wk_eq rfl (by first | exact Bd.int _ _ | exact Bd.bool _ | exact Bd.abool | exact Bd.nils | exact Bd.emp | exact Bd.nilp | exact Bd.nilfn | assumption | exact low_trees _ _ | exact low_treeD _ _ | exact low_ints _ _) | exact Nat.le_refl _ | exact wk_int (by simp) | exact wk_int (by omega) | exact Nat.succ_le_succ (Nat.zero_le _) | exact Nat.le_add_left _ _ | omega))
  exact wkl_eds E

set_option maxHeartbeats 4000000 in
theorem rS_M_some {n : Nat} {h : Heap} (hl : LowH n h) {a b : List Int} (ha : a.length < 2 ^ 30) (hb : b.length < 2 ^ 30) {TT : List D} (tll : TT.length = a.length + 1) (tlow : Low n (.lst TT))
    (tab : ∀ {i j : Nat}, i ≤ a.length → j ≤ b.length → ∃ R : List Int, nth TT i = iD R ∧ R.length = b.length + 1 ∧ nth (R.map (D.int .i64)) j = .int .i64 (dG a b i j)) {i j : Nat} {E : List Ed} {e : Ed} {vO vN : Nat}
    (hp : LpOk a b ⟨i, j, E, some e, vO, vN⟩) (hia : i < a.length) (hjb : j < b.length) (hc : a[i] = b[j]) (Q : Exit → St → Prop) : awpS prog C_Script_round (AThen (fun s' => ∃ b', LpOk a b b' ∧ a.length + b.length - b'.i - b'.j < a.length + b.length - i - j ∧ Le s' (lpS n h a b TT b')) Q) (lpS n h a b TT ⟨i, j, E, some e, vO, vN⟩) := by
  obtain ⟨hi, hj, hvO, hvN, hlen, hnw, hall⟩ := hp
  simp only at hi hj hvO hvN hlen hnw hall
  have i0 : (0 : Int) ≤ (i : Int) := by omega
  have j0 : (0 : Int) ≤ (j : Int) := by omega
  have wi1 : IntKind.i64.wrap ((i : Int) + 1) = ((i + 1 : Nat) : Int) := by rw [IntWalk.i64_in _ (by omega)]; omega
  have wj1 : IntKind.i64.wrap ((j : Int) + 1) = ((j + 1 : Nat) : Int) := by rw [IntWalk.i64_in _ (by omega)]; omega
  have i3 : (0 : Int) ≤ ((i + 1 : Nat) : Int) := by omega
  have k0 : (0 : Int) ≤ (E.length : Int) := by omega
  have k1 : (E.length : Int) < ((E.length + 1 : Nat) : Int) := by omega
  have ws : IntKind.i64.wrap (((E.length + 1 : Nat) : Int) - 1) = (E.length : Int) := by rw [IntWalk.i64_in _ (by simp only [outN] at hlen; omega)]; omega
  have kf : (E.length + 1) * 40 ≤ 140737488355328 := by simp only [outN] at hlen; omega
  have hLl := eds_len E
  have i1 : (i : Int) < (a.length : Int) := by omega
  have e0 := nth_ints a i hia
  have iT : (i : Int) < (TT.length : Int) := by omega
  have iT1 : ((i + 1 : Nat) : Int) < (TT.length : Int) := by omega
  obtain ⟨R0, t0, R0l, n0⟩ := tab (i := i) (j := j) (by omega) (by omega)
  obtain ⟨R1, t1, R1l, n1⟩ := tab (i := i + 1) (j := j) (by omega) (by omega)
  have jR0 : (j : Int) < (R0.length : Int) := by omega
  have jR1 : (j : Int) < (R1.length : Int) := by omega
  have rg := dE_range (a.drop (i + 1)) (b.drop j)
  simp only [List.length_drop] at rg
  have u1 : IntKind.i64.wrap (1 + dG a b (i + 1) j) = 1 + dG a b (i + 1) j := IntWalk.i64_in _ (by unfold dG; omega)
  have j1 : (j : Int) < (b.length : Int) := by omega
  have e1 := nth_ints b j hjb
  have bC : (a[i] == b[j]) = true := by simp [hc]
  rw [scrAt_same hia hjb hc] at hall
  obtain ⟨h1, h2, h3, h4⟩ := hnw e rfl
  have nf : (e.w.length + 1) * 8 ≤ 140737488355328 := by omega
  have hNt : (e.w.map (D.int .i64)).take e.w.length = e.w.map (D.int .i64) := List.take_of_length_le (by simp)
  unfold C_Script_round lpS
  simp -implicitDefEqProofs only [↓symPre, symPost, y_condP, y_condG, run, lver, minD, intsD, eqAll, tupD, splice, Nat.zero_add, Nat.add_zero, Nat.zero_mul, Nat.mul_one, Nat.one_mul, Nat.reduceAdd, Nat.reduceSub, Nat.reduceMul, Nat.reduceLT, Nat.reduceLeDiff, Nat.reduceEqDiff, true_and, and_true, true_implies, if_true, if_false, ite_true, reduceIte, ne_eq, not_false_eq_true, reduceCtorEq, forall_const, bne_self_eq_false, Bool.true_eq_false, Bool.false_eq_true, false_implies, and_self, implies_true, Int.toNat_zero, beq_self_eq_true, decide_true, decide_false, Bool.not_true, Bool.not_false, ↓y_call, List.length_map, i1, decide_true]
  refine adrawq hmix [] ?_
  simp (maxSteps := 400000) -implicitDefEqProofs only [↓symPre, symPost, y_condP, y_condG, run, lver, minD, intsD, eqAll, tupD, splice, Nat.zero_add, Nat.add_zero, Nat.zero_mul, Nat.mul_one, Nat.one_mul, Nat.reduceAdd, Nat.reduceSub, Nat.reduceMul, Nat.reduceLT, Nat.reduceLeDiff, Nat.reduceEqDiff, true_and, and_true, true_implies, if_true, if_false, ite_true, reduceIte, ne_eq, not_false_eq_true, reduceCtorEq, forall_const, bne_self_eq_false, Bool.true_eq_false, Bool.false_eq_true, false_implies, and_self, implies_true, Int.toNat_zero, beq_self_eq_true, decide_true, decide_false, Bool.not_true, Bool.not_false, ↓y_call, ↓drawPre, ↓y_adq_onS, drawPost, isCall, isNew, isEff, Option.toList, or_false, false_or, cond_true, cond_false, not_true_eq_false, or_true, true_or, Nat.add_left_cancel_iff, Bool.false_eq_true, List.length_map, i0, i1, j0, j1, Int.toNat_natCast, e0, e1, bC, wi1, wj1, decide_true]
  refine ⟨⟨i + 1, j + 1, E ++ [e], none, vO, vN⟩, ⟨by simp only; omega, by simp only; omega, hvO, hvN, by simp only [outN, List.length_append, List.length_singleton] at hlen ⊢; omega, fun e he => (by cases he), by simpa using hall⟩, by simp only; omega, ?_⟩
  refine le_to (List.replicate 65 .hole ++ [.old 65] ++ List.replicate 44 .hole ++ [.nil] ++ List.replicate 5 .hole) hl rfl ?_ ?_ <;> ((try simp only [y_blk_end, y_blk_hole, y_blk_nil, y_blk_old, y_wkl_end, y_wkl_top, List.replicate, List.cons_append, List.nil_append, and_true, true_and]) <;> (repeat' (first | apply And.intro | apply y_wkl | refine Exists.intro _ (And.intro rfl ?_))) <;> (try first | exact trivial | exact Wk.top _ | exact wk_int rfl | exact wk_bool rfl | exact wk_ptr rfl rfl rfl rfl | exact wk_ref rfl rfl rfl rfl rfl | exact wk_nil rfl rfl rfl | exact wk_ref rfl rfl rfl rfl (by simp) | exact wk_ref rfl rfl rfl rfl (by simp; omega) | exact wk_old (by assumption) (by simp) | exact wk_eq rfl (by first | exact Bd.int _ _ | exact Bd.bool _ | exact Bd.abool | exact Bd.nils | exact Bd.emp | exact Bd.nilp | exact Bd.nilfn | assumption | exact low_trees _ _ | exact low_treeD _ _ | exact low_ints _ _) | exact Nat.le_refl _ | exact wk_int (by simp) | exact wk_int (by omega) | exact Nat.succ_le_succ (Nat.zero_le _) | exact Nat.le_add_left _ _ | omega))
  · exact wkl_freeze rfl rfl (by simp)
  · exact wk_ref rfl rfl rfl rfl (by simp [outN])

set_option maxHeartbeats 4000000 in
theorem rS_N3d_none {n : Nat} {h : Heap} (hl : LowH n h) {a b : List Int} (ha : a.length < 2 ^ 30) (hb : b.length < 2 ^ 30) {TT : List D} (tll : TT.length = a.length + 1) (tlow : Low n (.lst TT))
    (tab : ∀ {i j : Nat}, i ≤ a.length → j ≤ b.length → ∃ R : List Int, nth TT i = iD R ∧ R.length = b.length + 1 ∧ nth (R.map (D.int .i64)) j = .int .i64 (dG a b i j)) {i j : Nat} {E : List Ed} {vO vN : Nat}
    (hp : LpOk a b ⟨i, j, E, none, vO, vN⟩) (hia : i < a.length) (hjb : j < b.length) (hc : ¬ a[i] = b[j]) (hd : dG a b i j = 1 + dG a b (i + 1) j) (Q : Exit → St → Prop) : awpS prog C_Script_round (AThen (fun s' => ∃ b', LpOk a b b' ∧ a.length + b.length - b'.i - b'.j < a.length + b.length - i - j ∧ Le s' (lpS n h a b TT b')) Q) (lpS n h a b TT ⟨i, j, E, none, vO, vN⟩) := by
  obtain ⟨hi, hj, hvO, hvN, hlen, hnw, hall⟩ := hp
  simp only at hi hj hvO hvN hlen hnw hall
  have i0 : (0 : Int) ≤ (i : Int) := by omega
  have j0 : (0 : Int) ≤ (j : Int) := by omega
  have wi1 : IntKind.i64.wrap ((i : Int) + 1) = ((i + 1 : Nat) : Int) := by rw [IntWalk.i64_in _ (by omega)]; omega
  have wj1 : IntKind.i64.wrap ((j : Int) + 1) = ((j + 1 : Nat) : Int) := by rw [IntWalk.i64_in _ (by omega)]; omega
  have i3 : (0 : Int) ≤ ((i + 1 : Nat) : Int) := by omega
  have k0 : (0 : Int) ≤ (E.length : Int) := by omega
  have k1 : (E.length : Int) < ((E.length + 1 : Nat) : Int) := by omega
  have ws : IntKind.i64.wrap (((E.length + 1 : Nat) : Int) - 1) = (E.length : Int) := by rw [IntWalk.i64_in _ (by simp only [outN] at hlen; omega)]; omega
  have kf : (E.length + 1) * 40 ≤ 140737488355328 := by simp only [outN] at hlen; omega
  have hLl := eds_len E
  have i1 : (i : Int) < (a.length : Int) := by omega
  have e0 := nth_ints a i hia
  have iT : (i : Int) < (TT.length : Int) := by omega
  have iT1 : ((i + 1 : Nat) : Int) < (TT.length : Int) := by omega
  obtain ⟨R0, t0, R0l, n0⟩ := tab (i := i) (j := j) (by omega) (by omega)
  obtain ⟨R1, t1, R1l, n1⟩ := tab (i := i + 1) (j := j) (by omega) (by omega)
  have jR0 : (j : Int) < (R0.length : Int) := by omega
  have jR1 : (j : Int) < (R1.length : Int) := by omega
  have rg := dE_range (a.drop (i + 1)) (b.drop j)
  simp only [List.length_drop] at rg
  have u1 : IntKind.i64.wrap (1 + dG a b (i + 1) j) = 1 + dG a b (i + 1) j := IntWalk.i64_in _ (by unfold dG; omega)
  have j1 : (j : Int) < (b.length : Int) := by omega
  have e1 := nth_ints b j hjb
  have bC : (a[i] == b[j]) = false := by simp [hc]
  have bD : (dG a b i j == 1 + dG a b (i + 1) j) = true := by simp [hd]
  rw [scrAt_del hia (.inr ⟨hjb, hc, hd⟩)] at hall
  unfold C_Script_round lpS
  simp only [outC, newC, outN, Option.isSome]
  obtain ⟨L, hL⟩ : ∃ L, cellsF edD E = L := ⟨_, rfl⟩
  rw [hL] at hLl ⊢
  have hLlow : ∀ c ∈ L, Low n c := by rw [← hL]; exact eds_low n E
  have hLt : L.take (E.length * 3) = L := List.take_of_length_le (by omega)
  have p1 := put_1 hLl
  have p2 := put_2 hLl
  have p3 := nth_2 hLl
  have p4 := nth_1 hLl
  simp -implicitDefEqProofs only [↓symPre, symPost, y_condP, y_condG, run, lver, minD, intsD, eqAll, tupD, splice, Nat.zero_add, Nat.add_zero, Nat.zero_mul, Nat.mul_one, Nat.one_mul, Nat.reduceAdd, Nat.reduceSub, Nat.reduceMul, Nat.reduceLT, Nat.reduceLeDiff, Nat.reduceEqDiff, true_and, and_true, true_implies, if_true, if_false, ite_true, reduceIte, ne_eq, not_false_eq_true, reduceCtorEq, forall_const, bne_self_eq_false, Bool.true_eq_false, Bool.false_eq_true, false_implies, and_self, implies_true, Int.toNat_zero, beq_self_eq_true, decide_true, decide_false, Bool.not_true, Bool.not_false, ↓y_call, List.length_map, i1, decide_true]
  refine adrawq hmix [] ?_
  simp (maxSteps := 400000) -implicitDefEqProofs only [↓symPre, symPost, y_condP, y_condG, run, lver, minD, intsD, eqAll, tupD, splice, Nat.zero_add, Nat.add_zero, Nat.zero_mul, Nat.mul_one, Nat.one_mul, Nat.reduceAdd, Nat.reduceSub, Nat.reduceMul, Nat.reduceLT, Nat.reduceLeDiff, Nat.reduceEqDiff, true_and, and_true, true_implies, if_true, if_false, ite_true, reduceIte, ne_eq, not_false_eq_true, reduceCtorEq, forall_const, bne_self_eq_false, Bool.true_eq_false, Bool.false_eq_true, false_implies, and_self, implies_true, Int.toNat_zero, beq_self_eq_true, decide_true, decide_false, Bool.not_true, Bool.not_false, ↓y_call, ↓drawPre, ↓y_adq_onS, drawPost, isCall, isNew, isEff, Option.toList, or_false, false_or, cond_true, cond_false, not_true_eq_false, or_true, true_or, Nat.add_left_cancel_iff, Bool.false_eq_true, List.length_map, Int.toNat_natCast, decide_true, decide_false, ws, k0, k1, List.drop_zero, hLt, hLl, kf, Nat.le_refl, Nat.zero_le, List.length_append, List.length_cons, List.length_nil, i0, i1, j0, j1, e0, e1, bC]
  refine ⟨by rintro c (rfl | rfl | rfl) <;> rfl, ?_⟩
  refine adrawq hmix [] ?_
  simp (maxSteps := 400000) -implicitDefEqProofs only [↓symPre, symPost, y_condP, y_condG, run, lver, minD, intsD, eqAll, tupD, splice, Nat.zero_add, Nat.add_zero, Nat.zero_mul, Nat.mul_one, Nat.one_mul, Nat.reduceAdd, Nat.reduceSub, Nat.reduceMul, Nat.reduceLT, Nat.reduceLeDiff, Nat.reduceEqDiff, true_and, and_true, true_implies, if_true, if_false, ite_true, reduceIte, ne_eq, not_false_eq_true, reduceCtorEq, forall_const, bne_self_eq_false, Bool.true_eq_false, Bool.false_eq_true, false_implies, and_self, implies_true, Int.toNat_zero, beq_self_eq_true, decide_true, decide_false, Bool.not_true, Bool.not_false, ↓y_call, ↓drawPre, ↓y_adq_onS, drawPost, isCall, isNew, isEff, Option.toList, or_false, false_or, cond_true, cond_false, not_true_eq_false, or_true, true_or, Nat.add_left_cancel_iff, Bool.false_eq_true, List.length_map, Int.toNat_natCast, decide_true, decide_false, ws, k0, k1, List.drop_zero, hLt, hLl, kf, Nat.le_refl, Nat.zero_le, List.length_append, List.length_cons, List.length_nil, i0, i1, i3, j0, t0, t1, n0, n1, iT, iT1, jR0, jR1, u1, bD, wi1, p1]
  refine ⟨by simp, by simp, by rintro c rfl; rfl, by omega, ⟨i + 1, j, E, some ⟨i, ((i + 1 : Nat) : Int), []⟩, vO + 1, 1⟩, ⟨by simp only; omega, hj, by simp only; omega, Nat.le_refl _, by simp only [outN] at hlen ⊢; omega, fun e' he => ?_, hall⟩, by simp only; omega, ?_⟩
  · injection he with he; subst he; exact ⟨rfl, by simp, by simp only; omega, by simp⟩
  dsimp only
  rw [hL]
  refine le_to (List.replicate 65 .hole ++ [.old 65] ++ List.replicate 44 .hole ++ [.nil] ++ List.replicate 5 .hole) hl rfl ?_ ?_ <;> ((try simp only [y_blk_end, y_blk_hole, y_blk_nil, y_blk_old, y_wkl_end, y_wkl_top, List.replicate, List.cons_append, List.nil_append, and_true, true_and]) <;> (repeat' (first | apply And.intro | apply y_wkl | refine Exists.intro _ (And.intro rfl ?_))) <;> (try first | exact trivial | exact Wk.top _ | exact wk_int rfl | exact wk_bool rfl | exact wk_ptr rfl rfl rfl rfl | exact wk_ref rfl rfl rfl rfl rfl | exact wk_nil rfl rfl rfl | exact wk_ref rfl rfl rfl rfl (by simp) | exact wk_ref rfl rfl rfl rfl (by simp; omega) | exact wk_old (by assumption) (by simp) | exact wk_eq rfl (by first | exact Bd.int _ _ | exact Bd.bool _ | exact Bd.abool | exact Bd.nils | exact Bd.emp | exact Bd.nilp | exact Bd.nilfn | assumption | exact low_trees _ _ | exact low_treeD _ _ | exact low_ints _ _) | exact Nat.le_refl _ | exact wk_int (by simp) | exact wk_int (by omega) | exact Nat.succ_le_succ (Nat.zero_le _) | exact Nat.le_add_left _ _ | omega))
  all_goals exact WkL.app (WkL.low hLlow) (y_wkl wk_i (y_wkl wk_i (y_wkl (wk_nil rfl rfl rfl) trivial)))

set_option maxHeartbeats 4000000 in
theorem rS_N3d_some {n : Nat} {h : Heap} (hl : LowH n h) {a b : List Int} (ha : a.length < 2 ^ 30) (hb : b.length < 2 ^ 30) {TT : List D} (tll : TT.length = a.length + 1) (tlow : Low n (.lst TT))
    (tab : ∀ {i j : Nat}, i ≤ a.length → j ≤ b.length → ∃ R : List Int, nth TT i = iD R ∧ R.length = b.length + 1 ∧ nth (R.map (D.int .i64)) j = .int .i64 (dG a b i j)) {i j : Nat} {E : List Ed} {e : Ed} {vO vN : Nat}
    (hp : LpOk a b ⟨i, j, E, some e, vO, vN⟩) (hia : i < a.length) (hjb : j < b.length) (hc : ¬ a[i] = b[j]) (hd : dG a b i j = 1 + dG a b (i + 1) j) (Q : Exit → St → Prop) : awpS prog C_Script_round (AThen (fun s' => ∃ b', LpOk a b b' ∧ a.length + b.length - b'.i - b'.j < a.length + b.length - i - j ∧ Le s' (lpS n h a b TT b')) Q) (lpS n h a b TT ⟨i, j, E, some e, vO, vN⟩) := by
  obtain ⟨hi, hj, hvO, hvN, hlen, hnw, hall⟩ := hp
  simp only at hi hj hvO hvN hlen hnw hall
  have i0 : (0 : Int) ≤ (i : Int) := by omega
  have j0 : (0 : Int) ≤ (j : Int) := by omega
  have wi1 : IntKind.i64.wrap ((i : Int) + 1) = ((i + 1 : Nat) : Int) := by rw [IntWalk.i64_in _ (by omega)]; omega
  have wj1 : IntKind.i64.wrap ((j : Int) + 1) = ((j + 1 : Nat) : Int) := by rw [IntWalk.i64_in _ (by omega)]; omega
  have i3 : (0 : Int) ≤ ((i + 1 : Nat) : Int) := by omega
  have k0 : (0 : Int) ≤ (E.length : Int) := by omega
  have k1 : (E.length : Int) < ((E.length + 1 : Nat) : Int) := by omega
  have ws : IntKind.i64.wrap (((E.length + 1 : Nat) : Int) - 1) = (E.length : Int) := by rw [IntWalk.i64_in _ (by simp only [outN] at hlen; omega)]; omega
  have kf : (E.length + 1) * 40 ≤ 140737488355328 := by simp only [outN] at hlen; omega
  have hLl := eds_len E
  have i1 : (i : Int) < (a.length : Int) := by omega
  have e0 := nth_ints a i hia
  have iT : (i : Int) < (TT.length : Int) := by omega
  have iT1 : ((i + 1 : Nat) : Int) < (TT.length : Int) := by omega
  obtain ⟨R0, t0, R0l, n0⟩ := tab (i := i) (j := j) (by omega) (by omega)
  obtain ⟨R1, t1, R1l, n1⟩ := tab (i := i + 1) (j := j) (by omega) (by omega)
  have jR0 : (j : Int) < (R0.length : Int) := by omega
  have jR1 : (j : Int) < (R1.length : Int) := by omega
  have rg := dE_range (a.drop (i + 1)) (b.drop j)
  simp only [List.length_drop] at rg
  have u1 : IntKind.i64.wrap (1 + dG a b (i + 1) j) = 1 + dG a b (i + 1) j := IntWalk.i64_in _ (by unfold dG; omega)
  have j1 : (j : Int) < (b.length : Int) := by omega
  have e1 := nth_ints b j hjb
  have bC : (a[i] == b[j]) = false := by simp [hc]
  have bD : (dG a b i j == 1 + dG a b (i + 1) j) = true := by simp [hd]
  rw [scrAt_del hia (.inr ⟨hjb, hc, hd⟩)] at hall
  obtain ⟨h1, h2, h3, h4⟩ := hnw e rfl
  have nf : (e.w.length + 1) * 8 ≤ 140737488355328 := by omega
  have hNt : (e.w.map (D.int .i64)).take e.w.length = e.w.map (D.int .i64) := List.take_of_length_le (by simp)
  unfold C_Script_round lpS
  simp only [outC, newC, outN, Option.isSome]
  obtain ⟨L, hL⟩ : ∃ L, cellsF edD E = L := ⟨_, rfl⟩
  rw [hL] at hLl ⊢
  have hLlow : ∀ c ∈ L, Low n c := by rw [← hL]; exact eds_low n E
  have hLt : L.take (E.length * 3) = L := List.take_of_length_le (by omega)
  have p1 := put_1 hLl
  have p2 := put_2 hLl
  have p3 := nth_2 hLl
  have p4 := nth_1 hLl
  simp -implicitDefEqProofs only [↓symPre, symPost, y_condP, y_condG, run, lver, minD, intsD, eqAll, tupD, splice, Nat.zero_add, Nat.add_zero, Nat.zero_mul, Nat.mul_one, Nat.one_mul, Nat.reduceAdd, Nat.reduceSub, Nat.reduceMul, Nat.reduceLT, Nat.reduceLeDiff, Nat.reduceEqDiff, true_and, and_true, true_implies, if_true, if_false, ite_true, reduceIte, ne_eq, not_false_eq_true, reduceCtorEq, forall_const, bne_self_eq_false, Bool.true_eq_false, Bool.false_eq_true, false_implies, and_self, implies_true, Int.toNat_zero, beq_self_eq_true, decide_true, decide_false, Bool.not_true, Bool.not_false, ↓y_call, List.length_map, i1, decide_true]
  refine adrawq hmix [] ?_
  simp (maxSteps := 400000) -implicitDefEqProofs only [↓symPre, symPost, y_condP, y_condG, run, lver, minD, intsD, eqAll, tupD, splice, Nat.zero_add, Nat.add_zero, Nat.zero_mul, Nat.mul_one, Nat.one_mul, Nat.reduceAdd, Nat.reduceSub, Nat.reduceMul, Nat.reduceLT, Nat.reduceLeDiff, Nat.reduceEqDiff, true_and, and_true, true_implies, if_true, if_false, ite_true, reduceIte, ne_eq, not_false_eq_true, reduceCtorEq, forall_const, bne_self_eq_false, Bool.true_eq_false, Bool.false_eq_true, false_implies, and_self, implies_true, Int.toNat_zero, beq_self_eq_true, decide_true, decide_false, Bool.not_true, Bool.not_false, ↓y_call, ↓drawPre, ↓y_adq_onS, drawPost, isCall, isNew, isEff, Option.toList, or_false, false_or, cond_true, cond_false, not_true_eq_false, or_true, true_or, Nat.add_left_cancel_iff, Bool.false_eq_true, List.length_map, Int.toNat_natCast, decide_true, decide_false, ws, k0, k1, List.drop_zero, hLt, hLl, kf, Nat.le_refl, Nat.zero_le, List.length_append, List.length_cons, List.length_nil, i0, i1, j0, j1, e0, e1, bC]
  refine adrawq hmix [] ?_
  simp (maxSteps := 400000) -implicitDefEqProofs only [↓symPre, symPost, y_condP, y_condG, run, lver, minD, intsD, eqAll, tupD, splice, Nat.zero_add, Nat.add_zero, Nat.zero_mul, Nat.mul_one, Nat.one_mul, Nat.reduceAdd, Nat.reduceSub, Nat.reduceMul, Nat.reduceLT, Nat.reduceLeDiff, Nat.reduceEqDiff, true_and, and_true, true_implies, if_true, if_false, ite_true, reduceIte, ne_eq, not_false_eq_true, reduceCtorEq, forall_const, bne_self_eq_false, Bool.true_eq_false, Bool.false_eq_true, false_implies, and_self, implies_true, Int.toNat_zero, beq_self_eq_true, decide_true, decide_false, Bool.not_true, Bool.not_false, ↓y_call, ↓drawPre, ↓y_adq_onS, drawPost, isCall, isNew, isEff, Option.toList, or_false, false_or, cond_true, cond_false, not_true_eq_false, or_true, true_or, Nat.add_left_cancel_iff, Bool.false_eq_true, List.length_map, Int.toNat_natCast, decide_true, decide_false, ws, k0, k1, List.drop_zero, hLt, hLl, kf, Nat.le_refl, Nat.zero_le, List.length_append, List.length_cons, List.length_nil, i0, i1, i3, j0, t0, t1, n0, n1, iT, iT1, jR0, jR1, u1, bD, wi1, p1]
  refine ⟨by simp, by simp, by rintro c rfl; rfl, by omega, ⟨i + 1, j, E, some { e with t := ((i + 1 : Nat) : Int) }, vO, vN⟩, ⟨by simp only; omega, hj, hvO, hvN, by simp only [outN] at hlen ⊢; omega, fun e' he => ?_, hall⟩, by simp only; omega, ?_⟩
  · injection he with he; subst he; exact ⟨rfl, h2, by simp only; omega, h4⟩
  dsimp only
  rw [hL]
  refine le_to (List.replicate 65 .hole ++ [.old 65] ++ List.replicate 44 .hole ++ [.old 110] ++ List.replicate 5 .hole) hl rfl ?_ ?_ <;> ((try simp only [y_blk_end, y_blk_hole, y_blk_nil, y_blk_old, y_wkl_end, y_wkl_top, List.replicate, List.cons_append, List.nil_append, and_true, true_and]) <;> (repeat' (first | apply And.intro | apply y_wkl | refine Exists.intro _ (And.intro rfl ?_))) <;> (try first | exact trivial | exact Wk.top _ | exact wk_int rfl | exact wk_bool rfl | exact wk_ptr rfl rfl rfl rfl | exact wk_ref rfl rfl rfl rfl rfl | exact wk_nil rfl rfl rfl | exact wk_ref rfl rfl rfl rfl (by simp) | exact wk_ref rfl rfl rfl rfl (by simp; omega) | exact wk_old (by assumption) (by simp) | exact wk_eq rfl (by first | exact Bd.int _ _ | exact Bd.bool _ | exact Bd.abool | exact Bd.nils | exact Bd.emp | exact Bd.nilp | exact Bd.nilfn | assumption | exact low_trees _ _ | exact low_treeD _ _ | exact low_ints _ _) | exact Nat.le_refl _ | exact wk_int (by simp) | exact wk_int (by omega) | exact Nat.succ_le_succ (Nat.zero_le _) | exact Nat.le_add_left _ _ | omega))
  all_goals first | exact WkL.app (WkL.low hLlow) (y_wkl wk_i (y_wkl wk_i (y_wkl (wk_ref rfl rfl rfl rfl rfl) trivial))) | exact WkL.low (low_iD _ _)

set_option maxHeartbeats 4000000 in
theorem rS_N3i_none {n : Nat} {h : Heap} (hl : LowH n h) {a b : List Int} (ha : a.length < 2 ^ 30) (hb : b.length < 2 ^ 30) {TT : List D} (tll : TT.length = a.length + 1) (tlow : Low n (.lst TT))
    (tab : ∀ {i j : Nat}, i ≤ a.length → j ≤ b.length → ∃ R : List Int, nth TT i = iD R ∧ R.length = b.length + 1 ∧ nth (R.map (D.int .i64)) j = .int .i64 (dG a b i j)) {i j : Nat} {E : List Ed} {vO vN : Nat}
    (hp : LpOk a b ⟨i, j, E, none, vO, vN⟩) (hia : i < a.length) (hjb : j < b.length) (hc : ¬ a[i] = b[j]) (hd : ¬ dG a b i j = 1 + dG a b (i + 1) j) (Q : Exit → St → Prop) : awpS prog C_Script_round (AThen (fun s' => ∃ b', LpOk a b b' ∧ a.length + b.length - b'.i - b'.j < a.length + b.length - i - j ∧ Le s' (lpS n h a b TT b')) Q) (lpS n h a b TT ⟨i, j, E, none, vO, vN⟩) := by
  obtain ⟨hi, hj, hvO, hvN, hlen, hnw, hall⟩ := hp
  simp only at hi hj hvO hvN hlen hnw hall
  have i0 : (0 : Int) ≤ (i : Int) := by omega
  have j0 : (0 : Int) ≤ (j : Int) := by omega
  have wi1 : IntKind.i64.wrap ((i : Int) + 1) = ((i + 1 : Nat) : Int) := by rw [IntWalk.i64_in _ (by omega)]; omega
  have wj1 : IntKind.i64.wrap ((j : Int) + 1) = ((j + 1 : Nat) : Int) := by rw [IntWalk.i64_in _ (by omega)]; omega
  have i3 : (0 : Int) ≤ ((i + 1 : Nat) : Int) := by omega
  have k0 : (0 : Int) ≤ (E.length : Int) := by omega
  have k1 : (E.length : Int) < ((E.length + 1 : Nat) : Int) := by omega
  have ws : IntKind.i64.wrap (((E.length + 1 : Nat) : Int) - 1) = (E.length : Int) := by rw [IntWalk.i64_in _ (by simp only [outN] at hlen; omega)]; omega
  have kf : (E.length + 1) * 40 ≤ 140737488355328 := by simp only [outN] at hlen; omega
  have hLl := eds_len E
  have i1 : (i : Int) < (a.length : Int) := by omega
  have e0 := nth_ints a i hia
  have iT : (i : Int) < (TT.length : Int) := by omega
  have iT1 : ((i + 1 : Nat) : Int) < (TT.length : Int) := by omega
  obtain ⟨R0, t0, R0l, n0⟩ := tab (i := i) (j := j) (by omega) (by omega)
  obtain ⟨R1, t1, R1l, n1⟩ := tab (i := i + 1) (j := j) (by omega) (by omega)
  have jR0 : (j : Int) < (R0.length : Int) := by omega
  have jR1 : (j : Int) < (R1.length : Int) := by omega
  have rg := dE_range (a.drop (i + 1)) (b.drop j)
  simp only [List.length_drop] at rg
  have u1 : IntKind.i64.wrap (1 + dG a b (i + 1) j) = 1 + dG a b (i + 1) j := IntWalk.i64_in _ (by unfold dG; omega)
  have j1 : (j : Int) < (b.length : Int) := by omega
  have e1 := nth_ints b j hjb
  have bC : (a[i] == b[j]) = false := by simp [hc]
  have bD : (dG a b i j == 1 + dG a b (i + 1) j) = false := by simp [hd]
  rw [scrAt_ins hjb (.inr ⟨hia, hc, hd⟩)] at hall
  unfold C_Script_round lpS
  simp only [outC, newC, outN, Option.isSome]
  obtain ⟨L, hL⟩ : ∃ L, cellsF edD E = L := ⟨_, rfl⟩
  rw [hL] at hLl ⊢
  have hLlow : ∀ c ∈ L, Low n c := by rw [← hL]; exact eds_low n E
  have hLt : L.take (E.length * 3) = L := List.take_of_length_le (by omega)
  have p1 := put_1 hLl
  have p2 := put_2 hLl
  have p3 := nth_2 hLl
  have p4 := nth_1 hLl
  simp -implicitDefEqProofs only [↓symPre, symPost, y_condP, y_condG, run, lver, minD, intsD, eqAll, tupD, splice, Nat.zero_add, Nat.add_zero, Nat.zero_mul, Nat.mul_one, Nat.one_mul, Nat.reduceAdd, Nat.reduceSub, Nat.reduceMul, Nat.reduceLT, Nat.reduceLeDiff, Nat.reduceEqDiff, true_and, and_true, true_implies, if_true, if_false, ite_true, reduceIte, ne_eq, not_false_eq_true, reduceCtorEq, forall_const, bne_self_eq_false, Bool.true_eq_false, Bool.false_eq_true, false_implies, and_self, implies_true, Int.toNat_zero, beq_self_eq_true, decide_true, decide_false, Bool.not_true, Bool.not_false, ↓y_call, List.length_map, i1, decide_true]
  refine adrawq hmix [] ?_
  simp (maxSteps := 400000) -implicitDefEqProofs only [↓symPre, symPost, y_condP, y_condG, run, lver, minD, intsD, eqAll, tupD, splice, Nat.zero_add, Nat.add_zero, Nat.zero_mul, Nat.mul_one, Nat.one_mul, Nat.reduceAdd, Nat.reduceSub, Nat.reduceMul, Nat.reduceLT, Nat.reduceLeDiff, Nat.reduceEqDiff, true_and, and_true, true_implies, if_true, if_false, ite_true, reduceIte, ne_eq, not_false_eq_true, reduceCtorEq, forall_const, bne_self_eq_false, Bool.true_eq_false, Bool.false_eq_true, false_implies, and_self, implies_true, Int.toNat_zero, beq_self_eq_true, decide_true, decide_false, Bool.not_true, Bool.not_false, ↓y_call, ↓drawPre, ↓y_adq_onS, drawPost, isCall, isNew, isEff, Option.toList, or_false, false_or, cond_true, cond_false, not_true_eq_false, or_true, true_or, Nat.add_left_cancel_iff, Bool.false_eq_true, List.length_map, Int.toNat_natCast, decide_true, decide_false, ws, k0, k1, List.drop_zero, hLt, hLl, kf, Nat.le_refl, Nat.zero_le, List.length_append, List.length_cons, List.length_nil, i0, i1, j0, j1, e0, e1, bC]
  refine ⟨by rintro c (rfl | rfl | rfl) <;> rfl, ?_⟩
  refine adrawq hmix [] ?_
  simp (maxSteps := 400000) -implicitDefEqProofs only [↓symPre, symPost, y_condP, y_condG, run, lver, minD, intsD, eqAll, tupD, splice, Nat.zero_add, Nat.add_zero, Nat.zero_mul, Nat.mul_one, Nat.one_mul, Nat.reduceAdd, Nat.reduceSub, Nat.reduceMul, Nat.reduceLT, Nat.reduceLeDiff, Nat.reduceEqDiff, true_and, and_true, true_implies, if_true, if_false, ite_true, reduceIte, ne_eq, not_false_eq_true, reduceCtorEq, forall_const, bne_self_eq_false, Bool.true_eq_false, Bool.false_eq_true, false_implies, and_self, implies_true, Int.toNat_zero, beq_self_eq_true, decide_true, decide_false, Bool.not_true, Bool.not_false, ↓y_call, ↓drawPre, ↓y_adq_onS, drawPost, isCall, isNew, isEff, Option.toList, or_false, false_or, cond_true, cond_false, not_true_eq_false, or_true, true_or, Nat.add_left_cancel_iff, Bool.false_eq_true, List.length_map, Int.toNat_natCast, decide_true, decide_false, ws, k0, k1, List.drop_zero, hLt, hLl, kf, Nat.le_refl, Nat.zero_le, List.length_append, List.length_cons, List.length_nil, i0, i1, i3, j0, t0, t1, n0, n1, iT, iT1, jR0, jR1, u1, bD, wi1, p1]
  refine adrawq hmix (List.replicate 10 [] ++ [[n + 110], [], [], [n + 65]]) ?_
  simp (maxSteps := 400000) -implicitDefEqProofs only [↓symPre, symPost, y_condP, y_condG, run, lver, minD, intsD, eqAll, tupD, splice, Nat.zero_add, Nat.add_zero, Nat.zero_mul, Nat.mul_one, Nat.one_mul, Nat.reduceAdd, Nat.reduceSub, Nat.reduceMul, Nat.reduceLT, Nat.reduceLeDiff, Nat.reduceEqDiff, true_and, and_true, true_implies, if_true, if_false, ite_true, reduceIte, ne_eq, not_false_eq_true, reduceCtorEq, forall_const, bne_self_eq_false, Bool.true_eq_false, Bool.false_eq_true, false_implies, and_self, implies_true, Int.toNat_zero, beq_self_eq_true, decide_true, decide_false, Bool.not_true, Bool.not_false, ↓y_call, ↓drawPre, ↓y_adq_onS, drawPost, isCall, isNew, isEff, Option.toList, or_false, false_or, cond_true, cond_false, not_true_eq_false, or_true, true_or, Nat.add_left_cancel_iff, Bool.false_eq_true, List.length_map, Int.toNat_natCast, decide_true, decide_false, ws, k0, k1, List.drop_zero, hLt, hLl, kf, Nat.le_refl, Nat.zero_le, List.length_append, List.length_cons, List.length_nil, j0, j1, e1, p2, p3, wj1, List.replicate, List.cons_append, List.nil_append, List.getD_cons_succ, List.getD_cons_zero]
  refine ⟨by simp, by simp, by omega, by rintro c rfl; rfl, by simp, by simp, by rintro c rfl; rfl, ⟨i, j + 1, E, some ⟨i, i, [b[j]]⟩, vO + 1, vN + 1⟩, ⟨hi, by simp only; omega, by simp only; omega, by simp only; omega, by simp only [outN] at hlen ⊢; omega, fun e' he => ?_, hall⟩, by simp only; omega, ?_⟩
  · injection he with he; subst he; exact ⟨rfl, by simp, Int.le_refl _, by simp⟩
  dsimp only
  rw [hL]
  refine le_to (List.replicate 65 .hole ++ [.old 65] ++ List.replicate 44 .hole ++ [.old 110] ++ List.replicate 5 .hole) hl rfl ?_ ?_ <;> ((try simp only [y_blk_end, y_blk_hole, y_blk_nil, y_blk_old, y_wkl_end, y_wkl_top, List.replicate, List.cons_append, List.nil_append, and_true, true_and]) <;> (repeat' (first | apply And.intro | apply y_wkl | refine Exists.intro _ (And.intro rfl ?_))) <;> (try first | exact trivial | exact Wk.top _ | exact wk_int rfl | exact wk_bool rfl | exact wk_ptr rfl rfl rfl rfl | exact wk_ref rfl rfl rfl rfl rfl | exact wk_nil rfl rfl rfl | exact wk_ref rfl rfl rfl rfl (by simp) | exact wk_ref rfl rfl rfl rfl (by simp; omega) | exact wk_old (by assumption) (by simp) | exact wk_eq rfl (by first | exact Bd.int _ _ | exact Bd.bool _ | exact Bd.abool | exact Bd.nils | exact Bd.emp | exact Bd.nilp | exact Bd.nilfn | assumption | exact low_trees _ _ | exact low_treeD _ _ | exact low_ints _ _) | exact Nat.le_refl _ | exact wk_int (by simp) | exact wk_int (by omega) | exact Nat.succ_le_succ (Nat.zero_le _) | exact Nat.le_add_left _ _ | omega))
  all_goals first | exact WkL.app (WkL.low hLlow) (y_wkl wk_i (y_wkl wk_i (y_wkl (wk_ref rfl rfl rfl rfl rfl) trivial))) | exact wkl_snoc [] _

set_option maxHeartbeats 4000000 in
theorem rS_N3i_some {n : Nat} {h : Heap} (hl : LowH n h) {a b : List Int} (ha : a.length < 2 ^ 30) (hb : b.length < 2 ^ 30) {TT : List D} (tll : TT.length = a.length + 1) (tlow : Low n (.lst TT))
    (tab : ∀ {i j : Nat}, i ≤ a.length → j ≤ b.length → ∃ R : List Int, nth TT i = iD R ∧ R.length = b.length + 1 ∧ nth (R.map (D.int .i64)) j = .int .i64 (dG a b i j)) {i j : Nat} {E : List Ed} {e : Ed} {vO vN : Nat}
    (hp : LpOk a b ⟨i, j, E, some e, vO, vN⟩) (hia : i < a.length) (hjb : j < b.length) (hc : ¬ a[i] = b[j]) (hd : ¬ dG a b i j = 1 + dG a b (i + 1) j) (Q : Exit → St → Prop) : awpS prog C_Script_round (AThen (fun s' => ∃ b', LpOk a b b' ∧ a.length + b.length - b'.i - b'.j < a.length + b.length - i - j ∧ Le s' (lpS n h a b TT b')) Q) (lpS n h a b TT ⟨i, j, E, some e, vO, vN⟩) := by
  obtain ⟨hi, hj, hvO, hvN, hlen, hnw, hall⟩ := hp
  simp only at hi hj hvO hvN hlen hnw hall
  have i0 : (0 : Int) ≤ (i : Int) := by omega
  have j0 : (0 : Int) ≤ (j : Int) := by omega
  have wi1 : IntKind.i64.wrap ((i : Int) + 1) = ((i + 1 : Nat) : Int) := by rw [IntWalk.i64_in _ (by omega)]; omega
  have wj1 : IntKind.i64.wrap ((j : Int) + 1) = ((j + 1 : Nat) : Int) := by rw [IntWalk.i64_in _ (by omega)]; omega
  have i3 : (0 : Int) ≤ ((i + 1 : Nat) : Int) := by omega
  have k0 : (0 : Int) ≤ (E.length : Int) := by omega
  have k1 : (E.length : Int) < ((E.length + 1 : Nat) : Int) := by omega
  have ws : IntKind.i64.wrap (((E.length + 1 : Nat) : Int) - 1) = (E.length : Int) := by rw [IntWalk.i64_in _ (by simp only [outN] at hlen; omega)]; omega
  have kf : (E.length + 1) * 40 ≤ 140737488355328 := by simp only [outN] at hlen; omega
  have hLl := eds_len E
  have i1 : (i : Int) < (a.length : Int) := by omega
  have e0 := nth_ints a i hia
  have iT : (i : Int) < (TT.length : Int) := by omega
  have iT1 : ((i + 1 : Nat) : Int) < (TT.length : Int) := by omega
  obtain ⟨R0, t0, R0l, n0⟩ := tab (i := i) (j := j) (by omega) (by omega)
  obtain ⟨R1, t1, R1l, n1⟩ := tab (i := i + 1) (j := j) (by omega) (by omega)
  have jR0 : (j : Int) < (R0.length : Int) := by omega
  have jR1 : (j : Int) < (R1.length : Int) := by omega
  have rg := dE_range (a.drop (i + 1)) (b.drop j)
  simp only [List.length_drop] at rg
  have u1 : IntKind.i64.wrap (1 + dG a b (i + 1) j) = 1 + dG a b (i + 1) j := IntWalk.i64_in _ (by unfold dG; omega)
  have j1 : (j : Int) < (b.length : Int) := by omega
  have e1 := nth_ints b j hjb
  have bC : (a[i] == b[j]) = false := by simp [hc]
  have bD : (dG a b i j == 1 + dG a b (i + 1) j) = false := by simp [hd]
  rw [scrAt_ins hjb (.inr ⟨hia, hc, hd⟩)] at hall
  obtain ⟨h1, h2, h3, h4⟩ := hnw e rfl
  have nf : (e.w.length + 1) * 8 ≤ 140737488355328 := by omega
  have hNt : (e.w.map (D.int .i64)).take e.w.length = e.w.map (D.int .i64) := List.take_of_length_le (by simp)
  unfold C_Script_round lpS
  simp only [outC, newC, outN, Option.isSome]
  obtain ⟨L, hL⟩ : ∃ L, cellsF edD E = L := ⟨_, rfl⟩
  rw [hL] at hLl ⊢
  have hLlow : ∀ c ∈ L, Low n c := by rw [← hL]; exact eds_low n E
  have hLt : L.take (E.length * 3) = L := List.take_of_length_le (by omega)
  have p1 := put_1 hLl
  have p2 := put_2 hLl
  have p3 := nth_2 hLl
  have p4 := nth_1 hLl
  simp -implicitDefEqProofs only [↓symPre, symPost, y_condP, y_condG, run, lver, minD, intsD, eqAll, tupD, splice, Nat.zero_add, Nat.add_zero, Nat.zero_mul, Nat.mul_one, Nat.one_mul, Nat.reduceAdd, Nat.reduceSub, Nat.reduceMul, Nat.reduceLT, Nat.reduceLeDiff, Nat.reduceEqDiff, true_and, and_true, true_implies, if_true, if_false, ite_true, reduceIte, ne_eq, not_false_eq_true, reduceCtorEq, forall_const, bne_self_eq_false, Bool.true_eq_false, Bool.false_eq_true, false_implies, and_self, implies_true, Int.toNat_zero, beq_self_eq_true, decide_true, decide_false, Bool.not_true, Bool.not_false, ↓y_call, List.length_map, i1, decide_true]
  refine adrawq hmix [] ?_
  simp (maxSteps := 400000) -implicitDefEqProofs only [↓symPre, symPost, y_condP, y_condG, run, lver, minD, intsD, eqAll, tupD, splice, Nat.zero_add, Nat.add_zero, Nat.zero_mul, Nat.mul_one, Nat.one_mul, Nat.reduceAdd, Nat.reduceSub, Nat.reduceMul, Nat.reduceLT, Nat.reduceLeDiff, Nat.reduceEqDiff, true_and, and_true, true_implies, if_true, if_false, ite_true, reduceIte, ne_eq, not_false_eq_true, reduceCtorEq, forall_const, bne_self_eq_false, Bool.true_eq_false, Bool.false_eq_true, false_implies, and_self, implies_true, Int.toNat_zero, beq_self_eq_true, decide_true, decide_false, Bool.not_true, Bool.not_false, ↓y_call, ↓drawPre, ↓y_adq_onS, drawPost, isCall, isNew, isEff, Option.toList, or_false, false_or, cond_true, cond_false, not_true_eq_false, or_true, true_or, Nat.add_left_cancel_iff, Bool.false_eq_true, List.length_map, Int.toNat_natCast, decide_true, decide_false, ws, k0, k1, List.drop_zero, hLt, hLl, kf, Nat.le_refl, Nat.zero_le, List.length_append, List.length_cons, List.length_nil, i0, i1, j0, j1, e0, e1, bC]
  refine adrawq hmix [] ?_
  simp (maxSteps := 400000) -implicitDefEqProofs only [↓symPre, symPost, y_condP, y_condG, run, lver, minD, intsD, eqAll, tupD, splice, Nat.zero_add, Nat.add_zero, Nat.zero_mul, Nat.mul_one, Nat.one_mul, Nat.reduceAdd, Nat.reduceSub, Nat.reduceMul, Nat.reduceLT, Nat.reduceLeDiff, Nat.reduceEqDiff, true_and, and_true, true_implies, if_true, if_false, ite_true, reduceIte, ne_eq, not_false_eq_true, reduceCtorEq, forall_const, bne_self_eq_false, Bool.true_eq_false, Bool.false_eq_true, false_implies, and_self, implies_true, Int.toNat_zero, beq_self_eq_true, decide_true, decide_false, Bool.not_true, Bool.not_false, ↓y_call, ↓drawPre, ↓y_adq_onS, drawPost, isCall, isNew, isEff, Option.toList, or_false, false_or, cond_true, cond_false, not_true_eq_false, or_true, true_or, Nat.add_left_cancel_iff, Bool.false_eq_true, List.length_map, Int.toNat_natCast, decide_true, decide_false, ws, k0, k1, List.drop_zero, hLt, hLl, kf, Nat.le_refl, Nat.zero_le, List.length_append, List.length_cons, List.length_nil, i0, i1, i3, j0, t0, t1, n0, n1, iT, iT1, jR0, jR1, u1, bD, wi1, p1]
  refine adrawq hmix (List.replicate 10 [] ++ [[n + 110], [], [], [n + 65]]) ?_
  simp (maxSteps := 400000) -implicitDefEqProofs only [↓symPre, symPost, y_condP, y_condG, run, lver, minD, intsD, eqAll, tupD, splice, Nat.zero_add, Nat.add_zero, Nat.zero_mul, Nat.mul_one, Nat.one_mul, Nat.reduceAdd, Nat.reduceSub, Nat.reduceMul, Nat.reduceLT, Nat.reduceLeDiff, Nat.reduceEqDiff, true_and, and_true, true_implies, if_true, if_false, ite_true, reduceIte, ne_eq, not_false_eq_true, reduceCtorEq, forall_const, bne_self_eq_false, Bool.true_eq_false, Bool.false_eq_true, false_implies, and_self, implies_true, Int.toNat_zero, beq_self_eq_true, decide_true, decide_false, Bool.not_true, Bool.not_false, ↓y_call, ↓drawPre, ↓y_adq_onS, drawPost, isCall, isNew, isEff, Option.toList, or_false, false_or, cond_true, cond_false, not_true_eq_false, or_true, true_or, Nat.add_left_cancel_iff, Bool.false_eq_true, List.length_map, Int.toNat_natCast, decide_true, decide_false, ws, k0, k1, List.drop_zero, hLt, hLl, kf, Nat.le_refl, Nat.zero_le, List.length_append, List.length_cons, List.length_nil, j0, j1, e1, p2, p3, wj1, nf, hNt, List.replicate, List.cons_append, List.nil_append, List.getD_cons_succ, List.getD_cons_zero]
  refine ⟨by simp, by simp, by omega, by rintro c rfl; rfl, by simp, by simp, by rintro c rfl; rfl, ⟨i, j + 1, E, some { e with w := e.w ++ [b[j]] }, vO, vN + 1⟩, ⟨hi, by simp only; omega, hvO, by simp only; omega, by simp only [outN] at hlen ⊢; omega, fun e' he => ?_, hall⟩, by simp only; omega, ?_⟩
  · injection he with he; subst he; exact ⟨h1, h2, h3, by simp; omega⟩
  dsimp only
  rw [hL]
  refine le_to (List.replicate 65 .hole ++ [.old 65] ++ List.replicate 44 .hole ++ [.old 110] ++ List.replicate 5 .hole) hl rfl ?_ ?_ <;> ((try simp only [y_blk_end, y_blk_hole, y_blk_nil, y_blk_old, y_wkl_end, y_wkl_top, List.replicate, List.cons_append, List.nil_append, and_true, true_and]) <;> (repeat' (first | apply And.intro | apply y_wkl | refine Exists.intro _ (And.intro rfl ?_))) <;> (try first | exact trivial | exact Wk.top _ | exact wk_int rfl | exact wk_bool rfl | exact wk_ptr rfl rfl rfl rfl | exact wk_ref rfl rfl rfl rfl rfl | exact wk_nil rfl rfl rfl | exact wk_ref rfl rfl rfl rfl (by simp) | exact wk_ref rfl rfl rfl rfl (by simp; omega) | exact wk_old (by assumption) (by simp) | exact wk_eq rfl (by first | exact Bd.int _ _ | exact Bd.bool _ | exact Bd.abool | exact Bd.nils | exact Bd.emp | exact Bd.nilp | exact Bd.nilfn | assumption | exact low_trees _ _ | exact low_treeD _ _ | exact low_ints _ _) | exact Nat.le_refl _ | exact wk_int (by simp) | exact wk_int (by omega) | exact Nat.succ_le_succ (Nat.zero_le _) | exact Nat.le_add_left _ _ | omega))
  all_goals first | exact WkL.app (WkL.low hLlow) (y_wkl wk_i (y_wkl wk_i (y_wkl (wk_ref rfl rfl rfl rfl (by simp)) trivial))) | exact wkl_snoc _ _

set_option maxHeartbeats 4000000 in
theorem rS_N2d_none {n : Nat} {h : Heap} (hl : LowH n h) {a b : List Int} (ha : a.length < 2 ^ 30) (hb : b.length < 2 ^ 30) {TT : List D} (tll : TT.length = a.length + 1) (tlow : Low n (.lst TT))
    (tab : ∀ {i j : Nat}, i ≤ a.length → j ≤ b.length → ∃ R : List Int, nth TT i = iD R ∧ R.length = b.length + 1 ∧ nth (R.map (D.int .i64)) j = .int .i64 (dG a b i j)) {i j : Nat} {E : List Ed} {vO vN : Nat}
    (hp : LpOk a b ⟨i, j, E, none, vO, vN⟩) (hia : i < a.length) (hjb : ¬ j < b.length) (Q : Exit → St → Prop) : awpS prog C_Script_round (AThen (fun s' => ∃ b', LpOk a b b' ∧ a.length + b.length - b'.i - b'.j < a.length + b.length - i - j ∧ Le s' (lpS n h a b TT b')) Q) (lpS n h a b TT ⟨i, j, E, none, vO, vN⟩) := by
  obtain ⟨hi, hj, hvO, hvN, hlen, hnw, hall⟩ := hp
  simp only at hi hj hvO hvN hlen hnw hall
  have i0 : (0 : Int) ≤ (i : Int) := by omega
  have j0 : (0 : Int) ≤ (j : Int) := by omega
  have wi1 : IntKind.i64.wrap ((i : Int) + 1) = ((i + 1 : Nat) : Int) := by rw [IntWalk.i64_in _ (by omega)]; omega
  have wj1 : IntKind.i64.wrap ((j : Int) + 1) = ((j + 1 : Nat) : Int) := by rw [IntWalk.i64_in _ (by omega)]; omega
  have i3 : (0 : Int) ≤ ((i + 1 : Nat) : Int) := by omega
  have k0 : (0 : Int) ≤ (E.length : Int) := by omega
  have k1 : (E.length : Int) < ((E.length + 1 : Nat) : Int) := by omega
  have ws : IntKind.i64.wrap (((E.length + 1 : Nat) : Int) - 1) = (E.length : Int) := by rw [IntWalk.i64_in _ (by simp only [outN] at hlen; omega)]; omega
  have kf : (E.length + 1) * 40 ≤ 140737488355328 := by simp only [outN] at hlen; omega
  have hLl := eds_len E
  have i1 : (i : Int) < (a.length : Int) := by omega
  have e0 := nth_ints a i hia
  have iT : (i : Int) < (TT.length : Int) := by omega
  have iT1 : ((i + 1 : Nat) : Int) < (TT.length : Int) := by omega
  obtain ⟨R0, t0, R0l, n0⟩ := tab (i := i) (j := j) (by omega) (by omega)
  obtain ⟨R1, t1, R1l, n1⟩ := tab (i := i + 1) (j := j) (by omega) (by omega)
  have jR0 : (j : Int) < (R0.length : Int) := by omega
  have jR1 : (j : Int) < (R1.length : Int) := by omega
  have rg := dE_range (a.drop (i + 1)) (b.drop j)
  simp only [List.length_drop] at rg
  have u1 : IntKind.i64.wrap (1 + dG a b (i + 1) j) = 1 + dG a b (i + 1) j := IntWalk.i64_in _ (by unfold dG; omega)
  have nj1 : ¬ (j : Int) < (b.length : Int) := by omega
  have hd := dG_end (a := a) (b := b) hia (show b.length ≤ j by omega)
  have bD : (dG a b i j == 1 + dG a b (i + 1) j) = true := by simp [hd]
  rw [scrAt_del hia (.inl (by omega))] at hall
  unfold C_Script_round lpS
  simp only [outC, newC, outN, Option.isSome]
  obtain ⟨L, hL⟩ : ∃ L, cellsF edD E = L := ⟨_, rfl⟩
  rw [hL] at hLl ⊢
  have hLlow : ∀ c ∈ L, Low n c := by rw [← hL]; exact eds_low n E
  have hLt : L.take (E.length * 3) = L := List.take_of_length_le (by omega)
  have p1 := put_1 hLl
  have p2 := put_2 hLl
  have p3 := nth_2 hLl
  have p4 := nth_1 hLl
  simp -implicitDefEqProofs only [↓symPre, symPost, y_condP, y_condG, run, lver, minD, intsD, eqAll, tupD, splice, Nat.zero_add, Nat.add_zero, Nat.zero_mul, Nat.mul_one, Nat.one_mul, Nat.reduceAdd, Nat.reduceSub, Nat.reduceMul, Nat.reduceLT, Nat.reduceLeDiff, Nat.reduceEqDiff, true_and, and_true, true_implies, if_true, if_false, ite_true, reduceIte, ne_eq, not_false_eq_true, reduceCtorEq, forall_const, bne_self_eq_false, Bool.true_eq_false, Bool.false_eq_true, false_implies, and_self, implies_true, Int.toNat_zero, beq_self_eq_true, decide_true, decide_false, Bool.not_true, Bool.not_false, ↓y_call, List.length_map, i1, decide_true]
  refine adrawq hmix [] ?_
  simp (maxSteps := 400000) -implicitDefEqProofs only [↓symPre, symPost, y_condP, y_condG, run, lver, minD, intsD, eqAll, tupD, splice, Nat.zero_add, Nat.add_zero, Nat.zero_mul, Nat.mul_one, Nat.one_mul, Nat.reduceAdd, Nat.reduceSub, Nat.reduceMul, Nat.reduceLT, Nat.reduceLeDiff, Nat.reduceEqDiff, true_and, and_true, true_implies, if_true, if_false, ite_true, reduceIte, ne_eq, not_false_eq_true, reduceCtorEq, forall_const, bne_self_eq_false, Bool.true_eq_false, Bool.false_eq_true, false_implies, and_self, implies_true, Int.toNat_zero, beq_self_eq_true, decide_true, decide_false, Bool.not_true, Bool.not_false, ↓y_call, ↓drawPre, ↓y_adq_onS, drawPost, isCall, isNew, isEff, Option.toList, or_false, false_or, cond_true, cond_false, not_true_eq_false, or_true, true_or, Nat.add_left_cancel_iff, Bool.false_eq_true, List.length_map, Int.toNat_natCast, decide_true, decide_false, ws, k0, k1, List.drop_zero, hLt, hLl, kf, Nat.le_refl, Nat.zero_le, List.length_append, List.length_cons, List.length_nil, i0, i1, j0, nj1]
  refine ⟨by rintro c (rfl | rfl | rfl) <;> rfl, ?_⟩
  refine adrawq hmix [] ?_
  simp (maxSteps := 400000) -implicitDefEqProofs only [↓symPre, symPost, y_condP, y_condG, run, lver, minD, intsD, eqAll, tupD, splice, Nat.zero_add, Nat.add_zero, Nat.zero_mul, Nat.mul_one, Nat.one_mul, Nat.reduceAdd, Nat.reduceSub, Nat.reduceMul, Nat.reduceLT, Nat.reduceLeDiff, Nat.reduceEqDiff, true_and, and_true, true_implies, if_true, if_false, ite_true, reduceIte, ne_eq, not_false_eq_true, reduceCtorEq, forall_const, bne_self_eq_false, Bool.true_eq_false, Bool.false_eq_true, false_implies, and_self, implies_true, Int.toNat_zero, beq_self_eq_true, decide_true, decide_false, Bool.not_true, Bool.not_false, ↓y_call, ↓drawPre, ↓y_adq_onS, drawPost, isCall, isNew, isEff, Option.toList, or_false, false_or, cond_true, cond_false, not_true_eq_false, or_true, true_or, Nat.add_left_cancel_iff, Bool.false_eq_true, List.length_map, Int.toNat_natCast, decide_true, decide_false, ws, k0, k1, List.drop_zero, hLt, hLl, kf, Nat.le_refl, Nat.zero_le, List.length_append, List.length_cons, List.length_nil, i0, i1, i3, j0, t0, t1, n0, n1, iT, iT1, jR0, jR1, u1, bD, wi1, p1]
  refine ⟨by simp, by simp, by rintro c rfl; rfl, by omega, ⟨i + 1, j, E, some ⟨i, ((i + 1 : Nat) : Int), []⟩, vO + 1, 1⟩, ⟨by simp only; omega, hj, by simp only; omega, Nat.le_refl _, by simp only [outN] at hlen ⊢; omega, fun e' he => ?_, hall⟩, by simp only; omega, ?_⟩
  · injection he with he; subst he; exact ⟨rfl, by simp, by simp only; omega, by simp⟩
  dsimp only
  rw [hL]
  refine le_to (List.replicate 65 .hole ++ [.old 65] ++ List.replicate 44 .hole ++ [.nil] ++ List.replicate 5 .hole) hl rfl ?_ ?_ <;> ((try simp only [y_blk_end, y_blk_hole, y_blk_nil, y_blk_old, y_wkl_end, y_wkl_top, List.replicate, List.cons_append, List.nil_append, and_true, true_and]) <;> (repeat' (first | apply And.intro | apply y_wkl | refine Exists.intro _ (And.intro rfl ?_))) <;> (try first | exact trivial | exact Wk.top _ | exact wk_int rfl | exact wk_bool rfl | exact wk_ptr rfl rfl rfl rfl | exact wk_ref rfl rfl rfl rfl rfl | exact wk_nil rfl rfl rfl | exact wk_ref rfl rfl rfl rfl (by simp) | exact wk_ref rfl rfl rfl rfl (by simp; omega) | exact wk_old (by assumption) (by simp) | exact wk_eq rfl (by first | exact Bd.int _ _ | exact Bd.bool _ | exact Bd.abool | exact Bd.nils | exact Bd.emp | exact Bd.nilp | exact Bd.nilfn | assumption | exact low_trees _ _ | exact low_treeD _ _ | exact low_ints _ _) | exact Nat.le_refl _ | exact wk_int (by simp) | exact wk_int (by omega) | exact Nat.succ_le_succ (Nat.zero_le _) | exact Nat.le_add_left _ _ | omega))
  all_goals exact WkL.app (WkL.low hLlow) (y_wkl wk_i (y_wkl wk_i (y_wkl (wk_nil rfl rfl rfl) trivial)))

set_option maxHeartbeats 4000000 in
theorem rS_N2d_some {n : Nat} {h : Heap} (hl : LowH n h) {a b : List Int} (ha : a.length < 2 ^ 30) (hb : b.length < 2 ^ 30) {TT : List D} (tll : TT.length = a.length + 1) (tlow : Low n (.lst TT))
    (tab : ∀ {i j : Nat}, i ≤ a.length → j ≤ b.length → ∃ R : List Int, nth TT i = iD R ∧ R.length = b.length + 1 ∧ nth (R.map (D.int .i64)) j = .int .i64 (dG a b i j)) {i j : Nat} {E : List Ed} {e : Ed} {vO vN : Nat}
    (hp : LpOk a b ⟨i, j, E, some e, vO, vN⟩) (hia : i < a.length) (hjb : ¬ j < b.length) (Q : Exit → St → Prop) : awpS prog C_Script_round (AThen (fun s' => ∃ b', LpOk a b b' ∧ a.length + b.length - b'.i - b'.j < a.length + b.length - i - j ∧ Le s' (lpS n h a b TT b')) Q) (lpS n h a b TT ⟨i, j, E, some e, vO, vN⟩) := by
  obtain ⟨hi, hj, hvO, hvN, hlen, hnw, hall⟩ := hp
  simp only at hi hj hvO hvN hlen hnw hall
  have i0 : (0 : Int) ≤ (i : Int) := by omega
  have j0 : (0 : Int) ≤ (j : Int) := by omega
  have wi1 : IntKind.i64.wrap ((i : Int) + 1) = ((i + 1 : Nat) : Int) := by rw [IntWalk.i64_in _ (by omega)]; omega
  have wj1 : IntKind.i64.wrap ((j : Int) + 1) = ((j + 1 : Nat) : Int) := by rw [IntWalk.i64_in _ (by omega)]; omega
  have i3 : (0 : Int) ≤ ((i + 1 : Nat) : Int) := by omega
  have k0 : (0 : Int) ≤ (E.length : Int) := by omega
  have k1 : (E.length : Int) < ((E.length + 1 : Nat) : Int) := by omega
  have ws : IntKind.i64.wrap (((E.length + 1 : Nat) : Int) - 1) = (E.length : Int) := by rw [IntWalk.i64_in _ (by simp only [outN] at hlen; omega)]; omega
  have kf : (E.length + 1) * 40 ≤ 140737488355328 := by simp only [outN] at hlen; omega
  have hLl := eds_len E
  have i1 : (i : Int) < (a.length : Int) := by omega
  have e0 := nth_ints a i hia
  have iT : (i : Int) < (TT.length : Int) := by omega
  have iT1 : ((i + 1 : Nat) : Int) < (TT.length : Int) := by omega
  obtain ⟨R0, t0, R0l, n0⟩ := tab (i := i) (j := j) (by omega) (by omega)
  obtain ⟨R1, t1, R1l, n1⟩ := tab (i := i + 1) (j := j) (by omega) (by omega)
  have jR0 : (j : Int) < (R0.length : Int) := by omega
  have jR1 : (j : Int) < (R1.length : Int) := by omega
  have rg := dE_range (a.drop (i + 1)) (b.drop j)
  simp only [List.length_drop] at rg
  have u1 : IntKind.i64.wrap (1 + dG a b (i + 1) j) = 1 + dG a b (i + 1) j := IntWalk.i64_in _ (by unfold dG; omega)
  have nj1 : ¬ (j : Int) < (b.length : Int) := by omega
  have hd := dG_end (a := a) (b := b) hia (show b.length ≤ j by omega)
  have bD : (dG a b i j == 1 + dG a b (i + 1) j) = true := by simp [hd]
  rw [scrAt_del hia (.inl (by omega))] at hall
  obtain ⟨h1, h2, h3, h4⟩ := hnw e rfl
  have nf : (e.w.length + 1) * 8 ≤ 140737488355328 := by omega
  have hNt : (e.w.map (D.int .i64)).take e.w.length = e.w.map (D.int .i64) := List.take_of_length_le (by simp)
  unfold C_Script_round lpS
  simp only [outC, newC, outN, Option.isSome]
  obtain ⟨L, hL⟩ : ∃ L, cellsF edD E = L := ⟨_, rfl⟩
  rw [hL] at hLl ⊢
  have hLlow : ∀ c ∈ L, Low n c := by rw [← hL]; exact eds_low n E
  have hLt : L.take (E.length * 3) = L := List.take_of_length_le (by omega)
  have p1 := put_1 hLl
  have p2 := put_2 hLl
  have p3 := nth_2 hLl
  have p4 := nth_1 hLl
  simp -implicitDefEqProofs only [↓symPre, symPost, y_condP, y_condG, run, lver, minD, intsD, eqAll, tupD, splice, Nat.zero_add, Nat.add_zero, Nat.zero_mul, Nat.mul_one, Nat.one_mul, Nat.reduceAdd, Nat.reduceSub, Nat.reduceMul, Nat.reduceLT, Nat.reduceLeDiff, Nat.reduceEqDiff, true_and, and_true, true_implies, if_true, if_false, ite_true, reduceIte, ne_eq, not_false_eq_true, reduceCtorEq, forall_const, bne_self_eq_false, Bool.true_eq_false, Bool.false_eq_true, false_implies, and_self, implies_true, Int.toNat_zero, beq_self_eq_true, decide_true, decide_false, Bool.not_true, Bool.not_false, ↓y_call, List.length_map, i1, decide_true]
  refine adrawq hmix [] ?_
  simp (maxSteps := 400000) -implicitDefEqProofs only [↓symPre, symPost, y_condP, y_condG, run, lver, minD, intsD, eqAll, tupD, splice, Nat.zero_add, Nat.add_zero, Nat.zero_mul, Nat.mul_one, Nat.one_mul, Nat.reduceAdd, Nat.reduceSub, Nat.reduceMul, Nat.reduceLT, Nat.reduceLeDiff, Nat.reduceEqDiff, true_and, and_true, true_implies, if_true, if_false, ite_true, reduceIte, ne_eq, not_false_eq_true, reduceCtorEq, forall_const, bne_self_eq_false, Bool.true_eq_false, Bool.false_eq_true, false_implies, and_self, implies_true, Int.toNat_zero, beq_self_eq_true, decide_true, decide_false, Bool.not_true, Bool.not_false, ↓y_call, ↓drawPre, ↓y_adq_onS, drawPost, isCall, isNew, isEff, Option.toList, or_false, false_or, cond_true, cond_false, not_true_eq_false, or_true, true_or, Nat.add_left_cancel_iff, Bool.false_eq_true, List.length_map, Int.toNat_natCast, decide_true, decide_false, ws, k0, k1, List.drop_zero, hLt, hLl, kf, Nat.le_refl, Nat.zero_le, List.length_append, List.length_cons, List.length_nil, i0, i1, j0, nj1]
  refine adrawq hmix [] ?_
  simp (maxSteps := 400000) -implicitDefEqProofs only [↓symPre, symPost, y_condP, y_condG, run, lver, minD, intsD, eqAll, tupD, splice, Nat.zero_add, Nat.add_zero, Nat.zero_mul, Nat.mul_one, Nat.one_mul, Nat.reduceAdd, Nat.reduceSub, Nat.reduceMul, Nat.reduceLT, Nat.reduceLeDiff, Nat.reduceEqDiff, true_and, and_true, true_implies, if_true, if_false, ite_true, reduceIte, ne_eq, not_false_eq_true, reduceCtorEq, forall_const, bne_self_eq_false, Bool.true_eq_false, Bool.false_eq_true, false_implies, and_self, implies_true, Int.toNat_zero, beq_self_eq_true, decide_true, decide_false, Bool.not_true, Bool.not_false, ↓y_call, ↓drawPre, ↓y_adq_onS, drawPost, isCall, isNew, isEff, Option.toList, or_false, false_or, cond_true, cond_false, not_true_eq_false, or_true, true_or, Nat.add_left_cancel_iff, Bool.false_eq_true, List.length_map, Int.toNat_natCast, decide_true, decide_false, ws, k0, k1, List.drop_zero, hLt, hLl, kf, Nat.le_refl, Nat.zero_le, List.length_append, List.length_cons, List.length_nil, i0, i1, i3, j0, t0, t1, n0, n1, iT, iT1, jR0, jR1, u1, bD, wi1, p1]
  refine ⟨by simp, by simp, by rintro c rfl; rfl, by omega, ⟨i + 1, j, E, some { e with t := ((i + 1 : Nat) : Int) }, vO, vN⟩, ⟨by simp only; omega, hj, hvO, hvN, by simp only [outN] at hlen ⊢; omega, fun e' he => ?_, hall⟩, by simp only; omega, ?_⟩
  · injection he with he; subst he; exact ⟨rfl, h2, by simp only; omega, h4⟩
  dsimp only
  rw [hL]
  refine le_to (List.replicate 65 .hole ++ [.old 65] ++ List.replicate 44 .hole ++ [.old 110] ++ List.replicate 5 .hole) hl rfl ?_ ?_ <;> ((try simp only [y_blk_end, y_blk_hole, y_blk_nil, y_blk_old, y_wkl_end, y_wkl_top, List.replicate, List.cons_append, List.nil_append, and_true, true_and]) <;> (repeat' (first | apply And.intro | apply y_wkl | refine Exists.intro _ (And.intro rfl ?_))) <;> (try first | exact trivial | exact Wk.top _ | exact wk_int rfl | exact wk_bool rfl | exact wk_ptr rfl rfl rfl rfl | exact wk_ref rfl rfl rfl rfl rfl | exact wk_nil rfl rfl rfl | exact wk_ref rfl rfl rfl rfl (by simp) | exact wk_ref rfl rfl rfl rfl (by simp; omega) | exact wk_old (by assumption) (by simp) | exact wk_eq rfl (by first | exact Bd.int _ _ | exact Bd.bool _ | exact Bd.abool | exact Bd.nils | exact Bd.emp | exact Bd.nilp | exact Bd.nilfn | assumption | exact low_trees _ _ | exact low_treeD _ _ | exact low_ints _ _) | exact Nat.le_refl _ | exact wk_int (by simp) | exact wk_int (by omega) | exact Nat.succ_le_succ (Nat.zero_le _) | exact Nat.le_add_left _ _ | omega))
  all_goals first | exact WkL.app (WkL.low hLlow) (y_wkl wk_i (y_wkl wk_i (y_wkl (wk_ref rfl rfl rfl rfl rfl) trivial))) | exact WkL.low (low_iD _ _)

set_option maxHeartbeats 4000000 in
theorem rS_N1i_none {n : Nat} {h : Heap} (hl : LowH n h) {a b : List Int} (ha : a.length < 2 ^ 30) (hb : b.length < 2 ^ 30) {TT : List D} (tll : TT.length = a.length + 1) (tlow : Low n (.lst TT))
    (tab : ∀ {i j : Nat}, i ≤ a.length → j ≤ b.length → ∃ R : List Int, nth TT i = iD R ∧ R.length = b.length + 1 ∧ nth (R.map (D.int .i64)) j = .int .i64 (dG a b i j)) {i j : Nat} {E : List Ed} {vO vN : Nat}
    (hp : LpOk a b ⟨i, j, E, none, vO, vN⟩) (hia : ¬ i < a.length) (hjb : j < b.length) (Q : Exit → St → Prop) : awpS prog C_Script_round (AThen (fun s' => ∃ b', LpOk a b b' ∧ a.length + b.length - b'.i - b'.j < a.length + b.length - i - j ∧ Le s' (lpS n h a b TT b')) Q) (lpS n h a b TT ⟨i, j, E, none, vO, vN⟩) := by
  obtain ⟨hi, hj, hvO, hvN, hlen, hnw, hall⟩ := hp
  simp only at hi hj hvO hvN hlen hnw hall
  have i0 : (0 : Int) ≤ (i : Int) := by omega
  have j0 : (0 : Int) ≤ (j : Int) := by omega
  have wi1 : IntKind.i64.wrap ((i : Int) + 1) = ((i + 1 : Nat) : Int) := by rw [IntWalk.i64_in _ (by omega)]; omega
  have wj1 : IntKind.i64.wrap ((j : Int) + 1) = ((j + 1 : Nat) : Int) := by rw [IntWalk.i64_in _ (by omega)]; omega
  have i3 : (0 : Int) ≤ ((i + 1 : Nat) : Int) := by omega
  have k0 : (0 : Int) ≤ (E.length : Int) := by omega
  have k1 : (E.length : Int) < ((E.length + 1 : Nat) : Int) := by omega
  have ws : IntKind.i64.wrap (((E.length + 1 : Nat) : Int) - 1) = (E.length : Int) := by rw [IntWalk.i64_in _ (by simp only [outN] at hlen; omega)]; omega
  have kf : (E.length + 1) * 40 ≤ 140737488355328 := by simp only [outN] at hlen; omega
  have hLl := eds_len E
  have ni1 : ¬ (i : Int) < (a.length : Int) := by omega
  have j1 : (j : Int) < (b.length : Int) := by omega
  have e1 := nth_ints b j hjb
  rw [scrAt_ins hjb (.inl (by omega))] at hall
  unfold C_Script_round lpS
  simp only [outC, newC, outN, Option.isSome]
  obtain ⟨L, hL⟩ : ∃ L, cellsF edD E = L := ⟨_, rfl⟩
  rw [hL] at hLl ⊢
  have hLlow : ∀ c ∈ L, Low n c := by rw [← hL]; exact eds_low n E
  have hLt : L.take (E.length * 3) = L := List.take_of_length_le (by omega)
  have p1 := put_1 hLl
  have p2 := put_2 hLl
  have p3 := nth_2 hLl
  have p4 := nth_1 hLl
  simp -implicitDefEqProofs only [↓symPre, symPost, y_condP, y_condG, run, lver, minD, intsD, eqAll, tupD, splice, Nat.zero_add, Nat.add_zero, Nat.zero_mul, Nat.mul_one, Nat.one_mul, Nat.reduceAdd, Nat.reduceSub, Nat.reduceMul, Nat.reduceLT, Nat.reduceLeDiff, Nat.reduceEqDiff, true_and, and_true, true_implies, if_true, if_false, ite_true, reduceIte, ne_eq, not_false_eq_true, reduceCtorEq, forall_const, bne_self_eq_false, Bool.true_eq_false, Bool.false_eq_true, false_implies, and_self, implies_true, Int.toNat_zero, beq_self_eq_true, decide_true, decide_false, Bool.not_true, Bool.not_false, ↓y_call, List.length_map, ni1, j1, decide_true, decide_false]
  refine adrawq hmix [] ?_
  simp (maxSteps := 400000) -implicitDefEqProofs only [↓symPre, symPost, y_condP, y_condG, run, lver, minD, intsD, eqAll, tupD, splice, Nat.zero_add, Nat.add_zero, Nat.zero_mul, Nat.mul_one, Nat.one_mul, Nat.reduceAdd, Nat.reduceSub, Nat.reduceMul, Nat.reduceLT, Nat.reduceLeDiff, Nat.reduceEqDiff, true_and, and_true, true_implies, if_true, if_false, ite_true, reduceIte, ne_eq, not_false_eq_true, reduceCtorEq, forall_const, bne_self_eq_false, Bool.true_eq_false, Bool.false_eq_true, false_implies, and_self, implies_true, Int.toNat_zero, beq_self_eq_true, decide_true, decide_false, Bool.not_true, Bool.not_false, ↓y_call, ↓drawPre, ↓y_adq_onS, drawPost, isCall, isNew, isEff, Option.toList, or_false, false_or, cond_true, cond_false, not_true_eq_false, or_true, true_or, Nat.add_left_cancel_iff, Bool.false_eq_true, List.length_map, Int.toNat_natCast, decide_true, decide_false, ws, k0, k1, List.drop_zero, hLt, hLl, kf, Nat.le_refl, Nat.zero_le, List.length_append, List.length_cons, List.length_nil, ni1]
  refine ⟨by rintro c (rfl | rfl | rfl) <;> rfl, ?_⟩
  refine adrawq hmix [] ?_
  simp (maxSteps := 400000) -implicitDefEqProofs only [↓symPre, symPost, y_condP, y_condG, run, lver, minD, intsD, eqAll, tupD, splice, Nat.zero_add, Nat.add_zero, Nat.zero_mul, Nat.mul_one, Nat.one_mul, Nat.reduceAdd, Nat.reduceSub, Nat.reduceMul, Nat.reduceLT, Nat.reduceLeDiff, Nat.reduceEqDiff, true_and, and_true, true_implies, if_true, if_false, ite_true, reduceIte, ne_eq, not_false_eq_true, reduceCtorEq, forall_const, bne_self_eq_false, Bool.true_eq_false, Bool.false_eq_true, false_implies, and_self, implies_true, Int.toNat_zero, beq_self_eq_true, decide_true, decide_false, Bool.not_true, Bool.not_false, ↓y_call, ↓drawPre, ↓y_adq_onS, drawPost, isCall, isNew, isEff, Option.toList, or_false, false_or, cond_true, cond_false, not_true_eq_false, or_true, true_or, Nat.add_left_cancel_iff, Bool.false_eq_true, List.length_map, Int.toNat_natCast, decide_true, decide_false, ws, k0, k1, List.drop_zero, hLt, hLl, kf, Nat.le_refl, Nat.zero_le, List.length_append, List.length_cons, List.length_nil, ni1, p1]
  refine adrawq hmix (List.replicate 10 [] ++ [[n + 110], [], [], [n + 65]]) ?_
  simp (maxSteps := 400000) -implicitDefEqProofs only [↓symPre, symPost, y_condP, y_condG, run, lver, minD, intsD, eqAll, tupD, splice, Nat.zero_add, Nat.add_zero, Nat.zero_mul, Nat.mul_one, Nat.one_mul, Nat.reduceAdd, Nat.reduceSub, Nat.reduceMul, Nat.reduceLT, Nat.reduceLeDiff, Nat.reduceEqDiff, true_and, and_true, true_implies, if_true, if_false, ite_true, reduceIte, ne_eq, not_false_eq_true, reduceCtorEq, forall_const, bne_self_eq_false, Bool.true_eq_false, Bool.false_eq_true, false_implies, and_self, implies_true, Int.toNat_zero, beq_self_eq_true, decide_true, decide_false, Bool.not_true, Bool.not_false, ↓y_call, ↓drawPre, ↓y_adq_onS, drawPost, isCall, isNew, isEff, Option.toList, or_false, false_or, cond_true, cond_false, not_true_eq_false, or_true, true_or, Nat.add_left_cancel_iff, Bool.false_eq_true, List.length_map, Int.toNat_natCast, decide_true, decide_false, ws, k0, k1, List.drop_zero, hLt, hLl, kf, Nat.le_refl, Nat.zero_le, List.length_append, List.length_cons, List.length_nil, j0, j1, e1, p2, p3, wj1, List.replicate, List.cons_append, List.nil_append, List.getD_cons_succ, List.getD_cons_zero]
  refine ⟨by simp, by simp, by omega, by rintro c rfl; rfl, by simp, by simp, by rintro c rfl; rfl, ⟨i, j + 1, E, some ⟨i, i, [b[j]]⟩, vO + 1, vN + 1⟩, ⟨hi, by simp only; omega, by simp only; omega, by simp only; omega, by simp only [outN] at hlen ⊢; omega, fun e' he => ?_, hall⟩, by simp only; omega, ?_⟩
  · injection he with he; subst he; exact ⟨rfl, by simp, Int.le_refl _, by simp⟩
  dsimp only
  rw [hL]
  refine le_to (List.replicate 65 .hole ++ [.old 65] ++ List.replicate 44 .hole ++ [.old 110] ++ List.replicate 5 .hole) hl rfl ?_ ?_ <;> ((try simp only [y_blk_end, y_blk_hole, y_blk_nil, y_blk_old, y_wkl_end, y_wkl_top, List.replicate, List.cons_append, List.nil_append, and_true, true_and]) <;> (repeat' (first | apply And.intro | apply y_wkl | refine Exists.intro _ (And.intro rfl ?_))) <;> (try first | exact trivial | exact Wk.top _ | exact wk_int rfl | exact wk_bool rfl | exact wk_ptr rfl rfl rfl rfl | exact wk_ref rfl rfl rfl rfl rfl | exact wk_nil rfl rfl rfl | exact wk_ref rfl rfl rfl rfl (by simp) | exact wk_ref rfl rfl rfl rfl (by simp; omega) | exact wk_old (by assumption) (by simp) | exact wk_eq rfl (by first | exact Bd.int _ _ | exact Bd.bool _ | exact Bd.abool | exact Bd.nils | exact Bd.emp | exact Bd.nilp | exact Bd.nilfn | assumption | exact low_trees _ _ | exact low_treeD _ _ | exact low_ints _ _) | exact Nat.le_refl _ | exact wk_int (by simp) | exact wk_int (by omega) | exact Nat.succ_le_succ (Nat.zero_le _) | exact Nat.le_add_left _ _ | omega))
  all_goals first | exact WkL.app (WkL.low hLlow) (y_wkl wk_i (y_wkl wk_i (y_wkl (wk_ref rfl rfl rfl rfl rfl) trivial))) | exact wkl_snoc [] _

set_option maxHeartbeats 4000000 in
theorem rS_N1i_some {n : Nat} {h : Heap} (hl : LowH n h) {a b : List Int} (ha : a.length < 2 ^ 30) (hb : b.length < 2 ^ 30) {TT : List D} (tll : TT.length = a.length + 1) (tlow : Low n (.lst TT))
    (tab : ∀ {i j : Nat}, i ≤ a.length → j ≤ b.length → ∃ R : List Int, nth TT i = iD R ∧ R.length = b.length + 1 ∧ nth (R.map (D.int .i64)) j = .int .i64 (dG a b i j)) {i j : Nat} {E : List Ed} {e : Ed} {vO vN : Nat}
    (hp : LpOk a b ⟨i, j, E, some e, vO, vN⟩) (hia : ¬ i < a.length) (hjb : j < b.length) (Q : Exit → St → Prop) : awpS prog C_Script_round (AThen (fun s' => ∃ b', LpOk a b b' ∧ a.length + b.length - b'.i - b'.j < a.length + b.length - i - j ∧ Le s' (lpS n h a b TT b')) Q) (lpS n h a b TT ⟨i, j, E, some e, vO, vN⟩) := by
  obtain ⟨hi, hj, hvO, hvN, hlen, hnw, hall⟩ := hp
  simp only at hi hj hvO hvN hlen hnw hall
  have i0 : (0 : Int) ≤ (i : Int) := by omega
  have j0 : (0 : Int) ≤ (j : Int) := by omega
  have wi1 : IntKind.i64.wrap ((i : Int) + 1) = ((i + 1 : Nat) : Int) := by rw [IntWalk.i64_in _ (by omega)]; omega
  have wj1 : IntKind.i64.wrap ((j : Int) + 1) = ((j + 1 : Nat) : Int) := by rw [IntWalk.i64_in _ (by omega)]; omega
  have i3 : (0 : Int) ≤ ((i + 1 : Nat) : Int) := by omega
  have k0 : (0 : Int) ≤ (E.length : Int) := by omega
  have k1 : (E.length : Int) < ((E.length + 1 : Nat) : Int) := by omega
  have ws : IntKind.i64.wrap (((E.length + 1 : Nat) : Int) - 1) = (E.length : Int) := by rw [IntWalk.i64_in _ (by simp only [outN] at hlen; omega)]; omega
  have kf : (E.length + 1) * 40 ≤ 140737488355328 := by simp only [outN] at hlen; omega
  have hLl := eds_len E
  have ni1 : ¬ (i : Int) < (a.length : Int) := by omega
  have j1 : (j : Int) < (b.length : Int) := by omega
  have e1 := nth_ints b j hjb
  rw [scrAt_ins hjb (.inl (by omega))] at hall
  obtain ⟨h1, h2, h3, h4⟩ := hnw e rfl
  have nf : (e.w.length + 1) * 8 ≤ 140737488355328 := by omega
  have hNt : (e.w.map (D.int .i64)).take e.w.length = e.w.map (D.int .i64) := List.take_of_length_le (by simp)
  unfold C_Script_round lpS
  simp only [outC, newC, outN, Option.isSome]
  obtain ⟨L, hL⟩ : ∃ L, cellsF edD E = L := ⟨_, rfl⟩
  rw [hL] at hLl ⊢
  have hLlow : ∀ c ∈ L, Low n c := by rw [← hL]; exact eds_low n E
  have hLt : L.take (E.length * 3) = L := List.take_of_length_le (by omega)
  have p1 := put_1 hLl
  have p2 := put_2 hLl
  have p3 := nth_2 hLl
  have p4 := nth_1 hLl
  simp -implicitDefEqProofs only [↓symPre, symPost, y_condP, y_condG, run, lver, minD, intsD, eqAll, tupD, splice, Nat.zero_add, Nat.add_zero, Nat.zero_mul, Nat.mul_one, Nat.one_mul, Nat.reduceAdd, Nat.reduceSub, Nat.reduceMul, Nat.reduceLT, Nat.reduceLeDiff, Nat.reduceEqDiff, true_and, and_true, true_implies, if_true, if_false, ite_true, reduceIte, ne_eq, not_false_eq_true, reduceCtorEq, forall_const, bne_self_eq_false, Bool.true_eq_false, Bool.false_eq_true, false_implies, and_self, implies_true, Int.toNat_zero, beq_self_eq_true, decide_true, decide_false, Bool.not_true, Bool.not_false, ↓y_call, List.length_map, ni1, j1, decide_true, decide_false]
  refine adrawq hmix [] ?_
  simp (maxSteps := 400000) -implicitDefEqProofs only [↓symPre, symPost, y_condP, y_condG, run, lver, minD, intsD, eqAll, tupD, splice, Nat.zero_add, Nat.add_zero, Nat.zero_mul, Nat.mul_one, Nat.one_mul, Nat.reduceAdd, Nat.reduceSub, Nat.reduceMul, Nat.reduceLT, Nat.reduceLeDiff, Nat.reduceEqDiff, true_and, and_true, true_implies, if_true, if_false, ite_true, reduceIte, ne_eq, not_false_eq_true, reduceCtorEq, forall_const, bne_self_eq_false, Bool.true_eq_false, Bool.false_eq_true, false_implies, and_self, implies_true, Int.toNat_zero, beq_self_eq_true, decide_true, decide_false, Bool.not_true, Bool.not_false, ↓y_call, ↓drawPre, ↓y_adq_onS, drawPost, isCall, isNew, isEff, Option.toList, or_false, false_or, cond_true, cond_false, not_true_eq_false, or_true, true_or, Nat.add_left_cancel_iff, Bool.false_eq_true, List.length_map, Int.toNat_natCast, decide_true, decide_false, ws, k0, k1, List.drop_zero, hLt, hLl, kf, Nat.le_refl, Nat.zero_le, List.length_append, List.length_cons, List.length_nil, ni1]
  refine adrawq hmix [] ?_
  simp (maxSteps := 400000) -implicitDefEqProofs only [↓symPre, symPost, y_condP, y_condG, run, lver, minD, intsD, eqAll, tupD, splice, Nat.zero_add, Nat.add_zero, Nat.zero_mul, Nat.mul_one, Nat.one_mul, Nat.reduceAdd, Nat.reduceSub, Nat.reduceMul, Nat.reduceLT, Nat.reduceLeDiff, Nat.reduceEqDiff, true_and, and_true, true_implies, if_true, if_false, ite_true, reduceIte, ne_eq, not_false_eq_true, reduceCtorEq, forall_const, bne_self_eq_false, Bool.true_eq_false, Bool.false_eq_true, false_implies, and_self, implies_true, Int.toNat_zero, beq_self_eq_true, decide_true, decide_false, Bool.not_true, Bool.not_false, ↓y_call, ↓drawPre, ↓y_adq_onS, drawPost, isCall, isNew, isEff, Option.toList, or_false, false_or, cond_true, cond_false, not_true_eq_false, or_true, true_or, Nat.add_left_cancel_iff, Bool.false_eq_true, List.length_map, Int.toNat_natCast, decide_true, decide_false, ws, k0, k1, List.drop_zero, hLt, hLl, kf, Nat.le_refl, Nat.zero_le, List.length_append, List.length_cons, List.length_nil, ni1, p1]
  refine adrawq hmix (List.replicate 10 [] ++ [[n + 110], [], [], [n + 65]]) ?_
  simp (maxSteps := 400000) -implicitDefEqProofs only [↓symPre, symPost, y_condP, y_condG, run, lver, minD, intsD, eqAll, tupD, splice, Nat.zero_add, Nat.add_zero, Nat.zero_mul, Nat.mul_one, Nat.one_mul, Nat.reduceAdd, Nat.reduceSub, Nat.reduceMul, Nat.reduceLT, Nat.reduceLeDiff, Nat.reduceEqDiff, true_and, and_true, true_implies, if_true, if_false, ite_true, reduceIte, ne_eq, not_false_eq_true, reduceCtorEq, forall_const, bne_self_eq_false, Bool.true_eq_false, Bool.false_eq_true, false_implies, and_self, implies_true, Int.toNat_zero, beq_self_eq_true, decide_true, decide_false, Bool.not_true, Bool.not_false, ↓y_call, ↓drawPre, ↓y_adq_onS, drawPost, isCall, isNew, isEff, Option.toList, or_false, false_or, cond_true, cond_false, not_true_eq_false, or_true, true_or, Nat.add_left_cancel_iff, Bool.false_eq_true, List.length_map, Int.toNat_natCast, decide_true, decide_false, ws, k0, k1, List.drop_zero, hLt, hLl, kf, Nat.le_refl, Nat.zero_le, List.length_append, List.length_cons, List.length_nil, j0, j1, e1, p2, p3, wj1, nf, hNt, List.replicate, List.cons_append, List.nil_append, List.getD_cons_succ, List.getD_cons_zero]
  refine ⟨by simp, by simp, by omega, by rintro c rfl; rfl, by simp, by simp, by rintro c rfl; rfl, ⟨i, j + 1, E, some { e with w := e.w ++ [b[j]] }, vO, vN + 1⟩, ⟨hi, by simp only; omega, hvO, by simp only; omega, by simp only [outN] at hlen ⊢; omega, fun e' he => ?_, hall⟩, by simp only; omega, ?_⟩
  · injection he with he; subst he; exact ⟨h1, h2, h3, by simp; omega⟩
  dsimp only
  rw [hL]
  refine le_to (List.replicate 65 .hole ++ [.old 65] ++ List.replicate 44 .hole ++ [.old 110] ++ List.replicate 5 .hole) hl rfl ?_ ?_ <;> ((try simp only [y_blk_end, y_blk_hole, y_blk_nil, y_blk_old, y_wkl_end, y_wkl_top, List.replicate, List.cons_append, List.nil_append, and_true, true_and]) <;> (repeat' (first | apply And.intro | apply y_wkl | refine Exists.intro _ (And.intro rfl ?_))) <;> (try first | exact trivial | exact Wk.top _ | exact wk_int rfl | exact wk_bool rfl | exact wk_ptr rfl rfl rfl rfl | exact wk_ref rfl rfl rfl rfl rfl | exact wk_nil rfl rfl rfl | exact wk_ref rfl rfl rfl rfl (by simp) | exact wk_ref rfl rfl rfl rfl (by simp; omega) | exact wk_old (by assumption) (by simp) | exact wk_eq rfl (by first | exact Bd.int _ _ | exact Bd.bool _ | exact Bd.abool | exact Bd.nils | exact Bd.emp | exact Bd.nilp | exact Bd.nilfn | assumption | exact low_trees _ _ | exact low_treeD _ _ | exact low_ints _ _) | exact Nat.le_refl _ | exact wk_int (by simp) | exact wk_int (by omega) | exact Nat.succ_le_succ (Nat.zero_le _) | exact Nat.le_add_left _ _ | omega))
  all_goals first | exact WkL.app (WkL.low hLlow) (y_wkl wk_i (y_wkl wk_i (y_wkl (wk_ref rfl rfl rfl rfl (by simp)) trivial))) | exact wkl_snoc _ _

def scrF (a b : List Int) : Int := if a.length > 200 ∨ b.length > 200 then 2 else 0
def scrL (a b : List Int) : List Ed := if a.length > 200 ∨ b.length > 200 then [] else scrAt a b 0 0 none

theorem pure_Script (a b : List Int) (ha : a.length < 2 ^ 30) (hb : b.length < 2 ^ 30) : Pure prog F_edit_Script [iD a, iD b] (.tup [.lst ((scrL a b).map edD), .int .i64 (scrF a b)]) := by
  intro n h
  refine K_edit_Script.calls fun hl => ?_
  unfold C_edit_Script
  by_cases ga : a.length > 200
  · have g1 : (a.length : Int) > 200 := by omega
    simp -implicitDefEqProofs only [↓symPre, symPost, y_condP, y_condG, run, lver, minD, intsD, eqAll, tupD, splice, Nat.zero_add, Nat.add_zero, Nat.zero_mul, Nat.mul_one, Nat.one_mul, Nat.reduceAdd, Nat.reduceSub, Nat.reduceMul, Nat.reduceLT, Nat.reduceLeDiff, Nat.reduceEqDiff, true_and, and_true, true_implies, if_true, if_false, ite_true, reduceIte, ne_eq, not_false_eq_true, reduceCtorEq, forall_const, bne_self_eq_false, Bool.true_eq_false, Bool.false_eq_true, false_implies, and_self, implies_true, Int.toNat_zero, beq_self_eq_true, decide_true, decide_false, Bool.not_true, Bool.not_false, ↓y_call, List.length_map, g1, decide_true]
    refine fin_wk (d := .tup [.lst ((scrL a b).map edD), .int .i64 (scrF a b)]) hl ?_ ⟨rfl, rfl, rfl⟩
    rw [scrL, scrF, if_pos (.inl ga), if_pos (.inl ga)]
    exact wk_tup2 .nilsLst wk_i
  have g1 : ¬ (a.length : Int) > 200 := by omega
  by_cases gb : b.length > 200
  · have g2 : (b.length : Int) > 200 := by omega
    simp -implicitDefEqProofs only [↓symPre, symPost, y_condP, y_condG, run, lver, minD, intsD, eqAll, tupD, splice, Nat.zero_add, Nat.add_zero, Nat.zero_mul, Nat.mul_one, Nat.one_mul, Nat.reduceAdd, Nat.reduceSub, Nat.reduceMul, Nat.reduceLT, Nat.reduceLeDiff, Nat.reduceEqDiff, true_and, and_true, true_implies, if_true, if_false, ite_true, reduceIte, ne_eq, not_false_eq_true, reduceCtorEq, forall_const, bne_self_eq_false, Bool.true_eq_false, Bool.false_eq_true, false_implies, and_self, implies_true, Int.toNat_zero, beq_self_eq_true, decide_true, decide_false, Bool.not_true, Bool.not_false, ↓y_call, List.length_map, g1, g2, decide_true, decide_false]
    refine fin_wk (d := .tup [.lst ((scrL a b).map edD), .int .i64 (scrF a b)]) hl ?_ ⟨rfl, rfl, rfl⟩
    rw [scrL, scrF, if_pos (.inr gb), if_pos (.inr gb)]
    exact wk_tup2 .nilsLst wk_i
  have g2 : ¬ (b.length : Int) > 200 := by omega
  have hL : scrL a b = scrAt a b 0 0 none := by rw [scrL, if_neg (by omega)]
  have hF : scrF a b = 0 := by rw [scrF, if_neg (by omega)]
  have pd := pure_distances a b ha hb
  have tll : ((matL (a.length + 1) (b.length + 1) (dG a b)).map iD).length = a.length + 1 := by simp [matL]
  have tlow : Low n (.lst ((matL (a.length + 1) (b.length + 1) (dG a b)).map iD)) := .lst _ (low_lists n _)
  have tab := fun {i j : Nat} => tabG (dG a b) (a := a) (b := b) (i := i) (j := j)
  generalize (matL (a.length + 1) (b.length + 1) (dG a b)).map iD = TT at *
  simp -implicitDefEqProofs only [↓symPre, symPost, y_condP, y_condG, run, lver, minD, intsD, eqAll, tupD, splice, Nat.zero_add, Nat.add_zero, Nat.zero_mul, Nat.mul_one, Nat.one_mul, Nat.reduceAdd, Nat.reduceSub, Nat.reduceMul, Nat.reduceLT, Nat.reduceLeDiff, Nat.reduceEqDiff, true_and, and_true, true_implies, if_true, if_false, ite_true, reduceIte, ne_eq, not_false_eq_true, reduceCtorEq, forall_const, bne_self_eq_false, Bool.true_eq_false, Bool.false_eq_true, false_implies, and_self, implies_true, Int.toNat_zero, beq_self_eq_true, decide_true, decide_false, Bool.not_true, Bool.not_false, ↓y_call, List.length_map, g1, g2, decide_false]
  refine pd.call rfl ?_
  simp -implicitDefEqProofs only [↓symPre, symPost, y_condP, y_condG, run, lver, minD, intsD, eqAll, tupD, splice, Nat.zero_add, Nat.add_zero, Nat.zero_mul, Nat.mul_one, Nat.one_mul, Nat.reduceAdd, Nat.reduceSub, Nat.reduceMul, Nat.reduceLT, Nat.reduceLeDiff, Nat.reduceEqDiff, true_and, and_true, true_implies, if_true, if_false, ite_true, reduceIte, ne_eq, not_false_eq_true, reduceCtorEq, forall_const, bne_self_eq_false, Bool.true_eq_false, Bool.false_eq_true, false_implies, and_self, implies_true, Int.toNat_zero, beq_self_eq_true, decide_true, decide_false, Bool.not_true, Bool.not_false, ↓y_call]
  refine aloop (lpS n h a b TT) (LpOk a b) (fun p => a.length + b.length - p.i - p.j) ⟨0, 0, [], none, 1, 1⟩ ⟨Nat.zero_le _, Nat.zero_le _, Nat.le_refl _, Nat.le_refl _, Nat.le_refl _, fun e he => (by cases he), rfl⟩ ?_ ?_
  · unfold lpS
    refine le_to (List.replicate 65 .hole ++ [.nil] ++ List.replicate 44 .hole ++ [.nil] ++ List.replicate 5 .hole) hl rfl ?_ ?_ <;> ((try simp only [y_blk_end, y_blk_hole, y_blk_nil, y_blk_old, y_wkl_end, y_wkl_top, List.replicate, List.cons_append, List.nil_append, and_true, true_and]) <;> (repeat' (first | apply And.intro | apply y_wkl | refine Exists.intro _ (And.intro rfl ?_))) <;> (try first | exact trivial | exact Wk.top _ | exact wk_int rfl | exact wk_bool rfl | exact wk_ptr rfl rfl rfl rfl | exact wk_ref rfl rfl rfl rfl rfl | exact wk_nil rfl rfl rfl | exact wk_ref rfl rfl rfl rfl (by simp) | exact wk_ref rfl rfl rfl rfl (by simp; omega) | exact wk_old (by assumption) (by simp) | exact wk_eq rfl (by first | exact Bd.int _ _ | exact Bd.bool _ | exact Bd.abool | exact Bd.nils | exact Bd.emp | exact Bd.nilp | exact Bd.nilfn | assumption | exact low_trees _ _ | exact low_treeD _ _ | exact low_ints _ _) | exact Nat.le_refl _ | exact wk_int (by simp) | exact wk_int (by omega) | exact Nat.succ_le_succ (Nat.zero_le _) | exact Nat.le_add_left _ _ | omega))
  · rintro ⟨i, j, E, o, vO, vN⟩ hp
    by_cases hia : i < a.length
    · by_cases hjb : j < b.length
      · by_cases hc : a[i] = b[j]
        · skip
          cases o with
          | none => exact rS_M_none hl ha hb tll tlow tab hp hia hjb hc _
          | some e => exact rS_M_some hl ha hb tll tlow tab hp hia hjb hc _
        · by_cases hd : dG a b i j = 1 + dG a b (i + 1) j
          · skip
            cases o with
            | none => exact rS_N3d_none hl ha hb tll tlow tab hp hia hjb hc hd _
            | some e => exact rS_N3d_some hl ha hb tll tlow tab hp hia hjb hc hd _
          · skip
            cases o with
            | none => exact rS_N3i_none hl ha hb tll tlow tab hp hia hjb hc hd _
            | some e => exact rS_N3i_some hl ha hb tll tlow tab hp hia hjb hc hd _
      · skip
        cases o with
        | none => exact rS_N2d_none hl ha hb tll tlow tab hp hia hjb _
        | some e => exact rS_N2d_some hl ha hb tll tlow tab hp hia hjb _
    · by_cases hjb : j < b.length
      · skip
        cases o with
        | none => exact rS_N1i_none hl ha hb tll tlow tab hp hia hjb _
        | some e => exact rS_N1i_some hl ha hb tll tlow tab hp hia hjb _
      · obtain ⟨hi, hj, hvO, hvN, hlen, hnw, hall⟩ := hp
        simp only at hi hj hvO hvN hlen hnw hall
        have ni1 : ¬ (i : Int) < (a.length : Int) := by omega
        have nj1 : ¬ (j : Int) < (b.length : Int) := by omega
        rw [scrAt_end a b (by omega) (by omega)] at hall
        unfold lpS
        simp -implicitDefEqProofs only [↓symPre, symPost, y_condP, y_condG, run, lver, minD, intsD, eqAll, tupD, splice, Nat.zero_add, Nat.add_zero, Nat.zero_mul, Nat.mul_one, Nat.one_mul, Nat.reduceAdd, Nat.reduceSub, Nat.reduceMul, Nat.reduceLT, Nat.reduceLeDiff, Nat.reduceEqDiff, true_and, and_true, true_implies, if_true, if_false, ite_true, reduceIte, ne_eq, not_false_eq_true, reduceCtorEq, forall_const, bne_self_eq_false, Bool.true_eq_false, Bool.false_eq_true, false_implies, and_self, implies_true, Int.toNat_zero, beq_self_eq_true, decide_true, decide_false, Bool.not_true, Bool.not_false, ↓y_call, List.length_map, ni1, nj1, decide_false]
        refine fin_wk (d := .tup [.lst ((scrL a b).map edD), .int .i64 (scrF a b)]) hl ?_ ⟨rfl, rfl, rfl⟩
        rw [hL, hF, ← hall]
        refine wk_tup2 ?_ wk_i
        cases o with
        | none => exact wk_frzW edD (t := 65) (cs := outC n 110 vN E none) rfl edD_cells rfl (by simp) (by simp [outN]) (by simpa [outC] using wkl_eds E)
        | some e => exact wk_frzW edD (t := 65) (cs := outC n 110 vN E (some e)) rfl edD_cells rfl (by simp) (by simp [outN]) (wkl_freeze (vN' := vN) rfl rfl (by simp))

end Abs
end Go.Proofs.Ytfojedaccfenfab

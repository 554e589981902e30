/- parlref4.Edits. Printed by wip/tools/genV6.py. -/
import Derived.Test.YtfojedaccfenfabV5
namespace Go.Proofs.Ytfojedaccfenfab
namespace Abs
set_option linter.unusedVariables false
set_option linter.unusedSimpArgs false
set_option maxRecDepth 20000

def C_Edits_round : AC :=
  (.seq (.seq (.region [⟨(.some 14), (.mov (.tmp 8)), .always⟩, ⟨(.some 15), (.mov (.tmp 9)), .always⟩, ⟨(.some 16), (.bin .add (.tmp 14) (.tmp 15)), .always⟩, ⟨(.some 17), (.mov (.tmp 0)), .always⟩, ⟨(.some 18), (.len (.tmp 17)), .always⟩, ⟨(.some 19), (.mov (.tmp 1)), .always⟩, ⟨(.some 20), (.len (.tmp 19)), .always⟩, ⟨(.some 21), (.bin .add (.tmp 18) (.tmp 20)), .always⟩, ⟨(.some 22), (.bin .lss (.tmp 16) (.tmp 21)), .always⟩]) (.cond (.tmp 22) .skip (.exit 0))) (.block 1 (.seq (.block 2 (.seq (.draw [⟨⟨(.some 24), (.mov (.tmp 8)), .always⟩, [], []⟩, ⟨⟨(.some 25), (.mov (.tmp 0)), .always⟩, [], []⟩, ⟨⟨(.some 26), (.len (.tmp 25)), .always⟩, [], []⟩, ⟨⟨(.some 27), (.bin .lss (.tmp 24) (.tmp 26)), .always⟩, [], []⟩, ⟨⟨(.some 28), (.mov (.tmp 27)), .always⟩, [], []⟩, ⟨⟨(.some 29), (.mov (.tmp 9)), (.on 28 .true)⟩, [], []⟩, ⟨⟨(.some 30), (.mov (.tmp 1)), (.on 28 .true)⟩, [], []⟩, ⟨⟨(.some 31), (.len (.tmp 30)), (.on 28 .true)⟩, [], []⟩, ⟨⟨(.some 32), (.bin .lss (.tmp 29) (.tmp 31)), (.on 28 .true)⟩, [], []⟩, ⟨⟨(.some 33), (.pick (.tmp 28) (.tmp 32) (.val (.bool .false))), .always⟩, [], []⟩, ⟨⟨(.some 34), (.mov (.tmp 33)), .always⟩, [], []⟩, ⟨⟨(.some 35), (.mov (.tmp 0)), (.on 34 .true)⟩, [], []⟩, ⟨⟨(.some 36), (.mov (.tmp 8)), (.on 34 .true)⟩, [], []⟩, ⟨⟨(.some 37), (.idxS 1 (.tmp 35) (.tmp 36)), (.on 34 .true)⟩, [], []⟩, ⟨⟨(.some 38), (.load .false 1 (.tmp 37)), (.on 34 .true)⟩, [], []⟩, ⟨⟨(.some 39), (.mov (.tmp 1)), (.on 34 .true)⟩, [], []⟩, ⟨⟨(.some 40), (.mov (.tmp 9)), (.on 34 .true)⟩, [], []⟩, ⟨⟨(.some 41), (.idxS 1 (.tmp 39) (.tmp 40)), (.on 34 .true)⟩, [], []⟩, ⟨⟨(.some 42), (.load .false 1 (.tmp 41)), (.on 34 .true)⟩, [], []⟩, ⟨⟨(.some 43), (.bin .eql (.tmp 38) (.tmp 42)), (.on 34 .true)⟩, [], []⟩, ⟨⟨(.some 44), (.pick (.tmp 34) (.tmp 43) (.val (.bool .false))), .always⟩, [], []⟩, ⟨⟨(.some 23), (.mov (.tmp 44)), .always⟩, [], []⟩]) (.cond (.tmp 23) (.seq (.region [⟨(.some 45), (.mov (.tmp 8)), .always⟩, ⟨(.some 46), (.bin .add (.tmp 45) (.val (.int .i64 1))), .always⟩, ⟨(.some 47), (.mov (.tmp 9)), .always⟩, ⟨(.some 48), (.bin .add (.tmp 47) (.val (.int .i64 1))), .always⟩, ⟨(.some 8), (.mov (.tmp 46)), .always⟩, ⟨(.some 9), (.mov (.tmp 48)), .always⟩, ⟨(.some 7), (.mov (.val (.bool .true))), .always⟩]) (.exit 1)) (.seq (.region [⟨(.some 50), (.mov (.tmp 7)), .always⟩, ⟨(.some 49), (.mov (.tmp 50)), .always⟩]) (.cond (.tmp 49) (.region [⟨(.some 51), (.mov (.tmp 6)), .always⟩, ⟨(.some 52), (.mov (.tmp 8)), .always⟩, ⟨(.some 53), (.mov (.tmp 8)), .always⟩, ⟨(.some 54), (.build [(.int .i64 0), (.int .i64 0), .nils] [(0, (1, (.tmp 52))), (1, (1, (.tmp 53)))]), .always⟩, ⟨(.some 55), (.buildSlice 3 [(.int .i64 0), (.int .i64 0), .nils] 1 [(0, (3, (.tmp 54)))]), .always⟩, ⟨(.some 56), (.append 3 40 (.tmp 51) (.tmp 55)), .always⟩, ⟨(.some 6), (.mov (.tmp 56)), .always⟩, ⟨(.some 7), (.mov (.val (.bool .false))), .always⟩]) .skip))))) (.seq (.region [⟨(.some 57), (.mov (.tmp 6)), .always⟩, ⟨(.some 58), (.mov (.tmp 6)), .always⟩, ⟨(.some 59), (.len (.tmp 58)), .always⟩, ⟨(.some 60), (.bin .sub (.tmp 59) (.val (.int .i64 1))), .always⟩, ⟨(.some 61), (.idxS 3 (.tmp 57) (.tmp 60)), .always⟩, ⟨(.some 10), (.mov (.tmp 61)), .always⟩]) (.seq (.seq (.draw [⟨⟨(.some 62), (.mov (.tmp 8)), .always⟩, [], []⟩, ⟨⟨(.some 63), (.mov (.tmp 0)), .always⟩, [], []⟩, ⟨⟨(.some 64), (.len (.tmp 63)), .always⟩, [], []⟩, ⟨⟨(.some 65), (.bin .lss (.tmp 62) (.tmp 64)), .always⟩, [], []⟩, ⟨⟨(.some 66), (.mov (.tmp 65)), .always⟩, [], []⟩, ⟨⟨(.some 67), (.mov (.tmp 9)), (.on 66 .true)⟩, [], []⟩, ⟨⟨(.some 68), (.mov (.tmp 1)), (.on 66 .true)⟩, [], []⟩, ⟨⟨(.some 69), (.len (.tmp 68)), (.on 66 .true)⟩, [], []⟩, ⟨⟨(.some 70), (.bin .eql (.tmp 67) (.tmp 69)), (.on 66 .true)⟩, [], []⟩, ⟨⟨(.some 71), (.mov (.tmp 70)), (.on 66 .true)⟩, [], []⟩, ⟨⟨(.some 72), (.mov (.tmp 5)), (.on 71 .false)⟩, [], []⟩, ⟨⟨(.some 73), (.mov (.tmp 8)), (.on 71 .false)⟩, [], []⟩, ⟨⟨(.some 74), (.bin .add (.tmp 73) (.val (.int .i64 1))), (.on 71 .false)⟩, [], []⟩, ⟨⟨(.some 75), (.idxS 1 (.tmp 72) (.tmp 74)), (.on 71 .false)⟩, [], []⟩, ⟨⟨(.some 76), (.load .false 1 (.tmp 75)), (.on 71 .false)⟩, [], []⟩, ⟨⟨(.some 77), (.mov (.tmp 9)), (.on 71 .false)⟩, [], []⟩, ⟨⟨(.some 78), (.idxS 1 (.tmp 76) (.tmp 77)), (.on 71 .false)⟩, [], []⟩, ⟨⟨(.some 79), (.load .false 1 (.tmp 78)), (.on 71 .false)⟩, [], []⟩, ⟨⟨(.some 80), (.mov (.tmp 5)), (.on 71 .false)⟩, [], []⟩, ⟨⟨(.some 81), (.mov (.tmp 8)), (.on 71 .false)⟩, [], []⟩, ⟨⟨(.some 82), (.idxS 1 (.tmp 80) (.tmp 81)), (.on 71 .false)⟩, [], []⟩, ⟨⟨(.some 83), (.load .false 1 (.tmp 82)), (.on 71 .false)⟩, [], []⟩, ⟨⟨(.some 84), (.mov (.tmp 9)), (.on 71 .false)⟩, [], []⟩, ⟨⟨(.some 85), (.idxS 1 (.tmp 83) (.tmp 84)), (.on 71 .false)⟩, [], []⟩, ⟨⟨(.some 86), (.load .false 1 (.tmp 85)), (.on 71 .false)⟩, [], []⟩, ⟨⟨(.some 87), (.bin .eql (.tmp 79) (.tmp 86)), (.on 71 .false)⟩, [], []⟩, ⟨⟨(.some 88), (.pick (.tmp 71) (.val (.bool .true)) (.tmp 87)), (.on 66 .true)⟩, [], []⟩, ⟨⟨(.some 89), (.pick (.tmp 66) (.tmp 88) (.val (.bool .false))), .always⟩, [], []⟩]) (.cond (.tmp 89) (.seq (.region [⟨(.some 90), (.mov (.tmp 8)), .always⟩, ⟨(.some 91), (.bin .add (.tmp 90) (.val (.int .i64 1))), .always⟩, ⟨(.some 8), (.mov (.tmp 91)), .always⟩]) (.seq (.region [⟨(.some 92), (.mov (.tmp 10)), .always⟩, ⟨(.some 93), (.nilck (.tmp 92)), .always⟩, ⟨(.some 94), (.fieldAddr 1 (.tmp 93)), .always⟩, ⟨(.some 95), (.load .false 1 (.tmp 94)), .always⟩, ⟨(.some 96), (.bin .add (.tmp 95) (.val (.int .i64 1))), .always⟩, ⟨(.some 97), (.nilck (.tmp 92)), .always⟩, ⟨(.some 98), (.fieldAddr 1 (.tmp 97)), .always⟩, ⟨.none, (.store 1 (.tmp 98) (.tmp 96)), .always⟩]) (.exit 1))) .skip)) (.seq (.draw [⟨⟨(.some 99), (.mov (.tmp 10)), .always⟩, [108, 109], [10]⟩, ⟨⟨(.some 100), (.mov (.tmp 10)), .always⟩, [108], []⟩, ⟨⟨(.some 101), (.nilck (.tmp 100)), .always⟩, [108], []⟩, ⟨⟨(.some 102), (.fieldAddr 2 (.tmp 101)), .always⟩, [108], []⟩, ⟨⟨(.some 103), (.load .false 1 (.tmp 102)), .always⟩, [108], []⟩, ⟨⟨(.some 104), (.mov (.tmp 1)), .always⟩, [], []⟩, ⟨⟨(.some 105), (.mov (.tmp 9)), .always⟩, [], []⟩, ⟨⟨(.some 106), (.idxS 1 (.tmp 104) (.tmp 105)), .always⟩, [], []⟩, ⟨⟨(.some 107), (.load .false 1 (.tmp 106)), .always⟩, [], []⟩, ⟨⟨(.some 108), (.buildSlice 1 [(.int .i64 0)] 1 [(0, (1, (.tmp 107)))]), .always⟩, [], []⟩, ⟨⟨(.some 109), (.append 1 8 (.tmp 103) (.tmp 108)), .always⟩, [], []⟩, ⟨⟨(.some 110), (.nilck (.tmp 99)), .always⟩, [], []⟩, ⟨⟨(.some 111), (.fieldAddr 2 (.tmp 110)), .always⟩, [], []⟩, ⟨⟨.none, (.store 1 (.tmp 111) (.tmp 109)), .always⟩, [], []⟩]) (.region [⟨(.some 112), (.mov (.tmp 9)), .always⟩, ⟨(.some 113), (.bin .add (.tmp 112) (.val (.int .i64 1))), .always⟩, ⟨(.some 9), (.mov (.tmp 113)), .always⟩])))))))

def lpE (n : Nat) (h : Heap) (a b : List Int) (TT : List D) (p : Lp) : St :=
  St.mk n ([iD a, iD b, .top, .top, .top, .lst TT, .ref 3 (n + 56) p.vO 0 (outN p.E p.o), .bool (!p.o.isSome), .int .i64 p.i, .int .i64 p.j] ++ List.replicate 105 .top) h
    (List.replicate 56 blk0 ++ [⟨p.vO, .cells (outC n 109 p.vN p.E p.o)⟩] ++ List.replicate 52 blk0 ++ [⟨p.vN, .cells (newC p.o)⟩] ++ List.replicate 5 blk0)

set_option maxHeartbeats 4000000 in
theorem rE_M_none {n : Nat} {h : Heap} (hl : LowH n h) {a b : List Int} (ha : a.length < 2 ^ 30) (hb : b.length < 2 ^ 30) {TT : List D} (tll : TT.length = a.length + 1) (tlow : Low n (.lst TT))
    (tab : ∀ {i j : Nat}, i ≤ a.length → j ≤ b.length → ∃ R : List Int, nth TT i = iD R ∧ R.length = b.length + 1 ∧ nth (R.map (D.int .i64)) j = .int .i64 (cG a b i j)) {i j : Nat} {E : List Ed} {vO vN : Nat}
    (hp : LpOk a b ⟨i, j, E, none, vO, vN⟩) (hia : i < a.length) (hjb : j < b.length) (hc : a[i] = b[j]) (Q : Exit → St → Prop) : awpS prog C_Edits_round (AThen (fun s' => ∃ b', LpOk a b b' ∧ a.length + b.length - b'.i - b'.j < a.length + b.length - i - j ∧ Le s' (lpE n h a b TT b')) Q) (lpE n h a b TT ⟨i, j, E, none, vO, vN⟩) := by
  obtain ⟨hi, hj, hvO, hvN, hlen, hnw, hall⟩ := hp
  simp only at hi hj hvO hvN hlen hnw hall
  have i0 : (0 : Int) ≤ (i : Int) := by omega
  have j0 : (0 : Int) ≤ (j : Int) := by omega
  have wi1 : IntKind.i64.wrap ((i : Int) + 1) = ((i + 1 : Nat) : Int) := by rw [IntWalk.i64_in _ (by omega)]; omega
  have wj1 : IntKind.i64.wrap ((j : Int) + 1) = ((j + 1 : Nat) : Int) := by rw [IntWalk.i64_in _ (by omega)]; omega
  have i3 : (0 : Int) ≤ ((i + 1 : Nat) : Int) := by omega
  have k0 : (0 : Int) ≤ (E.length : Int) := by omega
  have k1 : (E.length : Int) < ((E.length + 1 : Nat) : Int) := by omega
  have ws : IntKind.i64.wrap (((E.length + 1 : Nat) : Int) - 1) = (E.length : Int) := by rw [IntWalk.i64_in _ (by simp only [outN] at hlen; omega)]; omega
  have kf : (E.length + 1) * 40 ≤ 140737488355328 := by simp only [outN] at hlen; omega
  have hLl := eds_len E
  have wij : IntKind.i64.wrap ((i : Int) + (j : Int)) = (i : Int) + (j : Int) := IntWalk.i64_in _ (by omega)
  have wab : IntKind.i64.wrap ((a.length : Int) + (b.length : Int)) = (a.length : Int) + (b.length : Int) := IntWalk.i64_in _ (by omega)
  have hij : (i : Int) + (j : Int) < (a.length : Int) + (b.length : Int) := by omega
  have i1 : (i : Int) < (a.length : Int) := by omega
  have e0 := nth_ints a i hia
  have iT : (i : Int) < (TT.length : Int) := by omega
  have iT1 : ((i + 1 : Nat) : Int) < (TT.length : Int) := by omega
  obtain ⟨R0, t0, R0l, n0⟩ := tab (i := i) (j := j) (by omega) (by omega)
  obtain ⟨R1, t1, R1l, n1⟩ := tab (i := i + 1) (j := j) (by omega) (by omega)
  have jR0 : (j : Int) < (R0.length : Int) := by omega
  have jR1 : (j : Int) < (R1.length : Int) := by omega
  have j1 : (j : Int) < (b.length : Int) := by omega
  have e1 := nth_ints b j hjb
  have bC : (a[i] == b[j]) = true := by simp [hc]
  rw [scrAt_same hia hjb hc] at hall
  unfold C_Edits_round lpE
  simp -implicitDefEqProofs only [↓symPre, symPost, y_condP, y_condG, run, lver, minD, intsD, eqAll, tupD, splice, Nat.zero_add, Nat.add_zero, Nat.zero_mul, Nat.mul_one, Nat.one_mul, Nat.reduceAdd, Nat.reduceSub, Nat.reduceMul, Nat.reduceLT, Nat.reduceLeDiff, Nat.reduceEqDiff, true_and, and_true, true_implies, if_true, if_false, ite_true, reduceIte, ne_eq, not_false_eq_true, reduceCtorEq, forall_const, bne_self_eq_false, Bool.true_eq_false, Bool.false_eq_true, false_implies, and_self, implies_true, Int.toNat_zero, beq_self_eq_true, decide_true, decide_false, Bool.not_true, Bool.not_false, ↓y_call, List.length_map, wij, wab, hij, decide_true]
  refine adrawq hmix [] ?_
  simp (maxSteps := 400000) -implicitDefEqProofs only [↓symPre, symPost, y_condP, y_condG, run, lver, minD, intsD, eqAll, tupD, splice, Nat.zero_add, Nat.add_zero, Nat.zero_mul, Nat.mul_one, Nat.one_mul, Nat.reduceAdd, Nat.reduceSub, Nat.reduceMul, Nat.reduceLT, Nat.reduceLeDiff, Nat.reduceEqDiff, true_and, and_true, true_implies, if_true, if_false, ite_true, reduceIte, ne_eq, not_false_eq_true, reduceCtorEq, forall_const, bne_self_eq_false, Bool.true_eq_false, Bool.false_eq_true, false_implies, and_self, implies_true, Int.toNat_zero, beq_self_eq_true, decide_true, decide_false, Bool.not_true, Bool.not_false, ↓y_call, ↓drawPre, ↓y_adq_onS, drawPost, isCall, isNew, isEff, Option.toList, or_false, false_or, cond_true, cond_false, not_true_eq_false, or_true, true_or, Nat.add_left_cancel_iff, Bool.false_eq_true, List.length_map, i0, i1, j0, j1, Int.toNat_natCast, e0, e1, bC, wi1, wj1, decide_true]
  refine ⟨⟨i + 1, j + 1, E, none, vO, vN⟩, ⟨by simp only; omega, by simp only; omega, hvO, hvN, by simp only [outN] at hlen ⊢; omega, fun e he => (by cases he), hall⟩, by simp only; omega, ?_⟩
  refine le_to (List.replicate 56 .hole ++ [.old 56] ++ List.replicate 52 .hole ++ [.nil] ++ List.replicate 5 .hole) hl rfl ?_ ?_ <;> ((try simp only [y_blk_end, y_blk_hole, y_blk_nil, y_blk_old, y_wkl_end, y_wkl_top, List.replicate, List.cons_append, List.nil_append, and_true, true_and]) <;> (repeat' (first | apply And.intro | apply y_wkl | refine Exists.intro _ (And.intro rfl ?_))) <;> (try first | exact trivial | exact Wk.top _ | exact wk_int rfl | exact wk_bool rfl | exact wk_ptr rfl rfl rfl rfl | exact wk_ref rfl rfl rfl rfl rfl | exact wk_nil rfl rfl rfl | exact wk_ref rfl rfl rfl rfl (by simp) | exact wk_ref rfl rfl rfl rfl (by simp; omega) | exact wk_old (by assumption) (by simp) | exact wk_eq rfl (by first | exact Bd.int _ _ | exact Bd.bool _ | exact Bd.abool | exact Bd.nils | exact Bd.emp | exact Bd.nilp | exact Bd.nilfn | assumption | exact low_trees _ _ | exact low_treeD _ _ | exact low_ints _ _) | exact Nat.le_refl _ | exact wk_int (by simp) | exact wk_int (by omega) | exact Nat.succ_le_succ (Nat.zero_le _) | exact Nat.le_add_left _ _ | omega))
  exact wkl_eds E

set_option maxHeartbeats 4000000 in
theorem rE_M_some {n : Nat} {h : Heap} (hl : LowH n h) {a b : List Int} (ha : a.length < 2 ^ 30) (hb : b.length < 2 ^ 30) {TT : List D} (tll : TT.length = a.length + 1) (tlow : Low n (.lst TT))
    (tab : ∀ {i j : Nat}, i ≤ a.length → j ≤ b.length → ∃ R : List Int, nth TT i = iD R ∧ R.length = b.length + 1 ∧ nth (R.map (D.int .i64)) j = .int .i64 (cG a b i j)) {i j : Nat} {E : List Ed} {e : Ed} {vO vN : Nat}
    (hp : LpOk a b ⟨i, j, E, some e, vO, vN⟩) (hia : i < a.length) (hjb : j < b.length) (hc : a[i] = b[j]) (Q : Exit → St → Prop) : awpS prog C_Edits_round (AThen (fun s' => ∃ b', LpOk a b b' ∧ a.length + b.length - b'.i - b'.j < a.length + b.length - i - j ∧ Le s' (lpE n h a b TT b')) Q) (lpE n h a b TT ⟨i, j, E, some e, vO, vN⟩) := by
  obtain ⟨hi, hj, hvO, hvN, hlen, hnw, hall⟩ := hp
  simp only at hi hj hvO hvN hlen hnw hall
  have i0 : (0 : Int) ≤ (i : Int) := by omega
  have j0 : (0 : Int) ≤ (j : Int) := by omega
  have wi1 : IntKind.i64.wrap ((i : Int) + 1) = ((i + 1 : Nat) : Int) := by rw [IntWalk.i64_in _ (by omega)]; omega
  have wj1 : IntKind.i64.wrap ((j : Int) + 1) = ((j + 1 : Nat) : Int) := by rw [IntWalk.i64_in _ (by omega)]; omega
  have i3 : (0 : Int) ≤ ((i + 1 : Nat) : Int) := by omega
  have k0 : (0 : Int) ≤ (E.length : Int) := by omega
  have k1 : (E.length : Int) < ((E.length + 1 : Nat) : Int) := by omega
  have ws : IntKind.i64.wrap (((E.length + 1 : Nat) : Int) - 1) = (E.length : Int) := by rw [IntWalk.i64_in _ (by simp only [outN] at hlen; omega)]; omega
  have kf : (E.length + 1) * 40 ≤ 140737488355328 := by simp only [outN] at hlen; omega
  have hLl := eds_len E
  have wij : IntKind.i64.wrap ((i : Int) + (j : Int)) = (i : Int) + (j : Int) := IntWalk.i64_in _ (by omega)
  have wab : IntKind.i64.wrap ((a.length : Int) + (b.length : Int)) = (a.length : Int) + (b.length : Int) := IntWalk.i64_in _ (by omega)
  have hij : (i : Int) + (j : Int) < (a.length : Int) + (b.length : Int) := by omega
  have i1 : (i : Int) < (a.length : Int) := by omega
  have e0 := nth_ints a i hia
  have iT : (i : Int) < (TT.length : Int) := by omega
  have iT1 : ((i + 1 : Nat) : Int) < (TT.length : Int) := by omega
  obtain ⟨R0, t0, R0l, n0⟩ := tab (i := i) (j := j) (by omega) (by omega)
  obtain ⟨R1, t1, R1l, n1⟩ := tab (i := i + 1) (j := j) (by omega) (by omega)
  have jR0 : (j : Int) < (R0.length : Int) := by omega
  have jR1 : (j : Int) < (R1.length : Int) := by omega
  have j1 : (j : Int) < (b.length : Int) := by omega
  have e1 := nth_ints b j hjb
  have bC : (a[i] == b[j]) = true := by simp [hc]
  rw [scrAt_same hia hjb hc] at hall
  obtain ⟨h1, h2, h3, h4⟩ := hnw e rfl
  have nf : (e.w.length + 1) * 8 ≤ 140737488355328 := by omega
  have hNt : (e.w.map (D.int .i64)).take e.w.length = e.w.map (D.int .i64) := List.take_of_length_le (by simp)
  have wt : IntKind.i64.wrap (e.t + 1) = ((i + 1 : Nat) : Int) := by rw [h1]; exact wi1
  unfold C_Edits_round lpE
  simp -implicitDefEqProofs only [↓symPre, symPost, y_condP, y_condG, run, lver, minD, intsD, eqAll, tupD, splice, Nat.zero_add, Nat.add_zero, Nat.zero_mul, Nat.mul_one, Nat.one_mul, Nat.reduceAdd, Nat.reduceSub, Nat.reduceMul, Nat.reduceLT, Nat.reduceLeDiff, Nat.reduceEqDiff, true_and, and_true, true_implies, if_true, if_false, ite_true, reduceIte, ne_eq, not_false_eq_true, reduceCtorEq, forall_const, bne_self_eq_false, Bool.true_eq_false, Bool.false_eq_true, false_implies, and_self, implies_true, Int.toNat_zero, beq_self_eq_true, decide_true, decide_false, Bool.not_true, Bool.not_false, ↓y_call, List.length_map, wij, wab, hij, decide_true]
  refine adrawq hmix [] ?_
  simp (maxSteps := 400000) -implicitDefEqProofs only [↓symPre, symPost, y_condP, y_condG, run, lver, minD, intsD, eqAll, tupD, splice, Nat.zero_add, Nat.add_zero, Nat.zero_mul, Nat.mul_one, Nat.one_mul, Nat.reduceAdd, Nat.reduceSub, Nat.reduceMul, Nat.reduceLT, Nat.reduceLeDiff, Nat.reduceEqDiff, true_and, and_true, true_implies, if_true, if_false, ite_true, reduceIte, ne_eq, not_false_eq_true, reduceCtorEq, forall_const, bne_self_eq_false, Bool.true_eq_false, Bool.false_eq_true, false_implies, and_self, implies_true, Int.toNat_zero, beq_self_eq_true, decide_true, decide_false, Bool.not_true, Bool.not_false, ↓y_call, ↓drawPre, ↓y_adq_onS, drawPost, isCall, isNew, isEff, Option.toList, or_false, false_or, cond_true, cond_false, not_true_eq_false, or_true, true_or, Nat.add_left_cancel_iff, Bool.false_eq_true, List.length_map, i0, i1, j0, j1, Int.toNat_natCast, e0, e1, bC, wi1, wj1, decide_true]
  refine ⟨⟨i + 1, j + 1, E ++ [e], none, vO, vN⟩, ⟨by simp only; omega, by simp only; omega, hvO, hvN, by simp only [outN, List.length_append, List.length_singleton] at hlen ⊢; omega, fun e he => (by cases he), by simpa using hall⟩, by simp only; omega, ?_⟩
  refine le_to (List.replicate 56 .hole ++ [.old 56] ++ List.replicate 52 .hole ++ [.nil] ++ List.replicate 5 .hole) hl rfl ?_ ?_ <;> ((try simp only [y_blk_end, y_blk_hole, y_blk_nil, y_blk_old, y_wkl_end, y_wkl_top, List.replicate, List.cons_append, List.nil_append, and_true, true_and]) <;> (repeat' (first | apply And.intro | apply y_wkl | refine Exists.intro _ (And.intro rfl ?_))) <;> (try first | exact trivial | exact Wk.top _ | exact wk_int rfl | exact wk_bool rfl | exact wk_ptr rfl rfl rfl rfl | exact wk_ref rfl rfl rfl rfl rfl | exact wk_nil rfl rfl rfl | exact wk_ref rfl rfl rfl rfl (by simp) | exact wk_ref rfl rfl rfl rfl (by simp; omega) | exact wk_old (by assumption) (by simp) | exact wk_eq rfl (by first | exact Bd.int _ _ | exact Bd.bool _ | exact Bd.abool | exact Bd.nils | exact Bd.emp | exact Bd.nilp | exact Bd.nilfn | assumption | exact low_trees _ _ | exact low_treeD _ _ | exact low_ints _ _) | exact Nat.le_refl _ | exact wk_int (by simp) | exact wk_int (by omega) | exact Nat.succ_le_succ (Nat.zero_le _) | exact Nat.le_add_left _ _ | omega))
  · exact wkl_freeze rfl rfl (by simp)
  · exact wk_ref rfl rfl rfl rfl (by simp [outN])

set_option maxHeartbeats 4000000 in
theorem rE_N3d_none {n : Nat} {h : Heap} (hl : LowH n h) {a b : List Int} (ha : a.length < 2 ^ 30) (hb : b.length < 2 ^ 30) {TT : List D} (tll : TT.length = a.length + 1) (tlow : Low n (.lst TT))
    (tab : ∀ {i j : Nat}, i ≤ a.length → j ≤ b.length → ∃ R : List Int, nth TT i = iD R ∧ R.length = b.length + 1 ∧ nth (R.map (D.int .i64)) j = .int .i64 (cG a b i j)) {i j : Nat} {E : List Ed} {vO vN : Nat}
    (hp : LpOk a b ⟨i, j, E, none, vO, vN⟩) (hia : i < a.length) (hjb : j < b.length) (hc : ¬ a[i] = b[j]) (hd : dG a b i j = 1 + dG a b (i + 1) j) (Q : Exit → St → Prop) : awpS prog C_Edits_round (AThen (fun s' => ∃ b', LpOk a b b' ∧ a.length + b.length - b'.i - b'.j < a.length + b.length - i - j ∧ Le s' (lpE n h a b TT b')) Q) (lpE n h a b TT ⟨i, j, E, none, vO, vN⟩) := by
  obtain ⟨hi, hj, hvO, hvN, hlen, hnw, hall⟩ := hp
  simp only at hi hj hvO hvN hlen hnw hall
  have i0 : (0 : Int) ≤ (i : Int) := by omega
  have j0 : (0 : Int) ≤ (j : Int) := by omega
  have wi1 : IntKind.i64.wrap ((i : Int) + 1) = ((i + 1 : Nat) : Int) := by rw [IntWalk.i64_in _ (by omega)]; omega
  have wj1 : IntKind.i64.wrap ((j : Int) + 1) = ((j + 1 : Nat) : Int) := by rw [IntWalk.i64_in _ (by omega)]; omega
  have i3 : (0 : Int) ≤ ((i + 1 : Nat) : Int) := by omega
  have k0 : (0 : Int) ≤ (E.length : Int) := by omega
  have k1 : (E.length : Int) < ((E.length + 1 : Nat) : Int) := by omega
  have ws : IntKind.i64.wrap (((E.length + 1 : Nat) : Int) - 1) = (E.length : Int) := by rw [IntWalk.i64_in _ (by simp only [outN] at hlen; omega)]; omega
  have kf : (E.length + 1) * 40 ≤ 140737488355328 := by simp only [outN] at hlen; omega
  have hLl := eds_len E
  have wij : IntKind.i64.wrap ((i : Int) + (j : Int)) = (i : Int) + (j : Int) := IntWalk.i64_in _ (by omega)
  have wab : IntKind.i64.wrap ((a.length : Int) + (b.length : Int)) = (a.length : Int) + (b.length : Int) := IntWalk.i64_in _ (by omega)
  have hij : (i : Int) + (j : Int) < (a.length : Int) + (b.length : Int) := by omega
  have i1 : (i : Int) < (a.length : Int) := by omega
  have e0 := nth_ints a i hia
  have iT : (i : Int) < (TT.length : Int) := by omega
  have iT1 : ((i + 1 : Nat) : Int) < (TT.length : Int) := by omega
  obtain ⟨R0, t0, R0l, n0⟩ := tab (i := i) (j := j) (by omega) (by omega)
  obtain ⟨R1, t1, R1l, n1⟩ := tab (i := i + 1) (j := j) (by omega) (by omega)
  have jR0 : (j : Int) < (R0.length : Int) := by omega
  have jR1 : (j : Int) < (R1.length : Int) := by omega
  have j1 : (j : Int) < (b.length : Int) := by omega
  have e1 := nth_ints b j hjb
  have bE : ((j : Int) == (b.length : Int)) = false := beq_eq_false_iff_ne.2 (by omega)
  have bC : (a[i] == b[j]) = false := by simp [hc]
  have cc : cG a b (i + 1) j = cG a b i j ↔ dG a b i j = 1 + dG a b (i + 1) j := by
    unfold cG dG
    rw [dE_eq, dE_eq]; simp only [List.length_drop]; omega
  have bD : (cG a b (i + 1) j == cG a b i j) = true := by simp [cc, hd]
  rw [scrAt_del hia (.inr ⟨hjb, hc, hd⟩)] at hall
  unfold C_Edits_round lpE
  simp only [outC, newC, outN, Option.isSome]
  obtain ⟨L, hL⟩ : ∃ L, cellsF edD E = L := ⟨_, rfl⟩
  rw [hL] at hLl ⊢
  have hLlow : ∀ c ∈ L, Low n c := by rw [← hL]; exact eds_low n E
  have hLt : L.take (E.length * 3) = L := List.take_of_length_le (by omega)
  have p1 := put_1 hLl
  have p2 := put_2 hLl
  have p3 := nth_2 hLl
  have p4 := nth_1 hLl
  simp -implicitDefEqProofs only [↓symPre, symPost, y_condP, y_condG, run, lver, minD, intsD, eqAll, tupD, splice, Nat.zero_add, Nat.add_zero, Nat.zero_mul, Nat.mul_one, Nat.one_mul, Nat.reduceAdd, Nat.reduceSub, Nat.reduceMul, Nat.reduceLT, Nat.reduceLeDiff, Nat.reduceEqDiff, true_and, and_true, true_implies, if_true, if_false, ite_true, reduceIte, ne_eq, not_false_eq_true, reduceCtorEq, forall_const, bne_self_eq_false, Bool.true_eq_false, Bool.false_eq_true, false_implies, and_self, implies_true, Int.toNat_zero, beq_self_eq_true, decide_true, decide_false, Bool.not_true, Bool.not_false, ↓y_call, List.length_map, wij, wab, hij, decide_true]
  refine adrawq hmix [] ?_
  simp (maxSteps := 400000) -implicitDefEqProofs only [↓symPre, symPost, y_condP, y_condG, run, lver, minD, intsD, eqAll, tupD, splice, Nat.zero_add, Nat.add_zero, Nat.zero_mul, Nat.mul_one, Nat.one_mul, Nat.reduceAdd, Nat.reduceSub, Nat.reduceMul, Nat.reduceLT, Nat.reduceLeDiff, Nat.reduceEqDiff, true_and, and_true, true_implies, if_true, if_false, ite_true, reduceIte, ne_eq, not_false_eq_true, reduceCtorEq, forall_const, bne_self_eq_false, Bool.true_eq_false, Bool.false_eq_true, false_implies, and_self, implies_true, Int.toNat_zero, beq_self_eq_true, decide_true, decide_false, Bool.not_true, Bool.not_false, ↓y_call, ↓drawPre, ↓y_adq_onS, drawPost, isCall, isNew, isEff, Option.toList, or_false, false_or, cond_true, cond_false, not_true_eq_false, or_true, true_or, Nat.add_left_cancel_iff, Bool.false_eq_true, List.length_map, Int.toNat_natCast, decide_true, decide_false, ws, k0, k1, List.drop_zero, hLt, hLl, kf, Nat.le_refl, Nat.zero_le, List.length_append, List.length_cons, List.length_nil, i0, i1, j0, j1, e0, e1, bC]
  refine ⟨by rintro c (rfl | rfl | rfl) <;> rfl, ?_⟩
  refine adrawq hmix [] ?_
  simp (maxSteps := 400000) -implicitDefEqProofs only [↓symPre, symPost, y_condP, y_condG, run, lver, minD, intsD, eqAll, tupD, splice, Nat.zero_add, Nat.add_zero, Nat.zero_mul, Nat.mul_one, Nat.one_mul, Nat.reduceAdd, Nat.reduceSub, Nat.reduceMul, Nat.reduceLT, Nat.reduceLeDiff, Nat.reduceEqDiff, true_and, and_true, true_implies, if_true, if_false, ite_true, reduceIte, ne_eq, not_false_eq_true, reduceCtorEq, forall_const, bne_self_eq_false, Bool.true_eq_false, Bool.false_eq_true, false_implies, and_self, implies_true, Int.toNat_zero, beq_self_eq_true, decide_true, decide_false, Bool.not_true, Bool.not_false, ↓y_call, ↓drawPre, ↓y_adq_onS, drawPost, isCall, isNew, isEff, Option.toList, or_false, false_or, cond_true, cond_false, not_true_eq_false, or_true, true_or, Nat.add_left_cancel_iff, Bool.false_eq_true, List.length_map, Int.toNat_natCast, decide_true, decide_false, ws, k0, k1, List.drop_zero, hLt, hLl, kf, Nat.le_refl, Nat.zero_le, List.length_append, List.length_cons, List.length_nil, i0, i1, i3, j0, t0, t1, n0, n1, iT, iT1, jR0, jR1, bE, bD, wi1, p4, p1]
  refine ⟨by simp, by simp, by omega, by simp, by simp, by rintro c rfl; rfl, by omega, ⟨i + 1, j, E, some ⟨i, ((i + 1 : Nat) : Int), []⟩, vO + 1, 1⟩, ⟨by simp only; omega, hj, by simp only; omega, Nat.le_refl _, by simp only [outN] at hlen ⊢; omega, fun e' he => ?_, hall⟩, by simp only; omega, ?_⟩
  · injection he with he; subst he; exact ⟨rfl, by simp, by simp only; omega, by simp⟩
  dsimp only
  rw [hL]
  refine le_to (List.replicate 56 .hole ++ [.old 56] ++ List.replicate 52 .hole ++ [.nil] ++ List.replicate 5 .hole) hl rfl ?_ ?_ <;> ((try simp only [y_blk_end, y_blk_hole, y_blk_nil, y_blk_old, y_wkl_end, y_wkl_top, List.replicate, List.cons_append, List.nil_append, and_true, true_and]) <;> (repeat' (first | apply And.intro | apply y_wkl | refine Exists.intro _ (And.intro rfl ?_))) <;> (try first | exact trivial | exact Wk.top _ | exact wk_int rfl | exact wk_bool rfl | exact wk_ptr rfl rfl rfl rfl | exact wk_ref rfl rfl rfl rfl rfl | exact wk_nil rfl rfl rfl | exact wk_ref rfl rfl rfl rfl (by simp) | exact wk_ref rfl rfl rfl rfl (by simp; omega) | exact wk_old (by assumption) (by simp) | exact wk_eq rfl (by first | exact Bd.int _ _ | exact Bd.bool _ | exact Bd.abool | exact Bd.nils | exact Bd.emp | exact Bd.nilp | exact Bd.nilfn | assumption | exact low_trees _ _ | exact low_treeD _ _ | exact low_ints _ _) | exact Nat.le_refl _ | exact wk_int (by simp) | exact wk_int (by omega) | exact Nat.succ_le_succ (Nat.zero_le _) | exact Nat.le_add_left _ _ | omega))
  all_goals exact WkL.app (WkL.low hLlow) (y_wkl wk_i (y_wkl wk_i (y_wkl (wk_nil rfl rfl rfl) trivial)))

set_option maxHeartbeats 4000000 in
theorem rE_N3d_some {n : Nat} {h : Heap} (hl : LowH n h) {a b : List Int} (ha : a.length < 2 ^ 30) (hb : b.length < 2 ^ 30) {TT : List D} (tll : TT.length = a.length + 1) (tlow : Low n (.lst TT))
    (tab : ∀ {i j : Nat}, i ≤ a.length → j ≤ b.length → ∃ R : List Int, nth TT i = iD R ∧ R.length = b.length + 1 ∧ nth (R.map (D.int .i64)) j = .int .i64 (cG a b i j)) {i j : Nat} {E : List Ed} {e : Ed} {vO vN : Nat}
    (hp : LpOk a b ⟨i, j, E, some e, vO, vN⟩) (hia : i < a.length) (hjb : j < b.length) (hc : ¬ a[i] = b[j]) (hd : dG a b i j = 1 + dG a b (i + 1) j) (Q : Exit → St → Prop) : awpS prog C_Edits_round (AThen (fun s' => ∃ b', LpOk a b b' ∧ a.length + b.length - b'.i - b'.j < a.length + b.length - i - j ∧ Le s' (lpE n h a b TT b')) Q) (lpE n h a b TT ⟨i, j, E, some e, vO, vN⟩) := by
  obtain ⟨hi, hj, hvO, hvN, hlen, hnw, hall⟩ := hp
  simp only at hi hj hvO hvN hlen hnw hall
  have i0 : (0 : Int) ≤ (i : Int) := by omega
  have j0 : (0 : Int) ≤ (j : Int) := by omega
  have wi1 : IntKind.i64.wrap ((i : Int) + 1) = ((i + 1 : Nat) : Int) := by rw [IntWalk.i64_in _ (by omega)]; omega
  have wj1 : IntKind.i64.wrap ((j : Int) + 1) = ((j + 1 : Nat) : Int) := by rw [IntWalk.i64_in _ (by omega)]; omega
  have i3 : (0 : Int) ≤ ((i + 1 : Nat) : Int) := by omega
  have k0 : (0 : Int) ≤ (E.length : Int) := by omega
  have k1 : (E.length : Int) < ((E.length + 1 : Nat) : Int) := by omega
  have ws : IntKind.i64.wrap (((E.length + 1 : Nat) : Int) - 1) = (E.length : Int) := by rw [IntWalk.i64_in _ (by simp only [outN] at hlen; omega)]; omega
  have kf : (E.length + 1) * 40 ≤ 140737488355328 := by simp only [outN] at hlen; omega
  have hLl := eds_len E
  have wij : IntKind.i64.wrap ((i : Int) + (j : Int)) = (i : Int) + (j : Int) := IntWalk.i64_in _ (by omega)
  have wab : IntKind.i64.wrap ((a.length : Int) + (b.length : Int)) = (a.length : Int) + (b.length : Int) := IntWalk.i64_in _ (by omega)
  have hij : (i : Int) + (j : Int) < (a.length : Int) + (b.length : Int) := by omega
  have i1 : (i : Int) < (a.length : Int) := by omega
  have e0 := nth_ints a i hia
  have iT : (i : Int) < (TT.length : Int) := by omega
  have iT1 : ((i + 1 : Nat) : Int) < (TT.length : Int) := by omega
  obtain ⟨R0, t0, R0l, n0⟩ := tab (i := i) (j := j) (by omega) (by omega)
  obtain ⟨R1, t1, R1l, n1⟩ := tab (i := i + 1) (j := j) (by omega) (by omega)
  have jR0 : (j : Int) < (R0.length : Int) := by omega
  have jR1 : (j : Int) < (R1.length : Int) := by omega
  have j1 : (j : Int) < (b.length : Int) := by omega
  have e1 := nth_ints b j hjb
  have bE : ((j : Int) == (b.length : Int)) = false := beq_eq_false_iff_ne.2 (by omega)
  have bC : (a[i] == b[j]) = false := by simp [hc]
  have cc : cG a b (i + 1) j = cG a b i j ↔ dG a b i j = 1 + dG a b (i + 1) j := by
    unfold cG dG
    rw [dE_eq, dE_eq]; simp only [List.length_drop]; omega
  have bD : (cG a b (i + 1) j == cG a b i j) = true := by simp [cc, hd]
  rw [scrAt_del hia (.inr ⟨hjb, hc, hd⟩)] at hall
  obtain ⟨h1, h2, h3, h4⟩ := hnw e rfl
  have nf : (e.w.length + 1) * 8 ≤ 140737488355328 := by omega
  have hNt : (e.w.map (D.int .i64)).take e.w.length = e.w.map (D.int .i64) := List.take_of_length_le (by simp)
  have wt : IntKind.i64.wrap (e.t + 1) = ((i + 1 : Nat) : Int) := by rw [h1]; exact wi1
  unfold C_Edits_round lpE
  simp only [outC, newC, outN, Option.isSome]
  obtain ⟨L, hL⟩ : ∃ L, cellsF edD E = L := ⟨_, rfl⟩
  rw [hL] at hLl ⊢
  have hLlow : ∀ c ∈ L, Low n c := by rw [← hL]; exact eds_low n E
  have hLt : L.take (E.length * 3) = L := List.take_of_length_le (by omega)
  have p1 := put_1 hLl
  have p2 := put_2 hLl
  have p3 := nth_2 hLl
  have p4 := nth_1 hLl
  simp -implicitDefEqProofs only [↓symPre, symPost, y_condP, y_condG, run, lver, minD, intsD, eqAll, tupD, splice, Nat.zero_add, Nat.add_zero, Nat.zero_mul, Nat.mul_one, Nat.one_mul, Nat.reduceAdd, Nat.reduceSub, Nat.reduceMul, Nat.reduceLT, Nat.reduceLeDiff, Nat.reduceEqDiff, true_and, and_true, true_implies, if_true, if_false, ite_true, reduceIte, ne_eq, not_false_eq_true, reduceCtorEq, forall_const, bne_self_eq_false, Bool.true_eq_false, Bool.false_eq_true, false_implies, and_self, implies_true, Int.toNat_zero, beq_self_eq_true, decide_true, decide_false, Bool.not_true, Bool.not_false, ↓y_call, List.length_map, wij, wab, hij, decide_true]
  refine adrawq hmix [] ?_
  simp (maxSteps := 400000) -implicitDefEqProofs only [↓symPre, symPost, y_condP, y_condG, run, lver, minD, intsD, eqAll, tupD, splice, Nat.zero_add, Nat.add_zero, Nat.zero_mul, Nat.mul_one, Nat.one_mul, Nat.reduceAdd, Nat.reduceSub, Nat.reduceMul, Nat.reduceLT, Nat.reduceLeDiff, Nat.reduceEqDiff, true_and, and_true, true_implies, if_true, if_false, ite_true, reduceIte, ne_eq, not_false_eq_true, reduceCtorEq, forall_const, bne_self_eq_false, Bool.true_eq_false, Bool.false_eq_true, false_implies, and_self, implies_true, Int.toNat_zero, beq_self_eq_true, decide_true, decide_false, Bool.not_true, Bool.not_false, ↓y_call, ↓drawPre, ↓y_adq_onS, drawPost, isCall, isNew, isEff, Option.toList, or_false, false_or, cond_true, cond_false, not_true_eq_false, or_true, true_or, Nat.add_left_cancel_iff, Bool.false_eq_true, List.length_map, Int.toNat_natCast, decide_true, decide_false, ws, k0, k1, List.drop_zero, hLt, hLl, kf, Nat.le_refl, Nat.zero_le, List.length_append, List.length_cons, List.length_nil, i0, i1, j0, j1, e0, e1, bC]
  refine adrawq hmix [] ?_
  simp (maxSteps := 400000) -implicitDefEqProofs only [↓symPre, symPost, y_condP, y_condG, run, lver, minD, intsD, eqAll, tupD, splice, Nat.zero_add, Nat.add_zero, Nat.zero_mul, Nat.mul_one, Nat.one_mul, Nat.reduceAdd, Nat.reduceSub, Nat.reduceMul, Nat.reduceLT, Nat.reduceLeDiff, Nat.reduceEqDiff, true_and, and_true, true_implies, if_true, if_false, ite_true, reduceIte, ne_eq, not_false_eq_true, reduceCtorEq, forall_const, bne_self_eq_false, Bool.true_eq_false, Bool.false_eq_true, false_implies, and_self, implies_true, Int.toNat_zero, beq_self_eq_true, decide_true, decide_false, Bool.not_true, Bool.not_false, ↓y_call, ↓drawPre, ↓y_adq_onS, drawPost, isCall, isNew, isEff, Option.toList, or_false, false_or, cond_true, cond_false, not_true_eq_false, or_true, true_or, Nat.add_left_cancel_iff, Bool.false_eq_true, List.length_map, Int.toNat_natCast, decide_true, decide_false, ws, k0, k1, List.drop_zero, hLt, hLl, kf, Nat.le_refl, Nat.zero_le, List.length_append, List.length_cons, List.length_nil, i0, i1, i3, j0, t0, t1, n0, n1, iT, iT1, jR0, jR1, bE, bD, wi1, p4, wt, p1]
  refine ⟨by simp, by simp, by omega, by simp, by simp, by rintro c rfl; rfl, by omega, ⟨i + 1, j, E, some { e with t := ((i + 1 : Nat) : Int) }, vO, vN⟩, ⟨by simp only; omega, hj, hvO, hvN, by simp only [outN] at hlen ⊢; omega, fun e' he => ?_, hall⟩, by simp only; omega, ?_⟩
  · injection he with he; subst he; exact ⟨rfl, h2, by simp only; omega, h4⟩
  dsimp only
  rw [hL]
  refine le_to (List.replicate 56 .hole ++ [.old 56] ++ List.replicate 52 .hole ++ [.old 109] ++ List.replicate 5 .hole) hl rfl ?_ ?_ <;> ((try simp only [y_blk_end, y_blk_hole, y_blk_nil, y_blk_old, y_wkl_end, y_wkl_top, List.replicate, List.cons_append, List.nil_append, and_true, true_and]) <;> (repeat' (first | apply And.intro | apply y_wkl | refine Exists.intro _ (And.intro rfl ?_))) <;> (try first | exact trivial | exact Wk.top _ | exact wk_int rfl | exact wk_bool rfl | exact wk_ptr rfl rfl rfl rfl | exact wk_ref rfl rfl rfl rfl rfl | exact wk_nil rfl rfl rfl | exact wk_ref rfl rfl rfl rfl (by simp) | exact wk_ref rfl rfl rfl rfl (by simp; omega) | exact wk_old (by assumption) (by simp) | exact wk_eq rfl (by first | exact Bd.int _ _ | exact Bd.bool _ | exact Bd.abool | exact Bd.nils | exact Bd.emp | exact Bd.nilp | exact Bd.nilfn | assumption | exact low_trees _ _ | exact low_treeD _ _ | exact low_ints _ _) | exact Nat.le_refl _ | exact wk_int (by simp) | exact wk_int (by omega) | exact Nat.succ_le_succ (Nat.zero_le _) | exact Nat.le_add_left _ _ | omega))
  all_goals first | exact WkL.app (WkL.low hLlow) (y_wkl wk_i (y_wkl wk_i (y_wkl (wk_ref rfl rfl rfl rfl rfl) trivial))) | exact WkL.low (low_iD _ _)

set_option maxHeartbeats 4000000 in
theorem rE_N3i_none {n : Nat} {h : Heap} (hl : LowH n h) {a b : List Int} (ha : a.length < 2 ^ 30) (hb : b.length < 2 ^ 30) {TT : List D} (tll : TT.length = a.length + 1) (tlow : Low n (.lst TT))
    (tab : ∀ {i j : Nat}, i ≤ a.length → j ≤ b.length → ∃ R : List Int, nth TT i = iD R ∧ R.length = b.length + 1 ∧ nth (R.map (D.int .i64)) j = .int .i64 (cG a b i j)) {i j : Nat} {E : List Ed} {vO vN : Nat}
    (hp : LpOk a b ⟨i, j, E, none, vO, vN⟩) (hia : i < a.length) (hjb : j < b.length) (hc : ¬ a[i] = b[j]) (hd : ¬ dG a b i j = 1 + dG a b (i + 1) j) (Q : Exit → St → Prop) : awpS prog C_Edits_round (AThen (fun s' => ∃ b', LpOk a b b' ∧ a.length + b.length - b'.i - b'.j < a.length + b.length - i - j ∧ Le s' (lpE n h a b TT b')) Q) (lpE n h a b TT ⟨i, j, E, none, vO, vN⟩) := by
  obtain ⟨hi, hj, hvO, hvN, hlen, hnw, hall⟩ := hp
  simp only at hi hj hvO hvN hlen hnw hall
  have i0 : (0 : Int) ≤ (i : Int) := by omega
  have j0 : (0 : Int) ≤ (j : Int) := by omega
  have wi1 : IntKind.i64.wrap ((i : Int) + 1) = ((i + 1 : Nat) : Int) := by rw [IntWalk.i64_in _ (by omega)]; omega
  have wj1 : IntKind.i64.wrap ((j : Int) + 1) = ((j + 1 : Nat) : Int) := by rw [IntWalk.i64_in _ (by omega)]; omega
  have i3 : (0 : Int) ≤ ((i + 1 : Nat) : Int) := by omega
  have k0 : (0 : Int) ≤ (E.length : Int) := by omega
  have k1 : (E.length : Int) < ((E.length + 1 : Nat) : Int) := by omega
  have ws : IntKind.i64.wrap (((E.length + 1 : Nat) : Int) - 1) = (E.length : Int) := by rw [IntWalk.i64_in _ (by simp only [outN] at hlen; omega)]; omega
  have kf : (E.length + 1) * 40 ≤ 140737488355328 := by simp only [outN] at hlen; omega
  have hLl := eds_len E
  have wij : IntKind.i64.wrap ((i : Int) + (j : Int)) = (i : Int) + (j : Int) := IntWalk.i64_in _ (by omega)
  have wab : IntKind.i64.wrap ((a.length : Int) + (b.length : Int)) = (a.length : Int) + (b.length : Int) := IntWalk.i64_in _ (by omega)
  have hij : (i : Int) + (j : Int) < (a.length : Int) + (b.length : Int) := by omega
  have i1 : (i : Int) < (a.length : Int) := by omega
  have e0 := nth_ints a i hia
  have iT : (i : Int) < (TT.length : Int) := by omega
  have iT1 : ((i + 1 : Nat) : Int) < (TT.length : Int) := by omega
  obtain ⟨R0, t0, R0l, n0⟩ := tab (i := i) (j := j) (by omega) (by omega)
  obtain ⟨R1, t1, R1l, n1⟩ := tab (i := i + 1) (j := j) (by omega) (by omega)
  have jR0 : (j : Int) < (R0.length : Int) := by omega
  have jR1 : (j : Int) < (R1.length : Int) := by omega
  have j1 : (j : Int) < (b.length : Int) := by omega
  have e1 := nth_ints b j hjb
  have bE : ((j : Int) == (b.length : Int)) = false := beq_eq_false_iff_ne.2 (by omega)
  have bC : (a[i] == b[j]) = false := by simp [hc]
  have cc : cG a b (i + 1) j = cG a b i j ↔ dG a b i j = 1 + dG a b (i + 1) j := by
    unfold cG dG
    rw [dE_eq, dE_eq]; simp only [List.length_drop]; omega
  have bD : (cG a b (i + 1) j == cG a b i j) = false := by simp [cc, hd]
  rw [scrAt_ins hjb (.inr ⟨hia, hc, hd⟩)] at hall
  unfold C_Edits_round lpE
  simp only [outC, newC, outN, Option.isSome]
  obtain ⟨L, hL⟩ : ∃ L, cellsF edD E = L := ⟨_, rfl⟩
  rw [hL] at hLl ⊢
  have hLlow : ∀ c ∈ L, Low n c := by rw [← hL]; exact eds_low n E
  have hLt : L.take (E.length * 3) = L := List.take_of_length_le (by omega)
  have p1 := put_1 hLl
  have p2 := put_2 hLl
  have p3 := nth_2 hLl
  have p4 := nth_1 hLl
  simp -implicitDefEqProofs only [↓symPre, symPost, y_condP, y_condG, run, lver, minD, intsD, eqAll, tupD, splice, Nat.zero_add, Nat.add_zero, Nat.zero_mul, Nat.mul_one, Nat.one_mul, Nat.reduceAdd, Nat.reduceSub, Nat.reduceMul, Nat.reduceLT, Nat.reduceLeDiff, Nat.reduceEqDiff, true_and, and_true, true_implies, if_true, if_false, ite_true, reduceIte, ne_eq, not_false_eq_true, reduceCtorEq, forall_const, bne_self_eq_false, Bool.true_eq_false, Bool.false_eq_true, false_implies, and_self, implies_true, Int.toNat_zero, beq_self_eq_true, decide_true, decide_false, Bool.not_true, Bool.not_false, ↓y_call, List.length_map, wij, wab, hij, decide_true]
  refine adrawq hmix [] ?_
  simp (maxSteps := 400000) -implicitDefEqProofs only [↓symPre, symPost, y_condP, y_condG, run, lver, minD, intsD, eqAll, tupD, splice, Nat.zero_add, Nat.add_zero, Nat.zero_mul, Nat.mul_one, Nat.one_mul, Nat.reduceAdd, Nat.reduceSub, Nat.reduceMul, Nat.reduceLT, Nat.reduceLeDiff, Nat.reduceEqDiff, true_and, and_true, true_implies, if_true, if_false, ite_true, reduceIte, ne_eq, not_false_eq_true, reduceCtorEq, forall_const, bne_self_eq_false, Bool.true_eq_false, Bool.false_eq_true, false_implies, and_self, implies_true, Int.toNat_zero, beq_self_eq_true, decide_true, decide_false, Bool.not_true, Bool.not_false, ↓y_call, ↓drawPre, ↓y_adq_onS, drawPost, isCall, isNew, isEff, Option.toList, or_false, false_or, cond_true, cond_false, not_true_eq_false, or_true, true_or, Nat.add_left_cancel_iff, Bool.false_eq_true, List.length_map, Int.toNat_natCast, decide_true, decide_false, ws, k0, k1, List.drop_zero, hLt, hLl, kf, Nat.le_refl, Nat.zero_le, List.length_append, List.length_cons, List.length_nil, i0, i1, j0, j1, e0, e1, bC]
  refine ⟨by rintro c (rfl | rfl | rfl) <;> rfl, ?_⟩
  refine adrawq hmix [] ?_
  simp (maxSteps := 400000) -implicitDefEqProofs only [↓symPre, symPost, y_condP, y_condG, run, lver, minD, intsD, eqAll, tupD, splice, Nat.zero_add, Nat.add_zero, Nat.zero_mul, Nat.mul_one, Nat.one_mul, Nat.reduceAdd, Nat.reduceSub, Nat.reduceMul, Nat.reduceLT, Nat.reduceLeDiff, Nat.reduceEqDiff, true_and, and_true, true_implies, if_true, if_false, ite_true, reduceIte, ne_eq, not_false_eq_true, reduceCtorEq, forall_const, bne_self_eq_false, Bool.true_eq_false, Bool.false_eq_true, false_implies, and_self, implies_true, Int.toNat_zero, beq_self_eq_true, decide_true, decide_false, Bool.not_true, Bool.not_false, ↓y_call, ↓drawPre, ↓y_adq_onS, drawPost, isCall, isNew, isEff, Option.toList, or_false, false_or, cond_true, cond_false, not_true_eq_false, or_true, true_or, Nat.add_left_cancel_iff, Bool.false_eq_true, List.length_map, Int.toNat_natCast, decide_true, decide_false, ws, k0, k1, List.drop_zero, hLt, hLl, kf, Nat.le_refl, Nat.zero_le, List.length_append, List.length_cons, List.length_nil, i0, i1, i3, j0, t0, t1, n0, n1, iT, iT1, jR0, jR1, bE, bD, wi1, p4, p1]
  refine adrawq hmix (List.replicate 10 [] ++ [[n + 109], [], [], [n + 56]]) ?_
  simp (maxSteps := 400000) -implicitDefEqProofs only [↓symPre, symPost, y_condP, y_condG, run, lver, minD, intsD, eqAll, tupD, splice, Nat.zero_add, Nat.add_zero, Nat.zero_mul, Nat.mul_one, Nat.one_mul, Nat.reduceAdd, Nat.reduceSub, Nat.reduceMul, Nat.reduceLT, Nat.reduceLeDiff, Nat.reduceEqDiff, true_and, and_true, true_implies, if_true, if_false, ite_true, reduceIte, ne_eq, not_false_eq_true, reduceCtorEq, forall_const, bne_self_eq_false, Bool.true_eq_false, Bool.false_eq_true, false_implies, and_self, implies_true, Int.toNat_zero, beq_self_eq_true, decide_true, decide_false, Bool.not_true, Bool.not_false, ↓y_call, ↓drawPre, ↓y_adq_onS, drawPost, isCall, isNew, isEff, Option.toList, or_false, false_or, cond_true, cond_false, not_true_eq_false, or_true, true_or, Nat.add_left_cancel_iff, Bool.false_eq_true, List.length_map, Int.toNat_natCast, decide_true, decide_false, ws, k0, k1, List.drop_zero, hLt, hLl, kf, Nat.le_refl, Nat.zero_le, List.length_append, List.length_cons, List.length_nil, j0, j1, e1, p2, p3, wj1, List.replicate, List.cons_append, List.nil_append, List.getD_cons_succ, List.getD_cons_zero]
  refine ⟨by simp, by simp, by omega, by rintro c rfl; rfl, by simp, by simp, by rintro c rfl; rfl, ⟨i, j + 1, E, some ⟨i, i, [b[j]]⟩, vO + 1, vN + 1⟩, ⟨hi, by simp only; omega, by simp only; omega, by simp only; omega, by simp only [outN] at hlen ⊢; omega, fun e' he => ?_, hall⟩, by simp only; omega, ?_⟩
  · injection he with he; subst he; exact ⟨rfl, by simp, Int.le_refl _, by simp⟩
  dsimp only
  rw [hL]
  refine le_to (List.replicate 56 .hole ++ [.old 56] ++ List.replicate 52 .hole ++ [.old 109] ++ List.replicate 5 .hole) hl rfl ?_ ?_ <;> ((try simp only [y_blk_end, y_blk_hole, y_blk_nil, y_blk_old, y_wkl_end, y_wkl_top, List.replicate, List.cons_append, List.nil_append, and_true, true_and]) <;> (repeat' (first | apply And.intro | apply y_wkl | refine Exists.intro _ (And.intro rfl ?_))) <;> (try first | exact trivial | exact Wk.top _ | exact wk_int rfl | exact wk_bool rfl | exact wk_ptr rfl rfl rfl rfl | exact wk_ref rfl rfl rfl rfl rfl | exact wk_nil rfl rfl rfl | exact wk_ref rfl rfl rfl rfl (by simp) | exact wk_ref rfl rfl rfl rfl (by simp; omega) | exact wk_old (by assumption) (by simp) | exact wk_eq rfl (by first | exact Bd.int _ _ | exact Bd.bool _ | exact Bd.abool | exact Bd.nils | exact Bd.emp | exact Bd.nilp | exact Bd.nilfn | assumption | exact low_trees _ _ | exact low_treeD _ _ | exact low_ints _ _) | exact Nat.le_refl _ | exact wk_int (by simp) | exact wk_int (by omega) | exact Nat.succ_le_succ (Nat.zero_le _) | exact Nat.le_add_left _ _ | omega))
  all_goals first | exact WkL.app (WkL.low hLlow) (y_wkl wk_i (y_wkl wk_i (y_wkl (wk_ref rfl rfl rfl rfl rfl) trivial))) | exact wkl_snoc [] _

set_option maxHeartbeats 4000000 in
theorem rE_N3i_some {n : Nat} {h : Heap} (hl : LowH n h) {a b : List Int} (ha : a.length < 2 ^ 30) (hb : b.length < 2 ^ 30) {TT : List D} (tll : TT.length = a.length + 1) (tlow : Low n (.lst TT))
    (tab : ∀ {i j : Nat}, i ≤ a.length → j ≤ b.length → ∃ R : List Int, nth TT i = iD R ∧ R.length = b.length + 1 ∧ nth (R.map (D.int .i64)) j = .int .i64 (cG a b i j)) {i j : Nat} {E : List Ed} {e : Ed} {vO vN : Nat}
    (hp : LpOk a b ⟨i, j, E, some e, vO, vN⟩) (hia : i < a.length) (hjb : j < b.length) (hc : ¬ a[i] = b[j]) (hd : ¬ dG a b i j = 1 + dG a b (i + 1) j) (Q : Exit → St → Prop) : awpS prog C_Edits_round (AThen (fun s' => ∃ b', LpOk a b b' ∧ a.length + b.length - b'.i - b'.j < a.length + b.length - i - j ∧ Le s' (lpE n h a b TT b')) Q) (lpE n h a b TT ⟨i, j, E, some e, vO, vN⟩) := by
  obtain ⟨hi, hj, hvO, hvN, hlen, hnw, hall⟩ := hp
  simp only at hi hj hvO hvN hlen hnw hall
  have i0 : (0 : Int) ≤ (i : Int) := by omega
  have j0 : (0 : Int) ≤ (j : Int) := by omega
  have wi1 : IntKind.i64.wrap ((i : Int) + 1) = ((i + 1 : Nat) : Int) := by rw [IntWalk.i64_in _ (by omega)]; omega
  have wj1 : IntKind.i64.wrap ((j : Int) + 1) = ((j + 1 : Nat) : Int) := by rw [IntWalk.i64_in _ (by omega)]; omega
  have i3 : (0 : Int) ≤ ((i + 1 : Nat) : Int) := by omega
  have k0 : (0 : Int) ≤ (E.length : Int) := by omega
  have k1 : (E.length : Int) < ((E.length + 1 : Nat) : Int) := by omega
  have ws : IntKind.i64.wrap (((E.length + 1 : Nat) : Int) - 1) = (E.length : Int) := by rw [IntWalk.i64_in _ (by simp only [outN] at hlen; omega)]; omega
  have kf : (E.length + 1) * 40 ≤ 140737488355328 := by simp only [outN] at hlen; omega
  have hLl := eds_len E
  have wij : IntKind.i64.wrap ((i : Int) + (j : Int)) = (i : Int) + (j : Int) := IntWalk.i64_in _ (by omega)
  have wab : IntKind.i64.wrap ((a.length : Int) + (b.length : Int)) = (a.length : Int) + (b.length : Int) := IntWalk.i64_in _ (by omega)
  have hij : (i : Int) + (j : Int) < (a.length : Int) + (b.length : Int) := by omega
  have i1 : (i : Int) < (a.length : Int) := by omega
  have e0 := nth_ints a i hia
  have iT : (i : Int) < (TT.length : Int) := by omega
  have iT1 : ((i + 1 : Nat) : Int) < (TT.length : Int) := by omega
  obtain ⟨R0, t0, R0l, n0⟩ := tab (i := i) (j := j) (by omega) (by omega)
  obtain ⟨R1, t1, R1l, n1⟩ := tab (i := i + 1) (j := j) (by omega) (by omega)
  have jR0 : (j : Int) < (R0.length : Int) := by omega
  have jR1 : (j : Int) < (R1.length : Int) := by omega
  have j1 : (j : Int) < (b.length : Int) := by omega
  have e1 := nth_ints b j hjb
  have bE : ((j : Int) == (b.length : Int)) = false := beq_eq_false_iff_ne.2 (by omega)
  have bC : (a[i] == b[j]) = false := by simp [hc]
  have cc : cG a b (i + 1) j = cG a b i j ↔ dG a b i j = 1 + dG a b (i + 1) j := by
    unfold cG dG
    rw [dE_eq, dE_eq]; simp only [List.length_drop]; omega
  have bD : (cG a b (i + 1) j == cG a b i j) = false := by simp [cc, hd]
  rw [scrAt_ins hjb (.inr ⟨hia, hc, hd⟩)] at hall
  obtain ⟨h1, h2, h3, h4⟩ := hnw e rfl
  have nf : (e.w.length + 1) * 8 ≤ 140737488355328 := by omega
  have hNt : (e.w.map (D.int .i64)).take e.w.length = e.w.map (D.int .i64) := List.take_of_length_le (by simp)
  have wt : IntKind.i64.wrap (e.t + 1) = ((i + 1 : Nat) : Int) := by rw [h1]; exact wi1
  unfold C_Edits_round lpE
  simp only [outC, newC, outN, Option.isSome]
  obtain ⟨L, hL⟩ : ∃ L, cellsF edD E = L := ⟨_, rfl⟩
  rw [hL] at hLl ⊢
  have hLlow : ∀ c ∈ L, Low n c := by rw [← hL]; exact eds_low n E
  have hLt : L.take (E.length * 3) = L := List.take_of_length_le (by omega)
  have p1 := put_1 hLl
  have p2 := put_2 hLl
  have p3 := nth_2 hLl
  have p4 := nth_1 hLl
  simp -implicitDefEqProofs only [↓symPre, symPost, y_condP, y_condG, run, lver, minD, intsD, eqAll, tupD, splice, Nat.zero_add, Nat.add_zero, Nat.zero_mul, Nat.mul_one, Nat.one_mul, Nat.reduceAdd, Nat.reduceSub, Nat.reduceMul, Nat.reduceLT, Nat.reduceLeDiff, Nat.reduceEqDiff, true_and, and_true, true_implies, if_true, if_false, ite_true, reduceIte, ne_eq, not_false_eq_true, reduceCtorEq, forall_const, bne_self_eq_false, Bool.true_eq_false, Bool.false_eq_true, false_implies, and_self, implies_true, Int.toNat_zero, beq_self_eq_true, decide_true, decide_false, Bool.not_true, Bool.not_false, ↓y_call, List.length_map, wij, wab, hij, decide_true]
  refine adrawq hmix [] ?_
  simp (maxSteps := 400000) -implicitDefEqProofs only [↓symPre, symPost, y_condP, y_condG, run, lver, minD, intsD, eqAll, tupD, splice, Nat.zero_add, Nat.add_zero, Nat.zero_mul, Nat.mul_one, Nat.one_mul, Nat.reduceAdd, Nat.reduceSub, Nat.reduceMul, Nat.reduceLT, Nat.reduceLeDiff, Nat.reduceEqDiff, true_and, and_true, true_implies, if_true, if_false, ite_true, reduceIte, ne_eq, not_false_eq_true, reduceCtorEq, forall_const, bne_self_eq_false, Bool.true_eq_false, Bool.false_eq_true, false_implies, and_self, implies_true, Int.toNat_zero, beq_self_eq_true, decide_true, decide_false, Bool.not_true, Bool.not_false, ↓y_call, ↓drawPre, ↓y_adq_onS, drawPost, isCall, isNew, isEff, Option.toList, or_false, false_or, cond_true, cond_false, not_true_eq_false, or_true, true_or, Nat.add_left_cancel_iff, Bool.false_eq_true, List.length_map, Int.toNat_natCast, decide_true, decide_false, ws, k0, k1, List.drop_zero, hLt, hLl, kf, Nat.le_refl, Nat.zero_le, List.length_append, List.length_cons, List.length_nil, i0, i1, j0, j1, e0, e1, bC]
  refine adrawq hmix [] ?_
  simp (maxSteps := 400000) -implicitDefEqProofs only [↓symPre, symPost, y_condP, y_condG, run, lver, minD, intsD, eqAll, tupD, splice, Nat.zero_add, Nat.add_zero, Nat.zero_mul, Nat.mul_one, Nat.one_mul, Nat.reduceAdd, Nat.reduceSub, Nat.reduceMul, Nat.reduceLT, Nat.reduceLeDiff, Nat.reduceEqDiff, true_and, and_true, true_implies, if_true, if_false, ite_true, reduceIte, ne_eq, not_false_eq_true, reduceCtorEq, forall_const, bne_self_eq_false, Bool.true_eq_false, Bool.false_eq_true, false_implies, and_self, implies_true, Int.toNat_zero, beq_self_eq_true, decide_true, decide_false, Bool.not_true, Bool.not_false, ↓y_call, ↓drawPre, ↓y_adq_onS, drawPost, isCall, isNew, isEff, Option.toList, or_false, false_or, cond_true, cond_false, not_true_eq_false, or_true, true_or, Nat.add_left_cancel_iff, Bool.false_eq_true, List.length_map, Int.toNat_natCast, decide_true, decide_false, ws, k0, k1, List.drop_zero, hLt, hLl, kf, Nat.le_refl, Nat.zero_le, List.length_append, List.length_cons, List.length_nil, i0, i1, i3, j0, t0, t1, n0, n1, iT, iT1, jR0, jR1, bE, bD, wi1, p4, wt, p1]
  refine adrawq hmix (List.replicate 10 [] ++ [[n + 109], [], [], [n + 56]]) ?_
  simp (maxSteps := 400000) -implicitDefEqProofs only [↓symPre, symPost, y_condP, y_condG, run, lver, minD, intsD, eqAll, tupD, splice, Nat.zero_add, Nat.add_zero, Nat.zero_mul, Nat.mul_one, Nat.one_mul, Nat.reduceAdd, Nat.reduceSub, Nat.reduceMul, Nat.reduceLT, Nat.reduceLeDiff, Nat.reduceEqDiff, true_and, and_true, true_implies, if_true, if_false, ite_true, reduceIte, ne_eq, not_false_eq_true, reduceCtorEq, forall_const, bne_self_eq_false, Bool.true_eq_false, Bool.false_eq_true, false_implies, and_self, implies_true, Int.toNat_zero, beq_self_eq_true, decide_true, decide_false, Bool.not_true, Bool.not_false, ↓y_call, ↓drawPre, ↓y_adq_onS, drawPost, isCall, isNew, isEff, Option.toList, or_false, false_or, cond_true, cond_false, not_true_eq_false, or_true, true_or, Nat.add_left_cancel_iff, Bool.false_eq_true, List.length_map, Int.toNat_natCast, decide_true, decide_false, ws, k0, k1, List.drop_zero, hLt, hLl, kf, Nat.le_refl, Nat.zero_le, List.length_append, List.length_cons, List.length_nil, j0, j1, e1, p2, p3, wj1, nf, hNt, List.replicate, List.cons_append, List.nil_append, List.getD_cons_succ, List.getD_cons_zero]
  refine ⟨by simp, by simp, by omega, by rintro c rfl; rfl, by simp, by simp, by rintro c rfl; rfl, ⟨i, j + 1, E, some { e with w := e.w ++ [b[j]] }, vO, vN + 1⟩, ⟨hi, by simp only; omega, hvO, by simp only; omega, by simp only [outN] at hlen ⊢; omega, fun e' he => ?_, hall⟩, by simp only; omega, ?_⟩
  · injection he with he; subst he; exact ⟨h1, h2, h3, by simp; omega⟩
  dsimp only
  rw [hL]
  refine le_to (List.replicate 56 .hole ++ [.old 56] ++ List.replicate 52 .hole ++ [.old 109] ++ List.replicate 5 .hole) hl rfl ?_ ?_ <;> ((try simp only [y_blk_end, y_blk_hole, y_blk_nil, y_blk_old, y_wkl_end, y_wkl_top, List.replicate, List.cons_append, List.nil_append, and_true, true_and]) <;> (repeat' (first | apply And.intro | apply y_wkl | refine Exists.intro _ (And.intro rfl ?_))) <;> (try first | exact trivial | exact Wk.top _ | exact wk_int rfl | exact wk_bool rfl | exact wk_ptr rfl rfl rfl rfl | exact wk_ref rfl rfl rfl rfl rfl | exact wk_nil rfl rfl rfl | exact wk_ref rfl rfl rfl rfl (by simp) | exact wk_ref rfl rfl rfl rfl (by simp; omega) | exact wk_old (by assumption) (by simp) | exact wk_eq rfl (by first | exact Bd.int _ _ | exact Bd.bool _ | exact Bd.abool | exact Bd.nils | exact Bd.emp | exact Bd.nilp | exact Bd.nilfn | assumption | exact low_trees _ _ | exact low_treeD _ _ | exact low_ints _ _) | exact Nat.le_refl _ | exact wk_int (by simp) | exact wk_int (by omega) | exact Nat.succ_le_succ (Nat.zero_le _) | exact Nat.le_add_left _ _ | omega))
  all_goals first | exact WkL.app (WkL.low hLlow) (y_wkl wk_i (y_wkl wk_i (y_wkl (wk_ref rfl rfl rfl rfl (by simp)) trivial))) | exact wkl_snoc _ _

set_option maxHeartbeats 4000000 in
theorem rE_N2d_none {n : Nat} {h : Heap} (hl : LowH n h) {a b : List Int} (ha : a.length < 2 ^ 30) (hb : b.length < 2 ^ 30) {TT : List D} (tll : TT.length = a.length + 1) (tlow : Low n (.lst TT))
    (tab : ∀ {i j : Nat}, i ≤ a.length → j ≤ b.length → ∃ R : List Int, nth TT i = iD R ∧ R.length = b.length + 1 ∧ nth (R.map (D.int .i64)) j = .int .i64 (cG a b i j)) {i j : Nat} {E : List Ed} {vO vN : Nat}
    (hp : LpOk a b ⟨i, j, E, none, vO, vN⟩) (hia : i < a.length) (hjb : ¬ j < b.length) (Q : Exit → St → Prop) : awpS prog C_Edits_round (AThen (fun s' => ∃ b', LpOk a b b' ∧ a.length + b.length - b'.i - b'.j < a.length + b.length - i - j ∧ Le s' (lpE n h a b TT b')) Q) (lpE n h a b TT ⟨i, j, E, none, vO, vN⟩) := by
  obtain ⟨hi, hj, hvO, hvN, hlen, hnw, hall⟩ := hp
  simp only at hi hj hvO hvN hlen hnw hall
  have i0 : (0 : Int) ≤ (i : Int) := by omega
  have j0 : (0 : Int) ≤ (j : Int) := by omega
  have wi1 : IntKind.i64.wrap ((i : Int) + 1) = ((i + 1 : Nat) : Int) := by rw [IntWalk.i64_in _ (by omega)]; omega
  have wj1 : IntKind.i64.wrap ((j : Int) + 1) = ((j + 1 : Nat) : Int) := by rw [IntWalk.i64_in _ (by omega)]; omega
  have i3 : (0 : Int) ≤ ((i + 1 : Nat) : Int) := by omega
  have k0 : (0 : Int) ≤ (E.length : Int) := by omega
  have k1 : (E.length : Int) < ((E.length + 1 : Nat) : Int) := by omega
  have ws : IntKind.i64.wrap (((E.length + 1 : Nat) : Int) - 1) = (E.length : Int) := by rw [IntWalk.i64_in _ (by simp only [outN] at hlen; omega)]; omega
  have kf : (E.length + 1) * 40 ≤ 140737488355328 := by simp only [outN] at hlen; omega
  have hLl := eds_len E
  have wij : IntKind.i64.wrap ((i : Int) + (j : Int)) = (i : Int) + (j : Int) := IntWalk.i64_in _ (by omega)
  have wab : IntKind.i64.wrap ((a.length : Int) + (b.length : Int)) = (a.length : Int) + (b.length : Int) := IntWalk.i64_in _ (by omega)
  have hij : (i : Int) + (j : Int) < (a.length : Int) + (b.length : Int) := by omega
  have i1 : (i : Int) < (a.length : Int) := by omega
  have e0 := nth_ints a i hia
  have iT : (i : Int) < (TT.length : Int) := by omega
  have iT1 : ((i + 1 : Nat) : Int) < (TT.length : Int) := by omega
  obtain ⟨R0, t0, R0l, n0⟩ := tab (i := i) (j := j) (by omega) (by omega)
  obtain ⟨R1, t1, R1l, n1⟩ := tab (i := i + 1) (j := j) (by omega) (by omega)
  have jR0 : (j : Int) < (R0.length : Int) := by omega
  have jR1 : (j : Int) < (R1.length : Int) := by omega
  have nj1 : ¬ (j : Int) < (b.length : Int) := by omega
  have bE : ((j : Int) == (b.length : Int)) = true := by simp; omega
  have hd := dG_end (a := a) (b := b) hia (show b.length ≤ j by omega)
  rw [scrAt_del hia (.inl (by omega))] at hall
  unfold C_Edits_round lpE
  simp only [outC, newC, outN, Option.isSome]
  obtain ⟨L, hL⟩ : ∃ L, cellsF edD E = L := ⟨_, rfl⟩
  rw [hL] at hLl ⊢
  have hLlow : ∀ c ∈ L, Low n c := by rw [← hL]; exact eds_low n E
  have hLt : L.take (E.length * 3) = L := List.take_of_length_le (by omega)
  have p1 := put_1 hLl
  have p2 := put_2 hLl
  have p3 := nth_2 hLl
  have p4 := nth_1 hLl
  simp -implicitDefEqProofs only [↓symPre, symPost, y_condP, y_condG, run, lver, minD, intsD, eqAll, tupD, splice, Nat.zero_add, Nat.add_zero, Nat.zero_mul, Nat.mul_one, Nat.one_mul, Nat.reduceAdd, Nat.reduceSub, Nat.reduceMul, Nat.reduceLT, Nat.reduceLeDiff, Nat.reduceEqDiff, true_and, and_true, true_implies, if_true, if_false, ite_true, reduceIte, ne_eq, not_false_eq_true, reduceCtorEq, forall_const, bne_self_eq_false, Bool.true_eq_false, Bool.false_eq_true, false_implies, and_self, implies_true, Int.toNat_zero, beq_self_eq_true, decide_true, decide_false, Bool.not_true, Bool.not_false, ↓y_call, List.length_map, wij, wab, hij, decide_true]
  refine adrawq hmix [] ?_
  simp (maxSteps := 400000) -implicitDefEqProofs only [↓symPre, symPost, y_condP, y_condG, run, lver, minD, intsD, eqAll, tupD, splice, Nat.zero_add, Nat.add_zero, Nat.zero_mul, Nat.mul_one, Nat.one_mul, Nat.reduceAdd, Nat.reduceSub, Nat.reduceMul, Nat.reduceLT, Nat.reduceLeDiff, Nat.reduceEqDiff, true_and, and_true, true_implies, if_true, if_false, ite_true, reduceIte, ne_eq, not_false_eq_true, reduceCtorEq, forall_const, bne_self_eq_false, Bool.true_eq_false, Bool.false_eq_true, false_implies, and_self, implies_true, Int.toNat_zero, beq_self_eq_true, decide_true, decide_false, Bool.not_true, Bool.not_false, ↓y_call, ↓drawPre, ↓y_adq_onS, drawPost, isCall, isNew, isEff, Option.toList, or_false, false_or, cond_true, cond_false, not_true_eq_false, or_true, true_or, Nat.add_left_cancel_iff, Bool.false_eq_true, List.length_map, Int.toNat_natCast, decide_true, decide_false, ws, k0, k1, List.drop_zero, hLt, hLl, kf, Nat.le_refl, Nat.zero_le, List.length_append, List.length_cons, List.length_nil, i0, i1, j0, nj1]
  refine ⟨by rintro c (rfl | rfl | rfl) <;> rfl, ?_⟩
  refine adrawq hmix [] ?_
  simp (maxSteps := 400000) -implicitDefEqProofs only [↓symPre, symPost, y_condP, y_condG, run, lver, minD, intsD, eqAll, tupD, splice, Nat.zero_add, Nat.add_zero, Nat.zero_mul, Nat.mul_one, Nat.one_mul, Nat.reduceAdd, Nat.reduceSub, Nat.reduceMul, Nat.reduceLT, Nat.reduceLeDiff, Nat.reduceEqDiff, true_and, and_true, true_implies, if_true, if_false, ite_true, reduceIte, ne_eq, not_false_eq_true, reduceCtorEq, forall_const, bne_self_eq_false, Bool.true_eq_false, Bool.false_eq_true, false_implies, and_self, implies_true, Int.toNat_zero, beq_self_eq_true, decide_true, decide_false, Bool.not_true, Bool.not_false, ↓y_call, ↓drawPre, ↓y_adq_onS, drawPost, isCall, isNew, isEff, Option.toList, or_false, false_or, cond_true, cond_false, not_true_eq_false, or_true, true_or, Nat.add_left_cancel_iff, Bool.false_eq_true, List.length_map, Int.toNat_natCast, decide_true, decide_false, ws, k0, k1, List.drop_zero, hLt, hLl, kf, Nat.le_refl, Nat.zero_le, List.length_append, List.length_cons, List.length_nil, i1, bE, wi1, p4, p1]
  refine ⟨by simp, by simp, by omega, by simp, by simp, by rintro c rfl; rfl, by omega, ⟨i + 1, j, E, some ⟨i, ((i + 1 : Nat) : Int), []⟩, vO + 1, 1⟩, ⟨by simp only; omega, hj, by simp only; omega, Nat.le_refl _, by simp only [outN] at hlen ⊢; omega, fun e' he => ?_, hall⟩, by simp only; omega, ?_⟩
  · injection he with he; subst he; exact ⟨rfl, by simp, by simp only; omega, by simp⟩
  dsimp only
  rw [hL]
  refine le_to (List.replicate 56 .hole ++ [.old 56] ++ List.replicate 52 .hole ++ [.nil] ++ List.replicate 5 .hole) hl rfl ?_ ?_ <;> ((try simp only [y_blk_end, y_blk_hole, y_blk_nil, y_blk_old, y_wkl_end, y_wkl_top, List.replicate, List.cons_append, List.nil_append, and_true, true_and]) <;> (repeat' (first | apply And.intro | apply y_wkl | refine Exists.intro _ (And.intro rfl ?_))) <;> (try first | exact trivial | exact Wk.top _ | exact wk_int rfl | exact wk_bool rfl | exact wk_ptr rfl rfl rfl rfl | exact wk_ref rfl rfl rfl rfl rfl | exact wk_nil rfl rfl rfl | exact wk_ref rfl rfl rfl rfl (by simp) | exact wk_ref rfl rfl rfl rfl (by simp; omega) | exact wk_old (by assumption) (by simp) | exact wk_eq rfl (by first | exact Bd.int _ _ | exact Bd.bool _ | exact Bd.abool | exact Bd.nils | exact Bd.emp | exact Bd.nilp | exact Bd.nilfn | assumption | exact low_trees _ _ | exact low_treeD _ _ | exact low_ints _ _) | exact Nat.le_refl _ | exact wk_int (by simp) | exact wk_int (by omega) | exact Nat.succ_le_succ (Nat.zero_le _) | exact Nat.le_add_left _ _ | omega))
  all_goals exact WkL.app (WkL.low hLlow) (y_wkl wk_i (y_wkl wk_i (y_wkl (wk_nil rfl rfl rfl) trivial)))

set_option maxHeartbeats 4000000 in
theorem rE_N2d_some {n : Nat} {h : Heap} (hl : LowH n h) {a b : List Int} (ha : a.length < 2 ^ 30) (hb : b.length < 2 ^ 30) {TT : List D} (tll : TT.length = a.length + 1) (tlow : Low n (.lst TT))
    (tab : ∀ {i j : Nat}, i ≤ a.length → j ≤ b.length → ∃ R : List Int, nth TT i = iD R ∧ R.length = b.length + 1 ∧ nth (R.map (D.int .i64)) j = .int .i64 (cG a b i j)) {i j : Nat} {E : List Ed} {e : Ed} {vO vN : Nat}
    (hp : LpOk a b ⟨i, j, E, some e, vO, vN⟩) (hia : i < a.length) (hjb : ¬ j < b.length) (Q : Exit → St → Prop) : awpS prog C_Edits_round (AThen (fun s' => ∃ b', LpOk a b b' ∧ a.length + b.length - b'.i - b'.j < a.length + b.length - i - j ∧ Le s' (lpE n h a b TT b')) Q) (lpE n h a b TT ⟨i, j, E, some e, vO, vN⟩) := by
  obtain ⟨hi, hj, hvO, hvN, hlen, hnw, hall⟩ := hp
  simp only at hi hj hvO hvN hlen hnw hall
  have i0 : (0 : Int) ≤ (i : Int) := by omega
  have j0 : (0 : Int) ≤ (j : Int) := by omega
  have wi1 : IntKind.i64.wrap ((i : Int) + 1) = ((i + 1 : Nat) : Int) := by rw [IntWalk.i64_in _ (by omega)]; omega
  have wj1 : IntKind.i64.wrap ((j : Int) + 1) = ((j + 1 : Nat) : Int) := by rw [IntWalk.i64_in _ (by omega)]; omega
  have i3 : (0 : Int) ≤ ((i + 1 : Nat) : Int) := by omega
  have k0 : (0 : Int) ≤ (E.length : Int) := by omega
  have k1 : (E.length : Int) < ((E.length + 1 : Nat) : Int) := by omega
  have ws : IntKind.i64.wrap (((E.length + 1 : Nat) : Int) - 1) = (E.length : Int) := by rw [IntWalk.i64_in _ (by simp only [outN] at hlen; omega)]; omega
  have kf : (E.length + 1) * 40 ≤ 140737488355328 := by simp only [outN] at hlen; omega
  have hLl := eds_len E
  have wij : IntKind.i64.wrap ((i : Int) + (j : Int)) = (i : Int) + (j : Int) := IntWalk.i64_in _ (by omega)
  have wab : IntKind.i64.wrap ((a.length : Int) + (b.length : Int)) = (a.length : Int) + (b.length : Int) := IntWalk.i64_in _ (by omega)
  have hij : (i : Int) + (j : Int) < (a.length : Int) + (b.length : Int) := by omega
  have i1 : (i : Int) < (a.length : Int) := by omega
  have e0 := nth_ints a i hia
  have iT : (i : Int) < (TT.length : Int) := by omega
  have iT1 : ((i + 1 : Nat) : Int) < (TT.length : Int) := by omega
  obtain ⟨R0, t0, R0l, n0⟩ := tab (i := i) (j := j) (by omega) (by omega)
  obtain ⟨R1, t1, R1l, n1⟩ := tab (i := i + 1) (j := j) (by omega) (by omega)
  have jR0 : (j : Int) < (R0.length : Int) := by omega
  have jR1 : (j : Int) < (R1.length : Int) := by omega
  have nj1 : ¬ (j : Int) < (b.length : Int) := by omega
  have bE : ((j : Int) == (b.length : Int)) = true := by simp; omega
  have hd := dG_end (a := a) (b := b) hia (show b.length ≤ j by omega)
  rw [scrAt_del hia (.inl (by omega))] at hall
  obtain ⟨h1, h2, h3, h4⟩ := hnw e rfl
  have nf : (e.w.length + 1) * 8 ≤ 140737488355328 := by omega
  have hNt : (e.w.map (D.int .i64)).take e.w.length = e.w.map (D.int .i64) := List.take_of_length_le (by simp)
  have wt : IntKind.i64.wrap (e.t + 1) = ((i + 1 : Nat) : Int) := by rw [h1]; exact wi1
  unfold C_Edits_round lpE
  simp only [outC, newC, outN, Option.isSome]
  obtain ⟨L, hL⟩ : ∃ L, cellsF edD E = L := ⟨_, rfl⟩
  rw [hL] at hLl ⊢
  have hLlow : ∀ c ∈ L, Low n c := by rw [← hL]; exact eds_low n E
  have hLt : L.take (E.length * 3) = L := List.take_of_length_le (by omega)
  have p1 := put_1 hLl
  have p2 := put_2 hLl
  have p3 := nth_2 hLl
  have p4 := nth_1 hLl
  simp -implicitDefEqProofs only [↓symPre, symPost, y_condP, y_condG, run, lver, minD, intsD, eqAll, tupD, splice, Nat.zero_add, Nat.add_zero, Nat.zero_mul, Nat.mul_one, Nat.one_mul, Nat.reduceAdd, Nat.reduceSub, Nat.reduceMul, Nat.reduceLT, Nat.reduceLeDiff, Nat.reduceEqDiff, true_and, and_true, true_implies, if_true, if_false, ite_true, reduceIte, ne_eq, not_false_eq_true, reduceCtorEq, forall_const, bne_self_eq_false, Bool.true_eq_false, Bool.false_eq_true, false_implies, and_self, implies_true, Int.toNat_zero, beq_self_eq_true, decide_true, decide_false, Bool.not_true, Bool.not_false, ↓y_call, List.length_map, wij, wab, hij, decide_true]
  refine adrawq hmix [] ?_
  simp (maxSteps := 400000) -implicitDefEqProofs only [↓symPre, symPost, y_condP, y_condG, run, lver, minD, intsD, eqAll, tupD, splice, Nat.zero_add, Nat.add_zero, Nat.zero_mul, Nat.mul_one, Nat.one_mul, Nat.reduceAdd, Nat.reduceSub, Nat.reduceMul, Nat.reduceLT, Nat.reduceLeDiff, Nat.reduceEqDiff, true_and, and_true, true_implies, if_true, if_false, ite_true, reduceIte, ne_eq, not_false_eq_true, reduceCtorEq, forall_const, bne_self_eq_false, Bool.true_eq_false, Bool.false_eq_true, false_implies, and_self, implies_true, Int.toNat_zero, beq_self_eq_true, decide_true, decide_false, Bool.not_true, Bool.not_false, ↓y_call, ↓drawPre, ↓y_adq_onS, drawPost, isCall, isNew, isEff, Option.toList, or_false, false_or, cond_true, cond_false, not_true_eq_false, or_true, true_or, Nat.add_left_cancel_iff, Bool.false_eq_true, List.length_map, Int.toNat_natCast, decide_true, decide_false, ws, k0, k1, List.drop_zero, hLt, hLl, kf, Nat.le_refl, Nat.zero_le, List.length_append, List.length_cons, List.length_nil, i0, i1, j0, nj1]
  refine adrawq hmix [] ?_
  simp (maxSteps := 400000) -implicitDefEqProofs only [↓symPre, symPost, y_condP, y_condG, run, lver, minD, intsD, eqAll, tupD, splice, Nat.zero_add, Nat.add_zero, Nat.zero_mul, Nat.mul_one, Nat.one_mul, Nat.reduceAdd, Nat.reduceSub, Nat.reduceMul, Nat.reduceLT, Nat.reduceLeDiff, Nat.reduceEqDiff, true_and, and_true, true_implies, if_true, if_false, ite_true, reduceIte, ne_eq, not_false_eq_true, reduceCtorEq, forall_const, bne_self_eq_false, Bool.true_eq_false, Bool.false_eq_true, false_implies, and_self, implies_true, Int.toNat_zero, beq_self_eq_true, decide_true, decide_false, Bool.not_true, Bool.not_false, ↓y_call, ↓drawPre, ↓y_adq_onS, drawPost, isCall, isNew, isEff, Option.toList, or_false, false_or, cond_true, cond_false, not_true_eq_false, or_true, true_or, Nat.add_left_cancel_iff, Bool.false_eq_true, List.length_map, Int.toNat_natCast, decide_true, decide_false, ws, k0, k1, List.drop_zero, hLt, hLl, kf, Nat.le_refl, Nat.zero_le, List.length_append, List.length_cons, List.length_nil, i1, bE, wi1, p4, wt, p1]
  refine ⟨by simp, by simp, by omega, by simp, by simp, by rintro c rfl; rfl, by omega, ⟨i + 1, j, E, some { e with t := ((i + 1 : Nat) : Int) }, vO, vN⟩, ⟨by simp only; omega, hj, hvO, hvN, by simp only [outN] at hlen ⊢; omega, fun e' he => ?_, hall⟩, by simp only; omega, ?_⟩
  · injection he with he; subst he; exact ⟨rfl, h2, by simp only; omega, h4⟩
  dsimp only
  rw [hL]
  refine le_to (List.replicate 56 .hole ++ [.old 56] ++ List.replicate 52 .hole ++ [.old 109] ++ List.replicate 5 .hole) hl rfl ?_ ?_ <;> ((try simp only [y_blk_end, y_blk_hole, y_blk_nil, y_blk_old, y_wkl_end, y_wkl_top, List.replicate, List.cons_append, List.nil_append, and_true, true_and]) <;> (repeat' (first | apply And.intro | apply y_wkl | refine Exists.intro _ (And.intro rfl ?_))) <;> (try first | exact trivial | exact Wk.top _ | exact wk_int rfl | exact wk_bool rfl | exact wk_ptr rfl rfl rfl rfl | exact wk_ref rfl rfl rfl rfl rfl | exact wk_nil rfl rfl rfl | exact wk_ref rfl rfl rfl rfl (by simp) | exact wk_ref rfl rfl rfl rfl (by simp; omega) | exact wk_old (by assumption) (by simp) | exact wk_eq rfl (by first | exact Bd.int _ _ | exact Bd.bool _ | exact Bd.abool | exact Bd.nils | exact Bd.emp | exact Bd.nilp | exact Bd.nilfn | assumption | exact low_trees _ _ | exact low_treeD _ _ | exact low_ints _ _) | exact Nat.le_refl _ | exact wk_int (by simp) | exact wk_int (by omega) | exact Nat.succ_le_succ (Nat.zero_le _) | exact Nat.le_add_left _ _ | omega))
  all_goals first | exact WkL.app (WkL.low hLlow) (y_wkl wk_i (y_wkl wk_i (y_wkl (wk_ref rfl rfl rfl rfl rfl) trivial))) | exact WkL.low (low_iD _ _)

set_option maxHeartbeats 4000000 in
theorem rE_N1i_none {n : Nat} {h : Heap} (hl : LowH n h) {a b : List Int} (ha : a.length < 2 ^ 30) (hb : b.length < 2 ^ 30) {TT : List D} (tll : TT.length = a.length + 1) (tlow : Low n (.lst TT))
    (tab : ∀ {i j : Nat}, i ≤ a.length → j ≤ b.length → ∃ R : List Int, nth TT i = iD R ∧ R.length = b.length + 1 ∧ nth (R.map (D.int .i64)) j = .int .i64 (cG a b i j)) {i j : Nat} {E : List Ed} {vO vN : Nat}
    (hp : LpOk a b ⟨i, j, E, none, vO, vN⟩) (hia : ¬ i < a.length) (hjb : j < b.length) (Q : Exit → St → Prop) : awpS prog C_Edits_round (AThen (fun s' => ∃ b', LpOk a b b' ∧ a.length + b.length - b'.i - b'.j < a.length + b.length - i - j ∧ Le s' (lpE n h a b TT b')) Q) (lpE n h a b TT ⟨i, j, E, none, vO, vN⟩) := by
  obtain ⟨hi, hj, hvO, hvN, hlen, hnw, hall⟩ := hp
  simp only at hi hj hvO hvN hlen hnw hall
  have i0 : (0 : Int) ≤ (i : Int) := by omega
  have j0 : (0 : Int) ≤ (j : Int) := by omega
  have wi1 : IntKind.i64.wrap ((i : Int) + 1) = ((i + 1 : Nat) : Int) := by rw [IntWalk.i64_in _ (by omega)]; omega
  have wj1 : IntKind.i64.wrap ((j : Int) + 1) = ((j + 1 : Nat) : Int) := by rw [IntWalk.i64_in _ (by omega)]; omega
  have i3 : (0 : Int) ≤ ((i + 1 : Nat) : Int) := by omega
  have k0 : (0 : Int) ≤ (E.length : Int) := by omega
  have k1 : (E.length : Int) < ((E.length + 1 : Nat) : Int) := by omega
  have ws : IntKind.i64.wrap (((E.length + 1 : Nat) : Int) - 1) = (E.length : Int) := by rw [IntWalk.i64_in _ (by simp only [outN] at hlen; omega)]; omega
  have kf : (E.length + 1) * 40 ≤ 140737488355328 := by simp only [outN] at hlen; omega
  have hLl := eds_len E
  have wij : IntKind.i64.wrap ((i : Int) + (j : Int)) = (i : Int) + (j : Int) := IntWalk.i64_in _ (by omega)
  have wab : IntKind.i64.wrap ((a.length : Int) + (b.length : Int)) = (a.length : Int) + (b.length : Int) := IntWalk.i64_in _ (by omega)
  have hij : (i : Int) + (j : Int) < (a.length : Int) + (b.length : Int) := by omega
  have ni1 : ¬ (i : Int) < (a.length : Int) := by omega
  have j1 : (j : Int) < (b.length : Int) := by omega
  have e1 := nth_ints b j hjb
  rw [scrAt_ins hjb (.inl (by omega))] at hall
  unfold C_Edits_round lpE
  simp only [outC, newC, outN, Option.isSome]
  obtain ⟨L, hL⟩ : ∃ L, cellsF edD E = L := ⟨_, rfl⟩
  rw [hL] at hLl ⊢
  have hLlow : ∀ c ∈ L, Low n c := by rw [← hL]; exact eds_low n E
  have hLt : L.take (E.length * 3) = L := List.take_of_length_le (by omega)
  have p1 := put_1 hLl
  have p2 := put_2 hLl
  have p3 := nth_2 hLl
  have p4 := nth_1 hLl
  simp -implicitDefEqProofs only [↓symPre, symPost, y_condP, y_condG, run, lver, minD, intsD, eqAll, tupD, splice, Nat.zero_add, Nat.add_zero, Nat.zero_mul, Nat.mul_one, Nat.one_mul, Nat.reduceAdd, Nat.reduceSub, Nat.reduceMul, Nat.reduceLT, Nat.reduceLeDiff, Nat.reduceEqDiff, true_and, and_true, true_implies, if_true, if_false, ite_true, reduceIte, ne_eq, not_false_eq_true, reduceCtorEq, forall_const, bne_self_eq_false, Bool.true_eq_false, Bool.false_eq_true, false_implies, and_self, implies_true, Int.toNat_zero, beq_self_eq_true, decide_true, decide_false, Bool.not_true, Bool.not_false, ↓y_call, List.length_map, wij, wab, hij, decide_true]
  refine adrawq hmix [] ?_
  simp (maxSteps := 400000) -implicitDefEqProofs only [↓symPre, symPost, y_condP, y_condG, run, lver, minD, intsD, eqAll, tupD, splice, Nat.zero_add, Nat.add_zero, Nat.zero_mul, Nat.mul_one, Nat.one_mul, Nat.reduceAdd, Nat.reduceSub, Nat.reduceMul, Nat.reduceLT, Nat.reduceLeDiff, Nat.reduceEqDiff, true_and, and_true, true_implies, if_true, if_false, ite_true, reduceIte, ne_eq, not_false_eq_true, reduceCtorEq, forall_const, bne_self_eq_false, Bool.true_eq_false, Bool.false_eq_true, false_implies, and_self, implies_true, Int.toNat_zero, beq_self_eq_true, decide_true, decide_false, Bool.not_true, Bool.not_false, ↓y_call, ↓drawPre, ↓y_adq_onS, drawPost, isCall, isNew, isEff, Option.toList, or_false, false_or, cond_true, cond_false, not_true_eq_false, or_true, true_or, Nat.add_left_cancel_iff, Bool.false_eq_true, List.length_map, Int.toNat_natCast, decide_true, decide_false, ws, k0, k1, List.drop_zero, hLt, hLl, kf, Nat.le_refl, Nat.zero_le, List.length_append, List.length_cons, List.length_nil, ni1]
  refine ⟨by rintro c (rfl | rfl | rfl) <;> rfl, ?_⟩
  refine adrawq hmix [] ?_
  simp (maxSteps := 400000) -implicitDefEqProofs only [↓symPre, symPost, y_condP, y_condG, run, lver, minD, intsD, eqAll, tupD, splice, Nat.zero_add, Nat.add_zero, Nat.zero_mul, Nat.mul_one, Nat.one_mul, Nat.reduceAdd, Nat.reduceSub, Nat.reduceMul, Nat.reduceLT, Nat.reduceLeDiff, Nat.reduceEqDiff, true_and, and_true, true_implies, if_true, if_false, ite_true, reduceIte, ne_eq, not_false_eq_true, reduceCtorEq, forall_const, bne_self_eq_false, Bool.true_eq_false, Bool.false_eq_true, false_implies, and_self, implies_true, Int.toNat_zero, beq_self_eq_true, decide_true, decide_false, Bool.not_true, Bool.not_false, ↓y_call, ↓drawPre, ↓y_adq_onS, drawPost, isCall, isNew, isEff, Option.toList, or_false, false_or, cond_true, cond_false, not_true_eq_false, or_true, true_or, Nat.add_left_cancel_iff, Bool.false_eq_true, List.length_map, Int.toNat_natCast, decide_true, decide_false, ws, k0, k1, List.drop_zero, hLt, hLl, kf, Nat.le_refl, Nat.zero_le, List.length_append, List.length_cons, List.length_nil, ni1, p1]
  refine adrawq hmix (List.replicate 10 [] ++ [[n + 109], [], [], [n + 56]]) ?_
  simp (maxSteps := 400000) -implicitDefEqProofs only [↓symPre, symPost, y_condP, y_condG, run, lver, minD, intsD, eqAll, tupD, splice, Nat.zero_add, Nat.add_zero, Nat.zero_mul, Nat.mul_one, Nat.one_mul, Nat.reduceAdd, Nat.reduceSub, Nat.reduceMul, Nat.reduceLT, Nat.reduceLeDiff, Nat.reduceEqDiff, true_and, and_true, true_implies, if_true, if_false, ite_true, reduceIte, ne_eq, not_false_eq_true, reduceCtorEq, forall_const, bne_self_eq_false, Bool.true_eq_false, Bool.false_eq_true, false_implies, and_self, implies_true, Int.toNat_zero, beq_self_eq_true, decide_true, decide_false, Bool.not_true, Bool.not_false, ↓y_call, ↓drawPre, ↓y_adq_onS, drawPost, isCall, isNew, isEff, Option.toList, or_false, false_or, cond_true, cond_false, not_true_eq_false, or_true, true_or, Nat.add_left_cancel_iff, Bool.false_eq_true, List.length_map, Int.toNat_natCast, decide_true, decide_false, ws, k0, k1, List.drop_zero, hLt, hLl, kf, Nat.le_refl, Nat.zero_le, List.length_append, List.length_cons, List.length_nil, j0, j1, e1, p2, p3, wj1, List.replicate, List.cons_append, List.nil_append, List.getD_cons_succ, List.getD_cons_zero]
  refine ⟨by simp, by simp, by omega, by rintro c rfl; rfl, by simp, by simp, by rintro c rfl; rfl, ⟨i, j + 1, E, some ⟨i, i, [b[j]]⟩, vO + 1, vN + 1⟩, ⟨hi, by simp only; omega, by simp only; omega, by simp only; omega, by simp only [outN] at hlen ⊢; omega, fun e' he => ?_, hall⟩, by simp only; omega, ?_⟩
  · injection he with he; subst he; exact ⟨rfl, by simp, Int.le_refl _, by simp⟩
  dsimp only
  rw [hL]
  refine le_to (List.replicate 56 .hole ++ [.old 56] ++ List.replicate 52 .hole ++ [.old 109] ++ List.replicate 5 .hole) hl rfl ?_ ?_ <;> ((try simp only [y_blk_end, y_blk_hole, y_blk_nil, y_blk_old, y_wkl_end, y_wkl_top, List.replicate, List.cons_append, List.nil_append, and_true, true_and]) <;> (repeat' (first | apply And.intro | apply y_wkl | refine Exists.intro _ (And.intro rfl ?_))) <;> (try first | exact trivial | exact Wk.top _ | exact wk_int rfl | exact wk_bool rfl | exact wk_ptr rfl rfl rfl rfl | exact wk_ref rfl rfl rfl rfl rfl | exact wk_nil rfl rfl rfl | exact wk_ref rfl rfl rfl rfl (by simp) | exact wk_ref rfl rfl rfl rfl (by simp; omega) | exact wk_old (by assumption) (by simp) | exact wk_eq rfl (by first | exact Bd.int _ _ | exact Bd.bool _ | exact Bd.abool | exact Bd.nils | exact Bd.emp | exact Bd.nilp | exact Bd.nilfn | assumption | exact low_trees _ _ | exact low_treeD _ _ | exact low_ints _ _) | exact Nat.le_refl _ | exact wk_int (by simp) | exact wk_int (by omega) | exact Nat.succ_le_succ (Nat.zero_le _) | exact Nat.le_add_left _ _ | omega))
  all_goals first | exact WkL.app (WkL.low hLlow) (y_wkl wk_i (y_wkl wk_i (y_wkl (wk_ref rfl rfl rfl rfl rfl) trivial))) | exact wkl_snoc [] _

set_option maxHeartbeats 4000000 in
theorem rE_N1i_some {n : Nat} {h : Heap} (hl : LowH n h) {a b : List Int} (ha : a.length < 2 ^ 30) (hb : b.length < 2 ^ 30) {TT : List D} (tll : TT.length = a.length + 1) (tlow : Low n (.lst TT))
    (tab : ∀ {i j : Nat}, i ≤ a.length → j ≤ b.length → ∃ R : List Int, nth TT i = iD R ∧ R.length = b.length + 1 ∧ nth (R.map (D.int .i64)) j = .int .i64 (cG a b i j)) {i j : Nat} {E : List Ed} {e : Ed} {vO vN : Nat}
    (hp : LpOk a b ⟨i, j, E, some e, vO, vN⟩) (hia : ¬ i < a.length) (hjb : j < b.length) (Q : Exit → St → Prop) : awpS prog C_Edits_round (AThen (fun s' => ∃ b', LpOk a b b' ∧ a.length + b.length - b'.i - b'.j < a.length + b.length - i - j ∧ Le s' (lpE n h a b TT b')) Q) (lpE n h a b TT ⟨i, j, E, some e, vO, vN⟩) := by
  obtain ⟨hi, hj, hvO, hvN, hlen, hnw, hall⟩ := hp
  simp only at hi hj hvO hvN hlen hnw hall
  have i0 : (0 : Int) ≤ (i : Int) := by omega
  have j0 : (0 : Int) ≤ (j : Int) := by omega
  have wi1 : IntKind.i64.wrap ((i : Int) + 1) = ((i + 1 : Nat) : Int) := by rw [IntWalk.i64_in _ (by omega)]; omega
  have wj1 : IntKind.i64.wrap ((j : Int) + 1) = ((j + 1 : Nat) : Int) := by rw [IntWalk.i64_in _ (by omega)]; omega
  have i3 : (0 : Int) ≤ ((i + 1 : Nat) : Int) := by omega
  have k0 : (0 : Int) ≤ (E.length : Int) := by omega
  have k1 : (E.length : Int) < ((E.length + 1 : Nat) : Int) := by omega
  have ws : IntKind.i64.wrap (((E.length + 1 : Nat) : Int) - 1) = (E.length : Int) := by rw [IntWalk.i64_in _ (by simp only [outN] at hlen; omega)]; omega
  have kf : (E.length + 1) * 40 ≤ 140737488355328 := by simp only [outN] at hlen; omega
  have hLl := eds_len E
  have wij : IntKind.i64.wrap ((i : Int) + (j : Int)) = (i : Int) + (j : Int) := IntWalk.i64_in _ (by omega)
  have wab : IntKind.i64.wrap ((a.length : Int) + (b.length : Int)) = (a.length : Int) + (b.length : Int) := IntWalk.i64_in _ (by omega)
  have hij : (i : Int) + (j : Int) < (a.length : Int) + (b.length : Int) := by omega
  have ni1 : ¬ (i : Int) < (a.length : Int) := by omega
  have j1 : (j : Int) < (b.length : Int) := by omega
  have e1 := nth_ints b j hjb
  rw [scrAt_ins hjb (.inl (by omega))] at hall
  obtain ⟨h1, h2, h3, h4⟩ := hnw e rfl
  have nf : (e.w.length + 1) * 8 ≤ 140737488355328 := by omega
  have hNt : (e.w.map (D.int .i64)).take e.w.length = e.w.map (D.int .i64) := List.take_of_length_le (by simp)
  have wt : IntKind.i64.wrap (e.t + 1) = ((i + 1 : Nat) : Int) := by rw [h1]; exact wi1
  unfold C_Edits_round lpE
  simp only [outC, newC, outN, Option.isSome]
  obtain ⟨L, hL⟩ : ∃ L, cellsF edD E = L := ⟨_, rfl⟩
  rw [hL] at hLl ⊢
  have hLlow : ∀ c ∈ L, Low n c := by rw [← hL]; exact eds_low n E
  have hLt : L.take (E.length * 3) = L := List.take_of_length_le (by omega)
  have p1 := put_1 hLl
  have p2 := put_2 hLl
  have p3 := nth_2 hLl
  have p4 := nth_1 hLl
  simp -implicitDefEqProofs only [↓symPre, symPost, y_condP, y_condG, run, lver, minD, intsD, eqAll, tupD, splice, Nat.zero_add, Nat.add_zero, Nat.zero_mul, Nat.mul_one, Nat.one_mul, Nat.reduceAdd, Nat.reduceSub, Nat.reduceMul, Nat.reduceLT, Nat.reduceLeDiff, Nat.reduceEqDiff, true_and, and_true, true_implies, if_true, if_false, ite_true, reduceIte, ne_eq, not_false_eq_true, reduceCtorEq, forall_const, bne_self_eq_false, Bool.true_eq_false, Bool.false_eq_true, false_implies, and_self, implies_true, Int.toNat_zero, beq_self_eq_true, decide_true, decide_false, Bool.not_true, Bool.not_false, ↓y_call, List.length_map, wij, wab, hij, decide_true]
  refine adrawq hmix [] ?_
  simp (maxSteps := 400000) -implicitDefEqProofs only [↓symPre, symPost, y_condP, y_condG, run, lver, minD, intsD, eqAll, tupD, splice, Nat.zero_add, Nat.add_zero, Nat.zero_mul, Nat.mul_one, Nat.one_mul, Nat.reduceAdd, Nat.reduceSub, Nat.reduceMul, Nat.reduceLT, Nat.reduceLeDiff, Nat.reduceEqDiff, true_and, and_true, true_implies, if_true, if_false, ite_true, reduceIte, ne_eq, not_false_eq_true, reduceCtorEq, forall_const, bne_self_eq_false, Bool.true_eq_false, Bool.false_eq_true, false_implies, and_self, implies_true, Int.toNat_zero, beq_self_eq_true, decide_true, decide_false, Bool.not_true, Bool.not_false, ↓y_call, ↓drawPre, ↓y_adq_onS, drawPost, isCall, isNew, isEff, Option.toList, or_false, false_or, cond_true, cond_false, not_true_eq_false, or_true, true_or, Nat.add_left_cancel_iff, Bool.false_eq_true, List.length_map, Int.toNat_natCast, decide_true, decide_false, ws, k0, k1, List.drop_zero, hLt, hLl, kf, Nat.le_refl, Nat.zero_le, List.length_append, List.length_cons, List.length_nil, ni1]
  refine adrawq hmix [] ?_
  simp (maxSteps := 400000) -implicitDefEqProofs only [↓symPre, symPost, y_condP, y_condG, run, lver, minD, intsD, eqAll, tupD, splice, Nat.zero_add, Nat.add_zero, Nat.zero_mul, Nat.mul_one, Nat.one_mul, Nat.reduceAdd, Nat.reduceSub, Nat.reduceMul, Nat.reduceLT, Nat.reduceLeDiff, Nat.reduceEqDiff, true_and, and_true, true_implies, if_true, if_false, ite_true, reduceIte, ne_eq, not_false_eq_true, reduceCtorEq, forall_const, bne_self_eq_false, Bool.true_eq_false, Bool.false_eq_true, false_implies, and_self, implies_true, Int.toNat_zero, beq_self_eq_true, decide_true, decide_false, Bool.not_true, Bool.not_false, ↓y_call, ↓drawPre, ↓y_adq_onS, drawPost, isCall, isNew, isEff, Option.toList, or_false, false_or, cond_true, cond_false, not_true_eq_false, or_true, true_or, Nat.add_left_cancel_iff, Bool.false_eq_true, List.length_map, Int.toNat_natCast, decide_true, decide_false, ws, k0, k1, List.drop_zero, hLt, hLl, kf, Nat.le_refl, Nat.zero_le, List.length_append, List.length_cons, List.length_nil, ni1, wt, p1]
  refine adrawq hmix (List.replicate 10 [] ++ [[n + 109], [], [], [n + 56]]) ?_
  simp (maxSteps := 400000) -implicitDefEqProofs only [↓symPre, symPost, y_condP, y_condG, run, lver, minD, intsD, eqAll, tupD, splice, Nat.zero_add, Nat.add_zero, Nat.zero_mul, Nat.mul_one, Nat.one_mul, Nat.reduceAdd, Nat.reduceSub, Nat.reduceMul, Nat.reduceLT, Nat.reduceLeDiff, Nat.reduceEqDiff, true_and, and_true, true_implies, if_true, if_false, ite_true, reduceIte, ne_eq, not_false_eq_true, reduceCtorEq, forall_const, bne_self_eq_false, Bool.true_eq_false, Bool.false_eq_true, false_implies, and_self, implies_true, Int.toNat_zero, beq_self_eq_true, decide_true, decide_false, Bool.not_true, Bool.not_false, ↓y_call, ↓drawPre, ↓y_adq_onS, drawPost, isCall, isNew, isEff, Option.toList, or_false, false_or, cond_true, cond_false, not_true_eq_false, or_true, true_or, Nat.add_left_cancel_iff, Bool.false_eq_true, List.length_map, Int.toNat_natCast, decide_true, decide_false, ws, k0, k1, List.drop_zero, hLt, hLl, kf, Nat.le_refl, Nat.zero_le, List.length_append, List.length_cons, List.length_nil, j0, j1, e1, p2, p3, wj1, nf, hNt, List.replicate, List.cons_append, List.nil_append, List.getD_cons_succ, List.getD_cons_zero]
  refine ⟨by simp, by simp, by omega, by rintro c rfl; rfl, by simp, by simp, by rintro c rfl; rfl, ⟨i, j + 1, E, some { e with w := e.w ++ [b[j]] }, vO, vN + 1⟩, ⟨hi, by simp only; omega, hvO, by simp only; omega, by simp only [outN] at hlen ⊢; omega, fun e' he => ?_, hall⟩, by simp only; omega, ?_⟩
  · injection he with he; subst he; exact ⟨h1, h2, h3, by simp; omega⟩
  dsimp only
  rw [hL]
  refine le_to (List.replicate 56 .hole ++ [.old 56] ++ List.replicate 52 .hole ++ [.old 109] ++ List.replicate 5 .hole) hl rfl ?_ ?_ <;> ((try simp only [y_blk_end, y_blk_hole, y_blk_nil, y_blk_old, y_wkl_end, y_wkl_top, List.replicate, List.cons_append, List.nil_append, and_true, true_and]) <;> (repeat' (first | apply And.intro | apply y_wkl | refine Exists.intro _ (And.intro rfl ?_))) <;> (try first | exact trivial | exact Wk.top _ | exact wk_int rfl | exact wk_bool rfl | exact wk_ptr rfl rfl rfl rfl | exact wk_ref rfl rfl rfl rfl rfl | exact wk_nil rfl rfl rfl | exact wk_ref rfl rfl rfl rfl (by simp) | exact wk_ref rfl rfl rfl rfl (by simp; omega) | exact wk_old (by assumption) (by simp) | exact wk_eq rfl (by first | exact Bd.int _ _ | exact Bd.bool _ | exact Bd.abool | exact Bd.nils | exact Bd.emp | exact Bd.nilp | exact Bd.nilfn | assumption | exact low_trees _ _ | exact low_treeD _ _ | exact low_ints _ _) | exact Nat.le_refl _ | exact wk_int (by simp) | exact wk_int (by omega) | exact Nat.succ_le_succ (Nat.zero_le _) | exact Nat.le_add_left _ _ | omega))
  all_goals first | exact WkL.app (WkL.low hLlow) (y_wkl wk_i (y_wkl wk_i (y_wkl (wk_ref rfl rfl rfl rfl (by simp)) trivial))) | exact wkl_snoc _ _

theorem pure_Edits (a b : List Int) (ha : a.length < 2 ^ 30) (hb : b.length < 2 ^ 30) : Pure prog F_parlref4_Edits [iD a, iD b] (.lst ((scrAt a b 0 0 none).map edD)) := by
  intro n h
  refine K_parlref4_Edits.calls fun hl => ?_
  unfold C_parlref4_Edits
  have pd := pure_Common a b ha hb
  have tll : ((matL (a.length + 1) (b.length + 1) (cG a b)).map iD).length = a.length + 1 := by simp [matL]
  have tlow : Low n (.lst ((matL (a.length + 1) (b.length + 1) (cG a b)).map iD)) := .lst _ (low_lists n _)
  have tab := fun {i j : Nat} => tabG (cG a b) (a := a) (b := b) (i := i) (j := j)
  generalize (matL (a.length + 1) (b.length + 1) (cG a b)).map iD = TT at *
  simp -implicitDefEqProofs only [↓symPre, symPost, y_condP, y_condG, run, lver, minD, intsD, eqAll, tupD, splice, Nat.zero_add, Nat.add_zero, Nat.zero_mul, Nat.mul_one, Nat.one_mul, Nat.reduceAdd, Nat.reduceSub, Nat.reduceMul, Nat.reduceLT, Nat.reduceLeDiff, Nat.reduceEqDiff, true_and, and_true, true_implies, if_true, if_false, ite_true, reduceIte, ne_eq, not_false_eq_true, reduceCtorEq, forall_const, bne_self_eq_false, Bool.true_eq_false, Bool.false_eq_true, false_implies, and_self, implies_true, Int.toNat_zero, beq_self_eq_true, decide_true, decide_false, Bool.not_true, Bool.not_false, ↓y_call, List.length_map]
  refine pd.call rfl ?_
  simp -implicitDefEqProofs only [↓symPre, symPost, y_condP, y_condG, run, lver, minD, intsD, eqAll, tupD, splice, Nat.zero_add, Nat.add_zero, Nat.zero_mul, Nat.mul_one, Nat.one_mul, Nat.reduceAdd, Nat.reduceSub, Nat.reduceMul, Nat.reduceLT, Nat.reduceLeDiff, Nat.reduceEqDiff, true_and, and_true, true_implies, if_true, if_false, ite_true, reduceIte, ne_eq, not_false_eq_true, reduceCtorEq, forall_const, bne_self_eq_false, Bool.true_eq_false, Bool.false_eq_true, false_implies, and_self, implies_true, Int.toNat_zero, beq_self_eq_true, decide_true, decide_false, Bool.not_true, Bool.not_false, ↓y_call]
  refine aloop (lpE n h a b TT) (LpOk a b) (fun p => a.length + b.length - p.i - p.j) ⟨0, 0, [], none, 1, 1⟩ ⟨Nat.zero_le _, Nat.zero_le _, Nat.le_refl _, Nat.le_refl _, Nat.le_refl _, fun e he => (by cases he), rfl⟩ ?_ ?_
  · unfold lpE
    refine le_to (List.replicate 56 .hole ++ [.nil] ++ List.replicate 52 .hole ++ [.nil] ++ List.replicate 5 .hole) hl rfl ?_ ?_ <;> ((try simp only [y_blk_end, y_blk_hole, y_blk_nil, y_blk_old, y_wkl_end, y_wkl_top, List.replicate, List.cons_append, List.nil_append, and_true, true_and]) <;> (repeat' (first | apply And.intro | apply y_wkl | refine Exists.intro _ (And.intro rfl ?_))) <;> (try first | exact trivial | exact Wk.top _ | exact wk_int rfl | exact wk_bool rfl | exact wk_ptr rfl rfl rfl rfl | exact wk_ref rfl rfl rfl rfl rfl | exact wk_nil rfl rfl rfl | exact wk_ref rfl rfl rfl rfl (by simp) | exact wk_ref rfl rfl rfl rfl (by simp; omega) | exact wk_old (by assumption) (by simp) | exact wk_eq rfl (by first | exact Bd.int _ _ | exact Bd.bool _ | exact Bd.abool | exact Bd.nils | exact Bd.emp | exact Bd.nilp | exact Bd.nilfn | assumption | exact low_trees _ _ | exact low_treeD _ _ | exact low_ints _ _) | exact Nat.le_refl _ | exact wk_int (by simp) | exact wk_int (by omega) | exact Nat.succ_le_succ (Nat.zero_le _) | exact Nat.le_add_left _ _ | omega))
  · rintro ⟨i, j, E, o, vO, vN⟩ hp
    by_cases hia : i < a.length
    · by_cases hjb : j < b.length
      · by_cases hc : a[i] = b[j]
        · skip
          cases o with
          | none => exact rE_M_none hl ha hb tll tlow tab hp hia hjb hc _
          | some e => exact rE_M_some hl ha hb tll tlow tab hp hia hjb hc _
        · by_cases hd : dG a b i j = 1 + dG a b (i + 1) j
          · skip
            cases o with
            | none => exact rE_N3d_none hl ha hb tll tlow tab hp hia hjb hc hd _
            | some e => exact rE_N3d_some hl ha hb tll tlow tab hp hia hjb hc hd _
          · skip
            cases o with
            | none => exact rE_N3i_none hl ha hb tll tlow tab hp hia hjb hc hd _
            | some e => exact rE_N3i_some hl ha hb tll tlow tab hp hia hjb hc hd _
      · skip
        cases o with
        | none => exact rE_N2d_none hl ha hb tll tlow tab hp hia hjb _
        | some e => exact rE_N2d_some hl ha hb tll tlow tab hp hia hjb _
    · by_cases hjb : j < b.length
      · skip
        cases o with
        | none => exact rE_N1i_none hl ha hb tll tlow tab hp hia hjb _
        | some e => exact rE_N1i_some hl ha hb tll tlow tab hp hia hjb _
      · obtain ⟨hi, hj, hvO, hvN, hlen, hnw, hall⟩ := hp
        simp only at hi hj hvO hvN hlen hnw hall
        have ni1 : ¬ (i : Int) < (a.length : Int) := by omega
        have nj1 : ¬ (j : Int) < (b.length : Int) := by omega
        rw [scrAt_end a b (by omega) (by omega)] at hall
        unfold lpE
        have wij : IntKind.i64.wrap ((i : Int) + (j : Int)) = (i : Int) + (j : Int) := IntWalk.i64_in _ (by omega)
        have wab : IntKind.i64.wrap ((a.length : Int) + (b.length : Int)) = (a.length : Int) + (b.length : Int) := IntWalk.i64_in _ (by omega)
        have hij : ¬ (i : Int) + (j : Int) < (a.length : Int) + (b.length : Int) := by omega
        simp -implicitDefEqProofs only [↓symPre, symPost, y_condP, y_condG, run, lver, minD, intsD, eqAll, tupD, splice, Nat.zero_add, Nat.add_zero, Nat.zero_mul, Nat.mul_one, Nat.one_mul, Nat.reduceAdd, Nat.reduceSub, Nat.reduceMul, Nat.reduceLT, Nat.reduceLeDiff, Nat.reduceEqDiff, true_and, and_true, true_implies, if_true, if_false, ite_true, reduceIte, ne_eq, not_false_eq_true, reduceCtorEq, forall_const, bne_self_eq_false, Bool.true_eq_false, Bool.false_eq_true, false_implies, and_self, implies_true, Int.toNat_zero, beq_self_eq_true, decide_true, decide_false, Bool.not_true, Bool.not_false, ↓y_call, List.length_map, wij, wab, hij, decide_false]
        refine fin_wk (d := .lst ((scrAt a b 0 0 none).map edD)) hl ?_ ⟨rfl, rfl, rfl⟩
        rw [← hall]
        cases o with
        | none => exact wk_frzW edD (t := 56) (cs := outC n 109 vN E none) rfl edD_cells rfl (by simp) (by simp [outN]) (by simpa [outC] using wkl_eds E)
        | some e => exact wk_frzW edD (t := 56) (cs := outC n 109 vN E (some e)) rfl edD_cells rfl (by simp) (by simp [outN]) (wkl_freeze (vN' := vN) rfl rfl (by simp))

end Abs
end Go.Proofs.Ytfojedaccfenfab

/- parllaw4's aligned. (Printed by wip/tools/genM4.py.) -/
import Derived.Test.YtfojedaccfenfaaM3
import Derived.Test.YtfojedaccfenfaaK4
namespace Go.Proofs.Ytfojedaccfenfaa
namespace Abs
set_option linter.unusedVariables false
set_option linter.unusedSimpArgs false
set_option maxRecDepth 20000

theorem low_ofD {n bm bw bc bv bo : Nat} (h1 : bm < n) (h2 : bw < n) (h3 : bc < n) (h4 : bv < n) (h5 : bo < n) : Low n (ofD bm bw bc bv bo) := .fn _ _ fun c hc => by
  simp only [List.mem_cons, List.not_mem_nil, or_false] at hc
  rcases hc with rfl | rfl | rfl | rfl | rfl <;> exact .ptr _ _ _ (.inl (by assumption))

def anBody : AC :=
  (.seq (.seq (.region [⟨(.some 12), (.mov (.tmp 10)), .always⟩, ⟨(.some 13), (.mov (.tmp 0)), .always⟩, ⟨(.some 14), (.len (.tmp 13)), .always⟩, ⟨(.some 15), (.bin .lss (.tmp 12) (.tmp 14)), .always⟩, ⟨(.some 16), (.mov (.tmp 15)), .always⟩, ⟨(.some 17), (.mov (.tmp 11)), (.on 16 .false)⟩, ⟨(.some 18), (.mov (.tmp 1)), (.on 16 .false)⟩, ⟨(.some 19), (.len (.tmp 18)), (.on 16 .false)⟩, ⟨(.some 20), (.bin .lss (.tmp 17) (.tmp 19)), (.on 16 .false)⟩, ⟨(.some 21), (.pick (.tmp 16) (.val (.bool .true)) (.tmp 20)), .always⟩]) (.cond (.tmp 21) .skip (.exit 0))) (.block 1 (.block 2 (.seq (.draw [⟨⟨(.some 34), (.mov (.tmp 10)), .always⟩, [], []⟩, ⟨⟨(.some 35), (.mov (.tmp 0)), .always⟩, [], []⟩, ⟨⟨(.some 36), (.len (.tmp 35)), .always⟩, [], []⟩, ⟨⟨(.some 37), (.bin .lss (.tmp 34) (.tmp 36)), .always⟩, [], []⟩, ⟨⟨(.some 38), (.mov (.tmp 37)), .always⟩, [], []⟩, ⟨⟨(.some 39), (.mov (.tmp 11)), (.on 38 .true)⟩, [], []⟩, ⟨⟨(.some 40), (.mov (.tmp 1)), (.on 38 .true)⟩, [], []⟩, ⟨⟨(.some 41), (.len (.tmp 40)), (.on 38 .true)⟩, [], []⟩, ⟨⟨(.some 42), (.bin .lss (.tmp 39) (.tmp 41)), (.on 38 .true)⟩, [], []⟩, ⟨⟨(.some 43), (.pick (.tmp 38) (.tmp 42) (.val (.bool .false))), .always⟩, [], []⟩, ⟨⟨(.some 44), (.mov (.tmp 43)), .always⟩, [], []⟩, ⟨⟨(.some 45), (.mov (.tmp 0)), (.on 44 .true)⟩, [], []⟩, ⟨⟨(.some 46), (.mov (.tmp 10)), (.on 44 .true)⟩, [], []⟩, ⟨⟨(.some 47), (.idxS 1 (.tmp 45) (.tmp 46)), (.on 44 .true)⟩, [], []⟩, ⟨⟨(.some 48), (.load .false 1 (.tmp 47)), (.on 44 .true)⟩, [], []⟩, ⟨⟨(.some 49), (.mov (.tmp 1)), (.on 44 .true)⟩, [], []⟩, ⟨⟨(.some 50), (.mov (.tmp 11)), (.on 44 .true)⟩, [], []⟩, ⟨⟨(.some 51), (.idxS 1 (.tmp 49) (.tmp 50)), (.on 44 .true)⟩, [], []⟩, ⟨⟨(.some 52), (.load .false 1 (.tmp 51)), (.on 44 .true)⟩, [], []⟩, ⟨⟨(.some 53), (.bin .eql (.tmp 48) (.tmp 52)), (.on 44 .true)⟩, [], []⟩, ⟨⟨(.some 54), (.pick (.tmp 44) (.tmp 53) (.val (.bool .false))), .always⟩, [], []⟩, ⟨⟨(.some 33), (.mov (.tmp 54)), .always⟩, [], []⟩]) (.cond (.tmp 33) (.seq (.region [⟨(.some 55), (.mov (.tmp 9)), .always⟩, ⟨(.some 56), (.mov (.tmp 10)), .always⟩, ⟨(.some 57), (.mov (.tmp 0)), .always⟩, ⟨(.some 58), (.mov (.tmp 10)), .always⟩, ⟨(.some 59), (.idxS 1 (.tmp 57) (.tmp 58)), .always⟩, ⟨(.some 60), (.load .false 1 (.tmp 59)), .always⟩, ⟨(.some 61), (.build [(.int .i64 0), (.int .i64 0), (.int .i64 0)] [(0, (1, (.val (.int .i64 0)))), (1, (1, (.tmp 56))), (2, (1, (.tmp 60)))]), .always⟩, ⟨(.some 62), (.buildSlice 3 [(.int .i64 0), (.int .i64 0), (.int .i64 0)] 1 [(0, (3, (.tmp 61)))]), .always⟩, ⟨(.some 63), (.append 3 24 (.tmp 55) (.tmp 62)), .always⟩, ⟨(.some 9), (.mov (.tmp 63)), .always⟩]) (.region [⟨(.some 64), (.mov (.tmp 10)), .always⟩, ⟨(.some 65), (.bin .add (.tmp 64) (.val (.int .i64 1))), .always⟩, ⟨(.some 66), (.mov (.tmp 11)), .always⟩, ⟨(.some 67), (.bin .add (.tmp 66) (.val (.int .i64 1))), .always⟩, ⟨(.some 10), (.mov (.tmp 65)), .always⟩, ⟨(.some 11), (.mov (.tmp 67)), .always⟩])) (.seq (.draw [⟨⟨(.some 69), (.mov (.tmp 10)), .always⟩, [], []⟩, ⟨⟨(.some 70), (.mov (.tmp 0)), .always⟩, [], []⟩, ⟨⟨(.some 71), (.len (.tmp 70)), .always⟩, [], []⟩, ⟨⟨(.some 72), (.bin .lss (.tmp 69) (.tmp 71)), .always⟩, [], []⟩, ⟨⟨(.some 73), (.mov (.tmp 72)), .always⟩, [], []⟩, ⟨⟨(.some 74), (.mov (.tmp 11)), (.on 73 .true)⟩, [], []⟩, ⟨⟨(.some 75), (.mov (.tmp 1)), (.on 73 .true)⟩, [], []⟩, ⟨⟨(.some 76), (.len (.tmp 75)), (.on 73 .true)⟩, [], []⟩, ⟨⟨(.some 77), (.bin .lss (.tmp 74) (.tmp 76)), (.on 73 .true)⟩, [], []⟩, ⟨⟨(.some 78), (.pick (.tmp 73) (.tmp 77) (.val (.bool .false))), .always⟩, [], []⟩, ⟨⟨(.some 79), (.mov (.tmp 78)), .always⟩, [], []⟩, ⟨⟨(.some 80), (.mov (.tmp 3)), (.on 79 .true)⟩, [], []⟩, ⟨⟨(.some 81), (.mov (.tmp 10)), (.on 79 .true)⟩, [], []⟩, ⟨⟨(.some 82), (.mov (.tmp 11)), (.on 79 .true)⟩, [], []⟩, ⟨⟨(.some 83), (.callv (.tmp 80) [(.tmp 81), (.tmp 82)]), (.on 79 .true)⟩, [], []⟩, ⟨⟨(.some 84), (.idxA 3 1 (.tmp 6) (.val (.int .i64 2))), (.on 79 .true)⟩, [83, 91], [14, 22]⟩, ⟨⟨(.some 85), (.load .false 1 (.tmp 84)), (.on 79 .true)⟩, [83, 91], [14, 22]⟩, ⟨⟨(.some 86), (.mov (.tmp 3)), (.on 79 .true)⟩, [83], [14]⟩, ⟨⟨(.some 87), (.mov (.tmp 10)), (.on 79 .true)⟩, [83], [14]⟩, ⟨⟨(.some 88), (.bin .add (.tmp 87) (.val (.int .i64 1))), (.on 79 .true)⟩, [83], [14]⟩, ⟨⟨(.some 89), (.mov (.tmp 11)), (.on 79 .true)⟩, [83], [14]⟩, ⟨⟨(.some 90), (.bin .add (.tmp 89) (.val (.int .i64 1))), (.on 79 .true)⟩, [83], [14]⟩, ⟨⟨(.some 91), (.callv (.tmp 86) [(.tmp 88), (.tmp 90)]), (.on 79 .true)⟩, [], []⟩, ⟨⟨(.some 92), (.bin .add (.tmp 85) (.tmp 91)), (.on 79 .true)⟩, [], []⟩, ⟨⟨(.some 93), (.bin .eql (.tmp 83) (.tmp 92)), (.on 79 .true)⟩, [], []⟩, ⟨⟨(.some 94), (.pick (.tmp 79) (.tmp 93) (.val (.bool .false))), .always⟩, [], []⟩, ⟨⟨(.some 68), (.mov (.tmp 94)), .always⟩, [], []⟩]) (.cond (.tmp 68) (.seq (.region [⟨(.some 95), (.mov (.tmp 9)), .always⟩, ⟨(.some 96), (.mov (.tmp 10)), .always⟩, ⟨(.some 97), (.mov (.tmp 1)), .always⟩, ⟨(.some 98), (.mov (.tmp 11)), .always⟩, ⟨(.some 99), (.idxS 1 (.tmp 97) (.tmp 98)), .always⟩, ⟨(.some 100), (.load .false 1 (.tmp 99)), .always⟩, ⟨(.some 101), (.build [(.int .i64 0), (.int .i64 0), (.int .i64 0)] [(0, (1, (.val (.int .i64 3)))), (1, (1, (.tmp 96))), (2, (1, (.tmp 100)))]), .always⟩, ⟨(.some 102), (.buildSlice 3 [(.int .i64 0), (.int .i64 0), (.int .i64 0)] 1 [(0, (3, (.tmp 101)))]), .always⟩, ⟨(.some 103), (.append 3 24 (.tmp 95) (.tmp 102)), .always⟩, ⟨(.some 9), (.mov (.tmp 103)), .always⟩]) (.region [⟨(.some 104), (.mov (.tmp 10)), .always⟩, ⟨(.some 105), (.bin .add (.tmp 104) (.val (.int .i64 1))), .always⟩, ⟨(.some 106), (.mov (.tmp 11)), .always⟩, ⟨(.some 107), (.bin .add (.tmp 106) (.val (.int .i64 1))), .always⟩, ⟨(.some 10), (.mov (.tmp 105)), .always⟩, ⟨(.some 11), (.mov (.tmp 107)), .always⟩])) (.seq (.draw [⟨⟨(.some 109), (.mov (.tmp 10)), .always⟩, [], []⟩, ⟨⟨(.some 110), (.mov (.tmp 0)), .always⟩, [], []⟩, ⟨⟨(.some 111), (.len (.tmp 110)), .always⟩, [], []⟩, ⟨⟨(.some 112), (.bin .lss (.tmp 109) (.tmp 111)), .always⟩, [], []⟩, ⟨⟨(.some 113), (.mov (.tmp 112)), .always⟩, [], []⟩, ⟨⟨(.some 114), (.mov (.tmp 3)), (.on 113 .true)⟩, [], []⟩, ⟨⟨(.some 115), (.mov (.tmp 10)), (.on 113 .true)⟩, [], []⟩, ⟨⟨(.some 116), (.mov (.tmp 11)), (.on 113 .true)⟩, [], []⟩, ⟨⟨(.some 117), (.callv (.tmp 114) [(.tmp 115), (.tmp 116)]), (.on 113 .true)⟩, [], []⟩, ⟨⟨(.some 118), (.idxA 3 1 (.tmp 6) (.val (.int .i64 1))), (.on 113 .true)⟩, [117, 124], [8, 15]⟩, ⟨⟨(.some 119), (.load .false 1 (.tmp 118)), (.on 113 .true)⟩, [117, 124], [8, 15]⟩, ⟨⟨(.some 120), (.mov (.tmp 3)), (.on 113 .true)⟩, [117], [8]⟩, ⟨⟨(.some 121), (.mov (.tmp 10)), (.on 113 .true)⟩, [117], [8]⟩, ⟨⟨(.some 122), (.bin .add (.tmp 121) (.val (.int .i64 1))), (.on 113 .true)⟩, [117], [8]⟩, ⟨⟨(.some 123), (.mov (.tmp 11)), (.on 113 .true)⟩, [117], [8]⟩, ⟨⟨(.some 124), (.callv (.tmp 120) [(.tmp 122), (.tmp 123)]), (.on 113 .true)⟩, [], []⟩, ⟨⟨(.some 125), (.bin .add (.tmp 119) (.tmp 124)), (.on 113 .true)⟩, [], []⟩, ⟨⟨(.some 126), (.bin .eql (.tmp 117) (.tmp 125)), (.on 113 .true)⟩, [], []⟩, ⟨⟨(.some 127), (.pick (.tmp 113) (.tmp 126) (.val (.bool .false))), .always⟩, [], []⟩, ⟨⟨(.some 108), (.mov (.tmp 127)), .always⟩, [], []⟩]) (.cond (.tmp 108) (.seq (.region [⟨(.some 128), (.mov (.tmp 9)), .always⟩, ⟨(.some 129), (.mov (.tmp 10)), .always⟩, ⟨(.some 130), (.mov (.tmp 0)), .always⟩, ⟨(.some 131), (.mov (.tmp 10)), .always⟩, ⟨(.some 132), (.idxS 1 (.tmp 130) (.tmp 131)), .always⟩, ⟨(.some 133), (.load .false 1 (.tmp 132)), .always⟩, ⟨(.some 134), (.build [(.int .i64 0), (.int .i64 0), (.int .i64 0)] [(0, (1, (.val (.int .i64 2)))), (1, (1, (.tmp 129))), (2, (1, (.tmp 133)))]), .always⟩, ⟨(.some 135), (.buildSlice 3 [(.int .i64 0), (.int .i64 0), (.int .i64 0)] 1 [(0, (3, (.tmp 134)))]), .always⟩, ⟨(.some 136), (.append 3 24 (.tmp 128) (.tmp 135)), .always⟩, ⟨(.some 9), (.mov (.tmp 136)), .always⟩]) (.region [⟨(.some 137), (.mov (.tmp 10)), .always⟩, ⟨(.some 138), (.bin .add (.tmp 137) (.val (.int .i64 1))), .always⟩, ⟨(.some 10), (.mov (.tmp 138)), .always⟩])) (.seq (.region [⟨(.some 22), (.mov (.tmp 9)), .always⟩, ⟨(.some 23), (.mov (.tmp 10)), .always⟩, ⟨(.some 24), (.mov (.tmp 1)), .always⟩, ⟨(.some 25), (.mov (.tmp 11)), .always⟩, ⟨(.some 26), (.idxS 1 (.tmp 24) (.tmp 25)), .always⟩, ⟨(.some 27), (.load .false 1 (.tmp 26)), .always⟩, ⟨(.some 28), (.build [(.int .i64 0), (.int .i64 0), (.int .i64 0)] [(0, (1, (.val (.int .i64 1)))), (1, (1, (.tmp 23))), (2, (1, (.tmp 27)))]), .always⟩, ⟨(.some 29), (.buildSlice 3 [(.int .i64 0), (.int .i64 0), (.int .i64 0)] 1 [(0, (3, (.tmp 28)))]), .always⟩, ⟨(.some 30), (.append 3 24 (.tmp 22) (.tmp 29)), .always⟩, ⟨(.some 9), (.mov (.tmp 30)), .always⟩]) (.region [⟨(.some 31), (.mov (.tmp 11)), .always⟩, ⟨(.some 32), (.bin .add (.tmp 31) (.val (.int .i64 1))), .always⟩, ⟨(.some 11), (.mov (.tmp 32)), .always⟩])))))))))))

def anS (n : Nat) (h : Heap) (q : Co) (w v : List Int) (bm bw bc bv bo : Nat) (p : Nat × Nat × List Ope × Nat) : St :=
  St.mk n ([iD w, iD v, .top, ofD bm bw bc bv bo, .top, .top, .ptr (n + 6) 1 0, .top, .top, .ref 3 (n + 63) p.2.2.2 0 p.2.2.1.length, .int .i64 p.1, .int .i64 p.2.1] ++ List.replicate 128 .top) h
    (List.replicate 6 blk0 ++ [⟨1, .cells [.int .i64 q.a, .int .i64 q.b, .int .i64 q.c]⟩] ++ List.replicate 56 blk0 ++ [⟨p.2.2.2, .cells (cellsF opeD p.2.2.1)⟩] ++ List.replicate 76 blk0)

structure AnC (n : Nat) (h : Heap) (q : Co) (w v : List Int) (bm bw bc bv bo bM : Nat) : Prop where
  hl : LowH n h
  hq : okCo q 100
  hw : w.length ≤ 200
  hv : v.length ≤ 200
  H : OfH q w v h n bm bw bc bv bo bM

def AnRound (n : Nat) (h : Heap) (q : Co) (w v : List Int) (bm bw bc bv bo : Nat) (b : Nat × Nat × List Ope × Nat) : Prop := ∀ Q : Exit → St → Prop,
  awpS prog anBody (AThen (fun s' => ∃ b', alI q w v b' ∧ alM w v b' < alM w v b ∧ Le s' (anS n h q w v bm bw bc bv bo b')) Q) (anS n h q w v bm bw bc bv bo b)

theorem an_done {n : Nat} {h : Heap} {q : Co} {w v : List Int} {bm bw bc bv bo : Nat} {b b' : Nat × Nat × List Ope × Nat} {s' : St} (hI : alI q w v b') (hm : alM w v b' < alM w v b) (hle : Le s' (anS n h q w v bm bw bc bv bo b')) :
    ∃ b', alI q w v b' ∧ alM w v b' < alM w v b ∧ Le s' (anS n h q w v bm bw bc bv bo b') := ⟨b', hI, hm, hle⟩

set_option maxHeartbeats 8000000 in
theorem an_keep {n : Nat} {h : Heap} {q : Co} {w v : List Int} {bm bw bc bv bo bM : Nat} (hc : AnC n h q w v bm bw bc bv bo bM) {i j : Nat} {O : List Ope} {u : Nat} (hI : alI q w v (i, j, O, u)) (ci : i < w.length) (cj : j < v.length) (cx : w[i] = v[j]) (al : alignR q i (w.drop i) (v.drop j) = ⟨0, i, w[i]⟩ :: alignR q (i + 1) (w.drop (i + 1)) (v.drop (j + 1))) : AnRound n h q w v bm bw bc bv bo (i, j, O, u) := by
  intro Q
  obtain ⟨hl, hq, hw, hv, H⟩ := hc
  obtain ⟨hi, hj, hO, hOl, hu⟩ := hI
  simp only at hi hj hO hOl hu
  have hlo := low_ofD H.lm H.lw H.lc H.lv H.lo
  have c03 : (0 : Int) < ((3 : Nat) : Int) := by decide
  have c13 : (1 : Int) < ((3 : Nat) : Int) := by decide
  have c23 : (2 : Int) < ((3 : Nat) : Int) := by decide
  have c01 : (0 : Int) ≤ 1 := by decide
  have c02 : (0 : Int) ≤ 2 := by decide
  have t1 : (1 : Int).toNat = 1 := rfl
  have t2 : (2 : Int).toNat = 2 := rfl
  have i0 : (0 : Int) ≤ (i : Int) := by omega
  have j0 : (0 : Int) ≤ (j : Int) := by omega
  have wi1 : IntKind.i64.wrap ((i : Int) + 1) = ((i + 1 : Nat) : Int) := by rw [IntWalk.i64_in _ (by omega)]; omega
  have wj1 : IntKind.i64.wrap ((j : Int) + 1) = ((j + 1 : Nat) : Int) := by rw [IntWalk.i64_in _ (by omega)]; omega
  have hcl : (cellsF opeD O).length = O.length * 3 := cellsF_len opeD opeD_cells O
  have hCt := take_all (cellsF opeD O) (k := O.length * 3) (by rw [hcl])
  have hfit : O.length * 3 ≤ (cellsF opeD O).length := by omega
  have hf24 : (O.length + 1) * 24 ≤ 140737488355328 := by omega
  have o00 := at_of q hq w v hw hv _ i j rfl hi hj
  have q1 := hq
  obtain ⟨q1, q2, q3, q4, q5, q6⟩ := q1
  have fi : (i : Int) < (w.length : Int) := by omega
  have e0 := nth_ints w i ci
  have o10 := at_of q hq w v hw hv _ (i + 1) j rfl ci hj
  have rg10 := dR_range hq (w.drop (i + 1)) (v.drop j)
  have ld1 : (w.drop (i + 1)).length ≤ 200 := by simp; omega
  have ld2 : (v.drop j).length ≤ 200 := by simp; omega
  have u2 : IntKind.i64.wrap (q.b + dR q (w.drop (i + 1)) (v.drop j)) = q.b + dR q (w.drop (i + 1)) (v.drop j) := IntWalk.i64_in _ (by omega)
  have fj : (j : Int) < (v.length : Int) := by omega
  have e1 := nth_ints v j cj
  have o11 := at_of q hq w v hw hv _ (i + 1) (j + 1) rfl ci cj
  have rg11 := dR_range hq (w.drop (i + 1)) (v.drop (j + 1))
  have ld3 : (v.drop (j + 1)).length ≤ 200 := by simp; omega
  have u1 : IntKind.i64.wrap (q.c + dR q (w.drop (i + 1)) (v.drop (j + 1))) = q.c + dR q (w.drop (i + 1)) (v.drop (j + 1)) := IntWalk.i64_in _ (by omega)
  have bx : (w[i] == v[j]) = true := by simp [cx]
  have eS : anS n h q w v bm bw bc bv bo (i, j, O, u) = St.mk n ([iD w, iD v, .top, ofD bm bw bc bv bo, .top, .top, .ptr (n + 6) 1 0, .top, .top, .ref 3 (n + 63) u 0 O.length, .int .i64 i, .int .i64 j] ++ List.replicate 128 .top) h
      (List.replicate 6 blk0 ++ [⟨1, .cells [.int .i64 q.a, .int .i64 q.b, .int .i64 q.c]⟩] ++ List.replicate 56 blk0 ++ [⟨u, .cells (cellsF opeD O)⟩] ++ List.replicate 76 blk0) := rfl
  rw [eS]
  unfold anBody
  simp -implicitDefEqProofs only [↓symPre, symPost, y_condP, y_condG, run, lver, minD, intsD, eqAll, tupD, splice, Nat.zero_add, Nat.add_zero, Nat.zero_mul, Nat.mul_one, Nat.one_mul, Nat.reduceAdd, Nat.reduceSub, Nat.reduceMul, Nat.reduceLT, Nat.reduceLeDiff, Nat.reduceEqDiff, true_and, and_true, true_implies, if_true, if_false, ite_true, reduceIte, ne_eq, not_false_eq_true, reduceCtorEq, forall_const, bne_self_eq_false, Bool.true_eq_false, Bool.false_eq_true, false_implies, and_self, implies_true, Int.toNat_zero, beq_self_eq_true, decide_true, decide_false, Bool.not_true, Bool.not_false, ↓y_call, List.length_map, i0, j0, fi, fj, wi1, wj1, srcOf, Nat.le_refl, hf24, hCt, hfit, Int.toNat_natCast, Int.le_refl, c03, c13, c23, c01, c02, t1, t2, ↓y_stepQ_callv, e0, e1, u1, u2, bx]
  refine adrawq hmix [] ?_
  simp (maxSteps := 400000) -implicitDefEqProofs only [↓symPre, symPost, y_condP, y_condG, run, lver, minD, intsD, eqAll, tupD, splice, Nat.zero_add, Nat.add_zero, Nat.zero_mul, Nat.mul_one, Nat.one_mul, Nat.reduceAdd, Nat.reduceSub, Nat.reduceMul, Nat.reduceLT, Nat.reduceLeDiff, Nat.reduceEqDiff, true_and, and_true, true_implies, if_true, if_false, ite_true, reduceIte, ne_eq, not_false_eq_true, reduceCtorEq, forall_const, bne_self_eq_false, Bool.true_eq_false, Bool.false_eq_true, false_implies, and_self, implies_true, Int.toNat_zero, beq_self_eq_true, decide_true, decide_false, Bool.not_true, Bool.not_false, ↓y_call, ↓drawPre, drawPost, isCall, isNew, isEff, Option.toList, or_false, false_or, cond_true, cond_false, not_true_eq_false, or_true, true_or, Nat.add_left_cancel_iff, Bool.false_eq_true, List.length_map, i0, j0, fi, fj, wi1, wj1, srcOf, Nat.le_refl, hf24, hCt, hfit, Int.toNat_natCast, Int.le_refl, c03, c13, c23, c01, c02, t1, t2, ↓y_stepQ_callv, e0, e1, u1, u2, bx]
  refine ⟨by rintro c (rfl | rfl | rfl) <;> rfl, an_done (b' := (i + 1, j + 1, O ++ [⟨0, i, w[i]⟩], u + 1)) ⟨by simp only; omega, by simp only; omega, ?_, by simp only [List.length_append, List.length_cons, List.length_nil]; omega, by simp only; omega⟩ (by simp only [alM]; omega) ?_⟩
  · simp only [List.append_assoc, List.cons_append, List.nil_append]
    rw [← hO, al]
  unfold anS
  simp only [← ope_one_cells, List.length_append, List.length_cons, List.length_nil, Nat.zero_add]
  refine le_to (List.replicate 6 .hole ++ [.old 6] ++ List.replicate 56 .hole ++ [.old 63] ++ List.replicate 76 .hole) hl rfl ?_ ?_ <;> ((try simp only [y_blk_end, y_blk_hole, y_blk_nil, y_blk_old, y_wkl_end, y_wkl_top, List.replicate, List.cons_append, List.nil_append, and_true, true_and]) <;> (repeat' (first | apply And.intro | apply y_wkl | refine Exists.intro _ (And.intro rfl ?_))) <;> (try first | exact trivial | exact Wk.top _ | exact wk_int rfl | exact wk_bool rfl | exact wk_ptr rfl rfl rfl rfl | exact wk_ref rfl rfl rfl rfl rfl | exact wk_nil rfl rfl rfl | exact wk_ref rfl rfl rfl rfl (by simp) | exact wk_ref rfl rfl rfl rfl (by simp; omega) | exact wk_old (by assumption) (by simp) | exact wk_eq rfl (by first | exact Bd.int _ _ | exact Bd.bool _ | exact Bd.abool | exact Bd.nils | exact Bd.emp | exact Bd.nilp | exact Bd.nilfn | assumption | exact low_trees _ _ | exact low_treeD _ _ | exact low_ints _ _) | exact Nat.le_refl _ | exact wk_int (by simp) | exact wk_int (by omega) | exact Nat.succ_le_succ (Nat.zero_le _) | exact Nat.le_add_left _ _ | omega))
  exact WkL.app (WkL.low (low_cellsF opeD (low_opeD n) O)) (y_wkl (wk_int rfl) (y_wkl (wk_int rfl) (y_wkl (wk_int rfl) trivial)))

set_option maxHeartbeats 8000000 in
theorem an_replace {n : Nat} {h : Heap} {q : Co} {w v : List Int} {bm bw bc bv bo bM : Nat} (hc : AnC n h q w v bm bw bc bv bo bM) {i j : Nat} {O : List Ope} {u : Nat} (hI : alI q w v (i, j, O, u)) (ci : i < w.length) (cj : j < v.length) (cx : w[i] ≠ v[j]) (c2 : dR q (w.drop i) (v.drop j) = dR q (w.drop (i + 1)) (v.drop (j + 1)) + q.c) (al : alignR q i (w.drop i) (v.drop j) = ⟨3, i, v[j]⟩ :: alignR q (i + 1) (w.drop (i + 1)) (v.drop (j + 1))) : AnRound n h q w v bm bw bc bv bo (i, j, O, u) := by
  intro Q
  obtain ⟨hl, hq, hw, hv, H⟩ := hc
  obtain ⟨hi, hj, hO, hOl, hu⟩ := hI
  simp only at hi hj hO hOl hu
  have hlo := low_ofD H.lm H.lw H.lc H.lv H.lo
  have c03 : (0 : Int) < ((3 : Nat) : Int) := by decide
  have c13 : (1 : Int) < ((3 : Nat) : Int) := by decide
  have c23 : (2 : Int) < ((3 : Nat) : Int) := by decide
  have c01 : (0 : Int) ≤ 1 := by decide
  have c02 : (0 : Int) ≤ 2 := by decide
  have t1 : (1 : Int).toNat = 1 := rfl
  have t2 : (2 : Int).toNat = 2 := rfl
  have i0 : (0 : Int) ≤ (i : Int) := by omega
  have j0 : (0 : Int) ≤ (j : Int) := by omega
  have wi1 : IntKind.i64.wrap ((i : Int) + 1) = ((i + 1 : Nat) : Int) := by rw [IntWalk.i64_in _ (by omega)]; omega
  have wj1 : IntKind.i64.wrap ((j : Int) + 1) = ((j + 1 : Nat) : Int) := by rw [IntWalk.i64_in _ (by omega)]; omega
  have hcl : (cellsF opeD O).length = O.length * 3 := cellsF_len opeD opeD_cells O
  have hCt := take_all (cellsF opeD O) (k := O.length * 3) (by rw [hcl])
  have hfit : O.length * 3 ≤ (cellsF opeD O).length := by omega
  have hf24 : (O.length + 1) * 24 ≤ 140737488355328 := by omega
  have o00 := at_of q hq w v hw hv _ i j rfl hi hj
  have q1 := hq
  obtain ⟨q1, q2, q3, q4, q5, q6⟩ := q1
  have fi : (i : Int) < (w.length : Int) := by omega
  have e0 := nth_ints w i ci
  have o10 := at_of q hq w v hw hv _ (i + 1) j rfl ci hj
  have rg10 := dR_range hq (w.drop (i + 1)) (v.drop j)
  have ld1 : (w.drop (i + 1)).length ≤ 200 := by simp; omega
  have ld2 : (v.drop j).length ≤ 200 := by simp; omega
  have u2 : IntKind.i64.wrap (q.b + dR q (w.drop (i + 1)) (v.drop j)) = q.b + dR q (w.drop (i + 1)) (v.drop j) := IntWalk.i64_in _ (by omega)
  have fj : (j : Int) < (v.length : Int) := by omega
  have e1 := nth_ints v j cj
  have o11 := at_of q hq w v hw hv _ (i + 1) (j + 1) rfl ci cj
  have rg11 := dR_range hq (w.drop (i + 1)) (v.drop (j + 1))
  have ld3 : (v.drop (j + 1)).length ≤ 200 := by simp; omega
  have u1 : IntKind.i64.wrap (q.c + dR q (w.drop (i + 1)) (v.drop (j + 1))) = q.c + dR q (w.drop (i + 1)) (v.drop (j + 1)) := IntWalk.i64_in _ (by omega)
  have bx : (w[i] == v[j]) = false := by simp [cx]
  have b2 : (dR q (w.drop i) (v.drop j) == q.c + dR q (w.drop (i + 1)) (v.drop (j + 1))) = true := by simp [c2, Int.add_comm]
  have eS : anS n h q w v bm bw bc bv bo (i, j, O, u) = St.mk n ([iD w, iD v, .top, ofD bm bw bc bv bo, .top, .top, .ptr (n + 6) 1 0, .top, .top, .ref 3 (n + 63) u 0 O.length, .int .i64 i, .int .i64 j] ++ List.replicate 128 .top) h
      (List.replicate 6 blk0 ++ [⟨1, .cells [.int .i64 q.a, .int .i64 q.b, .int .i64 q.c]⟩] ++ List.replicate 56 blk0 ++ [⟨u, .cells (cellsF opeD O)⟩] ++ List.replicate 76 blk0) := rfl
  rw [eS]
  unfold anBody
  simp -implicitDefEqProofs only [↓symPre, symPost, y_condP, y_condG, run, lver, minD, intsD, eqAll, tupD, splice, Nat.zero_add, Nat.add_zero, Nat.zero_mul, Nat.mul_one, Nat.one_mul, Nat.reduceAdd, Nat.reduceSub, Nat.reduceMul, Nat.reduceLT, Nat.reduceLeDiff, Nat.reduceEqDiff, true_and, and_true, true_implies, if_true, if_false, ite_true, reduceIte, ne_eq, not_false_eq_true, reduceCtorEq, forall_const, bne_self_eq_false, Bool.true_eq_false, Bool.false_eq_true, false_implies, and_self, implies_true, Int.toNat_zero, beq_self_eq_true, decide_true, decide_false, Bool.not_true, Bool.not_false, ↓y_call, List.length_map, i0, j0, fi, fj, wi1, wj1, srcOf, Nat.le_refl, hf24, hCt, hfit, Int.toNat_natCast, Int.le_refl, c03, c13, c23, c01, c02, t1, t2, ↓y_stepQ_callv, e0, e1, u1, u2, bx, b2]
  refine adrawq hmix [] ?_
  simp (maxSteps := 400000) -implicitDefEqProofs only [↓symPre, symPost, y_condP, y_condG, run, lver, minD, intsD, eqAll, tupD, splice, Nat.zero_add, Nat.add_zero, Nat.zero_mul, Nat.mul_one, Nat.one_mul, Nat.reduceAdd, Nat.reduceSub, Nat.reduceMul, Nat.reduceLT, Nat.reduceLeDiff, Nat.reduceEqDiff, true_and, and_true, true_implies, if_true, if_false, ite_true, reduceIte, ne_eq, not_false_eq_true, reduceCtorEq, forall_const, bne_self_eq_false, Bool.true_eq_false, Bool.false_eq_true, false_implies, and_self, implies_true, Int.toNat_zero, beq_self_eq_true, decide_true, decide_false, Bool.not_true, Bool.not_false, ↓y_call, ↓drawPre, drawPost, isCall, isNew, isEff, Option.toList, or_false, false_or, cond_true, cond_false, not_true_eq_false, or_true, true_or, Nat.add_left_cancel_iff, Bool.false_eq_true, List.length_map, i0, j0, fi, fj, wi1, wj1, srcOf, Nat.le_refl, hf24, hCt, hfit, Int.toNat_natCast, Int.le_refl, c03, c13, c23, c01, c02, t1, t2, ↓y_stepQ_callv, e0, e1, u1, u2, bx, b2]
  refine adrawq hmix [] ?_
  simp (maxSteps := 400000) -implicitDefEqProofs only [↓symPre, symPost, y_condP, y_condG, run, lver, minD, intsD, eqAll, tupD, splice, Nat.zero_add, Nat.add_zero, Nat.zero_mul, Nat.mul_one, Nat.one_mul, Nat.reduceAdd, Nat.reduceSub, Nat.reduceMul, Nat.reduceLT, Nat.reduceLeDiff, Nat.reduceEqDiff, true_and, and_true, true_implies, if_true, if_false, ite_true, reduceIte, ne_eq, not_false_eq_true, reduceCtorEq, forall_const, bne_self_eq_false, Bool.true_eq_false, Bool.false_eq_true, false_implies, and_self, implies_true, Int.toNat_zero, beq_self_eq_true, decide_true, decide_false, Bool.not_true, Bool.not_false, ↓y_call, ↓drawPre, drawPost, isCall, isNew, isEff, Option.toList, or_false, false_or, cond_true, cond_false, not_true_eq_false, or_true, true_or, Nat.add_left_cancel_iff, Bool.false_eq_true, List.length_map, i0, j0, fi, fj, wi1, wj1, srcOf, Nat.le_refl, hf24, hCt, hfit, Int.toNat_natCast, Int.le_refl, c03, c13, c23, c01, c02, t1, t2, ↓y_stepQ_callv, e0, e1, u1, u2, bx, b2]
  refine ⟨_, _, of_draw o00 (bm := bm) (bw := bw) (bc := bc) (bv := bv) (bo := bo) (bM := bM) H rfl rfl, (by simp [y_cov0, y_cov1, isNew, isEff, Option.toList]), ?_⟩
  simp (maxSteps := 400000) -implicitDefEqProofs only [↓symPre, symPost, y_condP, y_condG, run, lver, minD, intsD, eqAll, tupD, splice, Nat.zero_add, Nat.add_zero, Nat.zero_mul, Nat.mul_one, Nat.one_mul, Nat.reduceAdd, Nat.reduceSub, Nat.reduceMul, Nat.reduceLT, Nat.reduceLeDiff, Nat.reduceEqDiff, true_and, and_true, true_implies, if_true, if_false, ite_true, reduceIte, ne_eq, not_false_eq_true, reduceCtorEq, forall_const, bne_self_eq_false, Bool.true_eq_false, Bool.false_eq_true, false_implies, and_self, implies_true, Int.toNat_zero, beq_self_eq_true, decide_true, decide_false, Bool.not_true, Bool.not_false, ↓y_call, ↓drawPre, drawPost, isCall, isNew, isEff, Option.toList, or_false, false_or, cond_true, cond_false, not_true_eq_false, or_true, true_or, Nat.add_left_cancel_iff, Bool.false_eq_true, List.length_map, i0, j0, fi, fj, wi1, wj1, srcOf, Nat.le_refl, hf24, hCt, hfit, Int.toNat_natCast, Int.le_refl, c03, c13, c23, c01, c02, t1, t2, ↓y_stepQ_callv, e0, e1, u1, u2, bx, b2]
  refine ⟨_, _, of_draw o11 (bm := bm) (bw := bw) (bc := bc) (bv := bv) (bo := bo) (bM := bM) H rfl rfl, (by simp [y_cov0, y_cov1, isNew, isEff, Option.toList]), ?_⟩
  simp (maxSteps := 400000) -implicitDefEqProofs only [↓symPre, symPost, y_condP, y_condG, run, lver, minD, intsD, eqAll, tupD, splice, Nat.zero_add, Nat.add_zero, Nat.zero_mul, Nat.mul_one, Nat.one_mul, Nat.reduceAdd, Nat.reduceSub, Nat.reduceMul, Nat.reduceLT, Nat.reduceLeDiff, Nat.reduceEqDiff, true_and, and_true, true_implies, if_true, if_false, ite_true, reduceIte, ne_eq, not_false_eq_true, reduceCtorEq, forall_const, bne_self_eq_false, Bool.true_eq_false, Bool.false_eq_true, false_implies, and_self, implies_true, Int.toNat_zero, beq_self_eq_true, decide_true, decide_false, Bool.not_true, Bool.not_false, ↓y_call, ↓drawPre, drawPost, isCall, isNew, isEff, Option.toList, or_false, false_or, cond_true, cond_false, not_true_eq_false, or_true, true_or, Nat.add_left_cancel_iff, Bool.false_eq_true, List.length_map, i0, j0, fi, fj, wi1, wj1, srcOf, Nat.le_refl, hf24, hCt, hfit, Int.toNat_natCast, Int.le_refl, c03, c13, c23, c01, c02, t1, t2, ↓y_stepQ_callv, e0, e1, u1, u2, bx, b2]
  refine ⟨by rintro c (rfl | rfl | rfl) <;> rfl, an_done (b' := (i + 1, j + 1, O ++ [⟨3, i, v[j]⟩], u + 1)) ⟨by simp only; omega, by simp only; omega, ?_, by simp only [List.length_append, List.length_cons, List.length_nil]; omega, by simp only; omega⟩ (by simp only [alM]; omega) ?_⟩
  · simp only [List.append_assoc, List.cons_append, List.nil_append]
    rw [← hO, al]
  unfold anS
  simp only [← ope_one_cells, List.length_append, List.length_cons, List.length_nil, Nat.zero_add]
  refine le_to (List.replicate 6 .hole ++ [.old 6] ++ List.replicate 56 .hole ++ [.old 63] ++ List.replicate 76 .hole) hl rfl ?_ ?_ <;> ((try simp only [y_blk_end, y_blk_hole, y_blk_nil, y_blk_old, y_wkl_end, y_wkl_top, List.replicate, List.cons_append, List.nil_append, and_true, true_and]) <;> (repeat' (first | apply And.intro | apply y_wkl | refine Exists.intro _ (And.intro rfl ?_))) <;> (try first | exact trivial | exact Wk.top _ | exact wk_int rfl | exact wk_bool rfl | exact wk_ptr rfl rfl rfl rfl | exact wk_ref rfl rfl rfl rfl rfl | exact wk_nil rfl rfl rfl | exact wk_ref rfl rfl rfl rfl (by simp) | exact wk_ref rfl rfl rfl rfl (by simp; omega) | exact wk_old (by assumption) (by simp) | exact wk_eq rfl (by first | exact Bd.int _ _ | exact Bd.bool _ | exact Bd.abool | exact Bd.nils | exact Bd.emp | exact Bd.nilp | exact Bd.nilfn | assumption | exact low_trees _ _ | exact low_treeD _ _ | exact low_ints _ _) | exact Nat.le_refl _ | exact wk_int (by simp) | exact wk_int (by omega) | exact Nat.succ_le_succ (Nat.zero_le _) | exact Nat.le_add_left _ _ | omega))
  exact WkL.app (WkL.low (low_cellsF opeD (low_opeD n) O)) (y_wkl (wk_int rfl) (y_wkl (wk_int rfl) (y_wkl (wk_int rfl) trivial)))

set_option maxHeartbeats 8000000 in
theorem an_del {n : Nat} {h : Heap} {q : Co} {w v : List Int} {bm bw bc bv bo bM : Nat} (hc : AnC n h q w v bm bw bc bv bo bM) {i j : Nat} {O : List Ope} {u : Nat} (hI : alI q w v (i, j, O, u)) (ci : i < w.length) (cj : j < v.length) (cx : w[i] ≠ v[j]) (c2 : dR q (w.drop i) (v.drop j) ≠ dR q (w.drop (i + 1)) (v.drop (j + 1)) + q.c) (c3 : dR q (w.drop i) (v.drop j) = dR q (w.drop (i + 1)) (v.drop j) + q.b) (al : alignR q i (w.drop i) (v.drop j) = ⟨2, i, w[i]⟩ :: alignR q (i + 1) (w.drop (i + 1)) (v.drop j)) : AnRound n h q w v bm bw bc bv bo (i, j, O, u) := by
  intro Q
  obtain ⟨hl, hq, hw, hv, H⟩ := hc
  obtain ⟨hi, hj, hO, hOl, hu⟩ := hI
  simp only at hi hj hO hOl hu
  have hlo := low_ofD H.lm H.lw H.lc H.lv H.lo
  have c03 : (0 : Int) < ((3 : Nat) : Int) := by decide
  have c13 : (1 : Int) < ((3 : Nat) : Int) := by decide
  have c23 : (2 : Int) < ((3 : Nat) : Int) := by decide
  have c01 : (0 : Int) ≤ 1 := by decide
  have c02 : (0 : Int) ≤ 2 := by decide
  have t1 : (1 : Int).toNat = 1 := rfl
  have t2 : (2 : Int).toNat = 2 := rfl
  have i0 : (0 : Int) ≤ (i : Int) := by omega
  have j0 : (0 : Int) ≤ (j : Int) := by omega
  have wi1 : IntKind.i64.wrap ((i : Int) + 1) = ((i + 1 : Nat) : Int) := by rw [IntWalk.i64_in _ (by omega)]; omega
  have wj1 : IntKind.i64.wrap ((j : Int) + 1) = ((j + 1 : Nat) : Int) := by rw [IntWalk.i64_in _ (by omega)]; omega
  have hcl : (cellsF opeD O).length = O.length * 3 := cellsF_len opeD opeD_cells O
  have hCt := take_all (cellsF opeD O) (k := O.length * 3) (by rw [hcl])
  have hfit : O.length * 3 ≤ (cellsF opeD O).length := by omega
  have hf24 : (O.length + 1) * 24 ≤ 140737488355328 := by omega
  have o00 := at_of q hq w v hw hv _ i j rfl hi hj
  have q1 := hq
  obtain ⟨q1, q2, q3, q4, q5, q6⟩ := q1
  have fi : (i : Int) < (w.length : Int) := by omega
  have e0 := nth_ints w i ci
  have o10 := at_of q hq w v hw hv _ (i + 1) j rfl ci hj
  have rg10 := dR_range hq (w.drop (i + 1)) (v.drop j)
  have ld1 : (w.drop (i + 1)).length ≤ 200 := by simp; omega
  have ld2 : (v.drop j).length ≤ 200 := by simp; omega
  have u2 : IntKind.i64.wrap (q.b + dR q (w.drop (i + 1)) (v.drop j)) = q.b + dR q (w.drop (i + 1)) (v.drop j) := IntWalk.i64_in _ (by omega)
  have fj : (j : Int) < (v.length : Int) := by omega
  have e1 := nth_ints v j cj
  have o11 := at_of q hq w v hw hv _ (i + 1) (j + 1) rfl ci cj
  have rg11 := dR_range hq (w.drop (i + 1)) (v.drop (j + 1))
  have ld3 : (v.drop (j + 1)).length ≤ 200 := by simp; omega
  have u1 : IntKind.i64.wrap (q.c + dR q (w.drop (i + 1)) (v.drop (j + 1))) = q.c + dR q (w.drop (i + 1)) (v.drop (j + 1)) := IntWalk.i64_in _ (by omega)
  have bx : (w[i] == v[j]) = false := by simp [cx]
  have b2 : (dR q (w.drop i) (v.drop j) == q.c + dR q (w.drop (i + 1)) (v.drop (j + 1))) = false := by rw [Int.add_comm]; simp [c2]
  have b3 : (dR q (w.drop i) (v.drop j) == q.b + dR q (w.drop (i + 1)) (v.drop j)) = true := by simp [c3, Int.add_comm]
  have eS : anS n h q w v bm bw bc bv bo (i, j, O, u) = St.mk n ([iD w, iD v, .top, ofD bm bw bc bv bo, .top, .top, .ptr (n + 6) 1 0, .top, .top, .ref 3 (n + 63) u 0 O.length, .int .i64 i, .int .i64 j] ++ List.replicate 128 .top) h
      (List.replicate 6 blk0 ++ [⟨1, .cells [.int .i64 q.a, .int .i64 q.b, .int .i64 q.c]⟩] ++ List.replicate 56 blk0 ++ [⟨u, .cells (cellsF opeD O)⟩] ++ List.replicate 76 blk0) := rfl
  rw [eS]
  unfold anBody
  simp -implicitDefEqProofs only [↓symPre, symPost, y_condP, y_condG, run, lver, minD, intsD, eqAll, tupD, splice, Nat.zero_add, Nat.add_zero, Nat.zero_mul, Nat.mul_one, Nat.one_mul, Nat.reduceAdd, Nat.reduceSub, Nat.reduceMul, Nat.reduceLT, Nat.reduceLeDiff, Nat.reduceEqDiff, true_and, and_true, true_implies, if_true, if_false, ite_true, reduceIte, ne_eq, not_false_eq_true, reduceCtorEq, forall_const, bne_self_eq_false, Bool.true_eq_false, Bool.false_eq_true, false_implies, and_self, implies_true, Int.toNat_zero, beq_self_eq_true, decide_true, decide_false, Bool.not_true, Bool.not_false, ↓y_call, List.length_map, i0, j0, fi, fj, wi1, wj1, srcOf, Nat.le_refl, hf24, hCt, hfit, Int.toNat_natCast, Int.le_refl, c03, c13, c23, c01, c02, t1, t2, ↓y_stepQ_callv, e0, e1, u1, u2, bx, b2, b3]
  refine adrawq hmix [] ?_
  simp (maxSteps := 400000) -implicitDefEqProofs only [↓symPre, symPost, y_condP, y_condG, run, lver, minD, intsD, eqAll, tupD, splice, Nat.zero_add, Nat.add_zero, Nat.zero_mul, Nat.mul_one, Nat.one_mul, Nat.reduceAdd, Nat.reduceSub, Nat.reduceMul, Nat.reduceLT, Nat.reduceLeDiff, Nat.reduceEqDiff, true_and, and_true, true_implies, if_true, if_false, ite_true, reduceIte, ne_eq, not_false_eq_true, reduceCtorEq, forall_const, bne_self_eq_false, Bool.true_eq_false, Bool.false_eq_true, false_implies, and_self, implies_true, Int.toNat_zero, beq_self_eq_true, decide_true, decide_false, Bool.not_true, Bool.not_false, ↓y_call, ↓drawPre, drawPost, isCall, isNew, isEff, Option.toList, or_false, false_or, cond_true, cond_false, not_true_eq_false, or_true, true_or, Nat.add_left_cancel_iff, Bool.false_eq_true, List.length_map, i0, j0, fi, fj, wi1, wj1, srcOf, Nat.le_refl, hf24, hCt, hfit, Int.toNat_natCast, Int.le_refl, c03, c13, c23, c01, c02, t1, t2, ↓y_stepQ_callv, e0, e1, u1, u2, bx, b2, b3]
  refine adrawq hmix [] ?_
  simp (maxSteps := 400000) -implicitDefEqProofs only [↓symPre, symPost, y_condP, y_condG, run, lver, minD, intsD, eqAll, tupD, splice, Nat.zero_add, Nat.add_zero, Nat.zero_mul, Nat.mul_one, Nat.one_mul, Nat.reduceAdd, Nat.reduceSub, Nat.reduceMul, Nat.reduceLT, Nat.reduceLeDiff, Nat.reduceEqDiff, true_and, and_true, true_implies, if_true, if_false, ite_true, reduceIte, ne_eq, not_false_eq_true, reduceCtorEq, forall_const, bne_self_eq_false, Bool.true_eq_false, Bool.false_eq_true, false_implies, and_self, implies_true, Int.toNat_zero, beq_self_eq_true, decide_true, decide_false, Bool.not_true, Bool.not_false, ↓y_call, ↓drawPre, drawPost, isCall, isNew, isEff, Option.toList, or_false, false_or, cond_true, cond_false, not_true_eq_false, or_true, true_or, Nat.add_left_cancel_iff, Bool.false_eq_true, List.length_map, i0, j0, fi, fj, wi1, wj1, srcOf, Nat.le_refl, hf24, hCt, hfit, Int.toNat_natCast, Int.le_refl, c03, c13, c23, c01, c02, t1, t2, ↓y_stepQ_callv, e0, e1, u1, u2, bx, b2, b3]
  refine ⟨_, _, of_draw o00 (bm := bm) (bw := bw) (bc := bc) (bv := bv) (bo := bo) (bM := bM) H rfl rfl, (by simp [y_cov0, y_cov1, isNew, isEff, Option.toList]), ?_⟩
  simp (maxSteps := 400000) -implicitDefEqProofs only [↓symPre, symPost, y_condP, y_condG, run, lver, minD, intsD, eqAll, tupD, splice, Nat.zero_add, Nat.add_zero, Nat.zero_mul, Nat.mul_one, Nat.one_mul, Nat.reduceAdd, Nat.reduceSub, Nat.reduceMul, Nat.reduceLT, Nat.reduceLeDiff, Nat.reduceEqDiff, true_and, and_true, true_implies, if_true, if_false, ite_true, reduceIte, ne_eq, not_false_eq_true, reduceCtorEq, forall_const, bne_self_eq_false, Bool.true_eq_false, Bool.false_eq_true, false_implies, and_self, implies_true, Int.toNat_zero, beq_self_eq_true, decide_true, decide_false, Bool.not_true, Bool.not_false, ↓y_call, ↓drawPre, drawPost, isCall, isNew, isEff, Option.toList, or_false, false_or, cond_true, cond_false, not_true_eq_false, or_true, true_or, Nat.add_left_cancel_iff, Bool.false_eq_true, List.length_map, i0, j0, fi, fj, wi1, wj1, srcOf, Nat.le_refl, hf24, hCt, hfit, Int.toNat_natCast, Int.le_refl, c03, c13, c23, c01, c02, t1, t2, ↓y_stepQ_callv, e0, e1, u1, u2, bx, b2, b3]
  refine ⟨_, _, of_draw o11 (bm := bm) (bw := bw) (bc := bc) (bv := bv) (bo := bo) (bM := bM) H rfl rfl, (by simp [y_cov0, y_cov1, isNew, isEff, Option.toList]), ?_⟩
  simp (maxSteps := 400000) -implicitDefEqProofs only [↓symPre, symPost, y_condP, y_condG, run, lver, minD, intsD, eqAll, tupD, splice, Nat.zero_add, Nat.add_zero, Nat.zero_mul, Nat.mul_one, Nat.one_mul, Nat.reduceAdd, Nat.reduceSub, Nat.reduceMul, Nat.reduceLT, Nat.reduceLeDiff, Nat.reduceEqDiff, true_and, and_true, true_implies, if_true, if_false, ite_true, reduceIte, ne_eq, not_false_eq_true, reduceCtorEq, forall_const, bne_self_eq_false, Bool.true_eq_false, Bool.false_eq_true, false_implies, and_self, implies_true, Int.toNat_zero, beq_self_eq_true, decide_true, decide_false, Bool.not_true, Bool.not_false, ↓y_call, ↓drawPre, drawPost, isCall, isNew, isEff, Option.toList, or_false, false_or, cond_true, cond_false, not_true_eq_false, or_true, true_or, Nat.add_left_cancel_iff, Bool.false_eq_true, List.length_map, i0, j0, fi, fj, wi1, wj1, srcOf, Nat.le_refl, hf24, hCt, hfit, Int.toNat_natCast, Int.le_refl, c03, c13, c23, c01, c02, t1, t2, ↓y_stepQ_callv, e0, e1, u1, u2, bx, b2, b3]
  refine adrawq hmix [] ?_
  simp (maxSteps := 400000) -implicitDefEqProofs only [↓symPre, symPost, y_condP, y_condG, run, lver, minD, intsD, eqAll, tupD, splice, Nat.zero_add, Nat.add_zero, Nat.zero_mul, Nat.mul_one, Nat.one_mul, Nat.reduceAdd, Nat.reduceSub, Nat.reduceMul, Nat.reduceLT, Nat.reduceLeDiff, Nat.reduceEqDiff, true_and, and_true, true_implies, if_true, if_false, ite_true, reduceIte, ne_eq, not_false_eq_true, reduceCtorEq, forall_const, bne_self_eq_false, Bool.true_eq_false, Bool.false_eq_true, false_implies, and_self, implies_true, Int.toNat_zero, beq_self_eq_true, decide_true, decide_false, Bool.not_true, Bool.not_false, ↓y_call, ↓drawPre, drawPost, isCall, isNew, isEff, Option.toList, or_false, false_or, cond_true, cond_false, not_true_eq_false, or_true, true_or, Nat.add_left_cancel_iff, Bool.false_eq_true, List.length_map, i0, j0, fi, fj, wi1, wj1, srcOf, Nat.le_refl, hf24, hCt, hfit, Int.toNat_natCast, Int.le_refl, c03, c13, c23, c01, c02, t1, t2, ↓y_stepQ_callv, e0, e1, u1, u2, bx, b2, b3]
  refine ⟨_, _, of_draw o00 (bm := bm) (bw := bw) (bc := bc) (bv := bv) (bo := bo) (bM := bM) H rfl rfl, (by simp [y_cov0, y_cov1, isNew, isEff, Option.toList]), ?_⟩
  simp (maxSteps := 400000) -implicitDefEqProofs only [↓symPre, symPost, y_condP, y_condG, run, lver, minD, intsD, eqAll, tupD, splice, Nat.zero_add, Nat.add_zero, Nat.zero_mul, Nat.mul_one, Nat.one_mul, Nat.reduceAdd, Nat.reduceSub, Nat.reduceMul, Nat.reduceLT, Nat.reduceLeDiff, Nat.reduceEqDiff, true_and, and_true, true_implies, if_true, if_false, ite_true, reduceIte, ne_eq, not_false_eq_true, reduceCtorEq, forall_const, bne_self_eq_false, Bool.true_eq_false, Bool.false_eq_true, false_implies, and_self, implies_true, Int.toNat_zero, beq_self_eq_true, decide_true, decide_false, Bool.not_true, Bool.not_false, ↓y_call, ↓drawPre, drawPost, isCall, isNew, isEff, Option.toList, or_false, false_or, cond_true, cond_false, not_true_eq_false, or_true, true_or, Nat.add_left_cancel_iff, Bool.false_eq_true, List.length_map, i0, j0, fi, fj, wi1, wj1, srcOf, Nat.le_refl, hf24, hCt, hfit, Int.toNat_natCast, Int.le_refl, c03, c13, c23, c01, c02, t1, t2, ↓y_stepQ_callv, e0, e1, u1, u2, bx, b2, b3]
  refine ⟨_, _, of_draw o10 (bm := bm) (bw := bw) (bc := bc) (bv := bv) (bo := bo) (bM := bM) H rfl rfl, (by simp [y_cov0, y_cov1, isNew, isEff, Option.toList]), ?_⟩
  simp (maxSteps := 400000) -implicitDefEqProofs only [↓symPre, symPost, y_condP, y_condG, run, lver, minD, intsD, eqAll, tupD, splice, Nat.zero_add, Nat.add_zero, Nat.zero_mul, Nat.mul_one, Nat.one_mul, Nat.reduceAdd, Nat.reduceSub, Nat.reduceMul, Nat.reduceLT, Nat.reduceLeDiff, Nat.reduceEqDiff, true_and, and_true, true_implies, if_true, if_false, ite_true, reduceIte, ne_eq, not_false_eq_true, reduceCtorEq, forall_const, bne_self_eq_false, Bool.true_eq_false, Bool.false_eq_true, false_implies, and_self, implies_true, Int.toNat_zero, beq_self_eq_true, decide_true, decide_false, Bool.not_true, Bool.not_false, ↓y_call, ↓drawPre, drawPost, isCall, isNew, isEff, Option.toList, or_false, false_or, cond_true, cond_false, not_true_eq_false, or_true, true_or, Nat.add_left_cancel_iff, Bool.false_eq_true, List.length_map, i0, j0, fi, fj, wi1, wj1, srcOf, Nat.le_refl, hf24, hCt, hfit, Int.toNat_natCast, Int.le_refl, c03, c13, c23, c01, c02, t1, t2, ↓y_stepQ_callv, e0, e1, u1, u2, bx, b2, b3]
  refine ⟨by rintro c (rfl | rfl | rfl) <;> rfl, an_done (b' := (i + 1, j, O ++ [⟨2, i, w[i]⟩], u + 1)) ⟨by simp only; omega, by simp only; omega, ?_, by simp only [List.length_append, List.length_cons, List.length_nil]; omega, by simp only; omega⟩ (by simp only [alM]; omega) ?_⟩
  · simp only [List.append_assoc, List.cons_append, List.nil_append]
    rw [← hO, al]
  unfold anS
  simp only [← ope_one_cells, List.length_append, List.length_cons, List.length_nil, Nat.zero_add]
  refine le_to (List.replicate 6 .hole ++ [.old 6] ++ List.replicate 56 .hole ++ [.old 63] ++ List.replicate 76 .hole) hl rfl ?_ ?_ <;> ((try simp only [y_blk_end, y_blk_hole, y_blk_nil, y_blk_old, y_wkl_end, y_wkl_top, List.replicate, List.cons_append, List.nil_append, and_true, true_and]) <;> (repeat' (first | apply And.intro | apply y_wkl | refine Exists.intro _ (And.intro rfl ?_))) <;> (try first | exact trivial | exact Wk.top _ | exact wk_int rfl | exact wk_bool rfl | exact wk_ptr rfl rfl rfl rfl | exact wk_ref rfl rfl rfl rfl rfl | exact wk_nil rfl rfl rfl | exact wk_ref rfl rfl rfl rfl (by simp) | exact wk_ref rfl rfl rfl rfl (by simp; omega) | exact wk_old (by assumption) (by simp) | exact wk_eq rfl (by first | exact Bd.int _ _ | exact Bd.bool _ | exact Bd.abool | exact Bd.nils | exact Bd.emp | exact Bd.nilp | exact Bd.nilfn | assumption | exact low_trees _ _ | exact low_treeD _ _ | exact low_ints _ _) | exact Nat.le_refl _ | exact wk_int (by simp) | exact wk_int (by omega) | exact Nat.succ_le_succ (Nat.zero_le _) | exact Nat.le_add_left _ _ | omega))
  exact WkL.app (WkL.low (low_cellsF opeD (low_opeD n) O)) (y_wkl (wk_int rfl) (y_wkl (wk_int rfl) (y_wkl (wk_int rfl) trivial)))

set_option maxHeartbeats 8000000 in
theorem an_ins {n : Nat} {h : Heap} {q : Co} {w v : List Int} {bm bw bc bv bo bM : Nat} (hc : AnC n h q w v bm bw bc bv bo bM) {i j : Nat} {O : List Ope} {u : Nat} (hI : alI q w v (i, j, O, u)) (ci : i < w.length) (cj : j < v.length) (cx : w[i] ≠ v[j]) (c2 : dR q (w.drop i) (v.drop j) ≠ dR q (w.drop (i + 1)) (v.drop (j + 1)) + q.c) (c3 : dR q (w.drop i) (v.drop j) ≠ dR q (w.drop (i + 1)) (v.drop j) + q.b) (al : alignR q i (w.drop i) (v.drop j) = ⟨1, i, v[j]⟩ :: alignR q i (w.drop i) (v.drop (j + 1))) : AnRound n h q w v bm bw bc bv bo (i, j, O, u) := by
  intro Q
  obtain ⟨hl, hq, hw, hv, H⟩ := hc
  obtain ⟨hi, hj, hO, hOl, hu⟩ := hI
  simp only at hi hj hO hOl hu
  have hlo := low_ofD H.lm H.lw H.lc H.lv H.lo
  have c03 : (0 : Int) < ((3 : Nat) : Int) := by decide
  have c13 : (1 : Int) < ((3 : Nat) : Int) := by decide
  have c23 : (2 : Int) < ((3 : Nat) : Int) := by decide
  have c01 : (0 : Int) ≤ 1 := by decide
  have c02 : (0 : Int) ≤ 2 := by decide
  have t1 : (1 : Int).toNat = 1 := rfl
  have t2 : (2 : Int).toNat = 2 := rfl
  have i0 : (0 : Int) ≤ (i : Int) := by omega
  have j0 : (0 : Int) ≤ (j : Int) := by omega
  have wi1 : IntKind.i64.wrap ((i : Int) + 1) = ((i + 1 : Nat) : Int) := by rw [IntWalk.i64_in _ (by omega)]; omega
  have wj1 : IntKind.i64.wrap ((j : Int) + 1) = ((j + 1 : Nat) : Int) := by rw [IntWalk.i64_in _ (by omega)]; omega
  have hcl : (cellsF opeD O).length = O.length * 3 := cellsF_len opeD opeD_cells O
  have hCt := take_all (cellsF opeD O) (k := O.length * 3) (by rw [hcl])
  have hfit : O.length * 3 ≤ (cellsF opeD O).length := by omega
  have hf24 : (O.length + 1) * 24 ≤ 140737488355328 := by omega
  have o00 := at_of q hq w v hw hv _ i j rfl hi hj
  have q1 := hq
  obtain ⟨q1, q2, q3, q4, q5, q6⟩ := q1
  have fi : (i : Int) < (w.length : Int) := by omega
  have e0 := nth_ints w i ci
  have o10 := at_of q hq w v hw hv _ (i + 1) j rfl ci hj
  have rg10 := dR_range hq (w.drop (i + 1)) (v.drop j)
  have ld1 : (w.drop (i + 1)).length ≤ 200 := by simp; omega
  have ld2 : (v.drop j).length ≤ 200 := by simp; omega
  have u2 : IntKind.i64.wrap (q.b + dR q (w.drop (i + 1)) (v.drop j)) = q.b + dR q (w.drop (i + 1)) (v.drop j) := IntWalk.i64_in _ (by omega)
  have fj : (j : Int) < (v.length : Int) := by omega
  have e1 := nth_ints v j cj
  have o11 := at_of q hq w v hw hv _ (i + 1) (j + 1) rfl ci cj
  have rg11 := dR_range hq (w.drop (i + 1)) (v.drop (j + 1))
  have ld3 : (v.drop (j + 1)).length ≤ 200 := by simp; omega
  have u1 : IntKind.i64.wrap (q.c + dR q (w.drop (i + 1)) (v.drop (j + 1))) = q.c + dR q (w.drop (i + 1)) (v.drop (j + 1)) := IntWalk.i64_in _ (by omega)
  have bx : (w[i] == v[j]) = false := by simp [cx]
  have b2 : (dR q (w.drop i) (v.drop j) == q.c + dR q (w.drop (i + 1)) (v.drop (j + 1))) = false := by rw [Int.add_comm]; simp [c2]
  have b3 : (dR q (w.drop i) (v.drop j) == q.b + dR q (w.drop (i + 1)) (v.drop j)) = false := by rw [Int.add_comm]; simp [c3]
  have eS : anS n h q w v bm bw bc bv bo (i, j, O, u) = St.mk n ([iD w, iD v, .top, ofD bm bw bc bv bo, .top, .top, .ptr (n + 6) 1 0, .top, .top, .ref 3 (n + 63) u 0 O.length, .int .i64 i, .int .i64 j] ++ List.replicate 128 .top) h
      (List.replicate 6 blk0 ++ [⟨1, .cells [.int .i64 q.a, .int .i64 q.b, .int .i64 q.c]⟩] ++ List.replicate 56 blk0 ++ [⟨u, .cells (cellsF opeD O)⟩] ++ List.replicate 76 blk0) := rfl
  rw [eS]
  unfold anBody
  simp -implicitDefEqProofs only [↓symPre, symPost, y_condP, y_condG, run, lver, minD, intsD, eqAll, tupD, splice, Nat.zero_add, Nat.add_zero, Nat.zero_mul, Nat.mul_one, Nat.one_mul, Nat.reduceAdd, Nat.reduceSub, Nat.reduceMul, Nat.reduceLT, Nat.reduceLeDiff, Nat.reduceEqDiff, true_and, and_true, true_implies, if_true, if_false, ite_true, reduceIte, ne_eq, not_false_eq_true, reduceCtorEq, forall_const, bne_self_eq_false, Bool.true_eq_false, Bool.false_eq_true, false_implies, and_self, implies_true, Int.toNat_zero, beq_self_eq_true, decide_true, decide_false, Bool.not_true, Bool.not_false, ↓y_call, List.length_map, i0, j0, fi, fj, wi1, wj1, srcOf, Nat.le_refl, hf24, hCt, hfit, Int.toNat_natCast, Int.le_refl, c03, c13, c23, c01, c02, t1, t2, ↓y_stepQ_callv, e0, e1, u1, u2, bx, b2, b3]
  refine adrawq hmix [] ?_
  simp (maxSteps := 400000) -implicitDefEqProofs only [↓symPre, symPost, y_condP, y_condG, run, lver, minD, intsD, eqAll, tupD, splice, Nat.zero_add, Nat.add_zero, Nat.zero_mul, Nat.mul_one, Nat.one_mul, Nat.reduceAdd, Nat.reduceSub, Nat.reduceMul, Nat.reduceLT, Nat.reduceLeDiff, Nat.reduceEqDiff, true_and, and_true, true_implies, if_true, if_false, ite_true, reduceIte, ne_eq, not_false_eq_true, reduceCtorEq, forall_const, bne_self_eq_false, Bool.true_eq_false, Bool.false_eq_true, false_implies, and_self, implies_true, Int.toNat_zero, beq_self_eq_true, decide_true, decide_false, Bool.not_true, Bool.not_false, ↓y_call, ↓drawPre, drawPost, isCall, isNew, isEff, Option.toList, or_false, false_or, cond_true, cond_false, not_true_eq_false, or_true, true_or, Nat.add_left_cancel_iff, Bool.false_eq_true, List.length_map, i0, j0, fi, fj, wi1, wj1, srcOf, Nat.le_refl, hf24, hCt, hfit, Int.toNat_natCast, Int.le_refl, c03, c13, c23, c01, c02, t1, t2, ↓y_stepQ_callv, e0, e1, u1, u2, bx, b2, b3]
  refine adrawq hmix [] ?_
  simp (maxSteps := 400000) -implicitDefEqProofs only [↓symPre, symPost, y_condP, y_condG, run, lver, minD, intsD, eqAll, tupD, splice, Nat.zero_add, Nat.add_zero, Nat.zero_mul, Nat.mul_one, Nat.one_mul, Nat.reduceAdd, Nat.reduceSub, Nat.reduceMul, Nat.reduceLT, Nat.reduceLeDiff, Nat.reduceEqDiff, true_and, and_true, true_implies, if_true, if_false, ite_true, reduceIte, ne_eq, not_false_eq_true, reduceCtorEq, forall_const, bne_self_eq_false, Bool.true_eq_false, Bool.false_eq_true, false_implies, and_self, implies_true, Int.toNat_zero, beq_self_eq_true, decide_true, decide_false, Bool.not_true, Bool.not_false, ↓y_call, ↓drawPre, drawPost, isCall, isNew, isEff, Option.toList, or_false, false_or, cond_true, cond_false, not_true_eq_false, or_true, true_or, Nat.add_left_cancel_iff, Bool.false_eq_true, List.length_map, i0, j0, fi, fj, wi1, wj1, srcOf, Nat.le_refl, hf24, hCt, hfit, Int.toNat_natCast, Int.le_refl, c03, c13, c23, c01, c02, t1, t2, ↓y_stepQ_callv, e0, e1, u1, u2, bx, b2, b3]
  refine ⟨_, _, of_draw o00 (bm := bm) (bw := bw) (bc := bc) (bv := bv) (bo := bo) (bM := bM) H rfl rfl, (by simp [y_cov0, y_cov1, isNew, isEff, Option.toList]), ?_⟩
  simp (maxSteps := 400000) -implicitDefEqProofs only [↓symPre, symPost, y_condP, y_condG, run, lver, minD, intsD, eqAll, tupD, splice, Nat.zero_add, Nat.add_zero, Nat.zero_mul, Nat.mul_one, Nat.one_mul, Nat.reduceAdd, Nat.reduceSub, Nat.reduceMul, Nat.reduceLT, Nat.reduceLeDiff, Nat.reduceEqDiff, true_and, and_true, true_implies, if_true, if_false, ite_true, reduceIte, ne_eq, not_false_eq_true, reduceCtorEq, forall_const, bne_self_eq_false, Bool.true_eq_false, Bool.false_eq_true, false_implies, and_self, implies_true, Int.toNat_zero, beq_self_eq_true, decide_true, decide_false, Bool.not_true, Bool.not_false, ↓y_call, ↓drawPre, drawPost, isCall, isNew, isEff, Option.toList, or_false, false_or, cond_true, cond_false, not_true_eq_false, or_true, true_or, Nat.add_left_cancel_iff, Bool.false_eq_true, List.length_map, i0, j0, fi, fj, wi1, wj1, srcOf, Nat.le_refl, hf24, hCt, hfit, Int.toNat_natCast, Int.le_refl, c03, c13, c23, c01, c02, t1, t2, ↓y_stepQ_callv, e0, e1, u1, u2, bx, b2, b3]
  refine ⟨_, _, of_draw o11 (bm := bm) (bw := bw) (bc := bc) (bv := bv) (bo := bo) (bM := bM) H rfl rfl, (by simp [y_cov0, y_cov1, isNew, isEff, Option.toList]), ?_⟩
  simp (maxSteps := 400000) -implicitDefEqProofs only [↓symPre, symPost, y_condP, y_condG, run, lver, minD, intsD, eqAll, tupD, splice, Nat.zero_add, Nat.add_zero, Nat.zero_mul, Nat.mul_one, Nat.one_mul, Nat.reduceAdd, Nat.reduceSub, Nat.reduceMul, Nat.reduceLT, Nat.reduceLeDiff, Nat.reduceEqDiff, true_and, and_true, true_implies, if_true, if_false, ite_true, reduceIte, ne_eq, not_false_eq_true, reduceCtorEq, forall_const, bne_self_eq_false, Bool.true_eq_false, Bool.false_eq_true, false_implies, and_self, implies_true, Int.toNat_zero, beq_self_eq_true, decide_true, decide_false, Bool.not_true, Bool.not_false, ↓y_call, ↓drawPre, drawPost, isCall, isNew, isEff, Option.toList, or_false, false_or, cond_true, cond_false, not_true_eq_false, or_true, true_or, Nat.add_left_cancel_iff, Bool.false_eq_true, List.length_map, i0, j0, fi, fj, wi1, wj1, srcOf, Nat.le_refl, hf24, hCt, hfit, Int.toNat_natCast, Int.le_refl, c03, c13, c23, c01, c02, t1, t2, ↓y_stepQ_callv, e0, e1, u1, u2, bx, b2, b3]
  refine adrawq hmix [] ?_
  simp (maxSteps := 400000) -implicitDefEqProofs only [↓symPre, symPost, y_condP, y_condG, run, lver, minD, intsD, eqAll, tupD, splice, Nat.zero_add, Nat.add_zero, Nat.zero_mul, Nat.mul_one, Nat.one_mul, Nat.reduceAdd, Nat.reduceSub, Nat.reduceMul, Nat.reduceLT, Nat.reduceLeDiff, Nat.reduceEqDiff, true_and, and_true, true_implies, if_true, if_false, ite_true, reduceIte, ne_eq, not_false_eq_true, reduceCtorEq, forall_const, bne_self_eq_false, Bool.true_eq_false, Bool.false_eq_true, false_implies, and_self, implies_true, Int.toNat_zero, beq_self_eq_true, decide_true, decide_false, Bool.not_true, Bool.not_false, ↓y_call, ↓drawPre, drawPost, isCall, isNew, isEff, Option.toList, or_false, false_or, cond_true, cond_false, not_true_eq_false, or_true, true_or, Nat.add_left_cancel_iff, Bool.false_eq_true, List.length_map, i0, j0, fi, fj, wi1, wj1, srcOf, Nat.le_refl, hf24, hCt, hfit, Int.toNat_natCast, Int.le_refl, c03, c13, c23, c01, c02, t1, t2, ↓y_stepQ_callv, e0, e1, u1, u2, bx, b2, b3]
  refine ⟨_, _, of_draw o00 (bm := bm) (bw := bw) (bc := bc) (bv := bv) (bo := bo) (bM := bM) H rfl rfl, (by simp [y_cov0, y_cov1, isNew, isEff, Option.toList]), ?_⟩
  simp (maxSteps := 400000) -implicitDefEqProofs only [↓symPre, symPost, y_condP, y_condG, run, lver, minD, intsD, eqAll, tupD, splice, Nat.zero_add, Nat.add_zero, Nat.zero_mul, Nat.mul_one, Nat.one_mul, Nat.reduceAdd, Nat.reduceSub, Nat.reduceMul, Nat.reduceLT, Nat.reduceLeDiff, Nat.reduceEqDiff, true_and, and_true, true_implies, if_true, if_false, ite_true, reduceIte, ne_eq, not_false_eq_true, reduceCtorEq, forall_const, bne_self_eq_false, Bool.true_eq_false, Bool.false_eq_true, false_implies, and_self, implies_true, Int.toNat_zero, beq_self_eq_true, decide_true, decide_false, Bool.not_true, Bool.not_false, ↓y_call, ↓drawPre, drawPost, isCall, isNew, isEff, Option.toList, or_false, false_or, cond_true, cond_false, not_true_eq_false, or_true, true_or, Nat.add_left_cancel_iff, Bool.false_eq_true, List.length_map, i0, j0, fi, fj, wi1, wj1, srcOf, Nat.le_refl, hf24, hCt, hfit, Int.toNat_natCast, Int.le_refl, c03, c13, c23, c01, c02, t1, t2, ↓y_stepQ_callv, e0, e1, u1, u2, bx, b2, b3]
  refine ⟨_, _, of_draw o10 (bm := bm) (bw := bw) (bc := bc) (bv := bv) (bo := bo) (bM := bM) H rfl rfl, (by simp [y_cov0, y_cov1, isNew, isEff, Option.toList]), ?_⟩
  simp (maxSteps := 400000) -implicitDefEqProofs only [↓symPre, symPost, y_condP, y_condG, run, lver, minD, intsD, eqAll, tupD, splice, Nat.zero_add, Nat.add_zero, Nat.zero_mul, Nat.mul_one, Nat.one_mul, Nat.reduceAdd, Nat.reduceSub, Nat.reduceMul, Nat.reduceLT, Nat.reduceLeDiff, Nat.reduceEqDiff, true_and, and_true, true_implies, if_true, if_false, ite_true, reduceIte, ne_eq, not_false_eq_true, reduceCtorEq, forall_const, bne_self_eq_false, Bool.true_eq_false, Bool.false_eq_true, false_implies, and_self, implies_true, Int.toNat_zero, beq_self_eq_true, decide_true, decide_false, Bool.not_true, Bool.not_false, ↓y_call, ↓drawPre, drawPost, isCall, isNew, isEff, Option.toList, or_false, false_or, cond_true, cond_false, not_true_eq_false, or_true, true_or, Nat.add_left_cancel_iff, Bool.false_eq_true, List.length_map, i0, j0, fi, fj, wi1, wj1, srcOf, Nat.le_refl, hf24, hCt, hfit, Int.toNat_natCast, Int.le_refl, c03, c13, c23, c01, c02, t1, t2, ↓y_stepQ_callv, e0, e1, u1, u2, bx, b2, b3]
  refine ⟨by rintro c (rfl | rfl | rfl) <;> rfl, an_done (b' := (i, j + 1, O ++ [⟨1, i, v[j]⟩], u + 1)) ⟨by simp only; omega, by simp only; omega, ?_, by simp only [List.length_append, List.length_cons, List.length_nil]; omega, by simp only; omega⟩ (by simp only [alM]; omega) ?_⟩
  · simp only [List.append_assoc, List.cons_append, List.nil_append]
    rw [← hO, al]
  unfold anS
  simp only [← ope_one_cells, List.length_append, List.length_cons, List.length_nil, Nat.zero_add]
  refine le_to (List.replicate 6 .hole ++ [.old 6] ++ List.replicate 56 .hole ++ [.old 63] ++ List.replicate 76 .hole) hl rfl ?_ ?_ <;> ((try simp only [y_blk_end, y_blk_hole, y_blk_nil, y_blk_old, y_wkl_end, y_wkl_top, List.replicate, List.cons_append, List.nil_append, and_true, true_and]) <;> (repeat' (first | apply And.intro | apply y_wkl | refine Exists.intro _ (And.intro rfl ?_))) <;> (try first | exact trivial | exact Wk.top _ | exact wk_int rfl | exact wk_bool rfl | exact wk_ptr rfl rfl rfl rfl | exact wk_ref rfl rfl rfl rfl rfl | exact wk_nil rfl rfl rfl | exact wk_ref rfl rfl rfl rfl (by simp) | exact wk_ref rfl rfl rfl rfl (by simp; omega) | exact wk_old (by assumption) (by simp) | exact wk_eq rfl (by first | exact Bd.int _ _ | exact Bd.bool _ | exact Bd.abool | exact Bd.nils | exact Bd.emp | exact Bd.nilp | exact Bd.nilfn | assumption | exact low_trees _ _ | exact low_treeD _ _ | exact low_ints _ _) | exact Nat.le_refl _ | exact wk_int (by simp) | exact wk_int (by omega) | exact Nat.succ_le_succ (Nat.zero_le _) | exact Nat.le_add_left _ _ | omega))
  exact WkL.app (WkL.low (low_cellsF opeD (low_opeD n) O)) (y_wkl (wk_int rfl) (y_wkl (wk_int rfl) (y_wkl (wk_int rfl) trivial)))

set_option maxHeartbeats 8000000 in
theorem an_delend {n : Nat} {h : Heap} {q : Co} {w v : List Int} {bm bw bc bv bo bM : Nat} (hc : AnC n h q w v bm bw bc bv bo bM) {i j : Nat} {O : List Ope} {u : Nat} (hI : alI q w v (i, j, O, u)) (ci : i < w.length) (hjv : j = v.length) : AnRound n h q w v bm bw bc bv bo (i, j, O, u) := by
  intro Q
  obtain ⟨hl, hq, hw, hv, H⟩ := hc
  obtain ⟨hi, hj, hO, hOl, hu⟩ := hI
  simp only at hi hj hO hOl hu
  have hlo := low_ofD H.lm H.lw H.lc H.lv H.lo
  have c03 : (0 : Int) < ((3 : Nat) : Int) := by decide
  have c13 : (1 : Int) < ((3 : Nat) : Int) := by decide
  have c23 : (2 : Int) < ((3 : Nat) : Int) := by decide
  have c01 : (0 : Int) ≤ 1 := by decide
  have c02 : (0 : Int) ≤ 2 := by decide
  have t1 : (1 : Int).toNat = 1 := rfl
  have t2 : (2 : Int).toNat = 2 := rfl
  have i0 : (0 : Int) ≤ (i : Int) := by omega
  have j0 : (0 : Int) ≤ (j : Int) := by omega
  have wi1 : IntKind.i64.wrap ((i : Int) + 1) = ((i + 1 : Nat) : Int) := by rw [IntWalk.i64_in _ (by omega)]; omega
  have wj1 : IntKind.i64.wrap ((j : Int) + 1) = ((j + 1 : Nat) : Int) := by rw [IntWalk.i64_in _ (by omega)]; omega
  have hcl : (cellsF opeD O).length = O.length * 3 := cellsF_len opeD opeD_cells O
  have hCt := take_all (cellsF opeD O) (k := O.length * 3) (by rw [hcl])
  have hfit : O.length * 3 ≤ (cellsF opeD O).length := by omega
  have hf24 : (O.length + 1) * 24 ≤ 140737488355328 := by omega
  have o00 := at_of q hq w v hw hv _ i j rfl hi hj
  have q1 := hq
  obtain ⟨q1, q2, q3, q4, q5, q6⟩ := q1
  have fi : (i : Int) < (w.length : Int) := by omega
  have e0 := nth_ints w i ci
  have o10 := at_of q hq w v hw hv _ (i + 1) j rfl ci hj
  have rg10 := dR_range hq (w.drop (i + 1)) (v.drop j)
  have ld1 : (w.drop (i + 1)).length ≤ 200 := by simp; omega
  have ld2 : (v.drop j).length ≤ 200 := by simp; omega
  have u2 : IntKind.i64.wrap (q.b + dR q (w.drop (i + 1)) (v.drop j)) = q.b + dR q (w.drop (i + 1)) (v.drop j) := IntWalk.i64_in _ (by omega)
  have fj : ¬ (j : Int) < (v.length : Int) := by omega
  have hd0 : v.drop j = [] := List.drop_eq_nil_of_le (by omega)
  have al : alignR q i (w.drop i) (v.drop j) = ⟨2, i, w[i]⟩ :: alignR q (i + 1) (w.drop (i + 1)) (v.drop j) := by
    rw [hd0, List.drop_eq_getElem_cons ci, alignR]
  have hdd : dR q (w.drop i) (v.drop j) = dR q (w.drop (i + 1)) (v.drop j) + q.b := by
    rw [hd0, dR_nil2, dR_nil2, List.drop_eq_getElem_cons ci, List.length_cons]
    simp only [Int.natCast_add, Int.add_mul]; simp
  have b3 : (dR q (w.drop i) (v.drop j) == q.b + dR q (w.drop (i + 1)) (v.drop j)) = true := by simp [hdd, Int.add_comm]
  have eS : anS n h q w v bm bw bc bv bo (i, j, O, u) = St.mk n ([iD w, iD v, .top, ofD bm bw bc bv bo, .top, .top, .ptr (n + 6) 1 0, .top, .top, .ref 3 (n + 63) u 0 O.length, .int .i64 i, .int .i64 j] ++ List.replicate 128 .top) h
      (List.replicate 6 blk0 ++ [⟨1, .cells [.int .i64 q.a, .int .i64 q.b, .int .i64 q.c]⟩] ++ List.replicate 56 blk0 ++ [⟨u, .cells (cellsF opeD O)⟩] ++ List.replicate 76 blk0) := rfl
  rw [eS]
  unfold anBody
  simp -implicitDefEqProofs only [↓symPre, symPost, y_condP, y_condG, run, lver, minD, intsD, eqAll, tupD, splice, Nat.zero_add, Nat.add_zero, Nat.zero_mul, Nat.mul_one, Nat.one_mul, Nat.reduceAdd, Nat.reduceSub, Nat.reduceMul, Nat.reduceLT, Nat.reduceLeDiff, Nat.reduceEqDiff, true_and, and_true, true_implies, if_true, if_false, ite_true, reduceIte, ne_eq, not_false_eq_true, reduceCtorEq, forall_const, bne_self_eq_false, Bool.true_eq_false, Bool.false_eq_true, false_implies, and_self, implies_true, Int.toNat_zero, beq_self_eq_true, decide_true, decide_false, Bool.not_true, Bool.not_false, ↓y_call, List.length_map, i0, j0, fi, fj, wi1, wj1, srcOf, Nat.le_refl, hf24, hCt, hfit, Int.toNat_natCast, Int.le_refl, c03, c13, c23, c01, c02, t1, t2, ↓y_stepQ_callv, e0, u2, b3]
  refine adrawq hmix [] ?_
  simp (maxSteps := 400000) -implicitDefEqProofs only [↓symPre, symPost, y_condP, y_condG, run, lver, minD, intsD, eqAll, tupD, splice, Nat.zero_add, Nat.add_zero, Nat.zero_mul, Nat.mul_one, Nat.one_mul, Nat.reduceAdd, Nat.reduceSub, Nat.reduceMul, Nat.reduceLT, Nat.reduceLeDiff, Nat.reduceEqDiff, true_and, and_true, true_implies, if_true, if_false, ite_true, reduceIte, ne_eq, not_false_eq_true, reduceCtorEq, forall_const, bne_self_eq_false, Bool.true_eq_false, Bool.false_eq_true, false_implies, and_self, implies_true, Int.toNat_zero, beq_self_eq_true, decide_true, decide_false, Bool.not_true, Bool.not_false, ↓y_call, ↓drawPre, drawPost, isCall, isNew, isEff, Option.toList, or_false, false_or, cond_true, cond_false, not_true_eq_false, or_true, true_or, Nat.add_left_cancel_iff, Bool.false_eq_true, List.length_map, i0, j0, fi, fj, wi1, wj1, srcOf, Nat.le_refl, hf24, hCt, hfit, Int.toNat_natCast, Int.le_refl, c03, c13, c23, c01, c02, t1, t2, ↓y_stepQ_callv, e0, u2, b3]
  refine adrawq hmix [] ?_
  simp (maxSteps := 400000) -implicitDefEqProofs only [↓symPre, symPost, y_condP, y_condG, run, lver, minD, intsD, eqAll, tupD, splice, Nat.zero_add, Nat.add_zero, Nat.zero_mul, Nat.mul_one, Nat.one_mul, Nat.reduceAdd, Nat.reduceSub, Nat.reduceMul, Nat.reduceLT, Nat.reduceLeDiff, Nat.reduceEqDiff, true_and, and_true, true_implies, if_true, if_false, ite_true, reduceIte, ne_eq, not_false_eq_true, reduceCtorEq, forall_const, bne_self_eq_false, Bool.true_eq_false, Bool.false_eq_true, false_implies, and_self, implies_true, Int.toNat_zero, beq_self_eq_true, decide_true, decide_false, Bool.not_true, Bool.not_false, ↓y_call, ↓drawPre, drawPost, isCall, isNew, isEff, Option.toList, or_false, false_or, cond_true, cond_false, not_true_eq_false, or_true, true_or, Nat.add_left_cancel_iff, Bool.false_eq_true, List.length_map, i0, j0, fi, fj, wi1, wj1, srcOf, Nat.le_refl, hf24, hCt, hfit, Int.toNat_natCast, Int.le_refl, c03, c13, c23, c01, c02, t1, t2, ↓y_stepQ_callv, e0, u2, b3]
  refine adrawq hmix [] ?_
  simp (maxSteps := 400000) -implicitDefEqProofs only [↓symPre, symPost, y_condP, y_condG, run, lver, minD, intsD, eqAll, tupD, splice, Nat.zero_add, Nat.add_zero, Nat.zero_mul, Nat.mul_one, Nat.one_mul, Nat.reduceAdd, Nat.reduceSub, Nat.reduceMul, Nat.reduceLT, Nat.reduceLeDiff, Nat.reduceEqDiff, true_and, and_true, true_implies, if_true, if_false, ite_true, reduceIte, ne_eq, not_false_eq_true, reduceCtorEq, forall_const, bne_self_eq_false, Bool.true_eq_false, Bool.false_eq_true, false_implies, and_self, implies_true, Int.toNat_zero, beq_self_eq_true, decide_true, decide_false, Bool.not_true, Bool.not_false, ↓y_call, ↓drawPre, drawPost, isCall, isNew, isEff, Option.toList, or_false, false_or, cond_true, cond_false, not_true_eq_false, or_true, true_or, Nat.add_left_cancel_iff, Bool.false_eq_true, List.length_map, i0, j0, fi, fj, wi1, wj1, srcOf, Nat.le_refl, hf24, hCt, hfit, Int.toNat_natCast, Int.le_refl, c03, c13, c23, c01, c02, t1, t2, ↓y_stepQ_callv, e0, u2, b3]
  refine ⟨_, _, of_draw o00 (bm := bm) (bw := bw) (bc := bc) (bv := bv) (bo := bo) (bM := bM) H rfl rfl, (by simp [y_cov0, y_cov1, isNew, isEff, Option.toList]), ?_⟩
  simp (maxSteps := 400000) -implicitDefEqProofs only [↓symPre, symPost, y_condP, y_condG, run, lver, minD, intsD, eqAll, tupD, splice, Nat.zero_add, Nat.add_zero, Nat.zero_mul, Nat.mul_one, Nat.one_mul, Nat.reduceAdd, Nat.reduceSub, Nat.reduceMul, Nat.reduceLT, Nat.reduceLeDiff, Nat.reduceEqDiff, true_and, and_true, true_implies, if_true, if_false, ite_true, reduceIte, ne_eq, not_false_eq_true, reduceCtorEq, forall_const, bne_self_eq_false, Bool.true_eq_false, Bool.false_eq_true, false_implies, and_self, implies_true, Int.toNat_zero, beq_self_eq_true, decide_true, decide_false, Bool.not_true, Bool.not_false, ↓y_call, ↓drawPre, drawPost, isCall, isNew, isEff, Option.toList, or_false, false_or, cond_true, cond_false, not_true_eq_false, or_true, true_or, Nat.add_left_cancel_iff, Bool.false_eq_true, List.length_map, i0, j0, fi, fj, wi1, wj1, srcOf, Nat.le_refl, hf24, hCt, hfit, Int.toNat_natCast, Int.le_refl, c03, c13, c23, c01, c02, t1, t2, ↓y_stepQ_callv, e0, u2, b3]
  refine ⟨_, _, of_draw o10 (bm := bm) (bw := bw) (bc := bc) (bv := bv) (bo := bo) (bM := bM) H rfl rfl, (by simp [y_cov0, y_cov1, isNew, isEff, Option.toList]), ?_⟩
  simp (maxSteps := 400000) -implicitDefEqProofs only [↓symPre, symPost, y_condP, y_condG, run, lver, minD, intsD, eqAll, tupD, splice, Nat.zero_add, Nat.add_zero, Nat.zero_mul, Nat.mul_one, Nat.one_mul, Nat.reduceAdd, Nat.reduceSub, Nat.reduceMul, Nat.reduceLT, Nat.reduceLeDiff, Nat.reduceEqDiff, true_and, and_true, true_implies, if_true, if_false, ite_true, reduceIte, ne_eq, not_false_eq_true, reduceCtorEq, forall_const, bne_self_eq_false, Bool.true_eq_false, Bool.false_eq_true, false_implies, and_self, implies_true, Int.toNat_zero, beq_self_eq_true, decide_true, decide_false, Bool.not_true, Bool.not_false, ↓y_call, ↓drawPre, drawPost, isCall, isNew, isEff, Option.toList, or_false, false_or, cond_true, cond_false, not_true_eq_false, or_true, true_or, Nat.add_left_cancel_iff, Bool.false_eq_true, List.length_map, i0, j0, fi, fj, wi1, wj1, srcOf, Nat.le_refl, hf24, hCt, hfit, Int.toNat_natCast, Int.le_refl, c03, c13, c23, c01, c02, t1, t2, ↓y_stepQ_callv, e0, u2, b3]
  refine ⟨by rintro c (rfl | rfl | rfl) <;> rfl, an_done (b' := (i + 1, j, O ++ [⟨2, i, w[i]⟩], u + 1)) ⟨by simp only; omega, by simp only; omega, ?_, by simp only [List.length_append, List.length_cons, List.length_nil]; omega, by simp only; omega⟩ (by simp only [alM]; omega) ?_⟩
  · simp only [List.append_assoc, List.cons_append, List.nil_append]
    rw [← hO, al]
  unfold anS
  simp only [← ope_one_cells, List.length_append, List.length_cons, List.length_nil, Nat.zero_add]
  refine le_to (List.replicate 6 .hole ++ [.old 6] ++ List.replicate 56 .hole ++ [.old 63] ++ List.replicate 76 .hole) hl rfl ?_ ?_ <;> ((try simp only [y_blk_end, y_blk_hole, y_blk_nil, y_blk_old, y_wkl_end, y_wkl_top, List.replicate, List.cons_append, List.nil_append, and_true, true_and]) <;> (repeat' (first | apply And.intro | apply y_wkl | refine Exists.intro _ (And.intro rfl ?_))) <;> (try first | exact trivial | exact Wk.top _ | exact wk_int rfl | exact wk_bool rfl | exact wk_ptr rfl rfl rfl rfl | exact wk_ref rfl rfl rfl rfl rfl | exact wk_nil rfl rfl rfl | exact wk_ref rfl rfl rfl rfl (by simp) | exact wk_ref rfl rfl rfl rfl (by simp; omega) | exact wk_old (by assumption) (by simp) | exact wk_eq rfl (by first | exact Bd.int _ _ | exact Bd.bool _ | exact Bd.abool | exact Bd.nils | exact Bd.emp | exact Bd.nilp | exact Bd.nilfn | assumption | exact low_trees _ _ | exact low_treeD _ _ | exact low_ints _ _) | exact Nat.le_refl _ | exact wk_int (by simp) | exact wk_int (by omega) | exact Nat.succ_le_succ (Nat.zero_le _) | exact Nat.le_add_left _ _ | omega))
  exact WkL.app (WkL.low (low_cellsF opeD (low_opeD n) O)) (y_wkl (wk_int rfl) (y_wkl (wk_int rfl) (y_wkl (wk_int rfl) trivial)))

set_option maxHeartbeats 8000000 in
theorem an_insend {n : Nat} {h : Heap} {q : Co} {w v : List Int} {bm bw bc bv bo bM : Nat} (hc : AnC n h q w v bm bw bc bv bo bM) {i j : Nat} {O : List Ope} {u : Nat} (hI : alI q w v (i, j, O, u)) (hiw : i = w.length) (cj : j < v.length) : AnRound n h q w v bm bw bc bv bo (i, j, O, u) := by
  intro Q
  obtain ⟨hl, hq, hw, hv, H⟩ := hc
  obtain ⟨hi, hj, hO, hOl, hu⟩ := hI
  simp only at hi hj hO hOl hu
  have hlo := low_ofD H.lm H.lw H.lc H.lv H.lo
  have c03 : (0 : Int) < ((3 : Nat) : Int) := by decide
  have c13 : (1 : Int) < ((3 : Nat) : Int) := by decide
  have c23 : (2 : Int) < ((3 : Nat) : Int) := by decide
  have c01 : (0 : Int) ≤ 1 := by decide
  have c02 : (0 : Int) ≤ 2 := by decide
  have t1 : (1 : Int).toNat = 1 := rfl
  have t2 : (2 : Int).toNat = 2 := rfl
  have i0 : (0 : Int) ≤ (i : Int) := by omega
  have j0 : (0 : Int) ≤ (j : Int) := by omega
  have wi1 : IntKind.i64.wrap ((i : Int) + 1) = ((i + 1 : Nat) : Int) := by rw [IntWalk.i64_in _ (by omega)]; omega
  have wj1 : IntKind.i64.wrap ((j : Int) + 1) = ((j + 1 : Nat) : Int) := by rw [IntWalk.i64_in _ (by omega)]; omega
  have hcl : (cellsF opeD O).length = O.length * 3 := cellsF_len opeD opeD_cells O
  have hCt := take_all (cellsF opeD O) (k := O.length * 3) (by rw [hcl])
  have hfit : O.length * 3 ≤ (cellsF opeD O).length := by omega
  have hf24 : (O.length + 1) * 24 ≤ 140737488355328 := by omega
  have o00 := at_of q hq w v hw hv _ i j rfl hi hj
  have q1 := hq
  obtain ⟨q1, q2, q3, q4, q5, q6⟩ := q1
  have fi : ¬ (i : Int) < (w.length : Int) := by omega
  have hd0 : w.drop i = [] := List.drop_eq_nil_of_le (by omega)
  have fj : (j : Int) < (v.length : Int) := by omega
  have e1 := nth_ints v j cj
  have al : alignR q i (w.drop i) (v.drop j) = ⟨1, i, v[j]⟩ :: alignR q i (w.drop i) (v.drop (j + 1)) := by
    rw [hd0, List.drop_eq_getElem_cons cj, alignR]
  have eS : anS n h q w v bm bw bc bv bo (i, j, O, u) = St.mk n ([iD w, iD v, .top, ofD bm bw bc bv bo, .top, .top, .ptr (n + 6) 1 0, .top, .top, .ref 3 (n + 63) u 0 O.length, .int .i64 i, .int .i64 j] ++ List.replicate 128 .top) h
      (List.replicate 6 blk0 ++ [⟨1, .cells [.int .i64 q.a, .int .i64 q.b, .int .i64 q.c]⟩] ++ List.replicate 56 blk0 ++ [⟨u, .cells (cellsF opeD O)⟩] ++ List.replicate 76 blk0) := rfl
  rw [eS]
  unfold anBody
  simp -implicitDefEqProofs only [↓symPre, symPost, y_condP, y_condG, run, lver, minD, intsD, eqAll, tupD, splice, Nat.zero_add, Nat.add_zero, Nat.zero_mul, Nat.mul_one, Nat.one_mul, Nat.reduceAdd, Nat.reduceSub, Nat.reduceMul, Nat.reduceLT, Nat.reduceLeDiff, Nat.reduceEqDiff, true_and, and_true, true_implies, if_true, if_false, ite_true, reduceIte, ne_eq, not_false_eq_true, reduceCtorEq, forall_const, bne_self_eq_false, Bool.true_eq_false, Bool.false_eq_true, false_implies, and_self, implies_true, Int.toNat_zero, beq_self_eq_true, decide_true, decide_false, Bool.not_true, Bool.not_false, ↓y_call, List.length_map, i0, j0, fi, fj, wi1, wj1, srcOf, Nat.le_refl, hf24, hCt, hfit, Int.toNat_natCast, Int.le_refl, c03, c13, c23, c01, c02, t1, t2, ↓y_stepQ_callv, e1]
  refine adrawq hmix [] ?_
  simp (maxSteps := 400000) -implicitDefEqProofs only [↓symPre, symPost, y_condP, y_condG, run, lver, minD, intsD, eqAll, tupD, splice, Nat.zero_add, Nat.add_zero, Nat.zero_mul, Nat.mul_one, Nat.one_mul, Nat.reduceAdd, Nat.reduceSub, Nat.reduceMul, Nat.reduceLT, Nat.reduceLeDiff, Nat.reduceEqDiff, true_and, and_true, true_implies, if_true, if_false, ite_true, reduceIte, ne_eq, not_false_eq_true, reduceCtorEq, forall_const, bne_self_eq_false, Bool.true_eq_false, Bool.false_eq_true, false_implies, and_self, implies_true, Int.toNat_zero, beq_self_eq_true, decide_true, decide_false, Bool.not_true, Bool.not_false, ↓y_call, ↓drawPre, drawPost, isCall, isNew, isEff, Option.toList, or_false, false_or, cond_true, cond_false, not_true_eq_false, or_true, true_or, Nat.add_left_cancel_iff, Bool.false_eq_true, List.length_map, i0, j0, fi, fj, wi1, wj1, srcOf, Nat.le_refl, hf24, hCt, hfit, Int.toNat_natCast, Int.le_refl, c03, c13, c23, c01, c02, t1, t2, ↓y_stepQ_callv, e1]
  refine adrawq hmix [] ?_
  simp (maxSteps := 400000) -implicitDefEqProofs only [↓symPre, symPost, y_condP, y_condG, run, lver, minD, intsD, eqAll, tupD, splice, Nat.zero_add, Nat.add_zero, Nat.zero_mul, Nat.mul_one, Nat.one_mul, Nat.reduceAdd, Nat.reduceSub, Nat.reduceMul, Nat.reduceLT, Nat.reduceLeDiff, Nat.reduceEqDiff, true_and, and_true, true_implies, if_true, if_false, ite_true, reduceIte, ne_eq, not_false_eq_true, reduceCtorEq, forall_const, bne_self_eq_false, Bool.true_eq_false, Bool.false_eq_true, false_implies, and_self, implies_true, Int.toNat_zero, beq_self_eq_true, decide_true, decide_false, Bool.not_true, Bool.not_false, ↓y_call, ↓drawPre, drawPost, isCall, isNew, isEff, Option.toList, or_false, false_or, cond_true, cond_false, not_true_eq_false, or_true, true_or, Nat.add_left_cancel_iff, Bool.false_eq_true, List.length_map, i0, j0, fi, fj, wi1, wj1, srcOf, Nat.le_refl, hf24, hCt, hfit, Int.toNat_natCast, Int.le_refl, c03, c13, c23, c01, c02, t1, t2, ↓y_stepQ_callv, e1]
  refine adrawq hmix [] ?_
  simp (maxSteps := 400000) -implicitDefEqProofs only [↓symPre, symPost, y_condP, y_condG, run, lver, minD, intsD, eqAll, tupD, splice, Nat.zero_add, Nat.add_zero, Nat.zero_mul, Nat.mul_one, Nat.one_mul, Nat.reduceAdd, Nat.reduceSub, Nat.reduceMul, Nat.reduceLT, Nat.reduceLeDiff, Nat.reduceEqDiff, true_and, and_true, true_implies, if_true, if_false, ite_true, reduceIte, ne_eq, not_false_eq_true, reduceCtorEq, forall_const, bne_self_eq_false, Bool.true_eq_false, Bool.false_eq_true, false_implies, and_self, implies_true, Int.toNat_zero, beq_self_eq_true, decide_true, decide_false, Bool.not_true, Bool.not_false, ↓y_call, ↓drawPre, drawPost, isCall, isNew, isEff, Option.toList, or_false, false_or, cond_true, cond_false, not_true_eq_false, or_true, true_or, Nat.add_left_cancel_iff, Bool.false_eq_true, List.length_map, i0, j0, fi, fj, wi1, wj1, srcOf, Nat.le_refl, hf24, hCt, hfit, Int.toNat_natCast, Int.le_refl, c03, c13, c23, c01, c02, t1, t2, ↓y_stepQ_callv, e1]
  refine ⟨by rintro c (rfl | rfl | rfl) <;> rfl, an_done (b' := (i, j + 1, O ++ [⟨1, i, v[j]⟩], u + 1)) ⟨by simp only; omega, by simp only; omega, ?_, by simp only [List.length_append, List.length_cons, List.length_nil]; omega, by simp only; omega⟩ (by simp only [alM]; omega) ?_⟩
  · simp only [List.append_assoc, List.cons_append, List.nil_append]
    rw [← hO, al]
  unfold anS
  simp only [← ope_one_cells, List.length_append, List.length_cons, List.length_nil, Nat.zero_add]
  refine le_to (List.replicate 6 .hole ++ [.old 6] ++ List.replicate 56 .hole ++ [.old 63] ++ List.replicate 76 .hole) hl rfl ?_ ?_ <;> ((try simp only [y_blk_end, y_blk_hole, y_blk_nil, y_blk_old, y_wkl_end, y_wkl_top, List.replicate, List.cons_append, List.nil_append, and_true, true_and]) <;> (repeat' (first | apply And.intro | apply y_wkl | refine Exists.intro _ (And.intro rfl ?_))) <;> (try first | exact trivial | exact Wk.top _ | exact wk_int rfl | exact wk_bool rfl | exact wk_ptr rfl rfl rfl rfl | exact wk_ref rfl rfl rfl rfl rfl | exact wk_nil rfl rfl rfl | exact wk_ref rfl rfl rfl rfl (by simp) | exact wk_ref rfl rfl rfl rfl (by simp; omega) | exact wk_old (by assumption) (by simp) | exact wk_eq rfl (by first | exact Bd.int _ _ | exact Bd.bool _ | exact Bd.abool | exact Bd.nils | exact Bd.emp | exact Bd.nilp | exact Bd.nilfn | assumption | exact low_trees _ _ | exact low_treeD _ _ | exact low_ints _ _) | exact Nat.le_refl _ | exact wk_int (by simp) | exact wk_int (by omega) | exact Nat.succ_le_succ (Nat.zero_le _) | exact Nat.le_add_left _ _ | omega))
  exact WkL.app (WkL.low (low_cellsF opeD (low_opeD n) O)) (y_wkl (wk_int rfl) (y_wkl (wk_int rfl) (y_wkl (wk_int rfl) trivial)))

theorem an_round {n : Nat} {h : Heap} {q : Co} {w v : List Int} {bm bw bc bv bo bM : Nat} (hc : AnC n h q w v bm bw bc bv bo bM) {i j : Nat} {O : List Ope} {u : Nat} (hI : alI q w v (i, j, O, u)) (cij : i < w.length ∨ j < v.length) : AnRound n h q w v bm bw bc bv bo (i, j, O, u) := by
  by_cases ci : i < w.length
  · by_cases cj : j < v.length
    · have al := alignR.eq_4 q i w[i] (w.drop (i + 1)) v[j] (v.drop (j + 1))
      rw [← List.drop_eq_getElem_cons ci, ← List.drop_eq_getElem_cons cj] at al
      by_cases cx : w[i] = v[j]
      · have c1 : dR q (w.drop i) (v.drop j) = dR q (w.drop (i + 1)) (v.drop (j + 1)) := by
          have hq := hc.hq
          rw [List.drop_eq_getElem_cons ci, List.drop_eq_getElem_cons cj, cx]
          exact dR_same (by have := hq.1; omega) (by have := hq.2.2.1; omega) (by have := hq.2.2.2.2.1; omega) ..
        rw [if_pos ⟨cx, c1⟩] at al
        exact an_keep hc hI ci cj cx al
      · rw [if_neg (fun h => cx h.1)] at al
        by_cases c2 : dR q (w.drop i) (v.drop j) = dR q (w.drop (i + 1)) (v.drop (j + 1)) + q.c
        · rw [if_pos ⟨cx, c2⟩] at al
          exact an_replace hc hI ci cj cx c2 al
        · rw [if_neg (fun h => c2 h.2)] at al
          by_cases c3 : dR q (w.drop i) (v.drop j) = dR q (w.drop (i + 1)) (v.drop j) + q.b
          · rw [if_pos c3] at al; exact an_del hc hI ci cj cx c2 c3 al
          · rw [if_neg c3] at al; exact an_ins hc hI ci cj cx c2 c3 al
    · exact an_delend hc hI ci (by have := hI.2.1; simp only at this; omega)
  · exact an_insend hc hI (by have := hI.1; simp only at this; omega) (by omega)

set_option maxHeartbeats 4000000 in
theorem at_aligned (q : Co) (hq : okCo q 100) (w v : List Int) (hw : w.length ≤ 200) (hv : v.length ≤ 200) {n : Nat} {h : Heap} {bm bw bc bv bo bM : Nat} (H : OfH q w v h n bm bw bc bv bo bM) :
    ACalls prog F_parllaw4_aligned [iD w, iD v, coD q, ofD bm bw bc bv bo] n h fun d h' x => h' = h ∧ x = [] ∧ d = .lst ((alignR q 0 w v).map opeD) := by
  refine K_parllaw4_aligned.calls fun hl => ?_
  unfold C_parllaw4_aligned coD
  have hlo := low_ofD H.lm H.lw H.lc H.lv H.lo
  simp -implicitDefEqProofs only [↓symPre, symPost, y_condP, y_condG, run, lver, minD, intsD, eqAll, tupD, splice, Nat.zero_add, Nat.add_zero, Nat.zero_mul, Nat.mul_one, Nat.one_mul, Nat.reduceAdd, Nat.reduceSub, Nat.reduceMul, Nat.reduceLT, Nat.reduceLeDiff, Nat.reduceEqDiff, true_and, and_true, true_implies, if_true, if_false, ite_true, reduceIte, ne_eq, not_false_eq_true, reduceCtorEq, forall_const, bne_self_eq_false, Bool.true_eq_false, Bool.false_eq_true, false_implies, and_self, implies_true, Int.toNat_zero, beq_self_eq_true, decide_true, decide_false, Bool.not_true, Bool.not_false, ↓y_call, List.length_map]
  have hc : AnC n h q w v bm bw bc bv bo bM := ⟨hl, hq, hw, hv, H⟩
  refine aloop (anS n h q w v bm bw bc bv bo) (alI q w v) (alM w v) (0, 0, [], 1) ⟨Nat.zero_le _, Nat.zero_le _, by simp, Nat.le_refl _, Nat.le_refl _⟩ ?_ ?_
  · unfold anS
    refine le_to (List.replicate 6 .hole ++ [.old 6] ++ List.replicate 56 .hole ++ [.nil] ++ List.replicate 76 .hole) hl rfl ?_ ?_ <;> (try simp only [cellsF_nil]) <;> ((try simp only [y_blk_end, y_blk_hole, y_blk_nil, y_blk_old, y_wkl_end, y_wkl_top, List.replicate, List.cons_append, List.nil_append, and_true, true_and]) <;> (repeat' (first | apply And.intro | apply y_wkl | refine Exists.intro _ (And.intro rfl ?_))) <;> (try first | exact trivial | exact Wk.top _ | exact wk_int rfl | exact wk_bool rfl | exact wk_ptr rfl rfl rfl rfl | exact wk_ref rfl rfl rfl rfl rfl | exact wk_nil rfl rfl rfl | exact wk_ref rfl rfl rfl rfl (by simp) | exact wk_ref rfl rfl rfl rfl (by simp; omega) | exact wk_old (by assumption) (by simp) | exact wk_eq rfl (by first | exact Bd.int _ _ | exact Bd.bool _ | exact Bd.abool | exact Bd.nils | exact Bd.emp | exact Bd.nilp | exact Bd.nilfn | assumption | exact low_trees _ _ | exact low_treeD _ _ | exact low_ints _ _) | exact Nat.le_refl _ | exact wk_int (by simp) | exact wk_int (by omega) | exact Nat.succ_le_succ (Nat.zero_le _) | exact Nat.le_add_left _ _ | omega))
  · rintro ⟨i, j, O, u⟩ hI
    by_cases cij : i < w.length ∨ j < v.length
    · exact an_round hc hI cij _
    · obtain ⟨hi, hj, hO, hOl, hu⟩ := hI
      simp only at hi hj hO hOl hu
      have fi : ¬ (i : Int) < (w.length : Int) := by omega
      have fj : ¬ (j : Int) < (v.length : Int) := by omega
      have hd0 : w.drop i = [] := List.drop_eq_nil_of_le (by omega)
      have hd1 : v.drop j = [] := List.drop_eq_nil_of_le (by omega)
      rw [hd0, hd1, alignR, List.append_nil] at hO
      have eS : anS n h q w v bm bw bc bv bo (i, j, O, u) = St.mk n ([iD w, iD v, .top, ofD bm bw bc bv bo, .top, .top, .ptr (n + 6) 1 0, .top, .top, .ref 3 (n + 63) u 0 O.length, .int .i64 i, .int .i64 j] ++ List.replicate 128 .top) h
        (List.replicate 6 blk0 ++ [⟨1, .cells [.int .i64 q.a, .int .i64 q.b, .int .i64 q.c]⟩] ++ List.replicate 56 blk0 ++ [⟨u, .cells (cellsF opeD O)⟩] ++ List.replicate 76 blk0) := rfl
      rw [eS]
      simp -implicitDefEqProofs only [↓symPre, symPost, y_condP, y_condG, run, lver, minD, intsD, eqAll, tupD, splice, Nat.zero_add, Nat.add_zero, Nat.zero_mul, Nat.mul_one, Nat.one_mul, Nat.reduceAdd, Nat.reduceSub, Nat.reduceMul, Nat.reduceLT, Nat.reduceLeDiff, Nat.reduceEqDiff, true_and, and_true, true_implies, if_true, if_false, ite_true, reduceIte, ne_eq, not_false_eq_true, reduceCtorEq, forall_const, bne_self_eq_false, Bool.true_eq_false, Bool.false_eq_true, false_implies, and_self, implies_true, Int.toNat_zero, beq_self_eq_true, decide_true, decide_false, Bool.not_true, Bool.not_false, ↓y_call, List.length_map, fi, fj]
      refine fin_wk hl (wk_frzF opeD opeD_cells (low_opeD n) (t := 63) rfl rfl (by simp) rfl) ⟨rfl, rfl, by rw [hO]⟩

end Abs
end Go.Proofs.Ytfojedaccfenfaa

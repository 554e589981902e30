/- repair's Align. (Printed by wip/tools/genK4.py.) -/
import Derived.Test.YtfojedaccfenfaaK3
namespace Go.Proofs.Ytfojedaccfenfaa
namespace Abs
set_option linter.unusedVariables false
set_option linter.unusedSimpArgs false
set_option maxRecDepth 20000

theorem wk_tup3 {X : Wx} {a b c a' b' c' : D} (h1 : Wk X a a') (h2 : Wk X b b') (h3 : Wk X c c') : Wk X (.tup [a, b, c]) (.tup [a', b', c']) :=
  .tup _ _ rfl fun i c c' hc hc' => by
    rcases i with _ | _ | _ | i
    · simp at hc hc'; subst hc; subst hc'; exact h1
    · simp at hc hc'; subst hc; subst hc'; exact h2
    · simp at hc hc'; subst hc; subst hc'; exact h3
    · simp at hc

def alBody : AC :=
  (.seq (.seq (.region [⟨(.some 29), (.mov (.tmp 11)), .always⟩, ⟨(.some 30), (.mov (.tmp 0)), .always⟩, ⟨(.some 31), (.len (.tmp 30)), .always⟩, ⟨(.some 32), (.bin .lss (.tmp 29) (.tmp 31)), .always⟩, ⟨(.some 33), (.mov (.tmp 32)), .always⟩, ⟨(.some 34), (.mov (.tmp 12)), (.on 33 .false)⟩, ⟨(.some 35), (.mov (.tmp 1)), (.on 33 .false)⟩, ⟨(.some 36), (.len (.tmp 35)), (.on 33 .false)⟩, ⟨(.some 37), (.bin .lss (.tmp 34) (.tmp 36)), (.on 33 .false)⟩, ⟨(.some 38), (.pick (.tmp 33) (.val (.bool .true)) (.tmp 37)), .always⟩]) (.cond (.tmp 38) .skip (.exit 0))) (.block 1 (.seq (.region [⟨(.some 39), (.mov (.tmp 11)), .always⟩, ⟨(.some 40), (.mov (.tmp 0)), .always⟩, ⟨(.some 41), (.len (.tmp 40)), .always⟩, ⟨(.some 42), (.bin .lss (.tmp 39) (.tmp 41)), .always⟩, ⟨(.some 43), (.mov (.tmp 42)), .always⟩, ⟨(.some 44), (.mov (.tmp 12)), (.on 43 .true)⟩, ⟨(.some 45), (.mov (.tmp 1)), (.on 43 .true)⟩, ⟨(.some 46), (.len (.tmp 45)), (.on 43 .true)⟩, ⟨(.some 47), (.bin .lss (.tmp 44) (.tmp 46)), (.on 43 .true)⟩, ⟨(.some 48), (.pick (.tmp 43) (.tmp 47) (.val (.bool .false))), .always⟩, ⟨(.some 13), (.mov (.tmp 48)), .always⟩]) (.block 2 (.seq (.draw [⟨⟨(.some 61), (.mov (.tmp 13)), .always⟩, [], []⟩, ⟨⟨(.some 62), (.mov (.tmp 61)), .always⟩, [], []⟩, ⟨⟨(.some 63), (.mov (.tmp 0)), (.on 62 .true)⟩, [], []⟩, ⟨⟨(.some 64), (.mov (.tmp 11)), (.on 62 .true)⟩, [], []⟩, ⟨⟨(.some 65), (.idxS 1 (.tmp 63) (.tmp 64)), (.on 62 .true)⟩, [], []⟩, ⟨⟨(.some 66), (.load .false 1 (.tmp 65)), (.on 62 .true)⟩, [], []⟩, ⟨⟨(.some 67), (.mov (.tmp 1)), (.on 62 .true)⟩, [], []⟩, ⟨⟨(.some 68), (.mov (.tmp 12)), (.on 62 .true)⟩, [], []⟩, ⟨⟨(.some 69), (.idxS 1 (.tmp 67) (.tmp 68)), (.on 62 .true)⟩, [], []⟩, ⟨⟨(.some 70), (.load .false 1 (.tmp 69)), (.on 62 .true)⟩, [], []⟩, ⟨⟨(.some 71), (.bin .eql (.tmp 66) (.tmp 70)), (.on 62 .true)⟩, [], []⟩, ⟨⟨(.some 72), (.pick (.tmp 62) (.tmp 71) (.val (.bool .false))), .always⟩, [], []⟩, ⟨⟨(.some 73), (.mov (.tmp 72)), .always⟩, [], []⟩, ⟨⟨(.some 74), (.mov (.tmp 9)), (.on 73 .true)⟩, [], []⟩, ⟨⟨(.some 75), (.mov (.tmp 11)), (.on 73 .true)⟩, [], []⟩, ⟨⟨(.some 76), (.idxS 1 (.tmp 74) (.tmp 75)), (.on 73 .true)⟩, [], []⟩, ⟨⟨(.some 77), (.load .false 1 (.tmp 76)), (.on 73 .true)⟩, [], []⟩, ⟨⟨(.some 78), (.mov (.tmp 12)), (.on 73 .true)⟩, [], []⟩, ⟨⟨(.some 79), (.idxS 1 (.tmp 77) (.tmp 78)), (.on 73 .true)⟩, [], []⟩, ⟨⟨(.some 80), (.load .false 1 (.tmp 79)), (.on 73 .true)⟩, [], []⟩, ⟨⟨(.some 81), (.mov (.tmp 9)), (.on 73 .true)⟩, [], []⟩, ⟨⟨(.some 82), (.mov (.tmp 11)), (.on 73 .true)⟩, [], []⟩, ⟨⟨(.some 83), (.bin .add (.tmp 82) (.val (.int .i64 1))), (.on 73 .true)⟩, [], []⟩, ⟨⟨(.some 84), (.idxS 1 (.tmp 81) (.tmp 83)), (.on 73 .true)⟩, [], []⟩, ⟨⟨(.some 85), (.load .false 1 (.tmp 84)), (.on 73 .true)⟩, [], []⟩, ⟨⟨(.some 86), (.mov (.tmp 12)), (.on 73 .true)⟩, [], []⟩, ⟨⟨(.some 87), (.bin .add (.tmp 86) (.val (.int .i64 1))), (.on 73 .true)⟩, [], []⟩, ⟨⟨(.some 88), (.idxS 1 (.tmp 85) (.tmp 87)), (.on 73 .true)⟩, [], []⟩, ⟨⟨(.some 89), (.load .false 1 (.tmp 88)), (.on 73 .true)⟩, [], []⟩, ⟨⟨(.some 90), (.bin .eql (.tmp 80) (.tmp 89)), (.on 73 .true)⟩, [], []⟩, ⟨⟨(.some 91), (.pick (.tmp 73) (.tmp 90) (.val (.bool .false))), .always⟩, [], []⟩, ⟨⟨(.some 60), (.mov (.tmp 91)), .always⟩, [], []⟩]) (.cond (.tmp 60) (.seq (.region [⟨(.some 92), (.mov (.tmp 10)), .always⟩, ⟨(.some 93), (.mov (.tmp 11)), .always⟩, ⟨(.some 94), (.mov (.tmp 0)), .always⟩, ⟨(.some 95), (.mov (.tmp 11)), .always⟩, ⟨(.some 96), (.idxS 1 (.tmp 94) (.tmp 95)), .always⟩, ⟨(.some 97), (.load .false 1 (.tmp 96)), .always⟩, ⟨(.some 98), (.build [(.int .i64 0), (.int .i64 0), (.int .i64 0)] [(0, (1, (.val (.int .i64 0)))), (1, (1, (.tmp 93))), (2, (1, (.tmp 97)))]), .always⟩, ⟨(.some 99), (.buildSlice 3 [(.int .i64 0), (.int .i64 0), (.int .i64 0)] 1 [(0, (3, (.tmp 98)))]), .always⟩, ⟨(.some 100), (.append 3 24 (.tmp 92) (.tmp 99)), .always⟩, ⟨(.some 10), (.mov (.tmp 100)), .always⟩]) (.region [⟨(.some 101), (.mov (.tmp 11)), .always⟩, ⟨(.some 102), (.bin .add (.tmp 101) (.val (.int .i64 1))), .always⟩, ⟨(.some 103), (.mov (.tmp 12)), .always⟩, ⟨(.some 104), (.bin .add (.tmp 103) (.val (.int .i64 1))), .always⟩, ⟨(.some 11), (.mov (.tmp 102)), .always⟩, ⟨(.some 12), (.mov (.tmp 104)), .always⟩])) (.seq (.draw [⟨⟨(.some 106), (.mov (.tmp 13)), .always⟩, [], []⟩, ⟨⟨(.some 107), (.mov (.tmp 106)), .always⟩, [], []⟩, ⟨⟨(.some 108), (.mov (.tmp 0)), (.on 107 .true)⟩, [], []⟩, ⟨⟨(.some 109), (.mov (.tmp 11)), (.on 107 .true)⟩, [], []⟩, ⟨⟨(.some 110), (.idxS 1 (.tmp 108) (.tmp 109)), (.on 107 .true)⟩, [], []⟩, ⟨⟨(.some 111), (.load .false 1 (.tmp 110)), (.on 107 .true)⟩, [], []⟩, ⟨⟨(.some 112), (.mov (.tmp 1)), (.on 107 .true)⟩, [], []⟩, ⟨⟨(.some 113), (.mov (.tmp 12)), (.on 107 .true)⟩, [], []⟩, ⟨⟨(.some 114), (.idxS 1 (.tmp 112) (.tmp 113)), (.on 107 .true)⟩, [], []⟩, ⟨⟨(.some 115), (.load .false 1 (.tmp 114)), (.on 107 .true)⟩, [], []⟩, ⟨⟨(.some 116), (.bin .neq (.tmp 111) (.tmp 115)), (.on 107 .true)⟩, [], []⟩, ⟨⟨(.some 117), (.pick (.tmp 107) (.tmp 116) (.val (.bool .false))), .always⟩, [], []⟩, ⟨⟨(.some 118), (.mov (.tmp 117)), .always⟩, [], []⟩, ⟨⟨(.some 119), (.mov (.tmp 9)), (.on 118 .true)⟩, [], []⟩, ⟨⟨(.some 120), (.mov (.tmp 11)), (.on 118 .true)⟩, [], []⟩, ⟨⟨(.some 121), (.idxS 1 (.tmp 119) (.tmp 120)), (.on 118 .true)⟩, [], []⟩, ⟨⟨(.some 122), (.load .false 1 (.tmp 121)), (.on 118 .true)⟩, [], []⟩, ⟨⟨(.some 123), (.mov (.tmp 12)), (.on 118 .true)⟩, [], []⟩, ⟨⟨(.some 124), (.idxS 1 (.tmp 122) (.tmp 123)), (.on 118 .true)⟩, [], []⟩, ⟨⟨(.some 125), (.load .false 1 (.tmp 124)), (.on 118 .true)⟩, [], []⟩, ⟨⟨(.some 126), (.mov (.tmp 9)), (.on 118 .true)⟩, [], []⟩, ⟨⟨(.some 127), (.mov (.tmp 11)), (.on 118 .true)⟩, [], []⟩, ⟨⟨(.some 128), (.bin .add (.tmp 127) (.val (.int .i64 1))), (.on 118 .true)⟩, [], []⟩, ⟨⟨(.some 129), (.idxS 1 (.tmp 126) (.tmp 128)), (.on 118 .true)⟩, [], []⟩, ⟨⟨(.some 130), (.load .false 1 (.tmp 129)), (.on 118 .true)⟩, [], []⟩, ⟨⟨(.some 131), (.mov (.tmp 12)), (.on 118 .true)⟩, [], []⟩, ⟨⟨(.some 132), (.bin .add (.tmp 131) (.val (.int .i64 1))), (.on 118 .true)⟩, [], []⟩, ⟨⟨(.some 133), (.idxS 1 (.tmp 130) (.tmp 132)), (.on 118 .true)⟩, [], []⟩, ⟨⟨(.some 134), (.load .false 1 (.tmp 133)), (.on 118 .true)⟩, [], []⟩, ⟨⟨(.some 135), (.idxA 3 1 (.tmp 5) (.val (.int .i64 2))), (.on 118 .true)⟩, [], []⟩, ⟨⟨(.some 136), (.load .false 1 (.tmp 135)), (.on 118 .true)⟩, [], []⟩, ⟨⟨(.some 137), (.bin .add (.tmp 134) (.tmp 136)), (.on 118 .true)⟩, [], []⟩, ⟨⟨(.some 138), (.bin .eql (.tmp 125) (.tmp 137)), (.on 118 .true)⟩, [], []⟩, ⟨⟨(.some 139), (.pick (.tmp 118) (.tmp 138) (.val (.bool .false))), .always⟩, [], []⟩, ⟨⟨(.some 105), (.mov (.tmp 139)), .always⟩, [], []⟩]) (.cond (.tmp 105) (.seq (.region [⟨(.some 140), (.mov (.tmp 10)), .always⟩, ⟨(.some 141), (.mov (.tmp 11)), .always⟩, ⟨(.some 142), (.mov (.tmp 1)), .always⟩, ⟨(.some 143), (.mov (.tmp 12)), .always⟩, ⟨(.some 144), (.idxS 1 (.tmp 142) (.tmp 143)), .always⟩, ⟨(.some 145), (.load .false 1 (.tmp 144)), .always⟩, ⟨(.some 146), (.build [(.int .i64 0), (.int .i64 0), (.int .i64 0)] [(0, (1, (.val (.int .i64 3)))), (1, (1, (.tmp 141))), (2, (1, (.tmp 145)))]), .always⟩, ⟨(.some 147), (.buildSlice 3 [(.int .i64 0), (.int .i64 0), (.int .i64 0)] 1 [(0, (3, (.tmp 146)))]), .always⟩, ⟨(.some 148), (.append 3 24 (.tmp 140) (.tmp 147)), .always⟩, ⟨(.some 10), (.mov (.tmp 148)), .always⟩]) (.region [⟨(.some 149), (.mov (.tmp 11)), .always⟩, ⟨(.some 150), (.bin .add (.tmp 149) (.val (.int .i64 1))), .always⟩, ⟨(.some 151), (.mov (.tmp 12)), .always⟩, ⟨(.some 152), (.bin .add (.tmp 151) (.val (.int .i64 1))), .always⟩, ⟨(.some 11), (.mov (.tmp 150)), .always⟩, ⟨(.some 12), (.mov (.tmp 152)), .always⟩])) (.seq (.draw [⟨⟨(.some 154), (.mov (.tmp 11)), .always⟩, [], []⟩, ⟨⟨(.some 155), (.mov (.tmp 0)), .always⟩, [], []⟩, ⟨⟨(.some 156), (.len (.tmp 155)), .always⟩, [], []⟩, ⟨⟨(.some 157), (.bin .lss (.tmp 154) (.tmp 156)), .always⟩, [], []⟩, ⟨⟨(.some 158), (.mov (.tmp 157)), .always⟩, [], []⟩, ⟨⟨(.some 159), (.mov (.tmp 9)), (.on 158 .true)⟩, [], []⟩, ⟨⟨(.some 160), (.mov (.tmp 11)), (.on 158 .true)⟩, [], []⟩, ⟨⟨(.some 161), (.idxS 1 (.tmp 159) (.tmp 160)), (.on 158 .true)⟩, [], []⟩, ⟨⟨(.some 162), (.load .false 1 (.tmp 161)), (.on 158 .true)⟩, [], []⟩, ⟨⟨(.some 163), (.mov (.tmp 12)), (.on 158 .true)⟩, [], []⟩, ⟨⟨(.some 164), (.idxS 1 (.tmp 162) (.tmp 163)), (.on 158 .true)⟩, [], []⟩, ⟨⟨(.some 165), (.load .false 1 (.tmp 164)), (.on 158 .true)⟩, [], []⟩, ⟨⟨(.some 166), (.mov (.tmp 9)), (.on 158 .true)⟩, [], []⟩, ⟨⟨(.some 167), (.mov (.tmp 11)), (.on 158 .true)⟩, [], []⟩, ⟨⟨(.some 168), (.bin .add (.tmp 167) (.val (.int .i64 1))), (.on 158 .true)⟩, [], []⟩, ⟨⟨(.some 169), (.idxS 1 (.tmp 166) (.tmp 168)), (.on 158 .true)⟩, [], []⟩, ⟨⟨(.some 170), (.load .false 1 (.tmp 169)), (.on 158 .true)⟩, [], []⟩, ⟨⟨(.some 171), (.mov (.tmp 12)), (.on 158 .true)⟩, [], []⟩, ⟨⟨(.some 172), (.idxS 1 (.tmp 170) (.tmp 171)), (.on 158 .true)⟩, [], []⟩, ⟨⟨(.some 173), (.load .false 1 (.tmp 172)), (.on 158 .true)⟩, [], []⟩, ⟨⟨(.some 174), (.idxA 3 1 (.tmp 5) (.val (.int .i64 1))), (.on 158 .true)⟩, [], []⟩, ⟨⟨(.some 175), (.load .false 1 (.tmp 174)), (.on 158 .true)⟩, [], []⟩, ⟨⟨(.some 176), (.bin .add (.tmp 173) (.tmp 175)), (.on 158 .true)⟩, [], []⟩, ⟨⟨(.some 177), (.bin .eql (.tmp 165) (.tmp 176)), (.on 158 .true)⟩, [], []⟩, ⟨⟨(.some 178), (.pick (.tmp 158) (.tmp 177) (.val (.bool .false))), .always⟩, [], []⟩, ⟨⟨(.some 153), (.mov (.tmp 178)), .always⟩, [], []⟩]) (.cond (.tmp 153) (.seq (.region [⟨(.some 179), (.mov (.tmp 10)), .always⟩, ⟨(.some 180), (.mov (.tmp 11)), .always⟩, ⟨(.some 181), (.mov (.tmp 0)), .always⟩, ⟨(.some 182), (.mov (.tmp 11)), .always⟩, ⟨(.some 183), (.idxS 1 (.tmp 181) (.tmp 182)), .always⟩, ⟨(.some 184), (.load .false 1 (.tmp 183)), .always⟩, ⟨(.some 185), (.build [(.int .i64 0), (.int .i64 0), (.int .i64 0)] [(0, (1, (.val (.int .i64 2)))), (1, (1, (.tmp 180))), (2, (1, (.tmp 184)))]), .always⟩, ⟨(.some 186), (.buildSlice 3 [(.int .i64 0), (.int .i64 0), (.int .i64 0)] 1 [(0, (3, (.tmp 185)))]), .always⟩, ⟨(.some 187), (.append 3 24 (.tmp 179) (.tmp 186)), .always⟩, ⟨(.some 10), (.mov (.tmp 187)), .always⟩]) (.region [⟨(.some 188), (.mov (.tmp 11)), .always⟩, ⟨(.some 189), (.bin .add (.tmp 188) (.val (.int .i64 1))), .always⟩, ⟨(.some 11), (.mov (.tmp 189)), .always⟩])) (.seq (.region [⟨(.some 49), (.mov (.tmp 10)), .always⟩, ⟨(.some 50), (.mov (.tmp 11)), .always⟩, ⟨(.some 51), (.mov (.tmp 1)), .always⟩, ⟨(.some 52), (.mov (.tmp 12)), .always⟩, ⟨(.some 53), (.idxS 1 (.tmp 51) (.tmp 52)), .always⟩, ⟨(.some 54), (.load .false 1 (.tmp 53)), .always⟩, ⟨(.some 55), (.build [(.int .i64 0), (.int .i64 0), (.int .i64 0)] [(0, (1, (.val (.int .i64 1)))), (1, (1, (.tmp 50))), (2, (1, (.tmp 54)))]), .always⟩, ⟨(.some 56), (.buildSlice 3 [(.int .i64 0), (.int .i64 0), (.int .i64 0)] 1 [(0, (3, (.tmp 55)))]), .always⟩, ⟨(.some 57), (.append 3 24 (.tmp 49) (.tmp 56)), .always⟩, ⟨(.some 10), (.mov (.tmp 57)), .always⟩]) (.region [⟨(.some 58), (.mov (.tmp 12)), .always⟩, ⟨(.some 59), (.bin .add (.tmp 58) (.val (.int .i64 1))), .always⟩, ⟨(.some 12), (.mov (.tmp 59)), .always⟩]))))))))))))

def alS (n : Nat) (h : Heap) (q : Co) (w v : List Int) (rows : List (List Int)) (p : Nat × Nat × List Ope × Nat) : St :=
  St.mk n ([iD w, iD v, .top, .top, .top, .ptr (n + 5) 1 0, .top, .top, .top, .lst (rows.map iD), .ref 3 (n + 100) p.2.2.2 0 p.2.2.1.length, .int .i64 p.1, .int .i64 p.2.1] ++ List.replicate 183 .top) h
    (List.replicate 5 blk0 ++ [⟨1, .cells [.int .i64 q.a, .int .i64 q.b, .int .i64 q.c]⟩] ++ List.replicate 94 blk0 ++ [⟨p.2.2.2, .cells (cellsF opeD p.2.2.1)⟩] ++ List.replicate 95 blk0)
def alI (q : Co) (w v : List Int) (p : Nat × Nat × List Ope × Nat) : Prop :=
  p.1 ≤ w.length ∧ p.2.1 ≤ v.length ∧ p.2.2.1 ++ alignR q p.1 (w.drop p.1) (v.drop p.2.1) = alignR q 0 w v ∧ p.2.2.1.length ≤ p.1 + p.2.1 ∧ 1 ≤ p.2.2.2
def alM (w v : List Int) (p : Nat × Nat × List Ope × Nat) : Nat := (w.length - p.1) + (v.length - p.2.1)

structure AlC (n : Nat) (h : Heap) (q : Co) (w v : List Int) (rows : List (List Int)) : Prop where
  hl : LowH n h
  hq : okCo q 100
  hw : w.length ≤ 200
  hv : v.length ≤ 200
  hrows : ∀ i, i ≤ w.length → nth (rows.map iD) i = iD (rowR q w v i)
  hNl : rows.length = w.length + 1

theorem al_row {q : Co} {w v : List Int} (i j : Nat) (hj : j ≤ v.length) : nth ((rowR q w v i).map (D.int .i64)) j = .int .i64 (dR q (w.drop i) (v.drop j)) := nth_of (by rw [List.getElem?_map, rowR_get q w v i j hj]; rfl)

def AlRound (n : Nat) (h : Heap) (q : Co) (w v : List Int) (rows : List (List Int)) (b : Nat × Nat × List Ope × Nat) : Prop := ∀ Q : Exit → St → Prop,
  awpS prog alBody (AThen (fun s' => ∃ b', alI q w v b' ∧ alM w v b' < alM w v b ∧ Le s' (alS n h q w v rows b')) Q) (alS n h q w v rows b)

theorem al_done {n : Nat} {h : Heap} {q : Co} {w v : List Int} {rows : List (List Int)} {b b' : Nat × Nat × List Ope × Nat} {s' : St} (hI : alI q w v b') (hm : alM w v b' < alM w v b) (hle : Le s' (alS n h q w v rows b')) :
    ∃ b', alI q w v b' ∧ alM w v b' < alM w v b ∧ Le s' (alS n h q w v rows b') := ⟨b', hI, hm, hle⟩

set_option maxHeartbeats 8000000 in
theorem al_keep {n : Nat} {h : Heap} {q : Co} {w v : List Int} {rows : List (List Int)} (hc : AlC n h q w v rows) {i j : Nat} {O : List Ope} {u : Nat} (hI : alI q w v (i, j, O, u)) (ci : i < w.length) (cj : j < v.length) (cx : w[i] = v[j]) (c1 : dR q (w.drop i) (v.drop j) = dR q (w.drop (i + 1)) (v.drop (j + 1))) (al : alignR q i (w.drop i) (v.drop j) = ⟨0, i, w[i]⟩ :: alignR q (i + 1) (w.drop (i + 1)) (v.drop (j + 1))) : AlRound n h q w v rows (i, j, O, u) := by
  intro Q
  have hl := hc.hl
  have hq := hc.hq
  have hw := hc.hw
  have hv := hc.hv
  have hNl := hc.hNl
  obtain ⟨hi, hj, hO, hOl, hu⟩ := hI
  simp only at hi hj hO hOl hu
  have c03 : (0 : Int) < ((3 : Nat) : Int) := by decide
  have c13 : (1 : Int) < ((3 : Nat) : Int) := by decide
  have c23 : (2 : Int) < ((3 : Nat) : Int) := by decide
  have c01 : (0 : Int) ≤ 1 := by decide
  have c02 : (0 : Int) ≤ 2 := by decide
  have t1 : (1 : Int).toNat = 1 := rfl
  have t2 : (2 : Int).toNat = 2 := rfl
  have i0 : (0 : Int) ≤ (i : Int) := by omega
  have j0 : (0 : Int) ≤ (j : Int) := by omega
  have wi1 : IntKind.i64.wrap ((i : Int) + 1) = ((i + 1 : Nat) : Int) := by rw [IntWalk.i64_in _ (by omega)]; omega
  have wj1 : IntKind.i64.wrap ((j : Int) + 1) = ((j + 1 : Nat) : Int) := by rw [IntWalk.i64_in _ (by omega)]; omega
  have iN : (i : Int) < (rows.length : Int) := by omega
  have hMl : ∀ i, (rowR q w v i).length = v.length + 1 := rowR_len q w v
  have jM : ∀ i, (j : Int) < ((rowR q w v i).length : Int) := fun i => by have := hMl i; omega
  have i5 : (0 : Int) ≤ ((i + 1 : Nat) : Int) := by omega
  have j5 : (0 : Int) ≤ ((j + 1 : Nat) : Int) := by omega
  have hRi := hc.hrows i hi
  have hcl : (cellsF opeD O).length = O.length * 3 := cellsF_len opeD opeD_cells O
  have hCt := take_all (cellsF opeD O) (k := O.length * 3) (by rw [hcl])
  have hfit : O.length * 3 ≤ (cellsF opeD O).length := by omega
  have hf24 : (O.length + 1) * 24 ≤ 140737488355328 := by omega
  have hr00 := al_row (q := q) (w := w) (v := v) i j hj
  have fi : (i : Int) < (w.length : Int) := by omega
  have i6 : ((i + 1 : Nat) : Int) < (rows.length : Int) := by omega
  have hR1 := hc.hrows (i + 1) (by omega)
  have hr10 := al_row (q := q) (w := w) (v := v) (i + 1) j hj
  have e0 := nth_ints w i ci
  have rg10 := dR_range hq (w.drop (i + 1)) (v.drop j)
  have ld1 : (w.drop (i + 1)).length ≤ 200 := by simp; omega
  have ld2 : (v.drop j).length ≤ 200 := by simp; omega
  have fj : (j : Int) < (v.length : Int) := by omega
  have j6 : ∀ i, ((j + 1 : Nat) : Int) < ((rowR q w v i).length : Int) := fun i => by have := hMl i; omega
  have hr11 := al_row (q := q) (w := w) (v := v) (i + 1) (j + 1) (by omega)
  have e1 := nth_ints v j cj
  have rg11 := dR_range hq (w.drop (i + 1)) (v.drop (j + 1))
  have ld3 : (v.drop (j + 1)).length ≤ 200 := by simp; omega
  generalize dR q (w.drop i) (v.drop j) = d00 at *
  generalize dR q (w.drop (i + 1)) (v.drop j) = d10 at *
  generalize dR q (w.drop (i + 1)) (v.drop (j + 1)) = d11 at *
  have q1 := hq
  obtain ⟨q1, q2, q3, q4, q5, q6⟩ := q1
  have u1 : IntKind.i64.wrap (d11 + q.c) = d11 + q.c := IntWalk.i64_in _ (by omega)
  have u2 : IntKind.i64.wrap (d10 + q.b) = d10 + q.b := IntWalk.i64_in _ (by omega)
  have bx : (w[i] == v[j]) = true := by simp [cx]
  have nx : (w[i] != v[j]) = false := by simp [cx]
  have b1 : (d00 == d11) = true := by simp [c1]
  have eS : alS n h q w v rows (i, j, O, u) = St.mk n ([iD w, iD v, .top, .top, .top, .ptr (n + 5) 1 0, .top, .top, .top, .lst (rows.map iD), .ref 3 (n + 100) u 0 O.length, .int .i64 i, .int .i64 j] ++ List.replicate 183 .top) h
    (List.replicate 5 blk0 ++ [⟨1, .cells [.int .i64 q.a, .int .i64 q.b, .int .i64 q.c]⟩] ++ List.replicate 94 blk0 ++ [⟨u, .cells (cellsF opeD O)⟩] ++ List.replicate 95 blk0) := rfl
  rw [eS]
  unfold alBody
  simp -implicitDefEqProofs only [↓symPre, symPost, y_condP, y_condG, run, lver, minD, intsD, eqAll, tupD, splice, Nat.zero_add, Nat.add_zero, Nat.zero_mul, Nat.mul_one, Nat.one_mul, Nat.reduceAdd, Nat.reduceSub, Nat.reduceMul, Nat.reduceLT, Nat.reduceLeDiff, Nat.reduceEqDiff, true_and, and_true, true_implies, if_true, if_false, ite_true, reduceIte, ne_eq, not_false_eq_true, reduceCtorEq, forall_const, bne_self_eq_false, Bool.true_eq_false, Bool.false_eq_true, false_implies, and_self, implies_true, Int.toNat_zero, beq_self_eq_true, decide_true, decide_false, Bool.not_true, Bool.not_false, ↓y_call, List.length_map, i0, j0, fi, fj, iN, jM, i5, j5, hRi, hr00, wi1, wj1, srcOf, Nat.le_refl, hf24, hCt, hfit, Int.toNat_natCast, Int.le_refl, c03, c13, c23, c01, c02, t1, t2, i6, hR1, hr10, e0, u2, j6, hr11, e1, u1, bx, nx, b1]
  refine adrawq hmix [] ?_
  simp (maxSteps := 400000) -implicitDefEqProofs only [↓symPre, symPost, y_condP, y_condG, run, lver, minD, intsD, eqAll, tupD, splice, Nat.zero_add, Nat.add_zero, Nat.zero_mul, Nat.mul_one, Nat.one_mul, Nat.reduceAdd, Nat.reduceSub, Nat.reduceMul, Nat.reduceLT, Nat.reduceLeDiff, Nat.reduceEqDiff, true_and, and_true, true_implies, if_true, if_false, ite_true, reduceIte, ne_eq, not_false_eq_true, reduceCtorEq, forall_const, bne_self_eq_false, Bool.true_eq_false, Bool.false_eq_true, false_implies, and_self, implies_true, Int.toNat_zero, beq_self_eq_true, decide_true, decide_false, Bool.not_true, Bool.not_false, ↓y_call, ↓drawPre, drawPost, isCall, isNew, isEff, Option.toList, or_false, false_or, cond_true, cond_false, not_true_eq_false, or_true, true_or, Nat.add_left_cancel_iff, Bool.false_eq_true, List.length_map, i0, j0, fi, fj, iN, jM, i5, j5, hRi, hr00, wi1, wj1, srcOf, Nat.le_refl, hf24, hCt, hfit, Int.toNat_natCast, Int.le_refl, c03, c13, c23, c01, c02, t1, t2, i6, hR1, hr10, e0, u2, j6, hr11, e1, u1, bx, nx, b1]

  refine ⟨by rintro c (rfl | rfl | rfl) <;> rfl, al_done (b' := (i + 1, j + 1, O ++ [⟨0, i, w[i]⟩], u + 1)) ⟨by simp only; omega, by simp only; omega, ?_, by simp only [List.length_append, List.length_cons, List.length_nil]; omega, by simp only; omega⟩ (by simp only [alM]; omega) ?_⟩
  · simp only [List.append_assoc, List.cons_append, List.nil_append]
    rw [← hO, al]
  unfold alS
  simp only [← ope_one_cells, List.length_append, List.length_cons, List.length_nil, Nat.zero_add]
  refine le_to (List.replicate 5 .hole ++ [.old 5] ++ List.replicate 94 .hole ++ [.old 100] ++ List.replicate 95 .hole) hl rfl ?_ ?_ <;> ((try simp only [y_blk_end, y_blk_hole, y_blk_nil, y_blk_old, y_wkl_end, y_wkl_top, List.replicate, List.cons_append, List.nil_append, and_true, true_and]) <;> (repeat' (first | apply And.intro | apply y_wkl | refine Exists.intro _ (And.intro rfl ?_))) <;> (try first | exact trivial | exact Wk.top _ | exact wk_int rfl | exact wk_bool rfl | exact wk_ptr rfl rfl rfl rfl | exact wk_ref rfl rfl rfl rfl rfl | exact wk_nil rfl rfl rfl | exact wk_ref rfl rfl rfl rfl (by simp) | exact wk_ref rfl rfl rfl rfl (by simp; omega) | exact wk_old (by assumption) (by simp) | exact wk_eq rfl (by first | exact Bd.int _ _ | exact Bd.bool _ | exact Bd.abool | exact Bd.nils | exact Bd.emp | exact Bd.nilp | exact Bd.nilfn | assumption | exact low_trees _ _ | exact low_treeD _ _ | exact low_ints _ _) | exact Nat.le_refl _ | exact wk_int (by simp) | exact wk_int (by omega) | exact Nat.succ_le_succ (Nat.zero_le _) | exact Nat.le_add_left _ _ | omega))
  · exact WkL.app (WkL.low (low_cellsF opeD (low_opeD n) O)) (y_wkl (wk_int rfl) (y_wkl (wk_int rfl) (y_wkl (wk_int rfl) trivial)))
  · exact .low _ (low_lstF iD (low_iDs n) _)

set_option maxHeartbeats 8000000 in
theorem al_replace {n : Nat} {h : Heap} {q : Co} {w v : List Int} {rows : List (List Int)} (hc : AlC n h q w v rows) {i j : Nat} {O : List Ope} {u : Nat} (hI : alI q w v (i, j, O, u)) (ci : i < w.length) (cj : j < v.length) (cx : w[i] ≠ v[j]) (c2 : dR q (w.drop i) (v.drop j) = dR q (w.drop (i + 1)) (v.drop (j + 1)) + q.c) (al : alignR q i (w.drop i) (v.drop j) = ⟨3, i, v[j]⟩ :: alignR q (i + 1) (w.drop (i + 1)) (v.drop (j + 1))) : AlRound n h q w v rows (i, j, O, u) := by
  intro Q
  have hl := hc.hl
  have hq := hc.hq
  have hw := hc.hw
  have hv := hc.hv
  have hNl := hc.hNl
  obtain ⟨hi, hj, hO, hOl, hu⟩ := hI
  simp only at hi hj hO hOl hu
  have c03 : (0 : Int) < ((3 : Nat) : Int) := by decide
  have c13 : (1 : Int) < ((3 : Nat) : Int) := by decide
  have c23 : (2 : Int) < ((3 : Nat) : Int) := by decide
  have c01 : (0 : Int) ≤ 1 := by decide
  have c02 : (0 : Int) ≤ 2 := by decide
  have t1 : (1 : Int).toNat = 1 := rfl
  have t2 : (2 : Int).toNat = 2 := rfl
  have i0 : (0 : Int) ≤ (i : Int) := by omega
  have j0 : (0 : Int) ≤ (j : Int) := by omega
  have wi1 : IntKind.i64.wrap ((i : Int) + 1) = ((i + 1 : Nat) : Int) := by rw [IntWalk.i64_in _ (by omega)]; omega
  have wj1 : IntKind.i64.wrap ((j : Int) + 1) = ((j + 1 : Nat) : Int) := by rw [IntWalk.i64_in _ (by omega)]; omega
  have iN : (i : Int) < (rows.length : Int) := by omega
  have hMl : ∀ i, (rowR q w v i).length = v.length + 1 := rowR_len q w v
  have jM : ∀ i, (j : Int) < ((rowR q w v i).length : Int) := fun i => by have := hMl i; omega
  have i5 : (0 : Int) ≤ ((i + 1 : Nat) : Int) := by omega
  have j5 : (0 : Int) ≤ ((j + 1 : Nat) : Int) := by omega
  have hRi := hc.hrows i hi
  have hcl : (cellsF opeD O).length = O.length * 3 := cellsF_len opeD opeD_cells O
  have hCt := take_all (cellsF opeD O) (k := O.length * 3) (by rw [hcl])
  have hfit : O.length * 3 ≤ (cellsF opeD O).length := by omega
  have hf24 : (O.length + 1) * 24 ≤ 140737488355328 := by omega
  have hr00 := al_row (q := q) (w := w) (v := v) i j hj
  have fi : (i : Int) < (w.length : Int) := by omega
  have i6 : ((i + 1 : Nat) : Int) < (rows.length : Int) := by omega
  have hR1 := hc.hrows (i + 1) (by omega)
  have hr10 := al_row (q := q) (w := w) (v := v) (i + 1) j hj
  have e0 := nth_ints w i ci
  have rg10 := dR_range hq (w.drop (i + 1)) (v.drop j)
  have ld1 : (w.drop (i + 1)).length ≤ 200 := by simp; omega
  have ld2 : (v.drop j).length ≤ 200 := by simp; omega
  have fj : (j : Int) < (v.length : Int) := by omega
  have j6 : ∀ i, ((j + 1 : Nat) : Int) < ((rowR q w v i).length : Int) := fun i => by have := hMl i; omega
  have hr11 := al_row (q := q) (w := w) (v := v) (i + 1) (j + 1) (by omega)
  have e1 := nth_ints v j cj
  have rg11 := dR_range hq (w.drop (i + 1)) (v.drop (j + 1))
  have ld3 : (v.drop (j + 1)).length ≤ 200 := by simp; omega
  generalize dR q (w.drop i) (v.drop j) = d00 at *
  generalize dR q (w.drop (i + 1)) (v.drop j) = d10 at *
  generalize dR q (w.drop (i + 1)) (v.drop (j + 1)) = d11 at *
  have q1 := hq
  obtain ⟨q1, q2, q3, q4, q5, q6⟩ := q1
  have u1 : IntKind.i64.wrap (d11 + q.c) = d11 + q.c := IntWalk.i64_in _ (by omega)
  have u2 : IntKind.i64.wrap (d10 + q.b) = d10 + q.b := IntWalk.i64_in _ (by omega)
  have bx : (w[i] == v[j]) = false := by simp [cx]
  have nx : (w[i] != v[j]) = true := by simp [cx]
  have b2 : (d00 == d11 + q.c) = true := by simp [c2]
  have eS : alS n h q w v rows (i, j, O, u) = St.mk n ([iD w, iD v, .top, .top, .top, .ptr (n + 5) 1 0, .top, .top, .top, .lst (rows.map iD), .ref 3 (n + 100) u 0 O.length, .int .i64 i, .int .i64 j] ++ List.replicate 183 .top) h
    (List.replicate 5 blk0 ++ [⟨1, .cells [.int .i64 q.a, .int .i64 q.b, .int .i64 q.c]⟩] ++ List.replicate 94 blk0 ++ [⟨u, .cells (cellsF opeD O)⟩] ++ List.replicate 95 blk0) := rfl
  rw [eS]
  unfold alBody
  simp -implicitDefEqProofs only [↓symPre, symPost, y_condP, y_condG, run, lver, minD, intsD, eqAll, tupD, splice, Nat.zero_add, Nat.add_zero, Nat.zero_mul, Nat.mul_one, Nat.one_mul, Nat.reduceAdd, Nat.reduceSub, Nat.reduceMul, Nat.reduceLT, Nat.reduceLeDiff, Nat.reduceEqDiff, true_and, and_true, true_implies, if_true, if_false, ite_true, reduceIte, ne_eq, not_false_eq_true, reduceCtorEq, forall_const, bne_self_eq_false, Bool.true_eq_false, Bool.false_eq_true, false_implies, and_self, implies_true, Int.toNat_zero, beq_self_eq_true, decide_true, decide_false, Bool.not_true, Bool.not_false, ↓y_call, List.length_map, i0, j0, fi, fj, iN, jM, i5, j5, hRi, hr00, wi1, wj1, srcOf, Nat.le_refl, hf24, hCt, hfit, Int.toNat_natCast, Int.le_refl, c03, c13, c23, c01, c02, t1, t2, i6, hR1, hr10, e0, u2, j6, hr11, e1, u1, bx, nx, b2]
  refine adrawq hmix [] ?_
  simp (maxSteps := 400000) -implicitDefEqProofs only [↓symPre, symPost, y_condP, y_condG, run, lver, minD, intsD, eqAll, tupD, splice, Nat.zero_add, Nat.add_zero, Nat.zero_mul, Nat.mul_one, Nat.one_mul, Nat.reduceAdd, Nat.reduceSub, Nat.reduceMul, Nat.reduceLT, Nat.reduceLeDiff, Nat.reduceEqDiff, true_and, and_true, true_implies, if_true, if_false, ite_true, reduceIte, ne_eq, not_false_eq_true, reduceCtorEq, forall_const, bne_self_eq_false, Bool.true_eq_false, Bool.false_eq_true, false_implies, and_self, implies_true, Int.toNat_zero, beq_self_eq_true, decide_true, decide_false, Bool.not_true, Bool.not_false, ↓y_call, ↓drawPre, drawPost, isCall, isNew, isEff, Option.toList, or_false, false_or, cond_true, cond_false, not_true_eq_false, or_true, true_or, Nat.add_left_cancel_iff, Bool.false_eq_true, List.length_map, i0, j0, fi, fj, iN, jM, i5, j5, hRi, hr00, wi1, wj1, srcOf, Nat.le_refl, hf24, hCt, hfit, Int.toNat_natCast, Int.le_refl, c03, c13, c23, c01, c02, t1, t2, i6, hR1, hr10, e0, u2, j6, hr11, e1, u1, bx, nx, b2]
  refine adrawq hmix [] ?_
  simp (maxSteps := 400000) -implicitDefEqProofs only [↓symPre, symPost, y_condP, y_condG, run, lver, minD, intsD, eqAll, tupD, splice, Nat.zero_add, Nat.add_zero, Nat.zero_mul, Nat.mul_one, Nat.one_mul, Nat.reduceAdd, Nat.reduceSub, Nat.reduceMul, Nat.reduceLT, Nat.reduceLeDiff, Nat.reduceEqDiff, true_and, and_true, true_implies, if_true, if_false, ite_true, reduceIte, ne_eq, not_false_eq_true, reduceCtorEq, forall_const, bne_self_eq_false, Bool.true_eq_false, Bool.false_eq_true, false_implies, and_self, implies_true, Int.toNat_zero, beq_self_eq_true, decide_true, decide_false, Bool.not_true, Bool.not_false, ↓y_call, ↓drawPre, drawPost, isCall, isNew, isEff, Option.toList, or_false, false_or, cond_true, cond_false, not_true_eq_false, or_true, true_or, Nat.add_left_cancel_iff, Bool.false_eq_true, List.length_map, i0, j0, fi, fj, iN, jM, i5, j5, hRi, hr00, wi1, wj1, srcOf, Nat.le_refl, hf24, hCt, hfit, Int.toNat_natCast, Int.le_refl, c03, c13, c23, c01, c02, t1, t2, i6, hR1, hr10, e0, u2, j6, hr11, e1, u1, bx, nx, b2]

  refine ⟨by rintro c (rfl | rfl | rfl) <;> rfl, al_done (b' := (i + 1, j + 1, O ++ [⟨3, i, v[j]⟩], u + 1)) ⟨by simp only; omega, by simp only; omega, ?_, by simp only [List.length_append, List.length_cons, List.length_nil]; omega, by simp only; omega⟩ (by simp only [alM]; omega) ?_⟩
  · simp only [List.append_assoc, List.cons_append, List.nil_append]
    rw [← hO, al]
  unfold alS
  simp only [← ope_one_cells, List.length_append, List.length_cons, List.length_nil, Nat.zero_add]
  refine le_to (List.replicate 5 .hole ++ [.old 5] ++ List.replicate 94 .hole ++ [.old 100] ++ List.replicate 95 .hole) hl rfl ?_ ?_ <;> ((try simp only [y_blk_end, y_blk_hole, y_blk_nil, y_blk_old, y_wkl_end, y_wkl_top, List.replicate, List.cons_append, List.nil_append, and_true, true_and]) <;> (repeat' (first | apply And.intro | apply y_wkl | refine Exists.intro _ (And.intro rfl ?_))) <;> (try first | exact trivial | exact Wk.top _ | exact wk_int rfl | exact wk_bool rfl | exact wk_ptr rfl rfl rfl rfl | exact wk_ref rfl rfl rfl rfl rfl | exact wk_nil rfl rfl rfl | exact wk_ref rfl rfl rfl rfl (by simp) | exact wk_ref rfl rfl rfl rfl (by simp; omega) | exact wk_old (by assumption) (by simp) | exact wk_eq rfl (by first | exact Bd.int _ _ | exact Bd.bool _ | exact Bd.abool | exact Bd.nils | exact Bd.emp | exact Bd.nilp | exact Bd.nilfn | assumption | exact low_trees _ _ | exact low_treeD _ _ | exact low_ints _ _) | exact Nat.le_refl _ | exact wk_int (by simp) | exact wk_int (by omega) | exact Nat.succ_le_succ (Nat.zero_le _) | exact Nat.le_add_left _ _ | omega))
  · exact WkL.app (WkL.low (low_cellsF opeD (low_opeD n) O)) (y_wkl (wk_int rfl) (y_wkl (wk_int rfl) (y_wkl (wk_int rfl) trivial)))
  · exact .low _ (low_lstF iD (low_iDs n) _)

set_option maxHeartbeats 8000000 in
theorem al_del1 {n : Nat} {h : Heap} {q : Co} {w v : List Int} {rows : List (List Int)} (hc : AlC n h q w v rows) {i j : Nat} {O : List Ope} {u : Nat} (hI : alI q w v (i, j, O, u)) (ci : i < w.length) (cj : j < v.length) (cx : w[i] = v[j]) (c1 : dR q (w.drop i) (v.drop j) ≠ dR q (w.drop (i + 1)) (v.drop (j + 1))) (c3 : dR q (w.drop i) (v.drop j) = dR q (w.drop (i + 1)) (v.drop j) + q.b) (al : alignR q i (w.drop i) (v.drop j) = ⟨2, i, w[i]⟩ :: alignR q (i + 1) (w.drop (i + 1)) (v.drop j)) : AlRound n h q w v rows (i, j, O, u) := by
  intro Q
  have hl := hc.hl
  have hq := hc.hq
  have hw := hc.hw
  have hv := hc.hv
  have hNl := hc.hNl
  obtain ⟨hi, hj, hO, hOl, hu⟩ := hI
  simp only at hi hj hO hOl hu
  have c03 : (0 : Int) < ((3 : Nat) : Int) := by decide
  have c13 : (1 : Int) < ((3 : Nat) : Int) := by decide
  have c23 : (2 : Int) < ((3 : Nat) : Int) := by decide
  have c01 : (0 : Int) ≤ 1 := by decide
  have c02 : (0 : Int) ≤ 2 := by decide
  have t1 : (1 : Int).toNat = 1 := rfl
  have t2 : (2 : Int).toNat = 2 := rfl
  have i0 : (0 : Int) ≤ (i : Int) := by omega
  have j0 : (0 : Int) ≤ (j : Int) := by omega
  have wi1 : IntKind.i64.wrap ((i : Int) + 1) = ((i + 1 : Nat) : Int) := by rw [IntWalk.i64_in _ (by omega)]; omega
  have wj1 : IntKind.i64.wrap ((j : Int) + 1) = ((j + 1 : Nat) : Int) := by rw [IntWalk.i64_in _ (by omega)]; omega
  have iN : (i : Int) < (rows.length : Int) := by omega
  have hMl : ∀ i, (rowR q w v i).length = v.length + 1 := rowR_len q w v
  have jM : ∀ i, (j : Int) < ((rowR q w v i).length : Int) := fun i => by have := hMl i; omega
  have i5 : (0 : Int) ≤ ((i + 1 : Nat) : Int) := by omega
  have j5 : (0 : Int) ≤ ((j + 1 : Nat) : Int) := by omega
  have hRi := hc.hrows i hi
  have hcl : (cellsF opeD O).length = O.length * 3 := cellsF_len opeD opeD_cells O
  have hCt := take_all (cellsF opeD O) (k := O.length * 3) (by rw [hcl])
  have hfit : O.length * 3 ≤ (cellsF opeD O).length := by omega
  have hf24 : (O.length + 1) * 24 ≤ 140737488355328 := by omega
  have hr00 := al_row (q := q) (w := w) (v := v) i j hj
  have fi : (i : Int) < (w.length : Int) := by omega
  have i6 : ((i + 1 : Nat) : Int) < (rows.length : Int) := by omega
  have hR1 := hc.hrows (i + 1) (by omega)
  have hr10 := al_row (q := q) (w := w) (v := v) (i + 1) j hj
  have e0 := nth_ints w i ci
  have rg10 := dR_range hq (w.drop (i + 1)) (v.drop j)
  have ld1 : (w.drop (i + 1)).length ≤ 200 := by simp; omega
  have ld2 : (v.drop j).length ≤ 200 := by simp; omega
  have fj : (j : Int) < (v.length : Int) := by omega
  have j6 : ∀ i, ((j + 1 : Nat) : Int) < ((rowR q w v i).length : Int) := fun i => by have := hMl i; omega
  have hr11 := al_row (q := q) (w := w) (v := v) (i + 1) (j + 1) (by omega)
  have e1 := nth_ints v j cj
  have rg11 := dR_range hq (w.drop (i + 1)) (v.drop (j + 1))
  have ld3 : (v.drop (j + 1)).length ≤ 200 := by simp; omega
  generalize dR q (w.drop i) (v.drop j) = d00 at *
  generalize dR q (w.drop (i + 1)) (v.drop j) = d10 at *
  generalize dR q (w.drop (i + 1)) (v.drop (j + 1)) = d11 at *
  have q1 := hq
  obtain ⟨q1, q2, q3, q4, q5, q6⟩ := q1
  have u1 : IntKind.i64.wrap (d11 + q.c) = d11 + q.c := IntWalk.i64_in _ (by omega)
  have u2 : IntKind.i64.wrap (d10 + q.b) = d10 + q.b := IntWalk.i64_in _ (by omega)
  have bx : (w[i] == v[j]) = true := by simp [cx]
  have nx : (w[i] != v[j]) = false := by simp [cx]
  have b1 : (d00 == d11) = false := by simp [c1]
  have b3 : (d00 == d10 + q.b) = true := by simp [c3]
  have eS : alS n h q w v rows (i, j, O, u) = St.mk n ([iD w, iD v, .top, .top, .top, .ptr (n + 5) 1 0, .top, .top, .top, .lst (rows.map iD), .ref 3 (n + 100) u 0 O.length, .int .i64 i, .int .i64 j] ++ List.replicate 183 .top) h
    (List.replicate 5 blk0 ++ [⟨1, .cells [.int .i64 q.a, .int .i64 q.b, .int .i64 q.c]⟩] ++ List.replicate 94 blk0 ++ [⟨u, .cells (cellsF opeD O)⟩] ++ List.replicate 95 blk0) := rfl
  rw [eS]
  unfold alBody
  simp -implicitDefEqProofs only [↓symPre, symPost, y_condP, y_condG, run, lver, minD, intsD, eqAll, tupD, splice, Nat.zero_add, Nat.add_zero, Nat.zero_mul, Nat.mul_one, Nat.one_mul, Nat.reduceAdd, Nat.reduceSub, Nat.reduceMul, Nat.reduceLT, Nat.reduceLeDiff, Nat.reduceEqDiff, true_and, and_true, true_implies, if_true, if_false, ite_true, reduceIte, ne_eq, not_false_eq_true, reduceCtorEq, forall_const, bne_self_eq_false, Bool.true_eq_false, Bool.false_eq_true, false_implies, and_self, implies_true, Int.toNat_zero, beq_self_eq_true, decide_true, decide_false, Bool.not_true, Bool.not_false, ↓y_call, List.length_map, i0, j0, fi, fj, iN, jM, i5, j5, hRi, hr00, wi1, wj1, srcOf, Nat.le_refl, hf24, hCt, hfit, Int.toNat_natCast, Int.le_refl, c03, c13, c23, c01, c02, t1, t2, i6, hR1, hr10, e0, u2, j6, hr11, e1, u1, bx, nx, b1, b3]
  refine adrawq hmix [] ?_
  simp (maxSteps := 400000) -implicitDefEqProofs only [↓symPre, symPost, y_condP, y_condG, run, lver, minD, intsD, eqAll, tupD, splice, Nat.zero_add, Nat.add_zero, Nat.zero_mul, Nat.mul_one, Nat.one_mul, Nat.reduceAdd, Nat.reduceSub, Nat.reduceMul, Nat.reduceLT, Nat.reduceLeDiff, Nat.reduceEqDiff, true_and, and_true, true_implies, if_true, if_false, ite_true, reduceIte, ne_eq, not_false_eq_true, reduceCtorEq, forall_const, bne_self_eq_false, Bool.true_eq_false, Bool.false_eq_true, false_implies, and_self, implies_true, Int.toNat_zero, beq_self_eq_true, decide_true, decide_false, Bool.not_true, Bool.not_false, ↓y_call, ↓drawPre, drawPost, isCall, isNew, isEff, Option.toList, or_false, false_or, cond_true, cond_false, not_true_eq_false, or_true, true_or, Nat.add_left_cancel_iff, Bool.false_eq_true, List.length_map, i0, j0, fi, fj, iN, jM, i5, j5, hRi, hr00, wi1, wj1, srcOf, Nat.le_refl, hf24, hCt, hfit, Int.toNat_natCast, Int.le_refl, c03, c13, c23, c01, c02, t1, t2, i6, hR1, hr10, e0, u2, j6, hr11, e1, u1, bx, nx, b1, b3]
  refine adrawq hmix [] ?_
  simp (maxSteps := 400000) -implicitDefEqProofs only [↓symPre, symPost, y_condP, y_condG, run, lver, minD, intsD, eqAll, tupD, splice, Nat.zero_add, Nat.add_zero, Nat.zero_mul, Nat.mul_one, Nat.one_mul, Nat.reduceAdd, Nat.reduceSub, Nat.reduceMul, Nat.reduceLT, Nat.reduceLeDiff, Nat.reduceEqDiff, true_and, and_true, true_implies, if_true, if_false, ite_true, reduceIte, ne_eq, not_false_eq_true, reduceCtorEq, forall_const, bne_self_eq_false, Bool.true_eq_false, Bool.false_eq_true, false_implies, and_self, implies_true, Int.toNat_zero, beq_self_eq_true, decide_true, decide_false, Bool.not_true, Bool.not_false, ↓y_call, ↓drawPre, drawPost, isCall, isNew, isEff, Option.toList, or_false, false_or, cond_true, cond_false, not_true_eq_false, or_true, true_or, Nat.add_left_cancel_iff, Bool.false_eq_true, List.length_map, i0, j0, fi, fj, iN, jM, i5, j5, hRi, hr00, wi1, wj1, srcOf, Nat.le_refl, hf24, hCt, hfit, Int.toNat_natCast, Int.le_refl, c03, c13, c23, c01, c02, t1, t2, i6, hR1, hr10, e0, u2, j6, hr11, e1, u1, bx, nx, b1, b3]
  refine adrawq hmix [] ?_
  simp (maxSteps := 400000) -implicitDefEqProofs only [↓symPre, symPost, y_condP, y_condG, run, lver, minD, intsD, eqAll, tupD, splice, Nat.zero_add, Nat.add_zero, Nat.zero_mul, Nat.mul_one, Nat.one_mul, Nat.reduceAdd, Nat.reduceSub, Nat.reduceMul, Nat.reduceLT, Nat.reduceLeDiff, Nat.reduceEqDiff, true_and, and_true, true_implies, if_true, if_false, ite_true, reduceIte, ne_eq, not_false_eq_true, reduceCtorEq, forall_const, bne_self_eq_false, Bool.true_eq_false, Bool.false_eq_true, false_implies, and_self, implies_true, Int.toNat_zero, beq_self_eq_true, decide_true, decide_false, Bool.not_true, Bool.not_false, ↓y_call, ↓drawPre, drawPost, isCall, isNew, isEff, Option.toList, or_false, false_or, cond_true, cond_false, not_true_eq_false, or_true, true_or, Nat.add_left_cancel_iff, Bool.false_eq_true, List.length_map, i0, j0, fi, fj, iN, jM, i5, j5, hRi, hr00, wi1, wj1, srcOf, Nat.le_refl, hf24, hCt, hfit, Int.toNat_natCast, Int.le_refl, c03, c13, c23, c01, c02, t1, t2, i6, hR1, hr10, e0, u2, j6, hr11, e1, u1, bx, nx, b1, b3]

  refine ⟨by rintro c (rfl | rfl | rfl) <;> rfl, al_done (b' := (i + 1, j, O ++ [⟨2, i, w[i]⟩], u + 1)) ⟨by simp only; omega, by simp only; omega, ?_, by simp only [List.length_append, List.length_cons, List.length_nil]; omega, by simp only; omega⟩ (by simp only [alM]; omega) ?_⟩
  · simp only [List.append_assoc, List.cons_append, List.nil_append]
    rw [← hO, al]
  unfold alS
  simp only [← ope_one_cells, List.length_append, List.length_cons, List.length_nil, Nat.zero_add]
  refine le_to (List.replicate 5 .hole ++ [.old 5] ++ List.replicate 94 .hole ++ [.old 100] ++ List.replicate 95 .hole) hl rfl ?_ ?_ <;> ((try simp only [y_blk_end, y_blk_hole, y_blk_nil, y_blk_old, y_wkl_end, y_wkl_top, List.replicate, List.cons_append, List.nil_append, and_true, true_and]) <;> (repeat' (first | apply And.intro | apply y_wkl | refine Exists.intro _ (And.intro rfl ?_))) <;> (try first | exact trivial | exact Wk.top _ | exact wk_int rfl | exact wk_bool rfl | exact wk_ptr rfl rfl rfl rfl | exact wk_ref rfl rfl rfl rfl rfl | exact wk_nil rfl rfl rfl | exact wk_ref rfl rfl rfl rfl (by simp) | exact wk_ref rfl rfl rfl rfl (by simp; omega) | exact wk_old (by assumption) (by simp) | exact wk_eq rfl (by first | exact Bd.int _ _ | exact Bd.bool _ | exact Bd.abool | exact Bd.nils | exact Bd.emp | exact Bd.nilp | exact Bd.nilfn | assumption | exact low_trees _ _ | exact low_treeD _ _ | exact low_ints _ _) | exact Nat.le_refl _ | exact wk_int (by simp) | exact wk_int (by omega) | exact Nat.succ_le_succ (Nat.zero_le _) | exact Nat.le_add_left _ _ | omega))
  · exact WkL.app (WkL.low (low_cellsF opeD (low_opeD n) O)) (y_wkl (wk_int rfl) (y_wkl (wk_int rfl) (y_wkl (wk_int rfl) trivial)))
  · exact .low _ (low_lstF iD (low_iDs n) _)

set_option maxHeartbeats 8000000 in
theorem al_del2 {n : Nat} {h : Heap} {q : Co} {w v : List Int} {rows : List (List Int)} (hc : AlC n h q w v rows) {i j : Nat} {O : List Ope} {u : Nat} (hI : alI q w v (i, j, O, u)) (ci : i < w.length) (cj : j < v.length) (cx : w[i] ≠ v[j]) (c2 : dR q (w.drop i) (v.drop j) ≠ dR q (w.drop (i + 1)) (v.drop (j + 1)) + q.c) (c3 : dR q (w.drop i) (v.drop j) = dR q (w.drop (i + 1)) (v.drop j) + q.b) (al : alignR q i (w.drop i) (v.drop j) = ⟨2, i, w[i]⟩ :: alignR q (i + 1) (w.drop (i + 1)) (v.drop j)) : AlRound n h q w v rows (i, j, O, u) := by
  intro Q
  have hl := hc.hl
  have hq := hc.hq
  have hw := hc.hw
  have hv := hc.hv
  have hNl := hc.hNl
  obtain ⟨hi, hj, hO, hOl, hu⟩ := hI
  simp only at hi hj hO hOl hu
  have c03 : (0 : Int) < ((3 : Nat) : Int) := by decide
  have c13 : (1 : Int) < ((3 : Nat) : Int) := by decide
  have c23 : (2 : Int) < ((3 : Nat) : Int) := by decide
  have c01 : (0 : Int) ≤ 1 := by decide
  have c02 : (0 : Int) ≤ 2 := by decide
  have t1 : (1 : Int).toNat = 1 := rfl
  have t2 : (2 : Int).toNat = 2 := rfl
  have i0 : (0 : Int) ≤ (i : Int) := by omega
  have j0 : (0 : Int) ≤ (j : Int) := by omega
  have wi1 : IntKind.i64.wrap ((i : Int) + 1) = ((i + 1 : Nat) : Int) := by rw [IntWalk.i64_in _ (by omega)]; omega
  have wj1 : IntKind.i64.wrap ((j : Int) + 1) = ((j + 1 : Nat) : Int) := by rw [IntWalk.i64_in _ (by omega)]; omega
  have iN : (i : Int) < (rows.length : Int) := by omega
  have hMl : ∀ i, (rowR q w v i).length = v.length + 1 := rowR_len q w v
  have jM : ∀ i, (j : Int) < ((rowR q w v i).length : Int) := fun i => by have := hMl i; omega
  have i5 : (0 : Int) ≤ ((i + 1 : Nat) : Int) := by omega
  have j5 : (0 : Int) ≤ ((j + 1 : Nat) : Int) := by omega
  have hRi := hc.hrows i hi
  have hcl : (cellsF opeD O).length = O.length * 3 := cellsF_len opeD opeD_cells O
  have hCt := take_all (cellsF opeD O) (k := O.length * 3) (by rw [hcl])
  have hfit : O.length * 3 ≤ (cellsF opeD O).length := by omega
  have hf24 : (O.length + 1) * 24 ≤ 140737488355328 := by omega
  have hr00 := al_row (q := q) (w := w) (v := v) i j hj
  have fi : (i : Int) < (w.length : Int) := by omega
  have i6 : ((i + 1 : Nat) : Int) < (rows.length : Int) := by omega
  have hR1 := hc.hrows (i + 1) (by omega)
  have hr10 := al_row (q := q) (w := w) (v := v) (i + 1) j hj
  have e0 := nth_ints w i ci
  have rg10 := dR_range hq (w.drop (i + 1)) (v.drop j)
  have ld1 : (w.drop (i + 1)).length ≤ 200 := by simp; omega
  have ld2 : (v.drop j).length ≤ 200 := by simp; omega
  have fj : (j : Int) < (v.length : Int) := by omega
  have j6 : ∀ i, ((j + 1 : Nat) : Int) < ((rowR q w v i).length : Int) := fun i => by have := hMl i; omega
  have hr11 := al_row (q := q) (w := w) (v := v) (i + 1) (j + 1) (by omega)
  have e1 := nth_ints v j cj
  have rg11 := dR_range hq (w.drop (i + 1)) (v.drop (j + 1))
  have ld3 : (v.drop (j + 1)).length ≤ 200 := by simp; omega
  generalize dR q (w.drop i) (v.drop j) = d00 at *
  generalize dR q (w.drop (i + 1)) (v.drop j) = d10 at *
  generalize dR q (w.drop (i + 1)) (v.drop (j + 1)) = d11 at *
  have q1 := hq
  obtain ⟨q1, q2, q3, q4, q5, q6⟩ := q1
  have u1 : IntKind.i64.wrap (d11 + q.c) = d11 + q.c := IntWalk.i64_in _ (by omega)
  have u2 : IntKind.i64.wrap (d10 + q.b) = d10 + q.b := IntWalk.i64_in _ (by omega)
  have bx : (w[i] == v[j]) = false := by simp [cx]
  have nx : (w[i] != v[j]) = true := by simp [cx]
  have b2 : (d00 == d11 + q.c) = false := by simp [c2]
  have b3 : (d00 == d10 + q.b) = true := by simp [c3]
  have eS : alS n h q w v rows (i, j, O, u) = St.mk n ([iD w, iD v, .top, .top, .top, .ptr (n + 5) 1 0, .top, .top, .top, .lst (rows.map iD), .ref 3 (n + 100) u 0 O.length, .int .i64 i, .int .i64 j] ++ List.replicate 183 .top) h
    (List.replicate 5 blk0 ++ [⟨1, .cells [.int .i64 q.a, .int .i64 q.b, .int .i64 q.c]⟩] ++ List.replicate 94 blk0 ++ [⟨u, .cells (cellsF opeD O)⟩] ++ List.replicate 95 blk0) := rfl
  rw [eS]
  unfold alBody
  simp -implicitDefEqProofs only [↓symPre, symPost, y_condP, y_condG, run, lver, minD, intsD, eqAll, tupD, splice, Nat.zero_add, Nat.add_zero, Nat.zero_mul, Nat.mul_one, Nat.one_mul, Nat.reduceAdd, Nat.reduceSub, Nat.reduceMul, Nat.reduceLT, Nat.reduceLeDiff, Nat.reduceEqDiff, true_and, and_true, true_implies, if_true, if_false, ite_true, reduceIte, ne_eq, not_false_eq_true, reduceCtorEq, forall_const, bne_self_eq_false, Bool.true_eq_false, Bool.false_eq_true, false_implies, and_self, implies_true, Int.toNat_zero, beq_self_eq_true, decide_true, decide_false, Bool.not_true, Bool.not_false, ↓y_call, List.length_map, i0, j0, fi, fj, iN, jM, i5, j5, hRi, hr00, wi1, wj1, srcOf, Nat.le_refl, hf24, hCt, hfit, Int.toNat_natCast, Int.le_refl, c03, c13, c23, c01, c02, t1, t2, i6, hR1, hr10, e0, u2, j6, hr11, e1, u1, bx, nx, b2, b3]
  refine adrawq hmix [] ?_
  simp (maxSteps := 400000) -implicitDefEqProofs only [↓symPre, symPost, y_condP, y_condG, run, lver, minD, intsD, eqAll, tupD, splice, Nat.zero_add, Nat.add_zero, Nat.zero_mul, Nat.mul_one, Nat.one_mul, Nat.reduceAdd, Nat.reduceSub, Nat.reduceMul, Nat.reduceLT, Nat.reduceLeDiff, Nat.reduceEqDiff, true_and, and_true, true_implies, if_true, if_false, ite_true, reduceIte, ne_eq, not_false_eq_true, reduceCtorEq, forall_const, bne_self_eq_false, Bool.true_eq_false, Bool.false_eq_true, false_implies, and_self, implies_true, Int.toNat_zero, beq_self_eq_true, decide_true, decide_false, Bool.not_true, Bool.not_false, ↓y_call, ↓drawPre, drawPost, isCall, isNew, isEff, Option.toList, or_false, false_or, cond_true, cond_false, not_true_eq_false, or_true, true_or, Nat.add_left_cancel_iff, Bool.false_eq_true, List.length_map, i0, j0, fi, fj, iN, jM, i5, j5, hRi, hr00, wi1, wj1, srcOf, Nat.le_refl, hf24, hCt, hfit, Int.toNat_natCast, Int.le_refl, c03, c13, c23, c01, c02, t1, t2, i6, hR1, hr10, e0, u2, j6, hr11, e1, u1, bx, nx, b2, b3]
  refine adrawq hmix [] ?_
  simp (maxSteps := 400000) -implicitDefEqProofs only [↓symPre, symPost, y_condP, y_condG, run, lver, minD, intsD, eqAll, tupD, splice, Nat.zero_add, Nat.add_zero, Nat.zero_mul, Nat.mul_one, Nat.one_mul, Nat.reduceAdd, Nat.reduceSub, Nat.reduceMul, Nat.reduceLT, Nat.reduceLeDiff, Nat.reduceEqDiff, true_and, and_true, true_implies, if_true, if_false, ite_true, reduceIte, ne_eq, not_false_eq_true, reduceCtorEq, forall_const, bne_self_eq_false, Bool.true_eq_false, Bool.false_eq_true, false_implies, and_self, implies_true, Int.toNat_zero, beq_self_eq_true, decide_true, decide_false, Bool.not_true, Bool.not_false, ↓y_call, ↓drawPre, drawPost, isCall, isNew, isEff, Option.toList, or_false, false_or, cond_true, cond_false, not_true_eq_false, or_true, true_or, Nat.add_left_cancel_iff, Bool.false_eq_true, List.length_map, i0, j0, fi, fj, iN, jM, i5, j5, hRi, hr00, wi1, wj1, srcOf, Nat.le_refl, hf24, hCt, hfit, Int.toNat_natCast, Int.le_refl, c03, c13, c23, c01, c02, t1, t2, i6, hR1, hr10, e0, u2, j6, hr11, e1, u1, bx, nx, b2, b3]
  refine adrawq hmix [] ?_
  simp (maxSteps := 400000) -implicitDefEqProofs only [↓symPre, symPost, y_condP, y_condG, run, lver, minD, intsD, eqAll, tupD, splice, Nat.zero_add, Nat.add_zero, Nat.zero_mul, Nat.mul_one, Nat.one_mul, Nat.reduceAdd, Nat.reduceSub, Nat.reduceMul, Nat.reduceLT, Nat.reduceLeDiff, Nat.reduceEqDiff, true_and, and_true, true_implies, if_true, if_false, ite_true, reduceIte, ne_eq, not_false_eq_true, reduceCtorEq, forall_const, bne_self_eq_false, Bool.true_eq_false, Bool.false_eq_true, false_implies, and_self, implies_true, Int.toNat_zero, beq_self_eq_true, decide_true, decide_false, Bool.not_true, Bool.not_false, ↓y_call, ↓drawPre, drawPost, isCall, isNew, isEff, Option.toList, or_false, false_or, cond_true, cond_false, not_true_eq_false, or_true, true_or, Nat.add_left_cancel_iff, Bool.false_eq_true, List.length_map, i0, j0, fi, fj, iN, jM, i5, j5, hRi, hr00, wi1, wj1, srcOf, Nat.le_refl, hf24, hCt, hfit, Int.toNat_natCast, Int.le_refl, c03, c13, c23, c01, c02, t1, t2, i6, hR1, hr10, e0, u2, j6, hr11, e1, u1, bx, nx, b2, b3]

  refine ⟨by rintro c (rfl | rfl | rfl) <;> rfl, al_done (b' := (i + 1, j, O ++ [⟨2, i, w[i]⟩], u + 1)) ⟨by simp only; omega, by simp only; omega, ?_, by simp only [List.length_append, List.length_cons, List.length_nil]; omega, by simp only; omega⟩ (by simp only [alM]; omega) ?_⟩
  · simp only [List.append_assoc, List.cons_append, List.nil_append]
    rw [← hO, al]
  unfold alS
  simp only [← ope_one_cells, List.length_append, List.length_cons, List.length_nil, Nat.zero_add]
  refine le_to (List.replicate 5 .hole ++ [.old 5] ++ List.replicate 94 .hole ++ [.old 100] ++ List.replicate 95 .hole) hl rfl ?_ ?_ <;> ((try simp only [y_blk_end, y_blk_hole, y_blk_nil, y_blk_old, y_wkl_end, y_wkl_top, List.replicate, List.cons_append, List.nil_append, and_true, true_and]) <;> (repeat' (first | apply And.intro | apply y_wkl | refine Exists.intro _ (And.intro rfl ?_))) <;> (try first | exact trivial | exact Wk.top _ | exact wk_int rfl | exact wk_bool rfl | exact wk_ptr rfl rfl rfl rfl | exact wk_ref rfl rfl rfl rfl rfl | exact wk_nil rfl rfl rfl | exact wk_ref rfl rfl rfl rfl (by simp) | exact wk_ref rfl rfl rfl rfl (by simp; omega) | exact wk_old (by assumption) (by simp) | exact wk_eq rfl (by first | exact Bd.int _ _ | exact Bd.bool _ | exact Bd.abool | exact Bd.nils | exact Bd.emp | exact Bd.nilp | exact Bd.nilfn | assumption | exact low_trees _ _ | exact low_treeD _ _ | exact low_ints _ _) | exact Nat.le_refl _ | exact wk_int (by simp) | exact wk_int (by omega) | exact Nat.succ_le_succ (Nat.zero_le _) | exact Nat.le_add_left _ _ | omega))
  · exact WkL.app (WkL.low (low_cellsF opeD (low_opeD n) O)) (y_wkl (wk_int rfl) (y_wkl (wk_int rfl) (y_wkl (wk_int rfl) trivial)))
  · exact .low _ (low_lstF iD (low_iDs n) _)

set_option maxHeartbeats 8000000 in
theorem al_ins1 {n : Nat} {h : Heap} {q : Co} {w v : List Int} {rows : List (List Int)} (hc : AlC n h q w v rows) {i j : Nat} {O : List Ope} {u : Nat} (hI : alI q w v (i, j, O, u)) (ci : i < w.length) (cj : j < v.length) (cx : w[i] = v[j]) (c1 : dR q (w.drop i) (v.drop j) ≠ dR q (w.drop (i + 1)) (v.drop (j + 1))) (c3 : dR q (w.drop i) (v.drop j) ≠ dR q (w.drop (i + 1)) (v.drop j) + q.b) (al : alignR q i (w.drop i) (v.drop j) = ⟨1, i, v[j]⟩ :: alignR q i (w.drop i) (v.drop (j + 1))) : AlRound n h q w v rows (i, j, O, u) := by
  intro Q
  have hl := hc.hl
  have hq := hc.hq
  have hw := hc.hw
  have hv := hc.hv
  have hNl := hc.hNl
  obtain ⟨hi, hj, hO, hOl, hu⟩ := hI
  simp only at hi hj hO hOl hu
  have c03 : (0 : Int) < ((3 : Nat) : Int) := by decide
  have c13 : (1 : Int) < ((3 : Nat) : Int) := by decide
  have c23 : (2 : Int) < ((3 : Nat) : Int) := by decide
  have c01 : (0 : Int) ≤ 1 := by decide
  have c02 : (0 : Int) ≤ 2 := by decide
  have t1 : (1 : Int).toNat = 1 := rfl
  have t2 : (2 : Int).toNat = 2 := rfl
  have i0 : (0 : Int) ≤ (i : Int) := by omega
  have j0 : (0 : Int) ≤ (j : Int) := by omega
  have wi1 : IntKind.i64.wrap ((i : Int) + 1) = ((i + 1 : Nat) : Int) := by rw [IntWalk.i64_in _ (by omega)]; omega
  have wj1 : IntKind.i64.wrap ((j : Int) + 1) = ((j + 1 : Nat) : Int) := by rw [IntWalk.i64_in _ (by omega)]; omega
  have iN : (i : Int) < (rows.length : Int) := by omega
  have hMl : ∀ i, (rowR q w v i).length = v.length + 1 := rowR_len q w v
  have jM : ∀ i, (j : Int) < ((rowR q w v i).length : Int) := fun i => by have := hMl i; omega
  have i5 : (0 : Int) ≤ ((i + 1 : Nat) : Int) := by omega
  have j5 : (0 : Int) ≤ ((j + 1 : Nat) : Int) := by omega
  have hRi := hc.hrows i hi
  have hcl : (cellsF opeD O).length = O.length * 3 := cellsF_len opeD opeD_cells O
  have hCt := take_all (cellsF opeD O) (k := O.length * 3) (by rw [hcl])
  have hfit : O.length * 3 ≤ (cellsF opeD O).length := by omega
  have hf24 : (O.length + 1) * 24 ≤ 140737488355328 := by omega
  have hr00 := al_row (q := q) (w := w) (v := v) i j hj
  have fi : (i : Int) < (w.length : Int) := by omega
  have i6 : ((i + 1 : Nat) : Int) < (rows.length : Int) := by omega
  have hR1 := hc.hrows (i + 1) (by omega)
  have hr10 := al_row (q := q) (w := w) (v := v) (i + 1) j hj
  have e0 := nth_ints w i ci
  have rg10 := dR_range hq (w.drop (i + 1)) (v.drop j)
  have ld1 : (w.drop (i + 1)).length ≤ 200 := by simp; omega
  have ld2 : (v.drop j).length ≤ 200 := by simp; omega
  have fj : (j : Int) < (v.length : Int) := by omega
  have j6 : ∀ i, ((j + 1 : Nat) : Int) < ((rowR q w v i).length : Int) := fun i => by have := hMl i; omega
  have hr11 := al_row (q := q) (w := w) (v := v) (i + 1) (j + 1) (by omega)
  have e1 := nth_ints v j cj
  have rg11 := dR_range hq (w.drop (i + 1)) (v.drop (j + 1))
  have ld3 : (v.drop (j + 1)).length ≤ 200 := by simp; omega
  generalize dR q (w.drop i) (v.drop j) = d00 at *
  generalize dR q (w.drop (i + 1)) (v.drop j) = d10 at *
  generalize dR q (w.drop (i + 1)) (v.drop (j + 1)) = d11 at *
  have q1 := hq
  obtain ⟨q1, q2, q3, q4, q5, q6⟩ := q1
  have u1 : IntKind.i64.wrap (d11 + q.c) = d11 + q.c := IntWalk.i64_in _ (by omega)
  have u2 : IntKind.i64.wrap (d10 + q.b) = d10 + q.b := IntWalk.i64_in _ (by omega)
  have bx : (w[i] == v[j]) = true := by simp [cx]
  have nx : (w[i] != v[j]) = false := by simp [cx]
  have b1 : (d00 == d11) = false := by simp [c1]
  have b3 : (d00 == d10 + q.b) = false := by simp [c3]
  have eS : alS n h q w v rows (i, j, O, u) = St.mk n ([iD w, iD v, .top, .top, .top, .ptr (n + 5) 1 0, .top, .top, .top, .lst (rows.map iD), .ref 3 (n + 100) u 0 O.length, .int .i64 i, .int .i64 j] ++ List.replicate 183 .top) h
    (List.replicate 5 blk0 ++ [⟨1, .cells [.int .i64 q.a, .int .i64 q.b, .int .i64 q.c]⟩] ++ List.replicate 94 blk0 ++ [⟨u, .cells (cellsF opeD O)⟩] ++ List.replicate 95 blk0) := rfl
  rw [eS]
  unfold alBody
  simp -implicitDefEqProofs only [↓symPre, symPost, y_condP, y_condG, run, lver, minD, intsD, eqAll, tupD, splice, Nat.zero_add, Nat.add_zero, Nat.zero_mul, Nat.mul_one, Nat.one_mul, Nat.reduceAdd, Nat.reduceSub, Nat.reduceMul, Nat.reduceLT, Nat.reduceLeDiff, Nat.reduceEqDiff, true_and, and_true, true_implies, if_true, if_false, ite_true, reduceIte, ne_eq, not_false_eq_true, reduceCtorEq, forall_const, bne_self_eq_false, Bool.true_eq_false, Bool.false_eq_true, false_implies, and_self, implies_true, Int.toNat_zero, beq_self_eq_true, decide_true, decide_false, Bool.not_true, Bool.not_false, ↓y_call, List.length_map, i0, j0, fi, fj, iN, jM, i5, j5, hRi, hr00, wi1, wj1, srcOf, Nat.le_refl, hf24, hCt, hfit, Int.toNat_natCast, Int.le_refl, c03, c13, c23, c01, c02, t1, t2, i6, hR1, hr10, e0, u2, j6, hr11, e1, u1, bx, nx, b1, b3]
  refine adrawq hmix [] ?_
  simp (maxSteps := 400000) -implicitDefEqProofs only [↓symPre, symPost, y_condP, y_condG, run, lver, minD, intsD, eqAll, tupD, splice, Nat.zero_add, Nat.add_zero, Nat.zero_mul, Nat.mul_one, Nat.one_mul, Nat.reduceAdd, Nat.reduceSub, Nat.reduceMul, Nat.reduceLT, Nat.reduceLeDiff, Nat.reduceEqDiff, true_and, and_true, true_implies, if_true, if_false, ite_true, reduceIte, ne_eq, not_false_eq_true, reduceCtorEq, forall_const, bne_self_eq_false, Bool.true_eq_false, Bool.false_eq_true, false_implies, and_self, implies_true, Int.toNat_zero, beq_self_eq_true, decide_true, decide_false, Bool.not_true, Bool.not_false, ↓y_call, ↓drawPre, drawPost, isCall, isNew, isEff, Option.toList, or_false, false_or, cond_true, cond_false, not_true_eq_false, or_true, true_or, Nat.add_left_cancel_iff, Bool.false_eq_true, List.length_map, i0, j0, fi, fj, iN, jM, i5, j5, hRi, hr00, wi1, wj1, srcOf, Nat.le_refl, hf24, hCt, hfit, Int.toNat_natCast, Int.le_refl, c03, c13, c23, c01, c02, t1, t2, i6, hR1, hr10, e0, u2, j6, hr11, e1, u1, bx, nx, b1, b3]
  refine adrawq hmix [] ?_
  simp (maxSteps := 400000) -implicitDefEqProofs only [↓symPre, symPost, y_condP, y_condG, run, lver, minD, intsD, eqAll, tupD, splice, Nat.zero_add, Nat.add_zero, Nat.zero_mul, Nat.mul_one, Nat.one_mul, Nat.reduceAdd, Nat.reduceSub, Nat.reduceMul, Nat.reduceLT, Nat.reduceLeDiff, Nat.reduceEqDiff, true_and, and_true, true_implies, if_true, if_false, ite_true, reduceIte, ne_eq, not_false_eq_true, reduceCtorEq, forall_const, bne_self_eq_false, Bool.true_eq_false, Bool.false_eq_true, false_implies, and_self, implies_true, Int.toNat_zero, beq_self_eq_true, decide_true, decide_false, Bool.not_true, Bool.not_false, ↓y_call, ↓drawPre, drawPost, isCall, isNew, isEff, Option.toList, or_false, false_or, cond_true, cond_false, not_true_eq_false, or_true, true_or, Nat.add_left_cancel_iff, Bool.false_eq_true, List.length_map, i0, j0, fi, fj, iN, jM, i5, j5, hRi, hr00, wi1, wj1, srcOf, Nat.le_refl, hf24, hCt, hfit, Int.toNat_natCast, Int.le_refl, c03, c13, c23, c01, c02, t1, t2, i6, hR1, hr10, e0, u2, j6, hr11, e1, u1, bx, nx, b1, b3]
  refine adrawq hmix [] ?_
  simp (maxSteps := 400000) -implicitDefEqProofs only [↓symPre, symPost, y_condP, y_condG, run, lver, minD, intsD, eqAll, tupD, splice, Nat.zero_add, Nat.add_zero, Nat.zero_mul, Nat.mul_one, Nat.one_mul, Nat.reduceAdd, Nat.reduceSub, Nat.reduceMul, Nat.reduceLT, Nat.reduceLeDiff, Nat.reduceEqDiff, true_and, and_true, true_implies, if_true, if_false, ite_true, reduceIte, ne_eq, not_false_eq_true, reduceCtorEq, forall_const, bne_self_eq_false, Bool.true_eq_false, Bool.false_eq_true, false_implies, and_self, implies_true, Int.toNat_zero, beq_self_eq_true, decide_true, decide_false, Bool.not_true, Bool.not_false, ↓y_call, ↓drawPre, drawPost, isCall, isNew, isEff, Option.toList, or_false, false_or, cond_true, cond_false, not_true_eq_false, or_true, true_or, Nat.add_left_cancel_iff, Bool.false_eq_true, List.length_map, i0, j0, fi, fj, iN, jM, i5, j5, hRi, hr00, wi1, wj1, srcOf, Nat.le_refl, hf24, hCt, hfit, Int.toNat_natCast, Int.le_refl, c03, c13, c23, c01, c02, t1, t2, i6, hR1, hr10, e0, u2, j6, hr11, e1, u1, bx, nx, b1, b3]

  refine ⟨by rintro c (rfl | rfl | rfl) <;> rfl, al_done (b' := (i, j + 1, O ++ [⟨1, i, v[j]⟩], u + 1)) ⟨by simp only; omega, by simp only; omega, ?_, by simp only [List.length_append, List.length_cons, List.length_nil]; omega, by simp only; omega⟩ (by simp only [alM]; omega) ?_⟩
  · simp only [List.append_assoc, List.cons_append, List.nil_append]
    rw [← hO, al]
  unfold alS
  simp only [← ope_one_cells, List.length_append, List.length_cons, List.length_nil, Nat.zero_add]
  refine le_to (List.replicate 5 .hole ++ [.old 5] ++ List.replicate 94 .hole ++ [.old 100] ++ List.replicate 95 .hole) hl rfl ?_ ?_ <;> ((try simp only [y_blk_end, y_blk_hole, y_blk_nil, y_blk_old, y_wkl_end, y_wkl_top, List.replicate, List.cons_append, List.nil_append, and_true, true_and]) <;> (repeat' (first | apply And.intro | apply y_wkl | refine Exists.intro _ (And.intro rfl ?_))) <;> (try first | exact trivial | exact Wk.top _ | exact wk_int rfl | exact wk_bool rfl | exact wk_ptr rfl rfl rfl rfl | exact wk_ref rfl rfl rfl rfl rfl | exact wk_nil rfl rfl rfl | exact wk_ref rfl rfl rfl rfl (by simp) | exact wk_ref rfl rfl rfl rfl (by simp; omega) | exact wk_old (by assumption) (by simp) | exact wk_eq rfl (by first | exact Bd.int _ _ | exact Bd.bool _ | exact Bd.abool | exact Bd.nils | exact Bd.emp | exact Bd.nilp | exact Bd.nilfn | assumption | exact low_trees _ _ | exact low_treeD _ _ | exact low_ints _ _) | exact Nat.le_refl _ | exact wk_int (by simp) | exact wk_int (by omega) | exact Nat.succ_le_succ (Nat.zero_le _) | exact Nat.le_add_left _ _ | omega))
  · exact WkL.app (WkL.low (low_cellsF opeD (low_opeD n) O)) (y_wkl (wk_int rfl) (y_wkl (wk_int rfl) (y_wkl (wk_int rfl) trivial)))
  · exact .low _ (low_lstF iD (low_iDs n) _)

set_option maxHeartbeats 8000000 in
theorem al_ins2 {n : Nat} {h : Heap} {q : Co} {w v : List Int} {rows : List (List Int)} (hc : AlC n h q w v rows) {i j : Nat} {O : List Ope} {u : Nat} (hI : alI q w v (i, j, O, u)) (ci : i < w.length) (cj : j < v.length) (cx : w[i] ≠ v[j]) (c2 : dR q (w.drop i) (v.drop j) ≠ dR q (w.drop (i + 1)) (v.drop (j + 1)) + q.c) (c3 : dR q (w.drop i) (v.drop j) ≠ dR q (w.drop (i + 1)) (v.drop j) + q.b) (al : alignR q i (w.drop i) (v.drop j) = ⟨1, i, v[j]⟩ :: alignR q i (w.drop i) (v.drop (j + 1))) : AlRound n h q w v rows (i, j, O, u) := by
  intro Q
  have hl := hc.hl
  have hq := hc.hq
  have hw := hc.hw
  have hv := hc.hv
  have hNl := hc.hNl
  obtain ⟨hi, hj, hO, hOl, hu⟩ := hI
  simp only at hi hj hO hOl hu
  have c03 : (0 : Int) < ((3 : Nat) : Int) := by decide
  have c13 : (1 : Int) < ((3 : Nat) : Int) := by decide
  have c23 : (2 : Int) < ((3 : Nat) : Int) := by decide
  have c01 : (0 : Int) ≤ 1 := by decide
  have c02 : (0 : Int) ≤ 2 := by decide
  have t1 : (1 : Int).toNat = 1 := rfl
  have t2 : (2 : Int).toNat = 2 := rfl
  have i0 : (0 : Int) ≤ (i : Int) := by omega
  have j0 : (0 : Int) ≤ (j : Int) := by omega
  have wi1 : IntKind.i64.wrap ((i : Int) + 1) = ((i + 1 : Nat) : Int) := by rw [IntWalk.i64_in _ (by omega)]; omega
  have wj1 : IntKind.i64.wrap ((j : Int) + 1) = ((j + 1 : Nat) : Int) := by rw [IntWalk.i64_in _ (by omega)]; omega
  have iN : (i : Int) < (rows.length : Int) := by omega
  have hMl : ∀ i, (rowR q w v i).length = v.length + 1 := rowR_len q w v
  have jM : ∀ i, (j : Int) < ((rowR q w v i).length : Int) := fun i => by have := hMl i; omega
  have i5 : (0 : Int) ≤ ((i + 1 : Nat) : Int) := by omega
  have j5 : (0 : Int) ≤ ((j + 1 : Nat) : Int) := by omega
  have hRi := hc.hrows i hi
  have hcl : (cellsF opeD O).length = O.length * 3 := cellsF_len opeD opeD_cells O
  have hCt := take_all (cellsF opeD O) (k := O.length * 3) (by rw [hcl])
  have hfit : O.length * 3 ≤ (cellsF opeD O).length := by omega
  have hf24 : (O.length + 1) * 24 ≤ 140737488355328 := by omega
  have hr00 := al_row (q := q) (w := w) (v := v) i j hj
  have fi : (i : Int) < (w.length : Int) := by omega
  have i6 : ((i + 1 : Nat) : Int) < (rows.length : Int) := by omega
  have hR1 := hc.hrows (i + 1) (by omega)
  have hr10 := al_row (q := q) (w := w) (v := v) (i + 1) j hj
  have e0 := nth_ints w i ci
  have rg10 := dR_range hq (w.drop (i + 1)) (v.drop j)
  have ld1 : (w.drop (i + 1)).length ≤ 200 := by simp; omega
  have ld2 : (v.drop j).length ≤ 200 := by simp; omega
  have fj : (j : Int) < (v.length : Int) := by omega
  have j6 : ∀ i, ((j + 1 : Nat) : Int) < ((rowR q w v i).length : Int) := fun i => by have := hMl i; omega
  have hr11 := al_row (q := q) (w := w) (v := v) (i + 1) (j + 1) (by omega)
  have e1 := nth_ints v j cj
  have rg11 := dR_range hq (w.drop (i + 1)) (v.drop (j + 1))
  have ld3 : (v.drop (j + 1)).length ≤ 200 := by simp; omega
  generalize dR q (w.drop i) (v.drop j) = d00 at *
  generalize dR q (w.drop (i + 1)) (v.drop j) = d10 at *
  generalize dR q (w.drop (i + 1)) (v.drop (j + 1)) = d11 at *
  have q1 := hq
  obtain ⟨q1, q2, q3, q4, q5, q6⟩ := q1
  have u1 : IntKind.i64.wrap (d11 + q.c) = d11 + q.c := IntWalk.i64_in _ (by omega)
  have u2 : IntKind.i64.wrap (d10 + q.b) = d10 + q.b := IntWalk.i64_in _ (by omega)
  have bx : (w[i] == v[j]) = false := by simp [cx]
  have nx : (w[i] != v[j]) = true := by simp [cx]
  have b2 : (d00 == d11 + q.c) = false := by simp [c2]
  have b3 : (d00 == d10 + q.b) = false := by simp [c3]
  have eS : alS n h q w v rows (i, j, O, u) = St.mk n ([iD w, iD v, .top, .top, .top, .ptr (n + 5) 1 0, .top, .top, .top, .lst (rows.map iD), .ref 3 (n + 100) u 0 O.length, .int .i64 i, .int .i64 j] ++ List.replicate 183 .top) h
    (List.replicate 5 blk0 ++ [⟨1, .cells [.int .i64 q.a, .int .i64 q.b, .int .i64 q.c]⟩] ++ List.replicate 94 blk0 ++ [⟨u, .cells (cellsF opeD O)⟩] ++ List.replicate 95 blk0) := rfl
  rw [eS]
  unfold alBody
  simp -implicitDefEqProofs only [↓symPre, symPost, y_condP, y_condG, run, lver, minD, intsD, eqAll, tupD, splice, Nat.zero_add, Nat.add_zero, Nat.zero_mul, Nat.mul_one, Nat.one_mul, Nat.reduceAdd, Nat.reduceSub, Nat.reduceMul, Nat.reduceLT, Nat.reduceLeDiff, Nat.reduceEqDiff, true_and, and_true, true_implies, if_true, if_false, ite_true, reduceIte, ne_eq, not_false_eq_true, reduceCtorEq, forall_const, bne_self_eq_false, Bool.true_eq_false, Bool.false_eq_true, false_implies, and_self, implies_true, Int.toNat_zero, beq_self_eq_true, decide_true, decide_false, Bool.not_true, Bool.not_false, ↓y_call, List.length_map, i0, j0, fi, fj, iN, jM, i5, j5, hRi, hr00, wi1, wj1, srcOf, Nat.le_refl, hf24, hCt, hfit, Int.toNat_natCast, Int.le_refl, c03, c13, c23, c01, c02, t1, t2, i6, hR1, hr10, e0, u2, j6, hr11, e1, u1, bx, nx, b2, b3]
  refine adrawq hmix [] ?_
  simp (maxSteps := 400000) -implicitDefEqProofs only [↓symPre, symPost, y_condP, y_condG, run, lver, minD, intsD, eqAll, tupD, splice, Nat.zero_add, Nat.add_zero, Nat.zero_mul, Nat.mul_one, Nat.one_mul, Nat.reduceAdd, Nat.reduceSub, Nat.reduceMul, Nat.reduceLT, Nat.reduceLeDiff, Nat.reduceEqDiff, true_and, and_true, true_implies, if_true, if_false, ite_true, reduceIte, ne_eq, not_false_eq_true, reduceCtorEq, forall_const, bne_self_eq_false, Bool.true_eq_false, Bool.false_eq_true, false_implies, and_self, implies_true, Int.toNat_zero, beq_self_eq_true, decide_true, decide_false, Bool.not_true, Bool.not_false, ↓y_call, ↓drawPre, drawPost, isCall, isNew, isEff, Option.toList, or_false, false_or, cond_true, cond_false, not_true_eq_false, or_true, true_or, Nat.add_left_cancel_iff, Bool.false_eq_true, List.length_map, i0, j0, fi, fj, iN, jM, i5, j5, hRi, hr00, wi1, wj1, srcOf, Nat.le_refl, hf24, hCt, hfit, Int.toNat_natCast, Int.le_refl, c03, c13, c23, c01, c02, t1, t2, i6, hR1, hr10, e0, u2, j6, hr11, e1, u1, bx, nx, b2, b3]
  refine adrawq hmix [] ?_
  simp (maxSteps := 400000) -implicitDefEqProofs only [↓symPre, symPost, y_condP, y_condG, run, lver, minD, intsD, eqAll, tupD, splice, Nat.zero_add, Nat.add_zero, Nat.zero_mul, Nat.mul_one, Nat.one_mul, Nat.reduceAdd, Nat.reduceSub, Nat.reduceMul, Nat.reduceLT, Nat.reduceLeDiff, Nat.reduceEqDiff, true_and, and_true, true_implies, if_true, if_false, ite_true, reduceIte, ne_eq, not_false_eq_true, reduceCtorEq, forall_const, bne_self_eq_false, Bool.true_eq_false, Bool.false_eq_true, false_implies, and_self, implies_true, Int.toNat_zero, beq_self_eq_true, decide_true, decide_false, Bool.not_true, Bool.not_false, ↓y_call, ↓drawPre, drawPost, isCall, isNew, isEff, Option.toList, or_false, false_or, cond_true, cond_false, not_true_eq_false, or_true, true_or, Nat.add_left_cancel_iff, Bool.false_eq_true, List.length_map, i0, j0, fi, fj, iN, jM, i5, j5, hRi, hr00, wi1, wj1, srcOf, Nat.le_refl, hf24, hCt, hfit, Int.toNat_natCast, Int.le_refl, c03, c13, c23, c01, c02, t1, t2, i6, hR1, hr10, e0, u2, j6, hr11, e1, u1, bx, nx, b2, b3]
  refine adrawq hmix [] ?_
  simp (maxSteps := 400000) -implicitDefEqProofs only [↓symPre, symPost, y_condP, y_condG, run, lver, minD, intsD, eqAll, tupD, splice, Nat.zero_add, Nat.add_zero, Nat.zero_mul, Nat.mul_one, Nat.one_mul, Nat.reduceAdd, Nat.reduceSub, Nat.reduceMul, Nat.reduceLT, Nat.reduceLeDiff, Nat.reduceEqDiff, true_and, and_true, true_implies, if_true, if_false, ite_true, reduceIte, ne_eq, not_false_eq_true, reduceCtorEq, forall_const, bne_self_eq_false, Bool.true_eq_false, Bool.false_eq_true, false_implies, and_self, implies_true, Int.toNat_zero, beq_self_eq_true, decide_true, decide_false, Bool.not_true, Bool.not_false, ↓y_call, ↓drawPre, drawPost, isCall, isNew, isEff, Option.toList, or_false, false_or, cond_true, cond_false, not_true_eq_false, or_true, true_or, Nat.add_left_cancel_iff, Bool.false_eq_true, List.length_map, i0, j0, fi, fj, iN, jM, i5, j5, hRi, hr00, wi1, wj1, srcOf, Nat.le_refl, hf24, hCt, hfit, Int.toNat_natCast, Int.le_refl, c03, c13, c23, c01, c02, t1, t2, i6, hR1, hr10, e0, u2, j6, hr11, e1, u1, bx, nx, b2, b3]

  refine ⟨by rintro c (rfl | rfl | rfl) <;> rfl, al_done (b' := (i, j + 1, O ++ [⟨1, i, v[j]⟩], u + 1)) ⟨by simp only; omega, by simp only; omega, ?_, by simp only [List.length_append, List.length_cons, List.length_nil]; omega, by simp only; omega⟩ (by simp only [alM]; omega) ?_⟩
  · simp only [List.append_assoc, List.cons_append, List.nil_append]
    rw [← hO, al]
  unfold alS
  simp only [← ope_one_cells, List.length_append, List.length_cons, List.length_nil, Nat.zero_add]
  refine le_to (List.replicate 5 .hole ++ [.old 5] ++ List.replicate 94 .hole ++ [.old 100] ++ List.replicate 95 .hole) hl rfl ?_ ?_ <;> ((try simp only [y_blk_end, y_blk_hole, y_blk_nil, y_blk_old, y_wkl_end, y_wkl_top, List.replicate, List.cons_append, List.nil_append, and_true, true_and]) <;> (repeat' (first | apply And.intro | apply y_wkl | refine Exists.intro _ (And.intro rfl ?_))) <;> (try first | exact trivial | exact Wk.top _ | exact wk_int rfl | exact wk_bool rfl | exact wk_ptr rfl rfl rfl rfl | exact wk_ref rfl rfl rfl rfl rfl | exact wk_nil rfl rfl rfl | exact wk_ref rfl rfl rfl rfl (by simp) | exact wk_ref rfl rfl rfl rfl (by simp; omega) | exact wk_old (by assumption) (by simp) | exact wk_eq rfl (by first | exact Bd.int _ _ | exact Bd.bool _ | exact Bd.abool | exact Bd.nils | exact Bd.emp | exact Bd.nilp | exact Bd.nilfn | assumption | exact low_trees _ _ | exact low_treeD _ _ | exact low_ints _ _) | exact Nat.le_refl _ | exact wk_int (by simp) | exact wk_int (by omega) | exact Nat.succ_le_succ (Nat.zero_le _) | exact Nat.le_add_left _ _ | omega))
  · exact WkL.app (WkL.low (low_cellsF opeD (low_opeD n) O)) (y_wkl (wk_int rfl) (y_wkl (wk_int rfl) (y_wkl (wk_int rfl) trivial)))
  · exact .low _ (low_lstF iD (low_iDs n) _)

set_option maxHeartbeats 8000000 in
theorem al_delend {n : Nat} {h : Heap} {q : Co} {w v : List Int} {rows : List (List Int)} (hc : AlC n h q w v rows) {i j : Nat} {O : List Ope} {u : Nat} (hI : alI q w v (i, j, O, u)) (ci : i < w.length) (hjv : j = v.length) : AlRound n h q w v rows (i, j, O, u) := by
  intro Q
  have hl := hc.hl
  have hq := hc.hq
  have hw := hc.hw
  have hv := hc.hv
  have hNl := hc.hNl
  obtain ⟨hi, hj, hO, hOl, hu⟩ := hI
  simp only at hi hj hO hOl hu
  have c03 : (0 : Int) < ((3 : Nat) : Int) := by decide
  have c13 : (1 : Int) < ((3 : Nat) : Int) := by decide
  have c23 : (2 : Int) < ((3 : Nat) : Int) := by decide
  have c01 : (0 : Int) ≤ 1 := by decide
  have c02 : (0 : Int) ≤ 2 := by decide
  have t1 : (1 : Int).toNat = 1 := rfl
  have t2 : (2 : Int).toNat = 2 := rfl
  have i0 : (0 : Int) ≤ (i : Int) := by omega
  have j0 : (0 : Int) ≤ (j : Int) := by omega
  have wi1 : IntKind.i64.wrap ((i : Int) + 1) = ((i + 1 : Nat) : Int) := by rw [IntWalk.i64_in _ (by omega)]; omega
  have wj1 : IntKind.i64.wrap ((j : Int) + 1) = ((j + 1 : Nat) : Int) := by rw [IntWalk.i64_in _ (by omega)]; omega
  have iN : (i : Int) < (rows.length : Int) := by omega
  have hMl : ∀ i, (rowR q w v i).length = v.length + 1 := rowR_len q w v
  have jM : ∀ i, (j : Int) < ((rowR q w v i).length : Int) := fun i => by have := hMl i; omega
  have i5 : (0 : Int) ≤ ((i + 1 : Nat) : Int) := by omega
  have j5 : (0 : Int) ≤ ((j + 1 : Nat) : Int) := by omega
  have hRi := hc.hrows i hi
  have hcl : (cellsF opeD O).length = O.length * 3 := cellsF_len opeD opeD_cells O
  have hCt := take_all (cellsF opeD O) (k := O.length * 3) (by rw [hcl])
  have hfit : O.length * 3 ≤ (cellsF opeD O).length := by omega
  have hf24 : (O.length + 1) * 24 ≤ 140737488355328 := by omega
  have hr00 := al_row (q := q) (w := w) (v := v) i j hj
  have fi : (i : Int) < (w.length : Int) := by omega
  have i6 : ((i + 1 : Nat) : Int) < (rows.length : Int) := by omega
  have hR1 := hc.hrows (i + 1) (by omega)
  have hr10 := al_row (q := q) (w := w) (v := v) (i + 1) j hj
  have e0 := nth_ints w i ci
  have rg10 := dR_range hq (w.drop (i + 1)) (v.drop j)
  have ld1 : (w.drop (i + 1)).length ≤ 200 := by simp; omega
  have ld2 : (v.drop j).length ≤ 200 := by simp; omega
  have fj : ¬ (j : Int) < (v.length : Int) := by omega
  have hd0 : v.drop j = [] := List.drop_eq_nil_of_le (by omega)
  have al : alignR q i (w.drop i) (v.drop j) = ⟨2, i, w[i]⟩ :: alignR q (i + 1) (w.drop (i + 1)) (v.drop j) := by
    rw [hd0, List.drop_eq_getElem_cons ci, alignR]
  have hdd : dR q (w.drop i) (v.drop j) = dR q (w.drop (i + 1)) (v.drop j) + q.b := by
    rw [hd0, dR_nil2, dR_nil2, List.drop_eq_getElem_cons ci, List.length_cons]
    simp only [Int.natCast_add, Int.add_mul]; simp
  generalize dR q (w.drop i) (v.drop j) = d00 at *
  generalize dR q (w.drop (i + 1)) (v.drop j) = d10 at *
  have q1 := hq
  obtain ⟨q1, q2, q3, q4, q5, q6⟩ := q1
  have u2 : IntKind.i64.wrap (d10 + q.b) = d10 + q.b := IntWalk.i64_in _ (by omega)
  have b3 : (d00 == d10 + q.b) = true := by simp [hdd]
  have eS : alS n h q w v rows (i, j, O, u) = St.mk n ([iD w, iD v, .top, .top, .top, .ptr (n + 5) 1 0, .top, .top, .top, .lst (rows.map iD), .ref 3 (n + 100) u 0 O.length, .int .i64 i, .int .i64 j] ++ List.replicate 183 .top) h
    (List.replicate 5 blk0 ++ [⟨1, .cells [.int .i64 q.a, .int .i64 q.b, .int .i64 q.c]⟩] ++ List.replicate 94 blk0 ++ [⟨u, .cells (cellsF opeD O)⟩] ++ List.replicate 95 blk0) := rfl
  rw [eS]
  unfold alBody
  simp -implicitDefEqProofs only [↓symPre, symPost, y_condP, y_condG, run, lver, minD, intsD, eqAll, tupD, splice, Nat.zero_add, Nat.add_zero, Nat.zero_mul, Nat.mul_one, Nat.one_mul, Nat.reduceAdd, Nat.reduceSub, Nat.reduceMul, Nat.reduceLT, Nat.reduceLeDiff, Nat.reduceEqDiff, true_and, and_true, true_implies, if_true, if_false, ite_true, reduceIte, ne_eq, not_false_eq_true, reduceCtorEq, forall_const, bne_self_eq_false, Bool.true_eq_false, Bool.false_eq_true, false_implies, and_self, implies_true, Int.toNat_zero, beq_self_eq_true, decide_true, decide_false, Bool.not_true, Bool.not_false, ↓y_call, List.length_map, i0, j0, fi, fj, iN, jM, i5, j5, hRi, hr00, wi1, wj1, srcOf, Nat.le_refl, hf24, hCt, hfit, Int.toNat_natCast, Int.le_refl, c03, c13, c23, c01, c02, t1, t2, i6, hR1, hr10, e0, u2, b3]
  refine adrawq hmix [] ?_
  simp (maxSteps := 400000) -implicitDefEqProofs only [↓symPre, symPost, y_condP, y_condG, run, lver, minD, intsD, eqAll, tupD, splice, Nat.zero_add, Nat.add_zero, Nat.zero_mul, Nat.mul_one, Nat.one_mul, Nat.reduceAdd, Nat.reduceSub, Nat.reduceMul, Nat.reduceLT, Nat.reduceLeDiff, Nat.reduceEqDiff, true_and, and_true, true_implies, if_true, if_false, ite_true, reduceIte, ne_eq, not_false_eq_true, reduceCtorEq, forall_const, bne_self_eq_false, Bool.true_eq_false, Bool.false_eq_true, false_implies, and_self, implies_true, Int.toNat_zero, beq_self_eq_true, decide_true, decide_false, Bool.not_true, Bool.not_false, ↓y_call, ↓drawPre, drawPost, isCall, isNew, isEff, Option.toList, or_false, false_or, cond_true, cond_false, not_true_eq_false, or_true, true_or, Nat.add_left_cancel_iff, Bool.false_eq_true, List.length_map, i0, j0, fi, fj, iN, jM, i5, j5, hRi, hr00, wi1, wj1, srcOf, Nat.le_refl, hf24, hCt, hfit, Int.toNat_natCast, Int.le_refl, c03, c13, c23, c01, c02, t1, t2, i6, hR1, hr10, e0, u2, b3]
  refine adrawq hmix [] ?_
  simp (maxSteps := 400000) -implicitDefEqProofs only [↓symPre, symPost, y_condP, y_condG, run, lver, minD, intsD, eqAll, tupD, splice, Nat.zero_add, Nat.add_zero, Nat.zero_mul, Nat.mul_one, Nat.one_mul, Nat.reduceAdd, Nat.reduceSub, Nat.reduceMul, Nat.reduceLT, Nat.reduceLeDiff, Nat.reduceEqDiff, true_and, and_true, true_implies, if_true, if_false, ite_true, reduceIte, ne_eq, not_false_eq_true, reduceCtorEq, forall_const, bne_self_eq_false, Bool.true_eq_false, Bool.false_eq_true, false_implies, and_self, implies_true, Int.toNat_zero, beq_self_eq_true, decide_true, decide_false, Bool.not_true, Bool.not_false, ↓y_call, ↓drawPre, drawPost, isCall, isNew, isEff, Option.toList, or_false, false_or, cond_true, cond_false, not_true_eq_false, or_true, true_or, Nat.add_left_cancel_iff, Bool.false_eq_true, List.length_map, i0, j0, fi, fj, iN, jM, i5, j5, hRi, hr00, wi1, wj1, srcOf, Nat.le_refl, hf24, hCt, hfit, Int.toNat_natCast, Int.le_refl, c03, c13, c23, c01, c02, t1, t2, i6, hR1, hr10, e0, u2, b3]
  refine adrawq hmix [] ?_
  simp (maxSteps := 400000) -implicitDefEqProofs only [↓symPre, symPost, y_condP, y_condG, run, lver, minD, intsD, eqAll, tupD, splice, Nat.zero_add, Nat.add_zero, Nat.zero_mul, Nat.mul_one, Nat.one_mul, Nat.reduceAdd, Nat.reduceSub, Nat.reduceMul, Nat.reduceLT, Nat.reduceLeDiff, Nat.reduceEqDiff, true_and, and_true, true_implies, if_true, if_false, ite_true, reduceIte, ne_eq, not_false_eq_true, reduceCtorEq, forall_const, bne_self_eq_false, Bool.true_eq_false, Bool.false_eq_true, false_implies, and_self, implies_true, Int.toNat_zero, beq_self_eq_true, decide_true, decide_false, Bool.not_true, Bool.not_false, ↓y_call, ↓drawPre, drawPost, isCall, isNew, isEff, Option.toList, or_false, false_or, cond_true, cond_false, not_true_eq_false, or_true, true_or, Nat.add_left_cancel_iff, Bool.false_eq_true, List.length_map, i0, j0, fi, fj, iN, jM, i5, j5, hRi, hr00, wi1, wj1, srcOf, Nat.le_refl, hf24, hCt, hfit, Int.toNat_natCast, Int.le_refl, c03, c13, c23, c01, c02, t1, t2, i6, hR1, hr10, e0, u2, b3]

  refine ⟨by rintro c (rfl | rfl | rfl) <;> rfl, al_done (b' := (i + 1, j, O ++ [⟨2, i, w[i]⟩], u + 1)) ⟨by simp only; omega, by simp only; omega, ?_, by simp only [List.length_append, List.length_cons, List.length_nil]; omega, by simp only; omega⟩ (by simp only [alM]; omega) ?_⟩
  · simp only [List.append_assoc, List.cons_append, List.nil_append]
    rw [← hO, al]
  unfold alS
  simp only [← ope_one_cells, List.length_append, List.length_cons, List.length_nil, Nat.zero_add]
  refine le_to (List.replicate 5 .hole ++ [.old 5] ++ List.replicate 94 .hole ++ [.old 100] ++ List.replicate 95 .hole) hl rfl ?_ ?_ <;> ((try simp only [y_blk_end, y_blk_hole, y_blk_nil, y_blk_old, y_wkl_end, y_wkl_top, List.replicate, List.cons_append, List.nil_append, and_true, true_and]) <;> (repeat' (first | apply And.intro | apply y_wkl | refine Exists.intro _ (And.intro rfl ?_))) <;> (try first | exact trivial | exact Wk.top _ | exact wk_int rfl | exact wk_bool rfl | exact wk_ptr rfl rfl rfl rfl | exact wk_ref rfl rfl rfl rfl rfl | exact wk_nil rfl rfl rfl | exact wk_ref rfl rfl rfl rfl (by simp) | exact wk_ref rfl rfl rfl rfl (by simp; omega) | exact wk_old (by assumption) (by simp) | exact wk_eq rfl (by first | exact Bd.int _ _ | exact Bd.bool _ | exact Bd.abool | exact Bd.nils | exact Bd.emp | exact Bd.nilp | exact Bd.nilfn | assumption | exact low_trees _ _ | exact low_treeD _ _ | exact low_ints _ _) | exact Nat.le_refl _ | exact wk_int (by simp) | exact wk_int (by omega) | exact Nat.succ_le_succ (Nat.zero_le _) | exact Nat.le_add_left _ _ | omega))
  · exact WkL.app (WkL.low (low_cellsF opeD (low_opeD n) O)) (y_wkl (wk_int rfl) (y_wkl (wk_int rfl) (y_wkl (wk_int rfl) trivial)))
  · exact .low _ (low_lstF iD (low_iDs n) _)

set_option maxHeartbeats 8000000 in
theorem al_insend {n : Nat} {h : Heap} {q : Co} {w v : List Int} {rows : List (List Int)} (hc : AlC n h q w v rows) {i j : Nat} {O : List Ope} {u : Nat} (hI : alI q w v (i, j, O, u)) (hiw : i = w.length) (cj : j < v.length) : AlRound n h q w v rows (i, j, O, u) := by
  intro Q
  have hl := hc.hl
  have hq := hc.hq
  have hw := hc.hw
  have hv := hc.hv
  have hNl := hc.hNl
  obtain ⟨hi, hj, hO, hOl, hu⟩ := hI
  simp only at hi hj hO hOl hu
  have c03 : (0 : Int) < ((3 : Nat) : Int) := by decide
  have c13 : (1 : Int) < ((3 : Nat) : Int) := by decide
  have c23 : (2 : Int) < ((3 : Nat) : Int) := by decide
  have c01 : (0 : Int) ≤ 1 := by decide
  have c02 : (0 : Int) ≤ 2 := by decide
  have t1 : (1 : Int).toNat = 1 := rfl
  have t2 : (2 : Int).toNat = 2 := rfl
  have i0 : (0 : Int) ≤ (i : Int) := by omega
  have j0 : (0 : Int) ≤ (j : Int) := by omega
  have wi1 : IntKind.i64.wrap ((i : Int) + 1) = ((i + 1 : Nat) : Int) := by rw [IntWalk.i64_in _ (by omega)]; omega
  have wj1 : IntKind.i64.wrap ((j : Int) + 1) = ((j + 1 : Nat) : Int) := by rw [IntWalk.i64_in _ (by omega)]; omega
  have iN : (i : Int) < (rows.length : Int) := by omega
  have hMl : ∀ i, (rowR q w v i).length = v.length + 1 := rowR_len q w v
  have jM : ∀ i, (j : Int) < ((rowR q w v i).length : Int) := fun i => by have := hMl i; omega
  have i5 : (0 : Int) ≤ ((i + 1 : Nat) : Int) := by omega
  have j5 : (0 : Int) ≤ ((j + 1 : Nat) : Int) := by omega
  have hRi := hc.hrows i hi
  have hcl : (cellsF opeD O).length = O.length * 3 := cellsF_len opeD opeD_cells O
  have hCt := take_all (cellsF opeD O) (k := O.length * 3) (by rw [hcl])
  have hfit : O.length * 3 ≤ (cellsF opeD O).length := by omega
  have hf24 : (O.length + 1) * 24 ≤ 140737488355328 := by omega
  have hr00 := al_row (q := q) (w := w) (v := v) i j hj
  have fi : ¬ (i : Int) < (w.length : Int) := by omega
  have hd0 : w.drop i = [] := List.drop_eq_nil_of_le (by omega)
  have fj : (j : Int) < (v.length : Int) := by omega
  have e1 := nth_ints v j cj
  have al : alignR q i (w.drop i) (v.drop j) = ⟨1, i, v[j]⟩ :: alignR q i (w.drop i) (v.drop (j + 1)) := by
    rw [hd0, List.drop_eq_getElem_cons cj, alignR]
  have eS : alS n h q w v rows (i, j, O, u) = St.mk n ([iD w, iD v, .top, .top, .top, .ptr (n + 5) 1 0, .top, .top, .top, .lst (rows.map iD), .ref 3 (n + 100) u 0 O.length, .int .i64 i, .int .i64 j] ++ List.replicate 183 .top) h
    (List.replicate 5 blk0 ++ [⟨1, .cells [.int .i64 q.a, .int .i64 q.b, .int .i64 q.c]⟩] ++ List.replicate 94 blk0 ++ [⟨u, .cells (cellsF opeD O)⟩] ++ List.replicate 95 blk0) := rfl
  rw [eS]
  unfold alBody
  simp -implicitDefEqProofs only [↓symPre, symPost, y_condP, y_condG, run, lver, minD, intsD, eqAll, tupD, splice, Nat.zero_add, Nat.add_zero, Nat.zero_mul, Nat.mul_one, Nat.one_mul, Nat.reduceAdd, Nat.reduceSub, Nat.reduceMul, Nat.reduceLT, Nat.reduceLeDiff, Nat.reduceEqDiff, true_and, and_true, true_implies, if_true, if_false, ite_true, reduceIte, ne_eq, not_false_eq_true, reduceCtorEq, forall_const, bne_self_eq_false, Bool.true_eq_false, Bool.false_eq_true, false_implies, and_self, implies_true, Int.toNat_zero, beq_self_eq_true, decide_true, decide_false, Bool.not_true, Bool.not_false, ↓y_call, List.length_map, i0, j0, fi, fj, iN, jM, i5, j5, hRi, hr00, wi1, wj1, srcOf, Nat.le_refl, hf24, hCt, hfit, Int.toNat_natCast, Int.le_refl, c03, c13, c23, c01, c02, t1, t2, e1]
  refine adrawq hmix [] ?_
  simp (maxSteps := 400000) -implicitDefEqProofs only [↓symPre, symPost, y_condP, y_condG, run, lver, minD, intsD, eqAll, tupD, splice, Nat.zero_add, Nat.add_zero, Nat.zero_mul, Nat.mul_one, Nat.one_mul, Nat.reduceAdd, Nat.reduceSub, Nat.reduceMul, Nat.reduceLT, Nat.reduceLeDiff, Nat.reduceEqDiff, true_and, and_true, true_implies, if_true, if_false, ite_true, reduceIte, ne_eq, not_false_eq_true, reduceCtorEq, forall_const, bne_self_eq_false, Bool.true_eq_false, Bool.false_eq_true, false_implies, and_self, implies_true, Int.toNat_zero, beq_self_eq_true, decide_true, decide_false, Bool.not_true, Bool.not_false, ↓y_call, ↓drawPre, drawPost, isCall, isNew, isEff, Option.toList, or_false, false_or, cond_true, cond_false, not_true_eq_false, or_true, true_or, Nat.add_left_cancel_iff, Bool.false_eq_true, List.length_map, i0, j0, fi, fj, iN, jM, i5, j5, hRi, hr00, wi1, wj1, srcOf, Nat.le_refl, hf24, hCt, hfit, Int.toNat_natCast, Int.le_refl, c03, c13, c23, c01, c02, t1, t2, e1]
  refine adrawq hmix [] ?_
  simp (maxSteps := 400000) -implicitDefEqProofs only [↓symPre, symPost, y_condP, y_condG, run, lver, minD, intsD, eqAll, tupD, splice, Nat.zero_add, Nat.add_zero, Nat.zero_mul, Nat.mul_one, Nat.one_mul, Nat.reduceAdd, Nat.reduceSub, Nat.reduceMul, Nat.reduceLT, Nat.reduceLeDiff, Nat.reduceEqDiff, true_and, and_true, true_implies, if_true, if_false, ite_true, reduceIte, ne_eq, not_false_eq_true, reduceCtorEq, forall_const, bne_self_eq_false, Bool.true_eq_false, Bool.false_eq_true, false_implies, and_self, implies_true, Int.toNat_zero, beq_self_eq_true, decide_true, decide_false, Bool.not_true, Bool.not_false, ↓y_call, ↓drawPre, drawPost, isCall, isNew, isEff, Option.toList, or_false, false_or, cond_true, cond_false, not_true_eq_false, or_true, true_or, Nat.add_left_cancel_iff, Bool.false_eq_true, List.length_map, i0, j0, fi, fj, iN, jM, i5, j5, hRi, hr00, wi1, wj1, srcOf, Nat.le_refl, hf24, hCt, hfit, Int.toNat_natCast, Int.le_refl, c03, c13, c23, c01, c02, t1, t2, e1]
  refine adrawq hmix [] ?_
  simp (maxSteps := 400000) -implicitDefEqProofs only [↓symPre, symPost, y_condP, y_condG, run, lver, minD, intsD, eqAll, tupD, splice, Nat.zero_add, Nat.add_zero, Nat.zero_mul, Nat.mul_one, Nat.one_mul, Nat.reduceAdd, Nat.reduceSub, Nat.reduceMul, Nat.reduceLT, Nat.reduceLeDiff, Nat.reduceEqDiff, true_and, and_true, true_implies, if_true, if_false, ite_true, reduceIte, ne_eq, not_false_eq_true, reduceCtorEq, forall_const, bne_self_eq_false, Bool.true_eq_false, Bool.false_eq_true, false_implies, and_self, implies_true, Int.toNat_zero, beq_self_eq_true, decide_true, decide_false, Bool.not_true, Bool.not_false, ↓y_call, ↓drawPre, drawPost, isCall, isNew, isEff, Option.toList, or_false, false_or, cond_true, cond_false, not_true_eq_false, or_true, true_or, Nat.add_left_cancel_iff, Bool.false_eq_true, List.length_map, i0, j0, fi, fj, iN, jM, i5, j5, hRi, hr00, wi1, wj1, srcOf, Nat.le_refl, hf24, hCt, hfit, Int.toNat_natCast, Int.le_refl, c03, c13, c23, c01, c02, t1, t2, e1]

  refine ⟨by rintro c (rfl | rfl | rfl) <;> rfl, al_done (b' := (i, j + 1, O ++ [⟨1, i, v[j]⟩], u + 1)) ⟨by simp only; omega, by simp only; omega, ?_, by simp only [List.length_append, List.length_cons, List.length_nil]; omega, by simp only; omega⟩ (by simp only [alM]; omega) ?_⟩
  · simp only [List.append_assoc, List.cons_append, List.nil_append]
    rw [← hO, al]
  unfold alS
  simp only [← ope_one_cells, List.length_append, List.length_cons, List.length_nil, Nat.zero_add]
  refine le_to (List.replicate 5 .hole ++ [.old 5] ++ List.replicate 94 .hole ++ [.old 100] ++ List.replicate 95 .hole) hl rfl ?_ ?_ <;> ((try simp only [y_blk_end, y_blk_hole, y_blk_nil, y_blk_old, y_wkl_end, y_wkl_top, List.replicate, List.cons_append, List.nil_append, and_true, true_and]) <;> (repeat' (first | apply And.intro | apply y_wkl | refine Exists.intro _ (And.intro rfl ?_))) <;> (try first | exact trivial | exact Wk.top _ | exact wk_int rfl | exact wk_bool rfl | exact wk_ptr rfl rfl rfl rfl | exact wk_ref rfl rfl rfl rfl rfl | exact wk_nil rfl rfl rfl | exact wk_ref rfl rfl rfl rfl (by simp) | exact wk_ref rfl rfl rfl rfl (by simp; omega) | exact wk_old (by assumption) (by simp) | exact wk_eq rfl (by first | exact Bd.int _ _ | exact Bd.bool _ | exact Bd.abool | exact Bd.nils | exact Bd.emp | exact Bd.nilp | exact Bd.nilfn | assumption | exact low_trees _ _ | exact low_treeD _ _ | exact low_ints _ _) | exact Nat.le_refl _ | exact wk_int (by simp) | exact wk_int (by omega) | exact Nat.succ_le_succ (Nat.zero_le _) | exact Nat.le_add_left _ _ | omega))
  · exact WkL.app (WkL.low (low_cellsF opeD (low_opeD n) O)) (y_wkl (wk_int rfl) (y_wkl (wk_int rfl) (y_wkl (wk_int rfl) trivial)))
  · exact .low _ (low_lstF iD (low_iDs n) _)

theorem al_round {n : Nat} {h : Heap} {q : Co} {w v : List Int} {rows : List (List Int)} (hc : AlC n h q w v rows) {i j : Nat} {O : List Ope} {u : Nat} (hI : alI q w v (i, j, O, u)) (cij : i < w.length ∨ j < v.length) : AlRound n h q w v rows (i, j, O, u) := by
  by_cases ci : i < w.length
  · by_cases cj : j < v.length
    · have al := alignR.eq_4 q i w[i] (w.drop (i + 1)) v[j] (v.drop (j + 1))
      rw [← List.drop_eq_getElem_cons ci, ← List.drop_eq_getElem_cons cj] at al
      by_cases cx : w[i] = v[j]
      · by_cases c1 : dR q (w.drop i) (v.drop j) = dR q (w.drop (i + 1)) (v.drop (j + 1))
        · rw [if_pos ⟨cx, c1⟩] at al
          exact al_keep hc hI ci cj cx c1 al
        · rw [if_neg (fun h => c1 h.2), if_neg (fun h => h.1 cx)] at al
          by_cases c3 : dR q (w.drop i) (v.drop j) = dR q (w.drop (i + 1)) (v.drop j) + q.b
          · rw [if_pos c3] at al; exact al_del1 hc hI ci cj cx c1 c3 al
          · rw [if_neg c3] at al; exact al_ins1 hc hI ci cj cx c1 c3 al
      · rw [if_neg (fun h => cx h.1)] at al
        by_cases c2 : dR q (w.drop i) (v.drop j) = dR q (w.drop (i + 1)) (v.drop (j + 1)) + q.c
        · rw [if_pos ⟨cx, c2⟩] at al
          exact al_replace hc hI ci cj cx c2 al
        · rw [if_neg (fun h => c2 h.2)] at al
          by_cases c3 : dR q (w.drop i) (v.drop j) = dR q (w.drop (i + 1)) (v.drop j) + q.b
          · rw [if_pos c3] at al; exact al_del2 hc hI ci cj cx c2 c3 al
          · rw [if_neg c3] at al; exact al_ins2 hc hI ci cj cx c2 c3 al
    · exact al_delend hc hI ci (by have := hI.2.1; simp only at this; omega)
  · exact al_insend hc hI (by have := hI.1; simp only at this; omega) (by omega)


set_option maxHeartbeats 4000000 in
theorem pure_Align (q : Co) (hq : okCo q 100) (w v : List Int) (hw : w.length ≤ 200) (hv : v.length ≤ 200) : Pure prog F_repair_Align [iD w, iD v, coD q] (.tup [.int .i64 (dR q w v), .lst ((alignR q 0 w v).map opeD), .int .i64 0]) := by
  intro n h
  have pc := pure_rcosts q hq
  have pd := pure_distances q hq w v hw hv
  refine K_repair_Align.calls fun hl => ?_
  unfold C_repair_Align
  unfold coD at pc pd ⊢
  have g1 : ¬ (w.length : Int) > 200 := by omega
  have g2 : ¬ (v.length : Int) > 200 := by omega
  simp -implicitDefEqProofs only [↓symPre, symPost, y_condP, y_condG, run, lver, minD, intsD, eqAll, tupD, splice, Nat.zero_add, Nat.add_zero, Nat.zero_mul, Nat.mul_one, Nat.one_mul, Nat.reduceAdd, Nat.reduceSub, Nat.reduceMul, Nat.reduceLT, Nat.reduceLeDiff, Nat.reduceEqDiff, true_and, and_true, true_implies, if_true, if_false, ite_true, reduceIte, ne_eq, not_false_eq_true, reduceCtorEq, forall_const, bne_self_eq_false, Bool.true_eq_false, Bool.false_eq_true, false_implies, and_self, implies_true, Int.toNat_zero, beq_self_eq_true, decide_true, decide_false, Bool.not_true, Bool.not_false, ↓y_call, List.length_map, g1, g2]
  refine pc.call rfl ?_
  simp -implicitDefEqProofs only [↓symPre, symPost, y_condP, y_condG, run, lver, minD, intsD, eqAll, tupD, splice, Nat.zero_add, Nat.add_zero, Nat.zero_mul, Nat.mul_one, Nat.one_mul, Nat.reduceAdd, Nat.reduceSub, Nat.reduceMul, Nat.reduceLT, Nat.reduceLeDiff, Nat.reduceEqDiff, true_and, and_true, true_implies, if_true, if_false, ite_true, reduceIte, ne_eq, not_false_eq_true, reduceCtorEq, forall_const, bne_self_eq_false, Bool.true_eq_false, Bool.false_eq_true, false_implies, and_self, implies_true, Int.toNat_zero, beq_self_eq_true, decide_true, decide_false, Bool.not_true, Bool.not_false, ↓y_call]
  refine pd.call rfl ?_
  have hrows : ∀ i, i ≤ w.length → nth ((rowsR q w v).map iD) i = iD (rowR q w v i) := fun i hi => nth_of (by rw [List.getElem?_map, rowsR_get q w v i hi]; rfl)
  have hNl : (rowsR q w v).length = w.length + 1 := rowsR_len q w v
  generalize rowsR q w v = rows at *
  simp -implicitDefEqProofs only [↓symPre, symPost, y_condP, y_condG, run, lver, minD, intsD, eqAll, tupD, splice, Nat.zero_add, Nat.add_zero, Nat.zero_mul, Nat.mul_one, Nat.one_mul, Nat.reduceAdd, Nat.reduceSub, Nat.reduceMul, Nat.reduceLT, Nat.reduceLeDiff, Nat.reduceEqDiff, true_and, and_true, true_implies, if_true, if_false, ite_true, reduceIte, ne_eq, not_false_eq_true, reduceCtorEq, forall_const, bne_self_eq_false, Bool.true_eq_false, Bool.false_eq_true, false_implies, and_self, implies_true, Int.toNat_zero, beq_self_eq_true, decide_true, decide_false, Bool.not_true, Bool.not_false, ↓y_call]
  have hc : AlC n h q w v rows := ⟨hl, hq, hw, hv, hrows, hNl⟩
  refine aloop (alS n h q w v rows) (alI q w v) (alM w v) (0, 0, [], 1) ⟨Nat.zero_le _, Nat.zero_le _, by simp, Nat.le_refl _, Nat.le_refl _⟩ ?_ ?_
  · unfold alS
    refine le_to (List.replicate 5 .hole ++ [.old 5] ++ List.replicate 94 .hole ++ [.nil] ++ List.replicate 95 .hole) hl rfl ?_ ?_ <;> (try simp only [cellsF_nil]) <;> ((try simp only [y_blk_end, y_blk_hole, y_blk_nil, y_blk_old, y_wkl_end, y_wkl_top, List.replicate, List.cons_append, List.nil_append, and_true, true_and]) <;> (repeat' (first | apply And.intro | apply y_wkl | refine Exists.intro _ (And.intro rfl ?_))) <;> (try first | exact trivial | exact Wk.top _ | exact wk_int rfl | exact wk_bool rfl | exact wk_ptr rfl rfl rfl rfl | exact wk_ref rfl rfl rfl rfl rfl | exact wk_nil rfl rfl rfl | exact wk_ref rfl rfl rfl rfl (by simp) | exact wk_ref rfl rfl rfl rfl (by simp; omega) | exact wk_old (by assumption) (by simp) | exact wk_eq rfl (by first | exact Bd.int _ _ | exact Bd.bool _ | exact Bd.abool | exact Bd.nils | exact Bd.emp | exact Bd.nilp | exact Bd.nilfn | assumption | exact low_trees _ _ | exact low_treeD _ _ | exact low_ints _ _) | exact Nat.le_refl _ | exact wk_int (by simp) | exact wk_int (by omega) | exact Nat.succ_le_succ (Nat.zero_le _) | exact Nat.le_add_left _ _ | omega))
    exact .low _ (low_lstF iD (low_iDs n) _)
  · rintro ⟨i, j, O, u⟩ hI
    by_cases cij : i < w.length ∨ j < v.length
    · exact al_round hc hI cij _
    · obtain ⟨hi, hj, hO, hOl, hu⟩ := hI
      simp only at hi hj hO hOl hu
      have fi : ¬ (i : Int) < (w.length : Int) := by omega
      have fj : ¬ (j : Int) < (v.length : Int) := by omega
      have hd0 : w.drop i = [] := List.drop_eq_nil_of_le (by omega)
      have hd1 : v.drop j = [] := List.drop_eq_nil_of_le (by omega)
      rw [hd0, hd1, alignR, List.append_nil] at hO
      have r0 := hrows 0 (Nat.zero_le _)
      have r00 := al_row (q := q) (w := w) (v := v) 0 0 (Nat.zero_le _)
      rw [List.drop_zero, List.drop_zero] at r00
      have n0 : (0 : Int) < (rows.length : Int) := by omega
      have m0 : (0 : Int) < ((rowR q w v 0).length : Int) := by have := rowR_len q w v 0; omega
      have eS : alS n h q w v rows (i, j, O, u) = St.mk n ([iD w, iD v, .top, .top, .top, .ptr (n + 5) 1 0, .top, .top, .top, .lst (rows.map iD), .ref 3 (n + 100) u 0 O.length, .int .i64 i, .int .i64 j] ++ List.replicate 183 .top) h
        (List.replicate 5 blk0 ++ [⟨1, .cells [.int .i64 q.a, .int .i64 q.b, .int .i64 q.c]⟩] ++ List.replicate 94 blk0 ++ [⟨u, .cells (cellsF opeD O)⟩] ++ List.replicate 95 blk0) := rfl
      rw [eS]
      simp -implicitDefEqProofs only [↓symPre, symPost, y_condP, y_condG, run, lver, minD, intsD, eqAll, tupD, splice, Nat.zero_add, Nat.add_zero, Nat.zero_mul, Nat.mul_one, Nat.one_mul, Nat.reduceAdd, Nat.reduceSub, Nat.reduceMul, Nat.reduceLT, Nat.reduceLeDiff, Nat.reduceEqDiff, true_and, and_true, true_implies, if_true, if_false, ite_true, reduceIte, ne_eq, not_false_eq_true, reduceCtorEq, forall_const, bne_self_eq_false, Bool.true_eq_false, Bool.false_eq_true, false_implies, and_self, implies_true, Int.toNat_zero, beq_self_eq_true, decide_true, decide_false, Bool.not_true, Bool.not_false, ↓y_call, List.length_map, fi, fj, r0, r00, n0, m0, Int.le_refl]
      refine fin_wk hl (wk_tup3 wk_i (wk_frzF opeD opeD_cells (low_opeD n) (t := 100) rfl rfl (by simp) rfl) wk_i) ⟨rfl, rfl, by rw [hO]⟩

end Abs
end Go.Proofs.Ytfojedaccfenfaa

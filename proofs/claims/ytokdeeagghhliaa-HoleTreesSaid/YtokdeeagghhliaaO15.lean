/- The table: parts, the passes over the rules. -/
import Derived.Test.YtokdeeagghhliaaO14
namespace Go.Proofs.Ytokdeeagghhliaa
namespace Abs
set_option linter.unusedVariables false
set_option linter.unusedSimpArgs false
set_option maxRecDepth 20000

noncomputable def L4_hole_table_parts : AC :=
  (.seq (.seq (.region [⟨(.some 66), (.mov (.tmp 5)), .always⟩]) (.cond (.tmp 66) .skip (.exit 4))) (.block 5 (.seq (.region [⟨(.some 5), (.mov (.val (.bool .false))), .always⟩]) (.seq (.region [⟨(.some 67), (.mov (.tmp 0)), .always⟩, ⟨(.some 68), (.nilck (.tmp 67)), .always⟩, ⟨(.some 69), (.fieldAddr 0 (.tmp 68)), .always⟩, ⟨(.some 70), (.fieldAddr 3 (.tmp 69)), .always⟩, ⟨(.some 71), (.load .false 1 (.tmp 70)), .always⟩, ⟨(.some 72), (.len (.tmp 71)), .always⟩, ⟨(.some 73), (.mov (.val (.int .i64 0))), .always⟩]) (.block 6 (.loop (.seq (.region [⟨(.some 74), (.bin .lss (.tmp 73) (.tmp 72)), .always⟩]) (.seq (.cond (.tmp 74) .skip (.exit 6)) (.seq (.block 7 (.seq (.region [⟨(.some 75), (.idxS 2 (.tmp 71) (.tmp 73)), .always⟩, ⟨(.some 76), (.load .true 2 (.tmp 75)), .always⟩, ⟨(.some 7), (.alloc [(.int .i64 0), .nils]), .always⟩, ⟨.none, (.store 2 (.tmp 7) (.tmp 76)), .always⟩]) (.seq (.region [⟨(.some 77), (.mov (.tmp 2)), .always⟩, ⟨(.some 78), (.mov (.val (.int .i64 0))), .always⟩]) (.block 8 (.loop (.seq (.region [⟨(.some 79), (.bin .lss (.tmp 78) (.tmp 77)), .always⟩]) (.seq (.cond (.tmp 79) .skip (.exit 8)) (.seq (.block 9 (.seq (.region [⟨(.some 80), (.mov (.tmp 78)), .always⟩, ⟨(.some 8), (.mov (.tmp 80)), .always⟩]) (.seq (.region [⟨(.some 81), (.mov (.tmp 0)), .always⟩, ⟨(.some 82), (.load .true 2 (.tmp 7)), .always⟩, ⟨(.some 83), (.mov (.tmp 8)), .always⟩, ⟨(.some 84), (.call F_hole_table_row [(.tmp 81), (.tmp 82), (.tmp 83)]), .always⟩, ⟨(.some 85), (.len (.tmp 84)), .always⟩, ⟨(.some 86), (.mov (.val (.int .i64 0))), .always⟩]) (.block 10 (.loop (.seq (.region [⟨(.some 87), (.bin .lss (.tmp 86) (.tmp 85)), .always⟩]) (.seq (.cond (.tmp 87) .skip (.exit 10)) (.seq (.block 11 (.seq (.region [⟨(.some 88), (.mov (.tmp 86)), .always⟩, ⟨(.some 89), (.idxS 3 (.tmp 84) (.tmp 86)), .always⟩, ⟨(.some 90), (.load .true 3 (.tmp 89)), .always⟩, ⟨(.some 10), (.alloc [(.bool .false), (.int .i64 0), .nils]), .always⟩, ⟨(.some 9), (.mov (.tmp 88)), .always⟩, ⟨.none, (.store 3 (.tmp 10) (.tmp 90)), .always⟩]) (.seq (.draw [⟨⟨(.some 91), (.load .true 3 (.tmp 10)), .always⟩, [], []⟩, ⟨⟨(.some 92), (.build [(.bool .false), (.int .i64 0), .nils] [(0, (1, (.val (.bool .true))))]), .always⟩, [], []⟩, ⟨⟨(.some 93), (.mov (.tmp 0)), .always⟩, [], []⟩, ⟨⟨(.some 94), (.nilck (.tmp 93)), .always⟩, [], []⟩, ⟨⟨(.some 95), (.fieldAddr 6 (.tmp 94)), .always⟩, [], []⟩, ⟨⟨(.some 96), (.load .false 1 (.tmp 95)), .always⟩, [], []⟩, ⟨⟨(.some 97), (.fieldAddr 0 (.tmp 7)), .always⟩, [], []⟩, ⟨⟨(.some 98), (.load .false 1 (.tmp 97)), .always⟩, [], []⟩, ⟨⟨(.some 99), (.idxS 1 (.tmp 96) (.tmp 98)), .always⟩, [], []⟩, ⟨⟨(.some 100), (.load .false 1 (.tmp 99)), .always⟩, [], []⟩, ⟨⟨(.some 101), (.mov (.tmp 8)), .always⟩, [], []⟩, ⟨⟨(.some 102), (.idxS 1 (.tmp 100) (.tmp 101)), .always⟩, [], []⟩, ⟨⟨(.some 103), (.load .false 1 (.tmp 102)), .always⟩, [], []⟩, ⟨⟨(.some 104), (.mov (.tmp 9)), .always⟩, [], []⟩, ⟨⟨(.some 105), (.idxS 3 (.tmp 103) (.tmp 104)), .always⟩, [], []⟩, ⟨⟨(.some 106), (.load .true 3 (.tmp 105)), .always⟩, [], []⟩, ⟨⟨(.some 107), (.call F_hole_shorter [(.tmp 91), (.tmp 92), (.tmp 106)]), .always⟩, [], []⟩]) (.cond (.tmp 107) (.draw [⟨⟨(.some 108), (.mov (.tmp 0)), .always⟩, [], []⟩, ⟨⟨(.some 109), (.nilck (.tmp 108)), .always⟩, [], []⟩, ⟨⟨(.some 110), (.fieldAddr 6 (.tmp 109)), .always⟩, [], []⟩, ⟨⟨(.some 111), (.load .false 1 (.tmp 110)), .always⟩, [], []⟩, ⟨⟨(.some 112), (.fieldAddr 0 (.tmp 7)), .always⟩, [], []⟩, ⟨⟨(.some 113), (.load .false 1 (.tmp 112)), .always⟩, [], []⟩, ⟨⟨(.some 114), (.idxS 1 (.tmp 111) (.tmp 113)), .always⟩, [], []⟩, ⟨⟨(.some 115), (.load .false 1 (.tmp 114)), .always⟩, [], []⟩, ⟨⟨(.some 116), (.mov (.tmp 8)), .always⟩, [], []⟩, ⟨⟨(.some 117), (.idxS 1 (.tmp 115) (.tmp 116)), .always⟩, [], []⟩, ⟨⟨(.some 118), (.load .false 1 (.tmp 117)), .always⟩, [], []⟩, ⟨⟨(.some 119), (.mov (.tmp 9)), .always⟩, [], []⟩, ⟨⟨(.some 120), (.load .true 3 (.tmp 10)), .always⟩, [], []⟩, ⟨⟨(.some 121), (.idxS 3 (.tmp 118) (.tmp 119)), .always⟩, [], []⟩, ⟨⟨.none, (.store 3 (.tmp 121) (.tmp 120)), .always⟩, [], []⟩, ⟨⟨(.some 5), (.mov (.val (.bool .true))), .always⟩, [], []⟩]) .skip)))) (.region [⟨(.some 122), (.bin .add (.tmp 86) (.val (.int .i64 1))), .always⟩, ⟨(.some 86), (.mov (.tmp 122)), .always⟩]))))))))) (.region [⟨(.some 123), (.bin .add (.tmp 78) (.val (.int .i64 1))), .always⟩, ⟨(.some 78), (.mov (.tmp 123)), .always⟩]))))))))) (.region [⟨(.some 124), (.bin .add (.tmp 73) (.val (.int .i64 1))), .always⟩, ⟨(.some 73), (.mov (.tmp 124)), .always⟩]))))))))))

def rowC (M : Nat) (P : Tb) (q : Nat) : List D := cellsF wD ((P.getD (q / M) []).getD (q % M) [])
theorem low_rowC (n M : Nat) (P : Tb) (q : Nat) : ∀ d ∈ rowC M P q, Low n d := low_cellsF wD (low_wD n) _
theorem dm_div {M a i : Nat} (hi : i < M) : (a * M + i) / M = a := by
  rw [Nat.mul_comm, Nat.mul_add_div (by omega), Nat.div_eq_of_lt hi, Nat.add_zero]
theorem dm_mod {M a i : Nat} (hi : i < M) : (a * M + i) % M = i := by
  rw [Nat.mul_comm, Nat.mul_add_mod, Nat.mod_eq_of_lt hi]
theorem dm_lt {N M a i : Nat} (ha : a < N) (hi : i < M) : a * M + i < N * M := by
  have := Nat.mul_le_mul_right M (show a + 1 ≤ N by omega)
  rw [Nat.add_mul] at this
  omega
theorem rowC_at {M a i : Nat} {P : Tb} {A : List (List Wd)} {R : List Wd} (h1 : P[a]? = some A) (h2 : A[i]? = some R) (hi : i < M) : rowC M P (a * M + i) = cellsF wD R := by
  unfold rowC
  rw [dm_div hi, dm_mod hi, show P.getD a [] = A by simp [List.getD, h1], show A.getD i [] = R by simp [List.getD, h2]]
/-- the cells of the rows, one of which is written -/
theorem rowC_set {N M a i j : Nat} {P : Tb} {v : Wd} (h : inW P a i j) (hi : i < M) (hP : P.length = N) : ∀ r, r < N * M → rowC M (set3 P a i j v) r = if r = a * M + i then cellsF wD (((P.getD a []).getD i []).set j v) else rowC M P r := by
  intro r hr
  obtain ⟨A, R, h1, h2, h3⟩ := h
  have e1 : P.getD a [] = A := by simp [List.getD, h1]
  have e2 : A.getD i [] = R := by simp [List.getD, h2]
  have l1 := (List.getElem?_eq_some_iff.1 h1).1
  have l2 := (List.getElem?_eq_some_iff.1 h2).1
  have hM : 0 < M := by omega
  have hdm := Nat.div_add_mod r M
  have hml := Nat.mod_lt r hM
  unfold rowC set3
  rw [e1, e2, getD_set _ _ _ _ _ l1]
  by_cases ha : r / M = a
  · rw [if_pos ha, getD_set _ _ _ _ _ l2]
    by_cases hi2 : r % M = i
    · rw [if_pos hi2, if_pos (by rw [← ha, ← hi2, Nat.mul_comm]; omega)]
    · rw [if_neg hi2, if_neg (fun e => hi2 (by rw [e, dm_mod hi])), ha, e1]
  · rw [if_neg ha, if_neg (fun e => ha (by rw [e, dm_div hi]))]

/-- a table in its blocks -/
theorem part_tab {B N M n K : Nat} {ws : List Wd} {l : List Sy} {P : Tb} {q : Option (List D)} {L : List Blk} {H : Heap} (hM : M = l.length + 1) (hG : GoodP B ws l N P) (hL : Lay 125 N M n q (rowC M P) L) (hK : K = 125 + N + N * M) :
    PartAt (n + K) (mrg n H L) (.ref 1 (n + 23) 1 0 N) P := by
  refine .inr ⟨n + 23, 1, _, by omega, by rw [hG.len], by rw [mrg_loc]; exact hL.b23, by rw [refsG_len, hG.len], fun a A hA => ?_⟩
  have ha : a < N := by have := (List.getElem?_eq_some_iff.1 hA).1; rw [hG.len] at this; exact this
  have mA := List.mem_of_getElem? hA
  have lA := hG.row A mA
  refine ⟨n + (125 + a), 1, _, by omega, by rw [nth_refsG ha, if_pos ha, lA, hM], by rw [mrg_loc]; exact hL.bg a ha, by rw [refsR_len, lA, hM], fun i R hR => ?_⟩
  have hi : i < M := by have := (List.getElem?_eq_some_iff.1 hR).1; omega
  have mR := List.mem_of_getElem? hR
  have lR := hG.col A mA R mR
  have hq := dm_lt ha hi
  refine ⟨n + (125 + N + (a * M + i)), 1, by omega, by rw [nth_refsR hi, if_pos hq, lR, hM], ?_⟩
  rw [mrg_loc, (hL.br _ hq).1, rowC_at hA hR hi]

theorem low_ptr0 {n b ver : Nat} (hb : b < n) : Low n (.ptr b ver 0) := .ptr _ _ _ (.inl hb)
theorem T125 : 23 < 125 := by decide
theorem cwl_lowR {n K : Nat} {σ : Nat → Option Nat} {R : List Wd} {l l' : List D} : CWL n K σ (rowD R :: l) (rowD R :: l') = CWL n K σ l l' := cwl_lowS (low_lstF wD (low_wD n) _)

def partS (n : Nat) (h : Heap) (b ver N M : Nat) (g : Gr) (l : List Sy) (ws : List Wd) (c : Bool) (P : Tb) : St :=
  St.mk n ([.ptr b ver 0, .top, .int .i64 M, .top, .top, .bool c] ++ List.replicate 119 .top) (upd h b ⟨ver, .cells [.int .i64 g.terms, .int .i64 g.nons, .int .i64 g.start, .lst (g.rules.map ruleD), .lst (l.map symD), .lst (ws.map wD), .ref 1 (n + 23) 1 0 N]⟩)
    (tabL 125 N M n N (N * M) none (rowC M P))
def partF (n : Nat) (h : Heap) (b ver N M : Nat) (g : Gr) (l : List Sy) (ws : List Wd) (P : Tb) : St :=
  St.mk n ([.ptr b ver 0, .top, .int .i64 M, .top, .top, .bool false] ++ List.replicate 119 .top) (upd h b ⟨ver, .cells [.int .i64 g.terms, .int .i64 g.nons, .int .i64 g.start, .lst (g.rules.map ruleD), .lst (l.map symD), .lst (ws.map wD), partD P]⟩)
    (List.replicate 125 blk0)

theorem low_partD (n : Nat) (P : Tb) : Low n (partD P) := by
  refine .lst _ fun c hc => ?_
  obtain ⟨A, _, rfl⟩ := List.mem_map.1 hc
  refine .lst _ fun c hc => ?_
  obtain ⟨R, _, rfl⟩ := List.mem_map.1 hc
  exact low_lstF wD (low_wD n) _

/-- the table, handed back as data -/
theorem wk_part {B N M n : Nat} {ws : List Wd} {l : List Sy} {P : Tb} {q : Option (List D)} {L : List Blk} {k : Nat} (hM : M = l.length + 1) (hG : GoodP B ws l N P) (hL : Lay 125 N M n q (rowC M P) L) :
    Wk ⟨n, L, List.replicate k .hole, List.replicate k blk0⟩ (.ref 1 (n + 23) 1 0 N) (partD P) := by
  have no : ∀ t, Src1.old t ∉ List.replicate k Src1.hole := fun t h => by
    have := List.eq_of_mem_replicate h
    cases this
  have gq : ∀ {t cs}, L.getD t blk0 = ⟨1, .cells cs⟩ → L[t]? = some ⟨1, .cells cs⟩ := fun {t cs} h => by
    cases hx : L[t]? with
    | none => simp [List.getD, hx, blk0] at h
    | some x => simp [List.getD, hx] at h; rw [h]
  refine .frz 1 23 1 0 N _ _ (gq hL.b23) (no _) (by simp [hG.len]) (by rw [refsG_len]; omega) (fun d hd => ?_) fun a d hd j e he => ?_
  · obtain ⟨A, _, rfl⟩ := List.mem_map.1 hd; rfl
  · simp only [List.getElem?_map, Option.map_eq_some_iff] at hd
    obtain ⟨A, hA, rfl⟩ := hd
    have ha : a < N := by have := (List.getElem?_eq_some_iff.1 hA).1; rw [hG.len] at this; exact this
    have mA := List.mem_of_getElem? hA
    have lA := hG.row A mA
    rcases j with _ | j
    · have e2 : e = gridD A := by simpa [D.cells] using he.symm
      subst e2
      rw [show 0 + a * 1 + 0 = a by omega, nth_refsG ha, if_pos ha]
      refine .frz 1 (125 + a) 1 0 M _ _ (gq (hL.bg a ha)) (no _) (by simp [lA, hM]) (by rw [refsR_len]; omega) (fun d hd => ?_) fun i d hd j e he => ?_
      · obtain ⟨R, _, rfl⟩ := List.mem_map.1 hd; rfl
      · simp only [List.getElem?_map, Option.map_eq_some_iff] at hd
        obtain ⟨R, hR, rfl⟩ := hd
        have hi : i < M := by have := (List.getElem?_eq_some_iff.1 hR).1; omega
        have mR := List.mem_of_getElem? hR
        have lR := hG.col A mA R mR
        have hq := dm_lt ha hi
        rcases j with _ | j
        · have e2 : e = rowD R := by simpa [D.cells] using he.symm
          subst e2
          rw [show 0 + i * 1 + 0 = i by omega, nth_refsR hi, if_pos hq]
          exact wk_frzF wD (X := ⟨n, L, List.replicate k .hole, List.replicate k blk0⟩) wD_cells (low_wD n) (t := 125 + N + (a * M + i)) rfl (gq (by rw [(hL.br _ hq).1, rowC_at hA hR hi])) (no _) (by omega)
        · simp [D.cells] at he
    · simp [D.cells] at he

set_option maxHeartbeats 4000000 in
theorem parts_loop {B N M : Nat} (g : Gr) (l : List Sy) (ws : List Wd) (P0 F : Tb) (K0 : Nat) {n : Nat} {h : Heap} {b ver : Nat} (hb : b < n) (hl : LowH n h) (hM : M = l.length + 1) (hw : PatW B N ws l) (hB : 1 ≤ B) (hG0 : GoodP B ws l N P0)
    (hr62 : g.rules.length < 2 ^ 62) (hg : ∀ r ∈ g.rules, r.right.length ≤ 4 ∧ (∀ x ∈ r.right, symOk B N x) ∧ 0 ≤ r.left ∧ r.left < N) (hK0 : sum3 B P0 < K0) (hF : runP ws l g.rules K0 P0 = F) (s : St)
    (hs : Abs.Le s (partS n h b ver N M g l ws true P0)) :
    ALoop prog L4_hole_table_parts (AInBlock 4 (FnQ [] fun d h' x' => x' = [] ∧ h' = upd h b ⟨ver, .cells (tabC g l (.lst (ws.map wD)) (partD F))⟩ ∧ d = .tup [])) s := by
  unfold L4_hole_table_parts
  unfold tabC
  have hl12 := hw.len
  have hN10 := hw.ws.few
  refine aloop (fun p : Bool × Tb × Nat => if p.1 = true then partS n h b ver N M g l ws true p.2.1 else partF n h b ver N M g l ws p.2.1)
      (fun p => (p.1 = true → GoodP B ws l N p.2.1 ∧ sum3 B p.2.1 < p.2.2 ∧ runP ws l g.rules p.2.2 p.2.1 = F) ∧ (p.1 = false → p.2.1 = F)) (fun p => p.2.2) (true, P0, K0) ⟨fun _ => ⟨hG0, hK0, hF⟩, fun h => by simp at h⟩ (by simpa using hs) ?_
  rintro ⟨c, P, k⟩ ⟨i1, i2⟩
  cases c with
  | false =>
    have i2 := i2 rfl
    simp only at i2
    subst i2
    simp only [Bool.false_eq_true, if_false]
    unfold partF
    simp -implicitDefEqProofs only [↓symPre, symPost, y_condP, y_condG, run, lver, minD, intsD, eqAll, tupD, splice, Nat.zero_add, Nat.add_zero, Nat.zero_mul, Nat.mul_one, Nat.one_mul, Nat.reduceAdd, Nat.reduceSub, Nat.reduceMul, Nat.reduceLT, Nat.reduceLeDiff, Nat.reduceEqDiff, true_and, and_true, true_implies, if_true, if_false, ite_true, reduceIte, ne_eq, not_false_eq_true, reduceCtorEq, forall_const, bne_self_eq_false, Bool.true_eq_false, Bool.false_eq_true, false_implies, and_self, implies_true, Int.toNat_zero, beq_self_eq_true, decide_true, decide_false, Bool.not_true, Bool.not_false, ↓y_lookv, y_key1, y_mlook, y_mlookn, y_mres1, y_mres0, ↓y_call]
    refine fin_low (lowH_upd hl (fun c hc => ?_)) (.tup _ (by intro c hc; cases hc)) ⟨rfl, rfl, rfl⟩
    simp only [List.mem_cons, List.not_mem_nil, or_false] at hc
    rcases hc with rfl | rfl | rfl | rfl | rfl | rfl | rfl
    · exact .int ..
    · exact .int ..
    · exact .int ..
    · exact low_rules n g.rules
    · exact low_syms n l
    · exact low_lstF wD (low_wD n) _
    · exact low_partD n _
  | true =>
    obtain ⟨j1, j2, j3⟩ := i1 rfl
    simp only at j1 j2 j3
    simp only [if_true]
    unfold partS
    generalize hH : upd h b ⟨ver, .cells [.int .i64 g.terms, .int .i64 g.nons, .int .i64 g.start, .lst (g.rules.map ruleD), .lst (l.map symD), .lst (ws.map wD), .ref 1 (n + 23) 1 0 N]⟩ = H
    have hHb : H b = ⟨ver, .cells [.int .i64 g.terms, .int .i64 g.nons, .int .i64 g.start, .lst (g.rules.map ruleD), .lst (l.map symD), .lst (ws.map wD), .ref 1 (n + 23) 1 0 N]⟩ := by rw [← hH]; simp [upd]
    have mid0 : MidP B ws l N P (P, false) := ⟨j1, fun h => (by cases h), fun _ => rfl⟩
    have lay0 : Lay 125 N M n none (rowC M P) (tabL 125 N M n N (N * M) none (rowC M P)) := Lay.tab (by omega) (fun c h => by cases h) fun r _ => low_rowC n M P r
    generalize hL : tabL 125 N M n N (N * M) none (rowC M P) = L
    rw [hL] at lay0
    simp -implicitDefEqProofs only [↓symPre, symPost, y_condP, y_condG, run, lver, minD, intsD, eqAll, tupD, splice, Nat.zero_add, Nat.add_zero, Nat.zero_mul, Nat.mul_one, Nat.one_mul, Nat.reduceAdd, Nat.reduceSub, Nat.reduceMul, Nat.reduceLT, Nat.reduceLeDiff, Nat.reduceEqDiff, true_and, and_true, true_implies, if_true, if_false, ite_true, reduceIte, ne_eq, not_false_eq_true, reduceCtorEq, forall_const, bne_self_eq_false, Bool.true_eq_false, Bool.false_eq_true, false_implies, and_self, implies_true, Int.toNat_zero, beq_self_eq_true, decide_true, decide_false, Bool.not_true, Bool.not_false, ↓y_lookv, y_key1, y_mlook, y_mlookn, y_mres1, y_mres0, ↓y_call, ↓y_at_old hb, hHb, hb, List.length_map]
    refine aloop (fun p : Nat => St.mk n ([.ptr b ver 0, .top, .int .i64 M, .top, .top, .bool ((g.rules.take p).foldl (stepR ws l) (P, false)).2] ++ List.replicate 65 .top ++ [.lst (g.rules.map ruleD), .int .i64 g.rules.length, .int .i64 p] ++ List.replicate 51 .top) H
        (tabL 125 N M n N (N * M) none (rowC M ((g.rules.take p).foldl (stepR ws l) (P, false)).1))) (fun p => p ≤ g.rules.length) (fun p => g.rules.length - p) 0 (Nat.zero_le _) ?_ ?_
    · rw [← hH]
      refine lay0.le hl (by omega) ?_ ?_
      · simp only [List.replicate, List.cons_append, List.nil_append, Int.cast_ofNat_Int, Option.isSome_some, Option.isSome_none, cwl_top, cwl_int, cwl_bool, cwl_nil, cwl_lowS (low_rules n g.rules), cwl_lowS (low_syms n l), cwl_lowS (low_lstF wD (low_wD n) ws), cwl_lowS (low_ptr0 hb), cwl_lowR, cwl_23, cwl_7, T125, List.take_zero, List.range_zero, List.foldl_nil]
      · simp only [List.replicate, List.cons_append, List.nil_append, Int.cast_ofNat_Int, Option.isSome_some, Option.isSome_none, cwl_top, cwl_int, cwl_bool, cwl_nil, cwl_lowS (low_rules n g.rules), cwl_lowS (low_syms n l), cwl_lowS (low_lstF wD (low_wD n) ws), cwl_lowS (low_ptr0 hb), cwl_lowR, cwl_23, cwl_7, T125, List.take_zero, List.range_zero, List.foldl_nil]
    · intro p hp
      have hmid := foldR_mid hB hw (fun r hr => ⟨(hg r hr).2.2, (hg r hr).2.1⟩) mid0 p hp
      by_cases hlt : p < g.rules.length
      · have f1 : (p : Int) < (g.rules.length : Int) := by omega
        have f0 : (0 : Int) ≤ (p : Int) := by omega
        have e0 := nth_rule g p hlt
        have tk : (g.rules.take (p + 1)).foldl (stepR ws l) (P, false) = stepR ws l ((g.rules.take p).foldl (stepR ws l) (P, false)) (g.rules.getD p ru0) := by
          rw [← List.take_append_getElem hlt, List.foldl_append, show g.rules.getD p ru0 = g.rules[p] by simp [List.getD, hlt]]; rfl
        generalize hS : (g.rules.take p).foldl (stepR ws l) (P, false) = S at *
        obtain ⟨P1, c1⟩ := S
        have hgi := hg (g.rules.getD p ru0) (by simp [List.getD, hlt])
        generalize hr : g.rules.getD p ru0 = r at *
        obtain ⟨rl, rr⟩ := r
        simp only at e0 hgi
        obtain ⟨hg1, hg2, hg3, hg4⟩ := hgi
        obtain ⟨a, rfl⟩ : ∃ a : Nat, rl = a := ⟨rl.toNat, by omega⟩
        have haN : a < N := by omega
        have lay1 : Lay 125 N M n none (rowC M P1) (tabL 125 N M n N (N * M) none (rowC M P1)) := Lay.tab (by omega) (fun c h => by cases h) fun r _ => low_rowC n M P1 r
        have k7 : 7 < 125 + N + N * M := by omega
        have k10 : 10 < 125 + N + N * M := by omega
        have g7 : (tabL 125 N M n N (N * M) none (rowC M P1)).getD 7 blk0 = blk0 := tab_7 (by omega)
        have gl := lay1.len
        generalize hL1 : tabL 125 N M n N (N * M) none (rowC M P1) = L1 at *
        simp -implicitDefEqProofs only [↓symPre, symPost, y_condP, y_condG, run, lver, minD, intsD, eqAll, tupD, splice, Nat.zero_add, Nat.add_zero, Nat.zero_mul, Nat.mul_one, Nat.one_mul, Nat.reduceAdd, Nat.reduceSub, Nat.reduceMul, Nat.reduceLT, Nat.reduceLeDiff, Nat.reduceEqDiff, true_and, and_true, true_implies, if_true, if_false, ite_true, reduceIte, ne_eq, not_false_eq_true, reduceCtorEq, forall_const, bne_self_eq_false, Bool.true_eq_false, Bool.false_eq_true, false_implies, and_self, implies_true, Int.toNat_zero, beq_self_eq_true, decide_true, decide_false, Bool.not_true, Bool.not_false, ↓y_lookv, y_key1, y_mlook, y_mlookn, y_mres1, y_mres0, ↓y_call, ↓y_at_old hb, hHb, hb, List.length_map, f1, f0, decide_true, Int.toNat_natCast, e0, g7, gl, k7, k10, bgetD_set_ne, bgetD_set_eq, List.length_set, not_false_eq_true]
        have lay7 := lay1.set7 (c := [.int .i64 (a : Int), .lst (rr.map symD)]) (by omega) (fun d hd => by
          simp only [List.mem_cons, List.not_mem_nil, or_false] at hd
          rcases hd with rfl | rfl
          · exact .int ..
          · exact low_syms n rr)
        have e77 : (L1.set 7 ⟨1, .cells [.int .i64 0, .nils]⟩).set 7 ⟨1, .cells [.int .i64 (a : Int), .lst (rr.map symD)]⟩ = L1.set 7 ⟨1, .cells [.int .i64 (a : Int), .lst (rr.map symD)]⟩ := by rw [List.set_set]
        rw [e77]
        refine aloop (fun i : Nat => St.mk n ([.ptr b ver 0, .top, .int .i64 M, .top, .top, .bool ((List.range i).foldl (stepI ws l ⟨a, rr⟩) (P1, c1)).2, .top, .ptr (n + 7) 1 0] ++ List.replicate 63 .top ++ [.lst (g.rules.map ruleD), .int .i64 g.rules.length, .int .i64 p] ++ List.replicate 3 .top ++ [.int .i64 M, .int .i64 i] ++ List.replicate 46 .top) H
            (tabL 125 N M n N (N * M) (some [.int .i64 (a : Int), .lst (rr.map symD)]) (rowC M ((List.range i).foldl (stepI ws l ⟨a, rr⟩) (P1, c1)).1))) (fun i => i ≤ M) (fun i => M - i) 0 (Nat.zero_le _) ?_ ?_
        · rw [← hH]
          refine lay7.le hl (by omega) ?_ ?_
          · simp only [List.replicate, List.cons_append, List.nil_append, Int.cast_ofNat_Int, Option.isSome_some, Option.isSome_none, cwl_top, cwl_int, cwl_bool, cwl_nil, cwl_lowS (low_rules n g.rules), cwl_lowS (low_syms n l), cwl_lowS (low_lstF wD (low_wD n) ws), cwl_lowS (low_ptr0 hb), cwl_lowR, cwl_23, cwl_7, T125, List.take_zero, List.range_zero, List.foldl_nil]
          · simp only [List.replicate, List.cons_append, List.nil_append, Int.cast_ofNat_Int, Option.isSome_some, Option.isSome_none, cwl_top, cwl_int, cwl_bool, cwl_nil, cwl_lowS (low_rules n g.rules), cwl_lowS (low_syms n l), cwl_lowS (low_lstF wD (low_wD n) ws), cwl_lowS (low_ptr0 hb), cwl_lowR, cwl_23, cwl_7, T125, List.take_zero, List.range_zero, List.foldl_nil]
        · intro i hi
          have hmi := foldI_mid hB hw (r := ⟨(a : Int), rr⟩) ⟨hg3, hg4⟩ hg2 hmid i (by omega)
          by_cases hil : i < M
          · have f1 : (i : Int) < (M : Int) := by omega
            have f0 : (0 : Int) ≤ (i : Int) := by omega
            have tki : (List.range (i + 1)).foldl (stepI ws l ⟨a, rr⟩) (P1, c1) = stepI ws l ⟨a, rr⟩ ((List.range i).foldl (stepI ws l ⟨a, rr⟩) (P1, c1)) i := by
              rw [List.range_succ, List.foldl_append]; rfl
            generalize (List.range i).foldl (stepI ws l ⟨a, rr⟩) (P1, c1) = S at *
            obtain ⟨P2, c2⟩ := S
            try simp only
            have low7 : ∀ c, some [D.int .i64 (a : Int), .lst (rr.map symD)] = some c → ∀ d ∈ c, Low n d := fun c hc d hd => by
              injection hc with hc; subst hc
              simp only [List.mem_cons, List.not_mem_nil, or_false] at hd
              rcases hd with rfl | rfl
              · exact .int ..
              · exact low_syms n rr
            have lay2 : Lay 125 N M n (some [.int .i64 (a : Int), .lst (rr.map symD)]) (rowC M P2) (tabL 125 N M n N (N * M) (some [.int .i64 (a : Int), .lst (rr.map symD)]) (rowC M P2)) := Lay.tab (by omega) low7 fun r _ => low_rowC n M P2 r
            have g7 : (tabL 125 N M n N (N * M) (some [.int .i64 (a : Int), .lst (rr.map symD)]) (rowC M P2)).getD 7 blk0 = ⟨1, .cells [.int .i64 (a : Int), .lst (rr.map symD)]⟩ := tab_7 (by omega)
            have gl2 := lay2.len
            have hf := fun K hK => at_row g l ws P2 (.lst (ws.map wD)) (.ref 1 (n + 23) 1 0 N) (n := n + K) (h := mrg n H (tabL 125 N M n N (N * M) (some [.int .i64 (a : Int), .lst (rr.map symD)]) (rowC M P2))) (b := b) (ver := ver) (by omega) (by rw [mrg_lt hb]; exact hHb) (.inl rfl) (part_tab hM hmi.good lay2 hK) hw hmi.good ⟨a, rr⟩ i (by omega) hg1 hg2
            have hrow := rowX_good hw hmi.good (i := i) (by omega) hg2 rr.length (Nat.le_refl _)
            rw [List.take_length] at hrow
            have hsti : stepI ws l ⟨a, rr⟩ (P2, c2) i = (List.range M).foldl (stepJ (rowX ws P2 l i rr) a i) (P2, c2) := by
              unfold stepI; rw [hM]; rfl
            simp only at hf
            generalize rowX ws P2 l i rr = row at *
            generalize hL2 : tabL 125 N M n N (N * M) (some [.int .i64 (a : Int), .lst (rr.map symD)]) (rowC M P2) = L2 at *
            unfold ruleD at hf
            simp only at hf
            have lrow : row.length = M := by rw [hrow.len, hM]
            simp -implicitDefEqProofs only [↓symPre, symPost, y_condP, y_condG, run, lver, minD, intsD, eqAll, tupD, splice, Nat.zero_add, Nat.add_zero, Nat.zero_mul, Nat.mul_one, Nat.one_mul, Nat.reduceAdd, Nat.reduceSub, Nat.reduceMul, Nat.reduceLT, Nat.reduceLeDiff, Nat.reduceEqDiff, true_and, and_true, true_implies, if_true, if_false, ite_true, reduceIte, ne_eq, not_false_eq_true, reduceCtorEq, forall_const, bne_self_eq_false, Bool.true_eq_false, Bool.false_eq_true, false_implies, and_self, implies_true, Int.toNat_zero, beq_self_eq_true, decide_true, decide_false, Bool.not_true, Bool.not_false, ↓y_lookv, y_key1, y_mlook, y_mlookn, y_mres1, y_mres0, ↓y_call, ↓y_at_old hb, hHb, hb, List.length_map, f1, decide_true, Int.toNat_natCast, g7, gl2]
            refine ACalls.none0 rfl (hf _ rfl) ?_
            simp -implicitDefEqProofs only [↓symPre, symPost, y_condP, y_condG, run, lver, minD, intsD, eqAll, tupD, splice, Nat.zero_add, Nat.add_zero, Nat.zero_mul, Nat.mul_one, Nat.one_mul, Nat.reduceAdd, Nat.reduceSub, Nat.reduceMul, Nat.reduceLT, Nat.reduceLeDiff, Nat.reduceEqDiff, true_and, and_true, true_implies, if_true, if_false, ite_true, reduceIte, ne_eq, not_false_eq_true, reduceCtorEq, forall_const, bne_self_eq_false, Bool.true_eq_false, Bool.false_eq_true, false_implies, and_self, implies_true, Int.toNat_zero, beq_self_eq_true, decide_true, decide_false, Bool.not_true, Bool.not_false, ↓y_lookv, y_key1, y_mlook, y_mlookn, y_mres1, y_mres0, ↓y_call, List.length_map, lrow]
            refine aloop (fun j : Nat => St.mk n ([.ptr b ver 0, .top, .int .i64 M, .top, .top, .bool ((List.range j).foldl (stepJ row a i) (P2, c2)).2, .top, .ptr (n + 7) 1 0, .int .i64 i] ++ List.replicate 62 .top ++ [.lst (g.rules.map ruleD), .int .i64 g.rules.length, .int .i64 p] ++ List.replicate 3 .top ++ [.int .i64 M, .int .i64 i] ++ List.replicate 5 .top ++ [rowD row, .int .i64 M, .int .i64 j] ++ List.replicate 38 .top) H
                (tabL 125 N M n N (N * M) (some [.int .i64 (a : Int), .lst (rr.map symD)]) (rowC M ((List.range j).foldl (stepJ row a i) (P2, c2)).1))) (fun j => j ≤ M) (fun j => M - j) 0 (Nat.zero_le _) ?_ ?_
            · rw [← hH]
              refine lay2.le hl (by omega) ?_ ?_
              · simp only [List.replicate, List.cons_append, List.nil_append, Int.cast_ofNat_Int, Option.isSome_some, Option.isSome_none, cwl_top, cwl_int, cwl_bool, cwl_nil, cwl_lowS (low_rules n g.rules), cwl_lowS (low_syms n l), cwl_lowS (low_lstF wD (low_wD n) ws), cwl_lowS (low_ptr0 hb), cwl_lowR, cwl_23, cwl_7, T125, List.take_zero, List.range_zero, List.foldl_nil]
              · simp only [List.replicate, List.cons_append, List.nil_append, Int.cast_ofNat_Int, Option.isSome_some, Option.isSome_none, cwl_top, cwl_int, cwl_bool, cwl_nil, cwl_lowS (low_rules n g.rules), cwl_lowS (low_syms n l), cwl_lowS (low_lstF wD (low_wD n) ws), cwl_lowS (low_ptr0 hb), cwl_lowR, cwl_23, cwl_7, T125, List.take_zero, List.range_zero, List.foldl_nil]
            · intro j hj
              have hmj := foldJ_mid hB haN (by omega : i ≤ l.length) hrow hmi j (by omega)
              by_cases hjl : j < M
              · have f1 : (j : Int) < (M : Int) := by omega
                have f0 : (0 : Int) ≤ (j : Int) := by omega
                have i0 : (0 : Int) ≤ (i : Int) := by omega
                have i1 : (i : Int) < (M : Int) := by omega
                have tkj : (List.range (j + 1)).foldl (stepJ row a i) (P2, c2) = stepJ row a i ((List.range j).foldl (stepJ row a i) (P2, c2)) j := by
                  rw [List.range_succ, List.foldl_append]; rfl
                generalize (List.range j).foldl (stepJ row a i) (P2, c2) = S at *
                obtain ⟨P3, c3⟩ := S
                try simp only
                have lay3 : Lay 125 N M n (some [.int .i64 (a : Int), .lst (rr.map symD)]) (rowC M P3) (tabL 125 N M n N (N * M) (some [.int .i64 (a : Int), .lst (rr.map symD)]) (rowC M P3)) := Lay.tab (by omega) low7 fun r _ => low_rowC n M P3 r
                have hin := hmj.good.inW haN (by omega : i ≤ l.length) (by omega : j ≤ l.length)
                have hent := hmj.good.ent a i j haN (by omega) (by omega)
                obtain ⟨A, R, q1, q2, q3⟩ := id hin
                have hkk := dm_lt haN hil
                have g3 := (lay3.br _ hkk).1
                rw [rowC_at q1 q2 hil] at g3
                have gA := lay3.bg a haN
                have nA := nth_refsG (T := 125) (n := n) (M := M) (ga := N) haN
                have nR := nth_refsR (T := 125) (n := n) (M := M) (N := N) (rb := N * M) (r := a) hil
                rw [if_pos haN] at nA
                rw [if_pos hkk] at nR
                have g7 := (lay3.b7 _ rfl).1
                have g10 : (tabL 125 N M n N (N * M) (some [.int .i64 (a : Int), .lst (rr.map symD)]) (rowC M P3)).getD 10 blk0 = blk0 := tab_no (by omega) (by omega) (by omega)
                have g23 := lay3.b23
                have gl3 := lay3.len
                have rfl1 := refsG_len 125 n M N N
                have rfl2 := refsR_len 125 n M N (N * M) a
                have mA := List.mem_of_getElem? q1
                have lR : R.length = M := by rw [hM]; exact hmj.good.col A mA R (List.mem_of_getElem? q2)
                have hpe := partW_eq q1 q2 (j := j)
                have e1 := nth_wD row j (by omega)
                have e2 := cells_wD R j (by omega)
                have elen : (cellsF wD R).length = M * 3 := by rw [cellsF_len wD wD_cells R, lR]
                have ij : j * 3 + 3 ≤ M * 3 := by omega
                have pS := pure_shorter1 (row.getD j wd0) (R.getD j wd0) (hrow.ent j (by omega)).ok (by rw [← hpe]; exact hent.ok)
                have hput := cells_put wD_cells R (i := j) (by omega) (row.getD j wd0)
                have hrs := rowC_set (N := N) (v := row.getD j wd0) hin hil hmj.good.len
                rw [show (P3.getD a []).getD i [] = R by rw [show P3.getD a [] = A by simp [List.getD, q1]]; simp [List.getD, q2]] at hrs
                have w2 : IntKind.i64.wrap ((j : Int) + 1) = ((j + 1 : Nat) : Int) := by rw [IntWalk.i64_in _ (by omega)]; omega
                have hst : stepJ row a i (P3, c3) j = if shorterW (row.getD j wd0) wd1 (R.getD j wd0) = true then (set3 P3 a i j (row.getD j wd0), true) else (P3, c3) := by
                  unfold stepJ chkP; rw [hpe]
                have lowv : ∀ c ∈ cellsF wD (R.set j (row.getD j wd0)), Low n c := low_cellsF wD (low_wD n) _
                have k2 : 125 + N + (a * M + i) < 125 + N + N * M := by omega
                have k1 : 125 + a < 125 + N + N * M := by omega
                have m1 : ¬ 10 = 125 + a := by omega
                have m2 : ¬ 10 = 125 + N + (a * M + i) := by omega
                generalize row.getD j wd0 = v at *
                generalize R.getD j wd0 = c at *
                generalize hsh : shorterW v wd1 c = sh at *
                obtain ⟨vo, vn, vw⟩ := v
                obtain ⟨co, cn, cw⟩ := c
                unfold wD wdN at pS
                simp only at pS e1 e2
                have e1 : nth (row.map wD) j = .agg [.bool vo, .int .i64 vn, iD vw] := e1
                generalize hL3 : tabL 125 N M n N (N * M) (some [.int .i64 (a : Int), .lst (rr.map symD)]) (rowC M P3) = L3 at *
                generalize refsG 125 n M N N = RG at *
                generalize refsR 125 n M N (N * M) a = RR at *
                generalize hk : 125 + N + (a * M + i) = kk at *
                generalize hka : 125 + a = ka at *
                have a0 : (0 : Int) ≤ (a : Int) := by omega
                simp -implicitDefEqProofs only [↓symPre, symPost, y_condP, y_condG, run, lver, minD, intsD, eqAll, tupD, splice, Nat.zero_add, Nat.add_zero, Nat.zero_mul, Nat.mul_one, Nat.one_mul, Nat.reduceAdd, Nat.reduceSub, Nat.reduceMul, Nat.reduceLT, Nat.reduceLeDiff, Nat.reduceEqDiff, true_and, and_true, true_implies, if_true, if_false, ite_true, reduceIte, ne_eq, not_false_eq_true, reduceCtorEq, forall_const, bne_self_eq_false, Bool.true_eq_false, Bool.false_eq_true, false_implies, and_self, implies_true, Int.toNat_zero, beq_self_eq_true, decide_true, decide_false, Bool.not_true, Bool.not_false, ↓y_lookv, y_key1, y_mlook, y_mlookn, y_mres1, y_mres0, ↓y_call, ↓y_at_old hb, hHb, hb, List.length_map, lrow, f1, f0, decide_true, Int.toNat_natCast, e1, g10, gl3, k10, bgetD_set_ne, bgetD_set_eq, List.length_set, not_false_eq_true]
                refine adrawq hmix [] ?_
                simp (maxSteps := 400000) -implicitDefEqProofs only [↓symPre, symPost, y_condP, y_condG, run, lver, minD, intsD, eqAll, tupD, splice, Nat.zero_add, Nat.add_zero, Nat.zero_mul, Nat.mul_one, Nat.one_mul, Nat.reduceAdd, Nat.reduceSub, Nat.reduceMul, Nat.reduceLT, Nat.reduceLeDiff, Nat.reduceEqDiff, true_and, and_true, true_implies, if_true, if_false, ite_true, reduceIte, ne_eq, not_false_eq_true, reduceCtorEq, forall_const, bne_self_eq_false, Bool.true_eq_false, Bool.false_eq_true, false_implies, and_self, implies_true, Int.toNat_zero, beq_self_eq_true, decide_true, decide_false, Bool.not_true, Bool.not_false, ↓y_lookv, y_key1, y_mlook, y_mlookn, y_mres1, y_mres0, ↓y_call, ↓y_adq0, ↓y_adq, ↓y_stepQ_call, ↓y_adq_onT, ↓y_adq_onF, ↓y_adq_onS, drawPost, isCall, isNew, isEff, Option.toList, or_false, false_or, cond_true, cond_false, not_true_eq_false, or_true, true_or, Nat.add_left_cancel_iff, Bool.false_eq_true, ↓y_q0, ↓y_q1, ↓y_q1e, y_qn, isMap, ↓y_at_old hb, hHb, hb, List.length_map, Int.toNat_natCast, f0, f1, i0, i1, a0, hg4, haN, hil, hjl, g7, g10, g23, gA, g3, nA, nR, rfl1, rfl2, e2, elen, ij, gl3, k10, k7, k1, k2, m1, m2, bgetD_set_ne, bgetD_set_eq, List.length_set, not_false_eq_true, Int.toNat_natCast, w2]
                refine ⟨_, _, pS.draw rfl, (by simp [y_cov0, y_cov1, isNew, isEff, Option.toList]), ?_⟩
                cases sh with
                | true =>
                  simp (maxSteps := 400000) -implicitDefEqProofs only [↓symPre, symPost, y_condP, y_condG, run, lver, minD, intsD, eqAll, tupD, splice, Nat.zero_add, Nat.add_zero, Nat.zero_mul, Nat.mul_one, Nat.one_mul, Nat.reduceAdd, Nat.reduceSub, Nat.reduceMul, Nat.reduceLT, Nat.reduceLeDiff, Nat.reduceEqDiff, true_and, and_true, true_implies, if_true, if_false, ite_true, reduceIte, ne_eq, not_false_eq_true, reduceCtorEq, forall_const, bne_self_eq_false, Bool.true_eq_false, Bool.false_eq_true, false_implies, and_self, implies_true, Int.toNat_zero, beq_self_eq_true, decide_true, decide_false, Bool.not_true, Bool.not_false, ↓y_lookv, y_key1, y_mlook, y_mlookn, y_mres1, y_mres0, ↓y_call, ↓y_adq0, ↓y_adq, ↓y_stepQ_call, ↓y_adq_onT, ↓y_adq_onF, ↓y_adq_onS, drawPost, isCall, isNew, isEff, Option.toList, or_false, false_or, cond_true, cond_false, not_true_eq_false, or_true, true_or, Nat.add_left_cancel_iff, Bool.false_eq_true, ↓y_q0, ↓y_q1, ↓y_q1e, y_qn, isMap, ↓y_at_old hb, hHb, hb, List.length_map, Int.toNat_natCast, f0, f1, i0, i1, a0, hg4, haN, hil, hjl, g7, g10, g23, gA, g3, nA, nR, rfl1, rfl2, e2, elen, ij, gl3, k10, k7, k1, k2, m1, m2, bgetD_set_ne, bgetD_set_eq, List.length_set, not_false_eq_true, Int.toNat_natCast, w2]
                  refine adrawq hmix (List.replicate 14 [] ++ [[n + kk]]) ?_
                  simp (maxSteps := 400000) -implicitDefEqProofs only [↓symPre, symPost, y_condP, y_condG, run, lver, minD, intsD, eqAll, tupD, splice, Nat.zero_add, Nat.add_zero, Nat.zero_mul, Nat.mul_one, Nat.one_mul, Nat.reduceAdd, Nat.reduceSub, Nat.reduceMul, Nat.reduceLT, Nat.reduceLeDiff, Nat.reduceEqDiff, true_and, and_true, true_implies, if_true, if_false, ite_true, reduceIte, ne_eq, not_false_eq_true, reduceCtorEq, forall_const, bne_self_eq_false, Bool.true_eq_false, Bool.false_eq_true, false_implies, and_self, implies_true, Int.toNat_zero, beq_self_eq_true, decide_true, decide_false, Bool.not_true, Bool.not_false, ↓y_lookv, y_key1, y_mlook, y_mlookn, y_mres1, y_mres0, ↓y_call, ↓y_adq0, ↓y_adq, ↓y_stepQ_call, ↓y_adq_onT, ↓y_adq_onF, ↓y_adq_onS, drawPost, isCall, isNew, isEff, Option.toList, or_false, false_or, cond_true, cond_false, not_true_eq_false, or_true, true_or, Nat.add_left_cancel_iff, Bool.false_eq_true, ↓y_q0, ↓y_q1, ↓y_q1e, y_qn, isMap, ↓y_at_old hb, hHb, hb, List.length_map, Int.toNat_natCast, f0, f1, i0, i1, a0, hg4, haN, hil, hjl, g7, g10, g23, gA, g3, nA, nR, rfl1, rfl2, e2, elen, ij, gl3, k10, k7, k1, k2, m1, m2, bgetD_set_ne, bgetD_set_eq, List.length_set, not_false_eq_true, Int.toNat_natCast, w2]
                  refine ⟨by rintro c (rfl | rfl | rfl) <;> rfl, j + 1, by omega, by omega, ?_⟩
                  have hput' : List.take (j * 3) (cellsF wD R) ++ [.bool vo, .int .i64 vn, iD vw] ++ List.drop (j * 3 + 3) (cellsF wD R) = cellsF wD (R.set j ⟨vo, vn, vw⟩) := hput
                  rw [tkj, hst, if_pos rfl, ← hH, hput']
                  subst hk
                  have layB := ((lay3.other T125 (t := 10) ⟨1, .cells [.bool false, .int .i64 0, .nils]⟩ (.inl (by omega)) (by omega) (by omega)).other T125 (t := 10) ⟨1, .cells [.bool vo, .int .i64 vn, iD vw]⟩ (.inl (by omega)) (by omega) (by omega)).row T125 hkk lowv hrs
                  refine layB.le hl T125 ?_ ?_
                  · simp only [List.replicate, List.cons_append, List.nil_append, Int.cast_ofNat_Int, Option.isSome_some, Option.isSome_none, cwl_top, cwl_int, cwl_bool, cwl_nil, cwl_lowS (low_rules n g.rules), cwl_lowS (low_syms n l), cwl_lowS (low_lstF wD (low_wD n) ws), cwl_lowS (low_ptr0 hb), cwl_lowR, cwl_23, cwl_7, T125, List.take_zero, List.range_zero, List.foldl_nil]
                  · simp only [List.replicate, List.cons_append, List.nil_append, Int.cast_ofNat_Int, Option.isSome_some, Option.isSome_none, cwl_top, cwl_int, cwl_bool, cwl_nil, cwl_lowS (low_rules n g.rules), cwl_lowS (low_syms n l), cwl_lowS (low_lstF wD (low_wD n) ws), cwl_lowS (low_ptr0 hb), cwl_lowR, cwl_23, cwl_7, T125, List.take_zero, List.range_zero, List.foldl_nil]
                | false =>
                  simp (maxSteps := 400000) -implicitDefEqProofs only [↓symPre, symPost, y_condP, y_condG, run, lver, minD, intsD, eqAll, tupD, splice, Nat.zero_add, Nat.add_zero, Nat.zero_mul, Nat.mul_one, Nat.one_mul, Nat.reduceAdd, Nat.reduceSub, Nat.reduceMul, Nat.reduceLT, Nat.reduceLeDiff, Nat.reduceEqDiff, true_and, and_true, true_implies, if_true, if_false, ite_true, reduceIte, ne_eq, not_false_eq_true, reduceCtorEq, forall_const, bne_self_eq_false, Bool.true_eq_false, Bool.false_eq_true, false_implies, and_self, implies_true, Int.toNat_zero, beq_self_eq_true, decide_true, decide_false, Bool.not_true, Bool.not_false, ↓y_lookv, y_key1, y_mlook, y_mlookn, y_mres1, y_mres0, ↓y_call, ↓y_adq0, ↓y_adq, ↓y_stepQ_call, ↓y_adq_onT, ↓y_adq_onF, ↓y_adq_onS, drawPost, isCall, isNew, isEff, Option.toList, or_false, false_or, cond_true, cond_false, not_true_eq_false, or_true, true_or, Nat.add_left_cancel_iff, Bool.false_eq_true, ↓y_q0, ↓y_q1, ↓y_q1e, y_qn, isMap, ↓y_at_old hb, hHb, hb, List.length_map, Int.toNat_natCast, f0, f1, i0, i1, a0, hg4, haN, hil, hjl, g7, g10, g23, gA, g3, nA, nR, rfl1, rfl2, e2, elen, ij, gl3, k10, k7, k1, k2, m1, m2, bgetD_set_ne, bgetD_set_eq, List.length_set, not_false_eq_true, Int.toNat_natCast, w2]
                  refine ⟨j + 1, by omega, by omega, ?_⟩
                  rw [tkj, hst, if_neg (by simp), ← hH]
                  have layB := (lay3.other T125 (t := 10) ⟨1, .cells [.bool false, .int .i64 0, .nils]⟩ (.inl (by omega)) (by omega) (by omega)).other T125 (t := 10) ⟨1, .cells [.bool vo, .int .i64 vn, iD vw]⟩ (.inl (by omega)) (by omega) (by omega)
                  refine layB.le hl T125 ?_ ?_
                  · simp only [List.replicate, List.cons_append, List.nil_append, Int.cast_ofNat_Int, Option.isSome_some, Option.isSome_none, cwl_top, cwl_int, cwl_bool, cwl_nil, cwl_lowS (low_rules n g.rules), cwl_lowS (low_syms n l), cwl_lowS (low_lstF wD (low_wD n) ws), cwl_lowS (low_ptr0 hb), cwl_lowR, cwl_23, cwl_7, T125, List.take_zero, List.range_zero, List.foldl_nil]
                  · simp only [List.replicate, List.cons_append, List.nil_append, Int.cast_ofNat_Int, Option.isSome_some, Option.isSome_none, cwl_top, cwl_int, cwl_bool, cwl_nil, cwl_lowS (low_rules n g.rules), cwl_lowS (low_syms n l), cwl_lowS (low_lstF wD (low_wD n) ws), cwl_lowS (low_ptr0 hb), cwl_lowR, cwl_23, cwl_7, T125, List.take_zero, List.range_zero, List.foldl_nil]
              · have f1 : ¬ (j : Int) < (M : Int) := by omega
                obtain rfl : j = M := by omega
                have hsr : (List.range (i + 1)).foldl (stepI ws l ⟨a, rr⟩) (P1, c1) = (List.range j).foldl (stepJ row a i) (P2, c2) := by
                  rw [tki, hsti]
                generalize (List.range j).foldl (stepJ row a i) (P2, c2) = S at *
                obtain ⟨P3, c3⟩ := S
                have lay3 : Lay 125 N j n (some [.int .i64 (a : Int), .lst (rr.map symD)]) (rowC j P3) (tabL 125 N j n N (N * j) (some [.int .i64 (a : Int), .lst (rr.map symD)]) (rowC j P3)) := Lay.tab (by omega) low7 fun r _ => low_rowC n j P3 r
                have w1 : IntKind.i64.wrap ((i : Int) + 1) = ((i + 1 : Nat) : Int) := by rw [IntWalk.i64_in _ (by omega)]; omega
                simp -implicitDefEqProofs only [↓symPre, symPost, y_condP, y_condG, run, lver, minD, intsD, eqAll, tupD, splice, Nat.zero_add, Nat.add_zero, Nat.zero_mul, Nat.mul_one, Nat.one_mul, Nat.reduceAdd, Nat.reduceSub, Nat.reduceMul, Nat.reduceLT, Nat.reduceLeDiff, Nat.reduceEqDiff, true_and, and_true, true_implies, if_true, if_false, ite_true, reduceIte, ne_eq, not_false_eq_true, reduceCtorEq, forall_const, bne_self_eq_false, Bool.true_eq_false, Bool.false_eq_true, false_implies, and_self, implies_true, Int.toNat_zero, beq_self_eq_true, decide_true, decide_false, Bool.not_true, Bool.not_false, ↓y_lookv, y_key1, y_mlook, y_mlookn, y_mres1, y_mres0, ↓y_call, f1, decide_false, w1]
                refine ⟨i + 1, by omega, by omega, ?_⟩
                rw [hsr, ← hH]
                refine lay3.le hl (by omega) ?_ ?_
                · simp only [List.replicate, List.cons_append, List.nil_append, Int.cast_ofNat_Int, Option.isSome_some, Option.isSome_none, cwl_top, cwl_int, cwl_bool, cwl_nil, cwl_lowS (low_rules n g.rules), cwl_lowS (low_syms n l), cwl_lowS (low_lstF wD (low_wD n) ws), cwl_lowS (low_ptr0 hb), cwl_lowR, cwl_23, cwl_7, T125, List.take_zero, List.range_zero, List.foldl_nil]
                · simp only [List.replicate, List.cons_append, List.nil_append, Int.cast_ofNat_Int, Option.isSome_some, Option.isSome_none, cwl_top, cwl_int, cwl_bool, cwl_nil, cwl_lowS (low_rules n g.rules), cwl_lowS (low_syms n l), cwl_lowS (low_lstF wD (low_wD n) ws), cwl_lowS (low_ptr0 hb), cwl_lowR, cwl_23, cwl_7, T125, List.take_zero, List.range_zero, List.foldl_nil]
          · have f1 : ¬ (i : Int) < (M : Int) := by omega
            obtain rfl : i = M := by omega
            have hsr : (g.rules.take (p + 1)).foldl (stepR ws l) (P, false) = (List.range i).foldl (stepI ws l ⟨a, rr⟩) (P1, c1) := by
              rw [tk, hM]; rfl
            generalize (List.range i).foldl (stepI ws l ⟨a, rr⟩) (P1, c1) = S at *
            obtain ⟨P2, c2⟩ := S
            have low7 : ∀ c, some [D.int .i64 (a : Int), .lst (rr.map symD)] = some c → ∀ d ∈ c, Low n d := fun c hc d hd => by
              injection hc with hc; subst hc
              simp only [List.mem_cons, List.not_mem_nil, or_false] at hd
              rcases hd with rfl | rfl
              · exact .int ..
              · exact low_syms n rr
            have lay2 : Lay 125 N i n (some [.int .i64 (a : Int), .lst (rr.map symD)]) (rowC i P2) (tabL 125 N i n N (N * i) (some [.int .i64 (a : Int), .lst (rr.map symD)]) (rowC i P2)) := Lay.tab (by omega) low7 fun r _ => low_rowC n i P2 r
            have w1 : IntKind.i64.wrap ((p : Int) + 1) = ((p + 1 : Nat) : Int) := by rw [IntWalk.i64_in _ (by omega)]; omega
            simp -implicitDefEqProofs only [↓symPre, symPost, y_condP, y_condG, run, lver, minD, intsD, eqAll, tupD, splice, Nat.zero_add, Nat.add_zero, Nat.zero_mul, Nat.mul_one, Nat.one_mul, Nat.reduceAdd, Nat.reduceSub, Nat.reduceMul, Nat.reduceLT, Nat.reduceLeDiff, Nat.reduceEqDiff, true_and, and_true, true_implies, if_true, if_false, ite_true, reduceIte, ne_eq, not_false_eq_true, reduceCtorEq, forall_const, bne_self_eq_false, Bool.true_eq_false, Bool.false_eq_true, false_implies, and_self, implies_true, Int.toNat_zero, beq_self_eq_true, decide_true, decide_false, Bool.not_true, Bool.not_false, ↓y_lookv, y_key1, y_mlook, y_mlookn, y_mres1, y_mres0, ↓y_call, f1, decide_false, w1]
            refine ⟨p + 1, by omega, by omega, ?_⟩
            rw [hsr, ← hH]
            refine lay2.no7.le hl (by omega) ?_ ?_
            · simp only [List.replicate, List.cons_append, List.nil_append, Int.cast_ofNat_Int, Option.isSome_some, Option.isSome_none, cwl_top, cwl_int, cwl_bool, cwl_nil, cwl_lowS (low_rules n g.rules), cwl_lowS (low_syms n l), cwl_lowS (low_lstF wD (low_wD n) ws), cwl_lowS (low_ptr0 hb), cwl_lowR, cwl_23, cwl_7, T125, List.take_zero, List.range_zero, List.foldl_nil]
            · simp only [List.replicate, List.cons_append, List.nil_append, Int.cast_ofNat_Int, Option.isSome_some, Option.isSome_none, cwl_top, cwl_int, cwl_bool, cwl_nil, cwl_lowS (low_rules n g.rules), cwl_lowS (low_syms n l), cwl_lowS (low_lstF wD (low_wD n) ws), cwl_lowS (low_ptr0 hb), cwl_lowR, cwl_23, cwl_7, T125, List.take_zero, List.range_zero, List.foldl_nil]
      · have f1 : ¬ (p : Int) < (g.rules.length : Int) := by omega
        obtain rfl : p = g.rules.length := by omega
        rw [List.take_length] at *
        obtain ⟨k', rfl⟩ : ∃ k', k = k' + 1 := ⟨k - 1, by omega⟩
        rw [runP] at j3
        have hpass : g.rules.foldl (stepR ws l) (P, false) = passP ws l g.rules P := rfl
        have hmid : MidP B ws l N P (passP ws l g.rules P) := hmid
        rw [hpass]
        clear hpass
        generalize passP ws l g.rules P = S at *
        obtain ⟨P1, c1⟩ := S
        have lay1 : Lay 125 N M n none (rowC M P1) (tabL 125 N M n N (N * M) none (rowC M P1)) := Lay.tab (by omega) (fun c h => by cases h) fun r _ => low_rowC n M P1 r
        simp -implicitDefEqProofs only [↓symPre, symPost, y_condP, y_condG, run, lver, minD, intsD, eqAll, tupD, splice, Nat.zero_add, Nat.add_zero, Nat.zero_mul, Nat.mul_one, Nat.one_mul, Nat.reduceAdd, Nat.reduceSub, Nat.reduceMul, Nat.reduceLT, Nat.reduceLeDiff, Nat.reduceEqDiff, true_and, and_true, true_implies, if_true, if_false, ite_true, reduceIte, ne_eq, not_false_eq_true, reduceCtorEq, forall_const, bne_self_eq_false, Bool.true_eq_false, Bool.false_eq_true, false_implies, and_self, implies_true, Int.toNat_zero, beq_self_eq_true, decide_true, decide_false, Bool.not_true, Bool.not_false, ↓y_lookv, y_key1, y_mlook, y_mlookn, y_mres1, y_mres0, ↓y_call, f1, decide_false]
        cases c1 with
        | true =>
          rw [if_pos rfl] at j3
          refine ⟨(true, P1, k'), ⟨fun _ => ⟨hmid.good, by have := hmid.less rfl; simp only at *; omega, j3⟩, fun h => by simp at h⟩, by simp only; omega, ?_⟩
          try simp only [if_true]
          try unfold partS
          rw [← hH]
          refine lay1.le hl (by omega) ?_ ?_
          · simp only [List.replicate, List.cons_append, List.nil_append, Int.cast_ofNat_Int, Option.isSome_some, Option.isSome_none, cwl_top, cwl_int, cwl_bool, cwl_nil, cwl_lowS (low_rules n g.rules), cwl_lowS (low_syms n l), cwl_lowS (low_lstF wD (low_wD n) ws), cwl_lowS (low_ptr0 hb), cwl_lowR, cwl_23, cwl_7, T125, List.take_zero, List.range_zero, List.foldl_nil]
          · simp only [List.replicate, List.cons_append, List.nil_append, Int.cast_ofNat_Int, Option.isSome_some, Option.isSome_none, cwl_top, cwl_int, cwl_bool, cwl_nil, cwl_lowS (low_rules n g.rules), cwl_lowS (low_syms n l), cwl_lowS (low_lstF wD (low_wD n) ws), cwl_lowS (low_ptr0 hb), cwl_lowR, cwl_23, cwl_7, T125, List.take_zero, List.range_zero, List.foldl_nil]
        | false =>
          rw [if_neg (by simp)] at j3
          refine ⟨(false, P1, k'), ⟨fun h => by simp at h, fun _ => j3⟩, by simp only; omega, ?_⟩
          simp only [Bool.false_eq_true, if_false]
          unfold partF
          rw [← hH]
          refine le_toH (List.replicate 125 .hole) (lowW_upd hl ?_) rfl ?_ ?_ <;> ((try simp only [y_blk_end, y_blk_hole, y_blk_nil, y_blk_old, y_wkl_end, y_wkl_top, List.replicate, List.cons_append, List.nil_append, and_true, true_and]) <;> (repeat' (first | apply And.intro | apply y_wkl | refine Exists.intro _ (And.intro rfl ?_))) <;> (try first | exact trivial | exact Wk.top _ | exact wk_int rfl | exact wk_bool rfl | exact wk_ptr rfl rfl rfl rfl | exact wk_ref rfl rfl rfl rfl rfl | exact wk_nil rfl rfl rfl | exact wk_ref rfl rfl rfl rfl (by simp) | exact wk_ref rfl rfl rfl rfl (by simp; omega) | exact wk_old (by assumption) (by simp) | exact wk_eq rfl (by first | exact Bd.int _ _ | exact Bd.bool _ | exact Bd.abool | exact Bd.nils | exact Bd.emp | exact Bd.nilp | exact Bd.nilfn | assumption | exact low_trees _ _ | exact low_treeD _ _ | exact low_ints _ _) | exact Nat.le_refl _ | exact wk_int (by simp) | exact wk_int (by omega) | exact Nat.succ_le_succ (Nat.zero_le _) | exact Nat.le_add_left _ _ | omega))
          all_goals first | exact .low _ (.ptr _ _ _ (.inl hb)) | exact .low _ (low_rules n g.rules) | exact .low _ (low_syms n l) | exact .low _ (low_lstF wD (low_wD n) _) | exact wk_part (k := 125) hM hmid.good lay1 | trace_state

end Abs
end Go.Proofs.Ytokdeeagghhliaa

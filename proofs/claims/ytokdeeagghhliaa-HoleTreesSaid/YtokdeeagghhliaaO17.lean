/- The table: parts, whole. -/
import Derived.Test.YtokdeeagghhliaaO16
namespace Go.Proofs.Ytokdeeagghhliaa
namespace Abs
set_option linter.unusedVariables false
set_option linter.unusedSimpArgs false
set_option maxRecDepth 20000

def part0 (N M : Nat) : Tb := List.replicate N (List.replicate M (List.replicate M wd0))
theorem part0_at (N M a i j : Nat) : partW (part0 N M) a i j = wd0 := by
  unfold partW part0
  simp only [List.getD, List.getElem?_replicate]
  split
  · simp only [Option.getD_some, List.getElem?_replicate]
    split
    · simp only [Option.getD_some, List.getElem?_replicate]
      split <;> rfl
    · simp
  · simp
theorem part0_good {B N M : Nat} {ws : List Wd} {l : List Sy} (hM : M = l.length + 1) : GoodP B ws l N (part0 N M) := by
  subst hM
  refine ⟨by simp [part0], fun A hA => ?_, fun A hA R hR => ?_, fun a i j _ _ _ => by rw [part0_at]; exact ent0⟩
  · have := List.eq_of_mem_replicate hA
    subst this; simp
  · have := List.eq_of_mem_replicate hA
    subst this
    have := List.eq_of_mem_replicate hR
    subst this; simp
theorem part0_row {N M q : Nat} (hq : q < N * M) : rowC M (part0 N M) q = zeroW M q := by
  have hM : 0 < M := by
    rcases Nat.eq_zero_or_pos M with h | h
    · subst h; simp at hq
    · exact h
  unfold rowC zeroW part0
  have h1 : q / M < N := (Nat.div_lt_iff_lt_mul hM).2 hq
  have h2 : q % M < M := Nat.mod_lt q hM
  simp [List.getD, h1, h2]
theorem Lay.congr {T N M n : Nat} {q : Option (List D)} {C C' : Nat → List D} {L : List Blk} (h : Lay T N M n q C L) (hC : ∀ r, r < N * M → C' r = C r) : Lay T N M n q C' L :=
  ⟨h.len, h.b7, h.b23, h.bg, fun r hr => by rw [hC r hr]; exact h.br r hr⟩

set_option maxHeartbeats 4000000 in
theorem at_parts {B N : Nat} (g : Gr) (l : List Sy) (ws : List Wd) (Pa : D) {n : Nat} {h : Heap} {b ver : Nat} (hb : b < n) (hh : h b = ⟨ver, .cells (tabC g l (.lst (ws.map wD)) Pa)⟩) (hN : g.nons = N) (hw : PatW B N ws l) (hB : 1 ≤ B)
    (hr62 : g.rules.length < 2 ^ 62) (hg : ∀ r ∈ g.rules, r.right.length ≤ 4 ∧ (∀ x ∈ r.right, symOk B N x) ∧ 0 ≤ r.left ∧ r.left < N) :
    ACalls prog F_hole_table_parts [.ptr b ver 0] n h fun d h' x' => x' = [] ∧ h' = upd h b ⟨ver, .cells (tabC g l (.lst (ws.map wD)) (partD (runP ws l g.rules (sum3 B (part0 N (l.length + 1)) + 1) (part0 N (l.length + 1)))))⟩ ∧ d = .tup [] := by
  refine K_hole_table_parts.calls fun hl => ?_
  unfold C_hole_table_parts
  obtain ⟨M, hM⟩ : ∃ M, M = l.length + 1 := ⟨_, rfl⟩
  have hl12 := hw.len
  have hN10 := hw.ws.few
  rw [← hM]
  have loop := fun s hs => parts_loop g l ws (part0 N M) _ (sum3 B (part0 N M) + 1) (ver := ver) hb hl hM hw hB (part0_good hM) hr62 hg (Nat.lt_succ_self _) rfl s hs
  generalize runP ws l g.rules (sum3 B (part0 N M) + 1) (part0 N M) = F at *
  unfold tabC at hh loop ⊢
  unfold partS at loop
  simp only [hN] at loop
  have wM : IntKind.i64.wrap ((l.length : Int) + 1) = (M : Int) := by rw [IntWalk.i64_in _ (by omega)]; omega
  have n0 : ¬ ((N : Nat) : Int) < 0 := by omega
  have n1 : (0 : Int) ≤ (N : Int) := by omega
  have e0 : (List.replicate N [D.nils]).flatten = List.replicate N .nils := by
    clear loop
    induction N with
    | zero => rfl
    | succ N ih => simp [List.replicate_succ] at *
  have nf : ((N : Nat) : Int) * ((24 : Nat) : Int) ≤ 140737488355328 := by omega
  have nx : ((N : Nat) : Int) ≤ 9223372036854775807 := by omega
  simp -implicitDefEqProofs only [↓symPre, symPost, y_condP, y_condG, run, lver, minD, intsD, eqAll, tupD, splice, Nat.zero_add, Nat.add_zero, Nat.zero_mul, Nat.mul_one, Nat.one_mul, Nat.reduceAdd, Nat.reduceSub, Nat.reduceMul, Nat.reduceLT, Nat.reduceLeDiff, Nat.reduceEqDiff, true_and, and_true, true_implies, if_true, if_false, ite_true, reduceIte, ne_eq, not_false_eq_true, reduceCtorEq, forall_const, bne_self_eq_false, Bool.true_eq_false, Bool.false_eq_true, false_implies, and_self, implies_true, Int.toNat_zero, beq_self_eq_true, decide_true, decide_false, Bool.not_true, Bool.not_false, ↓y_lookv, y_key1, y_mlook, y_mlookn, y_mres1, y_mres0, ↓y_call, ↓y_at_old hb, hh, hb, List.length_map, wM, hN, n0, n1, nf, nx, upd_same, Int.toNat_natCast, Int.le_refl, e0]
  have cwl_m23 : ∀ {ga rb v u : Nat} {l l' : List D}, 125 ≤ v → CWL n (125 + N + N * M) (sgT 125 N ga rb false v u) (.ref 1 (n + 23) 1 0 N :: l) (.ref 1 (n + 23) 1 0 N :: l') = CWL n (125 + N + N * M) (sgT 125 N ga rb false v u) l l' := fun {ga rb v u l l'} hv => cwl_refS (by omega) (by unfold sgT; rw [if_pos (usedT_iff.2 (.inr (.inl rfl))), if_neg (by omega)])
  have v1 : ∀ a : Nat, 125 ≤ 125 + a := fun a => by omega
  have v2 : ∀ a : Nat, 125 ≤ 125 + N + a := fun a => by omega
  have v3 : 125 ≤ 125 + N + N * M := by omega
  refine aloop (fun a : Nat => St.mk n ([.ptr b ver 0, .top, .int .i64 M] ++ List.replicate 27 .top ++ [.int .i64 N, .int .i64 a] ++ List.replicate 93 .top) (upd h b ⟨ver, .cells [.int .i64 g.terms, .int .i64 N, .int .i64 g.start, .lst (g.rules.map ruleD), .lst (l.map symD), .lst (ws.map wD), .ref 1 (n + 23) 1 0 N]⟩)
      (tabL 125 N M n a (a * M) none (zeroW M))) (fun a => a ≤ N) (fun a => N - a) 0 (Nat.zero_le _) ?_ ?_
  · refine Abs.Le.trans (le_ghost (N + N * M)) ?_
    refine le_tab (v := 125 + N + N * M) (u := 0) hl (by omega) (by omega) (by omega) (by omega) (.inr ⟨by omega, by simp [usedT]⟩) (by simp only [List.length_append, List.length_cons, List.length_nil, List.length_replicate]; omega) (fun c h => by cases h) ⟨List.replicate N .nils, rfl, by simp, fun r hr => ?_⟩ (fun r hr => by omega) (fun r hr => by omega) ?_ ?_
    · rw [if_neg (by omega)]; simp [nth, List.getD, hr]
    · simp only [List.replicate, List.cons_append, List.nil_append, Int.cast_ofNat_Int, cwl_top, cwl_int, cwl_bool, cwl_nil, cwl_lowS (low_rules n g.rules), cwl_lowS (low_syms n l), cwl_lowS (low_lstF wD (low_wD n) ws), cwl_lowS (low_ptr0 hb), cwl_m23 v3, Option.isSome_none]
    · simp only [List.replicate, List.cons_append, List.nil_append, Int.cast_ofNat_Int, cwl_top, cwl_int, cwl_bool, cwl_nil, cwl_lowS (low_rules n g.rules), cwl_lowS (low_syms n l), cwl_lowS (low_lstF wD (low_wD n) ws), cwl_lowS (low_ptr0 hb), cwl_m23 v3, Option.isSome_none]
  · intro a ha
    by_cases hal : a < N
    · have f1 : (a : Int) < (N : Int) := by omega
      have f0 : (0 : Int) ≤ (a : Int) := by omega
      have g23 : (tabL 125 N M n a (a * M) none (zeroW M)).getD 23 blk0 = ⟨1, .cells (refsG 125 n M N a)⟩ := tab_23 (by omega)
      have g40 : (tabL 125 N M n a (a * M) none (zeroW M)).getD 40 blk0 = blk0 := tab_no (by omega) (by omega) (by omega)
      have gl : (tabL 125 N M n a (a * M) none (zeroW M)).length = 125 + N + N * M := tabL_len
      have lg := refsG_len 125 n M N a
      have fin := fun (sl sl' : List D) => le_grid (N := N) (M := M) (n := n) (sl := sl) (sl' := sl') (cs := [.int .i64 g.terms, .int .i64 N, .int .i64 g.start, .lst (g.rules.map ruleD), .lst (l.map symD), .lst (ws.map wD), .ref 1 (n + 23) 1 0 N]) (cs' := [.int .i64 g.terms, .int .i64 N, .int .i64 g.start, .lst (g.rules.map ruleD), .lst (l.map symD), .lst (ws.map wD), .ref 1 (n + 23) 1 0 N]) (h0 := h) (b := b) (ver := ver) hl hal (by omega)
        (by simp only [List.replicate, List.cons_append, List.nil_append, Int.cast_ofNat_Int, cwl_top, cwl_int, cwl_bool, cwl_nil, cwl_lowS (low_rules n g.rules), cwl_lowS (low_syms n l), cwl_lowS (low_lstF wD (low_wD n) ws), cwl_lowS (low_ptr0 hb), cwl_m23 (v1 a)])
      have np : nth ((refsG 125 n M N a).take a ++ [.ref 1 (n + 40) 1 0 M] ++ (refsG 125 n M N a).drop (a + 1)) a = .ref 1 (n + 40) 1 0 M := by rw [nth_put _ (by omega), if_pos rfl]
      have lp := len_put (C := refsG 125 n M N a) (c := a) (.ref 1 (n + 40) 1 0 M) (by omega)
      rw [lg] at lp
      have m0 : ¬ ((M : Nat) : Int) < 0 := by omega
      have m1 : (0 : Int) ≤ (M : Int) := by omega
      have mf : ((M : Nat) : Int) * ((24 : Nat) : Int) ≤ 140737488355328 := by omega
      have mx : ((M : Nat) : Int) ≤ 9223372036854775807 := by omega
      have mf2 : ((M : Nat) : Int) * ((40 : Nat) : Int) ≤ 140737488355328 := by omega
      have em : (List.replicate M [D.nils]).flatten = List.replicate M .nils := by
        have : ∀ k, (List.replicate k [D.nils]).flatten = List.replicate k .nils := fun k => by
          induction k with
          | zero => rfl
          | succ k ih => simp [List.replicate_succ] at *
        exact this M
      have k23 : 23 < 125 + N + N * M := by omega
      have k40 : 40 < 125 + N + N * M := by omega
      generalize hL : tabL 125 N M n a (a * M) none (zeroW M) = L at *
      generalize hR : refsG 125 n M N a = RG at *
      simp -implicitDefEqProofs only [↓symPre, symPost, y_condP, y_condG, run, lver, minD, intsD, eqAll, tupD, splice, Nat.zero_add, Nat.add_zero, Nat.zero_mul, Nat.mul_one, Nat.one_mul, Nat.reduceAdd, Nat.reduceSub, Nat.reduceMul, Nat.reduceLT, Nat.reduceLeDiff, Nat.reduceEqDiff, true_and, and_true, true_implies, if_true, if_false, ite_true, reduceIte, ne_eq, not_false_eq_true, reduceCtorEq, forall_const, bne_self_eq_false, Bool.true_eq_false, Bool.false_eq_true, false_implies, and_self, implies_true, Int.toNat_zero, beq_self_eq_true, decide_true, decide_false, Bool.not_true, Bool.not_false, ↓y_lookv, y_key1, y_mlook, y_mlookn, y_mres1, y_mres0, ↓y_call, ↓y_at_old hb, upd_same, f1, decide_true]
      refine adrawq hmix (List.replicate 8 [] ++ [[n + 23]]) ?_
      simp (maxSteps := 400000) -implicitDefEqProofs only [↓symPre, symPost, y_condP, y_condG, run, lver, minD, intsD, eqAll, tupD, splice, Nat.zero_add, Nat.add_zero, Nat.zero_mul, Nat.mul_one, Nat.one_mul, Nat.reduceAdd, Nat.reduceSub, Nat.reduceMul, Nat.reduceLT, Nat.reduceLeDiff, Nat.reduceEqDiff, true_and, and_true, true_implies, if_true, if_false, ite_true, reduceIte, ne_eq, not_false_eq_true, reduceCtorEq, forall_const, bne_self_eq_false, Bool.true_eq_false, Bool.false_eq_true, false_implies, and_self, implies_true, Int.toNat_zero, beq_self_eq_true, decide_true, decide_false, Bool.not_true, Bool.not_false, ↓y_lookv, y_key1, y_mlook, y_mlookn, y_mres1, y_mres0, ↓y_call, ↓y_adq0, ↓y_adq, ↓y_stepQ_call, ↓y_adq_onT, ↓y_adq_onF, ↓y_adq_onS, drawPost, isCall, isNew, isEff, Option.toList, or_false, false_or, cond_true, cond_false, not_true_eq_false, or_true, true_or, Nat.add_left_cancel_iff, Bool.false_eq_true, ↓y_q0, ↓y_q1, ↓y_q1e, y_qn, isMap, ↓y_at_old hb, upd_same, f0, f1, hal, g23, g40, gl, lg, np, lp, m0, m1, mf, mx, em, k23, k40, bgetD_set_ne, bgetD_set_eq, List.length_set, not_false_eq_true, Int.toNat_natCast, Int.le_refl]
      refine ⟨by rintro c rfl; rfl, by omega, ?_⟩
      refine aloop (fun i : Nat => St.mk n ([.ptr b ver 0, .top, .int .i64 M, .int .i64 a] ++ List.replicate 26 .top ++ [.int .i64 N, .int .i64 a] ++ List.replicate 17 .top ++ [.int .i64 M, .int .i64 i] ++ List.replicate 74 .top) (upd h b ⟨ver, .cells [.int .i64 g.terms, .int .i64 N, .int .i64 g.start, .lst (g.rules.map ruleD), .lst (l.map symD), .lst (ws.map wD), .ref 1 (n + 23) 1 0 N]⟩)
          (tabL 125 N M n (a + 1) (a * M + i) none (zeroW M))) (fun i => i ≤ M) (fun i => M - i) 0 (Nat.zero_le _) ?_ ?_
      · refine fin _ _ ?_
        simp only [List.replicate, List.cons_append, List.nil_append, Int.cast_ofNat_Int, cwl_top, cwl_int, cwl_bool, cwl_nil, cwl_lowS (low_rules n g.rules), cwl_lowS (low_syms n l), cwl_lowS (low_lstF wD (low_wD n) ws), cwl_lowS (low_ptr0 hb), cwl_m23 (v1 a)]
      · intro i hi
        by_cases hil : i < M
        · have f1 : (i : Int) < (M : Int) := by omega
          have f0' : (0 : Int) ≤ (i : Int) := by omega
          have fa : (a : Int) < (N : Int) := by omega
          have hlt := dm_lt hal hil
          have g23 : (tabL 125 N M n (a + 1) (a * M + i) none (zeroW M)).getD 23 blk0 = ⟨1, .cells (refsG 125 n M N (a + 1))⟩ := tab_23 (by omega)
          have g62 : (tabL 125 N M n (a + 1) (a * M + i) none (zeroW M)).getD 62 blk0 = blk0 := tab_no (by omega) (by omega) (by omega)
          have gA : (tabL 125 N M n (a + 1) (a * M + i) none (zeroW M)).getD (125 + a) blk0 = ⟨1, .cells (refsR 125 n M N (a * M + i) a)⟩ := tab_g (by omega) (by omega) (by omega)
          have gl : (tabL 125 N M n (a + 1) (a * M + i) none (zeroW M)).length = 125 + N + N * M := tabL_len
          have lg := refsG_len 125 n M N (a + 1)
          have lr := refsR_len 125 n M N (a * M + i) a
          have nA := nth_refsG (T := 125) (n := n) (M := M) (ga := a + 1) hal
          rw [if_pos (by omega)] at nA
          have fin := fun (sl sl' : List D) => le_rown (N := N) (M := M) (n := n) (sl := sl) (sl' := sl') (cs := [.int .i64 g.terms, .int .i64 N, .int .i64 g.start, .lst (g.rules.map ruleD), .lst (l.map symD), .lst (ws.map wD), .ref 1 (n + 23) 1 0 N]) (cs' := [.int .i64 g.terms, .int .i64 N, .int .i64 g.start, .lst (g.rules.map ruleD), .lst (l.map symD), .lst (ws.map wD), .ref 1 (n + 23) 1 0 N]) (h0 := h) (b := b) (ver := ver) hl hal hil
            (by simp only [List.replicate, List.cons_append, List.nil_append, Int.cast_ofNat_Int, cwl_top, cwl_int, cwl_bool, cwl_nil, cwl_lowS (low_rules n g.rules), cwl_lowS (low_syms n l), cwl_lowS (low_lstF wD (low_wD n) ws), cwl_lowS (low_ptr0 hb), cwl_m23 (v2 _)])
          have k62 : 62 < 125 + N + N * M := by omega
          have kA : 125 + a < 125 + N + N * M := by omega
          have w1 : IntKind.i64.wrap ((i : Int) + 1) = ((i + 1 : Nat) : Int) := by rw [IntWalk.i64_in _ (by omega)]; omega
          have q1 : ¬ 62 = 125 + a := by omega
          generalize hL2 : tabL 125 N M n (a + 1) (a * M + i) none (zeroW M) = L2 at *
          generalize hR2 : refsG 125 n M N (a + 1) = RG2 at *
          generalize hR3 : refsR 125 n M N (a * M + i) a = RR at *
          simp -implicitDefEqProofs only [↓symPre, symPost, y_condP, y_condG, run, lver, minD, intsD, eqAll, tupD, splice, Nat.zero_add, Nat.add_zero, Nat.zero_mul, Nat.mul_one, Nat.one_mul, Nat.reduceAdd, Nat.reduceSub, Nat.reduceMul, Nat.reduceLT, Nat.reduceLeDiff, Nat.reduceEqDiff, true_and, and_true, true_implies, if_true, if_false, ite_true, reduceIte, ne_eq, not_false_eq_true, reduceCtorEq, forall_const, bne_self_eq_false, Bool.true_eq_false, Bool.false_eq_true, false_implies, and_self, implies_true, Int.toNat_zero, beq_self_eq_true, decide_true, decide_false, Bool.not_true, Bool.not_false, ↓y_lookv, y_key1, y_mlook, y_mlookn, y_mres1, y_mres0, ↓y_call, f1, decide_true]
          refine adrawq hmix (List.replicate 11 [] ++ [[n + (125 + a)]]) ?_
          simp (maxSteps := 400000) -implicitDefEqProofs only [↓symPre, symPost, y_condP, y_condG, run, lver, minD, intsD, eqAll, tupD, splice, Nat.zero_add, Nat.add_zero, Nat.zero_mul, Nat.mul_one, Nat.one_mul, Nat.reduceAdd, Nat.reduceSub, Nat.reduceMul, Nat.reduceLT, Nat.reduceLeDiff, Nat.reduceEqDiff, true_and, and_true, true_implies, if_true, if_false, ite_true, reduceIte, ne_eq, not_false_eq_true, reduceCtorEq, forall_const, bne_self_eq_false, Bool.true_eq_false, Bool.false_eq_true, false_implies, and_self, implies_true, Int.toNat_zero, beq_self_eq_true, decide_true, decide_false, Bool.not_true, Bool.not_false, ↓y_lookv, y_key1, y_mlook, y_mlookn, y_mres1, y_mres0, ↓y_call, ↓y_adq0, ↓y_adq, ↓y_stepQ_call, ↓y_adq_onT, ↓y_adq_onF, ↓y_adq_onS, drawPost, isCall, isNew, isEff, Option.toList, or_false, false_or, cond_true, cond_false, not_true_eq_false, or_true, true_or, Nat.add_left_cancel_iff, Bool.false_eq_true, ↓y_q0, ↓y_q1, ↓y_q1e, y_qn, isMap, ↓y_at_old hb, upd_same, f0, f1, f0', fa, hal, hil, g23, g62, gA, gl, lg, lr, nA, m0, m1, mf2, mx, k62, kA, q1, bgetD_set_ne, bgetD_set_eq, List.length_set, not_false_eq_true, Int.toNat_natCast, Int.le_refl, w1]
          refine ⟨by rintro c rfl; rfl, by omega, i + 1, by omega, by omega, fin _ _ ?_⟩
          simp only [List.replicate, List.cons_append, List.nil_append, Int.cast_ofNat_Int, cwl_top, cwl_int, cwl_bool, cwl_nil, cwl_lowS (low_rules n g.rules), cwl_lowS (low_syms n l), cwl_lowS (low_lstF wD (low_wD n) ws), cwl_lowS (low_ptr0 hb), cwl_m23 (v2 _)]
        · have f1 : ¬ (i : Int) < (M : Int) := by omega
          obtain rfl : i = M := by omega
          have w1 : IntKind.i64.wrap ((a : Int) + 1) = ((a + 1 : Nat) : Int) := by rw [IntWalk.i64_in _ (by omega)]; omega
          simp -implicitDefEqProofs only [↓symPre, symPost, y_condP, y_condG, run, lver, minD, intsD, eqAll, tupD, splice, Nat.zero_add, Nat.add_zero, Nat.zero_mul, Nat.mul_one, Nat.one_mul, Nat.reduceAdd, Nat.reduceSub, Nat.reduceMul, Nat.reduceLT, Nat.reduceLeDiff, Nat.reduceEqDiff, true_and, and_true, true_implies, if_true, if_false, ite_true, reduceIte, ne_eq, not_false_eq_true, reduceCtorEq, forall_const, bne_self_eq_false, Bool.true_eq_false, Bool.false_eq_true, false_implies, and_self, implies_true, Int.toNat_zero, beq_self_eq_true, decide_true, decide_false, Bool.not_true, Bool.not_false, ↓y_lookv, y_key1, y_mlook, y_mlookn, y_mres1, y_mres0, ↓y_call, f1, decide_false, w1]
          refine ⟨a + 1, by omega, by omega, ?_⟩
          rw [Nat.add_mul, Nat.one_mul]
          refine le_tops ?_
          simp only [List.replicate, List.cons_append, List.nil_append, tops_top, tops_same, tops_nil, Int.cast_ofNat_Int]
    · have f1 : ¬ (a : Int) < (N : Int) := by omega
      obtain rfl : a = N := by omega
      simp -implicitDefEqProofs only [↓symPre, symPost, y_condP, y_condG, run, lver, minD, intsD, eqAll, tupD, splice, Nat.zero_add, Nat.add_zero, Nat.zero_mul, Nat.mul_one, Nat.one_mul, Nat.reduceAdd, Nat.reduceSub, Nat.reduceMul, Nat.reduceLT, Nat.reduceLeDiff, Nat.reduceEqDiff, true_and, and_true, true_implies, if_true, if_false, ite_true, reduceIte, ne_eq, not_false_eq_true, reduceCtorEq, forall_const, bne_self_eq_false, Bool.true_eq_false, Bool.false_eq_true, false_implies, and_self, implies_true, Int.toNat_zero, beq_self_eq_true, decide_true, decide_false, Bool.not_true, Bool.not_false, ↓y_lookv, y_key1, y_mlook, y_mlookn, y_mres1, y_mres0, ↓y_call, f1, decide_false]
      refine loop _ ?_
      have layZ : Lay 125 a M n none (rowC M (part0 a M)) (tabL 125 a M n a (a * M) none (zeroW M)) := (Lay.tab (by omega) (fun c h => by cases h) fun r _ => low_zeroW n M r).congr fun r hr => part0_row hr
      refine layZ.le hl T125 ?_ ?_
      · simp only [List.replicate, List.cons_append, List.nil_append, Int.cast_ofNat_Int, Option.isSome_none, cwl_top, cwl_int, cwl_bool, cwl_nil, cwl_lowS (low_rules n g.rules), cwl_lowS (low_syms n l), cwl_lowS (low_lstF wD (low_wD n) ws), cwl_lowS (low_ptr0 hb), cwl_23, T125]
      · simp only [List.replicate, List.cons_append, List.nil_append, Int.cast_ofNat_Int, Option.isSome_none, cwl_top, cwl_int, cwl_bool, cwl_nil, cwl_lowS (low_rules n g.rules), cwl_lowS (low_syms n l), cwl_lowS (low_lstF wD (low_wD n) ws), cwl_lowS (low_ptr0 hb), cwl_23, T125]

end Abs
end Go.Proofs.Ytokdeeagghhliaa

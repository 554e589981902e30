/- The reference's Weigh: a closure with a memo. -/
import Derived.Test.YtfojedaccfenfaaM1
import Derived.Test.YtfojedaccfenfaaM0
namespace Go.Proofs.Ytfojedaccfenfaa
namespace Abs
set_option linter.unusedVariables false
set_option linter.unusedSimpArgs false
set_option maxRecDepth 20000

theorem y_stepQ_callv {P : Program} {n : Nat} {sl : List D} {h : Heap} {lc : List Blk} {dc : List (List Nat)} {k : Nat} (dst : Option Nat) (x : Opd) (args : List Opd) (g : AGuard) (ss es : List Nat) (K : D → Chg → Prop) : stepQS P dc k ⟨⟨dst, .callv x args, g⟩, ss, es⟩ (St.mk n sl h lc) K =
    ∃ d δ, stepV P ⟨dst, .callv x args, g⟩ (St.hide (St.mk n sl h lc) (hidOf n dc ⟨⟨dst, .callv x args, g⟩, ss, es⟩)) (fun d' δ' => d' = d ∧ δ' = δ) ∧ covB n dc k ⟨⟨dst, .callv x args, g⟩, ss, es⟩ δ ∧ K d δ := by rw [stepQS_eq]; rfl

/-- the closure and what it has captured -/
abbrev ofD (bm bw bc bv bo : Nat) : D := .fn F_parlref4_Weigh_1 [.ptr bm 1 0, .ptr bw 1 0, .ptr bc 1 0, .ptr bv 1 0, .ptr bo 1 0]
structure OfH (q : Co) (w v : List Int) (h : Heap) (n bm bw bc bv bo bM : Nat) : Prop where
  lm : bm < n
  lw : bw < n
  lc : bc < n
  lv : bv < n
  lo : bo < n
  lM : bM < n
  hm : h bm = ⟨1, .cells [.map bM 1]⟩
  hw : h bw = ⟨1, .cells [iD w]⟩
  hc : h bc = ⟨1, .cells [.int .i64 q.a, .int .i64 q.b, .int .i64 q.c]⟩
  hv : h bv = ⟨1, .cells [iD v]⟩
  ho : h bo = ⟨1, .cells [ofD bm bw bc bv bo]⟩
  hM : h bM = ⟨1, .map (tabD q w v)⟩
theorem OfH.up {q : Co} {w v : List Int} {h : Heap} {n n' bm bw bc bv bo bM : Nat} {h' : Heap} (H : OfH q w v h n bm bw bc bv bo bM) (hn : n ≤ n') (hh : ∀ b, b < n → h' b = h b) : OfH q w v h' n' bm bw bc bv bo bM :=
  ⟨by have := H.lm; omega, by have := H.lw; omega, by have := H.lc; omega, by have := H.lv; omega, by have := H.lo; omega, by have := H.lM; omega,
    (hh _ H.lm).trans H.hm, (hh _ H.lw).trans H.hw, (hh _ H.lc).trans H.hc, (hh _ H.lv).trans H.hv, (hh _ H.lo).trans H.ho, (hh _ H.lM).trans H.hM⟩

def OfC (q : Co) (w v : List Int) (i j : Nat) : Prop := ∀ (n : Nat) (h : Heap) (bm bw bc bv bo bM : Nat), OfH q w v h n bm bw bc bv bo bM →
  ACalls prog F_parlref4_Weigh_1 [.int .i64 i, .int .i64 j, .ptr bm 1 0, .ptr bw 1 0, .ptr bc 1 0, .ptr bv 1 0, .ptr bo 1 0] n h fun d h' x => h' = h ∧ x = [] ∧ d = .int .i64 (dR q (w.drop i) (v.drop j))

theorem OfH.mrg {q : Co} {w v : List Int} {h : Heap} {n bm bw bc bv bo bM : Nat} (H : OfH q w v h n bm bw bc bv bo bM) (lc : List Blk) : OfH q w v (mrg n h lc) (n + lc.length) bm bw bc bv bo bM :=
  H.up (by omega) fun b hb => mrg_lt hb
theorem of_call {q : Co} {w v : List Int} {i j : Nat} {n : Nat} {sl : List D} {h : Heap} {lc : List Blk} {bm bw bc bv bo bM : Nat} (hc : OfC q w v i j) (H : OfH q w v h n bm bw bc bv bo bM) {N : Nat} {G : Heap} {dst : Option Nat} {K : D → Chg → Prop}
    (hN : N = n + lc.length) (hG : G = Abs.mrg n h lc) (hK : K (.int .i64 (dR q (w.drop i) (v.drop j))) []) :
    ACalls prog F_parlref4_Weigh_1 [.int .i64 i, .int .i64 j, .ptr bm 1 0, .ptr bw 1 0, .ptr bc 1 0, .ptr bv 1 0, .ptr bo 1 0] N G (callK (St.mk n sl h lc) dst K) := by
  subst hN; subst hG
  exact (hc _ _ bm bw bc bv bo bM (H.mrg lc)).mono fun d h' x ⟨h1, h2, h3⟩ => .inl ⟨[], by simp [St.inr], h2, by rw [h1]; rfl, by rw [h3]; exact hK⟩
theorem of_draw {q : Co} {w v : List Int} {i j : Nat} {V : St} {bm bw bc bv bo bM : Nat} (hc : OfC q w v i j) (H : OfH q w v V.h V.n bm bw bc bv bo bM) {x : Opd} {args : List Opd} {dst : Option Nat} {g : AGuard} (hx : V.val x = ofD bm bw bc bv bo) (ha : args.map V.val = [.int .i64 i, .int .i64 j]) :
    stepV prog ⟨dst, .callv x args, g⟩ V fun d' δ' => d' = .int .i64 (dR q (w.drop i) (v.drop j)) ∧ δ' = [] := by
  unfold stepV
  simp only [hx, ha]
  intro s hs
  have key : ∀ {b : Nat} {B : Blk}, b < V.n → V.h b = B → B.con ≠ .veil → s.hp b = B := fun {b B} hb hB hne => by
    have e1 : V.blk b = B := by show Abs.mrg V.n V.h V.lc b = B; rw [mrg_lt hb]; exact hB
    rcases hs.blk b with h | h
    · rw [e1] at h; exact (hne h).elim
    · rw [e1] at h; exact h.symm
  have H' : OfH q w v s.hp (V.n + V.lc.length) bm bw bc bv bo bM :=
    ⟨by have := H.lm; omega, by have := H.lw; omega, by have := H.lc; omega, by have := H.lv; omega, by have := H.lo; omega, by have := H.lM; omega,
      key H.lm H.hm (by simp), key H.lw H.hw (by simp), key H.lc H.hc (by simp), key H.lv H.hv (by simp), key H.lo H.ho (by simp), key H.lM H.hM (by simp)⟩
  exact (hc _ _ bm bw bc bv bo bM H').mono fun d h' x ⟨h1, h2, h3⟩ => .inl ⟨[], by simp [St.inr], h2, by rw [h1]; rfl, h3, rfl⟩

/-- the numbers of one call -/
structure OfN (q : Co) (w v : List Int) (i j : Nat) (B : Int) : Prop where
  w1 : IntKind.i64.wrap ((w.length : Int) - (i : Int)) = ((w.length - i : Nat) : Int)
  w2 : IntKind.i64.wrap ((v.length : Int) - (j : Int)) = ((v.length - j : Nat) : Int)
  w3 : IntKind.i64.wrap (((w.length - i : Nat) : Int) * q.b) = ((w.length - i : Nat) : Int) * q.b
  w4 : IntKind.i64.wrap (((v.length - j : Nat) : Int) * q.a) = ((v.length - j : Nat) : Int) * q.a
  w5 : IntKind.i64.wrap (((w.length - i : Nat) : Int) * q.b + ((v.length - j : Nat) : Int) * q.a) = B
  hle : dR q (w.drop i) (v.drop j) ≤ B
  u1 : IntKind.i64.wrap ((i : Int) + 1) = ((i + 1 : Nat) : Int)
  u3 : IntKind.i64.wrap ((j : Int) + 1) = ((j + 1 : Nat) : Int)
  hB : B = ((w.length - i : Nat) : Int) * q.b + ((v.length - j : Nat) : Int) * q.a
  hz : ∀ (i' j' : Nat), 0 ≤ dR q (w.drop i') (v.drop j') ∧ dR q (w.drop i') (v.drop j') ≤ 40000
theorem ofN (q : Co) (hq : okCo q 100) (w v : List Int) (hw : w.length ≤ 200) (hv : v.length ≤ 200) (i j : Nat) (hi : i ≤ w.length) (hj : j ≤ v.length) : ∃ B, OfN q w v i j B := by
  obtain ⟨q1, q2, q3, q4, q5, q6⟩ := hq
  have hli := Int.mul_le_mul_of_nonneg_left (a := q.b) (b := 100) (c := ((w.length - i : Nat) : Int)) q4 (by omega)
  have hlj := Int.mul_le_mul_of_nonneg_left (a := q.a) (b := 100) (c := ((v.length - j : Nat) : Int)) q2 (by omega)
  have hni := Int.mul_nonneg (a := ((w.length - i : Nat) : Int)) (b := q.b) (by omega) (by omega)
  have hnj := Int.mul_nonneg (a := ((v.length - j : Nat) : Int)) (b := q.a) (by omega) (by omega)
  have hle := dR_le q (w.drop i) (v.drop j)
  rw [List.length_drop, List.length_drop] at hle
  refine ⟨_, ?_, ?_, ?_, ?_, ?_, hle, ?_, ?_, rfl, fun i' j' => ?_⟩
  · rw [IntWalk.i64_in _ (by omega)]; omega
  · rw [IntWalk.i64_in _ (by omega)]; omega
  · exact IntWalk.i64_in _ (by omega)
  · exact IntWalk.i64_in _ (by omega)
  · exact IntWalk.i64_in _ (by omega)
  · rw [IntWalk.i64_in _ (by omega)]; omega
  · rw [IntWalk.i64_in _ (by omega)]; omega
  · have := dR_range (q := q) ⟨q1, q2, q3, q4, q5, q6⟩ (w.drop i') (v.drop j')
    simp only [List.length_drop] at this
    omega


set_option maxHeartbeats 8000000 in
theorem of_none {q : Co} (hq : okCo q 100) {w v : List Int} {i j : Nat} {B : Int} (N : OfN q w v i j B) (hi : i ≤ w.length) (hj : j ≤ v.length) (ci : ¬ i < w.length) (cj : ¬ j < v.length) : OfC q w v i j := by
  intro n h bm bw bc bv bo bM H
  obtain ⟨q1, q2, q3, q4, q5, q6⟩ := hq
  obtain ⟨w1, w2, w3, w4, w5, hle, u1, u3, hB, hz⟩ := N
  have tk := tab_key (q := q) (w := w) (v := v)
  have tg := tab_get (q := q) (w := w) (v := v) (i := i) (j := j)
  have tp := tab_put (q := q) hi hj
  refine K_parlref4_Weigh_1.calls fun hl => ?_
  unfold C_parlref4_Weigh_1
  have hlow : ∀ {d : D}, d = .int .i64 (dR q (w.drop i) (v.drop j)) → ∀ {sl : List D} {lc : List Blk}, Fin (St.mk n sl h lc) (fun d h' x => h' = h ∧ x = [] ∧ d = .int .i64 (dR q (w.drop i) (v.drop j))) [d] := fun hd => by
    subst hd; exact fin_low hl (.int ..) ⟨rfl, rfl, rfl⟩
  have m0 : (0 : Int) < ((3 : Nat) : Int) := by decide
  have m1 : (1 : Int) < ((3 : Nat) : Int) := by decide
  have m2 : (2 : Int) < ((3 : Nat) : Int) := by decide
  have k2 : (0 : Int) ≤ 1 := by omega
  have k4 : (0 : Int) ≤ 2 := by omega
  have t1 : Int.toNat 1 = 1 := rfl
  have t2 : Int.toNat 2 = 2 := rfl
  have g1 : ¬ (i : Int) < (w.length : Int) := by omega
  have g2 : ¬ (j : Int) < (v.length : Int) := by omega
  simp -implicitDefEqProofs only [↓symPre, symPost, y_condP, y_condG, run, lver, minD, intsD, eqAll, tupD, splice, Nat.zero_add, Nat.add_zero, Nat.zero_mul, Nat.mul_one, Nat.one_mul, Nat.reduceAdd, Nat.reduceSub, Nat.reduceMul, Nat.reduceLT, Nat.reduceLeDiff, Nat.reduceEqDiff, true_and, and_true, true_implies, if_true, if_false, ite_true, reduceIte, ne_eq, not_false_eq_true, reduceCtorEq, forall_const, bne_self_eq_false, Bool.true_eq_false, Bool.false_eq_true, false_implies, and_self, implies_true, Int.toNat_zero, beq_self_eq_true, decide_true, decide_false, Bool.not_true, Bool.not_false, ↓y_call, ↓y_at_old H.lm, ↓y_atm_old H.lM, ↓y_at_old H.lw, ↓y_at_old H.lv, ↓y_at_old H.lc, ↓y_at_old H.lo, H.hm, H.hM, H.hw, H.hv, H.hc, H.ho, H.lm, H.lw, H.lc, H.lv, H.lo, H.lM, y_key2, List.length_map, Int.le_refl, m0, m1, m2, k2, k4, t1, t2, g1, g2, w1, w2, w3, w4, w5]
  have hd : B = dR q (w.drop i) (v.drop j) := by
    have e1 : w.length - i = 0 := by omega
    have e2 : v.length - j = 0 := by omega
    rw [hB, List.drop_eq_nil_of_le (by omega : w.length ≤ i), dR_nil, List.length_drop, e1, e2]; simp
  refine ⟨tk, fun e he h1 => hlow (tg e he h1), tk, by rw [hd]; exact tp, hlow (by rw [hd])⟩

set_option maxHeartbeats 8000000 in
theorem of_v {q : Co} (hq : okCo q 100) {w v : List Int} {i j : Nat} {B : Int} (N : OfN q w v i j B) (hi : i ≤ w.length) (hj : j ≤ v.length) (ci : ¬ i < w.length) (cj : j < v.length) (ih2 : OfC q w v i (j + 1)) : OfC q w v i j := by
  intro n h bm bw bc bv bo bM H
  obtain ⟨q1, q2, q3, q4, q5, q6⟩ := hq
  obtain ⟨w1, w2, w3, w4, w5, hle, u1, u3, hB, hz⟩ := N
  have tk := tab_key (q := q) (w := w) (v := v)
  have tg := tab_get (q := q) (w := w) (v := v) (i := i) (j := j)
  have tp := tab_put (q := q) hi hj
  refine K_parlref4_Weigh_1.calls fun hl => ?_
  unfold C_parlref4_Weigh_1
  have hlow : ∀ {d : D}, d = .int .i64 (dR q (w.drop i) (v.drop j)) → ∀ {sl : List D} {lc : List Blk}, Fin (St.mk n sl h lc) (fun d h' x => h' = h ∧ x = [] ∧ d = .int .i64 (dR q (w.drop i) (v.drop j))) [d] := fun hd => by
    subst hd; exact fin_low hl (.int ..) ⟨rfl, rfl, rfl⟩
  have m0 : (0 : Int) < ((3 : Nat) : Int) := by decide
  have m1 : (1 : Int) < ((3 : Nat) : Int) := by decide
  have m2 : (2 : Int) < ((3 : Nat) : Int) := by decide
  have k2 : (0 : Int) ≤ 1 := by omega
  have k4 : (0 : Int) ≤ 2 := by omega
  have t1 : Int.toNat 1 = 1 := rfl
  have t2 : Int.toNat 2 = 2 := rfl
  have g1 : ¬ (i : Int) < (w.length : Int) := by omega
  have g2 : (j : Int) < (v.length : Int) := by omega
  have z2 := hz i (j + 1)
  have u4 : IntKind.i64.wrap (dR q (w.drop i) (v.drop (j + 1)) + q.a) = dR q (w.drop i) (v.drop (j + 1)) + q.a := IntWalk.i64_in _ (by omega)
  obtain ⟨M, hM⟩ : ∃ M, (if dR q (w.drop i) (v.drop (j + 1)) + q.a < B then dR q (w.drop i) (v.drop (j + 1)) + q.a else B) = M := ⟨_, rfl⟩
  simp -implicitDefEqProofs only [↓symPre, symPost, y_condP, y_condG, run, lver, minD, intsD, eqAll, tupD, splice, Nat.zero_add, Nat.add_zero, Nat.zero_mul, Nat.mul_one, Nat.one_mul, Nat.reduceAdd, Nat.reduceSub, Nat.reduceMul, Nat.reduceLT, Nat.reduceLeDiff, Nat.reduceEqDiff, true_and, and_true, true_implies, if_true, if_false, ite_true, reduceIte, ne_eq, not_false_eq_true, reduceCtorEq, forall_const, bne_self_eq_false, Bool.true_eq_false, Bool.false_eq_true, false_implies, and_self, implies_true, Int.toNat_zero, beq_self_eq_true, decide_true, decide_false, Bool.not_true, Bool.not_false, ↓y_call, ↓y_at_old H.lm, ↓y_atm_old H.lM, ↓y_at_old H.lw, ↓y_at_old H.lv, ↓y_at_old H.lc, ↓y_at_old H.lo, H.hm, H.hM, H.hw, H.hv, H.hc, H.ho, H.lm, H.lw, H.lc, H.lv, H.lo, H.lM, y_key2, List.length_map, Int.le_refl, m0, m1, m2, k2, k4, t1, t2, g1, g2, w1, w2, w3, w4, w5]
  refine ⟨tk, fun e he h1 => hlow (tg e he h1), ?_⟩
  refine adrawq hmix [] ?_
  simp (maxSteps := 400000) -implicitDefEqProofs only [↓symPre, symPost, y_condP, y_condG, run, lver, minD, intsD, eqAll, tupD, splice, Nat.zero_add, Nat.add_zero, Nat.zero_mul, Nat.mul_one, Nat.one_mul, Nat.reduceAdd, Nat.reduceSub, Nat.reduceMul, Nat.reduceLT, Nat.reduceLeDiff, Nat.reduceEqDiff, true_and, and_true, true_implies, if_true, if_false, ite_true, reduceIte, ne_eq, not_false_eq_true, reduceCtorEq, forall_const, bne_self_eq_false, Bool.true_eq_false, Bool.false_eq_true, false_implies, and_self, implies_true, Int.toNat_zero, beq_self_eq_true, decide_true, decide_false, Bool.not_true, Bool.not_false, ↓y_call, ↓drawPre, drawPost, isCall, isNew, isEff, Option.toList, or_false, false_or, cond_true, cond_false, not_true_eq_false, or_true, true_or, Nat.add_left_cancel_iff, Bool.false_eq_true, ↓y_at_old H.lm, ↓y_atm_old H.lM, ↓y_at_old H.lw, ↓y_at_old H.lv, ↓y_at_old H.lc, ↓y_at_old H.lo, H.hm, H.hM, H.hw, H.hv, H.hc, H.ho, H.lm, H.lw, H.lc, H.lv, H.lo, H.lM, y_key2, List.length_map, Int.le_refl, m0, m1, m2, k2, k4, t1, t2, ↓y_stepQ_callv, u3]
  refine ⟨_, _, of_draw ih2 (bm := bm) (bw := bw) (bc := bc) (bv := bv) (bo := bo) (bM := bM) ?_ ?_ ?_, (by simp [y_cov0, y_cov1, isNew, isEff, Option.toList]), ?_⟩
  · exact H
  · rfl
  · rfl
  simp (maxSteps := 400000) -implicitDefEqProofs only [↓symPre, symPost, y_condP, y_condG, run, lver, minD, intsD, eqAll, tupD, splice, Nat.zero_add, Nat.add_zero, Nat.zero_mul, Nat.mul_one, Nat.one_mul, Nat.reduceAdd, Nat.reduceSub, Nat.reduceMul, Nat.reduceLT, Nat.reduceLeDiff, Nat.reduceEqDiff, true_and, and_true, true_implies, if_true, if_false, ite_true, reduceIte, ne_eq, not_false_eq_true, reduceCtorEq, forall_const, bne_self_eq_false, Bool.true_eq_false, Bool.false_eq_true, false_implies, and_self, implies_true, Int.toNat_zero, beq_self_eq_true, decide_true, decide_false, Bool.not_true, Bool.not_false, ↓y_call, ↓drawPre, drawPost, isCall, isNew, isEff, Option.toList, or_false, false_or, cond_true, cond_false, not_true_eq_false, or_true, true_or, Nat.add_left_cancel_iff, Bool.false_eq_true, ↓y_at_old H.lm, ↓y_atm_old H.lM, ↓y_at_old H.lw, ↓y_at_old H.lv, ↓y_at_old H.lc, ↓y_at_old H.lo, H.hm, H.hM, H.hw, H.hv, H.hc, H.ho, H.lm, H.lw, H.lc, H.lv, H.lo, H.lM, y_key2, List.length_map, Int.le_refl, m0, m1, m2, k2, k4, t1, t2, List.foldl_cons, List.foldl_nil, u4, hM, g1, g2]
  have hd : M = dR q (w.drop i) (v.drop j) := by
    rw [← hM, hB, List.drop_eq_nil_of_le (by omega : w.length ≤ i), dR_nil, dR_nil, List.length_drop, List.length_drop, show w.length - i = 0 by omega, show v.length - j = (v.length - (j + 1)) + 1 by omega, len_mul]
    simp
  exact ⟨tk, by rw [hd]; exact tp, hlow (by rw [hd])⟩

set_option maxHeartbeats 8000000 in
theorem of_w {q : Co} (hq : okCo q 100) {w v : List Int} {i j : Nat} {B : Int} (N : OfN q w v i j B) (hi : i ≤ w.length) (hj : j ≤ v.length) (ci : i < w.length) (cj : ¬ j < v.length) (ih1 : OfC q w v (i + 1) j) : OfC q w v i j := by
  intro n h bm bw bc bv bo bM H
  obtain ⟨q1, q2, q3, q4, q5, q6⟩ := hq
  obtain ⟨w1, w2, w3, w4, w5, hle, u1, u3, hB, hz⟩ := N
  have tk := tab_key (q := q) (w := w) (v := v)
  have tg := tab_get (q := q) (w := w) (v := v) (i := i) (j := j)
  have tp := tab_put (q := q) hi hj
  refine K_parlref4_Weigh_1.calls fun hl => ?_
  unfold C_parlref4_Weigh_1
  have hlow : ∀ {d : D}, d = .int .i64 (dR q (w.drop i) (v.drop j)) → ∀ {sl : List D} {lc : List Blk}, Fin (St.mk n sl h lc) (fun d h' x => h' = h ∧ x = [] ∧ d = .int .i64 (dR q (w.drop i) (v.drop j))) [d] := fun hd => by
    subst hd; exact fin_low hl (.int ..) ⟨rfl, rfl, rfl⟩
  have m0 : (0 : Int) < ((3 : Nat) : Int) := by decide
  have m1 : (1 : Int) < ((3 : Nat) : Int) := by decide
  have m2 : (2 : Int) < ((3 : Nat) : Int) := by decide
  have k2 : (0 : Int) ≤ 1 := by omega
  have k4 : (0 : Int) ≤ 2 := by omega
  have t1 : Int.toNat 1 = 1 := rfl
  have t2 : Int.toNat 2 = 2 := rfl
  have g1 : (i : Int) < (w.length : Int) := by omega
  have g2 : ¬ (j : Int) < (v.length : Int) := by omega
  have z1 := hz (i + 1) j
  have u2 : IntKind.i64.wrap (dR q (w.drop (i + 1)) (v.drop j) + q.b) = dR q (w.drop (i + 1)) (v.drop j) + q.b := IntWalk.i64_in _ (by omega)
  obtain ⟨M, hM⟩ : ∃ M, (if dR q (w.drop (i + 1)) (v.drop j) + q.b < B then dR q (w.drop (i + 1)) (v.drop j) + q.b else B) = M := ⟨_, rfl⟩
  simp -implicitDefEqProofs only [↓symPre, symPost, y_condP, y_condG, run, lver, minD, intsD, eqAll, tupD, splice, Nat.zero_add, Nat.add_zero, Nat.zero_mul, Nat.mul_one, Nat.one_mul, Nat.reduceAdd, Nat.reduceSub, Nat.reduceMul, Nat.reduceLT, Nat.reduceLeDiff, Nat.reduceEqDiff, true_and, and_true, true_implies, if_true, if_false, ite_true, reduceIte, ne_eq, not_false_eq_true, reduceCtorEq, forall_const, bne_self_eq_false, Bool.true_eq_false, Bool.false_eq_true, false_implies, and_self, implies_true, Int.toNat_zero, beq_self_eq_true, decide_true, decide_false, Bool.not_true, Bool.not_false, ↓y_call, ↓y_at_old H.lm, ↓y_atm_old H.lM, ↓y_at_old H.lw, ↓y_at_old H.lv, ↓y_at_old H.lc, ↓y_at_old H.lo, H.hm, H.hM, H.hw, H.hv, H.hc, H.ho, H.lm, H.lw, H.lc, H.lv, H.lo, H.lM, y_key2, List.length_map, Int.le_refl, m0, m1, m2, k2, k4, t1, t2, g1, w1, w2, w3, w4, w5]
  refine ⟨tk, fun e he h1 => hlow (tg e he h1), ?_⟩
  refine adrawq hmix [] ?_
  simp (maxSteps := 400000) -implicitDefEqProofs only [↓symPre, symPost, y_condP, y_condG, run, lver, minD, intsD, eqAll, tupD, splice, Nat.zero_add, Nat.add_zero, Nat.zero_mul, Nat.mul_one, Nat.one_mul, Nat.reduceAdd, Nat.reduceSub, Nat.reduceMul, Nat.reduceLT, Nat.reduceLeDiff, Nat.reduceEqDiff, true_and, and_true, true_implies, if_true, if_false, ite_true, reduceIte, ne_eq, not_false_eq_true, reduceCtorEq, forall_const, bne_self_eq_false, Bool.true_eq_false, Bool.false_eq_true, false_implies, and_self, implies_true, Int.toNat_zero, beq_self_eq_true, decide_true, decide_false, Bool.not_true, Bool.not_false, ↓y_call, ↓drawPre, drawPost, isCall, isNew, isEff, Option.toList, or_false, false_or, cond_true, cond_false, not_true_eq_false, or_true, true_or, Nat.add_left_cancel_iff, Bool.false_eq_true, ↓y_at_old H.lm, ↓y_atm_old H.lM, ↓y_at_old H.lw, ↓y_at_old H.lv, ↓y_at_old H.lc, ↓y_at_old H.lo, H.hm, H.hM, H.hw, H.hv, H.hc, H.ho, H.lm, H.lw, H.lc, H.lv, H.lo, H.lM, y_key2, List.length_map, Int.le_refl, m0, m1, m2, k2, k4, t1, t2, ↓y_stepQ_callv, u1]
  refine ⟨_, _, of_draw ih1 (bm := bm) (bw := bw) (bc := bc) (bv := bv) (bo := bo) (bM := bM) ?_ ?_ ?_, (by simp [y_cov0, y_cov1, isNew, isEff, Option.toList]), ?_⟩
  · exact H
  · rfl
  · rfl
  simp (maxSteps := 400000) -implicitDefEqProofs only [↓symPre, symPost, y_condP, y_condG, run, lver, minD, intsD, eqAll, tupD, splice, Nat.zero_add, Nat.add_zero, Nat.zero_mul, Nat.mul_one, Nat.one_mul, Nat.reduceAdd, Nat.reduceSub, Nat.reduceMul, Nat.reduceLT, Nat.reduceLeDiff, Nat.reduceEqDiff, true_and, and_true, true_implies, if_true, if_false, ite_true, reduceIte, ne_eq, not_false_eq_true, reduceCtorEq, forall_const, bne_self_eq_false, Bool.true_eq_false, Bool.false_eq_true, false_implies, and_self, implies_true, Int.toNat_zero, beq_self_eq_true, decide_true, decide_false, Bool.not_true, Bool.not_false, ↓y_call, ↓drawPre, drawPost, isCall, isNew, isEff, Option.toList, or_false, false_or, cond_true, cond_false, not_true_eq_false, or_true, true_or, Nat.add_left_cancel_iff, Bool.false_eq_true, ↓y_at_old H.lm, ↓y_atm_old H.lM, ↓y_at_old H.lw, ↓y_at_old H.lv, ↓y_at_old H.lc, ↓y_at_old H.lo, H.hm, H.hM, H.hw, H.hv, H.hc, H.ho, H.lm, H.lw, H.lc, H.lv, H.lo, H.lM, y_key2, List.length_map, Int.le_refl, m0, m1, m2, k2, k4, t1, t2, List.foldl_cons, List.foldl_nil, u2, hM, g1, g2]
  have hd : M = dR q (w.drop i) (v.drop j) := by
    rw [← hM, hB, List.drop_eq_nil_of_le (by omega : v.length ≤ j), dR_nil2, dR_nil2, List.length_drop, List.length_drop, show v.length - j = 0 by omega, show w.length - i = (w.length - (i + 1)) + 1 by omega, len_mul]
    simp
  exact ⟨tk, by rw [hd]; exact tp, hlow (by rw [hd])⟩


set_option maxHeartbeats 8000000 in
theorem of_same {q : Co} (hq : okCo q 100) {w v : List Int} {i j : Nat} {B : Int} (N : OfN q w v i j B) (hi : i ≤ w.length) (hj : j ≤ v.length) (ci : i < w.length) (cj : j < v.length) (cx : w[i] = v[j]) (ih1 : OfC q w v (i + 1) j) (ih2 : OfC q w v i (j + 1)) (ih3 : OfC q w v (i + 1) (j + 1)) : OfC q w v i j := by
  intro n h bm bw bc bv bo bM H
  obtain ⟨q1, q2, q3, q4, q5, q6⟩ := hq
  obtain ⟨w1, w2, w3, w4, w5, hle, u1, u3, hB, hz⟩ := N
  have tk := tab_key (q := q) (w := w) (v := v)
  have tg := tab_get (q := q) (w := w) (v := v) (i := i) (j := j)
  have tp := tab_put (q := q) hi hj
  refine K_parlref4_Weigh_1.calls fun hl => ?_
  unfold C_parlref4_Weigh_1
  have hlow : ∀ {d : D}, d = .int .i64 (dR q (w.drop i) (v.drop j)) → ∀ {sl : List D} {lc : List Blk}, Fin (St.mk n sl h lc) (fun d h' x => h' = h ∧ x = [] ∧ d = .int .i64 (dR q (w.drop i) (v.drop j))) [d] := fun hd => by
    subst hd; exact fin_low hl (.int ..) ⟨rfl, rfl, rfl⟩
  have m0 : (0 : Int) < ((3 : Nat) : Int) := by decide
  have m1 : (1 : Int) < ((3 : Nat) : Int) := by decide
  have m2 : (2 : Int) < ((3 : Nat) : Int) := by decide
  have k2 : (0 : Int) ≤ 1 := by omega
  have k4 : (0 : Int) ≤ 2 := by omega
  have t1 : Int.toNat 1 = 1 := rfl
  have t2 : Int.toNat 2 = 2 := rfl
  have g1 : (i : Int) < (w.length : Int) := by omega
  have g2 : (j : Int) < (v.length : Int) := by omega
  have z1 := hz (i + 1) j
  have z2 := hz i (j + 1)
  have z3 := hz (i + 1) (j + 1)
  have u2 : IntKind.i64.wrap (dR q (w.drop (i + 1)) (v.drop j) + q.b) = dR q (w.drop (i + 1)) (v.drop j) + q.b := IntWalk.i64_in _ (by omega)
  have u4 : IntKind.i64.wrap (dR q (w.drop i) (v.drop (j + 1)) + q.a) = dR q (w.drop i) (v.drop (j + 1)) + q.a := IntWalk.i64_in _ (by omega)
  have u5 : IntKind.i64.wrap (dR q (w.drop (i + 1)) (v.drop (j + 1)) + 0) = dR q (w.drop (i + 1)) (v.drop (j + 1)) + 0 := IntWalk.i64_in _ (by omega)
  have hdi := List.drop_eq_getElem_cons ci
  have hdj := List.drop_eq_getElem_cons cj
  have e0 := nth_ints w i ci
  have e1 := nth_ints v j cj
  have f0 : (0 : Int) ≤ (i : Int) := by omega
  have f1 : (0 : Int) ≤ (j : Int) := by omega
  have hc3 := dR_cons q w[i] v[j] (w.drop (i + 1)) (v.drop (j + 1))
  rw [← hdi, ← hdj] at hc3
  have hm3 := min3_le (dR q (w.drop (i + 1)) (v.drop (j + 1)) + if w[i] = v[j] then 0 else q.c) (dR q (w.drop (i + 1)) (v.drop j) + q.b) (dR q (w.drop i) (v.drop (j + 1)) + q.a)
  rw [← hc3, if_pos cx] at hm3
  have b1 : (w[i] == v[j]) = true := by simp [cx]
  obtain ⟨M1, hM1⟩ : ∃ M, (if dR q (w.drop (i + 1)) (v.drop j) + q.b < B then dR q (w.drop (i + 1)) (v.drop j) + q.b else B) = M := ⟨_, rfl⟩
  obtain ⟨M2, hM2⟩ : ∃ M, (if dR q (w.drop i) (v.drop (j + 1)) + q.a < M1 then dR q (w.drop i) (v.drop (j + 1)) + q.a else M1) = M := ⟨_, rfl⟩
  obtain ⟨M3, hM3⟩ : ∃ M, (if dR q (w.drop (i + 1)) (v.drop (j + 1)) + 0 < M2 then dR q (w.drop (i + 1)) (v.drop (j + 1)) + 0 else M2) = M := ⟨_, rfl⟩
  simp -implicitDefEqProofs only [↓symPre, symPost, y_condP, y_condG, run, lver, minD, intsD, eqAll, tupD, splice, Nat.zero_add, Nat.add_zero, Nat.zero_mul, Nat.mul_one, Nat.one_mul, Nat.reduceAdd, Nat.reduceSub, Nat.reduceMul, Nat.reduceLT, Nat.reduceLeDiff, Nat.reduceEqDiff, true_and, and_true, true_implies, if_true, if_false, ite_true, reduceIte, ne_eq, not_false_eq_true, reduceCtorEq, forall_const, bne_self_eq_false, Bool.true_eq_false, Bool.false_eq_true, false_implies, and_self, implies_true, Int.toNat_zero, beq_self_eq_true, decide_true, decide_false, Bool.not_true, Bool.not_false, ↓y_call, ↓y_at_old H.lm, ↓y_atm_old H.lM, ↓y_at_old H.lw, ↓y_at_old H.lv, ↓y_at_old H.lc, ↓y_at_old H.lo, H.hm, H.hM, H.hw, H.hv, H.hc, H.ho, H.lm, H.lw, H.lc, H.lv, H.lo, H.lM, y_key2, List.length_map, Int.le_refl, m0, m1, m2, k2, k4, t1, t2, g1, w1, w2, w3, w4, w5]
  refine ⟨tk, fun e he h1 => hlow (tg e he h1), ?_⟩
  refine adrawq hmix [] ?_
  simp (maxSteps := 400000) -implicitDefEqProofs only [↓symPre, symPost, y_condP, y_condG, run, lver, minD, intsD, eqAll, tupD, splice, Nat.zero_add, Nat.add_zero, Nat.zero_mul, Nat.mul_one, Nat.one_mul, Nat.reduceAdd, Nat.reduceSub, Nat.reduceMul, Nat.reduceLT, Nat.reduceLeDiff, Nat.reduceEqDiff, true_and, and_true, true_implies, if_true, if_false, ite_true, reduceIte, ne_eq, not_false_eq_true, reduceCtorEq, forall_const, bne_self_eq_false, Bool.true_eq_false, Bool.false_eq_true, false_implies, and_self, implies_true, Int.toNat_zero, beq_self_eq_true, decide_true, decide_false, Bool.not_true, Bool.not_false, ↓y_call, ↓drawPre, drawPost, isCall, isNew, isEff, Option.toList, or_false, false_or, cond_true, cond_false, not_true_eq_false, or_true, true_or, Nat.add_left_cancel_iff, Bool.false_eq_true, ↓y_at_old H.lm, ↓y_atm_old H.lM, ↓y_at_old H.lw, ↓y_at_old H.lv, ↓y_at_old H.lc, ↓y_at_old H.lo, H.hm, H.hM, H.hw, H.hv, H.hc, H.ho, H.lm, H.lw, H.lc, H.lv, H.lo, H.lM, y_key2, List.length_map, Int.le_refl, m0, m1, m2, k2, k4, t1, t2, ↓y_stepQ_callv, u1]
  refine ⟨_, _, of_draw ih1 (bm := bm) (bw := bw) (bc := bc) (bv := bv) (bo := bo) (bM := bM) ?_ ?_ ?_, (by simp [y_cov0, y_cov1, isNew, isEff, Option.toList]), ?_⟩
  · exact H
  · rfl
  · rfl
  simp (maxSteps := 400000) -implicitDefEqProofs only [↓symPre, symPost, y_condP, y_condG, run, lver, minD, intsD, eqAll, tupD, splice, Nat.zero_add, Nat.add_zero, Nat.zero_mul, Nat.mul_one, Nat.one_mul, Nat.reduceAdd, Nat.reduceSub, Nat.reduceMul, Nat.reduceLT, Nat.reduceLeDiff, Nat.reduceEqDiff, true_and, and_true, true_implies, if_true, if_false, ite_true, reduceIte, ne_eq, not_false_eq_true, reduceCtorEq, forall_const, bne_self_eq_false, Bool.true_eq_false, Bool.false_eq_true, false_implies, and_self, implies_true, Int.toNat_zero, beq_self_eq_true, decide_true, decide_false, Bool.not_true, Bool.not_false, ↓y_call, ↓drawPre, drawPost, isCall, isNew, isEff, Option.toList, or_false, false_or, cond_true, cond_false, not_true_eq_false, or_true, true_or, Nat.add_left_cancel_iff, Bool.false_eq_true, ↓y_at_old H.lm, ↓y_atm_old H.lM, ↓y_at_old H.lw, ↓y_at_old H.lv, ↓y_at_old H.lc, ↓y_at_old H.lo, H.hm, H.hM, H.hw, H.hv, H.hc, H.ho, H.lm, H.lw, H.lc, H.lv, H.lo, H.lM, y_key2, List.length_map, Int.le_refl, m0, m1, m2, k2, k4, t1, t2, List.foldl_cons, List.foldl_nil, u2, hM1, g2]
  refine adrawq hmix [] ?_
  simp (maxSteps := 400000) -implicitDefEqProofs only [↓symPre, symPost, y_condP, y_condG, run, lver, minD, intsD, eqAll, tupD, splice, Nat.zero_add, Nat.add_zero, Nat.zero_mul, Nat.mul_one, Nat.one_mul, Nat.reduceAdd, Nat.reduceSub, Nat.reduceMul, Nat.reduceLT, Nat.reduceLeDiff, Nat.reduceEqDiff, true_and, and_true, true_implies, if_true, if_false, ite_true, reduceIte, ne_eq, not_false_eq_true, reduceCtorEq, forall_const, bne_self_eq_false, Bool.true_eq_false, Bool.false_eq_true, false_implies, and_self, implies_true, Int.toNat_zero, beq_self_eq_true, decide_true, decide_false, Bool.not_true, Bool.not_false, ↓y_call, ↓drawPre, drawPost, isCall, isNew, isEff, Option.toList, or_false, false_or, cond_true, cond_false, not_true_eq_false, or_true, true_or, Nat.add_left_cancel_iff, Bool.false_eq_true, ↓y_at_old H.lm, ↓y_atm_old H.lM, ↓y_at_old H.lw, ↓y_at_old H.lv, ↓y_at_old H.lc, ↓y_at_old H.lo, H.hm, H.hM, H.hw, H.hv, H.hc, H.ho, H.lm, H.lw, H.lc, H.lv, H.lo, H.lM, y_key2, List.length_map, Int.le_refl, m0, m1, m2, k2, k4, t1, t2, ↓y_stepQ_callv, u3]
  refine ⟨_, _, of_draw ih2 (bm := bm) (bw := bw) (bc := bc) (bv := bv) (bo := bo) (bM := bM) ?_ ?_ ?_, (by simp [y_cov0, y_cov1, isNew, isEff, Option.toList]), ?_⟩
  · exact H
  · rfl
  · rfl
  simp (maxSteps := 400000) -implicitDefEqProofs only [↓symPre, symPost, y_condP, y_condG, run, lver, minD, intsD, eqAll, tupD, splice, Nat.zero_add, Nat.add_zero, Nat.zero_mul, Nat.mul_one, Nat.one_mul, Nat.reduceAdd, Nat.reduceSub, Nat.reduceMul, Nat.reduceLT, Nat.reduceLeDiff, Nat.reduceEqDiff, true_and, and_true, true_implies, if_true, if_false, ite_true, reduceIte, ne_eq, not_false_eq_true, reduceCtorEq, forall_const, bne_self_eq_false, Bool.true_eq_false, Bool.false_eq_true, false_implies, and_self, implies_true, Int.toNat_zero, beq_self_eq_true, decide_true, decide_false, Bool.not_true, Bool.not_false, ↓y_call, ↓drawPre, drawPost, isCall, isNew, isEff, Option.toList, or_false, false_or, cond_true, cond_false, not_true_eq_false, or_true, true_or, Nat.add_left_cancel_iff, Bool.false_eq_true, ↓y_at_old H.lm, ↓y_atm_old H.lM, ↓y_at_old H.lw, ↓y_at_old H.lv, ↓y_at_old H.lc, ↓y_at_old H.lo, H.hm, H.hM, H.hw, H.hv, H.hc, H.ho, H.lm, H.lw, H.lc, H.lv, H.lo, H.lM, y_key2, List.length_map, Int.le_refl, m0, m1, m2, k2, k4, t1, t2, List.foldl_cons, List.foldl_nil, u4, hM2, g1, g2]
  refine adrawq hmix [] ?_
  simp (maxSteps := 400000) -implicitDefEqProofs only [↓symPre, symPost, y_condP, y_condG, run, lver, minD, intsD, eqAll, tupD, splice, Nat.zero_add, Nat.add_zero, Nat.zero_mul, Nat.mul_one, Nat.one_mul, Nat.reduceAdd, Nat.reduceSub, Nat.reduceMul, Nat.reduceLT, Nat.reduceLeDiff, Nat.reduceEqDiff, true_and, and_true, true_implies, if_true, if_false, ite_true, reduceIte, ne_eq, not_false_eq_true, reduceCtorEq, forall_const, bne_self_eq_false, Bool.true_eq_false, Bool.false_eq_true, false_implies, and_self, implies_true, Int.toNat_zero, beq_self_eq_true, decide_true, decide_false, Bool.not_true, Bool.not_false, ↓y_call, ↓drawPre, drawPost, isCall, isNew, isEff, Option.toList, or_false, false_or, cond_true, cond_false, not_true_eq_false, or_true, true_or, Nat.add_left_cancel_iff, Bool.false_eq_true, ↓y_at_old H.lm, ↓y_atm_old H.lM, ↓y_at_old H.lw, ↓y_at_old H.lv, ↓y_at_old H.lc, ↓y_at_old H.lo, H.hm, H.hM, H.hw, H.hv, H.hc, H.ho, H.lm, H.lw, H.lc, H.lv, H.lo, H.lM, y_key2, List.length_map, Int.le_refl, m0, m1, m2, k2, k4, t1, t2, Int.toNat_natCast, e0, e1, f0, f1, g1, g2]
  simp -implicitDefEqProofs only [↓symPre, symPost, y_condP, y_condG, run, lver, minD, intsD, eqAll, tupD, splice, Nat.zero_add, Nat.add_zero, Nat.zero_mul, Nat.mul_one, Nat.one_mul, Nat.reduceAdd, Nat.reduceSub, Nat.reduceMul, Nat.reduceLT, Nat.reduceLeDiff, Nat.reduceEqDiff, true_and, and_true, true_implies, if_true, if_false, ite_true, reduceIte, ne_eq, not_false_eq_true, reduceCtorEq, forall_const, bne_self_eq_false, Bool.true_eq_false, Bool.false_eq_true, false_implies, and_self, implies_true, Int.toNat_zero, beq_self_eq_true, decide_true, decide_false, Bool.not_true, Bool.not_false, ↓y_call, ↓y_at_old H.lm, ↓y_atm_old H.lM, ↓y_at_old H.lw, ↓y_at_old H.lv, ↓y_at_old H.lc, ↓y_at_old H.lo, H.hm, H.hM, H.hw, H.hv, H.hc, H.ho, H.lm, H.lw, H.lc, H.lv, H.lo, H.lM, y_key2, List.length_map, Int.le_refl, m0, m1, m2, k2, k4, t1, t2, b1, u1, u3, ↓y_callv]
  refine of_call ih3 H rfl rfl ?_
  simp -implicitDefEqProofs only [↓symPre, symPost, y_condP, y_condG, run, lver, minD, intsD, eqAll, tupD, splice, Nat.zero_add, Nat.add_zero, Nat.zero_mul, Nat.mul_one, Nat.one_mul, Nat.reduceAdd, Nat.reduceSub, Nat.reduceMul, Nat.reduceLT, Nat.reduceLeDiff, Nat.reduceEqDiff, true_and, and_true, true_implies, if_true, if_false, ite_true, reduceIte, ne_eq, not_false_eq_true, reduceCtorEq, forall_const, bne_self_eq_false, Bool.true_eq_false, Bool.false_eq_true, false_implies, and_self, implies_true, Int.toNat_zero, beq_self_eq_true, decide_true, decide_false, Bool.not_true, Bool.not_false, ↓y_call, ↓y_at_old H.lm, ↓y_atm_old H.lM, ↓y_at_old H.lw, ↓y_at_old H.lv, ↓y_at_old H.lc, ↓y_at_old H.lo, H.hm, H.hM, H.hw, H.hv, H.hc, H.ho, H.lm, H.lw, H.lc, H.lv, H.lo, H.lM, y_key2, List.length_map, Int.le_refl, m0, m1, m2, k2, k4, t1, t2, List.foldl_cons, List.foldl_nil, u5, hM3]
  have hd : M3 = dR q (w.drop i) (v.drop j) := by
    rw [← hM3, ← hM2, ← hM1]
    split <;> split <;> split <;> omega
  exact ⟨tk, by rw [hd]; exact tp, hlow (by rw [hd])⟩


set_option maxHeartbeats 8000000 in
theorem of_diff {q : Co} (hq : okCo q 100) {w v : List Int} {i j : Nat} {B : Int} (N : OfN q w v i j B) (hi : i ≤ w.length) (hj : j ≤ v.length) (ci : i < w.length) (cj : j < v.length) (cx : w[i] ≠ v[j]) (ih1 : OfC q w v (i + 1) j) (ih2 : OfC q w v i (j + 1)) (ih3 : OfC q w v (i + 1) (j + 1)) : OfC q w v i j := by
  intro n h bm bw bc bv bo bM H
  obtain ⟨q1, q2, q3, q4, q5, q6⟩ := hq
  obtain ⟨w1, w2, w3, w4, w5, hle, u1, u3, hB, hz⟩ := N
  have tk := tab_key (q := q) (w := w) (v := v)
  have tg := tab_get (q := q) (w := w) (v := v) (i := i) (j := j)
  have tp := tab_put (q := q) hi hj
  refine K_parlref4_Weigh_1.calls fun hl => ?_
  unfold C_parlref4_Weigh_1
  have hlow : ∀ {d : D}, d = .int .i64 (dR q (w.drop i) (v.drop j)) → ∀ {sl : List D} {lc : List Blk}, Fin (St.mk n sl h lc) (fun d h' x => h' = h ∧ x = [] ∧ d = .int .i64 (dR q (w.drop i) (v.drop j))) [d] := fun hd => by
    subst hd; exact fin_low hl (.int ..) ⟨rfl, rfl, rfl⟩
  have m0 : (0 : Int) < ((3 : Nat) : Int) := by decide
  have m1 : (1 : Int) < ((3 : Nat) : Int) := by decide
  have m2 : (2 : Int) < ((3 : Nat) : Int) := by decide
  have k2 : (0 : Int) ≤ 1 := by omega
  have k4 : (0 : Int) ≤ 2 := by omega
  have t1 : Int.toNat 1 = 1 := rfl
  have t2 : Int.toNat 2 = 2 := rfl
  have g1 : (i : Int) < (w.length : Int) := by omega
  have g2 : (j : Int) < (v.length : Int) := by omega
  have z1 := hz (i + 1) j
  have z2 := hz i (j + 1)
  have z3 := hz (i + 1) (j + 1)
  have u2 : IntKind.i64.wrap (dR q (w.drop (i + 1)) (v.drop j) + q.b) = dR q (w.drop (i + 1)) (v.drop j) + q.b := IntWalk.i64_in _ (by omega)
  have u4 : IntKind.i64.wrap (dR q (w.drop i) (v.drop (j + 1)) + q.a) = dR q (w.drop i) (v.drop (j + 1)) + q.a := IntWalk.i64_in _ (by omega)
  have u5 : IntKind.i64.wrap (dR q (w.drop (i + 1)) (v.drop (j + 1)) + q.c) = dR q (w.drop (i + 1)) (v.drop (j + 1)) + q.c := IntWalk.i64_in _ (by omega)
  have hdi := List.drop_eq_getElem_cons ci
  have hdj := List.drop_eq_getElem_cons cj
  have e0 := nth_ints w i ci
  have e1 := nth_ints v j cj
  have f0 : (0 : Int) ≤ (i : Int) := by omega
  have f1 : (0 : Int) ≤ (j : Int) := by omega
  have hc3 := dR_cons q w[i] v[j] (w.drop (i + 1)) (v.drop (j + 1))
  rw [← hdi, ← hdj] at hc3
  have hm3 := min3_le (dR q (w.drop (i + 1)) (v.drop (j + 1)) + if w[i] = v[j] then 0 else q.c) (dR q (w.drop (i + 1)) (v.drop j) + q.b) (dR q (w.drop i) (v.drop (j + 1)) + q.a)
  rw [← hc3, if_neg cx] at hm3
  have b1 : (w[i] == v[j]) = false := by simp [cx]
  obtain ⟨M1, hM1⟩ : ∃ M, (if dR q (w.drop (i + 1)) (v.drop j) + q.b < B then dR q (w.drop (i + 1)) (v.drop j) + q.b else B) = M := ⟨_, rfl⟩
  obtain ⟨M2, hM2⟩ : ∃ M, (if dR q (w.drop i) (v.drop (j + 1)) + q.a < M1 then dR q (w.drop i) (v.drop (j + 1)) + q.a else M1) = M := ⟨_, rfl⟩
  obtain ⟨M3, hM3⟩ : ∃ M, (if dR q (w.drop (i + 1)) (v.drop (j + 1)) + q.c < M2 then dR q (w.drop (i + 1)) (v.drop (j + 1)) + q.c else M2) = M := ⟨_, rfl⟩
  simp -implicitDefEqProofs only [↓symPre, symPost, y_condP, y_condG, run, lver, minD, intsD, eqAll, tupD, splice, Nat.zero_add, Nat.add_zero, Nat.zero_mul, Nat.mul_one, Nat.one_mul, Nat.reduceAdd, Nat.reduceSub, Nat.reduceMul, Nat.reduceLT, Nat.reduceLeDiff, Nat.reduceEqDiff, true_and, and_true, true_implies, if_true, if_false, ite_true, reduceIte, ne_eq, not_false_eq_true, reduceCtorEq, forall_const, bne_self_eq_false, Bool.true_eq_false, Bool.false_eq_true, false_implies, and_self, implies_true, Int.toNat_zero, beq_self_eq_true, decide_true, decide_false, Bool.not_true, Bool.not_false, ↓y_call, ↓y_at_old H.lm, ↓y_atm_old H.lM, ↓y_at_old H.lw, ↓y_at_old H.lv, ↓y_at_old H.lc, ↓y_at_old H.lo, H.hm, H.hM, H.hw, H.hv, H.hc, H.ho, H.lm, H.lw, H.lc, H.lv, H.lo, H.lM, y_key2, List.length_map, Int.le_refl, m0, m1, m2, k2, k4, t1, t2, g1, w1, w2, w3, w4, w5]
  refine ⟨tk, fun e he h1 => hlow (tg e he h1), ?_⟩
  refine adrawq hmix [] ?_
  simp (maxSteps := 400000) -implicitDefEqProofs only [↓symPre, symPost, y_condP, y_condG, run, lver, minD, intsD, eqAll, tupD, splice, Nat.zero_add, Nat.add_zero, Nat.zero_mul, Nat.mul_one, Nat.one_mul, Nat.reduceAdd, Nat.reduceSub, Nat.reduceMul, Nat.reduceLT, Nat.reduceLeDiff, Nat.reduceEqDiff, true_and, and_true, true_implies, if_true, if_false, ite_true, reduceIte, ne_eq, not_false_eq_true, reduceCtorEq, forall_const, bne_self_eq_false, Bool.true_eq_false, Bool.false_eq_true, false_implies, and_self, implies_true, Int.toNat_zero, beq_self_eq_true, decide_true, decide_false, Bool.not_true, Bool.not_false, ↓y_call, ↓drawPre, drawPost, isCall, isNew, isEff, Option.toList, or_false, false_or, cond_true, cond_false, not_true_eq_false, or_true, true_or, Nat.add_left_cancel_iff, Bool.false_eq_true, ↓y_at_old H.lm, ↓y_atm_old H.lM, ↓y_at_old H.lw, ↓y_at_old H.lv, ↓y_at_old H.lc, ↓y_at_old H.lo, H.hm, H.hM, H.hw, H.hv, H.hc, H.ho, H.lm, H.lw, H.lc, H.lv, H.lo, H.lM, y_key2, List.length_map, Int.le_refl, m0, m1, m2, k2, k4, t1, t2, ↓y_stepQ_callv, u1]
  refine ⟨_, _, of_draw ih1 (bm := bm) (bw := bw) (bc := bc) (bv := bv) (bo := bo) (bM := bM) ?_ ?_ ?_, (by simp [y_cov0, y_cov1, isNew, isEff, Option.toList]), ?_⟩
  · exact H
  · rfl
  · rfl
  simp (maxSteps := 400000) -implicitDefEqProofs only [↓symPre, symPost, y_condP, y_condG, run, lver, minD, intsD, eqAll, tupD, splice, Nat.zero_add, Nat.add_zero, Nat.zero_mul, Nat.mul_one, Nat.one_mul, Nat.reduceAdd, Nat.reduceSub, Nat.reduceMul, Nat.reduceLT, Nat.reduceLeDiff, Nat.reduceEqDiff, true_and, and_true, true_implies, if_true, if_false, ite_true, reduceIte, ne_eq, not_false_eq_true, reduceCtorEq, forall_const, bne_self_eq_false, Bool.true_eq_false, Bool.false_eq_true, false_implies, and_self, implies_true, Int.toNat_zero, beq_self_eq_true, decide_true, decide_false, Bool.not_true, Bool.not_false, ↓y_call, ↓drawPre, drawPost, isCall, isNew, isEff, Option.toList, or_false, false_or, cond_true, cond_false, not_true_eq_false, or_true, true_or, Nat.add_left_cancel_iff, Bool.false_eq_true, ↓y_at_old H.lm, ↓y_atm_old H.lM, ↓y_at_old H.lw, ↓y_at_old H.lv, ↓y_at_old H.lc, ↓y_at_old H.lo, H.hm, H.hM, H.hw, H.hv, H.hc, H.ho, H.lm, H.lw, H.lc, H.lv, H.lo, H.lM, y_key2, List.length_map, Int.le_refl, m0, m1, m2, k2, k4, t1, t2, List.foldl_cons, List.foldl_nil, u2, hM1, g2]
  refine adrawq hmix [] ?_
  simp (maxSteps := 400000) -implicitDefEqProofs only [↓symPre, symPost, y_condP, y_condG, run, lver, minD, intsD, eqAll, tupD, splice, Nat.zero_add, Nat.add_zero, Nat.zero_mul, Nat.mul_one, Nat.one_mul, Nat.reduceAdd, Nat.reduceSub, Nat.reduceMul, Nat.reduceLT, Nat.reduceLeDiff, Nat.reduceEqDiff, true_and, and_true, true_implies, if_true, if_false, ite_true, reduceIte, ne_eq, not_false_eq_true, reduceCtorEq, forall_const, bne_self_eq_false, Bool.true_eq_false, Bool.false_eq_true, false_implies, and_self, implies_true, Int.toNat_zero, beq_self_eq_true, decide_true, decide_false, Bool.not_true, Bool.not_false, ↓y_call, ↓drawPre, drawPost, isCall, isNew, isEff, Option.toList, or_false, false_or, cond_true, cond_false, not_true_eq_false, or_true, true_or, Nat.add_left_cancel_iff, Bool.false_eq_true, ↓y_at_old H.lm, ↓y_atm_old H.lM, ↓y_at_old H.lw, ↓y_at_old H.lv, ↓y_at_old H.lc, ↓y_at_old H.lo, H.hm, H.hM, H.hw, H.hv, H.hc, H.ho, H.lm, H.lw, H.lc, H.lv, H.lo, H.lM, y_key2, List.length_map, Int.le_refl, m0, m1, m2, k2, k4, t1, t2, ↓y_stepQ_callv, u3]
  refine ⟨_, _, of_draw ih2 (bm := bm) (bw := bw) (bc := bc) (bv := bv) (bo := bo) (bM := bM) ?_ ?_ ?_, (by simp [y_cov0, y_cov1, isNew, isEff, Option.toList]), ?_⟩
  · exact H
  · rfl
  · rfl
  simp (maxSteps := 400000) -implicitDefEqProofs only [↓symPre, symPost, y_condP, y_condG, run, lver, minD, intsD, eqAll, tupD, splice, Nat.zero_add, Nat.add_zero, Nat.zero_mul, Nat.mul_one, Nat.one_mul, Nat.reduceAdd, Nat.reduceSub, Nat.reduceMul, Nat.reduceLT, Nat.reduceLeDiff, Nat.reduceEqDiff, true_and, and_true, true_implies, if_true, if_false, ite_true, reduceIte, ne_eq, not_false_eq_true, reduceCtorEq, forall_const, bne_self_eq_false, Bool.true_eq_false, Bool.false_eq_true, false_implies, and_self, implies_true, Int.toNat_zero, beq_self_eq_true, decide_true, decide_false, Bool.not_true, Bool.not_false, ↓y_call, ↓drawPre, drawPost, isCall, isNew, isEff, Option.toList, or_false, false_or, cond_true, cond_false, not_true_eq_false, or_true, true_or, Nat.add_left_cancel_iff, Bool.false_eq_true, ↓y_at_old H.lm, ↓y_atm_old H.lM, ↓y_at_old H.lw, ↓y_at_old H.lv, ↓y_at_old H.lc, ↓y_at_old H.lo, H.hm, H.hM, H.hw, H.hv, H.hc, H.ho, H.lm, H.lw, H.lc, H.lv, H.lo, H.lM, y_key2, List.length_map, Int.le_refl, m0, m1, m2, k2, k4, t1, t2, List.foldl_cons, List.foldl_nil, u4, hM2, g1, g2]
  refine adrawq hmix [] ?_
  simp (maxSteps := 400000) -implicitDefEqProofs only [↓symPre, symPost, y_condP, y_condG, run, lver, minD, intsD, eqAll, tupD, splice, Nat.zero_add, Nat.add_zero, Nat.zero_mul, Nat.mul_one, Nat.one_mul, Nat.reduceAdd, Nat.reduceSub, Nat.reduceMul, Nat.reduceLT, Nat.reduceLeDiff, Nat.reduceEqDiff, true_and, and_true, true_implies, if_true, if_false, ite_true, reduceIte, ne_eq, not_false_eq_true, reduceCtorEq, forall_const, bne_self_eq_false, Bool.true_eq_false, Bool.false_eq_true, false_implies, and_self, implies_true, Int.toNat_zero, beq_self_eq_true, decide_true, decide_false, Bool.not_true, Bool.not_false, ↓y_call, ↓drawPre, drawPost, isCall, isNew, isEff, Option.toList, or_false, false_or, cond_true, cond_false, not_true_eq_false, or_true, true_or, Nat.add_left_cancel_iff, Bool.false_eq_true, ↓y_at_old H.lm, ↓y_atm_old H.lM, ↓y_at_old H.lw, ↓y_at_old H.lv, ↓y_at_old H.lc, ↓y_at_old H.lo, H.hm, H.hM, H.hw, H.hv, H.hc, H.ho, H.lm, H.lw, H.lc, H.lv, H.lo, H.lM, y_key2, List.length_map, Int.le_refl, m0, m1, m2, k2, k4, t1, t2, Int.toNat_natCast, e0, e1, f0, f1, g1, g2]
  simp -implicitDefEqProofs only [↓symPre, symPost, y_condP, y_condG, run, lver, minD, intsD, eqAll, tupD, splice, Nat.zero_add, Nat.add_zero, Nat.zero_mul, Nat.mul_one, Nat.one_mul, Nat.reduceAdd, Nat.reduceSub, Nat.reduceMul, Nat.reduceLT, Nat.reduceLeDiff, Nat.reduceEqDiff, true_and, and_true, true_implies, if_true, if_false, ite_true, reduceIte, ne_eq, not_false_eq_true, reduceCtorEq, forall_const, bne_self_eq_false, Bool.true_eq_false, Bool.false_eq_true, false_implies, and_self, implies_true, Int.toNat_zero, beq_self_eq_true, decide_true, decide_false, Bool.not_true, Bool.not_false, ↓y_call, ↓y_at_old H.lm, ↓y_atm_old H.lM, ↓y_at_old H.lw, ↓y_at_old H.lv, ↓y_at_old H.lc, ↓y_at_old H.lo, H.hm, H.hM, H.hw, H.hv, H.hc, H.ho, H.lm, H.lw, H.lc, H.lv, H.lo, H.lM, y_key2, List.length_map, Int.le_refl, m0, m1, m2, k2, k4, t1, t2, b1, u1, u3, ↓y_callv]
  refine of_call ih3 H rfl rfl ?_
  simp -implicitDefEqProofs only [↓symPre, symPost, y_condP, y_condG, run, lver, minD, intsD, eqAll, tupD, splice, Nat.zero_add, Nat.add_zero, Nat.zero_mul, Nat.mul_one, Nat.one_mul, Nat.reduceAdd, Nat.reduceSub, Nat.reduceMul, Nat.reduceLT, Nat.reduceLeDiff, Nat.reduceEqDiff, true_and, and_true, true_implies, if_true, if_false, ite_true, reduceIte, ne_eq, not_false_eq_true, reduceCtorEq, forall_const, bne_self_eq_false, Bool.true_eq_false, Bool.false_eq_true, false_implies, and_self, implies_true, Int.toNat_zero, beq_self_eq_true, decide_true, decide_false, Bool.not_true, Bool.not_false, ↓y_call, ↓y_at_old H.lm, ↓y_atm_old H.lM, ↓y_at_old H.lw, ↓y_at_old H.lv, ↓y_at_old H.lc, ↓y_at_old H.lo, H.hm, H.hM, H.hw, H.hv, H.hc, H.ho, H.lm, H.lw, H.lc, H.lv, H.lo, H.lM, y_key2, List.length_map, Int.le_refl, m0, m1, m2, k2, k4, t1, t2, List.foldl_cons, List.foldl_nil, u5, hM3]
  have hd : M3 = dR q (w.drop i) (v.drop j) := by
    rw [← hM3, ← hM2, ← hM1]
    split <;> split <;> split <;> omega
  exact ⟨tk, by rw [hd]; exact tp, hlow (by rw [hd])⟩


theorem at_of (q : Co) (hq : okCo q 100) (w v : List Int) (hw : w.length ≤ 200) (hv : v.length ≤ 200) : ∀ (m i j : Nat), m = (w.length - i) + (v.length - j) → i ≤ w.length → j ≤ v.length → OfC q w v i j
  | m, i, j, hm, hi, hj => by
    obtain ⟨B, N⟩ := ofN q hq w v hw hv i j hi hj
    by_cases ci : i < w.length
    · have ih1 := at_of q hq w v hw hv _ (i + 1) j rfl ci hj
      by_cases cj : j < v.length
      · have ih2 := at_of q hq w v hw hv _ i (j + 1) rfl hi cj
        have ih3 := at_of q hq w v hw hv _ (i + 1) (j + 1) rfl ci cj
        by_cases cx : w[i] = v[j]
        · exact of_same hq N hi hj ci cj cx ih1 ih2 ih3
        · exact of_diff hq N hi hj ci cj cx ih1 ih2 ih3
      · exact of_w hq N hi hj ci cj ih1
    · by_cases cj : j < v.length
      · exact of_v hq N hi hj ci cj (at_of q hq w v hw hv _ i (j + 1) rfl hi cj)
      · exact of_none hq N hi hj ci cj
termination_by m => m
decreasing_by all_goals omega

end Abs
end Go.Proofs.Ytfojedaccfenfaa

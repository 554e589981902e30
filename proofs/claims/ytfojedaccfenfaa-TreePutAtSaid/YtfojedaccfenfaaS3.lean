/- Put: the subtree at a path replaced. -/
import Derived.Test.YtfojedaccfenfaaS2
namespace Go.Proofs.Ytfojedaccfenfaa
namespace Abs
set_option linter.unusedVariables false
set_option linter.unusedSimpArgs false
set_option maxRecDepth 20000

def withT : List Int → Tree → Tree → Tree
  | [], _, s => s
  | j :: q, .mk r tm ks, s => match ks[j.toNat]? with
    | some k => .mk r tm (ks.take j.toNat ++ withT q k s :: ks.drop (j.toNat + 1))
    | none => .mk r tm ks

theorem below_cons_iff {r tm : Int} {ks : List Tree} {j : Int} {q : List Int} {x : Tree} (h : belowT (.mk r tm ks) (j :: q) = some x) :
    ¬ r = -1 ∧ 0 ≤ j ∧ j.toNat < ks.length ∧ ∃ k, ks[j.toNat]? = some k ∧ belowT k q = some x := by
  simp only [belowT, Option.bind_eq_some_iff] at h
  obtain ⟨k, h1, h2⟩ := h
  simp only [kidT] at h1
  by_cases hc : r = -1 ∨ j < 0
  · rw [if_pos hc] at h1; cases h1
  rw [if_neg hc] at h1
  exact ⟨fun h => hc (.inl h), by omega, (List.getElem?_eq_some_iff.1 h1).1, k, h1, h2⟩

theorem spD_agg (p : List Int) (n : Nat) (t s : Tree) : spD p n t s = .agg (spD p n t s).cells := by
  cases p with
  | nil => cases s; rw [spD, treeD_mk]; rfl
  | cons j q => cases t; rfl

/-- the spine's i-th array -/
theorem spB_at : ∀ (p : List Int) (N : Nat) (t x : Tree) (i : Nat) (hi : i < p.length), belowT t p = some x →
    ∃ (C : List D) (ti : Tree), (spB p N t x)[i]? = some ⟨1, .cells C⟩ ∧ p[i].toNat * 3 + 3 ≤ C.length ∧ (C.drop (p[i].toNat * 3)).take 3 = (spD (p.drop (i + 1)) (N + i + 1) ti x).cells ∧ belowT ti (p.drop (i + 1)) = some x
  | j :: q, N, .mk r tm ks, x, 0, hi, hb => by
    obtain ⟨h1, h2, h3, k, h4, h5⟩ := below_cons_iff hb
    refine ⟨kidsC ks j.toNat (spD q (N + 1) k x).cells, k, by simp only [spB, h4, List.getElem?_cons_zero], ?_, ?_, h5⟩
    · rw [List.getElem_cons_zero, kidsC_len h3 (spD_cells ..)]; omega
    · rw [List.getElem_cons_zero, kidsC_ld h3 (spD_cells ..)]; rfl
  | j :: q, N, .mk r tm ks, x, i + 1, hi, hb => by
    obtain ⟨h1, h2, h3, k, h4, h5⟩ := below_cons_iff hb
    obtain ⟨C, ti, a1, a2, a3, a4⟩ := spB_at q (N + 1) k x i (by simpa using hi) h5
    refine ⟨C, ti, by simp only [spB, h4, List.getElem?_cons_succ, a1], by simpa using a2, ?_, by simpa using a4⟩
    simp only [List.getElem_cons_succ, List.drop_succ_cons]
    rw [a3, show N + 1 + i + 1 = N + (i + 1) + 1 by omega]

/-- another tree put at the spine's end -/
theorem spB_put : ∀ (p : List Int) (N : Nat) (t x s : Tree) (i : Nat) (hi : i < p.length) (C : List D), i + 1 = p.length → belowT t p = some x → (spB p N t x)[i]? = some ⟨1, .cells C⟩ →
    (spB p N t x).set i ⟨1, .cells (C.take (p[i].toNat * 3) ++ (treeD s).cells ++ C.drop (p[i].toNat * 3 + 3))⟩ = spB p N t s
  | [j], N, .mk r tm ks, x, s, 0, hi, C, hl, hb, hC => by
    obtain ⟨h1, h2, h3, k, h4, h5⟩ := below_cons_iff hb
    simp only [spB, h4, List.getElem?_cons_zero, Option.some.injEq, Blk.mk.injEq, Con.cells.injEq, true_and] at hC
    subst hC
    simp only [spB, h4, List.getElem_cons_zero, List.set_cons_zero]
    rw [kidsC_splice h3 (spD_cells ..)]
    rfl
  | j :: j2 :: q, N, .mk r tm ks, x, s, i + 1, hi, C, hl, hb, hC => by
    obtain ⟨h1, h2, h3, k, h4, h5⟩ := below_cons_iff hb
    rw [spB, h4] at hC ⊢
    rw [spB, h4]
    simp only [List.getElem?_cons_succ] at hC
    have ih := spB_put (j2 :: q) (N + 1) k x s i (by simpa using hi) C (by simpa using hl) h5 hC
    simp only [List.set_cons_succ, List.getElem_cons_succ]
    have e : spD (j2 :: q) (N + 1) k x = spD (j2 :: q) (N + 1) k s := by cases k; rfl
    rw [← ih, e]
  | j :: j2 :: q, N, .mk r tm ks, x, s, 0, hi, C, hl, hb, hC => by simp at hl
  | [j], N, .mk r tm ks, x, s, i + 1, hi, C, hl, hb, hC => by simp at hi

/-- the spine, held to be data -/
theorem wk_frz_spD {X : Wx} (hg : X.g = []) : ∀ (p : List Int) (t0 : Nat) (t x s : Tree), belowT t p = some x → (∀ i b, (spB p (X.n + t0) t s)[i]? = some b → X.lc[t0 + i]? = some b) → Wk X (spD p (X.n + t0) t s) (treeD (withT p t s))
  | [], t0, t, x, s, hb, h => .low _ (low_treeD _ s)
  | j :: q, t0, .mk r tm ks, x, s, hb, h => by
    obtain ⟨h1, h2, h3, k, h4, h5⟩ := below_cons_iff hb
    simp only [spB, h4] at h
    have h0 := h 0 _ rfl
    simp only [withT, h4, spD]
    rw [treeD_mk]
    have ih := wk_frz_spD hg q (t0 + 1) k x s h5 (fun i b hb => by
      have := h (i + 1) b (by simpa [Nat.add_assoc] using hb)
      rwa [show t0 + (i + 1) = t0 + 1 + i by omega] at this)
    have hW : WkL X (kidsC ks j.toNat (spD q (X.n + t0 + 1) k s).cells) (cellsF treeD (ks.take j.toNat ++ withT q k s :: ks.drop (j.toNat + 1))) := by
      rw [show ks.take j.toNat ++ withT q k s :: ks.drop (j.toNat + 1) = ks.take j.toNat ++ [withT q k s] ++ ks.drop (j.toNat + 1) by simp, cellsF_app, cellsF_app, cellsF_one]
      refine WkL.app (WkL.app (WkL.low (low_cellsF treeD (low_treeD _) _)) (wkl_cells ?_ (spD_cells ..) (treeD_cells _))) (WkL.low (low_cellsF treeD (low_treeD _) _))
      rw [Nat.add_assoc]
      exact ih
    refine wk_agg3 wk_i wk_i (.frz 3 t0 1 0 ks.length (kidsC ks j.toNat (spD q (X.n + t0 + 1) k s).cells) _ (by simpa using h0) (by simp [hg]) ?_ ?_ ?_ fun i d hd j' e he => ?_)
    · simp; omega
    · rw [kidsC_len h3 (spD_cells ..)]; omega
    · intro d hd
      obtain ⟨t', _, rfl⟩ := List.mem_map.1 hd
      exact treeD_cells t'
    · rw [List.getElem?_map, Option.map_eq_some_iff] at hd
      obtain ⟨t', ht', rfl⟩ := hd
      rw [Nat.zero_add]
      exact hW.nth _ _ (cellsF_get treeD treeD_cells _ i j' t' e ht' he)

theorem pure_PutBad (t s : Tree) (p : List Int) (hf : full t * 40 ≤ 140737488355328) (hp : p.length < 2 ^ 60) (hb : belowT t p = none) : Pure prog F_tree_Put [treeD t, iD p, treeD s] (.tup [treeD zeroT, .int .i64 5]) := by
  intro n h
  have pA := pure_At t p hf hp
  rw [show atT t p = (zeroT, 5) by rw [atT, hb]] at pA
  simp only at pA
  rw [treeD_zero] at pA ⊢
  obtain ⟨r0, t0, k0, rfl⟩ : ∃ r t' k, t = .mk r t' k := by cases t; exact ⟨_, _, _, rfl⟩
  obtain ⟨r1, t1, k1, rfl⟩ : ∃ r t' k, s = .mk r t' k := by cases s; exact ⟨_, _, _, rfl⟩
  rw [treeD_mk] at pA ⊢
  rw [treeD_mk]
  refine K_tree_Put.calls fun hl => ?_
  unfold C_tree_Put
  have z5 : ((5 : Int) != 0) = true := by decide
  simp -implicitDefEqProofs only [↓symPre, symPost, y_condP, y_condG, run, lver, minD, intsD, eqAll, tupD, splice, Nat.zero_add, Nat.add_zero, Nat.zero_mul, Nat.mul_one, Nat.one_mul, Nat.reduceAdd, Nat.reduceSub, Nat.reduceMul, Nat.reduceLT, Nat.reduceLeDiff, Nat.reduceEqDiff, true_and, and_true, true_implies, if_true, if_false, ite_true, reduceIte, ne_eq, not_false_eq_true, reduceCtorEq, forall_const, bne_self_eq_false, Bool.true_eq_false, Bool.false_eq_true, false_implies, and_self, implies_true, Int.toNat_zero, beq_self_eq_true, decide_true, decide_false, Bool.not_true, Bool.not_false, ↓y_call]
  refine pA.call rfl ?_
  simp -implicitDefEqProofs only [↓symPre, symPost, y_condP, y_condG, run, lver, minD, intsD, eqAll, tupD, splice, Nat.zero_add, Nat.add_zero, Nat.zero_mul, Nat.mul_one, Nat.one_mul, Nat.reduceAdd, Nat.reduceSub, Nat.reduceMul, Nat.reduceLT, Nat.reduceLeDiff, Nat.reduceEqDiff, true_and, and_true, true_implies, if_true, if_false, ite_true, reduceIte, ne_eq, not_false_eq_true, reduceCtorEq, forall_const, bne_self_eq_false, Bool.true_eq_false, Bool.false_eq_true, false_implies, and_self, implies_true, Int.toNat_zero, beq_self_eq_true, decide_true, decide_false, Bool.not_true, Bool.not_false, ↓y_call, z5]
  exact fin_wk hl (wk_tup2 (wk_agg3 wk_i wk_i .nilsLst) wk_i) ⟨rfl, rfl, rfl⟩

set_option maxHeartbeats 4000000 in
theorem pure_Put (t s x : Tree) (p : List Int) (hf : full t * 40 ≤ 140737488355328) (hfs : full s * 40 ≤ 140737488355328) (hp : p.length < 2 ^ 60) (hb : belowT t p = some x) : Pure prog F_tree_Put [treeD t, iD p, treeD s] (.tup [treeD (withT p t s), .int .i64 0]) := by
  intro n h
  have pA := pure_At t p hf hp
  rw [show atT t p = (x, 0) by rw [atT, hb]] at pA
  simp only at pA
  have pC := spn_Clone p t x hb hf
  have pS := pure_CloneTree s hfs
  have hlB := spB_len p (n + 44) t x x hb
  obtain ⟨rx, tx, kx, ex⟩ : ∃ r t' k, x = .mk r t' k := by cases x; exact ⟨_, _, _, rfl⟩
  have exD : treeD x = .agg [.int .i64 rx, .int .i64 tx, .lst (kx.map treeD)] := by rw [ex, treeD_mk]
  obtain ⟨r0, t0, k0, et⟩ : ∃ r t' k, t = .mk r t' k := by cases t; exact ⟨_, _, _, rfl⟩
  have etD : treeD t = .agg [.int .i64 r0, .int .i64 t0, .lst (k0.map treeD)] := by rw [et, treeD_mk]
  obtain ⟨r1, t1, k1, es⟩ : ∃ r t' k, s = .mk r t' k := by cases s; exact ⟨_, _, _, rfl⟩
  have esD : treeD s = .agg [.int .i64 r1, .int .i64 t1, .lst (k1.map treeD)] := by rw [es, treeD_mk]
  rw [exD] at pA
  rw [etD] at pA pC ⊢
  rw [esD] at pS ⊢
  refine K_tree_Put.callsM p.length fun hl => ?_
  unfold C_tree_Put
  simp -implicitDefEqProofs only [↓symPre, symPost, y_condP, y_condG, run, lver, minD, intsD, eqAll, tupD, splice, Nat.zero_add, Nat.add_zero, Nat.zero_mul, Nat.mul_one, Nat.one_mul, Nat.reduceAdd, Nat.reduceSub, Nat.reduceMul, Nat.reduceLT, Nat.reduceLeDiff, Nat.reduceEqDiff, true_and, and_true, true_implies, if_true, if_false, ite_true, reduceIte, ne_eq, not_false_eq_true, reduceCtorEq, forall_const, bne_self_eq_false, Bool.true_eq_false, Bool.false_eq_true, false_implies, and_self, implies_true, Int.toNat_zero, beq_self_eq_true, decide_true, decide_false, Bool.not_true, Bool.not_false, ↓y_call]
  refine ⟨by omega, by omega, by omega, pA.call rfl ?_⟩
  have z0 : ((0 : Int) != 0) = false := by decide
  simp -implicitDefEqProofs only [↓symPre, symPost, y_condP, y_condG, run, lver, minD, intsD, eqAll, tupD, splice, Nat.zero_add, Nat.add_zero, Nat.zero_mul, Nat.mul_one, Nat.one_mul, Nat.reduceAdd, Nat.reduceSub, Nat.reduceMul, Nat.reduceLT, Nat.reduceLeDiff, Nat.reduceEqDiff, true_and, and_true, true_implies, if_true, if_false, ite_true, reduceIte, ne_eq, not_false_eq_true, reduceCtorEq, forall_const, bne_self_eq_false, Bool.true_eq_false, Bool.false_eq_true, false_implies, and_self, implies_true, Int.toNat_zero, beq_self_eq_true, decide_true, decide_false, Bool.not_true, Bool.not_false, ↓y_call, z0]
  refine ⟨by omega, pC.call' 44 ?_ ?_ ?_ ?_ ?_⟩
  · rw [hlB]; rfl
  · simp only [List.length_cons]; omega
  · rfl
  · rfl
  rw [fin_chgAt' (L := 44) (by rw [hlB]; rfl) (by simp only [List.length_cons]; omega)]
  have hc3 := spD_cells p (n + 44) t x
  have hone := spD_one p (n + 44) t x
  simp -implicitDefEqProofs only [↓symPre, symPost, y_condP, y_condG, run, lver, minD, intsD, eqAll, tupD, splice, Nat.zero_add, Nat.add_zero, Nat.zero_mul, Nat.mul_one, Nat.one_mul, Nat.reduceAdd, Nat.reduceSub, Nat.reduceMul, Nat.reduceLT, Nat.reduceLeDiff, Nat.reduceEqDiff, true_and, and_true, true_implies, if_true, if_false, ite_true, reduceIte, ne_eq, not_false_eq_true, reduceCtorEq, forall_const, bne_self_eq_false, Bool.true_eq_false, Bool.false_eq_true, false_implies, and_self, implies_true, Int.toNat_zero, beq_self_eq_true, decide_true, decide_false, Bool.not_true, Bool.not_false, ↓y_call, List.take_succ_cons, List.take_zero, hc3]
  obtain ⟨LC, hLC⟩ : ∃ LC : List Blk, LC = [blk0, blk0, blk0, ⟨1, .cells [.int .i64 r0, .int .i64 t0, .lst (k0.map treeD)]⟩, blk0, ⟨1, .cells [.int .i64 r1, .int .i64 t1, .lst (k1.map treeD)]⟩, ⟨1, .cells [.int .i64 0, .int .i64 0, .nils]⟩, blk0,
    ⟨1, .cells [.int .i64 rx, .int .i64 tx, .lst (kx.map treeD)]⟩, blk0, ⟨1, .cells (spD p (n + 44) t x).cells⟩] ++ List.replicate 33 blk0 ++ spB p (n + 44) t x := ⟨_, rfl⟩
  have h5 : LC.getD 5 blk0 = ⟨1, .cells [.int .i64 r1, .int .i64 t1, .lst (k1.map treeD)]⟩ := by rw [hLC]; rfl
  have h6 : LC.getD 6 blk0 = ⟨1, .cells [.int .i64 0, .int .i64 0, .nils]⟩ := by rw [hLC]; rfl
  have h10 : LC.getD 10 blk0 = ⟨1, .cells (spD p (n + 44) t x).cells⟩ := by rw [hLC]; rfl
  have hdrop : LC.drop 44 = spB p (n + 44) t x := by rw [hLC]; rfl
  have hgd : ∀ i B, (spB p (n + 44) t x)[i]? = some B → LC.getD (44 + i) blk0 = B := fun i B h => by
    rw [← hdrop, List.getElem?_drop] at h
    rw [List.getD, h]; rfl
  refine ⟨by omega, hone, ?_⟩
  refine aloop (fun q : Nat × Nat × Nat => St.mk n ([.top, .top, .top, .ptr (n + 3) 1 0, .top, .ptr (n + 5) 1 0, .ptr (n + 6) 1 0, .top, .top, .top, .ptr (n + 10) 1 0, .ptr (n + q.2.1) 1 q.2.2] ++ List.replicate 14 .top ++ [iD p, .int .i64 p.length, .int .i64 q.1] ++ List.replicate 15 .top) h LC)
      (fun q => q.1 ≤ p.length ∧ (∃ (C : List D) (ti : Tree), LC.getD q.2.1 blk0 = ⟨1, .cells C⟩ ∧ q.2.2 + 3 ≤ C.length ∧ (C.drop q.2.2).take 3 = (spD (p.drop q.1) (n + (44 + q.1)) ti x).cells ∧ belowT ti (p.drop q.1) = some x) ∧
        ((q.1 = 0 ∧ q.2.1 = 10 ∧ q.2.2 = 0) ∨ ∃ (i : Nat) (hi : i < p.length), q.1 = i + 1 ∧ q.2.1 = 44 + i ∧ q.2.2 = p[i].toNat * 3)) (fun q => p.length - q.1) (0, 10, 0)
      ⟨Nat.zero_le _, ⟨_, t, h10, by rw [hc3]; exact Nat.le_refl _, by rw [List.drop_zero, List.drop_zero, List.take_of_length_le (by rw [hc3]; exact Nat.le_refl _)]; rfl, by rw [List.drop_zero]; exact hb⟩, .inl ⟨rfl, rfl, rfl⟩⟩ ?_ ?_
  · refine le_tops rfl (hLC.trans rfl) ?_
    simp only [List.replicate, List.cons_append, List.nil_append, topL_top, topL_same, topL_nil, List.length_map]
    exact ⟨.inr rfl, TopL.refl _⟩
  · rintro ⟨i, tb, off⟩ ⟨hi, ⟨C, ti, hC1, hC2, hC3, hbi⟩, hor⟩
    simp only at hi hC1 hC2 hC3 hbi hor
    by_cases hlt : i < p.length
    · have f1 : (i : Int) < (p.length : Int) := by omega
      have f0 : (0 : Int) ≤ (i : Int) := by omega
      have w1 : IntKind.i64.wrap ((i : Int) + 1) = ((i + 1 : Nat) : Int) := by rw [IntWalk.i64_in _ (by omega)]; omega
      have e0 := nth_ints p i hlt
      obtain ⟨C', ti', q1, q2, q3, q4⟩ := spB_at p (n + 44) t x i hlt hb
      have hg := hgd i _ q1
      rw [List.drop_eq_getElem_cons hlt] at hC3 hbi
      obtain ⟨cr, ct, ck, rfl⟩ : ∃ r t' k, ti = .mk r t' k := by cases ti; exact ⟨_, _, _, rfl⟩
      obtain ⟨g1, g2, g3, k, g4, g5⟩ := below_cons_iff hbi
      have g2' : p[i] < (ck.length : Int) := by omega
      have hn : nth C (off + 2) = .ref 3 (n + (44 + i)) 1 0 ck.length := by
        have : ((C.drop off).take 3)[2]? = some (.ref 3 (n + (44 + i)) 1 0 ck.length) := by rw [hC3]; rfl
        rw [List.getElem?_take, List.getElem?_drop] at this
        have this : C[off + 2]? = some (.ref 3 (n + (44 + i)) 1 0 ck.length) := by simpa using this
        simp [nth, List.getD, this]
      have hC0 : C ≠ [] := by intro e; rw [e] at hC2; simp at hC2
      have hC4 : off + 2 < C.length := by omega
      simp -implicitDefEqProofs only [↓symPre, symPost, y_condP, y_condG, run, lver, minD, intsD, eqAll, tupD, splice, Nat.zero_add, Nat.add_zero, Nat.zero_mul, Nat.mul_one, Nat.one_mul, Nat.reduceAdd, Nat.reduceSub, Nat.reduceMul, Nat.reduceLT, Nat.reduceLeDiff, Nat.reduceEqDiff, true_and, and_true, true_implies, if_true, if_false, ite_true, reduceIte, ne_eq, not_false_eq_true, reduceCtorEq, forall_const, bne_self_eq_false, Bool.true_eq_false, Bool.false_eq_true, false_implies, and_self, implies_true, Int.toNat_zero, beq_self_eq_true, decide_true, decide_false, Bool.not_true, Bool.not_false, ↓y_call, List.length_map, f1, f0, decide_true, Int.toNat_natCast, e0, hC1, hC0, hC4, hn, g2, g2', hg, w1]
      refine ⟨(i + 1, 44 + i, p[i].toNat * 3), ⟨by simp only; omega, ⟨C', ti', hg, q2, ?_, q4⟩, .inr ⟨i, hlt, rfl, rfl, rfl⟩⟩, by simp only; omega, ?_⟩
      · rw [q3, show n + 44 + i + 1 = n + (44 + (i + 1)) by omega]
      · refine le_tops rfl rfl ?_
        simp only [List.replicate, List.cons_append, List.nil_append, topL_top, topL_same, topL_nil, List.length_map]
    · have f1 : ¬ (i : Int) < (p.length : Int) := by omega
      have hil : i = p.length := by omega
      subst hil
      rw [List.drop_length] at hC3 hbi
      have hC0 : C ≠ [] := by intro e; rw [e] at hC2; simp at hC2
      -- the blocks with the other tree
      obtain ⟨L2, hL2, k10, k6, kd, ks⟩ : ∃ L2 : List Blk, LC.set tb ⟨1, .cells (C.take off ++ [.int .i64 r1, .int .i64 t1, .lst (k1.map treeD)] ++ C.drop (off + 3))⟩ = L2 ∧ L2.getD 10 blk0 = ⟨1, .cells (spD p (n + 44) t s).cells⟩ ∧
          L2.getD 6 blk0 = ⟨1, .cells [.int .i64 0, .int .i64 0, .nils]⟩ ∧ L2.drop 44 = spB p (n + 44) t s ∧ 44 ≤ L2.length := by
        have esc : (treeD s).cells = [.int .i64 r1, .int .i64 t1, .lst (k1.map treeD)] := by rw [esD]; rfl
        have hll : 44 ≤ LC.length := by rw [hLC]; simp
        rw [← esc]
        refine ⟨_, rfl, ?_⟩
        rcases hor with ⟨hp0, rfl, rfl⟩ | ⟨i, hi2, hi1, rfl, rfl⟩
        · have hpn : p = [] := List.eq_nil_of_length_eq_zero hp0
          subst hpn
          have hCe : C = (treeD x).cells := by
            have := h10.symm.trans hC1
            injection this with _ this; injection this with this
            exact this.symm
          have hcl : C.length = 3 := by rw [hCe]; exact treeD_cells x
          refine ⟨?_, ?_, ?_, by simpa using hll⟩
          · rw [List.getD, List.getElem?_set_self (by omega)]
            simp only [Option.getD_some, List.take_zero, List.nil_append, Nat.zero_add, spD]
            rw [List.drop_eq_nil_of_le (by omega), List.append_nil]
          · rw [List.getD, List.getElem?_set_ne (by omega)]; exact h6
          · rw [List.drop_set, if_pos (by omega), hdrop]; rfl
        · have hCi : (spB p (n + 44) t x)[i]? = some ⟨1, .cells C⟩ := by
            rw [← hdrop, List.getElem?_drop]
            have hlt2 : 44 + i < LC.length := by
              have : (LC.drop 44).length = p.length := by rw [hdrop, hlB]
              rw [List.length_drop] at this
              omega
            rw [List.getD, List.getElem?_eq_getElem hlt2] at hC1
            rw [List.getElem?_eq_getElem hlt2]
            exact congrArg some hC1
          have hput := spB_put p (n + 44) t x s i hi2 C hi1.symm hb hCi
          have hps : spD p (n + 44) t x = spD p (n + 44) t s := by
            cases p with
            | nil => simp at hi2
            | cons j q => cases t; rfl
          refine ⟨?_, ?_, ?_, by simpa using hll⟩
          · rw [List.getD, List.getElem?_set_ne (by omega), ← hps]; exact h10
          · rw [List.getD, List.getElem?_set_ne (by omega)]; exact h6
          · rw [List.drop_set, if_neg (by omega), hdrop, Nat.add_sub_cancel_left, hput]
      simp -implicitDefEqProofs only [↓symPre, symPost, y_condP, y_condG, run, lver, minD, intsD, eqAll, tupD, splice, Nat.zero_add, Nat.add_zero, Nat.zero_mul, Nat.mul_one, Nat.one_mul, Nat.reduceAdd, Nat.reduceSub, Nat.reduceMul, Nat.reduceLT, Nat.reduceLeDiff, Nat.reduceEqDiff, true_and, and_true, true_implies, if_true, if_false, ite_true, reduceIte, ne_eq, not_false_eq_true, reduceCtorEq, forall_const, bne_self_eq_false, Bool.true_eq_false, Bool.false_eq_true, false_implies, and_self, implies_true, Int.toNat_zero, beq_self_eq_true, decide_true, decide_false, Bool.not_true, Bool.not_false, ↓y_call, f1, decide_false, h5]
      refine pS.call rfl ?_
      have hc3s := spD_cells p (n + 44) t s
      have hones := spD_one p (n + 44) t s
      have hts := take_all (spD p (n + 44) t s).cells hc3s.symm
      have hset6 : ∀ B, (L2.set 6 B).getD 6 blk0 = B := fun B => by rw [List.getD, List.getElem?_set_self (by omega)]; rfl
      simp -implicitDefEqProofs only [↓symPre, symPost, y_condP, y_condG, run, lver, minD, intsD, eqAll, tupD, splice, Nat.zero_add, Nat.add_zero, Nat.zero_mul, Nat.mul_one, Nat.one_mul, Nat.reduceAdd, Nat.reduceSub, Nat.reduceMul, Nat.reduceLT, Nat.reduceLeDiff, Nat.reduceEqDiff, true_and, and_true, true_implies, if_true, if_false, ite_true, reduceIte, ne_eq, not_false_eq_true, reduceCtorEq, forall_const, bne_self_eq_false, Bool.true_eq_false, Bool.false_eq_true, false_implies, and_self, implies_true, Int.toNat_zero, beq_self_eq_true, decide_true, decide_false, Bool.not_true, Bool.not_false, ↓y_call, hC1, hC0, hC2, hL2, k10, k6, hts, hc3s, hset6, List.drop_succ_cons, List.drop_zero, List.append_nil, Nat.le_refl]
      refine ⟨hones, fin_wk hl (wk_tup2 ?_ wk_i) ⟨rfl, rfl, rfl⟩⟩
      rw [← spD_agg]
      refine wk_frz_spD rfl p 44 t x s hb fun i b hbk => ?_
      show (L2.set 6 _)[44 + i]? = _
      rw [List.getElem?_set_ne (by omega), ← List.getElem?_drop, kd]
      exact hbk

end Abs
end Go.Proofs.Ytfojedaccfenfaa

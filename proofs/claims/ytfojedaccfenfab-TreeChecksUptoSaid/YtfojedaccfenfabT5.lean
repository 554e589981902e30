/- TreeChecks. -/
import Derived.Test.YtfojedaccfenfabT4
namespace Go.Proofs.Ytfojedaccfenfab
namespace Abs
set_option linter.unusedVariables false
set_option linter.unusedSimpArgs false
set_option maxRecDepth 20000

theorem validK_iff (g : Gr) : ∀ (ks : List Tree) (ss : List Sy), ks.length = ss.length → (validK g ks ss = true ↔ (∀ k ∈ ks, (symT g k).2 = true ∧ validT g k = true) ∧ ks.map (fun k => (symT g k).1) = ss)
  | [], [], _ => by rw [validK_nil]; simp
  | [], _ :: _, h => by simp at h
  | _ :: _, [], h => by simp at h
  | k :: ks, s :: ss, h => by
    rw [validK_cons, Bool.and_eq_true, Bool.and_eq_true, Bool.and_eq_true, decide_eq_true_eq, validK_iff g ks ss (by simpa using h)]
    simp only [List.mem_cons, forall_eq_or_imp, List.map_cons, List.cons.injEq]
    constructor
    · rintro ⟨⟨h1, h2, h3⟩, h4, h5⟩; exact ⟨⟨⟨h1, h3⟩, h4⟩, h2, h5⟩
    · rintro ⟨⟨⟨h1, h3⟩, h4⟩, h2, h5⟩; exact ⟨⟨h1, h2, h3⟩, h4, h5⟩

theorem valid_root {g : Gr} {t : Tree} (h : validT g t = true) : (symT g t).2 = true := by
  obtain ⟨r, tm, ks⟩ := t
  rw [validT_mk, Bool.and_eq_true] at h
  exact h.1

theorem valid_nodes (g : Gr) : ∀ t : Tree, validT g t = true ↔ (nodesL t).all (nodeOk g) = true
  | .mk r tm ks => by
    have hls := lab_sym g (.mk r tm ks)
    rw [validT_mk, nodesL_mk, List.all_cons, nodeOk_mk, hls.1]
    by_cases c1 : r = -1
    · simp [c1]
    · rw [decide_eq_false c1, Bool.false_or, Bool.false_or, if_neg c1]
      cases hu : g.rules[r.toNat]? with
      | none => simp
      | some u =>
        simp only
        rw [Bool.and_eq_true, Bool.and_eq_true, Bool.and_eq_true, Bool.and_eq_true, Bool.and_eq_true, decide_eq_true_eq, decide_eq_true_eq]
        have hall : ((ks.map nodesL).flatten).all (nodeOk g) = true ↔ ∀ k ∈ ks, (nodesL k).all (nodeOk g) = true := by
          rw [List.all_eq_true]
          constructor
          · intro h k hk
            rw [List.all_eq_true]
            exact fun x hx => h x (List.mem_flatten.2 ⟨nodesL k, List.mem_map.2 ⟨k, hk, rfl⟩, hx⟩)
          · intro h x hx
            obtain ⟨l, hl, hx⟩ := List.mem_flatten.1 hx
            obtain ⟨k, hk, rfl⟩ := List.mem_map.1 hl
            exact List.all_eq_true.1 (h k hk) x hx
        rw [hall]
        have hk1 : ks.all (fun k => (labT g k).2) = true ↔ ∀ k ∈ ks, (symT g k).2 = true := by
          rw [List.all_eq_true]
          exact ⟨fun h k hk => by rw [← (lab_sym g k).1]; exact h k hk, fun h k hk => by rw [(lab_sym g k).1]; exact h k hk⟩
        rw [hk1]
        have hmap : (∀ k ∈ ks, (symT g k).2 = true) → ks.map (fun k => (labT g k).1) = ks.map (fun k => (symT g k).1) := fun h =>
          List.map_congr_left fun k hk => (lab_sym g k).2 (by rw [(lab_sym g k).1]; exact h k hk)
        constructor
        · rintro ⟨h1, h2, h3⟩
          obtain ⟨h4, h5⟩ := (validK_iff g ks u.right h2).1 h3
          have hs := fun k hk => (h4 k hk).1
          exact ⟨⟨h1, hs, by rw [hmap hs, h5]⟩, fun k hk => (valid_nodes g k).1 (h4 k hk).2⟩
        · rintro ⟨⟨h1, hs, h5⟩, h6⟩
          rw [hmap hs] at h5
          have hl : ks.length = u.right.length := by rw [← h5]; simp
          exact ⟨h1, hl, (validK_iff g ks u.right hl).2 ⟨fun k hk => ⟨hs k hk, (valid_nodes g k).2 (h6 k hk)⟩, h5⟩⟩
termination_by t => t

theorem fault_chk (g : Gr) (t : Tree) (h : gchk g = 0) : tchk g t = faultT g t := by
  rw [tchk, faultT, if_pos h]
  by_cases c : size t > 5000
  · rw [if_pos c, if_pos c]
  · rw [if_neg c, if_neg c]
    by_cases c2 : validT g t = true
    · rw [if_pos c2, if_pos ((valid_nodes g t).1 c2)]
    · rw [if_neg c2, if_neg (fun h => c2 ((valid_nodes g t).2 h))]
theorem chk_sym {g : Gr} {t : Tree} (h : tchk g t = 0) : (labT g t).1 = (symT g t).1 := by
  refine (lab_sym g t).2 ?_
  rw [(lab_sym g t).1]
  rw [tchk] at h
  split at h
  · split at h
    · cases h
    · split at h
      · exact valid_root ‹_›
      · cases h
  · contradiction

theorem chk_list : gchk listG = 0 := by decide +kernel
theorem chk_two : tchk listG twoT = 0 := by
  rw [tchk, if_pos chk_list, if_neg (by rw [size_two]; omega), if_pos]
  rw [twoT, validT_mk]
  simp [symT, listG, leafU, validK_cons, validK_nil, validT_mk]
theorem chk_bad : tchk listG (.mk 2 0 []) = 3 := by
  rw [tchk, if_pos chk_list, if_neg (by rw [size_mk]; simp), if_neg]
  rw [validT_mk]
  simp [symT, listG]

theorem nodes_full : ∀ (t x : Tree), x ∈ nodesL t → full x ≤ full t
  | .mk r tm ks, x, h => by
    rw [nodesL_mk] at h
    rcases List.mem_cons.1 h with rfl | h
    · exact Nat.le_refl _
    · by_cases c : r = -1
      · rw [if_pos c] at h; simp at h
      · rw [if_neg c] at h
        obtain ⟨l, hl, hx⟩ := List.mem_flatten.1 h
        obtain ⟨k, hk, rfl⟩ := List.mem_map.1 hl
        have h1 := nodes_full k x hx
        have h2 := full_kid hk
        rw [full_mk]; omega
termination_by t => t

theorem full_two : full twoT = 4 := by simp [twoT, leafU, full_mk]
theorem full_bad : full (.mk 2 0 []) = 1 := by simp [full_mk]

set_option maxHeartbeats 8000000 in
theorem pure_TreeChecks (g : Gr) (t : Tree) (hr : g.rules.length < 2 ^ 60) (hx : ∀ r ∈ g.rules, r.right.length < 2 ^ 60) (hs : size t < 2 ^ 40) (hf : full t < 2 ^ 40) : Pure prog F_parllaw4_TreeChecks [gramD g, treeD t] (.bool true) := by
  intro n h
  have p1 := pure_list
  have p2 := pure_two
  have p3 := pure_TCheck listG twoT (by simp [listG]) (by simp [listG]) (by rw [size_two]; omega) (by rw [full_two]; omega)
  rw [chk_two] at p3
  have p4 := pure_TCheck listG (.mk 2 0 []) (by simp [listG]) (by simp [listG]) (by rw [size_mk]; simp) (by rw [full_bad]; omega)
  rw [chk_bad, treeD_mk] at p4
  have hll := low_gramD 0 listG
  have pG := pure_gramCheck g hr hx
  have pF := pure_TreeFault g t (by omega) (fun x h => by have := nodes_full t x h; omega) hx
  have pL := pure_Label g t
  have pC := pure_TCheck g t hr hx (by omega) (by omega)
  have pS := pure_TSymbol g t hr hx (by omega) (by omega)
  have hfc := fault_chk g t
  have hcs := @chk_sym g t
  have htc : gchk g ≠ 0 → tchk g t = gchk g := fun h => by rw [tchk, if_neg h]
  have hts : tsym g t = if tchk g t = 0 then (symT g t).1 else ⟨false, 0⟩ := rfl
  obtain ⟨gt, gn, gs, gr, hGD, hGr⟩ : ∃ gt gn gs gr, gramD g = .agg [.int .i64 gt, .int .i64 gn, .int .i64 gs, .lst (gr.map ruleD)] ∧ g.rules = gr := by cases g; exact ⟨_, _, _, _, rfl, rfl⟩
  obtain ⟨r0, t0, k0, ht⟩ : ∃ r t' k, t = .mk r t' k := by cases t; exact ⟨_, _, _, rfl⟩
  have htD : treeD t = .agg [.int .i64 r0, .int .i64 t0, .lst (k0.map treeD)] := by rw [ht, treeD_mk]
  obtain ⟨LD, hLD⟩ : ∃ LD, LD = gramD listG := ⟨_, rfl⟩
  obtain ⟨TD, hTD⟩ : ∃ TD, TD = treeD twoT := ⟨_, rfl⟩
  rw [← hLD] at p1 p3 p4 hll
  rw [← hTD] at p2 p3
  simp only [hGD, htD] at pG pF pL pC pS ⊢
  generalize gchk g = ge at *
  generalize tchk g t = te at *
  generalize faultT g t = fe at *
  generalize labT g t = lb at *
  generalize (symT g t).1 = ss at *
  generalize tsym g t = ts at *
  obtain ⟨⟨lbb, lbn⟩, lok⟩ := lb
  obtain ⟨tsb, tsn⟩ := ts
  rw [show symD ⟨lbb, lbn⟩ = .agg [.bool lbb, .int .i64 lbn] from rfl] at pL
  rw [show symD ⟨tsb, tsn⟩ = .agg [.bool tsb, .int .i64 tsn] from rfl] at pS
  refine K_parllaw4_TreeChecks.calls fun hl => ?_
  unfold C_parllaw4_TreeChecks
  have z0 : ((0 : Int) != 0) = false := by decide
  have z3 : ((3 : Int) != 3) = false := by decide
  simp -implicitDefEqProofs only [↓symPre, symPost, y_condP, y_condG, run, lver, minD, intsD, eqAll, tupD, splice, Nat.zero_add, Nat.add_zero, Nat.zero_mul, Nat.mul_one, Nat.one_mul, Nat.reduceAdd, Nat.reduceSub, Nat.reduceMul, Nat.reduceLT, Nat.reduceLeDiff, Nat.reduceEqDiff, true_and, and_true, true_implies, if_true, if_false, ite_true, reduceIte, ne_eq, not_false_eq_true, reduceCtorEq, forall_const, bne_self_eq_false, Bool.true_eq_false, Bool.false_eq_true, false_implies, and_self, implies_true, Int.toNat_zero, beq_self_eq_true, decide_true, decide_false, Bool.not_true, Bool.not_false, ↓y_call]
  refine p1.call rfl ?_
  simp -implicitDefEqProofs only [↓symPre, symPost, y_condP, y_condG, run, lver, minD, intsD, eqAll, tupD, splice, Nat.zero_add, Nat.add_zero, Nat.zero_mul, Nat.mul_one, Nat.one_mul, Nat.reduceAdd, Nat.reduceSub, Nat.reduceMul, Nat.reduceLT, Nat.reduceLeDiff, Nat.reduceEqDiff, true_and, and_true, true_implies, if_true, if_false, ite_true, reduceIte, ne_eq, not_false_eq_true, reduceCtorEq, forall_const, bne_self_eq_false, Bool.true_eq_false, Bool.false_eq_true, false_implies, and_self, implies_true, Int.toNat_zero, beq_self_eq_true, decide_true, decide_false, Bool.not_true, Bool.not_false, ↓y_call]
  refine p2.call rfl ?_
  simp -implicitDefEqProofs only [↓symPre, symPost, y_condP, y_condG, run, lver, minD, intsD, eqAll, tupD, splice, Nat.zero_add, Nat.add_zero, Nat.zero_mul, Nat.mul_one, Nat.one_mul, Nat.reduceAdd, Nat.reduceSub, Nat.reduceMul, Nat.reduceLT, Nat.reduceLeDiff, Nat.reduceEqDiff, true_and, and_true, true_implies, if_true, if_false, ite_true, reduceIte, ne_eq, not_false_eq_true, reduceCtorEq, forall_const, bne_self_eq_false, Bool.true_eq_false, Bool.false_eq_true, false_implies, and_self, implies_true, Int.toNat_zero, beq_self_eq_true, decide_true, decide_false, Bool.not_true, Bool.not_false, ↓y_call]
  refine p3.call rfl ?_
  simp -implicitDefEqProofs only [↓symPre, symPost, y_condP, y_condG, run, lver, minD, intsD, eqAll, tupD, splice, Nat.zero_add, Nat.add_zero, Nat.zero_mul, Nat.mul_one, Nat.one_mul, Nat.reduceAdd, Nat.reduceSub, Nat.reduceMul, Nat.reduceLT, Nat.reduceLeDiff, Nat.reduceEqDiff, true_and, and_true, true_implies, if_true, if_false, ite_true, reduceIte, ne_eq, not_false_eq_true, reduceCtorEq, forall_const, bne_self_eq_false, Bool.true_eq_false, Bool.false_eq_true, false_implies, and_self, implies_true, Int.toNat_zero, beq_self_eq_true, decide_true, decide_false, Bool.not_true, Bool.not_false, ↓y_call, z0]
  refine p1.call rfl ?_
  simp -implicitDefEqProofs only [↓symPre, symPost, y_condP, y_condG, run, lver, minD, intsD, eqAll, tupD, splice, Nat.zero_add, Nat.add_zero, Nat.zero_mul, Nat.mul_one, Nat.one_mul, Nat.reduceAdd, Nat.reduceSub, Nat.reduceMul, Nat.reduceLT, Nat.reduceLeDiff, Nat.reduceEqDiff, true_and, and_true, true_implies, if_true, if_false, ite_true, reduceIte, ne_eq, not_false_eq_true, reduceCtorEq, forall_const, bne_self_eq_false, Bool.true_eq_false, Bool.false_eq_true, false_implies, and_self, implies_true, Int.toNat_zero, beq_self_eq_true, decide_true, decide_false, Bool.not_true, Bool.not_false, ↓y_call]
  refine p4.callF (.int ..) rfl (y_wkl (.low _ hll) (y_wkl (.agg _ _ rfl fun i c c' hc hc' => by
    rcases i with _ | _ | _ | i
    · simp at hc hc'; subst hc; subst hc'; exact .low _ (.int ..)
    · simp at hc hc'; subst hc; subst hc'; exact .low _ (.int ..)
    · simp at hc hc'; subst hc; subst hc'; exact .nilsLst
    · simp at hc) trivial)) ?_
  simp -implicitDefEqProofs only [↓symPre, symPost, y_condP, y_condG, run, lver, minD, intsD, eqAll, tupD, splice, Nat.zero_add, Nat.add_zero, Nat.zero_mul, Nat.mul_one, Nat.one_mul, Nat.reduceAdd, Nat.reduceSub, Nat.reduceMul, Nat.reduceLT, Nat.reduceLeDiff, Nat.reduceEqDiff, true_and, and_true, true_implies, if_true, if_false, ite_true, reduceIte, ne_eq, not_false_eq_true, reduceCtorEq, forall_const, bne_self_eq_false, Bool.true_eq_false, Bool.false_eq_true, false_implies, and_self, implies_true, Int.toNat_zero, beq_self_eq_true, decide_true, decide_false, Bool.not_true, Bool.not_false, ↓y_call, z3]
  refine pG.call rfl ?_
  have hse := sy_eqT ⟨tsb, tsn⟩
  by_cases c1 : ge = 0
  · have b1 : (ge == 0) = true := by simp [c1]
    have hft := hfc c1
    subst hft
    simp -implicitDefEqProofs only [↓symPre, symPost, y_condP, y_condG, run, lver, minD, intsD, eqAll, tupD, splice, Nat.zero_add, Nat.add_zero, Nat.zero_mul, Nat.mul_one, Nat.one_mul, Nat.reduceAdd, Nat.reduceSub, Nat.reduceMul, Nat.reduceLT, Nat.reduceLeDiff, Nat.reduceEqDiff, true_and, and_true, true_implies, if_true, if_false, ite_true, reduceIte, ne_eq, not_false_eq_true, reduceCtorEq, forall_const, bne_self_eq_false, Bool.true_eq_false, Bool.false_eq_true, false_implies, and_self, implies_true, Int.toNat_zero, beq_self_eq_true, decide_true, decide_false, Bool.not_true, Bool.not_false, ↓y_call, b1]
    refine pF.call rfl ?_
    by_cases c2 : te = 0
    · have b2 : (te == 0) = true := by simp [c2]
      rw [if_pos c2] at hts
      have e2 := hse ⟨lbb, lbn⟩
      rw [decide_eq_true (by rw [hts]; exact (hcs c2).symm)] at e2
      simp only at e2
      simp -implicitDefEqProofs only [↓symPre, symPost, y_condP, y_condG, run, lver, minD, intsD, eqAll, tupD, splice, Nat.zero_add, Nat.add_zero, Nat.zero_mul, Nat.mul_one, Nat.one_mul, Nat.reduceAdd, Nat.reduceSub, Nat.reduceMul, Nat.reduceLT, Nat.reduceLeDiff, Nat.reduceEqDiff, true_and, and_true, true_implies, if_true, if_false, ite_true, reduceIte, ne_eq, not_false_eq_true, reduceCtorEq, forall_const, bne_self_eq_false, Bool.true_eq_false, Bool.false_eq_true, false_implies, and_self, implies_true, Int.toNat_zero, beq_self_eq_true, decide_true, decide_false, Bool.not_true, Bool.not_false, ↓y_call, b2]
      refine pL.call rfl ?_
      simp -implicitDefEqProofs only [↓symPre, symPost, y_condP, y_condG, run, lver, minD, intsD, eqAll, tupD, splice, Nat.zero_add, Nat.add_zero, Nat.zero_mul, Nat.mul_one, Nat.one_mul, Nat.reduceAdd, Nat.reduceSub, Nat.reduceMul, Nat.reduceLT, Nat.reduceLeDiff, Nat.reduceEqDiff, true_and, and_true, true_implies, if_true, if_false, ite_true, reduceIte, ne_eq, not_false_eq_true, reduceCtorEq, forall_const, bne_self_eq_false, Bool.true_eq_false, Bool.false_eq_true, false_implies, and_self, implies_true, Int.toNat_zero, beq_self_eq_true, decide_true, decide_false, Bool.not_true, Bool.not_false, ↓y_call]
      refine pS.call rfl ?_
      simp -implicitDefEqProofs only [↓symPre, symPost, y_condP, y_condG, run, lver, minD, intsD, eqAll, tupD, splice, Nat.zero_add, Nat.add_zero, Nat.zero_mul, Nat.mul_one, Nat.one_mul, Nat.reduceAdd, Nat.reduceSub, Nat.reduceMul, Nat.reduceLT, Nat.reduceLeDiff, Nat.reduceEqDiff, true_and, and_true, true_implies, if_true, if_false, ite_true, reduceIte, ne_eq, not_false_eq_true, reduceCtorEq, forall_const, bne_self_eq_false, Bool.true_eq_false, Bool.false_eq_true, false_implies, and_self, implies_true, Int.toNat_zero, beq_self_eq_true, decide_true, decide_false, Bool.not_true, Bool.not_false, ↓y_call]
      refine pC.call rfl ?_
      simp -implicitDefEqProofs only [↓symPre, symPost, y_condP, y_condG, run, lver, minD, intsD, eqAll, tupD, splice, Nat.zero_add, Nat.add_zero, Nat.zero_mul, Nat.mul_one, Nat.one_mul, Nat.reduceAdd, Nat.reduceSub, Nat.reduceMul, Nat.reduceLT, Nat.reduceLeDiff, Nat.reduceEqDiff, true_and, and_true, true_implies, if_true, if_false, ite_true, reduceIte, ne_eq, not_false_eq_true, reduceCtorEq, forall_const, bne_self_eq_false, Bool.true_eq_false, Bool.false_eq_true, false_implies, and_self, implies_true, Int.toNat_zero, beq_self_eq_true, decide_true, decide_false, Bool.not_true, Bool.not_false, ↓y_call, beq_self_eq_true, e2, Bool.true_bne]
      exact fin_bool hl rfl
    · have b2 : (te == 0) = false := by simp [c2]
      rw [if_neg c2] at hts
      have e2 := hse ⟨false, 0⟩
      rw [decide_eq_true hts] at e2
      simp only at e2
      simp -implicitDefEqProofs only [↓symPre, symPost, y_condP, y_condG, run, lver, minD, intsD, eqAll, tupD, splice, Nat.zero_add, Nat.add_zero, Nat.zero_mul, Nat.mul_one, Nat.one_mul, Nat.reduceAdd, Nat.reduceSub, Nat.reduceMul, Nat.reduceLT, Nat.reduceLeDiff, Nat.reduceEqDiff, true_and, and_true, true_implies, if_true, if_false, ite_true, reduceIte, ne_eq, not_false_eq_true, reduceCtorEq, forall_const, bne_self_eq_false, Bool.true_eq_false, Bool.false_eq_true, false_implies, and_self, implies_true, Int.toNat_zero, beq_self_eq_true, decide_true, decide_false, Bool.not_true, Bool.not_false, ↓y_call, b2]
      refine pS.call rfl ?_
      simp -implicitDefEqProofs only [↓symPre, symPost, y_condP, y_condG, run, lver, minD, intsD, eqAll, tupD, splice, Nat.zero_add, Nat.add_zero, Nat.zero_mul, Nat.mul_one, Nat.one_mul, Nat.reduceAdd, Nat.reduceSub, Nat.reduceMul, Nat.reduceLT, Nat.reduceLeDiff, Nat.reduceEqDiff, true_and, and_true, true_implies, if_true, if_false, ite_true, reduceIte, ne_eq, not_false_eq_true, reduceCtorEq, forall_const, bne_self_eq_false, Bool.true_eq_false, Bool.false_eq_true, false_implies, and_self, implies_true, Int.toNat_zero, beq_self_eq_true, decide_true, decide_false, Bool.not_true, Bool.not_false, ↓y_call]
      refine pC.call rfl ?_
      simp -implicitDefEqProofs only [↓symPre, symPost, y_condP, y_condG, run, lver, minD, intsD, eqAll, tupD, splice, Nat.zero_add, Nat.add_zero, Nat.zero_mul, Nat.mul_one, Nat.one_mul, Nat.reduceAdd, Nat.reduceSub, Nat.reduceMul, Nat.reduceLT, Nat.reduceLeDiff, Nat.reduceEqDiff, true_and, and_true, true_implies, if_true, if_false, ite_true, reduceIte, ne_eq, not_false_eq_true, reduceCtorEq, forall_const, bne_self_eq_false, Bool.true_eq_false, Bool.false_eq_true, false_implies, and_self, implies_true, Int.toNat_zero, beq_self_eq_true, decide_true, decide_false, Bool.not_true, Bool.not_false, ↓y_call, beq_self_eq_true, e2, Bool.true_bne]
      exact fin_bool hl rfl
  · have b1 : (ge == 0) = false := by simp [c1]
    have hft := htc c1
    subst hft
    rw [if_neg c1] at hts
    have e2 := hse ⟨false, 0⟩
    rw [decide_eq_true hts] at e2
    simp only at e2
    simp -implicitDefEqProofs only [↓symPre, symPost, y_condP, y_condG, run, lver, minD, intsD, eqAll, tupD, splice, Nat.zero_add, Nat.add_zero, Nat.zero_mul, Nat.mul_one, Nat.one_mul, Nat.reduceAdd, Nat.reduceSub, Nat.reduceMul, Nat.reduceLT, Nat.reduceLeDiff, Nat.reduceEqDiff, true_and, and_true, true_implies, if_true, if_false, ite_true, reduceIte, ne_eq, not_false_eq_true, reduceCtorEq, forall_const, bne_self_eq_false, Bool.true_eq_false, Bool.false_eq_true, false_implies, and_self, implies_true, Int.toNat_zero, beq_self_eq_true, decide_true, decide_false, Bool.not_true, Bool.not_false, ↓y_call, b1]
    refine pS.call rfl ?_
    simp -implicitDefEqProofs only [↓symPre, symPost, y_condP, y_condG, run, lver, minD, intsD, eqAll, tupD, splice, Nat.zero_add, Nat.add_zero, Nat.zero_mul, Nat.mul_one, Nat.one_mul, Nat.reduceAdd, Nat.reduceSub, Nat.reduceMul, Nat.reduceLT, Nat.reduceLeDiff, Nat.reduceEqDiff, true_and, and_true, true_implies, if_true, if_false, ite_true, reduceIte, ne_eq, not_false_eq_true, reduceCtorEq, forall_const, bne_self_eq_false, Bool.true_eq_false, Bool.false_eq_true, false_implies, and_self, implies_true, Int.toNat_zero, beq_self_eq_true, decide_true, decide_false, Bool.not_true, Bool.not_false, ↓y_call]
    refine pC.call rfl ?_
    simp -implicitDefEqProofs only [↓symPre, symPost, y_condP, y_condG, run, lver, minD, intsD, eqAll, tupD, splice, Nat.zero_add, Nat.add_zero, Nat.zero_mul, Nat.mul_one, Nat.one_mul, Nat.reduceAdd, Nat.reduceSub, Nat.reduceMul, Nat.reduceLT, Nat.reduceLeDiff, Nat.reduceEqDiff, true_and, and_true, true_implies, if_true, if_false, ite_true, reduceIte, ne_eq, not_false_eq_true, reduceCtorEq, forall_const, bne_self_eq_false, Bool.true_eq_false, Bool.false_eq_true, false_implies, and_self, implies_true, Int.toNat_zero, beq_self_eq_true, decide_true, decide_false, Bool.not_true, Bool.not_false, ↓y_call, beq_self_eq_true, e2, Bool.true_bne]
    exact fin_bool hl rfl

end Abs
end Go.Proofs.Ytfojedaccfenfab

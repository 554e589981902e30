/- tree.Check, tree.Symbol, TreeFault; TreeChecks. -/
import Derived.Test.YtfojedaccfenfabT3
namespace Go.Proofs.Ytfojedaccfenfab
namespace Abs
set_option linter.unusedVariables false
set_option linter.unusedSimpArgs false
set_option maxRecDepth 20000

/-- a slice in an array of the callee's, data from now on: its cells one by one -/
theorem wk_frzC {α : Type} (f : α → D) {X : Wx} {sz : Nat} (hsz : ∀ x, (f x).cells.length = sz) {b t ver len : Nat} {cs : List D} {l : List α} (e : b = X.n + t) (hb : X.lc[t]? = some ⟨ver, .cells cs⟩) (hg : Src1.old t ∉ X.g) (hl : len = l.length) (hW : WkL X cs (cellsF f l)) :
    Wk X (.ref sz b ver 0 len) (.lst (l.map f)) := by
  subst e; subst hl
  have hlen := hW.len
  rw [cellsF_len f hsz] at hlen
  refine .frz sz t ver 0 l.length cs _ hb hg (by simp) (by omega) (fun d hd => ?_) fun i d hd j e he => ?_
  · obtain ⟨x, _, rfl⟩ := List.mem_map.1 hd; exact hsz x
  · rw [List.getElem?_map, Option.map_eq_some_iff] at hd
    obtain ⟨x, hx, rfl⟩ := hd
    have hc := cellsF_get f hsz l i j x e hx he
    rw [Nat.zero_add]
    have hj : i * sz + j < cs.length := by rw [← hW.len]; exact (List.getElem?_eq_some_iff.1 hc).1
    have := hW.get (i * sz + j) cs[i * sz + j] e (by simp [hj]) hc
    simpa [nth, List.getD, hj] using this
theorem wk_agg4 {X : Wx} {a b c d a' b' c' d' : D} (h1 : Wk X a a') (h2 : Wk X b b') (h3 : Wk X c c') (h4 : Wk X d d') : Wk X (.agg [a, b, c, d]) (.agg [a', b', c', d']) :=
  .agg _ _ rfl fun i x x' hc hc' => by
    rcases i with _ | _ | _ | _ | i
    · simp at hc hc'; subst hc; subst hc'; exact h1
    · simp at hc hc'; subst hc; subst hc'; exact h2
    · simp at hc hc'; subst hc; subst hc'; exact h3
    · simp at hc hc'; subst hc; subst hc'; exact h4
    · simp at hc

def listG : Gr := ⟨1, 1, 0, [⟨0, [⟨false, 0⟩, ⟨true, 0⟩]⟩, ⟨0, [⟨true, 0⟩]⟩]⟩

theorem pure_list : Pure prog F_parllaw4_list [] (gramD listG) := by
  intro n h
  refine K_parllaw4_list.calls fun hl => ?_
  unfold C_parllaw4_list
  simp -implicitDefEqProofs only [↓symPre, symPost, y_condP, y_condG, run, lver, minD, intsD, eqAll, tupD, splice, Nat.zero_add, Nat.add_zero, Nat.zero_mul, Nat.mul_one, Nat.one_mul, Nat.reduceAdd, Nat.reduceSub, Nat.reduceMul, Nat.reduceLT, Nat.reduceLeDiff, Nat.reduceEqDiff, true_and, and_true, true_implies, if_true, if_false, ite_true, reduceIte, ne_eq, not_false_eq_true, reduceCtorEq, forall_const, bne_self_eq_false, Bool.true_eq_false, Bool.false_eq_true, false_implies, and_self, implies_true, Int.toNat_zero, beq_self_eq_true, decide_true, decide_false, Bool.not_true, Bool.not_false, ↓y_call]
  refine fin_wk (d := gramD listG) hl ?_ ⟨rfl, rfl, rfl⟩
  refine wk_agg4 (wk_int rfl) (wk_int rfl) (wk_int rfl) (wk_frzC ruleD ruleD_cells (t := 10) rfl rfl (by simp) rfl ?_)
  refine y_wkl (wk_int rfl) (y_wkl (wk_frzC symD symD_cells (t := 5) rfl rfl (by simp) rfl ?_) (y_wkl (wk_int rfl) (y_wkl (wk_frzC symD symD_cells (t := 8) rfl rfl (by simp) rfl ?_) trivial)))
  · exact WkL.low fun c hc => low_cellsF symD (low_symD _) [⟨false, 0⟩, ⟨true, 0⟩] c hc
  · exact WkL.low fun c hc => low_cellsF symD (low_symD _) [⟨true, 0⟩] c hc

def tchk (g : Gr) (t : Tree) : Int := if gchk g = 0 then (if size t > 5000 then 2 else if validT g t then 0 else 3) else gchk g

theorem pure_TCheck (g : Gr) (t : Tree) (hr : g.rules.length < 2 ^ 60) (hx : ∀ r ∈ g.rules, r.right.length < 2 ^ 60) (hs : size t < 2 ^ 60) (hf : full t < 2 ^ 60) : Pure prog F_tree_Check [gramD g, treeD t] (.int .i64 (tchk g t)) := by
  intro n h
  have pG := pure_gramCheck g hr hx
  have pZ := pure_Size t (by omega)
  have pV := pure_valid g t hf
  obtain ⟨gt, gn, gs, gr, hGD, hGr⟩ : ∃ gt gn gs gr, gramD g = .agg [.int .i64 gt, .int .i64 gn, .int .i64 gs, .lst (gr.map ruleD)] ∧ g.rules = gr := by cases g; exact ⟨_, _, _, _, rfl, rfl⟩
  obtain ⟨r0, t0, k0, ht⟩ : ∃ r t' k, t = .mk r t' k := by cases t; exact ⟨_, _, _, rfl⟩
  have htD : treeD t = .agg [.int .i64 r0, .int .i64 t0, .lst (k0.map treeD)] := by rw [ht, treeD_mk]
  unfold tchk
  simp only [hGD, htD] at pG pZ pV ⊢
  generalize gchk g = e at *
  generalize validT g t = v at *
  refine K_tree_Check.calls fun hl => ?_
  unfold C_tree_Check
  simp -implicitDefEqProofs only [↓symPre, symPost, y_condP, y_condG, run, lver, minD, intsD, eqAll, tupD, splice, Nat.zero_add, Nat.add_zero, Nat.zero_mul, Nat.mul_one, Nat.one_mul, Nat.reduceAdd, Nat.reduceSub, Nat.reduceMul, Nat.reduceLT, Nat.reduceLeDiff, Nat.reduceEqDiff, true_and, and_true, true_implies, if_true, if_false, ite_true, reduceIte, ne_eq, not_false_eq_true, reduceCtorEq, forall_const, bne_self_eq_false, Bool.true_eq_false, Bool.false_eq_true, false_implies, and_self, implies_true, Int.toNat_zero, beq_self_eq_true, decide_true, decide_false, Bool.not_true, Bool.not_false, ↓y_call]
  refine pG.call rfl ?_
  by_cases c1 : e = 0
  rotate_left
  · have b1 : (e != 0) = true := by simp [c1]
    rw [if_neg c1]
    simp -implicitDefEqProofs only [↓symPre, symPost, y_condP, y_condG, run, lver, minD, intsD, eqAll, tupD, splice, Nat.zero_add, Nat.add_zero, Nat.zero_mul, Nat.mul_one, Nat.one_mul, Nat.reduceAdd, Nat.reduceSub, Nat.reduceMul, Nat.reduceLT, Nat.reduceLeDiff, Nat.reduceEqDiff, true_and, and_true, true_implies, if_true, if_false, ite_true, reduceIte, ne_eq, not_false_eq_true, reduceCtorEq, forall_const, bne_self_eq_false, Bool.true_eq_false, Bool.false_eq_true, false_implies, and_self, implies_true, Int.toNat_zero, beq_self_eq_true, decide_true, decide_false, Bool.not_true, Bool.not_false, ↓y_call, b1]
    exact fin_int hl rfl
  have b1 : (e != 0) = false := by simp [c1]
  rw [if_pos c1]
  simp -implicitDefEqProofs only [↓symPre, symPost, y_condP, y_condG, run, lver, minD, intsD, eqAll, tupD, splice, Nat.zero_add, Nat.add_zero, Nat.zero_mul, Nat.mul_one, Nat.one_mul, Nat.reduceAdd, Nat.reduceSub, Nat.reduceMul, Nat.reduceLT, Nat.reduceLeDiff, Nat.reduceEqDiff, true_and, and_true, true_implies, if_true, if_false, ite_true, reduceIte, ne_eq, not_false_eq_true, reduceCtorEq, forall_const, bne_self_eq_false, Bool.true_eq_false, Bool.false_eq_true, false_implies, and_self, implies_true, Int.toNat_zero, beq_self_eq_true, decide_true, decide_false, Bool.not_true, Bool.not_false, ↓y_call, b1]
  refine pZ.call rfl ?_
  by_cases c2 : ((size t : Nat) : Int) > 5000
  · rw [if_pos (by omega)]
    simp -implicitDefEqProofs only [↓symPre, symPost, y_condP, y_condG, run, lver, minD, intsD, eqAll, tupD, splice, Nat.zero_add, Nat.add_zero, Nat.zero_mul, Nat.mul_one, Nat.one_mul, Nat.reduceAdd, Nat.reduceSub, Nat.reduceMul, Nat.reduceLT, Nat.reduceLeDiff, Nat.reduceEqDiff, true_and, and_true, true_implies, if_true, if_false, ite_true, reduceIte, ne_eq, not_false_eq_true, reduceCtorEq, forall_const, bne_self_eq_false, Bool.true_eq_false, Bool.false_eq_true, false_implies, and_self, implies_true, Int.toNat_zero, beq_self_eq_true, decide_true, decide_false, Bool.not_true, Bool.not_false, ↓y_call, c2]
    exact fin_int hl rfl
  rw [if_neg (by omega)]
  simp -implicitDefEqProofs only [↓symPre, symPost, y_condP, y_condG, run, lver, minD, intsD, eqAll, tupD, splice, Nat.zero_add, Nat.add_zero, Nat.zero_mul, Nat.mul_one, Nat.one_mul, Nat.reduceAdd, Nat.reduceSub, Nat.reduceMul, Nat.reduceLT, Nat.reduceLeDiff, Nat.reduceEqDiff, true_and, and_true, true_implies, if_true, if_false, ite_true, reduceIte, ne_eq, not_false_eq_true, reduceCtorEq, forall_const, bne_self_eq_false, Bool.true_eq_false, Bool.false_eq_true, false_implies, and_self, implies_true, Int.toNat_zero, beq_self_eq_true, decide_true, decide_false, Bool.not_true, Bool.not_false, ↓y_call, c2]
  refine pV.call rfl ?_
  cases v with
  | true => simp -implicitDefEqProofs only [↓symPre, symPost, y_condP, y_condG, run, lver, minD, intsD, eqAll, tupD, splice, Nat.zero_add, Nat.add_zero, Nat.zero_mul, Nat.mul_one, Nat.one_mul, Nat.reduceAdd, Nat.reduceSub, Nat.reduceMul, Nat.reduceLT, Nat.reduceLeDiff, Nat.reduceEqDiff, true_and, and_true, true_implies, if_true, if_false, ite_true, reduceIte, ne_eq, not_false_eq_true, reduceCtorEq, forall_const, bne_self_eq_false, Bool.true_eq_false, Bool.false_eq_true, false_implies, and_self, implies_true, Int.toNat_zero, beq_self_eq_true, decide_true, decide_false, Bool.not_true, Bool.not_false, ↓y_call]; exact fin_int hl rfl
  | false => simp -implicitDefEqProofs only [↓symPre, symPost, y_condP, y_condG, run, lver, minD, intsD, eqAll, tupD, splice, Nat.zero_add, Nat.add_zero, Nat.zero_mul, Nat.mul_one, Nat.one_mul, Nat.reduceAdd, Nat.reduceSub, Nat.reduceMul, Nat.reduceLT, Nat.reduceLeDiff, Nat.reduceEqDiff, true_and, and_true, true_implies, if_true, if_false, ite_true, reduceIte, ne_eq, not_false_eq_true, reduceCtorEq, forall_const, bne_self_eq_false, Bool.true_eq_false, Bool.false_eq_true, false_implies, and_self, implies_true, Int.toNat_zero, beq_self_eq_true, decide_true, decide_false, Bool.not_true, Bool.not_false, ↓y_call]; exact fin_int hl rfl

def tsym (g : Gr) (t : Tree) : Sy := if tchk g t = 0 then (symT g t).1 else ⟨false, 0⟩

theorem pure_TSymbol (g : Gr) (t : Tree) (hr : g.rules.length < 2 ^ 60) (hx : ∀ r ∈ g.rules, r.right.length < 2 ^ 60) (hs : size t < 2 ^ 60) (hf : full t < 2 ^ 60) : Pure prog F_tree_Symbol [gramD g, treeD t] (.tup [symD (tsym g t), .int .i64 (tchk g t)]) := by
  intro n h
  have pC := pure_TCheck g t hr hx hs hf
  have pS := pure_symbol g t
  obtain ⟨gt, gn, gs, gr, hGD, hGr⟩ : ∃ gt gn gs gr, gramD g = .agg [.int .i64 gt, .int .i64 gn, .int .i64 gs, .lst (gr.map ruleD)] ∧ g.rules = gr := by cases g; exact ⟨_, _, _, _, rfl, rfl⟩
  obtain ⟨r0, t0, k0, ht⟩ : ∃ r t' k, t = .mk r t' k := by cases t; exact ⟨_, _, _, rfl⟩
  have htD : treeD t = .agg [.int .i64 r0, .int .i64 t0, .lst (k0.map treeD)] := by rw [ht, treeD_mk]
  unfold tsym
  simp only [hGD, htD] at pC pS ⊢
  generalize tchk g t = e at *
  generalize symT g t = s at *
  obtain ⟨⟨sb, sn⟩, ok⟩ := s
  rw [show symD ⟨sb, sn⟩ = .agg [.bool sb, .int .i64 sn] from rfl] at pS
  refine K_tree_Symbol.calls fun hl => ?_
  unfold C_tree_Symbol
  have fin : ∀ {sl : List D} {lc : List Blk} (y : Sy), y = (if e = 0 then (⟨sb, sn⟩ : Sy) else ⟨false, 0⟩) → Fin (St.mk n sl h lc) (fun d h' x => h' = h ∧ x = [] ∧ d = .tup [symD (if e = 0 then (⟨sb, sn⟩ : Sy) else ⟨false, 0⟩), .int .i64 e]) [.agg [.bool y.t, .int .i64 y.n], .int .i64 e] := fun {sl lc} y hy => by
    rw [← hy]
    refine fin_low hl (.tup _ fun c hc => ?_) ⟨rfl, rfl, rfl⟩
    simp only [List.mem_cons, List.not_mem_nil, or_false] at hc
    rcases hc with rfl | rfl
    · exact low_symD n y
    · exact .int ..
  simp -implicitDefEqProofs only [↓symPre, symPost, y_condP, y_condG, run, lver, minD, intsD, eqAll, tupD, splice, Nat.zero_add, Nat.add_zero, Nat.zero_mul, Nat.mul_one, Nat.one_mul, Nat.reduceAdd, Nat.reduceSub, Nat.reduceMul, Nat.reduceLT, Nat.reduceLeDiff, Nat.reduceEqDiff, true_and, and_true, true_implies, if_true, if_false, ite_true, reduceIte, ne_eq, not_false_eq_true, reduceCtorEq, forall_const, bne_self_eq_false, Bool.true_eq_false, Bool.false_eq_true, false_implies, and_self, implies_true, Int.toNat_zero, beq_self_eq_true, decide_true, decide_false, Bool.not_true, Bool.not_false, ↓y_call]
  refine pC.call rfl ?_
  by_cases c1 : e = 0
  · have b1 : (e != 0) = false := by simp [c1]
    simp -implicitDefEqProofs only [↓symPre, symPost, y_condP, y_condG, run, lver, minD, intsD, eqAll, tupD, splice, Nat.zero_add, Nat.add_zero, Nat.zero_mul, Nat.mul_one, Nat.one_mul, Nat.reduceAdd, Nat.reduceSub, Nat.reduceMul, Nat.reduceLT, Nat.reduceLeDiff, Nat.reduceEqDiff, true_and, and_true, true_implies, if_true, if_false, ite_true, reduceIte, ne_eq, not_false_eq_true, reduceCtorEq, forall_const, bne_self_eq_false, Bool.true_eq_false, Bool.false_eq_true, false_implies, and_self, implies_true, Int.toNat_zero, beq_self_eq_true, decide_true, decide_false, Bool.not_true, Bool.not_false, ↓y_call, b1]
    refine pS.call rfl ?_
    simp -implicitDefEqProofs only [↓symPre, symPost, y_condP, y_condG, run, lver, minD, intsD, eqAll, tupD, splice, Nat.zero_add, Nat.add_zero, Nat.zero_mul, Nat.mul_one, Nat.one_mul, Nat.reduceAdd, Nat.reduceSub, Nat.reduceMul, Nat.reduceLT, Nat.reduceLeDiff, Nat.reduceEqDiff, true_and, and_true, true_implies, if_true, if_false, ite_true, reduceIte, ne_eq, not_false_eq_true, reduceCtorEq, forall_const, bne_self_eq_false, Bool.true_eq_false, Bool.false_eq_true, false_implies, and_self, implies_true, Int.toNat_zero, beq_self_eq_true, decide_true, decide_false, Bool.not_true, Bool.not_false, ↓y_call]
    have := @fin
    rw [c1] at this ⊢
    exact this ⟨sb, sn⟩ (by simp)
  · have b1 : (e != 0) = true := by simp [c1]
    simp -implicitDefEqProofs only [↓symPre, symPost, y_condP, y_condG, run, lver, minD, intsD, eqAll, tupD, splice, Nat.zero_add, Nat.add_zero, Nat.zero_mul, Nat.mul_one, Nat.one_mul, Nat.reduceAdd, Nat.reduceSub, Nat.reduceMul, Nat.reduceLT, Nat.reduceLeDiff, Nat.reduceEqDiff, true_and, and_true, true_implies, if_true, if_false, ite_true, reduceIte, ne_eq, not_false_eq_true, reduceCtorEq, forall_const, bne_self_eq_false, Bool.true_eq_false, Bool.false_eq_true, false_implies, and_self, implies_true, Int.toNat_zero, beq_self_eq_true, decide_true, decide_false, Bool.not_true, Bool.not_false, ↓y_call, b1]
    exact fin ⟨false, 0⟩ (by rw [if_neg c1])

theorem drop_eq_iffS {l m : List Sy} (i : Nat) (h1 : i < l.length) (h2 : i < m.length) : l.drop i = m.drop i ↔ l[i] = m[i] ∧ l.drop (i + 1) = m.drop (i + 1) := by
  rw [List.drop_eq_getElem_cons h1, List.drop_eq_getElem_cons h2, List.cons.injEq]

set_option maxHeartbeats 1000000 in
theorem pure_EqSy (l m : List Sy) (hl62 : l.length < 2 ^ 62) (hm62 : m.length < 2 ^ 62) : Pure prog F_slices_Equal_api_Sym_api_Sym [.lst (l.map symD), .lst (m.map symD)] (.bool (decide (l = m))) := by
  intro n h
  refine K_slices_Equal_api_Sym_api_Sym.calls fun hl => ?_
  unfold C_slices_Equal_api_Sym_api_Sym
  by_cases hlen : l.length = m.length
  rotate_left
  · have b1 : ((l.length : Int) != (m.length : Int)) = true := by simp; omega
    simp -implicitDefEqProofs only [↓symPre, symPost, y_condP, y_condG, run, lver, minD, intsD, eqAll, tupD, splice, Nat.zero_add, Nat.add_zero, Nat.zero_mul, Nat.mul_one, Nat.one_mul, Nat.reduceAdd, Nat.reduceSub, Nat.reduceMul, Nat.reduceLT, Nat.reduceLeDiff, Nat.reduceEqDiff, true_and, and_true, true_implies, if_true, if_false, ite_true, reduceIte, ne_eq, not_false_eq_true, reduceCtorEq, forall_const, bne_self_eq_false, Bool.true_eq_false, Bool.false_eq_true, false_implies, and_self, implies_true, Int.toNat_zero, beq_self_eq_true, decide_true, decide_false, Bool.not_true, Bool.not_false, ↓y_call, List.length_map, b1]
    exact fin_bool hl (decide_eq_false fun e => hlen (by rw [e])).symm
  have b1 : ((l.length : Int) != (m.length : Int)) = false := by simp; omega
  simp -implicitDefEqProofs only [↓symPre, symPost, y_condP, y_condG, run, lver, minD, intsD, eqAll, tupD, splice, Nat.zero_add, Nat.add_zero, Nat.zero_mul, Nat.mul_one, Nat.one_mul, Nat.reduceAdd, Nat.reduceSub, Nat.reduceMul, Nat.reduceLT, Nat.reduceLeDiff, Nat.reduceEqDiff, true_and, and_true, true_implies, if_true, if_false, ite_true, reduceIte, ne_eq, not_false_eq_true, reduceCtorEq, forall_const, bne_self_eq_false, Bool.true_eq_false, Bool.false_eq_true, false_implies, and_self, implies_true, Int.toNat_zero, beq_self_eq_true, decide_true, decide_false, Bool.not_true, Bool.not_false, ↓y_call, List.length_map, b1]
  refine aloop (fun i : Nat => St.mk n ([.lst (l.map symD), .lst (m.map symD)] ++ List.replicate 9 .top ++ [.lst (l.map symD), .int .i64 l.length, .int .i64 i] ++ List.replicate 12 .top) h
      (List.replicate 26 blk0)) (fun i => i ≤ l.length ∧ (l = m ↔ l.drop i = m.drop i)) (fun i => l.length - i) 0 ⟨Nat.zero_le _, Iff.rfl⟩ ?_ ?_
  · refine le_to (List.replicate 26 .hole) hl rfl ?_ ?_ <;> ((try simp only [y_blk_end, y_blk_hole, y_blk_nil, y_blk_old, y_wkl_end, y_wkl_top, List.replicate, List.cons_append, List.nil_append, and_true, true_and]) <;> (repeat' (first | apply And.intro | apply y_wkl | refine Exists.intro _ (And.intro rfl ?_))) <;> (try first | exact trivial | exact Wk.top _ | exact wk_int rfl | exact wk_bool rfl | exact wk_ptr rfl rfl rfl rfl | exact wk_ref rfl rfl rfl rfl rfl | exact wk_nil rfl rfl rfl | exact wk_ref rfl rfl rfl rfl (by simp) | exact wk_ref rfl rfl rfl rfl (by simp; omega) | exact wk_old (by assumption) (by simp) | exact wk_eq rfl (by first | exact Bd.int _ _ | exact Bd.bool _ | exact Bd.abool | exact Bd.nils | exact Bd.emp | exact Bd.nilp | exact Bd.nilfn | assumption | exact low_trees _ _ | exact low_treeD _ _ | exact low_ints _ _) | exact Nat.le_refl _ | exact wk_int (by simp) | exact wk_int (by omega) | exact Nat.succ_le_succ (Nat.zero_le _) | exact Nat.le_add_left _ _ | omega))
    all_goals first | exact wk_eq rfl (low_syms _ _)
  · rintro i ⟨hi, hc⟩
    by_cases hlt : i < l.length
    · have h1 : (i : Int) < (l.length : Int) := by omega
      have h0 : (0 : Int) ≤ (i : Int) := by omega
      have h3 : (i : Int) < (m.length : Int) := by omega
      have hlm : i < m.length := by omega
      have e0 := nth_mapF symD l i hlt
      have e1 := nth_mapF symD m i hlm
      have hd := drop_eq_iffS (l := l) (m := m) i hlt (by omega)
      have w1 : IntKind.i64.wrap ((i : Int) + 1) = ((i + 1 : Nat) : Int) := by rw [IntWalk.i64_in _ (by omega)]; omega
      generalize l[i] = a at *
      generalize m[i] = b at *
      obtain ⟨ab, an⟩ := a
      obtain ⟨bb, bn⟩ := b
      have hse := sy_eqT ⟨ab, an⟩ ⟨bb, bn⟩
      simp only at hse
      rw [show symD ⟨ab, an⟩ = .agg [.bool ab, .int .i64 an] from rfl] at e0
      rw [show symD ⟨bb, bn⟩ = .agg [.bool bb, .int .i64 bn] from rfl] at e1
      by_cases c3 : (⟨ab, an⟩ : Sy) = ⟨bb, bn⟩
      · rw [decide_eq_true c3] at hse
        simp -implicitDefEqProofs only [↓symPre, symPost, y_condP, y_condG, run, lver, minD, intsD, eqAll, tupD, splice, Nat.zero_add, Nat.add_zero, Nat.zero_mul, Nat.mul_one, Nat.one_mul, Nat.reduceAdd, Nat.reduceSub, Nat.reduceMul, Nat.reduceLT, Nat.reduceLeDiff, Nat.reduceEqDiff, true_and, and_true, true_implies, if_true, if_false, ite_true, reduceIte, ne_eq, not_false_eq_true, reduceCtorEq, forall_const, bne_self_eq_false, Bool.true_eq_false, Bool.false_eq_true, false_implies, and_self, implies_true, Int.toNat_zero, beq_self_eq_true, decide_true, decide_false, Bool.not_true, Bool.not_false, ↓y_call, List.length_map, h1, decide_true]
        refine adrawq hmix [] ?_
        simp (maxSteps := 400000) -implicitDefEqProofs only [↓symPre, symPost, y_condP, y_condG, run, lver, minD, intsD, eqAll, tupD, splice, Nat.zero_add, Nat.add_zero, Nat.zero_mul, Nat.mul_one, Nat.one_mul, Nat.reduceAdd, Nat.reduceSub, Nat.reduceMul, Nat.reduceLT, Nat.reduceLeDiff, Nat.reduceEqDiff, true_and, and_true, true_implies, if_true, if_false, ite_true, reduceIte, ne_eq, not_false_eq_true, reduceCtorEq, forall_const, bne_self_eq_false, Bool.true_eq_false, Bool.false_eq_true, false_implies, and_self, implies_true, Int.toNat_zero, beq_self_eq_true, decide_true, decide_false, Bool.not_true, Bool.not_false, ↓y_call, ↓drawPre, drawPost, isCall, isNew, isEff, Option.toList, or_false, false_or, cond_true, cond_false, not_true_eq_false, or_true, true_or, Nat.add_left_cancel_iff, Bool.false_eq_true, List.length_map, h1, h0, h3, Int.toNat_natCast, e0, e1, w1, hse, bne_self_eq_false]
        refine ⟨i + 1, ⟨by omega, by rw [hc, hd]; exact ⟨fun h => h.2, fun h => ⟨c3, h⟩⟩⟩, by omega, ?_⟩
        refine le_to (List.replicate 26 .hole) hl rfl ?_ ?_ <;> ((try simp only [y_blk_end, y_blk_hole, y_blk_nil, y_blk_old, y_wkl_end, y_wkl_top, List.replicate, List.cons_append, List.nil_append, and_true, true_and]) <;> (repeat' (first | apply And.intro | apply y_wkl | refine Exists.intro _ (And.intro rfl ?_))) <;> (try first | exact trivial | exact Wk.top _ | exact wk_int rfl | exact wk_bool rfl | exact wk_ptr rfl rfl rfl rfl | exact wk_ref rfl rfl rfl rfl rfl | exact wk_nil rfl rfl rfl | exact wk_ref rfl rfl rfl rfl (by simp) | exact wk_ref rfl rfl rfl rfl (by simp; omega) | exact wk_old (by assumption) (by simp) | exact wk_eq rfl (by first | exact Bd.int _ _ | exact Bd.bool _ | exact Bd.abool | exact Bd.nils | exact Bd.emp | exact Bd.nilp | exact Bd.nilfn | assumption | exact low_trees _ _ | exact low_treeD _ _ | exact low_ints _ _) | exact Nat.le_refl _ | exact wk_int (by simp) | exact wk_int (by omega) | exact Nat.succ_le_succ (Nat.zero_le _) | exact Nat.le_add_left _ _ | omega))
        all_goals first | exact wk_eq rfl (low_syms _ _)
      · rw [decide_eq_false c3] at hse
        have hft : (false != true) = true := rfl
        simp -implicitDefEqProofs only [↓symPre, symPost, y_condP, y_condG, run, lver, minD, intsD, eqAll, tupD, splice, Nat.zero_add, Nat.add_zero, Nat.zero_mul, Nat.mul_one, Nat.one_mul, Nat.reduceAdd, Nat.reduceSub, Nat.reduceMul, Nat.reduceLT, Nat.reduceLeDiff, Nat.reduceEqDiff, true_and, and_true, true_implies, if_true, if_false, ite_true, reduceIte, ne_eq, not_false_eq_true, reduceCtorEq, forall_const, bne_self_eq_false, Bool.true_eq_false, Bool.false_eq_true, false_implies, and_self, implies_true, Int.toNat_zero, beq_self_eq_true, decide_true, decide_false, Bool.not_true, Bool.not_false, ↓y_call, List.length_map, h1, decide_true]
        refine adrawq hmix [] ?_
        simp (maxSteps := 400000) -implicitDefEqProofs only [↓symPre, symPost, y_condP, y_condG, run, lver, minD, intsD, eqAll, tupD, splice, Nat.zero_add, Nat.add_zero, Nat.zero_mul, Nat.mul_one, Nat.one_mul, Nat.reduceAdd, Nat.reduceSub, Nat.reduceMul, Nat.reduceLT, Nat.reduceLeDiff, Nat.reduceEqDiff, true_and, and_true, true_implies, if_true, if_false, ite_true, reduceIte, ne_eq, not_false_eq_true, reduceCtorEq, forall_const, bne_self_eq_false, Bool.true_eq_false, Bool.false_eq_true, false_implies, and_self, implies_true, Int.toNat_zero, beq_self_eq_true, decide_true, decide_false, Bool.not_true, Bool.not_false, ↓y_call, ↓drawPre, drawPost, isCall, isNew, isEff, Option.toList, or_false, false_or, cond_true, cond_false, not_true_eq_false, or_true, true_or, Nat.add_left_cancel_iff, Bool.false_eq_true, List.length_map, h1, h0, h3, Int.toNat_natCast, e0, e1, w1, hse, hft]
        exact fin_bool hl (decide_eq_false fun e => c3 ((hd.1 (hc.1 e)).1)).symm
    · have h1 : ¬ (i : Int) < (l.length : Int) := by omega
      simp -implicitDefEqProofs only [↓symPre, symPost, y_condP, y_condG, run, lver, minD, intsD, eqAll, tupD, splice, Nat.zero_add, Nat.add_zero, Nat.zero_mul, Nat.mul_one, Nat.one_mul, Nat.reduceAdd, Nat.reduceSub, Nat.reduceMul, Nat.reduceLT, Nat.reduceLeDiff, Nat.reduceEqDiff, true_and, and_true, true_implies, if_true, if_false, ite_true, reduceIte, ne_eq, not_false_eq_true, reduceCtorEq, forall_const, bne_self_eq_false, Bool.true_eq_false, Bool.false_eq_true, false_implies, and_self, implies_true, Int.toNat_zero, beq_self_eq_true, decide_true, decide_false, Bool.not_true, Bool.not_false, ↓y_call, List.length_map, h1, decide_false]
      have : l = m := by rw [hc, List.drop_eq_nil_of_le (by omega), List.drop_eq_nil_of_le (by omega)]
      exact fin_bool hl (decide_eq_true this).symm

/-- a node whose kids are as its rule says -/
def nodeOk (g : Gr) : Tree → Bool
  | .mk r t ks => (labT g (.mk r t ks)).2 && (decide (r = -1) || (ks.all (fun k => (labT g k).2) && match g.rules[r.toNat]? with
    | some u => decide (ks.map (fun k => (labT g k).1) = u.right)
    | none => false))
theorem nodeOk_mk (g : Gr) (r t : Int) (ks : List Tree) : nodeOk g (.mk r t ks) = ((labT g (.mk r t ks)).2 && (decide (r = -1) || (ks.all (fun k => (labT g k).2) && match g.rules[r.toNat]? with
    | some u => decide (ks.map (fun k => (labT g k).1) = u.right)
    | none => false))) := rfl
def faultT (g : Gr) (t : Tree) : Int := if size t > 5000 then 2 else if (nodesL t).all (nodeOk g) then 0 else 3

set_option maxHeartbeats 4000000 in
theorem pure_TreeFault (g : Gr) (t : Tree) (hs : size t * 40 ≤ 140737488355328) (hkl : ∀ x ∈ nodesL t, full x < 2 ^ 40) (hx : ∀ r ∈ g.rules, r.right.length < 2 ^ 60) : Pure prog F_parlref4_TreeFault [gramD g, treeD t] (.int .i64 (faultT g t)) := by
  intro n h
  have pN := pure_Nodes t hs
  have hnl := nodesL_len t
  have pL := pure_Label g
  have hlab : ∀ (r : Int) (tm : Int) (ks : List Tree), (labT g (.mk r tm ks)).2 = true → ¬ r = -1 → 0 ≤ r ∧ ∃ u, g.rules[r.toNat]? = some u := fun r tm ks h1 h2 => by
    simp only [labT, if_neg (fun h : r = -1 ∧ ks.length = 0 ∧ 0 ≤ tm ∧ tm < g.terms => h2 h.1)] at h1
    by_cases c : 0 ≤ r ∧ tm = 0
    · rw [if_pos c] at h1
      cases hu : g.rules[r.toNat]? with
      | none => rw [hu] at h1; cases h1
      | some u => exact ⟨c.1, u, rfl⟩
    · rw [if_neg c] at h1; cases h1
  obtain ⟨gt, gn, gs, gr, hGD, hGr⟩ : ∃ gt gn gs gr, gramD g = .agg [.int .i64 gt, .int .i64 gn, .int .i64 gs, .lst (gr.map ruleD)] ∧ g.rules = gr := by cases g; exact ⟨_, _, _, _, rfl, rfl⟩
  obtain ⟨r0, t0, k0, ht⟩ : ∃ r t' k, t = .mk r t' k := by cases t; exact ⟨_, _, _, rfl⟩
  have htD : treeD t = .agg [.int .i64 r0, .int .i64 t0, .lst (k0.map treeD)] := by rw [ht, treeD_mk]
  unfold faultT
  simp only [hGD, htD] at pN pL ⊢
  rw [hGr] at hlab hx
  rw [← hnl]
  generalize nodesL t = L at *
  refine K_parlref4_TreeFault.calls fun hl => ?_
  unfold C_parlref4_TreeFault
  simp -implicitDefEqProofs only [↓symPre, symPost, y_condP, y_condG, run, lver, minD, intsD, eqAll, tupD, splice, Nat.zero_add, Nat.add_zero, Nat.zero_mul, Nat.mul_one, Nat.one_mul, Nat.reduceAdd, Nat.reduceSub, Nat.reduceMul, Nat.reduceLT, Nat.reduceLeDiff, Nat.reduceEqDiff, true_and, and_true, true_implies, if_true, if_false, ite_true, reduceIte, ne_eq, not_false_eq_true, reduceCtorEq, forall_const, bne_self_eq_false, Bool.true_eq_false, Bool.false_eq_true, false_implies, and_self, implies_true, Int.toNat_zero, beq_self_eq_true, decide_true, decide_false, Bool.not_true, Bool.not_false, ↓y_call]
  refine pN.call rfl ?_
  by_cases c1 : ((L.length : Nat) : Int) > 5000
  · rw [if_pos (by omega)]
    simp -implicitDefEqProofs only [↓symPre, symPost, y_condP, y_condG, run, lver, minD, intsD, eqAll, tupD, splice, Nat.zero_add, Nat.add_zero, Nat.zero_mul, Nat.mul_one, Nat.one_mul, Nat.reduceAdd, Nat.reduceSub, Nat.reduceMul, Nat.reduceLT, Nat.reduceLeDiff, Nat.reduceEqDiff, true_and, and_true, true_implies, if_true, if_false, ite_true, reduceIte, ne_eq, not_false_eq_true, reduceCtorEq, forall_const, bne_self_eq_false, Bool.true_eq_false, Bool.false_eq_true, false_implies, and_self, implies_true, Int.toNat_zero, beq_self_eq_true, decide_true, decide_false, Bool.not_true, Bool.not_false, ↓y_call, List.length_map, c1]
    exact fin_int hl rfl
  rw [if_neg (by omega)]
  simp -implicitDefEqProofs only [↓symPre, symPost, y_condP, y_condG, run, lver, minD, intsD, eqAll, tupD, splice, Nat.zero_add, Nat.add_zero, Nat.zero_mul, Nat.mul_one, Nat.one_mul, Nat.reduceAdd, Nat.reduceSub, Nat.reduceMul, Nat.reduceLT, Nat.reduceLeDiff, Nat.reduceEqDiff, true_and, and_true, true_implies, if_true, if_false, ite_true, reduceIte, ne_eq, not_false_eq_true, reduceCtorEq, forall_const, bne_self_eq_false, Bool.true_eq_false, Bool.false_eq_true, false_implies, and_self, implies_true, Int.toNat_zero, beq_self_eq_true, decide_true, decide_false, Bool.not_true, Bool.not_false, ↓y_call, List.length_map, c1]
  refine aloop (fun i : Nat => St.mk n ([.top, .top, .ptr (n + 2) 1 0] ++ List.replicate 17 .top ++ [.lst (L.map treeD), .int .i64 L.length, .int .i64 i] ++ List.replicate 45 .top) h
      ([blk0, blk0, ⟨1, .cells [.int .i64 gt, .int .i64 gn, .int .i64 gs, .lst (gr.map ruleD)]⟩] ++ List.replicate 65 blk0)) (fun i => i ≤ L.length ∧ (L.take i).all (nodeOk g) = true) (fun i => L.length - i) 0 ⟨Nat.zero_le _, by simp⟩ ?_ ?_
  · refine le_to ([.hole, .hole, .old 2] ++ List.replicate 65 .hole) hl rfl ?_ ?_ <;> ((try simp only [y_blk_end, y_blk_hole, y_blk_nil, y_blk_old, y_wkl_end, y_wkl_top, List.replicate, List.cons_append, List.nil_append, and_true, true_and]) <;> (repeat' (first | apply And.intro | apply y_wkl | refine Exists.intro _ (And.intro rfl ?_))) <;> (try first | exact trivial | exact Wk.top _ | exact wk_int rfl | exact wk_bool rfl | exact wk_ptr rfl rfl rfl rfl | exact wk_ref rfl rfl rfl rfl rfl | exact wk_nil rfl rfl rfl | exact wk_ref rfl rfl rfl rfl (by simp) | exact wk_ref rfl rfl rfl rfl (by simp; omega) | exact wk_old (by assumption) (by simp) | exact wk_eq rfl (by first | exact Bd.int _ _ | exact Bd.bool _ | exact Bd.abool | exact Bd.nils | exact Bd.emp | exact Bd.nilp | exact Bd.nilfn | assumption | exact low_trees _ _ | exact low_treeD _ _ | exact low_ints _ _) | exact Nat.le_refl _ | exact wk_int (by simp) | exact wk_int (by omega) | exact Nat.succ_le_succ (Nat.zero_le _) | exact Nat.le_add_left _ _ | omega))
    all_goals first | exact wk_eq rfl (low_rules _ _) | exact wk_eq rfl (low_trees _ _)
  · rintro i ⟨hi, hall⟩
    by_cases hlt : i < L.length
    rotate_left
    · have f1 : ¬ (i : Int) < (L.length : Int) := by omega
      rw [List.take_of_length_le (by omega)] at hall
      simp -implicitDefEqProofs only [↓symPre, symPost, y_condP, y_condG, run, lver, minD, intsD, eqAll, tupD, splice, Nat.zero_add, Nat.add_zero, Nat.zero_mul, Nat.mul_one, Nat.one_mul, Nat.reduceAdd, Nat.reduceSub, Nat.reduceMul, Nat.reduceLT, Nat.reduceLeDiff, Nat.reduceEqDiff, true_and, and_true, true_implies, if_true, if_false, ite_true, reduceIte, ne_eq, not_false_eq_true, reduceCtorEq, forall_const, bne_self_eq_false, Bool.true_eq_false, Bool.false_eq_true, false_implies, and_self, implies_true, Int.toNat_zero, beq_self_eq_true, decide_true, decide_false, Bool.not_true, Bool.not_false, ↓y_call, f1, decide_false]
      exact fin_int hl (by rw [if_pos hall])
    have f1 : (i : Int) < (L.length : Int) := by omega
    have f0 : (0 : Int) ≤ (i : Int) := by omega
    have w1 : IntKind.i64.wrap ((i : Int) + 1) = ((i + 1 : Nat) : Int) := by rw [IntWalk.i64_in _ (by omega)]; omega
    have e0 := nth_map_tree L i hlt
    have hmem : L[i] ∈ L := List.getElem_mem hlt
    have htk := List.take_succ_eq_append_getElem hlt
    generalize L[i] = x at *
    have bad : nodeOk g x = false → (if L.all (nodeOk g) then (0 : Int) else 3) = 3 := fun hb => by
      rw [if_neg]
      intro ha
      rw [List.all_eq_true] at ha
      rw [ha x hmem] at hb
      cases hb
    have good : nodeOk g x = true → (L.take (i + 1)).all (nodeOk g) = true := fun hb => by
      rw [htk, List.all_append, hall]; simp [hb]
    have hfx := hkl x hmem
    obtain ⟨r, tm, ks, rfl⟩ : ∃ r t' k, x = .mk r t' k := by cases x; exact ⟨_, _, _, rfl⟩
    rw [full_mk] at hfx
    have hkf := full_len ks
    have pLx := pL (.mk r tm ks)
    have hlx := hlab r tm ks
    rw [nodeOk_mk, hGr] at bad good
    rw [treeD_mk] at e0 pLx
    generalize labT g (.mk r tm ks) = lx at *
    obtain ⟨⟨lb, ln⟩, ok⟩ := lx
    rw [show symD ⟨lb, ln⟩ = .agg [.bool lb, .int .i64 ln] from rfl] at pLx
    simp only at bad good hlx pLx
    simp -implicitDefEqProofs only [↓symPre, symPost, y_condP, y_condG, run, lver, minD, intsD, eqAll, tupD, splice, Nat.zero_add, Nat.add_zero, Nat.zero_mul, Nat.mul_one, Nat.one_mul, Nat.reduceAdd, Nat.reduceSub, Nat.reduceMul, Nat.reduceLT, Nat.reduceLeDiff, Nat.reduceEqDiff, true_and, and_true, true_implies, if_true, if_false, ite_true, reduceIte, ne_eq, not_false_eq_true, reduceCtorEq, forall_const, bne_self_eq_false, Bool.true_eq_false, Bool.false_eq_true, false_implies, and_self, implies_true, Int.toNat_zero, beq_self_eq_true, decide_true, decide_false, Bool.not_true, Bool.not_false, ↓y_call, List.length_map, f1, f0, decide_true, Int.toNat_natCast, e0]
    refine pLx.call rfl ?_
    cases ok with
    | false =>
      simp -implicitDefEqProofs only [↓symPre, symPost, y_condP, y_condG, run, lver, minD, intsD, eqAll, tupD, splice, Nat.zero_add, Nat.add_zero, Nat.zero_mul, Nat.mul_one, Nat.one_mul, Nat.reduceAdd, Nat.reduceSub, Nat.reduceMul, Nat.reduceLT, Nat.reduceLeDiff, Nat.reduceEqDiff, true_and, and_true, true_implies, if_true, if_false, ite_true, reduceIte, ne_eq, not_false_eq_true, reduceCtorEq, forall_const, bne_self_eq_false, Bool.true_eq_false, Bool.false_eq_true, false_implies, and_self, implies_true, Int.toNat_zero, beq_self_eq_true, decide_true, decide_false, Bool.not_true, Bool.not_false, ↓y_call]
      exact fin_int hl (bad rfl).symm
    | true =>
    by_cases c2 : r = -1
    · have b2 : (r == -1) = true := by simp [c2]
      simp -implicitDefEqProofs only [↓symPre, symPost, y_condP, y_condG, run, lver, minD, intsD, eqAll, tupD, splice, Nat.zero_add, Nat.add_zero, Nat.zero_mul, Nat.mul_one, Nat.one_mul, Nat.reduceAdd, Nat.reduceSub, Nat.reduceMul, Nat.reduceLT, Nat.reduceLeDiff, Nat.reduceEqDiff, true_and, and_true, true_implies, if_true, if_false, ite_true, reduceIte, ne_eq, not_false_eq_true, reduceCtorEq, forall_const, bne_self_eq_false, Bool.true_eq_false, Bool.false_eq_true, false_implies, and_self, implies_true, Int.toNat_zero, beq_self_eq_true, decide_true, decide_false, Bool.not_true, Bool.not_false, ↓y_call, b2, w1]
      refine ⟨i + 1, ⟨by omega, good (by simp [c2])⟩, by omega, ?_⟩
      refine le_to ([.hole, .hole, .old 2] ++ List.replicate 65 .hole) hl rfl ?_ ?_ <;> ((try simp only [y_blk_end, y_blk_hole, y_blk_nil, y_blk_old, y_wkl_end, y_wkl_top, List.replicate, List.cons_append, List.nil_append, and_true, true_and]) <;> (repeat' (first | apply And.intro | apply y_wkl | refine Exists.intro _ (And.intro rfl ?_))) <;> (try first | exact trivial | exact Wk.top _ | exact wk_int rfl | exact wk_bool rfl | exact wk_ptr rfl rfl rfl rfl | exact wk_ref rfl rfl rfl rfl rfl | exact wk_nil rfl rfl rfl | exact wk_ref rfl rfl rfl rfl (by simp) | exact wk_ref rfl rfl rfl rfl (by simp; omega) | exact wk_old (by assumption) (by simp) | exact wk_eq rfl (by first | exact Bd.int _ _ | exact Bd.bool _ | exact Bd.abool | exact Bd.nils | exact Bd.emp | exact Bd.nilp | exact Bd.nilfn | assumption | exact low_trees _ _ | exact low_treeD _ _ | exact low_ints _ _) | exact Nat.le_refl _ | exact wk_int (by simp) | exact wk_int (by omega) | exact Nat.succ_le_succ (Nat.zero_le _) | exact Nat.le_add_left _ _ | omega))
      all_goals first | exact wk_eq rfl (low_rules _ _) | exact wk_eq rfl (low_trees _ _)
    have b2 : (r == -1) = false := by simp [c2]
    obtain ⟨r0', u, hu⟩ := hlx rfl c2
    obtain ⟨q, rfl⟩ : ∃ q : Nat, r = q := ⟨r.toNat, by omega⟩
    rw [Int.toNat_natCast] at hu
    rw [Int.toNat_natCast, hu, decide_eq_false c2, Bool.true_and, Bool.false_or] at bad good
    have hq : q < gr.length := (List.getElem?_eq_some_iff.1 hu).1
    have e2 := nth_mapF ruleD gr q hq
    rw [(List.getElem?_eq_some_iff.1 hu).2] at e2
    have g0 : (0 : Int) ≤ (q : Int) := by omega
    have g1 : (q : Int) < (gr.length : Int) := by omega
    have hxu := hx u (List.mem_of_getElem? hu)
    obtain ⟨ul, ur⟩ := u
    rw [show ruleD ⟨ul, ur⟩ = .agg [.int .i64 ul, .lst (ur.map symD)] from rfl] at e2
    simp only at bad good hxu
    simp -implicitDefEqProofs only [↓symPre, symPost, y_condP, y_condG, run, lver, minD, intsD, eqAll, tupD, splice, Nat.zero_add, Nat.add_zero, Nat.zero_mul, Nat.mul_one, Nat.one_mul, Nat.reduceAdd, Nat.reduceSub, Nat.reduceMul, Nat.reduceLT, Nat.reduceLeDiff, Nat.reduceEqDiff, true_and, and_true, true_implies, if_true, if_false, ite_true, reduceIte, ne_eq, not_false_eq_true, reduceCtorEq, forall_const, bne_self_eq_false, Bool.true_eq_false, Bool.false_eq_true, false_implies, and_self, implies_true, Int.toNat_zero, beq_self_eq_true, decide_true, decide_false, Bool.not_true, Bool.not_false, ↓y_call, List.length_map, b2]
    refine aloop (fun p : Nat × Nat => St.mk n ([.top, .top, .ptr (n + 2) 1 0, .top, .top, .top, .top, .ptr (n + 7) 1 0, .top, .top, .ref 2 (n + 55) p.2 0 p.1] ++ List.replicate 9 .top ++ [.lst (L.map treeD), .int .i64 L.length, .int .i64 i] ++ List.replicate 15 .top ++ [.lst (ks.map treeD), .int .i64 ks.length, .int .i64 p.1] ++ List.replicate 27 .top) h
        ([blk0, blk0, ⟨1, .cells [.int .i64 gt, .int .i64 gn, .int .i64 gs, .lst (gr.map ruleD)]⟩, blk0, blk0, blk0, blk0, ⟨1, .cells [.int .i64 q, .int .i64 tm, .lst (ks.map treeD)]⟩] ++ List.replicate 47 blk0 ++ [⟨p.2, .cells (cellsF symD ((ks.take p.1).map fun k => (labT g k).1))⟩] ++ List.replicate 12 blk0))
        (fun p => p.1 ≤ ks.length ∧ 1 ≤ p.2 ∧ (ks.take p.1).all (fun k => (labT g k).2) = true) (fun p => ks.length - p.1) (0, 1) ⟨Nat.zero_le _, Nat.le_refl _, by simp⟩ ?_ ?_
    · refine le_to ([.hole, .hole, .old 2, .hole, .hole, .hole, .hole, .old 7] ++ List.replicate 47 .hole ++ [.nil] ++ List.replicate 12 .hole) hl rfl ?_ ?_ <;> ((try simp only [y_blk_end, y_blk_hole, y_blk_nil, y_blk_old, y_wkl_end, y_wkl_top, List.replicate, List.cons_append, List.nil_append, and_true, true_and]) <;> (repeat' (first | apply And.intro | apply y_wkl | refine Exists.intro _ (And.intro rfl ?_))) <;> (try first | exact trivial | exact Wk.top _ | exact wk_int rfl | exact wk_bool rfl | exact wk_ptr rfl rfl rfl rfl | exact wk_ref rfl rfl rfl rfl rfl | exact wk_nil rfl rfl rfl | exact wk_ref rfl rfl rfl rfl (by simp) | exact wk_ref rfl rfl rfl rfl (by simp; omega) | exact wk_old (by assumption) (by simp) | exact wk_eq rfl (by first | exact Bd.int _ _ | exact Bd.bool _ | exact Bd.abool | exact Bd.nils | exact Bd.emp | exact Bd.nilp | exact Bd.nilfn | assumption | exact low_trees _ _ | exact low_treeD _ _ | exact low_ints _ _) | exact Nat.le_refl _ | exact wk_int (by simp) | exact wk_int (by omega) | exact Nat.succ_le_succ (Nat.zero_le _) | exact Nat.le_add_left _ _ | omega))
      all_goals first | exact wk_eq rfl (low_rules _ _) | exact wk_eq rfl (low_trees _ _)
    · rintro ⟨j, v⟩ ⟨hj, hv, hok⟩
      simp only at hj hv hok
      have hAl : ((ks.take j).map fun k => (labT g k).1).length = j := by simp; omega
      have hCl : (cellsF symD ((ks.take j).map fun k => (labT g k).1)).length = j * 2 := by rw [cellsF_len symD symD_cells, hAl]
      by_cases hjl : j < ks.length
      · have p1 : (j : Int) < (ks.length : Int) := by omega
        have p0 : (0 : Int) ≤ (j : Int) := by omega
        have w2 : IntKind.i64.wrap ((j : Int) + 1) = ((j + 1 : Nat) : Int) := by rw [IntWalk.i64_in _ (by omega)]; omega
        have e1 := nth_map_tree ks j hjl
        have hmk : ks[j] ∈ ks := List.getElem_mem hjl
        have htj := List.take_succ_eq_append_getElem hjl
        have pLk := pL ks[j]
        generalize ks[j] = k at *
        have badk : (labT g k).2 = false → ks.all (fun k => (labT g k).2) = false := fun hb => by
          rw [Bool.eq_false_iff]; intro ha; rw [List.all_eq_true] at ha; rw [ha k hmk] at hb; cases hb
        have hsucc : cellsF symD ((ks.take (j + 1)).map fun k => (labT g k).1) = cellsF symD ((ks.take j).map fun k => (labT g k).1) ++ (symD (labT g k).1).cells := by
          rw [htj, List.map_append, cellsF_app]; simp [cellsF]
        have hok2 : (labT g k).2 = true → (ks.take (j + 1)).all (fun k => (labT g k).2) = true := fun hb => by
          rw [htj, List.all_append, hok]; simp [hb]
        have hClow := low_cellsF symD (low_symD n) ((ks.take j).map fun k => (labT g k).1)
        obtain ⟨kr, kt, kk, hkk⟩ : ∃ r t' k', k = .mk r t' k' := by cases k; exact ⟨_, _, _, rfl⟩
        have hkD : treeD k = .agg [.int .i64 kr, .int .i64 kt, .lst (kk.map treeD)] := by rw [hkk, treeD_mk]
        rw [hkD] at e1 pLk
        generalize labT g k = lk at *
        obtain ⟨⟨kb, kn⟩, kok⟩ := lk
        rw [show symD ⟨kb, kn⟩ = .agg [.bool kb, .int .i64 kn] from rfl] at pLk hsucc
        simp only at badk hok2 hsucc pLk
        have hCt := take_all (cellsF symD ((ks.take j).map fun k => (labT g k).1)) (k := j * 2) hCl.symm
        generalize cellsF symD ((ks.take j).map fun k => (labT g k).1) = C at *
        have hCle : j * 2 ≤ C.length := by omega
        have hf16 : (j + 1) * 16 ≤ 140737488355328 := by omega
        simp -implicitDefEqProofs only [↓symPre, symPost, y_condP, y_condG, run, lver, minD, intsD, eqAll, tupD, splice, Nat.zero_add, Nat.add_zero, Nat.zero_mul, Nat.mul_one, Nat.one_mul, Nat.reduceAdd, Nat.reduceSub, Nat.reduceMul, Nat.reduceLT, Nat.reduceLeDiff, Nat.reduceEqDiff, true_and, and_true, true_implies, if_true, if_false, ite_true, reduceIte, ne_eq, not_false_eq_true, reduceCtorEq, forall_const, bne_self_eq_false, Bool.true_eq_false, Bool.false_eq_true, false_implies, and_self, implies_true, Int.toNat_zero, beq_self_eq_true, decide_true, decide_false, Bool.not_true, Bool.not_false, ↓y_call, List.length_map, p1, p0, decide_true, Int.toNat_natCast, e1]
        refine pLk.call rfl ?_
        cases kok with
        | false =>
          simp -implicitDefEqProofs only [↓symPre, symPost, y_condP, y_condG, run, lver, minD, intsD, eqAll, tupD, splice, Nat.zero_add, Nat.add_zero, Nat.zero_mul, Nat.mul_one, Nat.one_mul, Nat.reduceAdd, Nat.reduceSub, Nat.reduceMul, Nat.reduceLT, Nat.reduceLeDiff, Nat.reduceEqDiff, true_and, and_true, true_implies, if_true, if_false, ite_true, reduceIte, ne_eq, not_false_eq_true, reduceCtorEq, forall_const, bne_self_eq_false, Bool.true_eq_false, Bool.false_eq_true, false_implies, and_self, implies_true, Int.toNat_zero, beq_self_eq_true, decide_true, decide_false, Bool.not_true, Bool.not_false, ↓y_call]
          exact fin_int hl (bad (by rw [badk rfl]; rfl)).symm
        | true =>
          simp -implicitDefEqProofs only [↓symPre, symPost, y_condP, y_condG, run, lver, minD, intsD, eqAll, tupD, splice, Nat.zero_add, Nat.add_zero, Nat.zero_mul, Nat.mul_one, Nat.one_mul, Nat.reduceAdd, Nat.reduceSub, Nat.reduceMul, Nat.reduceLT, Nat.reduceLeDiff, Nat.reduceEqDiff, true_and, and_true, true_implies, if_true, if_false, ite_true, reduceIte, ne_eq, not_false_eq_true, reduceCtorEq, forall_const, bne_self_eq_false, Bool.true_eq_false, Bool.false_eq_true, false_implies, and_self, implies_true, Int.toNat_zero, beq_self_eq_true, decide_true, decide_false, Bool.not_true, Bool.not_false, ↓y_call, srcOf, hf16, hCt, hCle, w2]
          refine ⟨(j + 1, v + 1), ⟨by simp only; omega, by simp only; omega, hok2 rfl⟩, by simp only; omega, ?_⟩
          simp only [hsucc]
          refine le_to ([.hole, .hole, .old 2, .hole, .hole, .hole, .hole, .old 7] ++ List.replicate 47 .hole ++ [.old 55] ++ List.replicate 12 .hole) hl rfl ?_ ?_ <;> ((try simp only [y_blk_end, y_blk_hole, y_blk_nil, y_blk_old, y_wkl_end, y_wkl_top, List.replicate, List.cons_append, List.nil_append, and_true, true_and]) <;> (repeat' (first | apply And.intro | apply y_wkl | refine Exists.intro _ (And.intro rfl ?_))) <;> (try first | exact trivial | exact Wk.top _ | exact wk_int rfl | exact wk_bool rfl | exact wk_ptr rfl rfl rfl rfl | exact wk_ref rfl rfl rfl rfl rfl | exact wk_nil rfl rfl rfl | exact wk_ref rfl rfl rfl rfl (by simp) | exact wk_ref rfl rfl rfl rfl (by simp; omega) | exact wk_old (by assumption) (by simp) | exact wk_eq rfl (by first | exact Bd.int _ _ | exact Bd.bool _ | exact Bd.abool | exact Bd.nils | exact Bd.emp | exact Bd.nilp | exact Bd.nilfn | assumption | exact low_trees _ _ | exact low_treeD _ _ | exact low_ints _ _) | exact Nat.le_refl _ | exact wk_int (by simp) | exact wk_int (by omega) | exact Nat.succ_le_succ (Nat.zero_le _) | exact Nat.le_add_left _ _ | omega))
          all_goals first | exact wk_eq rfl (low_rules _ _) | exact wk_eq rfl (low_trees _ _) | exact WkL.app (WkL.low hClow) (y_wkl (wk_bool rfl) (y_wkl (wk_int rfl) trivial)) | trace_state
      · have p1 : ¬ (j : Int) < (ks.length : Int) := by omega
        have hjk : j = ks.length := by omega
        subst hjk
        rw [List.take_length] at *
        have pE := pure_EqSy (ks.map fun k => (labT g k).1) ur (by simp; omega) (by omega)
        simp -implicitDefEqProofs only [↓symPre, symPost, y_condP, y_condG, run, lver, minD, intsD, eqAll, tupD, splice, Nat.zero_add, Nat.add_zero, Nat.zero_mul, Nat.mul_one, Nat.one_mul, Nat.reduceAdd, Nat.reduceSub, Nat.reduceMul, Nat.reduceLT, Nat.reduceLeDiff, Nat.reduceEqDiff, true_and, and_true, true_implies, if_true, if_false, ite_true, reduceIte, ne_eq, not_false_eq_true, reduceCtorEq, forall_const, bne_self_eq_false, Bool.true_eq_false, Bool.false_eq_true, false_implies, and_self, implies_true, Int.toNat_zero, beq_self_eq_true, decide_true, decide_false, Bool.not_true, Bool.not_false, ↓y_call, p1, decide_false, List.length_map, g0, g1, Int.toNat_natCast, e2]
        refine pE.callF (.bool _) rfl (y_wkl (fz_F symD symD_cells (low_symD 0) (l := ks.map fun k => (labT g k).1) (by omega) (by show mrg n h _ (n + 55) = _; rw [mrg_loc]; rfl) (by simp)) (y_wkl (.low _ (low_syms 0 _)) trivial)) ?_
        rw [hok, Bool.true_and] at bad good
        by_cases c5 : (ks.map fun k => (labT g k).1) = ur
        · rw [decide_eq_true c5] at good
          have hd5 : decide ((ks.map fun k => (labT g k).1) = ur) = true := decide_eq_true c5
          simp -implicitDefEqProofs only [↓symPre, symPost, y_condP, y_condG, run, lver, minD, intsD, eqAll, tupD, splice, Nat.zero_add, Nat.add_zero, Nat.zero_mul, Nat.mul_one, Nat.one_mul, Nat.reduceAdd, Nat.reduceSub, Nat.reduceMul, Nat.reduceLT, Nat.reduceLeDiff, Nat.reduceEqDiff, true_and, and_true, true_implies, if_true, if_false, ite_true, reduceIte, ne_eq, not_false_eq_true, reduceCtorEq, forall_const, bne_self_eq_false, Bool.true_eq_false, Bool.false_eq_true, false_implies, and_self, implies_true, Int.toNat_zero, beq_self_eq_true, decide_true, decide_false, Bool.not_true, Bool.not_false, ↓y_call, hd5, w1]
          refine ⟨i + 1, ⟨by omega, good rfl⟩, by omega, ?_⟩
          refine le_to ([.hole, .hole, .old 2] ++ List.replicate 65 .hole) hl rfl ?_ ?_ <;> ((try simp only [y_blk_end, y_blk_hole, y_blk_nil, y_blk_old, y_wkl_end, y_wkl_top, List.replicate, List.cons_append, List.nil_append, and_true, true_and]) <;> (repeat' (first | apply And.intro | apply y_wkl | refine Exists.intro _ (And.intro rfl ?_))) <;> (try first | exact trivial | exact Wk.top _ | exact wk_int rfl | exact wk_bool rfl | exact wk_ptr rfl rfl rfl rfl | exact wk_ref rfl rfl rfl rfl rfl | exact wk_nil rfl rfl rfl | exact wk_ref rfl rfl rfl rfl (by simp) | exact wk_ref rfl rfl rfl rfl (by simp; omega) | exact wk_old (by assumption) (by simp) | exact wk_eq rfl (by first | exact Bd.int _ _ | exact Bd.bool _ | exact Bd.abool | exact Bd.nils | exact Bd.emp | exact Bd.nilp | exact Bd.nilfn | assumption | exact low_trees _ _ | exact low_treeD _ _ | exact low_ints _ _) | exact Nat.le_refl _ | exact wk_int (by simp) | exact wk_int (by omega) | exact Nat.succ_le_succ (Nat.zero_le _) | exact Nat.le_add_left _ _ | omega))
          all_goals first | exact wk_eq rfl (low_rules _ _) | exact wk_eq rfl (low_trees _ _)
        · rw [decide_eq_false c5] at bad
          have hd5 : decide ((ks.map fun k => (labT g k).1) = ur) = false := decide_eq_false c5
          simp -implicitDefEqProofs only [↓symPre, symPost, y_condP, y_condG, run, lver, minD, intsD, eqAll, tupD, splice, Nat.zero_add, Nat.add_zero, Nat.zero_mul, Nat.mul_one, Nat.one_mul, Nat.reduceAdd, Nat.reduceSub, Nat.reduceMul, Nat.reduceLT, Nat.reduceLeDiff, Nat.reduceEqDiff, true_and, and_true, true_implies, if_true, if_false, ite_true, reduceIte, ne_eq, not_false_eq_true, reduceCtorEq, forall_const, bne_self_eq_false, Bool.true_eq_false, Bool.false_eq_true, false_implies, and_self, implies_true, Int.toNat_zero, beq_self_eq_true, decide_true, decide_false, Bool.not_true, Bool.not_false, ↓y_call, hd5]
          exact fin_int hl (bad rfl).symm

end Abs
end Go.Proofs.Ytfojedaccfenfab

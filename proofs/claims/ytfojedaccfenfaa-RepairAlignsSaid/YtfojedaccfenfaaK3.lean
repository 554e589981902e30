/- Costs in range; the operations of an alignment, and performing them. -/
import Derived.Test.YtfojedaccfenfaaK2
namespace Go.Proofs.Ytfojedaccfenfaa
namespace Abs
set_option linter.unusedVariables false
set_option linter.unusedSimpArgs false
set_option maxRecDepth 20000

theorem pure_costs1 (x : Int) (h1 : 1 ≤ x) (h2 : x ≤ 100) : Pure prog F_repair_costs_1 [.int .i64 x] (.bool false) := by
  intro n h
  refine K_repair_costs_1.calls fun hl => ?_
  unfold C_repair_costs_1
  have c1 : ¬ x < 1 := by omega
  have c2 : ¬ x > 100 := by omega
  simp -implicitDefEqProofs only [↓symPre, symPost, y_condP, y_condG, run, lver, minD, intsD, eqAll, tupD, splice, Nat.zero_add, Nat.add_zero, Nat.zero_mul, Nat.mul_one, Nat.one_mul, Nat.reduceAdd, Nat.reduceSub, Nat.reduceMul, Nat.reduceLT, Nat.reduceLeDiff, Nat.reduceEqDiff, true_and, and_true, true_implies, if_true, if_false, ite_true, reduceIte, ne_eq, not_false_eq_true, reduceCtorEq, forall_const, bne_self_eq_false, Bool.true_eq_false, Bool.false_eq_true, false_implies, and_self, implies_true, Int.toNat_zero, beq_self_eq_true, decide_true, decide_false, Bool.not_true, Bool.not_false, ↓y_call, c1, c2]
  exact fin_bool hl rfl

/-- no element is found -/
theorem pure_IndexNone (l : List Int) (f : FuncId) (hlen : l.length < 2 ^ 60) (hf : ∀ x ∈ l, Pure prog f [.int .i64 x] (.bool false)) : Pure prog F_slices_IndexFunc_int_int [iD l, .fn f []] (.int .i64 (-1)) := by
  intro n h
  refine K_slices_IndexFunc_int_int.calls fun hl => ?_
  unfold C_slices_IndexFunc_int_int
  simp -implicitDefEqProofs only [↓symPre, symPost, y_condP, y_condG, run, lver, minD, intsD, eqAll, tupD, splice, Nat.zero_add, Nat.add_zero, Nat.zero_mul, Nat.mul_one, Nat.one_mul, Nat.reduceAdd, Nat.reduceSub, Nat.reduceMul, Nat.reduceLT, Nat.reduceLeDiff, Nat.reduceEqDiff, true_and, and_true, true_implies, if_true, if_false, ite_true, reduceIte, ne_eq, not_false_eq_true, reduceCtorEq, forall_const, bne_self_eq_false, Bool.true_eq_false, Bool.false_eq_true, false_implies, and_self, implies_true, Int.toNat_zero, beq_self_eq_true, decide_true, decide_false, Bool.not_true, Bool.not_false, ↓y_call, List.length_map]
  refine aloop (fun i : Nat => St.mk n ([iD l, .fn f []] ++ List.replicate 5 .top ++ [.int .i64 l.length, .int .i64 i] ++ List.replicate 10 .top) h (List.replicate 19 blk0)) (fun i => i ≤ l.length) (fun i => l.length - i) 0 (Nat.zero_le _) ?_ ?_
  · refine le_to (List.replicate 19 .hole) hl rfl ?_ ?_ <;> ((try simp only [y_blk_end, y_blk_hole, y_blk_nil, y_blk_old, y_wkl_end, y_wkl_top, List.replicate, List.cons_append, List.nil_append, and_true, true_and]) <;> (repeat' (first | apply And.intro | apply y_wkl | refine Exists.intro _ (And.intro rfl ?_))) <;> (try first | exact trivial | exact Wk.top _ | exact wk_int rfl | exact wk_bool rfl | exact wk_ptr rfl rfl rfl rfl | exact wk_ref rfl rfl rfl rfl rfl | exact wk_nil rfl rfl rfl | exact wk_ref rfl rfl rfl rfl (by simp) | exact wk_ref rfl rfl rfl rfl (by simp; omega) | exact wk_old (by assumption) (by simp) | exact wk_eq rfl (by first | exact Bd.int _ _ | exact Bd.bool _ | exact Bd.abool | exact Bd.nils | exact Bd.emp | exact Bd.nilp | exact Bd.nilfn | assumption | exact low_trees _ _ | exact low_treeD _ _ | exact low_ints _ _) | exact Nat.le_refl _ | exact wk_int (by simp) | exact wk_int (by omega) | exact Nat.succ_le_succ (Nat.zero_le _) | exact Nat.le_add_left _ _ | omega))
    exact wk_eq rfl (.fn _ _ (by simp))
  · intro i hi
    by_cases hlt : i < l.length
    · have f1 : (i : Int) < (l.length : Int) := by omega
      have f0 : (0 : Int) ≤ (i : Int) := by omega
      have w1 : IntKind.i64.wrap ((i : Int) + 1) = ((i + 1 : Nat) : Int) := by rw [IntWalk.i64_in _ (by omega)]; omega
      have e0 := nth_ints l i hlt
      have hx := hf l[i] (List.getElem_mem hlt)
      simp -implicitDefEqProofs only [↓symPre, symPost, y_condP, y_condG, run, lver, minD, intsD, eqAll, tupD, splice, Nat.zero_add, Nat.add_zero, Nat.zero_mul, Nat.mul_one, Nat.one_mul, Nat.reduceAdd, Nat.reduceSub, Nat.reduceMul, Nat.reduceLT, Nat.reduceLeDiff, Nat.reduceEqDiff, true_and, and_true, true_implies, if_true, if_false, ite_true, reduceIte, ne_eq, not_false_eq_true, reduceCtorEq, forall_const, bne_self_eq_false, Bool.true_eq_false, Bool.false_eq_true, false_implies, and_self, implies_true, Int.toNat_zero, beq_self_eq_true, decide_true, decide_false, Bool.not_true, Bool.not_false, ↓y_call, List.length_map, f1, f0, decide_true, Int.toNat_natCast, e0, ↓y_callv]
      refine hx.call rfl ?_
      simp -implicitDefEqProofs only [↓symPre, symPost, y_condP, y_condG, run, lver, minD, intsD, eqAll, tupD, splice, Nat.zero_add, Nat.add_zero, Nat.zero_mul, Nat.mul_one, Nat.one_mul, Nat.reduceAdd, Nat.reduceSub, Nat.reduceMul, Nat.reduceLT, Nat.reduceLeDiff, Nat.reduceEqDiff, true_and, and_true, true_implies, if_true, if_false, ite_true, reduceIte, ne_eq, not_false_eq_true, reduceCtorEq, forall_const, bne_self_eq_false, Bool.true_eq_false, Bool.false_eq_true, false_implies, and_self, implies_true, Int.toNat_zero, beq_self_eq_true, decide_true, decide_false, Bool.not_true, Bool.not_false, ↓y_call, w1]
      refine ⟨i + 1, by omega, by omega, ?_⟩
      refine le_to (List.replicate 19 .hole) hl rfl ?_ ?_ <;> ((try simp only [y_blk_end, y_blk_hole, y_blk_nil, y_blk_old, y_wkl_end, y_wkl_top, List.replicate, List.cons_append, List.nil_append, and_true, true_and]) <;> (repeat' (first | apply And.intro | apply y_wkl | refine Exists.intro _ (And.intro rfl ?_))) <;> (try first | exact trivial | exact Wk.top _ | exact wk_int rfl | exact wk_bool rfl | exact wk_ptr rfl rfl rfl rfl | exact wk_ref rfl rfl rfl rfl rfl | exact wk_nil rfl rfl rfl | exact wk_ref rfl rfl rfl rfl (by simp) | exact wk_ref rfl rfl rfl rfl (by simp; omega) | exact wk_old (by assumption) (by simp) | exact wk_eq rfl (by first | exact Bd.int _ _ | exact Bd.bool _ | exact Bd.abool | exact Bd.nils | exact Bd.emp | exact Bd.nilp | exact Bd.nilfn | assumption | exact low_trees _ _ | exact low_treeD _ _ | exact low_ints _ _) | exact Nat.le_refl _ | exact wk_int (by simp) | exact wk_int (by omega) | exact Nat.succ_le_succ (Nat.zero_le _) | exact Nat.le_add_left _ _ | omega))
      exact wk_eq rfl (.fn _ _ (by simp))
    · have f1 : ¬ (i : Int) < (l.length : Int) := by omega
      simp -implicitDefEqProofs only [↓symPre, symPost, y_condP, y_condG, run, lver, minD, intsD, eqAll, tupD, splice, Nat.zero_add, Nat.add_zero, Nat.zero_mul, Nat.mul_one, Nat.one_mul, Nat.reduceAdd, Nat.reduceSub, Nat.reduceMul, Nat.reduceLT, Nat.reduceLeDiff, Nat.reduceEqDiff, true_and, and_true, true_implies, if_true, if_false, ite_true, reduceIte, ne_eq, not_false_eq_true, reduceCtorEq, forall_const, bne_self_eq_false, Bool.true_eq_false, Bool.false_eq_true, false_implies, and_self, implies_true, Int.toNat_zero, beq_self_eq_true, decide_true, decide_false, Bool.not_true, Bool.not_false, ↓y_call, f1, decide_false]
      exact fin_int hl rfl

theorem pure_ContainsNone (l : List Int) (f : FuncId) (hlen : l.length < 2 ^ 60) (hf : ∀ x ∈ l, Pure prog f [.int .i64 x] (.bool false)) : Pure prog F_slices_ContainsFunc_int_int [iD l, .fn f []] (.bool false) := by
  intro n h
  refine K_slices_ContainsFunc_int_int.calls fun hl => ?_
  unfold C_slices_ContainsFunc_int_int
  have hc : decide ((-1 : Int) ≥ 0) = false := rfl
  simp -implicitDefEqProofs only [↓symPre, symPost, y_condP, y_condG, run, lver, minD, intsD, eqAll, tupD, splice, Nat.zero_add, Nat.add_zero, Nat.zero_mul, Nat.mul_one, Nat.one_mul, Nat.reduceAdd, Nat.reduceSub, Nat.reduceMul, Nat.reduceLT, Nat.reduceLeDiff, Nat.reduceEqDiff, true_and, and_true, true_implies, if_true, if_false, ite_true, reduceIte, ne_eq, not_false_eq_true, reduceCtorEq, forall_const, bne_self_eq_false, Bool.true_eq_false, Bool.false_eq_true, false_implies, and_self, implies_true, Int.toNat_zero, beq_self_eq_true, decide_true, decide_false, Bool.not_true, Bool.not_false, ↓y_call]
  refine (pure_IndexNone l f hlen hf).call rfl ?_
  simp -implicitDefEqProofs only [↓symPre, symPost, y_condP, y_condG, run, lver, minD, intsD, eqAll, tupD, splice, Nat.zero_add, Nat.add_zero, Nat.zero_mul, Nat.mul_one, Nat.one_mul, Nat.reduceAdd, Nat.reduceSub, Nat.reduceMul, Nat.reduceLT, Nat.reduceLeDiff, Nat.reduceEqDiff, true_and, and_true, true_implies, if_true, if_false, ite_true, reduceIte, ne_eq, not_false_eq_true, reduceCtorEq, forall_const, bne_self_eq_false, Bool.true_eq_false, Bool.false_eq_true, false_implies, and_self, implies_true, Int.toNat_zero, beq_self_eq_true, decide_true, decide_false, Bool.not_true, Bool.not_false, ↓y_call, hc]
  exact fin_bool hl rfl

theorem pure_rcosts (q : Co) (hq : okCo q 100) : Pure prog F_repair_costs [coD q] (.bool true) := by
  intro n h
  refine K_repair_costs.calls fun hl => ?_
  unfold C_repair_costs coD
  have hp := pure_ContainsNone [q.a, q.b, q.c] F_repair_costs_1 (by simp) (fun x hx => by
    obtain ⟨h1, h2, h3, h4, h5, h6⟩ := hq
    simp only [List.mem_cons, List.not_mem_nil, or_false] at hx
    rcases hx with rfl | rfl | rfl
    · exact pure_costs1 _ h1 h2
    · exact pure_costs1 _ h3 h4
    · exact pure_costs1 _ h5 h6)
  simp -implicitDefEqProofs only [↓symPre, symPost, y_condP, y_condG, run, lver, minD, intsD, eqAll, tupD, splice, Nat.zero_add, Nat.add_zero, Nat.zero_mul, Nat.mul_one, Nat.one_mul, Nat.reduceAdd, Nat.reduceSub, Nat.reduceMul, Nat.reduceLT, Nat.reduceLeDiff, Nat.reduceEqDiff, true_and, and_true, true_implies, if_true, if_false, ite_true, reduceIte, ne_eq, not_false_eq_true, reduceCtorEq, forall_const, bne_self_eq_false, Bool.true_eq_false, Bool.false_eq_true, false_implies, and_self, implies_true, Int.toNat_zero, beq_self_eq_true, decide_true, decide_false, Bool.not_true, Bool.not_false, ↓y_call]
  refine hp.callF (.bool _) rfl (y_wkl (fz_ints (l := [q.a, q.b, q.c]) (by omega) (by show mrg n h _ (n + 1) = _; rw [mrg_loc]; rfl) rfl) (y_wkl (.low _ (.fn _ _ (by simp))) trivial)) ?_
  simp -implicitDefEqProofs only [↓symPre, symPost, y_condP, y_condG, run, lver, minD, intsD, eqAll, tupD, splice, Nat.zero_add, Nat.add_zero, Nat.zero_mul, Nat.mul_one, Nat.one_mul, Nat.reduceAdd, Nat.reduceSub, Nat.reduceMul, Nat.reduceLT, Nat.reduceLeDiff, Nat.reduceEqDiff, true_and, and_true, true_implies, if_true, if_false, ite_true, reduceIte, ne_eq, not_false_eq_true, reduceCtorEq, forall_const, bne_self_eq_false, Bool.true_eq_false, Bool.false_eq_true, false_implies, and_self, implies_true, Int.toNat_zero, beq_self_eq_true, decide_true, decide_false, Bool.not_true, Bool.not_false, ↓y_call]
  exact fin_bool hl rfl

/-! ### operations -/
structure Ope where
  k : Int
  p : Int
  x : Int
def opeD (o : Ope) : D := .agg [.int .i64 o.k, .int .i64 o.p, .int .i64 o.x]
theorem opeD_cells (o : Ope) : (opeD o).cells.length = 3 := rfl
theorem low_opeD (n : Nat) (o : Ope) : Low n (opeD o) := .agg _ fun c hc => by
  simp only [List.mem_cons, List.not_mem_nil, or_false] at hc
  rcases hc with rfl | rfl | rfl <;> exact .int ..
theorem ope_one_cells (o : Ope) (L : List Ope) : cellsF opeD L ++ [.int .i64 o.k, .int .i64 o.p, .int .i64 o.x] = cellsF opeD (L ++ [o]) := by rw [cellsF_app, cellsF_one]; rfl

/-- the operations of an alignment -/
def alignR (q : Co) : Nat → List Int → List Int → List Ope
  | _, [], [] => []
  | i, x :: w, [] => ⟨2, i, x⟩ :: alignR q (i + 1) w []
  | i, [], y :: v => ⟨1, i, y⟩ :: alignR q i [] v
  | i, x :: w, y :: v =>
    if x = y ∧ dR q (x :: w) (y :: v) = dR q w v then ⟨0, i, x⟩ :: alignR q (i + 1) w v
    else if x ≠ y ∧ dR q (x :: w) (y :: v) = dR q w v + q.c then ⟨3, i, y⟩ :: alignR q (i + 1) w v
    else if dR q (x :: w) (y :: v) = dR q w (y :: v) + q.b then ⟨2, i, x⟩ :: alignR q (i + 1) w (y :: v)
    else ⟨1, i, y⟩ :: alignR q i (x :: w) v
termination_by _ w v => w.length + v.length

theorem alignR_len (q : Co) (i : Nat) (w v : List Int) : (alignR q i w v).length ≤ w.length + v.length := by
  fun_induction alignR q i w v <;> simp_all <;> omega

def costR (q : Co) (o : Ope) : Int := if o.k = 1 then q.a else if o.k = 2 then q.b else if o.k = 3 then q.c else 0

/-- performing operations: what is left of the word, what has come of it -/
def runR (w : List Int) : List Ope → Nat → List Int → Option (List Int)
  | [], i, out => if i = w.length then some out else none
  | o :: l, i, out =>
    if o.p = i ∧ (o.k = 1 ∨ ((o.k = 0 ∨ o.k = 2 ∨ o.k = 3) ∧ i < w.length)) then
      runR w l (if o.k = 1 then i else i + 1) (if o.k = 1 ∨ o.k = 3 then out ++ [o.x] else if o.k = 0 then out ++ [w.getD i 0] else out)
    else none

theorem align_run (q : Co) (W : List Int) : ∀ (i : Nat) (w v : List Int), w = W.drop i → i ≤ W.length → ∀ out, runR W (alignR q i w v) i out = some (out ++ v) := by
  intro i w v
  fun_induction alignR q i w v with
  | case1 i => intro h hi out; rw [runR, if_pos (by have := congrArg List.length h; simp at this; omega)]; simp
  | case2 i x w ih =>
    intro h hi out
    have hl := congrArg List.length h
    simp at hl
    have hd : w = W.drop (i + 1) := by rw [← List.drop_drop, ← h]; rfl
    rw [runR, if_pos ⟨rfl, .inr ⟨.inr (.inl rfl), by omega⟩⟩, if_neg (by simp), if_neg (by simp), if_neg (by simp)]
    exact ih hd (by omega) out
  | case3 i y v ih =>
    intro h hi out
    rw [runR, if_pos ⟨rfl, .inl rfl⟩, if_pos rfl, if_pos (.inl rfl)]
    rw [ih h hi]; simp
  | case4 i x w y v hc ih =>
    intro h hi out
    have hl := congrArg List.length h
    simp at hl
    have hd : w = W.drop (i + 1) := by rw [← List.drop_drop, ← h]; rfl
    have hx : W.getD i 0 = x := by
      have : (W.drop i)[0]? = some x := by rw [← h]; rfl
      rw [List.getElem?_drop, Nat.add_zero] at this
      simp [List.getD, this]
    rw [runR, if_pos ⟨rfl, .inr ⟨.inl rfl, by omega⟩⟩, if_neg (by simp), if_neg (by simp), if_pos rfl, hx, ih hd (by omega), hc.1]
    simp
  | case5 i x w y v hn hc ih =>
    intro h hi out
    have hl := congrArg List.length h
    simp at hl
    have hd : w = W.drop (i + 1) := by rw [← List.drop_drop, ← h]; rfl
    rw [runR, if_pos ⟨rfl, .inr ⟨.inr (.inr rfl), by omega⟩⟩, if_neg (by simp), if_pos (.inr rfl), ih hd (by omega)]
    simp
  | case6 i x w y v hn hn2 hc ih =>
    intro h hi out
    have hl := congrArg List.length h
    simp at hl
    have hd : w = W.drop (i + 1) := by rw [← List.drop_drop, ← h]; rfl
    rw [runR, if_pos ⟨rfl, .inr ⟨.inr (.inl rfl), by omega⟩⟩, if_neg (by simp), if_neg (by simp), if_neg (by simp)]
    exact ih hd (by omega) out
  | case7 i x w y v hn hn2 hc ih =>
    intro h hi out
    rw [runR, if_pos ⟨rfl, .inl rfl⟩, if_pos rfl, if_pos (.inl rfl), ih h hi]
    simp

theorem align_cost (q : Co) (i : Nat) (w v : List Int) : ((alignR q i w v).map (costR q)).sum = dR q w v := by
  fun_induction alignR q i w v with
  | case1 i => rw [dR]; simp
  | case2 i x w ih =>
    simp only [List.map_cons, List.sum_cons, ih]
    rw [dR_nil2, dR_nil2]
    simp [costR, Int.add_mul]; omega
  | case3 i y v ih =>
    simp only [List.map_cons, List.sum_cons, ih]
    rw [dR_nil, dR_nil]
    simp [costR, Int.add_mul]; omega
  | case4 i x w y v hc ih =>
    simp only [List.map_cons, List.sum_cons, ih]
    rw [hc.2]; simp [costR]
  | case5 i x w y v hn hc ih =>
    simp only [List.map_cons, List.sum_cons, ih]
    rw [hc.2]; simp [costR]; omega
  | case6 i x w y v hn hn2 hc ih =>
    simp only [List.map_cons, List.sum_cons, ih]
    rw [hc]; simp [costR]; omega
  | case7 i x w y v hn hn2 hc ih =>
    simp only [List.map_cons, List.sum_cons, ih]
    have hm := min3_le (dR q w v + if x = y then 0 else q.c) (dR q w (y :: v) + q.b) (dR q (x :: w) v + q.a)
    rw [← dR_cons] at hm
    simp only [costR, if_true]
    by_cases e : x = y
    · rw [if_pos e] at hm
      have h1 : ¬ dR q (x :: w) (y :: v) = dR q w v := fun h => hn ⟨e, h⟩
      omega
    · rw [if_neg e] at hm
      have h1 : ¬ dR q (x :: w) (y :: v) = dR q w v + q.c := fun h => hn2 ⟨e, h⟩
      omega

end Abs
end Go.Proofs.Ytfojedaccfenfaa

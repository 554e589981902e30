/- Trees, nodes, grammars. -/
import Derived.Test.YtfojedaccfenfabA26
import Derived.Test.YtfojedaccfenfabB
namespace Go.Proofs.Ytfojedaccfenfab
namespace Abs
set_option linter.unusedVariables false
set_option linter.unusedSimpArgs false
set_option maxRecDepth 20000

theorem hmix : prog.follows .mixedOrders = true := by kernel_rfl

inductive Tree where
  | mk (rule term : Int) (kids : List Tree)
  deriving Inhabited

def treeD : Tree → D
  | .mk r t ks => .agg [.int .i64 r, .int .i64 t, .lst (ks.map treeD)]

theorem treeD_mk (r t : Int) (ks : List Tree) : treeD (.mk r t ks) = .agg [.int .i64 r, .int .i64 t, .lst (ks.map treeD)] := by rw [treeD]

def size : Tree → Nat
  | .mk r _ ks => if r = -1 then 1 else 1 + (ks.map size).sum

theorem size_mk (r t : Int) (ks : List Tree) : size (.mk r t ks) = if r = -1 then 1 else 1 + (ks.map size).sum := by rw [size]

theorem sum_take_succ : ∀ (l : List Nat) (i : Nat) (hi : i < l.length), (l.take (i + 1)).sum = (l.take i).sum + l[i]
  | [], i, hi => by simp at hi
  | a :: l, 0, hi => by simp
  | a :: l, i + 1, hi => by
    have := sum_take_succ l i (by simpa using hi)
    simp only [List.take_succ_cons, List.sum_cons, List.getElem_cons_succ] at this ⊢
    omega
theorem sum_take_le : ∀ (l : List Nat) (i : Nat), (l.take i).sum ≤ l.sum
  | [], i => by simp
  | a :: l, 0 => by simp
  | a :: l, i + 1 => by
    have := sum_take_le l i
    simp only [List.take_succ_cons, List.sum_cons]
    omega
theorem size_pos : ∀ t : Tree, 1 ≤ size t
  | .mk r _ ks => by rw [size_mk]; split <;> omega
theorem len_le_sum : ∀ ks : List Tree, ks.length ≤ (ks.map size).sum
  | [] => by simp
  | k :: ks => by have := len_le_sum ks; have := size_pos k; simp; omega

theorem low_treeD (n : Nat) : ∀ t : Tree, Low n (treeD t)
  | .mk r t ks => by
    rw [treeD_mk]
    refine .agg _ fun c hc => ?_
    simp only [List.mem_cons, List.not_mem_nil, or_false] at hc
    rcases hc with rfl | rfl | rfl
    · exact .int ..
    · exact .int ..
    · refine .lst _ fun c hc => ?_
      obtain ⟨k, hk, rfl⟩ := List.mem_map.1 hc
      exact low_treeD n k

theorem low_trees (n : Nat) (ks : List Tree) : Low n (.lst (ks.map treeD)) := by
  refine .lst _ fun c hc => ?_
  obtain ⟨k, hk, rfl⟩ := List.mem_map.1 hc
  exact low_treeD n k

theorem low_ints (n : Nat) (l : List Int) : Low n (.lst (l.map (.int .i64))) := by
  refine .lst _ fun c hc => ?_
  obtain ⟨k, hk, rfl⟩ := List.mem_map.1 hc
  exact .int ..

theorem treeD_cells (t : Tree) : (treeD t).cells.length = 3 := by cases t; rw [treeD_mk]; rfl

theorem nth_map_tree (ks : List Tree) (i : Nat) (hi : i < ks.length) : nth (ks.map treeD) i = treeD ks[i] := by
  simp [nth, List.getD, hi]

theorem pure_leaf (r t : Int) (k : D) : Pure prog F_tree_leaf [.agg [.int .i64 r, .int .i64 t, k]] (.bool (r == -1)) := by
  intro n h
  refine K_tree_leaf.calls fun hl => ?_
  unfold C_tree_leaf
  simp -implicitDefEqProofs only [↓symPre, symPost, y_condP, y_condG, run, lver, minD, intsD, eqAll, tupD, splice, Nat.zero_add, Nat.add_zero, Nat.zero_mul, Nat.mul_one, Nat.one_mul, Nat.reduceAdd, Nat.reduceSub, Nat.reduceMul, Nat.reduceLT, Nat.reduceLeDiff, Nat.reduceEqDiff, true_and, and_true, true_implies, if_true, if_false, ite_true, reduceIte, ne_eq, not_false_eq_true, reduceCtorEq, forall_const, bne_self_eq_false, Bool.true_eq_false, Bool.false_eq_true, false_implies, and_self, implies_true, Int.toNat_zero, beq_self_eq_true, decide_true, decide_false, Bool.not_true, Bool.not_false]
  exact fin_low hl (.bool _) ⟨rfl, rfl, rfl⟩

theorem pure_Size : ∀ t : Tree, size t < 2 ^ 62 → Pure prog F_tree_Size [treeD t] (.int .i64 (size t))
  | .mk r tm ks, hsz => by
    intro n h
    rw [treeD_mk]
    refine K_tree_Size.calls fun hl => ?_
    unfold C_tree_Size
    simp -implicitDefEqProofs only [↓symPre, symPost, y_condP, y_condG, run, lver, minD, intsD, eqAll, tupD, splice, Nat.zero_add, Nat.add_zero, Nat.zero_mul, Nat.mul_one, Nat.one_mul, Nat.reduceAdd, Nat.reduceSub, Nat.reduceMul, Nat.reduceLT, Nat.reduceLeDiff, Nat.reduceEqDiff, true_and, and_true, true_implies, if_true, if_false, ite_true, reduceIte, ne_eq, not_false_eq_true, reduceCtorEq, forall_const, bne_self_eq_false, Bool.true_eq_false, Bool.false_eq_true, false_implies, and_self, implies_true, Int.toNat_zero, beq_self_eq_true, decide_true, decide_false, Bool.not_true, Bool.not_false, ↓y_call]
    refine (pure_leaf r tm _).call rfl ?_
    simp -implicitDefEqProofs only [↓symPre, symPost, y_condP, y_condG, run, lver, minD, intsD, eqAll, tupD, splice, Nat.zero_add, Nat.add_zero, Nat.zero_mul, Nat.mul_one, Nat.one_mul, Nat.reduceAdd, Nat.reduceSub, Nat.reduceMul, Nat.reduceLT, Nat.reduceLeDiff, Nat.reduceEqDiff, true_and, and_true, true_implies, if_true, if_false, ite_true, reduceIte, ne_eq, not_false_eq_true, reduceCtorEq, forall_const, bne_self_eq_false, Bool.true_eq_false, Bool.false_eq_true, false_implies, and_self, implies_true, Int.toNat_zero, beq_self_eq_true, decide_true, decide_false, Bool.not_true, Bool.not_false, ↓y_call]
    refine ⟨fun hr => ?_, fun hr => ?_⟩
    · refine fin_low hl (.int ..) ⟨rfl, rfl, ?_⟩
      rw [size_mk, if_pos (by simpa using hr)]; rfl
    · have hr' : ¬ r = -1 := by simpa using hr
      rw [size_mk, if_neg hr'] at hsz
      refine aloop (fun i : Nat => St.mk n ([.top, .ptr (n + 1) 1 0, .top, .int .i64 ((1 + ((ks.map size).take i).sum : Nat) : Int), .top, .top, .top, .top, .top, .top, .lst (ks.map treeD), .int .i64 ks.length, .int .i64 i] ++ List.replicate 9 .top) h
        ([blk0, ⟨1, .cells [.int .i64 r, .int .i64 tm, .lst (ks.map treeD)]⟩] ++ List.replicate 20 blk0)) (fun i => i ≤ ks.length) (fun i => ks.length - i) 0 (Nat.zero_le _) ?_ ?_
      · refine le_to ([.hole, .old 1] ++ List.replicate 20 .hole) hl rfl ?_ ?_ <;> ((try simp only [y_blk_end, y_blk_hole, y_blk_nil, y_blk_old, y_wkl_end, y_wkl_top, List.replicate, List.cons_append, List.nil_append, and_true, true_and]) <;> (repeat' (first | apply And.intro | apply y_wkl | refine Exists.intro _ (And.intro rfl ?_))) <;> (try first | exact trivial | exact Wk.top _ | exact wk_int rfl | exact wk_bool rfl | exact wk_ptr rfl rfl rfl rfl | exact wk_ref rfl rfl rfl rfl rfl | exact wk_nil rfl rfl rfl | exact wk_ref rfl rfl rfl rfl (by simp) | exact wk_ref rfl rfl rfl rfl (by simp; omega) | exact wk_old (by assumption) (by simp) | exact wk_eq rfl (by first | exact Bd.int _ _ | exact Bd.bool _ | exact Bd.abool | exact Bd.nils | exact Bd.emp | exact Bd.nilp | exact Bd.nilfn | assumption | exact low_trees _ _ | exact low_treeD _ _ | exact low_ints _ _) | exact Nat.le_refl _ | exact wk_int (by simp) | exact wk_int (by omega) | exact Nat.succ_le_succ (Nat.zero_le _) | exact Nat.le_add_left _ _ | omega))
      · intro i hi
        by_cases hlt : i < ks.length
        · have h1 : (i : Int) < (ks.length : Int) := by omega
          have h0 : (0 : Int) ≤ (i : Int) := by omega
          have hm : ks[i] ∈ ks := List.getElem_mem hlt
          have ih := pure_Size ks[i]
          have e0 := nth_map_tree ks i hlt
          obtain ⟨r', t', k', ek⟩ : ∃ r' t' k', ks[i] = .mk r' t' k' := by cases h : ks[i]; exact ⟨_, _, _, rfl⟩
          rw [ek, treeD_mk] at e0 ih
          simp -implicitDefEqProofs only [↓symPre, symPost, y_condP, y_condG, run, lver, minD, intsD, eqAll, tupD, splice, Nat.zero_add, Nat.add_zero, Nat.zero_mul, Nat.mul_one, Nat.one_mul, Nat.reduceAdd, Nat.reduceSub, Nat.reduceMul, Nat.reduceLT, Nat.reduceLeDiff, Nat.reduceEqDiff, true_and, and_true, true_implies, if_true, if_false, ite_true, reduceIte, ne_eq, not_false_eq_true, reduceCtorEq, forall_const, bne_self_eq_false, Bool.true_eq_false, Bool.false_eq_true, false_implies, and_self, implies_true, Int.toNat_zero, beq_self_eq_true, decide_true, decide_false, Bool.not_true, Bool.not_false, ↓y_call, List.length_map, h1, h0, decide_true, Int.toNat_natCast, e0, forall_eq_or_imp, List.mem_cons, List.not_mem_nil, or_false, forall_eq]
          have hs1 : ((ks.map size).take (i + 1)).sum = ((ks.map size).take i).sum + size ks[i] := by
            rw [sum_take_succ _ i (by simpa using hlt)]; simp
          have hs2 := sum_take_le (ks.map size) (i + 1)
          have hs3 := len_le_sum ks
          rw [ek] at hs1
          refine (ih (by omega)).call rfl ?_
          have w1 : IntKind.i64.wrap ((i : Int) + 1) = ((i + 1 : Nat) : Int) := by rw [IntWalk.i64_in _ (by omega)]; omega
          have w2 : IntKind.i64.wrap (((1 + ((ks.map size).take i).sum : Nat) : Int) + ((size (.mk r' t' k') : Nat) : Int)) = ((1 + ((ks.map size).take (i + 1)).sum : Nat) : Int) := by
            rw [IntWalk.i64_in _ (by omega)]; omega
          simp -implicitDefEqProofs only [↓symPre, symPost, y_condP, y_condG, run, lver, minD, intsD, eqAll, tupD, splice, Nat.zero_add, Nat.add_zero, Nat.zero_mul, Nat.mul_one, Nat.one_mul, Nat.reduceAdd, Nat.reduceSub, Nat.reduceMul, Nat.reduceLT, Nat.reduceLeDiff, Nat.reduceEqDiff, true_and, and_true, true_implies, if_true, if_false, ite_true, reduceIte, ne_eq, not_false_eq_true, reduceCtorEq, forall_const, bne_self_eq_false, Bool.true_eq_false, Bool.false_eq_true, false_implies, and_self, implies_true, Int.toNat_zero, beq_self_eq_true, decide_true, decide_false, Bool.not_true, Bool.not_false, ↓y_call, w1, w2]
          refine ⟨i + 1, by omega, by omega, ?_⟩
          refine le_to ([.hole, .old 1] ++ List.replicate 20 .hole) hl rfl ?_ ?_ <;> ((try simp only [y_blk_end, y_blk_hole, y_blk_nil, y_blk_old, y_wkl_end, y_wkl_top, List.replicate, List.cons_append, List.nil_append, and_true, true_and]) <;> (repeat' (first | apply And.intro | apply y_wkl | refine Exists.intro _ (And.intro rfl ?_))) <;> (try first | exact trivial | exact Wk.top _ | exact wk_int rfl | exact wk_bool rfl | exact wk_ptr rfl rfl rfl rfl | exact wk_ref rfl rfl rfl rfl rfl | exact wk_nil rfl rfl rfl | exact wk_ref rfl rfl rfl rfl (by simp) | exact wk_ref rfl rfl rfl rfl (by simp; omega) | exact wk_old (by assumption) (by simp) | exact wk_eq rfl (by first | exact Bd.int _ _ | exact Bd.bool _ | exact Bd.abool | exact Bd.nils | exact Bd.emp | exact Bd.nilp | exact Bd.nilfn | assumption | exact low_trees _ _ | exact low_treeD _ _ | exact low_ints _ _) | exact Nat.le_refl _ | exact wk_int (by simp) | exact wk_int (by omega) | exact Nat.succ_le_succ (Nat.zero_le _) | exact Nat.le_add_left _ _ | omega))
        · have h1 : ¬ (i : Int) < (ks.length : Int) := by omega
          simp -implicitDefEqProofs only [↓symPre, symPost, y_condP, y_condG, run, lver, minD, intsD, eqAll, tupD, splice, Nat.zero_add, Nat.add_zero, Nat.zero_mul, Nat.mul_one, Nat.one_mul, Nat.reduceAdd, Nat.reduceSub, Nat.reduceMul, Nat.reduceLT, Nat.reduceLeDiff, Nat.reduceEqDiff, true_and, and_true, true_implies, if_true, if_false, ite_true, reduceIte, ne_eq, not_false_eq_true, reduceCtorEq, forall_const, bne_self_eq_false, Bool.true_eq_false, Bool.false_eq_true, false_implies, and_self, implies_true, Int.toNat_zero, beq_self_eq_true, decide_true, decide_false, Bool.not_true, Bool.not_false, ↓y_call, List.length_map, h1, decide_false]
          have : i = ks.length := by omega
          subst this
          refine fin_low hl (.int ..) ⟨rfl, rfl, ?_⟩
          rw [size_mk, if_neg hr', ← List.length_map (f := size), List.take_length]
          rfl
termination_by t => t
def cmpI (a b : Int) : Int := if a < b then -1 else if a > b then 1 else 0

theorem pure_isNaN (a : Int) : Pure prog F_cmp_isNaN_int [.int .i64 a] (.bool false) := by
  intro n h
  refine K_cmp_isNaN_int.calls fun hl => ?_
  unfold C_cmp_isNaN_int
  simp -implicitDefEqProofs only [↓symPre, symPost, y_condP, y_condG, run, lver, minD, intsD, eqAll, tupD, splice, Nat.zero_add, Nat.add_zero, Nat.zero_mul, Nat.mul_one, Nat.one_mul, Nat.reduceAdd, Nat.reduceSub, Nat.reduceMul, Nat.reduceLT, Nat.reduceLeDiff, Nat.reduceEqDiff, true_and, and_true, true_implies, if_true, if_false, ite_true, reduceIte, ne_eq, not_false_eq_true, reduceCtorEq, forall_const, bne_self_eq_false, Bool.true_eq_false, Bool.false_eq_true, false_implies, and_self, implies_true, Int.toNat_zero, beq_self_eq_true, decide_true, decide_false, Bool.not_true, Bool.not_false]
  exact fin_low hl (.bool _) ⟨rfl, rfl, rfl⟩

theorem pure_cmp (a b : Int) : Pure prog F_cmp_Compare_int [.int .i64 a, .int .i64 b] (.int .i64 (cmpI a b)) := by
  intro n h
  refine K_cmp_Compare_int.calls fun hl => ?_
  unfold C_cmp_Compare_int
  simp -implicitDefEqProofs only [↓symPre, symPost, y_condP, y_condG, run, lver, minD, intsD, eqAll, tupD, splice, Nat.zero_add, Nat.add_zero, Nat.zero_mul, Nat.mul_one, Nat.one_mul, Nat.reduceAdd, Nat.reduceSub, Nat.reduceMul, Nat.reduceLT, Nat.reduceLeDiff, Nat.reduceEqDiff, true_and, and_true, true_implies, if_true, if_false, ite_true, reduceIte, ne_eq, not_false_eq_true, reduceCtorEq, forall_const, bne_self_eq_false, Bool.true_eq_false, Bool.false_eq_true, false_implies, and_self, implies_true, Int.toNat_zero, beq_self_eq_true, decide_true, decide_false, Bool.not_true, Bool.not_false, ↓y_call]
  refine (pure_isNaN a).call rfl ?_
  simp -implicitDefEqProofs only [↓symPre, symPost, y_condP, y_condG, run, lver, minD, intsD, eqAll, tupD, splice, Nat.zero_add, Nat.add_zero, Nat.zero_mul, Nat.mul_one, Nat.one_mul, Nat.reduceAdd, Nat.reduceSub, Nat.reduceMul, Nat.reduceLT, Nat.reduceLeDiff, Nat.reduceEqDiff, true_and, and_true, true_implies, if_true, if_false, ite_true, reduceIte, ne_eq, not_false_eq_true, reduceCtorEq, forall_const, bne_self_eq_false, Bool.true_eq_false, Bool.false_eq_true, false_implies, and_self, implies_true, Int.toNat_zero, beq_self_eq_true, decide_true, decide_false, Bool.not_true, Bool.not_false, ↓y_call]
  refine (pure_isNaN b).call rfl ?_
  simp -implicitDefEqProofs only [↓symPre, symPost, y_condP, y_condG, run, lver, minD, intsD, eqAll, tupD, splice, Nat.zero_add, Nat.add_zero, Nat.zero_mul, Nat.mul_one, Nat.one_mul, Nat.reduceAdd, Nat.reduceSub, Nat.reduceMul, Nat.reduceLT, Nat.reduceLeDiff, Nat.reduceEqDiff, true_and, and_true, true_implies, if_true, if_false, ite_true, reduceIte, ne_eq, not_false_eq_true, reduceCtorEq, forall_const, bne_self_eq_false, Bool.true_eq_false, Bool.false_eq_true, false_implies, and_self, implies_true, Int.toNat_zero, beq_self_eq_true, decide_true, decide_false, Bool.not_true, Bool.not_false, ↓y_call]
  refine ⟨fun h1 => ?_, fun h1 => ⟨fun h2 => ?_, fun h2 => ?_⟩⟩
  · refine fin_int hl ?_
    simp [cmpI, of_decide_eq_true h1]
  · refine fin_int hl ?_
    have h1 := of_decide_eq_false h1
    have h2 := of_decide_eq_true h2
    simp [cmpI, h1, h2]
  · refine fin_int hl ?_
    have h1 := of_decide_eq_false h1
    have h2 := of_decide_eq_false h2
    simp [cmpI, h1, h2]

theorem nth_ints (l : List Int) (i : Nat) (hi : i < l.length) : nth (l.map (D.int .i64)) i = .int .i64 l[i] := by
  simp [nth, List.getD, hi]

theorem flat_take_succ {α β : Type} (f : α → List β) : ∀ (ks : List α) (i : Nat) (hi : i < ks.length), ((ks.map f).take (i + 1)).flatten = ((ks.map f).take i).flatten ++ f ks[i]
  | [], i, hi => by simp at hi
  | a :: l, 0, hi => by simp
  | a :: l, i + 1, hi => by
    have := flat_take_succ f l i (by simpa using hi)
    simp only [List.map_cons, List.take_succ_cons, List.flatten_cons, List.getElem_cons_succ, this, List.append_assoc]

theorem flat_take_le {α : Type} : ∀ (ls : List (List α)) (i : Nat), (ls.take i).flatten.length ≤ ls.flatten.length
  | [], i => by simp
  | a :: l, 0 => by simp
  | a :: l, i + 1 => by
    have := flat_take_le l i
    simp only [List.take_succ_cons, List.flatten_cons, List.length_append]
    omega

def nodesL : Tree → List Tree
  | .mk r t ks => .mk r t ks :: (if r = -1 then [] else (ks.map nodesL).flatten)
theorem nodesL_mk (r t : Int) (ks : List Tree) : nodesL (.mk r t ks) = .mk r t ks :: (if r = -1 then [] else (ks.map nodesL).flatten) := by rw [nodesL]

theorem nodesL_len : ∀ t : Tree, (nodesL t).length = size t
  | .mk r t ks => by
    rw [nodesL_mk, size_mk]
    split
    · rfl
    · have : ∀ l : List Tree, (∀ k ∈ l, k ∈ ks) → ((l.map nodesL).flatten).length = (l.map size).sum := by
        intro l hl
        induction l with
        | nil => rfl
        | cons k l ih =>
          have hk : k ∈ ks := hl k (by simp)
          simp only [List.map_cons, List.flatten_cons, List.length_append, List.sum_cons]
          rw [ih fun k hk => hl k (by simp [hk]), nodesL_len k]
      rw [List.length_cons, this ks fun _ h => h]; omega

def cellsT (ts : List Tree) : List D := (ts.map treeD).flatMap D.cells
theorem cellsT_nil : cellsT [] = [] := rfl
theorem cellsT_app (a b : List Tree) : cellsT (a ++ b) = cellsT a ++ cellsT b := by simp [cellsT]
theorem cellsT_one (r t : Int) (ks : List Tree) : cellsT [.mk r t ks] = [.int .i64 r, .int .i64 t, .lst (ks.map treeD)] := by
  simp only [cellsT, List.map_cons, List.map_nil, treeD_mk, List.flatMap_cons, List.flatMap_nil, List.append_nil]; rfl
theorem cellsT_len : ∀ ts : List Tree, (cellsT ts).length = ts.length * 3
  | [] => rfl
  | t :: ts => by
    have := cellsT_len ts
    have h3 := treeD_cells t
    simp only [cellsT, List.map_cons, List.flatMap_cons, List.length_append, List.length_cons] at this ⊢
    omega
theorem low_cellsT (n : Nat) (ts : List Tree) : ∀ c ∈ cellsT ts, Low n c := by
  intro c hc
  simp only [cellsT, List.mem_flatMap, List.mem_map] at hc
  obtain ⟨d, ⟨t, ht, rfl⟩, hc⟩ := hc
  exact (low_treeD n t).cells c hc

theorem wkl_low {n : Nat} {lc lc' : List Blk} {g : List Src1} {cs cs' : List D} (e : cs = cs') (h : ∀ c ∈ cs, Low n c) : WkL ⟨n, lc, g, lc'⟩ cs cs' := e ▸ WkL.low h

theorem cellsT_get : ∀ (O : List Tree) (i j : Nat) (x : Tree) (e : D), O[i]? = some x → (treeD x).cells[j]? = some e → (cellsT O)[i * 3 + j]? = some e
  | [], i, j, x, e, h, _ => by simp at h
  | a :: O, 0, j, x, e, h, he => by
    simp only [List.getElem?_cons_zero, Option.some.injEq] at h
    subst h
    have hj : j < (treeD a).cells.length := (List.getElem?_eq_some_iff.1 he).1
    simp only [cellsT, List.map_cons, List.flatMap_cons, Nat.zero_mul, Nat.zero_add]
    rw [List.getElem?_append_left hj]; exact he
  | a :: O, i + 1, j, x, e, h, he => by
    have := cellsT_get O i j x e (by simpa using h) he
    have h3 := treeD_cells a
    simp only [cellsT, List.map_cons, List.flatMap_cons] at this ⊢
    rw [List.getElem?_append_right (by omega), show (i + 1) * 3 + j - (treeD a).cells.length = i * 3 + j by omega]
    exact this

theorem wk_frzT {n : Nat} {lc : List Blk} {t ver : Nat} {O : List Tree} (hb : lc[t]? = some ⟨ver, .cells (cellsT O)⟩) : Wk ⟨n, lc, [], []⟩ (.ref 3 (n + t) ver 0 O.length) (.lst (O.map treeD)) := by
  refine .frz 3 t ver 0 O.length (cellsT O) _ hb (by simp) (by simp) (by rw [cellsT_len]; omega) (fun d hd => ?_) fun i d hd j e he => ?_
  · obtain ⟨x, _, rfl⟩ := List.mem_map.1 hd; exact treeD_cells x
  · simp only [List.getElem?_map, Option.map_eq_some_iff] at hd
    obtain ⟨x, hx, rfl⟩ := hd
    have := cellsT_get O i j x e hx he
    have e1 : nth (cellsT O) (0 + i * 3 + j) = e := by simp [nth, List.getD, this]
    rw [e1]
    exact .low _ ((low_treeD n x).cells e (List.mem_of_getElem? he))

theorem nodes_pos (T : List Tree) : T.length ≤ ((T.map nodesL).flatten).length := by
  induction T with
  | nil => simp
  | cons t T ih => have := nodesL_len t; have := size_pos t; simp only [List.map_cons, List.flatten_cons, List.length_append, List.length_cons]; omega

theorem pure_Nodes (t : Tree) (hsz : size t * 40 ≤ 140737488355328) : Pure prog F_parlref4_Nodes [treeD t] (.lst ((nodesL t).map treeD)) := by
  intro n h
  obtain ⟨r0, t0, k0, rfl⟩ : ∃ r t' k, t = .mk r t' k := by cases t; exact ⟨_, _, _, rfl⟩
  rw [treeD_mk]
  refine K_parlref4_Nodes.calls fun hl => ?_
  unfold C_parlref4_Nodes
  simp -implicitDefEqProofs only [↓symPre, symPost, y_condP, y_condG, run, lver, minD, intsD, eqAll, tupD, splice, Nat.zero_add, Nat.add_zero, Nat.zero_mul, Nat.mul_one, Nat.one_mul, Nat.reduceAdd, Nat.reduceSub, Nat.reduceMul, Nat.reduceLT, Nat.reduceLeDiff, Nat.reduceEqDiff, true_and, and_true, true_implies, if_true, if_false, ite_true, reduceIte, ne_eq, not_false_eq_true, reduceCtorEq, forall_const, bne_self_eq_false, Bool.true_eq_false, Bool.false_eq_true, false_implies, and_self, implies_true, Int.toNat_zero, beq_self_eq_true, decide_true, decide_false, Bool.not_true, Bool.not_false, ↓y_call]
  refine aloop (fun p : List Tree × List Tree × List D × Nat × Nat => St.mk n ([.top, .top, .top, .ref 3 (n + 8) p.2.2.2.1 0 p.1.length, .ref 3 (n + 26) p.2.2.2.2 0 p.2.1.length] ++ List.replicate 42 .top) h
      (List.replicate 8 blk0 ++ [⟨p.2.2.2.1, .cells (cellsT p.1 ++ p.2.2.1)⟩] ++ List.replicate 17 blk0 ++ [⟨p.2.2.2.2, .cells (cellsT p.2.1)⟩] ++ List.replicate 20 blk0))
    (fun p => nodesL (.mk r0 t0 k0) = p.2.1 ++ (p.1.reverse.map nodesL).flatten ∧ (∀ c ∈ p.2.2.1, Low n c) ∧ 1 ≤ p.2.2.2.1 ∧ 1 ≤ p.2.2.2.2)
    (fun p => ((p.1.reverse.map nodesL).flatten).length) ([.mk r0 t0 k0], [], [], 1, 1) ⟨by simp, by simp, Nat.le_refl _, Nat.le_refl _⟩ ?_ ?_
  · refine le_to (List.replicate 8 .hole ++ [.old 8] ++ List.replicate 17 .hole ++ [.nil] ++ List.replicate 20 .hole) hl rfl ?_ ?_ <;> simp only [cellsT_one, cellsT_nil, List.append_nil] <;> ((try simp only [y_blk_end, y_blk_hole, y_blk_nil, y_blk_old, y_wkl_end, y_wkl_top, List.replicate, List.cons_append, List.nil_append, and_true, true_and]) <;> (repeat' (first | apply And.intro | apply y_wkl | refine Exists.intro _ (And.intro rfl ?_))) <;> (try first | exact trivial | exact Wk.top _ | exact wk_int rfl | exact wk_bool rfl | exact wk_ptr rfl rfl rfl rfl | exact wk_ref rfl rfl rfl rfl rfl | exact wk_nil rfl rfl rfl | exact wk_ref rfl rfl rfl rfl (by simp) | exact wk_ref rfl rfl rfl rfl (by simp; omega) | exact wk_old (by assumption) (by simp) | exact wk_eq rfl (by first | exact Bd.int _ _ | exact Bd.bool _ | exact Bd.abool | exact Bd.nils | exact Bd.emp | exact Bd.nilp | exact Bd.nilfn | assumption | exact low_trees _ _ | exact low_treeD _ _ | exact low_ints _ _) | exact Nat.le_refl _ | exact wk_int (by simp) | exact wk_int (by omega) | exact Nat.succ_le_succ (Nat.zero_le _) | exact Nat.le_add_left _ _ | omega))
  · rintro ⟨T, O, J, v, u⟩ ⟨hI, hJ, hv, hu⟩
    simp only at hI hJ hv hu
    have htot := nodesL_len (.mk r0 t0 k0)
    rcases List.eq_nil_or_concat T with rfl | ⟨T', x, rfl⟩
    · have hg : decide (((0 : Nat) : Int) > 0) = false := rfl
      simp -implicitDefEqProofs only [↓symPre, symPost, y_condP, y_condG, run, lver, minD, intsD, eqAll, tupD, splice, Nat.zero_add, Nat.add_zero, Nat.zero_mul, Nat.mul_one, Nat.one_mul, Nat.reduceAdd, Nat.reduceSub, Nat.reduceMul, Nat.reduceLT, Nat.reduceLeDiff, Nat.reduceEqDiff, true_and, and_true, true_implies, if_true, if_false, ite_true, reduceIte, ne_eq, not_false_eq_true, reduceCtorEq, forall_const, bne_self_eq_false, Bool.true_eq_false, Bool.false_eq_true, false_implies, and_self, implies_true, Int.toNat_zero, beq_self_eq_true, decide_true, decide_false, Bool.not_true, Bool.not_false, ↓y_call, hg]
      have hO : nodesL (.mk r0 t0 k0) = O := by rw [hI]; simp
      exact fin_wk hl (wk_frzT rfl) ⟨rfl, rfl, by rw [hO]⟩
    · obtain ⟨r, tm, ks, rfl⟩ : ∃ r t' k, x = .mk r t' k := by cases x; exact ⟨_, _, _, rfl⟩
      obtain ⟨C, hC⟩ : ∃ C, C = cellsT (T'.concat (.mk r tm ks)) ++ J := ⟨_, rfl⟩
      obtain ⟨E, hE⟩ : ∃ E, E = cellsT O := ⟨_, rfl⟩
      have hC' : C = cellsT T' ++ ([.int .i64 r, .int .i64 tm, .lst (ks.map treeD)] ++ J) := by
        rw [hC, List.concat_eq_append, cellsT_app, cellsT_one, List.append_assoc]
      have hCl : C.length = T'.length * 3 + 3 + J.length := by rw [hC']; simp [cellsT_len]; omega
      have hEl : E.length = O.length * 3 := by rw [hE, cellsT_len]
      have hld : (C.drop (T'.length * 3)).take 3 = [.int .i64 r, .int .i64 tm, .lst (ks.map treeD)] := by
        rw [hC', ← cellsT_len, List.drop_left]; rfl
      have hll : T'.length * 3 + 3 ≤ C.length := by omega
      have hEt : E.take (O.length * 3) = E := by rw [← hEl, List.take_length]
      have hEt' : O.length * 3 ≤ E.length := by omega
      have hlen := congrArg List.length hI
      have hpos := nodes_pos (T'.concat (.mk r tm ks)).reverse
      simp only [List.length_append, List.length_reverse, List.length_concat] at hlen hpos
      have hT1 : (T'.concat (.mk r tm ks)).length = T'.length + 1 := by simp
      have hg : decide (((T'.length + 1 : Nat) : Int) > 0) = true := decide_eq_true (by omega)
      have w1 : IntKind.i64.wrap (((T'.length + 1 : Nat) : Int) - 1) = (T'.length : Int) := by rw [IntWalk.i64_in _ (by omega)]; omega
      have h0 : (0 : Int) ≤ (T'.length : Int) := by omega
      have h1 : (T'.length : Int) < ((T'.length + 1 : Nat) : Int) := by omega
      have h2 : (T'.length : Int) ≤ ((T'.length + 1 : Nat) : Int) := by omega
      have hf : (O.length + 1) * 40 ≤ 140737488355328 := by omega
      rw [← hC, ← hE, hT1]
      simp -implicitDefEqProofs only [↓symPre, symPost, y_condP, y_condG, run, lver, minD, intsD, eqAll, tupD, splice, Nat.zero_add, Nat.add_zero, Nat.zero_mul, Nat.mul_one, Nat.one_mul, Nat.reduceAdd, Nat.reduceSub, Nat.reduceMul, Nat.reduceLT, Nat.reduceLeDiff, Nat.reduceEqDiff, true_and, and_true, true_implies, if_true, if_false, ite_true, reduceIte, ne_eq, not_false_eq_true, reduceCtorEq, forall_const, bne_self_eq_false, Bool.true_eq_false, Bool.false_eq_true, false_implies, and_self, implies_true, Int.toNat_zero, beq_self_eq_true, decide_true, decide_false, Bool.not_true, Bool.not_false, ↓y_call, hg, w1, h0, h1, h2, hld, hll, hEt, hEt', hf, srcOf, Int.toNat_natCast, Nat.sub_zero]
      have hx : ∀ c ∈ [D.int .i64 r, .int .i64 tm, .lst (ks.map treeD)], Low n c := by rw [← cellsT_one]; exact low_cellsT n _
      have hlC : ∀ c ∈ C, Low n c := by
        rw [hC']; intro c hc
        rcases List.mem_append.1 hc with hc | hc
        · exact low_cellsT n _ c hc
        · rcases List.mem_append.1 hc with hc | hc
          · exact hx c hc
          · exact hJ c hc
      have hE2 : E ++ [D.int .i64 r, .int .i64 tm, .lst (ks.map treeD)] = cellsT (O ++ [.mk r tm ks]) := by rw [cellsT_app, cellsT_one, hE]
      have hlE2 : ∀ c ∈ E ++ [D.int .i64 r, .int .i64 tm, .lst (ks.map treeD)], Low n c := by rw [hE2]; exact low_cellsT n _
      have hJ2 : ∀ c ∈ [D.int .i64 r, .int .i64 tm, .lst (ks.map treeD)] ++ J, Low n c := fun c hc => (List.mem_append.1 hc).elim (hx c) (hJ c)
      refine ⟨fun hr => ?_, fun hr => ?_⟩
      · have hr' : r = -1 := by simpa using hr
        refine ⟨(T', O ++ [.mk r tm ks], [.int .i64 r, .int .i64 tm, .lst (ks.map treeD)] ++ J, v, u + 1), ⟨?_, hJ2, hv, by simp only; omega⟩, ?_, ?_⟩
        · rw [hI]; simp [nodesL_mk, hr']
        · simp [nodesL_mk, hr']
        · refine le_to (List.replicate 8 .hole ++ [.old 8] ++ List.replicate 17 .hole ++ [.old 26] ++ List.replicate 20 .hole) hl rfl ?_ ?_ <;> ((try simp only [y_blk_end, y_blk_hole, y_blk_nil, y_blk_old, y_wkl_end, y_wkl_top, List.replicate, List.cons_append, List.nil_append, and_true, true_and]) <;> (repeat' (first | apply And.intro | apply y_wkl | refine Exists.intro _ (And.intro rfl ?_))) <;> (try first | exact trivial | exact Wk.top _ | exact wk_int rfl | exact wk_bool rfl | exact wk_ptr rfl rfl rfl rfl | exact wk_ref rfl rfl rfl rfl rfl | exact wk_nil rfl rfl rfl | exact wk_ref rfl rfl rfl rfl (by simp) | exact wk_ref rfl rfl rfl rfl (by simp; omega) | exact wk_old (by assumption) (by simp) | exact wk_eq rfl (by first | exact Bd.int _ _ | exact Bd.bool _ | exact Bd.abool | exact Bd.nils | exact Bd.emp | exact Bd.nilp | exact Bd.nilfn | assumption | exact low_trees _ _ | exact low_treeD _ _ | exact low_ints _ _) | exact Nat.le_refl _ | exact wk_int (by simp) | exact wk_int (by omega) | exact Nat.succ_le_succ (Nat.zero_le _) | exact Nat.le_add_left _ _ | omega))
          · exact wkl_low hC' hlC
          · exact wkl_low hE2 hlE2
      · have hr' : ¬ r = -1 := by simpa using hr
        have hnx : (nodesL (.mk r tm ks)).length = 1 + (ks.map nodesL).flatten.length := by rw [nodesL_mk, if_neg hr', List.length_cons]; omega
        have hkp := nodes_pos ks
        have hrem : ((T'.concat (.mk r tm ks)).reverse.map nodesL).flatten = nodesL (.mk r tm ks) ++ (T'.reverse.map nodesL).flatten := by simp
        have hremT : T'.length ≤ ((T'.reverse.map nodesL).flatten).length := by have := nodes_pos T'.reverse; simpa using this
        have hrl := congrArg List.length hrem
        rw [List.length_append] at hrl
        have w2 : IntKind.i64.wrap ((ks.length : Int) - 1) = (ks.length : Int) - 1 := by rw [IntWalk.i64_in _ (by omega)]
        simp only [List.length_map, w2]
        refine aloop (fun p : Nat × Nat × List D => St.mk n ([.top, .top, .top, .ref 3 (n + 8) p.2.1 0 (T' ++ (ks.drop p.1).reverse).length, .ref 3 (n + 26) (u + 1) 0 (O.length + 1), .ptr (n + 5) 1 0, .int .i64 ((p.1 : Int) - 1)] ++ List.replicate 40 .top) h
            (List.replicate 5 blk0 ++ [⟨1, .cells [.int .i64 r, .int .i64 tm, .lst (ks.map treeD)]⟩] ++ List.replicate 2 blk0 ++ [⟨p.2.1, .cells (cellsT (T' ++ (ks.drop p.1).reverse) ++ p.2.2)⟩] ++ List.replicate 17 blk0 ++ [⟨u + 1, .cells (E ++ [.int .i64 r, .int .i64 tm, .lst (ks.map treeD)])⟩] ++ List.replicate 20 blk0))
          (fun p => p.1 ≤ ks.length ∧ (∀ c ∈ p.2.2, Low n c) ∧ 1 ≤ p.2.1) (fun p => p.1) (ks.length, v, [.int .i64 r, .int .i64 tm, .lst (ks.map treeD)] ++ J) ⟨Nat.le_refl _, hJ2, hv⟩ ?_ ?_
        · refine le_to (List.replicate 5 .hole ++ [.old 5] ++ List.replicate 2 .hole ++ [.old 8] ++ List.replicate 17 .hole ++ [.old 26] ++ List.replicate 20 .hole) hl rfl ?_ ?_ <;> simp only [List.drop_length, List.reverse_nil, List.append_nil] <;> ((try simp only [y_blk_end, y_blk_hole, y_blk_nil, y_blk_old, y_wkl_end, y_wkl_top, List.replicate, List.cons_append, List.nil_append, and_true, true_and]) <;> (repeat' (first | apply And.intro | apply y_wkl | refine Exists.intro _ (And.intro rfl ?_))) <;> (try first | exact trivial | exact Wk.top _ | exact wk_int rfl | exact wk_bool rfl | exact wk_ptr rfl rfl rfl rfl | exact wk_ref rfl rfl rfl rfl rfl | exact wk_nil rfl rfl rfl | exact wk_ref rfl rfl rfl rfl (by simp) | exact wk_ref rfl rfl rfl rfl (by simp; omega) | exact wk_old (by assumption) (by simp) | exact wk_eq rfl (by first | exact Bd.int _ _ | exact Bd.bool _ | exact Bd.abool | exact Bd.nils | exact Bd.emp | exact Bd.nilp | exact Bd.nilfn | assumption | exact low_trees _ _ | exact low_treeD _ _ | exact low_ints _ _) | exact Nat.le_refl _ | exact wk_int (by simp) | exact wk_int (by omega) | exact Nat.succ_le_succ (Nat.zero_le _) | exact Nat.le_add_left _ _ | omega))
          · exact wkl_low hC' hlC
          · exact WkL.low hlE2
        · rintro ⟨j, w, J2⟩ ⟨hj, hJ3, hw⟩
          simp only at hj hJ3 hw
          have hlD : ∀ c ∈ cellsT (T' ++ (ks.drop j).reverse) ++ J2, Low n c := fun c hc => (List.mem_append.1 hc).elim (low_cellsT n _ c) (hJ3 c)
          cases j with
          | zero =>
            have hg : decide (((0 : Nat) : Int) - 1 ≥ 0) = false := rfl
            simp -implicitDefEqProofs only [↓symPre, symPost, y_condP, y_condG, run, lver, minD, intsD, eqAll, tupD, splice, Nat.zero_add, Nat.add_zero, Nat.zero_mul, Nat.mul_one, Nat.one_mul, Nat.reduceAdd, Nat.reduceSub, Nat.reduceMul, Nat.reduceLT, Nat.reduceLeDiff, Nat.reduceEqDiff, true_and, and_true, true_implies, if_true, if_false, ite_true, reduceIte, ne_eq, not_false_eq_true, reduceCtorEq, forall_const, bne_self_eq_false, Bool.true_eq_false, Bool.false_eq_true, false_implies, and_self, implies_true, Int.toNat_zero, beq_self_eq_true, decide_true, decide_false, Bool.not_true, Bool.not_false, ↓y_call, hg]
            refine ⟨(T' ++ ks.reverse, O ++ [.mk r tm ks], J2, w, u + 1), ⟨?_, hJ3, hw, by simp only; omega⟩, ?_, ?_⟩
            · rw [hI]; simp [nodesL_mk, hr']
            · simp only [hrem, List.length_append, hnx, List.reverse_append, List.reverse_reverse, List.map_append, List.flatten_append]; omega
            · refine le_to (List.replicate 8 .hole ++ [.old 8] ++ List.replicate 17 .hole ++ [.old 26] ++ List.replicate 20 .hole) hl rfl ?_ ?_ <;> ((try simp only [y_blk_end, y_blk_hole, y_blk_nil, y_blk_old, y_wkl_end, y_wkl_top, List.replicate, List.cons_append, List.nil_append, and_true, true_and]) <;> (repeat' (first | apply And.intro | apply y_wkl | refine Exists.intro _ (And.intro rfl ?_))) <;> (try first | exact trivial | exact Wk.top _ | exact wk_int rfl | exact wk_bool rfl | exact wk_ptr rfl rfl rfl rfl | exact wk_ref rfl rfl rfl rfl rfl | exact wk_nil rfl rfl rfl | exact wk_ref rfl rfl rfl rfl (by simp) | exact wk_ref rfl rfl rfl rfl (by simp; omega) | exact wk_old (by assumption) (by simp) | exact wk_eq rfl (by first | exact Bd.int _ _ | exact Bd.bool _ | exact Bd.abool | exact Bd.nils | exact Bd.emp | exact Bd.nilp | exact Bd.nilfn | assumption | exact low_trees _ _ | exact low_treeD _ _ | exact low_ints _ _) | exact Nat.le_refl _ | exact wk_int (by simp) | exact wk_int (by omega) | exact Nat.succ_le_succ (Nat.zero_le _) | exact Nat.le_add_left _ _ | omega))
              · exact wkl_low (by simp) hlD
              · exact wkl_low hE2 hlE2
          | succ j =>
            have hlt : j < ks.length := by omega
            have e0 := nth_map_tree ks j hlt
            obtain ⟨r', t', k', ek⟩ : ∃ r' t' k', ks[j] = .mk r' t' k' := by cases h : ks[j]; exact ⟨_, _, _, rfl⟩
            rw [ek, treeD_mk] at e0
            have hjj : (((j + 1 : Nat) : Int) - 1) = (j : Int) := by omega
            have hg : decide ((j : Int) ≥ 0) = true := decide_eq_true (by omega)
            have q0 : (0 : Int) ≤ (j : Int) := by omega
            have q1 : (j : Int) < (ks.length : Int) := by omega
            have w3 : IntKind.i64.wrap ((j : Int) - 1) = (j : Int) - 1 := by rw [IntWalk.i64_in _ (by omega)]
            have hdr : (ks.drop j).reverse = (ks.drop (j + 1)).reverse ++ [.mk r' t' k'] := by rw [List.drop_eq_getElem_cons hlt, ek]; simp
            have hTl : (T' ++ (ks.drop (j + 1)).reverse).length ≤ T'.length + ks.length := by simp <;> omega
            generalize hTd : T' ++ (ks.drop (j + 1)).reverse = TT at *
            have hCC : TT.length * 3 ≤ (cellsT TT ++ J2).length := by simp [cellsT_len]
            have hCt : (cellsT TT ++ J2).take (TT.length * 3) = cellsT TT := by rw [← cellsT_len, List.take_left]
            have hf2 : (TT.length + 1) * 40 ≤ 140737488355328 := by omega
            simp -implicitDefEqProofs only [↓symPre, symPost, y_condP, y_condG, run, lver, minD, intsD, eqAll, tupD, splice, Nat.zero_add, Nat.add_zero, Nat.zero_mul, Nat.mul_one, Nat.one_mul, Nat.reduceAdd, Nat.reduceSub, Nat.reduceMul, Nat.reduceLT, Nat.reduceLeDiff, Nat.reduceEqDiff, true_and, and_true, true_implies, if_true, if_false, ite_true, reduceIte, ne_eq, not_false_eq_true, reduceCtorEq, forall_const, bne_self_eq_false, Bool.true_eq_false, Bool.false_eq_true, false_implies, and_self, implies_true, Int.toNat_zero, beq_self_eq_true, decide_true, decide_false, Bool.not_true, Bool.not_false, ↓y_call, hjj, hg, q0, q1, e0, hCC, hCt, hf2, srcOf, Int.toNat_natCast, List.length_map, w3]
            refine ⟨(j, w + 1, []), ⟨by simp only; omega, by simp, by simp only; omega⟩, by simp only; omega, ?_⟩
            refine le_to (List.replicate 5 .hole ++ [.old 5] ++ List.replicate 2 .hole ++ [.old 8] ++ List.replicate 17 .hole ++ [.old 26] ++ List.replicate 20 .hole) hl rfl ?_ ?_ <;> simp only [hdr, ← List.append_assoc, hTd] <;> ((try simp only [y_blk_end, y_blk_hole, y_blk_nil, y_blk_old, y_wkl_end, y_wkl_top, List.replicate, List.cons_append, List.nil_append, and_true, true_and]) <;> (repeat' (first | apply And.intro | apply y_wkl | refine Exists.intro _ (And.intro rfl ?_))) <;> (try first | exact trivial | exact Wk.top _ | exact wk_int rfl | exact wk_bool rfl | exact wk_ptr rfl rfl rfl rfl | exact wk_ref rfl rfl rfl rfl rfl | exact wk_nil rfl rfl rfl | exact wk_ref rfl rfl rfl rfl (by simp) | exact wk_ref rfl rfl rfl rfl (by simp; omega) | exact wk_old (by assumption) (by simp) | exact wk_eq rfl (by first | exact Bd.int _ _ | exact Bd.bool _ | exact Bd.abool | exact Bd.nils | exact Bd.emp | exact Bd.nilp | exact Bd.nilfn | assumption | exact low_trees _ _ | exact low_treeD _ _ | exact low_ints _ _) | exact Nat.le_refl _ | exact wk_int (by simp) | exact wk_int (by omega) | exact Nat.succ_le_succ (Nat.zero_le _) | exact Nat.le_add_left _ _ | omega))
            · refine wkl_low (by rw [cellsT_app, cellsT_one, List.append_nil]) fun c hc => ?_
              rcases List.mem_append.1 hc with hc | hc
              · exact low_cellsT n _ c hc
              · exact low_cellsT n [.mk r' t' k'] c (by rw [cellsT_one]; exact hc)
            · exact WkL.low hlE2
def leafU : Tree := .mk (-1) 0 []

def twoT : Tree := .mk 0 0 [.mk 1 0 [leafU], leafU]

theorem treeD_leafU : treeD leafU = .agg [.int .i64 (-1), .int .i64 0, .lst []] := by rw [leafU, treeD_mk]; rfl

theorem treeD_two : treeD twoT = .agg [.int .i64 0, .int .i64 0, .lst [.agg [.int .i64 1, .int .i64 0, .lst [.agg [.int .i64 (-1), .int .i64 0, .lst []]]], .agg [.int .i64 (-1), .int .i64 0, .lst []]]] := by
  rw [twoT, treeD_mk]
  simp only [List.map_cons, List.map_nil, treeD_mk, treeD_leafU]

theorem pure_two : Pure prog F_parllaw4_two [] (treeD twoT) := by
  intro n h
  refine K_parllaw4_two.calls fun hl => ?_
  unfold C_parllaw4_two
  simp -implicitDefEqProofs only [↓symPre, symPost, y_condP, y_condG, run, lver, minD, intsD, eqAll, tupD, splice, Nat.zero_add, Nat.add_zero, Nat.zero_mul, Nat.mul_one, Nat.one_mul, Nat.reduceAdd, Nat.reduceSub, Nat.reduceMul, Nat.reduceLT, Nat.reduceLeDiff, Nat.reduceEqDiff, true_and, and_true, true_implies, if_true, if_false, ite_true, reduceIte, ne_eq, not_false_eq_true, reduceCtorEq, forall_const, bne_self_eq_false, Bool.true_eq_false, Bool.false_eq_true, false_implies, and_self, implies_true, Int.toNat_zero, beq_self_eq_true, decide_true, decide_false, Bool.not_true, Bool.not_false, ↓y_call, List.length_append]
  refine fin_wk (d := treeD twoT) hl ?_ ⟨rfl, rfl, rfl⟩
  rw [treeD_two]
  have hleaf : ∀ {X : Wx} (j : Nat) (e : D), (D.agg [.int .i64 (-1), .int .i64 0, .lst []]).cells[j]? = some e → Wk X (nth [.int .i64 (-1), .int .i64 0, .nils] j) e := by
    intro X j e he
    rcases j with _ | _ | _ | j
    · simp [D.cells] at he; subst he; exact .low _ (.int ..)
    · simp [D.cells] at he; subst he; exact .low _ (.int ..)
    · simp [D.cells] at he; subst he; exact .nilsLst
    · simp [D.cells] at he
  refine .agg _ _ rfl fun i c c' hc hc' => ?_
  rcases i with _ | _ | _ | i
  · simp at hc hc'; subst hc; subst hc'; exact .low _ (.int ..)
  · simp at hc hc'; subst hc; subst hc'; exact .low _ (.int ..)
  · simp at hc hc'; subst hc; subst hc'
    refine .frz 3 7 1 0 2 _ _ rfl (by simp) rfl (Nat.le_of_ble_eq_true rfl) (by simp [D.cells]) fun i d hd j e he => ?_
    rcases i with _ | _ | i
    · simp at hd; subst hd
      rcases j with _ | _ | _ | j
      · simp [D.cells] at he; subst he; exact .low _ (.int ..)
      · simp [D.cells] at he; subst he; exact .low _ (.int ..)
      · simp [D.cells] at he; subst he
        refine .frz 3 4 1 0 1 _ _ rfl (by simp) rfl (Nat.le_of_ble_eq_true rfl) (by simp [D.cells]) fun i d hd j e he => ?_
        rcases i with _ | i
        · simp at hd; subst hd
          rw [show 0 + 0 * 3 + j = j by omega]
          exact hleaf j e he
        · simp at hd
      · simp [D.cells] at he
    · simp at hd; subst hd
      rcases j with _ | _ | _ | j
      · simp [D.cells] at he; subst he; exact .low _ (.int ..)
      · simp [D.cells] at he; subst he; exact .low _ (.int ..)
      · simp [D.cells] at he; subst he; exact .nilsLst
      · simp [D.cells] at he
    · simp at hd
  · simp at hc

theorem size_leafU : size leafU = 1 := by rw [leafU, size_mk]; rfl

theorem size_two : size twoT = 4 := by rw [twoT, size_mk]; simp [size_mk, size_leafU]

section
variable {α : Type} (f : α → D)
def cellsF (l : List α) : List D := (l.map f).flatMap D.cells
theorem cellsF_nil : cellsF f [] = [] := rfl
theorem cellsF_app (a b : List α) : cellsF f (a ++ b) = cellsF f a ++ cellsF f b := by simp [cellsF]
theorem cellsF_one (x : α) : cellsF f [x] = (f x).cells := by simp [cellsF]
theorem cellsF_len {sz : Nat} (hsz : ∀ x, (f x).cells.length = sz) : ∀ l : List α, (cellsF f l).length = l.length * sz
  | [] => by simp [cellsF]
  | t :: ts => by
    have := cellsF_len hsz ts
    have h3 := hsz t
    simp only [cellsF, List.map_cons, List.flatMap_cons, List.length_append, List.length_cons, Nat.add_mul] at this ⊢
    omega
theorem cellsF_get {sz : Nat} (hsz : ∀ x, (f x).cells.length = sz) : ∀ (l : List α) (i j : Nat) (x : α) (e : D), l[i]? = some x → (f x).cells[j]? = some e → (cellsF f l)[i * sz + j]? = some e
  | [], i, j, x, e, h, _ => by simp at h
  | a :: O, 0, j, x, e, h, he => by
    simp only [List.getElem?_cons_zero, Option.some.injEq] at h
    subst h
    have hj : j < (f a).cells.length := (List.getElem?_eq_some_iff.1 he).1
    simp only [cellsF, List.map_cons, List.flatMap_cons, Nat.zero_mul, Nat.zero_add]
    rw [List.getElem?_append_left hj]; exact he
  | a :: O, i + 1, j, x, e, h, he => by
    have := cellsF_get hsz O i j x e (by simpa using h) he
    have h3 := hsz a
    simp only [cellsF, List.map_cons, List.flatMap_cons] at this ⊢
    rw [List.getElem?_append_right (by rw [Nat.add_mul]; omega), show (i + 1) * sz + j - (f a).cells.length = i * sz + j by rw [Nat.add_mul]; omega]
    exact this
theorem low_cellsF {n : Nat} (hlow : ∀ x, Low n (f x)) (l : List α) : ∀ c ∈ cellsF f l, Low n c := by
  intro c hc
  simp only [cellsF, List.mem_flatMap, List.mem_map] at hc
  obtain ⟨d, ⟨t, ht, rfl⟩, hc⟩ := hc
  exact (hlow t).cells c hc
theorem low_lstF {n : Nat} (hlow : ∀ x, Low n (f x)) (l : List α) : Low n (.lst (l.map f)) := by
  refine .lst _ fun c hc => ?_
  obtain ⟨k, hk, rfl⟩ := List.mem_map.1 hc
  exact hlow k
theorem nth_mapF (l : List α) (i : Nat) (hi : i < l.length) : nth (l.map f) i = f l[i] := by simp [nth, List.getD, hi]

/-- a slice that is held to be data from now on -/
theorem wk_frzF {X : Wx} {sz : Nat} (hsz : ∀ x, (f x).cells.length = sz) (hlow : ∀ x, Low X.n (f x)) {b t ver len : Nat} {l : List α} (e : b = X.n + t) (hb : X.lc[t]? = some ⟨ver, .cells (cellsF f l)⟩) (hg : Src1.old t ∉ X.g) (hl : len = l.length) :
    Wk X (.ref sz b ver 0 len) (.lst (l.map f)) := by
  subst hl; subst e
  refine .frz sz t ver 0 l.length (cellsF f l) _ hb hg (by simp) (by rw [cellsF_len f hsz]; omega) (fun d hd => ?_) fun i d hd j e he => ?_
  · obtain ⟨x, _, rfl⟩ := List.mem_map.1 hd; exact hsz x
  · simp only [List.getElem?_map, Option.map_eq_some_iff] at hd
    obtain ⟨x, hx, rfl⟩ := hd
    have := cellsF_get f hsz l i j x e hx he
    have e1 : nth (cellsF f l) (0 + i * sz + j) = e := by simp [nth, List.getD, this]
    rw [e1]
    exact .low _ ((hlow x).cells e (List.mem_of_getElem? he))

/-- a live slice, read as data -/
theorem fz_F {N : Nat} {H : Heap} {sz : Nat} (hsz : ∀ x, (f x).cells.length = sz) (hlow : ∀ x, Low 0 (f x)) {b ver len : Nat} {l : List α} (hb : b < N) (hH : H b = ⟨ver, .cells (cellsF f l)⟩) (hl : len = l.length) : Wk (FX N H) (.ref sz b ver 0 len) (.lst (l.map f)) :=
  wk_frzF f (X := FX N H) hsz hlow (Nat.zero_add b).symm (by simp [FX, hb, hH]) (by simp [FX]) hl
end

theorem WkL.app {X : Wx} : ∀ {a a' b b' : List D}, WkL X a a' → WkL X b b' → WkL X (a ++ b) (a' ++ b')
  | [], [], b, b', _, h => h
  | [], _ :: _, _, _, h, _ => by simp [WkL] at h
  | _ :: _, [], _, _, h, _ => by simp [WkL] at h
  | d :: a, d' :: a', b, b', h, h2 => by
    cases d' with
    | top => simp only [List.cons_append, y_wkl_top] at h ⊢; exact WkL.app h h2
    | _ => simp only [WkL] at h; exact y_wkl h.1 (WkL.app h.2 h2)

theorem wk_agg2 {X : Wx} {a b a' b' : D} (h1 : Wk X a a') (h2 : Wk X b b') : Wk X (.agg [a, b]) (.agg [a', b']) :=
  .agg _ _ rfl fun i c c' hc hc' => by
    rcases i with _ | _ | i
    · simp at hc hc'; subst hc; subst hc'; exact h1
    · simp at hc hc'; subst hc; subst hc'; exact h2
    · simp at hc

/-! ### grammars -/
structure Sy where
  t : Bool
  n : Int
  deriving DecidableEq
structure Ru where
  left : Int
  right : List Sy
  deriving DecidableEq
structure Gr where
  terms : Int
  nons : Int
  start : Int
  rules : List Ru

def symD (s : Sy) : D := .agg [.bool s.t, .int .i64 s.n]
def ruleD (r : Ru) : D := .agg [.int .i64 r.left, .lst (r.right.map symD)]
def gramD (g : Gr) : D := .agg [.int .i64 g.terms, .int .i64 g.nons, .int .i64 g.start, .lst (g.rules.map ruleD)]
theorem symD_cells (s : Sy) : (symD s).cells.length = 2 := rfl
theorem ruleD_cells (r : Ru) : (ruleD r).cells.length = 2 := rfl
theorem low_symD (n : Nat) (s : Sy) : Low n (symD s) := by
  refine .agg _ fun c hc => ?_
  simp only [List.mem_cons, List.not_mem_nil, or_false] at hc
  rcases hc with rfl | rfl
  · exact .bool _
  · exact .int ..
theorem low_ruleD (n : Nat) (r : Ru) : Low n (ruleD r) := by
  refine .agg _ fun c hc => ?_
  simp only [List.mem_cons, List.not_mem_nil, or_false] at hc
  rcases hc with rfl | rfl
  · exact .int ..
  · exact low_lstF symD (low_symD n) _
theorem low_gramD (n : Nat) (g : Gr) : Low n (gramD g) := by
  refine .agg _ fun c hc => ?_
  simp only [List.mem_cons, List.not_mem_nil, or_false] at hc
  rcases hc with rfl | rfl | rfl | rfl
  · exact .int ..
  · exact .int ..
  · exact .int ..
  · exact low_lstF ruleD (low_ruleD n) _

theorem take_all {α : Type} (l : List α) {k : Nat} (h : k = l.length) : l.take k = l := by rw [h, List.take_length]

theorem low_rules (n : Nat) (l : List Ru) : Low n (.lst (l.map ruleD)) := low_lstF ruleD (low_ruleD n) l

theorem low_syms (n : Nat) (l : List Sy) : Low n (.lst (l.map symD)) := low_lstF symD (low_symD n) l


end Abs
end Go.Proofs.Ytfojedaccfenfab

/- Nodes. -/
import Derived.Test.YtfojedaccfenfaaE4
import Derived.Test.YtfojedaccfenfaaA26
namespace Go.Proofs.Ytfojedaccfenfaa
namespace Abs
set_option linter.unusedVariables false
set_option linter.unusedSimpArgs false
set_option maxRecDepth 20000

def nodesL : Tree → List Tree
  | .mk r t ks => .mk r t ks :: (if r = -1 then [] else (ks.map nodesL).flatten)
theorem nodesL_mk (r t : Int) (ks : List Tree) : nodesL (.mk r t ks) = .mk r t ks :: (if r = -1 then [] else (ks.map nodesL).flatten) := by rw [nodesL]

theorem nodesL_len : ∀ t : Tree, (nodesL t).length = size t
  | .mk r t ks => by
    rw [nodesL_mk, size_mk]
    split
    · rfl
    · have : ∀ l : List Tree, (∀ k ∈ l, k ∈ ks) → ((l.map nodesL).flatten).length = (l.map size).sum := by
        intro l hl
        induction l with
        | nil => rfl
        | cons k l ih =>
          have hk : k ∈ ks := hl k (by simp)
          simp only [List.map_cons, List.flatten_cons, List.length_append, List.sum_cons]
          rw [ih fun k hk => hl k (by simp [hk]), nodesL_len k]
      rw [List.length_cons, this ks fun _ h => h]; omega

def cellsT (ts : List Tree) : List D := (ts.map treeD).flatMap D.cells
theorem cellsT_nil : cellsT [] = [] := rfl
theorem cellsT_app (a b : List Tree) : cellsT (a ++ b) = cellsT a ++ cellsT b := by simp [cellsT]
theorem cellsT_one (r t : Int) (ks : List Tree) : cellsT [.mk r t ks] = [.int .i64 r, .int .i64 t, .lst (ks.map treeD)] := by
  simp only [cellsT, List.map_cons, List.map_nil, treeD_mk, List.flatMap_cons, List.flatMap_nil, List.append_nil]; rfl
theorem cellsT_len : ∀ ts : List Tree, (cellsT ts).length = ts.length * 3
  | [] => rfl
  | t :: ts => by
    have := cellsT_len ts
    have h3 := treeD_cells t
    simp only [cellsT, List.map_cons, List.flatMap_cons, List.length_append, List.length_cons] at this ⊢
    omega
theorem low_cellsT (n : Nat) (ts : List Tree) : ∀ c ∈ cellsT ts, Low n c := by
  intro c hc
  simp only [cellsT, List.mem_flatMap, List.mem_map] at hc
  obtain ⟨d, ⟨t, ht, rfl⟩, hc⟩ := hc
  exact (low_treeD n t).cells c hc

theorem wkl_low {n : Nat} {lc lc' : List Blk} {g : List Src1} {cs cs' : List D} (e : cs = cs') (h : ∀ c ∈ cs, Low n c) : WkL ⟨n, lc, g, lc'⟩ cs cs' := e ▸ WkL.low h

theorem cellsT_get : ∀ (O : List Tree) (i j : Nat) (x : Tree) (e : D), O[i]? = some x → (treeD x).cells[j]? = some e → (cellsT O)[i * 3 + j]? = some e
  | [], i, j, x, e, h, _ => by simp at h
  | a :: O, 0, j, x, e, h, he => by
    simp only [List.getElem?_cons_zero, Option.some.injEq] at h
    subst h
    have hj : j < (treeD a).cells.length := (List.getElem?_eq_some_iff.1 he).1
    simp only [cellsT, List.map_cons, List.flatMap_cons, Nat.zero_mul, Nat.zero_add]
    rw [List.getElem?_append_left hj]; exact he
  | a :: O, i + 1, j, x, e, h, he => by
    have := cellsT_get O i j x e (by simpa using h) he
    have h3 := treeD_cells a
    simp only [cellsT, List.map_cons, List.flatMap_cons] at this ⊢
    rw [List.getElem?_append_right (by omega), show (i + 1) * 3 + j - (treeD a).cells.length = i * 3 + j by omega]
    exact this

theorem wk_frzT {n : Nat} {lc : List Blk} {t ver : Nat} {O : List Tree} (hb : lc[t]? = some ⟨ver, .cells (cellsT O)⟩) : Wk ⟨n, lc, [], []⟩ (.ref 3 (n + t) ver 0 O.length) (.lst (O.map treeD)) := by
  refine .frz 3 t ver 0 O.length (cellsT O) _ hb (by simp) (by simp) (by rw [cellsT_len]; omega) (fun d hd => ?_) fun i d hd j e he => ?_
  · obtain ⟨x, _, rfl⟩ := List.mem_map.1 hd; exact treeD_cells x
  · simp only [List.getElem?_map, Option.map_eq_some_iff] at hd
    obtain ⟨x, hx, rfl⟩ := hd
    have := cellsT_get O i j x e hx he
    have e1 : nth (cellsT O) (0 + i * 3 + j) = e := by simp [nth, List.getD, this]
    rw [e1]
    exact .low _ ((low_treeD n x).cells e (List.mem_of_getElem? he))

theorem nodes_pos (T : List Tree) : T.length ≤ ((T.map nodesL).flatten).length := by
  induction T with
  | nil => simp
  | cons t T ih => have := nodesL_len t; have := size_pos t; simp only [List.map_cons, List.flatten_cons, List.length_append, List.length_cons]; omega

theorem pure_Nodes (t : Tree) (hsz : size t * 40 ≤ 140737488355328) : Pure prog F_parlref4_Nodes [treeD t] (.lst ((nodesL t).map treeD)) := by
  intro n h
  obtain ⟨r0, t0, k0, rfl⟩ : ∃ r t' k, t = .mk r t' k := by cases t; exact ⟨_, _, _, rfl⟩
  rw [treeD_mk]
  refine K_parlref4_Nodes.calls fun hl => ?_
  unfold C_parlref4_Nodes
  simp -implicitDefEqProofs only [↓symPre, symPost, y_condP, y_condG, run, lver, minD, intsD, eqAll, tupD, splice, Nat.zero_add, Nat.add_zero, Nat.zero_mul, Nat.mul_one, Nat.one_mul, Nat.reduceAdd, Nat.reduceSub, Nat.reduceMul, Nat.reduceLT, Nat.reduceLeDiff, Nat.reduceEqDiff, true_and, and_true, true_implies, if_true, if_false, ite_true, reduceIte, ne_eq, not_false_eq_true, reduceCtorEq, forall_const, bne_self_eq_false, Bool.true_eq_false, Bool.false_eq_true, false_implies, and_self, implies_true, Int.toNat_zero, beq_self_eq_true, decide_true, decide_false, Bool.not_true, Bool.not_false, ↓y_call]
  refine aloop (fun p : List Tree × List Tree × List D × Nat × Nat => St.mk n ([.top, .top, .top, .ref 3 (n + 8) p.2.2.2.1 0 p.1.length, .ref 3 (n + 26) p.2.2.2.2 0 p.2.1.length] ++ List.replicate 42 .top) h
      (List.replicate 8 blk0 ++ [⟨p.2.2.2.1, .cells (cellsT p.1 ++ p.2.2.1)⟩] ++ List.replicate 17 blk0 ++ [⟨p.2.2.2.2, .cells (cellsT p.2.1)⟩] ++ List.replicate 20 blk0))
    (fun p => nodesL (.mk r0 t0 k0) = p.2.1 ++ (p.1.reverse.map nodesL).flatten ∧ (∀ c ∈ p.2.2.1, Low n c) ∧ 1 ≤ p.2.2.2.1 ∧ 1 ≤ p.2.2.2.2)
    (fun p => ((p.1.reverse.map nodesL).flatten).length) ([.mk r0 t0 k0], [], [], 1, 1) ⟨by simp, by simp, Nat.le_refl _, Nat.le_refl _⟩ ?_ ?_
  · refine le_to (List.replicate 8 .hole ++ [.old 8] ++ List.replicate 17 .hole ++ [.nil] ++ List.replicate 20 .hole) hl rfl ?_ ?_ <;> simp only [cellsT_one, cellsT_nil, List.append_nil] <;> ((try simp only [y_blk_end, y_blk_hole, y_blk_nil, y_blk_old, y_wkl_end, y_wkl_top, List.replicate, List.cons_append, List.nil_append, and_true, true_and]) <;> (repeat' (first | apply And.intro | apply y_wkl | refine Exists.intro _ (And.intro rfl ?_))) <;> (try first | exact trivial | exact Wk.top _ | exact wk_int rfl | exact wk_bool rfl | exact wk_ptr rfl rfl rfl rfl | exact wk_ref rfl rfl rfl rfl rfl | exact wk_nil rfl rfl rfl | exact wk_ref rfl rfl rfl rfl (by simp) | exact wk_ref rfl rfl rfl rfl (by simp; omega) | exact wk_old (by assumption) (by simp) | exact wk_eq rfl (by first | exact Bd.int _ _ | exact Bd.bool _ | exact Bd.abool | exact Bd.nils | exact Bd.emp | exact Bd.nilp | exact Bd.nilfn | assumption | exact low_trees _ _ | exact low_treeD _ _ | exact low_ints _ _) | exact Nat.le_refl _ | exact wk_int (by simp) | exact wk_int (by omega) | exact Nat.succ_le_succ (Nat.zero_le _) | exact Nat.le_add_left _ _ | omega))
  · rintro ⟨T, O, J, v, u⟩ ⟨hI, hJ, hv, hu⟩
    simp only at hI hJ hv hu
    have htot := nodesL_len (.mk r0 t0 k0)
    rcases List.eq_nil_or_concat T with rfl | ⟨T', x, rfl⟩
    · have hg : decide (((0 : Nat) : Int) > 0) = false := rfl
      simp -implicitDefEqProofs only [↓symPre, symPost, y_condP, y_condG, run, lver, minD, intsD, eqAll, tupD, splice, Nat.zero_add, Nat.add_zero, Nat.zero_mul, Nat.mul_one, Nat.one_mul, Nat.reduceAdd, Nat.reduceSub, Nat.reduceMul, Nat.reduceLT, Nat.reduceLeDiff, Nat.reduceEqDiff, true_and, and_true, true_implies, if_true, if_false, ite_true, reduceIte, ne_eq, not_false_eq_true, reduceCtorEq, forall_const, bne_self_eq_false, Bool.true_eq_false, Bool.false_eq_true, false_implies, and_self, implies_true, Int.toNat_zero, beq_self_eq_true, decide_true, decide_false, Bool.not_true, Bool.not_false, ↓y_call, hg]
      have hO : nodesL (.mk r0 t0 k0) = O := by rw [hI]; simp
      exact fin_wk hl (wk_frzT rfl) ⟨rfl, rfl, by rw [hO]⟩
    · obtain ⟨r, tm, ks, rfl⟩ : ∃ r t' k, x = .mk r t' k := by cases x; exact ⟨_, _, _, rfl⟩
      obtain ⟨C, hC⟩ : ∃ C, C = cellsT (T'.concat (.mk r tm ks)) ++ J := ⟨_, rfl⟩
      obtain ⟨E, hE⟩ : ∃ E, E = cellsT O := ⟨_, rfl⟩
      have hC' : C = cellsT T' ++ ([.int .i64 r, .int .i64 tm, .lst (ks.map treeD)] ++ J) := by
        rw [hC, List.concat_eq_append, cellsT_app, cellsT_one, List.append_assoc]
      have hCl : C.length = T'.length * 3 + 3 + J.length := by rw [hC']; simp [cellsT_len]; omega
      have hEl : E.length = O.length * 3 := by rw [hE, cellsT_len]
      have hld : (C.drop (T'.length * 3)).take 3 = [.int .i64 r, .int .i64 tm, .lst (ks.map treeD)] := by
        rw [hC', ← cellsT_len, List.drop_left]; rfl
      have hll : T'.length * 3 + 3 ≤ C.length := by omega
      have hEt : E.take (O.length * 3) = E := by rw [← hEl, List.take_length]
      have hEt' : O.length * 3 ≤ E.length := by omega
      have hlen := congrArg List.length hI
      have hpos := nodes_pos (T'.concat (.mk r tm ks)).reverse
      simp only [List.length_append, List.length_reverse, List.length_concat] at hlen hpos
      have hT1 : (T'.concat (.mk r tm ks)).length = T'.length + 1 := by simp
      have hg : decide (((T'.length + 1 : Nat) : Int) > 0) = true := decide_eq_true (by omega)
      have w1 : IntKind.i64.wrap (((T'.length + 1 : Nat) : Int) - 1) = (T'.length : Int) := by rw [IntWalk.i64_in _ (by omega)]; omega
      have h0 : (0 : Int) ≤ (T'.length : Int) := by omega
      have h1 : (T'.length : Int) < ((T'.length + 1 : Nat) : Int) := by omega
      have h2 : (T'.length : Int) ≤ ((T'.length + 1 : Nat) : Int) := by omega
      have hf : (O.length + 1) * 40 ≤ 140737488355328 := by omega
      rw [← hC, ← hE, hT1]
      simp -implicitDefEqProofs only [↓symPre, symPost, y_condP, y_condG, run, lver, minD, intsD, eqAll, tupD, splice, Nat.zero_add, Nat.add_zero, Nat.zero_mul, Nat.mul_one, Nat.one_mul, Nat.reduceAdd, Nat.reduceSub, Nat.reduceMul, Nat.reduceLT, Nat.reduceLeDiff, Nat.reduceEqDiff, true_and, and_true, true_implies, if_true, if_false, ite_true, reduceIte, ne_eq, not_false_eq_true, reduceCtorEq, forall_const, bne_self_eq_false, Bool.true_eq_false, Bool.false_eq_true, false_implies, and_self, implies_true, Int.toNat_zero, beq_self_eq_true, decide_true, decide_false, Bool.not_true, Bool.not_false, ↓y_call, hg, w1, h0, h1, h2, hld, hll, hEt, hEt', hf, srcOf, Int.toNat_natCast, Nat.sub_zero]
      have hx : ∀ c ∈ [D.int .i64 r, .int .i64 tm, .lst (ks.map treeD)], Low n c := by rw [← cellsT_one]; exact low_cellsT n _
      have hlC : ∀ c ∈ C, Low n c := by
        rw [hC']; intro c hc
        rcases List.mem_append.1 hc with hc | hc
        · exact low_cellsT n _ c hc
        · rcases List.mem_append.1 hc with hc | hc
          · exact hx c hc
          · exact hJ c hc
      have hE2 : E ++ [D.int .i64 r, .int .i64 tm, .lst (ks.map treeD)] = cellsT (O ++ [.mk r tm ks]) := by rw [cellsT_app, cellsT_one, hE]
      have hlE2 : ∀ c ∈ E ++ [D.int .i64 r, .int .i64 tm, .lst (ks.map treeD)], Low n c := by rw [hE2]; exact low_cellsT n _
      have hJ2 : ∀ c ∈ [D.int .i64 r, .int .i64 tm, .lst (ks.map treeD)] ++ J, Low n c := fun c hc => (List.mem_append.1 hc).elim (hx c) (hJ c)
      refine ⟨fun hr => ?_, fun hr => ?_⟩
      · have hr' : r = -1 := by simpa using hr
        refine ⟨(T', O ++ [.mk r tm ks], [.int .i64 r, .int .i64 tm, .lst (ks.map treeD)] ++ J, v, u + 1), ⟨?_, hJ2, hv, by simp only; omega⟩, ?_, ?_⟩
        · rw [hI]; simp [nodesL_mk, hr']
        · simp [nodesL_mk, hr']
        · refine le_to (List.replicate 8 .hole ++ [.old 8] ++ List.replicate 17 .hole ++ [.old 26] ++ List.replicate 20 .hole) hl rfl ?_ ?_ <;> ((try simp only [y_blk_end, y_blk_hole, y_blk_nil, y_blk_old, y_wkl_end, y_wkl_top, List.replicate, List.cons_append, List.nil_append, and_true, true_and]) <;> (repeat' (first | apply And.intro | apply y_wkl | refine Exists.intro _ (And.intro rfl ?_))) <;> (try first | exact trivial | exact Wk.top _ | exact wk_int rfl | exact wk_bool rfl | exact wk_ptr rfl rfl rfl rfl | exact wk_ref rfl rfl rfl rfl rfl | exact wk_nil rfl rfl rfl | exact wk_ref rfl rfl rfl rfl (by simp) | exact wk_ref rfl rfl rfl rfl (by simp; omega) | exact wk_old (by assumption) (by simp) | exact wk_eq rfl (by first | exact Bd.int _ _ | exact Bd.bool _ | exact Bd.abool | exact Bd.nils | exact Bd.emp | exact Bd.nilp | exact Bd.nilfn | assumption | exact low_trees _ _ | exact low_treeD _ _ | exact low_ints _ _) | exact Nat.le_refl _ | exact wk_int (by simp) | exact wk_int (by omega) | exact Nat.succ_le_succ (Nat.zero_le _) | exact Nat.le_add_left _ _ | omega))
          · exact wkl_low hC' hlC
          · exact wkl_low hE2 hlE2
      · have hr' : ¬ r = -1 := by simpa using hr
        have hnx : (nodesL (.mk r tm ks)).length = 1 + (ks.map nodesL).flatten.length := by rw [nodesL_mk, if_neg hr', List.length_cons]; omega
        have hkp := nodes_pos ks
        have hrem : ((T'.concat (.mk r tm ks)).reverse.map nodesL).flatten = nodesL (.mk r tm ks) ++ (T'.reverse.map nodesL).flatten := by simp
        have hremT : T'.length ≤ ((T'.reverse.map nodesL).flatten).length := by have := nodes_pos T'.reverse; simpa using this
        have hrl := congrArg List.length hrem
        rw [List.length_append] at hrl
        have w2 : IntKind.i64.wrap ((ks.length : Int) - 1) = (ks.length : Int) - 1 := by rw [IntWalk.i64_in _ (by omega)]
        simp only [List.length_map, w2]
        refine aloop (fun p : Nat × Nat × List D => St.mk n ([.top, .top, .top, .ref 3 (n + 8) p.2.1 0 (T' ++ (ks.drop p.1).reverse).length, .ref 3 (n + 26) (u + 1) 0 (O.length + 1), .ptr (n + 5) 1 0, .int .i64 ((p.1 : Int) - 1)] ++ List.replicate 40 .top) h
            (List.replicate 5 blk0 ++ [⟨1, .cells [.int .i64 r, .int .i64 tm, .lst (ks.map treeD)]⟩] ++ List.replicate 2 blk0 ++ [⟨p.2.1, .cells (cellsT (T' ++ (ks.drop p.1).reverse) ++ p.2.2)⟩] ++ List.replicate 17 blk0 ++ [⟨u + 1, .cells (E ++ [.int .i64 r, .int .i64 tm, .lst (ks.map treeD)])⟩] ++ List.replicate 20 blk0))
          (fun p => p.1 ≤ ks.length ∧ (∀ c ∈ p.2.2, Low n c) ∧ 1 ≤ p.2.1) (fun p => p.1) (ks.length, v, [.int .i64 r, .int .i64 tm, .lst (ks.map treeD)] ++ J) ⟨Nat.le_refl _, hJ2, hv⟩ ?_ ?_
        · refine le_to (List.replicate 5 .hole ++ [.old 5] ++ List.replicate 2 .hole ++ [.old 8] ++ List.replicate 17 .hole ++ [.old 26] ++ List.replicate 20 .hole) hl rfl ?_ ?_ <;> simp only [List.drop_length, List.reverse_nil, List.append_nil] <;> ((try simp only [y_blk_end, y_blk_hole, y_blk_nil, y_blk_old, y_wkl_end, y_wkl_top, List.replicate, List.cons_append, List.nil_append, and_true, true_and]) <;> (repeat' (first | apply And.intro | apply y_wkl | refine Exists.intro _ (And.intro rfl ?_))) <;> (try first | exact trivial | exact Wk.top _ | exact wk_int rfl | exact wk_bool rfl | exact wk_ptr rfl rfl rfl rfl | exact wk_ref rfl rfl rfl rfl rfl | exact wk_nil rfl rfl rfl | exact wk_ref rfl rfl rfl rfl (by simp) | exact wk_ref rfl rfl rfl rfl (by simp; omega) | exact wk_old (by assumption) (by simp) | exact wk_eq rfl (by first | exact Bd.int _ _ | exact Bd.bool _ | exact Bd.abool | exact Bd.nils | exact Bd.emp | exact Bd.nilp | exact Bd.nilfn | assumption | exact low_trees _ _ | exact low_treeD _ _ | exact low_ints _ _) | exact Nat.le_refl _ | exact wk_int (by simp) | exact wk_int (by omega) | exact Nat.succ_le_succ (Nat.zero_le _) | exact Nat.le_add_left _ _ | omega))
          · exact wkl_low hC' hlC
          · exact WkL.low hlE2
        · rintro ⟨j, w, J2⟩ ⟨hj, hJ3, hw⟩
          simp only at hj hJ3 hw
          have hlD : ∀ c ∈ cellsT (T' ++ (ks.drop j).reverse) ++ J2, Low n c := fun c hc => (List.mem_append.1 hc).elim (low_cellsT n _ c) (hJ3 c)
          cases j with
          | zero =>
            have hg : decide (((0 : Nat) : Int) - 1 ≥ 0) = false := rfl
            simp -implicitDefEqProofs only [↓symPre, symPost, y_condP, y_condG, run, lver, minD, intsD, eqAll, tupD, splice, Nat.zero_add, Nat.add_zero, Nat.zero_mul, Nat.mul_one, Nat.one_mul, Nat.reduceAdd, Nat.reduceSub, Nat.reduceMul, Nat.reduceLT, Nat.reduceLeDiff, Nat.reduceEqDiff, true_and, and_true, true_implies, if_true, if_false, ite_true, reduceIte, ne_eq, not_false_eq_true, reduceCtorEq, forall_const, bne_self_eq_false, Bool.true_eq_false, Bool.false_eq_true, false_implies, and_self, implies_true, Int.toNat_zero, beq_self_eq_true, decide_true, decide_false, Bool.not_true, Bool.not_false, ↓y_call, hg]
            refine ⟨(T' ++ ks.reverse, O ++ [.mk r tm ks], J2, w, u + 1), ⟨?_, hJ3, hw, by simp only; omega⟩, ?_, ?_⟩
            · rw [hI]; simp [nodesL_mk, hr']
            · simp only [hrem, List.length_append, hnx, List.reverse_append, List.reverse_reverse, List.map_append, List.flatten_append]; omega
            · refine le_to (List.replicate 8 .hole ++ [.old 8] ++ List.replicate 17 .hole ++ [.old 26] ++ List.replicate 20 .hole) hl rfl ?_ ?_ <;> ((try simp only [y_blk_end, y_blk_hole, y_blk_nil, y_blk_old, y_wkl_end, y_wkl_top, List.replicate, List.cons_append, List.nil_append, and_true, true_and]) <;> (repeat' (first | apply And.intro | apply y_wkl | refine Exists.intro _ (And.intro rfl ?_))) <;> (try first | exact trivial | exact Wk.top _ | exact wk_int rfl | exact wk_bool rfl | exact wk_ptr rfl rfl rfl rfl | exact wk_ref rfl rfl rfl rfl rfl | exact wk_nil rfl rfl rfl | exact wk_ref rfl rfl rfl rfl (by simp) | exact wk_ref rfl rfl rfl rfl (by simp; omega) | exact wk_old (by assumption) (by simp) | exact wk_eq rfl (by first | exact Bd.int _ _ | exact Bd.bool _ | exact Bd.abool | exact Bd.nils | exact Bd.emp | exact Bd.nilp | exact Bd.nilfn | assumption | exact low_trees _ _ | exact low_treeD _ _ | exact low_ints _ _) | exact Nat.le_refl _ | exact wk_int (by simp) | exact wk_int (by omega) | exact Nat.succ_le_succ (Nat.zero_le _) | exact Nat.le_add_left _ _ | omega))
              · exact wkl_low (by simp) hlD
              · exact wkl_low hE2 hlE2
          | succ j =>
            have hlt : j < ks.length := by omega
            have e0 := nth_map_tree ks j hlt
            obtain ⟨r', t', k', ek⟩ : ∃ r' t' k', ks[j] = .mk r' t' k' := by cases h : ks[j]; exact ⟨_, _, _, rfl⟩
            rw [ek, treeD_mk] at e0
            have hjj : (((j + 1 : Nat) : Int) - 1) = (j : Int) := by omega
            have hg : decide ((j : Int) ≥ 0) = true := decide_eq_true (by omega)
            have q0 : (0 : Int) ≤ (j : Int) := by omega
            have q1 : (j : Int) < (ks.length : Int) := by omega
            have w3 : IntKind.i64.wrap ((j : Int) - 1) = (j : Int) - 1 := by rw [IntWalk.i64_in _ (by omega)]
            have hdr : (ks.drop j).reverse = (ks.drop (j + 1)).reverse ++ [.mk r' t' k'] := by rw [List.drop_eq_getElem_cons hlt, ek]; simp
            have hTl : (T' ++ (ks.drop (j + 1)).reverse).length ≤ T'.length + ks.length := by simp <;> omega
            generalize hTd : T' ++ (ks.drop (j + 1)).reverse = TT at *
            have hCC : TT.length * 3 ≤ (cellsT TT ++ J2).length := by simp [cellsT_len]
            have hCt : (cellsT TT ++ J2).take (TT.length * 3) = cellsT TT := by rw [← cellsT_len, List.take_left]
            have hf2 : (TT.length + 1) * 40 ≤ 140737488355328 := by omega
            simp -implicitDefEqProofs only [↓symPre, symPost, y_condP, y_condG, run, lver, minD, intsD, eqAll, tupD, splice, Nat.zero_add, Nat.add_zero, Nat.zero_mul, Nat.mul_one, Nat.one_mul, Nat.reduceAdd, Nat.reduceSub, Nat.reduceMul, Nat.reduceLT, Nat.reduceLeDiff, Nat.reduceEqDiff, true_and, and_true, true_implies, if_true, if_false, ite_true, reduceIte, ne_eq, not_false_eq_true, reduceCtorEq, forall_const, bne_self_eq_false, Bool.true_eq_false, Bool.false_eq_true, false_implies, and_self, implies_true, Int.toNat_zero, beq_self_eq_true, decide_true, decide_false, Bool.not_true, Bool.not_false, ↓y_call, hjj, hg, q0, q1, e0, hCC, hCt, hf2, srcOf, Int.toNat_natCast, List.length_map, w3]
            refine ⟨(j, w + 1, []), ⟨by simp only; omega, by simp, by simp only; omega⟩, by simp only; omega, ?_⟩
            refine le_to (List.replicate 5 .hole ++ [.old 5] ++ List.replicate 2 .hole ++ [.old 8] ++ List.replicate 17 .hole ++ [.old 26] ++ List.replicate 20 .hole) hl rfl ?_ ?_ <;> simp only [hdr, ← List.append_assoc, hTd] <;> ((try simp only [y_blk_end, y_blk_hole, y_blk_nil, y_blk_old, y_wkl_end, y_wkl_top, List.replicate, List.cons_append, List.nil_append, and_true, true_and]) <;> (repeat' (first | apply And.intro | apply y_wkl | refine Exists.intro _ (And.intro rfl ?_))) <;> (try first | exact trivial | exact Wk.top _ | exact wk_int rfl | exact wk_bool rfl | exact wk_ptr rfl rfl rfl rfl | exact wk_ref rfl rfl rfl rfl rfl | exact wk_nil rfl rfl rfl | exact wk_ref rfl rfl rfl rfl (by simp) | exact wk_ref rfl rfl rfl rfl (by simp; omega) | exact wk_old (by assumption) (by simp) | exact wk_eq rfl (by first | exact Bd.int _ _ | exact Bd.bool _ | exact Bd.abool | exact Bd.nils | exact Bd.emp | exact Bd.nilp | exact Bd.nilfn | assumption | exact low_trees _ _ | exact low_treeD _ _ | exact low_ints _ _) | exact Nat.le_refl _ | exact wk_int (by simp) | exact wk_int (by omega) | exact Nat.succ_le_succ (Nat.zero_le _) | exact Nat.le_add_left _ _ | omega))
            · refine wkl_low (by rw [cellsT_app, cellsT_one, List.append_nil]) fun c hc => ?_
              rcases List.mem_append.1 hc with hc | hc
              · exact low_cellsT n _ c hc
              · exact low_cellsT n [.mk r' t' k'] c (by rw [cellsT_one]; exact hc)
            · exact WkL.low hlE2

end Abs
end Go.Proofs.Ytfojedaccfenfaa

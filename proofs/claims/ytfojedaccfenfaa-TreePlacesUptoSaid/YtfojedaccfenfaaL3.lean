/- Paths. -/
import Derived.Test.YtfojedaccfenfaaL2
import Derived.Test.YtfojedaccfenfaaK2
namespace Go.Proofs.Ytfojedaccfenfaa
namespace Abs
set_option linter.unusedVariables false
set_option linter.unusedSimpArgs false
set_option maxRecDepth 20000

mutual
def pathsT : Tree → List (List Int)
  | .mk r t ks => [] :: (if r = -1 then [] else pathsK ks 0)
def pathsK : List Tree → Nat → List (List Int)
  | [], _ => []
  | k :: ks, i => (pathsT k).map (List.cons (i : Int)) ++ pathsK ks (i + 1)
end
theorem pathsT_mk (r t : Int) (ks : List Tree) : pathsT (.mk r t ks) = [] :: (if r = -1 then [] else pathsK ks 0) := by rw [pathsT]
theorem pathsK_nil (i : Nat) : pathsK [] i = [] := by rw [pathsK]
theorem pathsK_cons (k : Tree) (ks : List Tree) (i : Nat) : pathsK (k :: ks) i = (pathsT k).map (List.cons (i : Int)) ++ pathsK ks (i + 1) := by rw [pathsK]
theorem pathsK_app : ∀ (a b : List Tree) (i : Nat), pathsK (a ++ b) i = pathsK a i ++ pathsK b (i + a.length)
  | [], b, i => by rw [pathsK_nil]; rfl
  | k :: a, b, i => by
    rw [List.cons_append, pathsK_cons, pathsK_cons, pathsK_app a b, List.append_assoc, List.length_cons, show i + 1 + a.length = i + (a.length + 1) by omega]
theorem pathsK_take (ks : List Tree) (i : Nat) (hi : i < ks.length) : pathsK (ks.take (i + 1)) 0 = pathsK (ks.take i) 0 ++ (pathsT ks[i]).map (List.cons (i : Int)) := by
  rw [List.take_succ_eq_append_getElem hi, pathsK_app, pathsK_cons, pathsK_nil, List.append_nil]
  congr 4
  simp; omega

theorem pathsT_len : ∀ t : Tree, (pathsT t).length = size t
  | .mk r t ks => by
    rw [pathsT_mk, size_mk]
    split
    · rfl
    · have : ∀ (l : List Tree) (i : Nat), (∀ k ∈ l, k ∈ ks) → (pathsK l i).length = (l.map size).sum := by
        intro l
        induction l with
        | nil => intro i _; rw [pathsK_nil]; rfl
        | cons k l ih =>
          intro i hl
          have hk : k ∈ ks := hl k (by simp)
          rw [pathsK_cons, List.length_append, ih _ fun k hk => hl k (by simp [hk]), List.length_map, pathsT_len k]
          simp
      rw [List.length_cons, this ks 0 fun _ h => h]; omega
termination_by t => t
theorem pathsK_len (l : List Tree) (i : Nat) : (pathsK l i).length = (l.map size).sum := by
  induction l generalizing i with
  | nil => rw [pathsK_nil]; rfl
  | cons k l ih => rw [pathsK_cons, List.length_append, ih, List.length_map, pathsT_len]; simp

/-- a path leads somewhere -/
theorem paths_below : ∀ (t : Tree) (p : List Int), p ∈ pathsT t → ∃ s, belowT t p = some s
  | .mk r t ks, p, h => by
    rw [pathsT_mk] at h
    rcases List.mem_cons.1 h with rfl | h
    · exact ⟨_, rfl⟩
    by_cases hr : r = -1
    · rw [if_pos hr] at h; simp at h
    rw [if_neg hr] at h
    have key : ∀ (l : List Tree) (i : Nat), (∀ (j : Nat) (k : Tree), l[j]? = some k → ks[i + j]? = some k) → p ∈ pathsK l i → ∃ s, belowT (.mk r t ks) p = some s := by
      intro l
      induction l with
      | nil => intro i _ h; rw [pathsK_nil] at h; simp at h
      | cons k l ih =>
        intro i hl h
        rw [pathsK_cons] at h
        rcases List.mem_append.1 h with h | h
        · obtain ⟨p', hp', rfl⟩ := List.mem_map.1 h
          have hk : ks[i]? = some k := by have := hl 0 k rfl; simpa using this
          have hm : k ∈ ks := List.mem_of_getElem? hk
          obtain ⟨s, hs⟩ := paths_below k p' hp'
          exact ⟨s, by rw [below_cons hr hk]; exact hs⟩
        · exact ih (i + 1) (fun j k' hj => by
            have := hl (j + 1) k' (by simpa using hj)
            rwa [show i + (j + 1) = i + 1 + j by omega] at this) h
    exact key ks 0 (fun j k hj => by simpa using hj) h
termination_by t => t
theorem paths_len {t : Tree} {p : List Int} (h : p ∈ pathsT t) : p.length ≤ size t := by
  obtain ⟨s, hs⟩ := paths_below t p h
  have := below_len p t s hs
  omega

set_option maxHeartbeats 4000000 in
theorem pure_Paths : ∀ t : Tree, size t * 40 ≤ 140737488355328 → Pure prog F_parlref4_Paths [treeD t] (.lst ((pathsT t).map iD))
  | .mk r tm ks, hsz => by
    intro n h
    rw [treeD_mk]
    refine K_parlref4_Paths.calls fun hl => ?_
    unfold C_parlref4_Paths
    by_cases hr : r = -1
    · have hrb : (r == -1) = true := by simp [hr]
      simp -implicitDefEqProofs only [↓symPre, symPost, y_condP, y_condG, run, lver, minD, intsD, eqAll, tupD, splice, Nat.zero_add, Nat.add_zero, Nat.zero_mul, Nat.mul_one, Nat.one_mul, Nat.reduceAdd, Nat.reduceSub, Nat.reduceMul, Nat.reduceLT, Nat.reduceLeDiff, Nat.reduceEqDiff, true_and, and_true, true_implies, if_true, if_false, ite_true, reduceIte, ne_eq, not_false_eq_true, reduceCtorEq, forall_const, bne_self_eq_false, Bool.true_eq_false, Bool.false_eq_true, false_implies, and_self, implies_true, Int.toNat_zero, beq_self_eq_true, decide_true, decide_false, Bool.not_true, Bool.not_false, ↓y_call, hrb]
      refine fin_wk hl ?_ ⟨rfl, rfl, rfl⟩
      rw [pathsT_mk, if_pos hr]
      refine .frz 1 8 1 0 1 [.nils] _ rfl (by simp) rfl (by simp) (by simp [D.cells]) fun i d hd j e he => ?_
      cases i with
      | zero =>
        simp at hd; subst hd
        cases j with
        | zero => simp [D.cells] at he; subst he; exact .nilsLst
        | succ j => simp [D.cells] at he
      | succ i => simp at hd
    · have hrb : (r == -1) = false := by simp [hr]
      have hszk := size_mk r tm ks
      rw [if_neg hr] at hszk
      have hkl := len_le_sum ks
      have lowP : ∀ (L : List (List Int)), ∀ c ∈ L.map iD, Low n c := fun L c hc => by
        obtain ⟨l, _, rfl⟩ := List.mem_map.1 hc
        exact low_ints n l
      simp -implicitDefEqProofs only [↓symPre, symPost, y_condP, y_condG, run, lver, minD, intsD, eqAll, tupD, splice, Nat.zero_add, Nat.add_zero, Nat.zero_mul, Nat.mul_one, Nat.one_mul, Nat.reduceAdd, Nat.reduceSub, Nat.reduceMul, Nat.reduceLT, Nat.reduceLeDiff, Nat.reduceEqDiff, true_and, and_true, true_implies, if_true, if_false, ite_true, reduceIte, ne_eq, not_false_eq_true, reduceCtorEq, forall_const, bne_self_eq_false, Bool.true_eq_false, Bool.false_eq_true, false_implies, and_self, implies_true, Int.toNat_zero, beq_self_eq_true, decide_true, decide_false, Bool.not_true, Bool.not_false, ↓y_call, hrb]
      refine aloop (fun p : Nat × Nat => St.mk n ([.top, .top, .top, .ref 1 (n + 8) p.2 0 (1 + (pathsK (ks.take p.1) 0).length)] ++ List.replicate 10 .top ++ [.lst (ks.map treeD), .int .i64 ks.length, .int .i64 p.1] ++ List.replicate 21 .top) h
          (List.replicate 8 blk0 ++ [⟨p.2, .cells (([] :: pathsK (ks.take p.1) 0).map iD)⟩] ++ List.replicate 29 blk0)) (fun p => p.1 ≤ ks.length ∧ 1 ≤ p.2) (fun p => ks.length - p.1) (0, 1) ⟨Nat.zero_le _, Nat.le_refl _⟩ ?_ ?_
      · refine le_to (List.replicate 8 .hole ++ [.old 8] ++ List.replicate 29 .hole) hl rfl ?_ ?_ <;> (try simp only [List.take_zero, pathsK_nil, List.length_nil, List.map_cons, List.map_nil, List.length_map]) <;> ((try simp only [y_blk_end, y_blk_hole, y_blk_nil, y_blk_old, y_wkl_end, y_wkl_top, List.replicate, List.cons_append, List.nil_append, and_true, true_and]) <;> (repeat' (first | apply And.intro | apply y_wkl | refine Exists.intro _ (And.intro rfl ?_))) <;> (try first | exact trivial | exact Wk.top _ | exact wk_int rfl | exact wk_bool rfl | exact wk_ptr rfl rfl rfl rfl | exact wk_ref rfl rfl rfl rfl rfl | exact wk_nil rfl rfl rfl | exact wk_ref rfl rfl rfl rfl (by simp) | exact wk_ref rfl rfl rfl rfl (by simp; omega) | exact wk_old (by assumption) (by simp) | exact wk_eq rfl (by first | exact Bd.int _ _ | exact Bd.bool _ | exact Bd.abool | exact Bd.nils | exact Bd.emp | exact Bd.nilp | exact Bd.nilfn | assumption | exact low_trees _ _ | exact low_treeD _ _ | exact low_ints _ _) | exact Nat.le_refl _ | exact wk_int (by simp) | exact wk_int (by omega) | exact Nat.succ_le_succ (Nat.zero_le _) | exact Nat.le_add_left _ _ | omega))
        exact .nilsLst
      · rintro ⟨i, v⟩ ⟨hi, hv⟩
        simp only at hi hv
        by_cases hlt : i < ks.length
        · have f1 : (i : Int) < (ks.length : Int) := by omega
          have f0 : (0 : Int) ≤ (i : Int) := by omega
          have w1 : IntKind.i64.wrap ((i : Int) + 1) = ((i + 1 : Nat) : Int) := by rw [IntWalk.i64_in _ (by omega)]; omega
          have hm : ks[i] ∈ ks := List.getElem_mem hlt
          have hsk := size_kid hm
          have ih := pure_Paths ks[i] (by omega)
          have e0 := nth_map_tree ks i hlt
          have hpk := pathsK_take ks i hlt
          have hpl := pathsT_len ks[i]
          have hst := sum_take_succ (ks.map size) i (by simpa using hlt)
          have hst2 := sum_take_le (ks.map size) (i + 1)
          simp only [List.getElem_map] at hst
          simp only [← List.map_take] at hst hst2
          have hKl := pathsK_len (ks.take i) 0
          have hplen := fun p => @paths_len ks[i] p
          generalize ks[i] = kk at *
          obtain ⟨r', t', k', ek⟩ : ∃ r' t' k', kk = .mk r' t' k' := by cases kk; exact ⟨_, _, _, rfl⟩
          have ekD : treeD kk = .agg [.int .i64 r', .int .i64 t', .lst (k'.map treeD)] := by rw [ek, treeD_mk]
          rw [ekD] at e0 ih
          generalize pathsT kk = ps at *
          generalize pathsK (ks.take i) 0 = Q at *
          have hlowps : Low n (.lst (ps.map iD)) := low_lstF iD (low_iDs n) ps
          simp -implicitDefEqProofs only [↓symPre, symPost, y_condP, y_condG, run, lver, minD, intsD, eqAll, tupD, splice, Nat.zero_add, Nat.add_zero, Nat.zero_mul, Nat.mul_one, Nat.one_mul, Nat.reduceAdd, Nat.reduceSub, Nat.reduceMul, Nat.reduceLT, Nat.reduceLeDiff, Nat.reduceEqDiff, true_and, and_true, true_implies, if_true, if_false, ite_true, reduceIte, ne_eq, not_false_eq_true, reduceCtorEq, forall_const, bne_self_eq_false, Bool.true_eq_false, Bool.false_eq_true, false_implies, and_self, implies_true, Int.toNat_zero, beq_self_eq_true, decide_true, decide_false, Bool.not_true, Bool.not_false, ↓y_call, List.length_map, f1, f0, decide_true, Int.toNat_natCast, e0]
          refine ih.call rfl ?_
          simp -implicitDefEqProofs only [↓symPre, symPost, y_condP, y_condG, run, lver, minD, intsD, eqAll, tupD, splice, Nat.zero_add, Nat.add_zero, Nat.zero_mul, Nat.mul_one, Nat.one_mul, Nat.reduceAdd, Nat.reduceSub, Nat.reduceMul, Nat.reduceLT, Nat.reduceLeDiff, Nat.reduceEqDiff, true_and, and_true, true_implies, if_true, if_false, ite_true, reduceIte, ne_eq, not_false_eq_true, reduceCtorEq, forall_const, bne_self_eq_false, Bool.true_eq_false, Bool.false_eq_true, false_implies, and_self, implies_true, Int.toNat_zero, beq_self_eq_true, decide_true, decide_false, Bool.not_true, Bool.not_false, ↓y_call, List.length_map]
          refine aloop (fun p : Nat × Nat => St.mk n ([.top, .top, .top, .ref 1 (n + 8) p.2 0 (1 + Q.length + p.1), .int .i64 i] ++ List.replicate 9 .top ++ [.lst (ks.map treeD), .int .i64 ks.length, .int .i64 i] ++ List.replicate 5 .top ++ [.lst (ps.map iD), .int .i64 ps.length, .int .i64 p.1] ++ List.replicate 13 .top) h
              (List.replicate 8 blk0 ++ [⟨p.2, .cells (([] :: Q ++ (ps.take p.1).map (List.cons (i : Int))).map iD)⟩] ++ List.replicate 29 blk0)) (fun p => p.1 ≤ ps.length ∧ 1 ≤ p.2) (fun p => ps.length - p.1) (0, v) ⟨Nat.zero_le _, hv⟩ ?_ ?_
          · refine le_to (List.replicate 8 .hole ++ [.old 8] ++ List.replicate 29 .hole) hl rfl ?_ ?_ <;> (try simp only [List.take_zero, List.map_nil, List.append_nil]) <;> ((try simp only [y_blk_end, y_blk_hole, y_blk_nil, y_blk_old, y_wkl_end, y_wkl_top, List.replicate, List.cons_append, List.nil_append, and_true, true_and]) <;> (repeat' (first | apply And.intro | apply y_wkl | refine Exists.intro _ (And.intro rfl ?_))) <;> (try first | exact trivial | exact Wk.top _ | exact wk_int rfl | exact wk_bool rfl | exact wk_ptr rfl rfl rfl rfl | exact wk_ref rfl rfl rfl rfl rfl | exact wk_nil rfl rfl rfl | exact wk_ref rfl rfl rfl rfl (by simp) | exact wk_ref rfl rfl rfl rfl (by simp; omega) | exact wk_old (by assumption) (by simp) | exact wk_eq rfl (by first | exact Bd.int _ _ | exact Bd.bool _ | exact Bd.abool | exact Bd.nils | exact Bd.emp | exact Bd.nilp | exact Bd.nilfn | assumption | exact low_trees _ _ | exact low_treeD _ _ | exact low_ints _ _) | exact Nat.le_refl _ | exact wk_int (by simp) | exact wk_int (by omega) | exact Nat.succ_le_succ (Nat.zero_le _) | exact Nat.le_add_left _ _ | omega))
            all_goals first | exact WkL.low (lowP _) | exact wk_eq rfl hlowps
          · rintro ⟨j, u⟩ ⟨hj, hu⟩
            simp only at hj hu
            by_cases hjl : j < ps.length
            · have p1 : (j : Int) < (ps.length : Int) := by omega
              have p0 : (0 : Int) ≤ (j : Int) := by omega
              have w2 : IntKind.i64.wrap ((j : Int) + 1) = ((j + 1 : Nat) : Int) := by rw [IntWalk.i64_in _ (by omega)]; omega
              have e1 := nth_lists ps j hjl
              have hpj := hplen ps[j] (List.getElem_mem hjl)
              have htk := List.take_succ_eq_append_getElem hjl
              generalize ps[j] = p at *
              obtain ⟨C, hC⟩ : ∃ C, C = ([] :: Q ++ (ps.take j).map (List.cons (i : Int))).map iD := ⟨_, rfl⟩
              have hCl : C.length = 1 + Q.length + j := by rw [hC]; simp; omega
              have hClow : ∀ c ∈ C, Low n c := by rw [hC]; exact lowP _
              have hCt := take_all C (k := 1 + Q.length + j) (by rw [hCl])
              have hfit : 1 + Q.length + j ≤ C.length := by omega
              have hf24 : (1 + Q.length + j + 1) * 24 ≤ 140737488355328 := by omega
              have hf8 : (1 + p.length) * 8 ≤ 140737488355328 := by omega
              have hC2 : ([] :: Q ++ (ps.take (j + 1)).map (List.cons (i : Int))).map iD = C ++ [iD ((i : Int) :: p)] := by
                rw [htk, hC]; simp
              have hC2' : iD [] :: (Q ++ (ps.take (j + 1)).map (List.cons (i : Int))).map iD = C ++ [iD ((i : Int) :: p)] := hC2
              rw [← hC]
              simp -implicitDefEqProofs only [↓symPre, symPost, y_condP, y_condG, run, lver, minD, intsD, eqAll, tupD, splice, Nat.zero_add, Nat.add_zero, Nat.zero_mul, Nat.mul_one, Nat.one_mul, Nat.reduceAdd, Nat.reduceSub, Nat.reduceMul, Nat.reduceLT, Nat.reduceLeDiff, Nat.reduceEqDiff, true_and, and_true, true_implies, if_true, if_false, ite_true, reduceIte, ne_eq, not_false_eq_true, reduceCtorEq, forall_const, bne_self_eq_false, Bool.true_eq_false, Bool.false_eq_true, false_implies, and_self, implies_true, Int.toNat_zero, beq_self_eq_true, decide_true, decide_false, Bool.not_true, Bool.not_false, ↓y_call, List.length_map, p1, p0, decide_true, Int.toNat_natCast, e1, srcOf, Nat.le_refl, ints_cells, ints_flat, ints_one, hf8, hCt, hfit, hf24, w2]
              refine ⟨(j + 1, u + 1), ⟨by simp only; omega, by simp only; omega⟩, by simp only; omega, ?_⟩
              refine le_to (List.replicate 8 .hole ++ [.old 8] ++ List.replicate 29 .hole) hl rfl ?_ ?_ <;> ((try simp only [y_blk_end, y_blk_hole, y_blk_nil, y_blk_old, y_wkl_end, y_wkl_top, List.replicate, List.cons_append, List.nil_append, and_true, true_and]) <;> (repeat' (first | apply And.intro | apply y_wkl | refine Exists.intro _ (And.intro rfl ?_))) <;> (try first | exact trivial | exact Wk.top _ | exact wk_int rfl | exact wk_bool rfl | exact wk_ptr rfl rfl rfl rfl | exact wk_ref rfl rfl rfl rfl rfl | exact wk_nil rfl rfl rfl | exact wk_ref rfl rfl rfl rfl (by simp) | exact wk_ref rfl rfl rfl rfl (by simp; omega) | exact wk_old (by assumption) (by simp) | exact wk_eq rfl (by first | exact Bd.int _ _ | exact Bd.bool _ | exact Bd.abool | exact Bd.nils | exact Bd.emp | exact Bd.nilp | exact Bd.nilfn | assumption | exact low_trees _ _ | exact low_treeD _ _ | exact low_ints _ _) | exact Nat.le_refl _ | exact wk_int (by simp) | exact wk_int (by omega) | exact Nat.succ_le_succ (Nat.zero_le _) | exact Nat.le_add_left _ _ | omega))
              · rw [hC2']
                refine WkL.app (WkL.low hClow) (y_wkl (wk_frzF (D.int .i64) (sz := 1) (fun _ => rfl) (low_intD n) (t := 30) (ver := 2) (l := (i : Int) :: p) rfl (by rw [cellsF_int]; rfl) (by simp) (by simp; omega)) trivial)
            · have p1 : ¬ (j : Int) < (ps.length : Int) := by omega
              have hjp : j = ps.length := by omega
              subst hjp
              rw [List.take_length]
              simp -implicitDefEqProofs only [↓symPre, symPost, y_condP, y_condG, run, lver, minD, intsD, eqAll, tupD, splice, Nat.zero_add, Nat.add_zero, Nat.zero_mul, Nat.mul_one, Nat.one_mul, Nat.reduceAdd, Nat.reduceSub, Nat.reduceMul, Nat.reduceLT, Nat.reduceLeDiff, Nat.reduceEqDiff, true_and, and_true, true_implies, if_true, if_false, ite_true, reduceIte, ne_eq, not_false_eq_true, reduceCtorEq, forall_const, bne_self_eq_false, Bool.true_eq_false, Bool.false_eq_true, false_implies, and_self, implies_true, Int.toNat_zero, beq_self_eq_true, decide_true, decide_false, Bool.not_true, Bool.not_false, ↓y_call, p1, decide_false, w1]
              refine ⟨(i + 1, u), ⟨by simp only; omega, hu⟩, by simp only; omega, ?_⟩
              simp only [hpk, List.length_append, List.length_map]
              refine le_to (List.replicate 8 .hole ++ [.old 8] ++ List.replicate 29 .hole) hl rfl ?_ ?_ <;> ((try simp only [y_blk_end, y_blk_hole, y_blk_nil, y_blk_old, y_wkl_end, y_wkl_top, List.replicate, List.cons_append, List.nil_append, and_true, true_and]) <;> (repeat' (first | apply And.intro | apply y_wkl | refine Exists.intro _ (And.intro rfl ?_))) <;> (try first | exact trivial | exact Wk.top _ | exact wk_int rfl | exact wk_bool rfl | exact wk_ptr rfl rfl rfl rfl | exact wk_ref rfl rfl rfl rfl rfl | exact wk_nil rfl rfl rfl | exact wk_ref rfl rfl rfl rfl (by simp) | exact wk_ref rfl rfl rfl rfl (by simp; omega) | exact wk_old (by assumption) (by simp) | exact wk_eq rfl (by first | exact Bd.int _ _ | exact Bd.bool _ | exact Bd.abool | exact Bd.nils | exact Bd.emp | exact Bd.nilp | exact Bd.nilfn | assumption | exact low_trees _ _ | exact low_treeD _ _ | exact low_ints _ _) | exact Nat.le_refl _ | exact wk_int (by simp) | exact wk_int (by omega) | exact Nat.succ_le_succ (Nat.zero_le _) | exact Nat.le_add_left _ _ | omega))
              all_goals first | exact WkL.low (lowP _) | exact wk_ref rfl rfl rfl rfl (by omega) | exact .low _ (low_iDs n [])
        · have f1 : ¬ (i : Int) < (ks.length : Int) := by omega
          have hil : i = ks.length := by omega
          subst hil
          rw [List.take_length]
          simp -implicitDefEqProofs only [↓symPre, symPost, y_condP, y_condG, run, lver, minD, intsD, eqAll, tupD, splice, Nat.zero_add, Nat.add_zero, Nat.zero_mul, Nat.mul_one, Nat.one_mul, Nat.reduceAdd, Nat.reduceSub, Nat.reduceMul, Nat.reduceLT, Nat.reduceLeDiff, Nat.reduceEqDiff, true_and, and_true, true_implies, if_true, if_false, ite_true, reduceIte, ne_eq, not_false_eq_true, reduceCtorEq, forall_const, bne_self_eq_false, Bool.true_eq_false, Bool.false_eq_true, false_implies, and_self, implies_true, Int.toNat_zero, beq_self_eq_true, decide_true, decide_false, Bool.not_true, Bool.not_false, ↓y_call, f1, decide_false]
          refine fin_wk hl ?_ ⟨rfl, rfl, by rw [pathsT_mk, if_neg hr]⟩
          exact wk_frzF iD (sz := 1) (fun _ => rfl) (low_iDs n) (t := 8) (l := [] :: pathsK ks 0) rfl (by rw [cellsF_iD]; rfl) (by simp) (by simp; omega)
termination_by t => t

end Abs
end Go.Proofs.Ytfojedaccfenfaa

/- list; patterns made of words. -/
import Derived.Test.YtokdeeagghhliaaO24
namespace Go.Proofs.Ytokdeeagghhliaa
namespace Abs
set_option linter.unusedVariables false
set_option linter.unusedSimpArgs false
set_option maxRecDepth 20000

theorem wk_aggL {X : Wx} {cs cs' : List D} (h : WkL X cs cs') : Wk X (.agg cs) (.agg cs') := .agg _ _ h.len h.get
theorem wk_frzC {α : Type} (f : α → D) {X : Wx} {sz : Nat} (hsz : ∀ x, (f x).cells.length = sz) {b t ver len : Nat} {cs : List D} {l : List α} (e : b = X.n + t) (hb : X.lc[t]? = some ⟨ver, .cells cs⟩) (hg : Src1.old t ∉ X.g) (hl : len = l.length) (hW : WkL X cs (cellsF f l)) :
    Wk X (.ref sz b ver 0 len) (.lst (l.map f)) := by
  subst e; subst hl
  have hlen := hW.len
  rw [cellsF_len f hsz] at hlen
  refine .frz sz t ver 0 l.length cs _ hb hg (by simp) (by omega) (fun d hd => ?_) fun i d hd j e he => ?_
  · obtain ⟨x, _, rfl⟩ := List.mem_map.1 hd; exact hsz x
  · rw [List.getElem?_map, Option.map_eq_some_iff] at hd
    obtain ⟨x, hx, rfl⟩ := hd
    have hc := cellsF_get f hsz l i j x e hx he
    rw [Nat.zero_add]
    have hj : i * sz + j < cs.length := by rw [← hW.len]; exact (List.getElem?_eq_some_iff.1 hc).1
    have := hW.get (i * sz + j) cs[i * sz + j] e (by simp [hj]) hc
    simpa [nth, List.getD, hj] using this

def listG : Gr := ⟨1, 1, 0, [⟨0, [⟨false, 0⟩, ⟨true, 0⟩]⟩, ⟨0, [⟨true, 0⟩]⟩]⟩

theorem pure_list : Pure prog F_parlkeep4_list [] (gramD listG) := by
  intro n h
  refine K_parlkeep4_list.calls fun hl => ?_
  unfold C_parlkeep4_list
  simp -implicitDefEqProofs only [↓symPre, symPost, y_condP, y_condG, run, lver, minD, intsD, eqAll, tupD, splice, Nat.zero_add, Nat.add_zero, Nat.zero_mul, Nat.mul_one, Nat.one_mul, Nat.reduceAdd, Nat.reduceSub, Nat.reduceMul, Nat.reduceLT, Nat.reduceLeDiff, Nat.reduceEqDiff, true_and, and_true, true_implies, if_true, if_false, ite_true, reduceIte, ne_eq, not_false_eq_true, reduceCtorEq, forall_const, bne_self_eq_false, Bool.true_eq_false, Bool.false_eq_true, false_implies, and_self, implies_true, Int.toNat_zero, beq_self_eq_true, decide_true, decide_false, Bool.not_true, Bool.not_false, ↓y_lookv, y_key1, y_mlook, y_mlookn, y_mres1, y_mres0, ↓y_call]
  refine fin_wk (d := gramD listG) hl ?_ ⟨rfl, rfl, rfl⟩
  refine wk_aggL (y_wkl (wk_int rfl) (y_wkl (wk_int rfl) (y_wkl (wk_int rfl) (y_wkl (wk_frzC ruleD ruleD_cells (t := 10) rfl rfl (by simp) rfl ?_) trivial))))
  refine y_wkl (wk_int rfl) (y_wkl (wk_frzC symD symD_cells (t := 5) rfl rfl (by simp) rfl ?_) (y_wkl (wk_int rfl) (y_wkl (wk_frzC symD symD_cells (t := 8) rfl rfl (by simp) rfl ?_) trivial)))
  · exact WkL.low fun c hc => low_cellsF symD (low_symD _) [⟨false, 0⟩, ⟨true, 0⟩] c hc
  · exact WkL.low fun c hc => low_cellsF symD (low_symD _) [⟨true, 0⟩] c hc


def tSy (x : Int) : Sy := ⟨true, x⟩
/-- nil, held to be an empty slice of its own -/
theorem fin_nil0 {n : Nat} {sl : List D} {h : Heap} {lc : List Blk} {R : D → Heap → List Blk → Prop} {sz : Nat} (hl : LowH n h)
    (hR : R (.ref sz (n + 0) 1 0 0) h [⟨1, .cells []⟩]) : Fin (St.mk n sl h lc) R [.nils] := by
  refine ⟨hl, [.nil], [⟨1, .cells []⟩], _, ⟨rfl, ?_, ?_⟩, wk_nil (n := n) (i := 0) rfl rfl rfl, by simp, hR⟩
  · intro i x k h1 h2
    cases i with
    | zero => simp at h1 h2; subst h1; subst h2; exact Nat.le_refl _
    | succ i => simp at h1
  · intro i j t' h1 h2
    cases i <;> cases j <;> simp at h1 h2

theorem fresh_terminals (w : List Int) (hfit : w.length * 16 ≤ 140737488355328) : Fresh prog F_parlkeep4_terminals [iD w] 2 (cellsF symD (w.map tSy)) w.length := by
  intro n h
  refine K_parlkeep4_terminals.calls fun hl => ?_
  unfold C_parlkeep4_terminals
  simp -implicitDefEqProofs only [↓symPre, symPost, y_condP, y_condG, run, lver, minD, intsD, eqAll, tupD, splice, Nat.zero_add, Nat.add_zero, Nat.zero_mul, Nat.mul_one, Nat.one_mul, Nat.reduceAdd, Nat.reduceSub, Nat.reduceMul, Nat.reduceLT, Nat.reduceLeDiff, Nat.reduceEqDiff, true_and, and_true, true_implies, if_true, if_false, ite_true, reduceIte, ne_eq, not_false_eq_true, reduceCtorEq, forall_const, bne_self_eq_false, Bool.true_eq_false, Bool.false_eq_true, false_implies, and_self, implies_true, Int.toNat_zero, beq_self_eq_true, decide_true, decide_false, Bool.not_true, Bool.not_false, ↓y_lookv, y_key1, y_mlook, y_mlookn, y_mres1, y_mres0, ↓y_call, List.length_map]
  refine aloop (fun p : Nat × Nat => St.mk n ([.top, .top, .top, .ref 2 (n + 16) p.2 0 p.1, .top, .top, iD w, .int .i64 w.length, .int .i64 p.1] ++ List.replicate 10 .top) h
      (List.replicate 16 blk0 ++ [⟨p.2, .cells (cellsF symD ((w.take p.1).map tSy))⟩] ++ List.replicate 2 blk0)) (fun p => p.1 ≤ w.length ∧ 1 ≤ p.2) (fun p => w.length - p.1) (0, 1) ⟨Nat.zero_le _, Nat.le_refl _⟩ ?_ ?_
  · refine le_to (List.replicate 16 .hole ++ [.nil] ++ List.replicate 2 .hole) hl rfl ?_ ?_ <;> ((try simp only [y_blk_end, y_blk_hole, y_blk_nil, y_blk_old, y_wkl_end, y_wkl_top, List.replicate, List.cons_append, List.nil_append, and_true, true_and]) <;> (repeat' (first | apply And.intro | apply y_wkl | refine Exists.intro _ (And.intro rfl ?_))) <;> (try first | exact trivial | exact Wk.top _ | exact wk_int rfl | exact wk_bool rfl | exact wk_ptr rfl rfl rfl rfl | exact wk_ref rfl rfl rfl rfl rfl | exact wk_nil rfl rfl rfl | exact wk_ref rfl rfl rfl rfl (by simp) | exact wk_ref rfl rfl rfl rfl (by simp; omega) | exact wk_old (by assumption) (by simp) | exact wk_eq rfl (by first | exact Bd.int _ _ | exact Bd.bool _ | exact Bd.abool | exact Bd.nils | exact Bd.emp | exact Bd.nilp | exact Bd.nilfn | assumption | exact low_trees _ _ | exact low_treeD _ _ | exact low_ints _ _) | exact Nat.le_refl _ | exact wk_int (by simp) | exact wk_int (by omega) | exact Nat.succ_le_succ (Nat.zero_le _) | exact Nat.le_add_left _ _ | omega))
  · rintro ⟨i, v⟩ ⟨hi, hv⟩
    simp only at hi hv
    by_cases hlt : i < w.length
    · have h2 : (i : Int) < (w.length : Int) := by omega
      have h3 : (0 : Int) ≤ (i : Int) := by omega
      have e0 := nth_ints w i hlt
      have w1 : IntKind.i64.wrap ((i : Int) + 1) = ((i + 1 : Nat) : Int) := by rw [IntWalk.i64_in _ (by omega)]; omega
      have hf : (i + 1) * 16 ≤ 140737488355328 := by omega
      have hs : cellsF symD ((w.take (i + 1)).map tSy) = cellsF symD ((w.take i).map tSy) ++ [.bool true, .int .i64 w[i]] := by
        rw [List.take_succ_eq_append_getElem hlt, List.map_append, cellsF_app]; rfl
      have el : (cellsF symD ((w.take i).map tSy)).length = i * 2 := by rw [cellsF_len symD symD_cells]; simp; omega
      have hCt := take_all (cellsF symD ((w.take i).map tSy)) (k := i * 2) (by omega)
      generalize hA : cellsF symD ((w.take i).map tSy) = A at *
      simp -implicitDefEqProofs only [↓symPre, symPost, y_condP, y_condG, run, lver, minD, intsD, eqAll, tupD, splice, Nat.zero_add, Nat.add_zero, Nat.zero_mul, Nat.mul_one, Nat.one_mul, Nat.reduceAdd, Nat.reduceSub, Nat.reduceMul, Nat.reduceLT, Nat.reduceLeDiff, Nat.reduceEqDiff, true_and, and_true, true_implies, if_true, if_false, ite_true, reduceIte, ne_eq, not_false_eq_true, reduceCtorEq, forall_const, bne_self_eq_false, Bool.true_eq_false, Bool.false_eq_true, false_implies, and_self, implies_true, Int.toNat_zero, beq_self_eq_true, decide_true, decide_false, Bool.not_true, Bool.not_false, ↓y_lookv, y_key1, y_mlook, y_mlookn, y_mres1, y_mres0, ↓y_call, List.length_map, h2, h3, decide_true, Int.toNat_natCast, e0, w1, srcOf, Nat.le_refl, hf, hCt, el]
      refine ⟨(i + 1, v + 1), ⟨by simp only; omega, by simp only; omega⟩, by simp only; omega, ?_⟩
      simp only [hs]
      have hlA : ∀ c ∈ A, Low n c := by rw [← hA]; exact low_cellsF symD (low_symD n) _
      refine le_to (List.replicate 16 .hole ++ [.old 16] ++ List.replicate 2 .hole) hl rfl ?_ ?_ <;> ((try simp only [y_blk_end, y_blk_hole, y_blk_nil, y_blk_old, y_wkl_end, y_wkl_top, List.replicate, List.cons_append, List.nil_append, and_true, true_and]) <;> (repeat' (first | apply And.intro | apply y_wkl | refine Exists.intro _ (And.intro rfl ?_))) <;> (try first | exact trivial | exact Wk.top _ | exact wk_int rfl | exact wk_bool rfl | exact wk_ptr rfl rfl rfl rfl | exact wk_ref rfl rfl rfl rfl rfl | exact wk_nil rfl rfl rfl | exact wk_ref rfl rfl rfl rfl (by simp) | exact wk_ref rfl rfl rfl rfl (by simp; omega) | exact wk_old (by assumption) (by simp) | exact wk_eq rfl (by first | exact Bd.int _ _ | exact Bd.bool _ | exact Bd.abool | exact Bd.nils | exact Bd.emp | exact Bd.nilp | exact Bd.nilfn | assumption | exact low_trees _ _ | exact low_treeD _ _ | exact low_ints _ _) | exact Nat.le_refl _ | exact wk_int (by simp) | exact wk_int (by omega) | exact Nat.succ_le_succ (Nat.zero_le _) | exact Nat.le_add_left _ _ | omega))
      all_goals first | exact WkL.app (WkL.low hlA) (y_wkl (.low _ (.bool _)) (y_wkl (.low _ (.int ..)) trivial)) | trace_state
    · have h2 : ¬ (i : Int) < (w.length : Int) := by omega
      obtain rfl : i = w.length := by omega
      simp -implicitDefEqProofs only [↓symPre, symPost, y_condP, y_condG, run, lver, minD, intsD, eqAll, tupD, splice, Nat.zero_add, Nat.add_zero, Nat.zero_mul, Nat.mul_one, Nat.one_mul, Nat.reduceAdd, Nat.reduceSub, Nat.reduceMul, Nat.reduceLT, Nat.reduceLeDiff, Nat.reduceEqDiff, true_and, and_true, true_implies, if_true, if_false, ite_true, reduceIte, ne_eq, not_false_eq_true, reduceCtorEq, forall_const, bne_self_eq_false, Bool.true_eq_false, Bool.false_eq_true, false_implies, and_self, implies_true, Int.toNat_zero, beq_self_eq_true, decide_true, decide_false, Bool.not_true, Bool.not_false, ↓y_lookv, y_key1, y_mlook, y_mlookn, y_mres1, y_mres0, ↓y_call, h2, decide_false]
      rw [List.take_length]
      exact fin_ref hl (t := 16) rfl hv (low_cellsF symD (low_symD n) _) ⟨rfl, v, rfl, rfl⟩

end Abs
end Go.Proofs.Ytokdeeagghhliaa

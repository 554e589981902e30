/- Cover: the path of the smallest node that contains some leaves. -/
import Derived.Test.YtfojedaccfenfaaH3
namespace Go.Proofs.Ytfojedaccfenfaa
namespace Abs
set_option linter.unusedVariables false
set_option linter.unusedSimpArgs false
set_option maxRecDepth 20000

/-- the first kid that contains the leaves, and the number of its first leaf; none: the number of all leaves -/
def coverIx : List Tree → Nat → Int → Int → Int → Option Nat × Int
  | [], _, low, _, _ => (none, low)
  | k :: ks, i, low, a, b => if low ≤ a ∧ b ≤ low + (wordL k).length then (some i, low) else coverIx ks (i + 1) (low + (wordL k).length) a b
def ixI : Option Nat → Int
  | none => -1
  | some i => i

def iB (v : Nat) (i : Int) : Blk := ⟨v, .cells [.int .i64 i]⟩

theorem at_Cover1 (k : Tree) (hsz : size k * 40 ≤ 140737488355328) (low a b : Int) (h0 : 0 ≤ low) (h1 : low < 2 ^ 60) {n : Nat} {h : Heap} {bl bf bt vl vf vt : Nat} (hbl : bl < n) (hbf : bf < n) (hbt : bt < n)
    (hl' : h bl = iB vl low) (hf' : h bf = iB vf a) (ht' : h bt = iB vt b) :
    ACalls prog F_tree_Cover_1 [treeD k, .ptr bl vl 0, .ptr bf vf 0, .ptr bt vt 0] n h fun d h' x => x = [] ∧ (if low ≤ a ∧ b ≤ low + (wordL k).length then h' = h ∧ d = .bool true else h' = upd h bl (iB vl (low + (wordL k).length)) ∧ d = .bool false) := by
  have pw := pure_Word k hsz
  have hwl := wordL_len k
  obtain ⟨r0, t0, k0, ht⟩ : ∃ r t' k', k = .mk r t' k' := by cases k; exact ⟨_, _, _, rfl⟩
  have htD : treeD k = .agg [.int .i64 r0, .int .i64 t0, .lst (k0.map treeD)] := by rw [ht, treeD_mk]
  rw [htD] at pw ⊢
  refine K_tree_Cover_1.calls fun hl => ?_
  unfold C_tree_Cover_1
  unfold iB at hl' hf' ht'
  simp -implicitDefEqProofs only [↓symPre, symPost, y_condP, y_condG, run, lver, minD, intsD, eqAll, tupD, splice, Nat.zero_add, Nat.add_zero, Nat.zero_mul, Nat.mul_one, Nat.one_mul, Nat.reduceAdd, Nat.reduceSub, Nat.reduceMul, Nat.reduceLT, Nat.reduceLeDiff, Nat.reduceEqDiff, true_and, and_true, true_implies, if_true, if_false, ite_true, reduceIte, ne_eq, not_false_eq_true, reduceCtorEq, forall_const, bne_self_eq_false, Bool.true_eq_false, Bool.false_eq_true, false_implies, and_self, implies_true, Int.toNat_zero, beq_self_eq_true, decide_true, decide_false, Bool.not_true, Bool.not_false, ↓y_call]
  refine pw.call rfl ?_
  have w1 : IntKind.i64.wrap (low + ((wordL k).length : Int)) = low + ((wordL k).length : Int) := IntWalk.i64_in _ (by omega)
  by_cases c1 : low ≤ a
  · by_cases c2 : b ≤ low + ((wordL k).length : Int)
    · simp -implicitDefEqProofs only [↓symPre, symPost, y_condP, y_condG, run, lver, minD, intsD, eqAll, tupD, splice, Nat.zero_add, Nat.add_zero, Nat.zero_mul, Nat.mul_one, Nat.one_mul, Nat.reduceAdd, Nat.reduceSub, Nat.reduceMul, Nat.reduceLT, Nat.reduceLeDiff, Nat.reduceEqDiff, true_and, and_true, true_implies, if_true, if_false, ite_true, reduceIte, ne_eq, not_false_eq_true, reduceCtorEq, forall_const, bne_self_eq_false, Bool.true_eq_false, Bool.false_eq_true, false_implies, and_self, implies_true, Int.toNat_zero, beq_self_eq_true, decide_true, decide_false, Bool.not_true, Bool.not_false, ↓y_call, List.length_map, ↓y_at_old hbl, ↓y_at_old hbf, ↓y_at_old hbt, hbl, hbf, hbt, hl', hf', ht', w1, c1, c2]
      exact fin_low hl (.bool _) ⟨rfl, by simp [tupD]⟩
    · simp -implicitDefEqProofs only [↓symPre, symPost, y_condP, y_condG, run, lver, minD, intsD, eqAll, tupD, splice, Nat.zero_add, Nat.add_zero, Nat.zero_mul, Nat.mul_one, Nat.one_mul, Nat.reduceAdd, Nat.reduceSub, Nat.reduceMul, Nat.reduceLT, Nat.reduceLeDiff, Nat.reduceEqDiff, true_and, and_true, true_implies, if_true, if_false, ite_true, reduceIte, ne_eq, not_false_eq_true, reduceCtorEq, forall_const, bne_self_eq_false, Bool.true_eq_false, Bool.false_eq_true, false_implies, and_self, implies_true, Int.toNat_zero, beq_self_eq_true, decide_true, decide_false, Bool.not_true, Bool.not_false, ↓y_call, List.length_map, ↓y_at_old hbl, ↓y_at_old hbf, ↓y_at_old hbt, hbl, hbf, hbt, hl', hf', ht', w1, c1, c2]
      exact fin_low (lowH_upd hl (by simp; exact .int ..)) (.bool _) ⟨rfl, by simp [tupD, iB]⟩
  · simp -implicitDefEqProofs only [↓symPre, symPost, y_condP, y_condG, run, lver, minD, intsD, eqAll, tupD, splice, Nat.zero_add, Nat.add_zero, Nat.zero_mul, Nat.mul_one, Nat.one_mul, Nat.reduceAdd, Nat.reduceSub, Nat.reduceMul, Nat.reduceLT, Nat.reduceLeDiff, Nat.reduceEqDiff, true_and, and_true, true_implies, if_true, if_false, ite_true, reduceIte, ne_eq, not_false_eq_true, reduceCtorEq, forall_const, bne_self_eq_false, Bool.true_eq_false, Bool.false_eq_true, false_implies, and_self, implies_true, Int.toNat_zero, beq_self_eq_true, decide_true, decide_false, Bool.not_true, Bool.not_false, ↓y_call, List.length_map, ↓y_at_old hbl, ↓y_at_old hbf, ↓y_at_old hbt, hbl, hbf, hbt, hl', hf', ht', w1, c1]
    exact fin_low (lowH_upd hl (by simp; exact .int ..)) (.bool _) ⟨rfl, by simp [tupD, iB]⟩

set_option maxHeartbeats 1000000 in
theorem at_IndexCover (ks : List Tree) (hsz : (ks.map size).sum * 40 ≤ 140737488355328) (a b : Int) {n : Nat} {h : Heap} {bl bf bt vl vf vt : Nat} (hbl : bl < n) (hbf : bf < n) (hbt : bt < n) (n1 : bf ≠ bl) (n2 : bt ≠ bl)
    (hl' : h bl = iB vl 0) (hf' : h bf = iB vf a) (ht' : h bt = iB vt b) :
    ACalls prog F_slices_IndexFunc_api_Tree_api_Tree [.lst (ks.map treeD), .fn F_tree_Cover_1 [.ptr bl vl 0, .ptr bf vf 0, .ptr bt vt 0]] n h fun d h' x => x = [] ∧ h' = upd h bl (iB vl (coverIx ks 0 0 a b).2) ∧ d = .int .i64 (ixI (coverIx ks 0 0 a b).1) := by
  refine K_slices_IndexFunc_api_Tree_api_Tree.calls fun hl => ?_
  unfold C_slices_IndexFunc_api_Tree_api_Tree
  have hkl := len_le_sum ks
  have lowI : ∀ i, LowH n (upd h bl (iB vl i)) := fun i => lowH_upd hl (by simp; exact .int ..)
  have lowF : Low n (.fn F_tree_Cover_1 [.ptr bl vl 0, .ptr bf vf 0, .ptr bt vt 0]) := .fn _ _ fun c hc => by
    simp only [List.mem_cons, List.not_mem_nil, or_false] at hc
    rcases hc with rfl | rfl | rfl
    · exact .ptr _ _ _ (.inl hbl)
    · exact .ptr _ _ _ (.inl hbf)
    · exact .ptr _ _ _ (.inl hbt)
  simp -implicitDefEqProofs only [↓symPre, symPost, y_condP, y_condG, run, lver, minD, intsD, eqAll, tupD, splice, Nat.zero_add, Nat.add_zero, Nat.zero_mul, Nat.mul_one, Nat.one_mul, Nat.reduceAdd, Nat.reduceSub, Nat.reduceMul, Nat.reduceLT, Nat.reduceLeDiff, Nat.reduceEqDiff, true_and, and_true, true_implies, if_true, if_false, ite_true, reduceIte, ne_eq, not_false_eq_true, reduceCtorEq, forall_const, bne_self_eq_false, Bool.true_eq_false, Bool.false_eq_true, false_implies, and_self, implies_true, Int.toNat_zero, beq_self_eq_true, decide_true, decide_false, Bool.not_true, Bool.not_false, ↓y_call, List.length_map]
  refine aloop (fun q : Nat × Int => St.mk n ([.lst (ks.map treeD), .fn F_tree_Cover_1 [.ptr bl vl 0, .ptr bf vf 0, .ptr bt vt 0]] ++ List.replicate 5 .top ++ [.int .i64 ks.length, .int .i64 q.1] ++ List.replicate 10 .top) (upd h bl (iB vl q.2))
      (List.replicate 19 blk0)) (fun q => q.1 ≤ ks.length ∧ 0 ≤ q.2 ∧ q.2 ≤ (((ks.take q.1).map size).sum : Nat) ∧ coverIx (ks.drop q.1) q.1 q.2 a b = coverIx ks 0 0 a b) (fun q => ks.length - q.1) (0, 0) ⟨Nat.zero_le _, Int.le_refl _, by simp, by simp⟩ ?_ ?_
  · refine le_toh (List.replicate 19 .hole) hl (upd_self hl') rfl ?_ ?_ <;> ((try simp only [y_blk_end, y_blk_hole, y_blk_nil, y_blk_old, y_wkl_end, y_wkl_top, List.replicate, List.cons_append, List.nil_append, and_true, true_and]) <;> (repeat' (first | apply And.intro | apply y_wkl | refine Exists.intro _ (And.intro rfl ?_))) <;> (try first | exact trivial | exact Wk.top _ | exact wk_int rfl | exact wk_bool rfl | exact wk_ptr rfl rfl rfl rfl | exact wk_ref rfl rfl rfl rfl rfl | exact wk_nil rfl rfl rfl | exact wk_ref rfl rfl rfl rfl (by simp) | exact wk_ref rfl rfl rfl rfl (by simp; omega) | exact wk_old (by assumption) (by simp) | exact wk_eq rfl (by first | exact Bd.int _ _ | exact Bd.bool _ | exact Bd.abool | exact Bd.nils | exact Bd.emp | exact Bd.nilp | exact Bd.nilfn | assumption | exact low_trees _ _ | exact low_treeD _ _ | exact low_ints _ _) | exact Nat.le_refl _ | exact wk_int (by simp) | exact wk_int (by omega) | exact Nat.succ_le_succ (Nat.zero_le _) | exact Nat.le_add_left _ _ | omega))
  · rintro ⟨i, low⟩ ⟨hi, h0, h1, hco⟩
    simp only at hi h0 h1 hco
    have hbl1 : upd h bl (iB vl low) bl = iB vl low := upd_same ..
    have hbf1 : upd h bl (iB vl low) bf = iB vf a := by rw [upd_ne n1]; exact hf'
    have hbt1 : upd h bl (iB vl low) bt = iB vt b := by rw [upd_ne n2]; exact ht'
    by_cases hlt : i < ks.length
    · have f1 : (i : Int) < (ks.length : Int) := by omega
      have f0 : (0 : Int) ≤ (i : Int) := by omega
      have w1 : IntKind.i64.wrap ((i : Int) + 1) = ((i + 1 : Nat) : Int) := by rw [IntWalk.i64_in _ (by omega)]; omega
      have e0 := nth_map_tree ks i hlt
      have hsi := size_kid (List.getElem_mem hlt)
      have hst := sum_take_succ (ks.map size) i (by simpa using hlt)
      have hst2 := sum_take_le (ks.map size) (i + 1)
      have hst3 := sum_take_le (ks.map size) i
      simp only [List.getElem_map] at hst
      simp only [← List.map_take] at hst hst2 hst3
      have hwl := wordL_len ks[i]
      rw [List.drop_eq_getElem_cons hlt] at hco
      simp only [coverIx] at hco
      have hc1 := @at_Cover1 ks[i] (by omega) low a b h0 (by omega) (n + 19) (mrg n (upd h bl (iB vl low)) (List.replicate 19 blk0)) bl bf bt vl vf vt (by omega) (by omega) (by omega) (by rw [mrg_lt hbl]; exact hbl1) (by rw [mrg_lt hbf]; exact hbf1) (by rw [mrg_lt hbt]; exact hbt1)
      generalize hkk : ks[i] = kk at *
      obtain ⟨kr, kt, kk', ek⟩ : ∃ r' t' k', kk = .mk r' t' k' := by cases kk; exact ⟨_, _, _, rfl⟩
      have ekD : treeD kk = .agg [.int .i64 kr, .int .i64 kt, .lst (kk'.map treeD)] := by rw [ek, treeD_mk]
      rw [ekD] at e0 hc1
      simp -implicitDefEqProofs only [↓symPre, symPost, y_condP, y_condG, run, lver, minD, intsD, eqAll, tupD, splice, Nat.zero_add, Nat.add_zero, Nat.zero_mul, Nat.mul_one, Nat.one_mul, Nat.reduceAdd, Nat.reduceSub, Nat.reduceMul, Nat.reduceLT, Nat.reduceLeDiff, Nat.reduceEqDiff, true_and, and_true, true_implies, if_true, if_false, ite_true, reduceIte, ne_eq, not_false_eq_true, reduceCtorEq, forall_const, bne_self_eq_false, Bool.true_eq_false, Bool.false_eq_true, false_implies, and_self, implies_true, Int.toNat_zero, beq_self_eq_true, decide_true, decide_false, Bool.not_true, Bool.not_false, ↓y_call, f1, f0, decide_true, List.length_map, Int.toNat_natCast, e0, ↓y_callv]
      by_cases cc : low ≤ a ∧ b ≤ low + ((wordL kk).length : Int)
      · rw [if_pos cc] at hco
        simp only [if_pos cc] at hc1
        refine hc1.mono fun d h' x ⟨hx, hh, hd⟩ => .inl ⟨[], by simp [St.inr], hx, by rw [hh]; rfl, ?_⟩
        subst hd
        simp -implicitDefEqProofs only [↓symPre, symPost, y_condP, y_condG, run, lver, minD, intsD, eqAll, tupD, splice, Nat.zero_add, Nat.add_zero, Nat.zero_mul, Nat.mul_one, Nat.one_mul, Nat.reduceAdd, Nat.reduceSub, Nat.reduceMul, Nat.reduceLT, Nat.reduceLeDiff, Nat.reduceEqDiff, true_and, and_true, true_implies, if_true, if_false, ite_true, reduceIte, ne_eq, not_false_eq_true, reduceCtorEq, forall_const, bne_self_eq_false, Bool.true_eq_false, Bool.false_eq_true, false_implies, and_self, implies_true, Int.toNat_zero, beq_self_eq_true, decide_true, decide_false, Bool.not_true, Bool.not_false, ↓y_call]
        refine fin_low (lowI _) (.int ..) ⟨rfl, ?_, ?_⟩
        · rw [← hco]
        · rw [← hco]; rfl
      · rw [if_neg cc] at hco
        simp only [if_neg cc] at hc1
        refine hc1.mono fun d h' x ⟨hx, hh, hd⟩ => .inl ⟨[(bl, iB vl (low + (wordL kk).length))], by simp [St.inr]; omega, hx, by rw [hh]; rfl, ?_⟩
        subst hd
        simp -implicitDefEqProofs only [↓symPre, symPost, y_condP, y_condG, run, lver, minD, intsD, eqAll, tupD, splice, Nat.zero_add, Nat.add_zero, Nat.zero_mul, Nat.mul_one, Nat.one_mul, Nat.reduceAdd, Nat.reduceSub, Nat.reduceMul, Nat.reduceLT, Nat.reduceLeDiff, Nat.reduceEqDiff, true_and, and_true, true_implies, if_true, if_false, ite_true, reduceIte, ne_eq, not_false_eq_true, reduceCtorEq, forall_const, bne_self_eq_false, Bool.true_eq_false, Bool.false_eq_true, false_implies, and_self, implies_true, Int.toNat_zero, beq_self_eq_true, decide_true, decide_false, Bool.not_true, Bool.not_false, ↓y_call, hbl, w1]
        refine ⟨(i + 1, low + (wordL kk).length), ⟨by simp only; omega, by simp only; omega, by simp only; omega, hco⟩, by simp only; omega, ?_⟩
        refine le_toh (List.replicate 19 .hole) (lowH_upd (lowI _) (by simp; exact .int ..)) (upd_upd ..).symm rfl ?_ ?_ <;> ((try simp only [y_blk_end, y_blk_hole, y_blk_nil, y_blk_old, y_wkl_end, y_wkl_top, List.replicate, List.cons_append, List.nil_append, and_true, true_and]) <;> (repeat' (first | apply And.intro | apply y_wkl | refine Exists.intro _ (And.intro rfl ?_))) <;> (try first | exact trivial | exact Wk.top _ | exact wk_int rfl | exact wk_bool rfl | exact wk_ptr rfl rfl rfl rfl | exact wk_ref rfl rfl rfl rfl rfl | exact wk_nil rfl rfl rfl | exact wk_ref rfl rfl rfl rfl (by simp) | exact wk_ref rfl rfl rfl rfl (by simp; omega) | exact wk_old (by assumption) (by simp) | exact wk_eq rfl (by first | exact Bd.int _ _ | exact Bd.bool _ | exact Bd.abool | exact Bd.nils | exact Bd.emp | exact Bd.nilp | exact Bd.nilfn | assumption | exact low_trees _ _ | exact low_treeD _ _ | exact low_ints _ _) | exact Nat.le_refl _ | exact wk_int (by simp) | exact wk_int (by omega) | exact Nat.succ_le_succ (Nat.zero_le _) | exact Nat.le_add_left _ _ | omega))
    · have f1 : ¬ (i : Int) < (ks.length : Int) := by omega
      have hil : i = ks.length := by omega
      subst hil
      rw [List.drop_length] at hco
      simp -implicitDefEqProofs only [↓symPre, symPost, y_condP, y_condG, run, lver, minD, intsD, eqAll, tupD, splice, Nat.zero_add, Nat.add_zero, Nat.zero_mul, Nat.mul_one, Nat.one_mul, Nat.reduceAdd, Nat.reduceSub, Nat.reduceMul, Nat.reduceLT, Nat.reduceLeDiff, Nat.reduceEqDiff, true_and, and_true, true_implies, if_true, if_false, ite_true, reduceIte, ne_eq, not_false_eq_true, reduceCtorEq, forall_const, bne_self_eq_false, Bool.true_eq_false, Bool.false_eq_true, false_implies, and_self, implies_true, Int.toNat_zero, beq_self_eq_true, decide_true, decide_false, Bool.not_true, Bool.not_false, ↓y_call, f1, decide_false]
      refine fin_low (lowI _) (.int ..) ⟨rfl, ?_, ?_⟩
      · rw [← hco]; rfl
      · rw [← hco]; rfl

end Abs
end Go.Proofs.Ytfojedaccfenfaa

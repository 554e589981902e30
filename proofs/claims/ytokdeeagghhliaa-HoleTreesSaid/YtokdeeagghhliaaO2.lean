/- Lists of whole numbers: Clone, Grow, Concat. -/
import Derived.Test.YtokdeeagghhliaaO1
namespace Go.Proofs.Ytokdeeagghhliaa
namespace Abs
set_option linter.unusedVariables false
set_option linter.unusedSimpArgs false
set_option maxRecDepth 20000

theorem flat_take_succ {α β : Type} (f : α → List β) : ∀ (ks : List α) (i : Nat) (hi : i < ks.length), ((ks.map f).take (i + 1)).flatten = ((ks.map f).take i).flatten ++ f ks[i]
  | [], i, hi => by simp at hi
  | a :: l, 0, hi => by simp
  | a :: l, i + 1, hi => by
    have := flat_take_succ f l i (by simpa using hi)
    simp only [List.map_cons, List.take_succ_cons, List.flatten_cons, List.getElem_cons_succ, this, List.append_assoc]

theorem flat_take_le {α : Type} : ∀ (ls : List (List α)) (i : Nat), (ls.take i).flatten.length ≤ ls.flatten.length
  | [], i => by simp
  | a :: l, 0 => by simp
  | a :: l, i + 1 => by
    have := flat_take_le l i
    simp only [List.take_succ_cons, List.flatten_cons, List.length_append]
    omega

theorem wk_ints {n : Nat} {lc : List Blk} {t ver len : Nat} {l : List Int} (hb : lc[t]? = some ⟨ver, .cells (l.map (.int .i64))⟩) (hlen : len = l.length) : Wk ⟨n, lc, [], []⟩ (.ref 1 (n + t) ver 0 len) (iD l) :=
  wk_frz1 hb (by simp [hlen]) (by simp [hlen]) fun i d hd => by
    simp only [List.getElem?_map, Option.map_eq_some_iff] at hd
    obtain ⟨x, hx, rfl⟩ := hd
    exact ⟨rfl, by simp [nth, List.getD, hx], .int ..⟩

theorem pure_CloneI (l : List Int) (hfit : l.length * 8 ≤ 140737488355328) : Pure prog F_slices_Clone_int_int [iD l] (iD l) := by
  intro n h
  refine K_slices_Clone_int_int.calls fun hl => ?_
  unfold C_slices_Clone_int_int
  simp -implicitDefEqProofs only [↓symPre, symPost, y_condP, y_condG, run, lver, minD, intsD, eqAll, tupD, splice, Nat.zero_add, Nat.add_zero, Nat.zero_mul, Nat.mul_one, Nat.one_mul, Nat.reduceAdd, Nat.reduceSub, Nat.reduceMul, Nat.reduceLT, Nat.reduceLeDiff, Nat.reduceEqDiff, true_and, and_true, true_implies, if_true, if_false, ite_true, reduceIte, ne_eq, not_false_eq_true, reduceCtorEq, forall_const, bne_self_eq_false, Bool.true_eq_false, Bool.false_eq_true, false_implies, and_self, implies_true, Int.toNat_zero, beq_self_eq_true, decide_true, decide_false, Bool.not_true, Bool.not_false, ↓y_lookv, y_key1, y_mlook, y_mlookn, y_mres1, y_mres0, ↓y_call]
  have rest : ∀ (x : Unit), l = l := fun _ => rfl
  refine ⟨fun h0 => ⟨?_, ?_⟩, fun h0 => ?_⟩
  · subst_vars
    have : l = [] := by simpa using h0
    subst this
    exact fin_wk hl .nilsLst ⟨rfl, rfl, rfl⟩
  · simp -implicitDefEqProofs only [↓symPre, symPost, y_condP, y_condG, run, lver, minD, intsD, eqAll, tupD, splice, Nat.zero_add, Nat.add_zero, Nat.zero_mul, Nat.mul_one, Nat.one_mul, Nat.reduceAdd, Nat.reduceSub, Nat.reduceMul, Nat.reduceLT, Nat.reduceLeDiff, Nat.reduceEqDiff, true_and, and_true, true_implies, if_true, if_false, ite_true, reduceIte, ne_eq, not_false_eq_true, reduceCtorEq, forall_const, bne_self_eq_false, Bool.true_eq_false, Bool.false_eq_true, false_implies, and_self, implies_true, Int.toNat_zero, beq_self_eq_true, decide_true, decide_false, Bool.not_true, Bool.not_false, ↓y_lookv, y_key1, y_mlook, y_mlookn, y_mres1, y_mres0, ↓y_call, srcOf, ints_cells, ints_flat, ints_one, List.length_map, hfit, Nat.zero_le]
    refine fin_wk hl (wk_ints (t := 5) rfl rfl) ⟨rfl, rfl, rfl⟩
  · simp -implicitDefEqProofs only [↓symPre, symPost, y_condP, y_condG, run, lver, minD, intsD, eqAll, tupD, splice, Nat.zero_add, Nat.add_zero, Nat.zero_mul, Nat.mul_one, Nat.one_mul, Nat.reduceAdd, Nat.reduceSub, Nat.reduceMul, Nat.reduceLT, Nat.reduceLeDiff, Nat.reduceEqDiff, true_and, and_true, true_implies, if_true, if_false, ite_true, reduceIte, ne_eq, not_false_eq_true, reduceCtorEq, forall_const, bne_self_eq_false, Bool.true_eq_false, Bool.false_eq_true, false_implies, and_self, implies_true, Int.toNat_zero, beq_self_eq_true, decide_true, decide_false, Bool.not_true, Bool.not_false, ↓y_lookv, y_key1, y_mlook, y_mlookn, y_mres1, y_mres0, ↓y_call, srcOf, ints_cells, ints_flat, ints_one, List.length_map, hfit, Nat.zero_le]
    refine fin_wk hl (wk_ints (t := 5) rfl rfl) ⟨rfl, rfl, rfl⟩

/-- an empty slice with room -/
theorem fin_ref0 {n : Nat} {sl : List D} {h : Heap} {lc : List Blk} {R : D → Heap → List Blk → Prop} {sz t ver off : Nat} {cs : List D} (hl : LowH n h) (hb : lc[t]? = some ⟨ver, .cells cs⟩) (hv : 1 ≤ ver)
    (hR : R (.ref sz (n + 0) ver off 0) h [⟨ver, .cells []⟩]) : Fin (St.mk n sl h lc) R [.ref sz (n + t) ver off 0] := by
  have hg : lc.getD t blk0 = ⟨ver, .cells cs⟩ := by simp [List.getD, hb]
  refine ⟨hl, [.old t], [⟨ver, .cells []⟩], _, ⟨rfl, ?_, ?_⟩, .ref sz t 0 ver ver off 0 rfl (by rw [hg]) rfl, by simpa using hv, hR⟩
  · intro i x k h1 h2
    cases i with
    | zero =>
      simp at h1 h2
      subst h1; subst h2
      exact ⟨hv, cs, by rw [hg], Nat.zero_le _, fun j d hj => by simp at hj⟩
    | succ i => simp at h1
  · intro i j t' h1 h2
    cases i <;> cases j <;> simp at h1 h2 <;> rfl

theorem fresh_Grow (k : Nat) (h0 : 0 < k) (hfit : k * 8 ≤ 140737488355328) : Fresh prog F_slices_Grow_int_int [.nils, .int .i64 k] 1 [] 0 := by
  intro n h
  refine K_slices_Grow_int_int.calls fun hl => ?_
  unfold C_slices_Grow_int_int
  have h1 : ¬ (k : Int) < 0 := by omega
  have h2 : (k : Int) > 0 := by omega
  have h3 : (0 : Int) < (k : Int) := by omega
  have w0 : IntKind.i64.wrap (0 - 0) = 0 := by rw [IntWalk.i64_in _ (by omega)]; omega
  have w1 : IntKind.i64.wrap ((k : Int) - 0) = k := by rw [IntWalk.i64_in _ (by omega)]; omega
  have hf : (k : Int) * 8 ≤ 140737488355328 := by omega
  have e0 : (List.replicate k [D.int .i64 0]).flatten.length = k := by simp
  simp -implicitDefEqProofs only [↓symPre, symPost, y_condP, y_condG, run, lver, minD, intsD, eqAll, tupD, splice, Nat.zero_add, Nat.add_zero, Nat.zero_mul, Nat.mul_one, Nat.one_mul, Nat.reduceAdd, Nat.reduceSub, Nat.reduceMul, Nat.reduceLT, Nat.reduceLeDiff, Nat.reduceEqDiff, true_and, and_true, true_implies, if_true, if_false, ite_true, reduceIte, ne_eq, not_false_eq_true, reduceCtorEq, forall_const, bne_self_eq_false, Bool.true_eq_false, Bool.false_eq_true, false_implies, and_self, implies_true, Int.toNat_zero, beq_self_eq_true, decide_true, decide_false, Bool.not_true, Bool.not_false, ↓y_lookv, y_key1, y_mlook, y_mlookn, y_mres1, y_mres0, ↓y_call, h1, h2, h3, w0, w1, hf, Int.toNat_natCast, Nat.zero_le, Int.le_refl, Nat.le_refl, decide_true, decide_false, Int.natCast_nonneg, Nat.sub_self, List.length_replicate]
  exact ⟨by omega, fin_ref0 (t := 22) hl rfl (Nat.le_refl _) ⟨rfl, 1, rfl, rfl⟩⟩

theorem pure_Grow0 : Pure prog F_slices_Grow_int_int [.nils, .int .i64 0] .nils := by
  intro n h
  refine K_slices_Grow_int_int.calls fun hl => ?_
  unfold C_slices_Grow_int_int
  have h1 : ¬ (0 : Int) < 0 := by omega
  have h2 : ¬ (0 : Int) > 0 := by omega
  have w0 : IntKind.i64.wrap (0 - 0) = 0 := by rw [IntWalk.i64_in _ (by omega)]; omega
  simp -implicitDefEqProofs only [↓symPre, symPost, y_condP, y_condG, run, lver, minD, intsD, eqAll, tupD, splice, Nat.zero_add, Nat.add_zero, Nat.zero_mul, Nat.mul_one, Nat.one_mul, Nat.reduceAdd, Nat.reduceSub, Nat.reduceMul, Nat.reduceLT, Nat.reduceLeDiff, Nat.reduceEqDiff, true_and, and_true, true_implies, if_true, if_false, ite_true, reduceIte, ne_eq, not_false_eq_true, reduceCtorEq, forall_const, bne_self_eq_false, Bool.true_eq_false, Bool.false_eq_true, false_implies, and_self, implies_true, Int.toNat_zero, beq_self_eq_true, decide_true, decide_false, Bool.not_true, Bool.not_false, ↓y_lookv, y_key1, y_mlook, y_mlookn, y_mres1, y_mres0, ↓y_call, h1, h2, w0, decide_false]
  exact fin_low hl .nils ⟨rfl, rfl, rfl⟩

theorem nth_lists (ls : List (List Int)) (i : Nat) (hi : i < ls.length) : nth (ls.map iD) i = iD ls[i] := by
  simp [nth, List.getD, hi]

theorem low_lists (n : Nat) (ls : List (List Int)) : ∀ c ∈ ls.map iD, Low n c := by
  intro x hx
  obtain ⟨y, _, rfl⟩ := List.mem_map.1 hx; exact low_ints n y

theorem sum_lens (ls : List (List Int)) : ls.flatten.length = (ls.map List.length).sum := by simp [List.length_flatten]

theorem at_Concat (ls : List (List Int)) (hfit : ls.flatten.length * 8 ≤ 140737488355328) (hk : ls.length < 2 ^ 62) {n : Nat} {h : Heap} {b ver : Nat} (hb : b < n) (hh : h b = ⟨ver, .cells (ls.map iD)⟩) :
    ACalls prog F_slices_Concat_int_int [.ref 1 b ver 0 ls.length] n h fun d h' x => h' = h ∧ x = [] ∧ d = iD ls.flatten := by
  refine K_slices_Concat_int_int.calls fun hl => ?_
  unfold C_slices_Concat_int_int
  simp -implicitDefEqProofs only [↓symPre, symPost, y_condP, y_condG, run, lver, minD, intsD, eqAll, tupD, splice, Nat.zero_add, Nat.add_zero, Nat.zero_mul, Nat.mul_one, Nat.one_mul, Nat.reduceAdd, Nat.reduceSub, Nat.reduceMul, Nat.reduceLT, Nat.reduceLeDiff, Nat.reduceEqDiff, true_and, and_true, true_implies, if_true, if_false, ite_true, reduceIte, ne_eq, not_false_eq_true, reduceCtorEq, forall_const, bne_self_eq_false, Bool.true_eq_false, Bool.false_eq_true, false_implies, and_self, implies_true, Int.toNat_zero, beq_self_eq_true, decide_true, decide_false, Bool.not_true, Bool.not_false, ↓y_lookv, y_key1, y_mlook, y_mlookn, y_mres1, y_mres0, ↓y_call, ↓y_at_old hb, hh, hb]
  refine aloop (fun i : Nat => St.mk n ([.ref 1 b ver 0 ls.length, .top, .nils, .int .i64 ((ls.take i).flatten.length : Nat)] ++ List.replicate 5 .top ++ [.ref 1 b ver 0 ls.length, .int .i64 ls.length, .int .i64 i] ++ List.replicate 24 .top) h
        (List.replicate 36 blk0)) (fun i => i ≤ ls.length) (fun i => ls.length - i) 0 (Nat.zero_le _) ?_ ?_
  · refine le_to (List.replicate 36 .hole) hl rfl ?_ ?_ <;> ((try simp only [y_blk_end, y_blk_hole, y_blk_nil, y_blk_old, y_wkl_end, y_wkl_top, List.replicate, List.cons_append, List.nil_append, and_true, true_and]) <;> (repeat' (first | apply And.intro | apply y_wkl | refine Exists.intro _ (And.intro rfl ?_))) <;> (try first | exact trivial | exact Wk.top _ | exact wk_int rfl | exact wk_bool rfl | exact wk_ptr rfl rfl rfl rfl | exact wk_ref rfl rfl rfl rfl rfl | exact wk_nil rfl rfl rfl | exact wk_ref rfl rfl rfl rfl (by simp) | exact wk_ref rfl rfl rfl rfl (by simp; omega) | exact wk_old (by assumption) (by simp) | exact wk_eq rfl (by first | exact Bd.int _ _ | exact Bd.bool _ | exact Bd.abool | exact Bd.nils | exact Bd.emp | exact Bd.nilp | exact Bd.nilfn | assumption | exact low_trees _ _ | exact low_treeD _ _ | exact low_ints _ _) | exact Nat.le_refl _ | exact wk_int (by simp) | exact wk_int (by omega) | exact Nat.succ_le_succ (Nat.zero_le _) | exact Nat.le_add_left _ _ | omega))
  · intro i hi
    by_cases hlt : i < ls.length
    · have h1 : (i : Int) < (ls.length : Int) := by omega
      have h0 : (0 : Int) ≤ (i : Int) := by omega
      have e0 := nth_lists ls i hlt
      have hs1 := flat_take_succ id ls i hlt
      have hs2 := flat_take_le ls (i + 1)
      simp only [List.map_id, id] at hs1
      have hs3 : (ls.take (i + 1)).flatten.length = (ls.take i).flatten.length + ls[i].length := by rw [hs1, List.length_append]
      have w1 : IntKind.i64.wrap ((i : Int) + 1) = ((i + 1 : Nat) : Int) := by rw [IntWalk.i64_in _ (by omega)]; omega
      have w2 : IntKind.i64.wrap ((((ls.take i).flatten.length : Nat) : Int) + (ls[i].length : Int)) = (((ls.take (i + 1)).flatten.length : Nat) : Int) := by rw [IntWalk.i64_in _ (by omega)]; omega
      have h3 : ¬ (((ls.take (i + 1)).flatten.length : Nat) : Int) < 0 := by omega
      have hll : i < (ls.map iD).length := by simpa using hlt
      generalize hA : (ls.take i).flatten.length = A at *
      generalize hB : (ls.take (i + 1)).flatten.length = B at *
      simp -implicitDefEqProofs only [↓symPre, symPost, y_condP, y_condG, run, lver, minD, intsD, eqAll, tupD, splice, Nat.zero_add, Nat.add_zero, Nat.zero_mul, Nat.mul_one, Nat.one_mul, Nat.reduceAdd, Nat.reduceSub, Nat.reduceMul, Nat.reduceLT, Nat.reduceLeDiff, Nat.reduceEqDiff, true_and, and_true, true_implies, if_true, if_false, ite_true, reduceIte, ne_eq, not_false_eq_true, reduceCtorEq, forall_const, bne_self_eq_false, Bool.true_eq_false, Bool.false_eq_true, false_implies, and_self, implies_true, Int.toNat_zero, beq_self_eq_true, decide_true, decide_false, Bool.not_true, Bool.not_false, ↓y_lookv, y_key1, y_mlook, y_mlookn, y_mres1, y_mres0, ↓y_call, ↓y_at_old hb, hh, hb, List.length_map, h1, h0, h3, decide_true, decide_false, Int.toNat_natCast, e0, w1, w2, hlt]
      refine ⟨i + 1, by omega, by omega, ?_⟩
      rw [hB]
      refine le_to (List.replicate 36 .hole) hl rfl ?_ ?_ <;> ((try simp only [y_blk_end, y_blk_hole, y_blk_nil, y_blk_old, y_wkl_end, y_wkl_top, List.replicate, List.cons_append, List.nil_append, and_true, true_and]) <;> (repeat' (first | apply And.intro | apply y_wkl | refine Exists.intro _ (And.intro rfl ?_))) <;> (try first | exact trivial | exact Wk.top _ | exact wk_int rfl | exact wk_bool rfl | exact wk_ptr rfl rfl rfl rfl | exact wk_ref rfl rfl rfl rfl rfl | exact wk_nil rfl rfl rfl | exact wk_ref rfl rfl rfl rfl (by simp) | exact wk_ref rfl rfl rfl rfl (by simp; omega) | exact wk_old (by assumption) (by simp) | exact wk_eq rfl (by first | exact Bd.int _ _ | exact Bd.bool _ | exact Bd.abool | exact Bd.nils | exact Bd.emp | exact Bd.nilp | exact Bd.nilfn | assumption | exact low_trees _ _ | exact low_treeD _ _ | exact low_ints _ _) | exact Nat.le_refl _ | exact wk_int (by simp) | exact wk_int (by omega) | exact Nat.succ_le_succ (Nat.zero_le _) | exact Nat.le_add_left _ _ | omega))
    · have h1 : ¬ (i : Int) < (ls.length : Int) := by omega
      have hil : i = ls.length := by omega
      subst hil
      rw [List.take_length]
      simp -implicitDefEqProofs only [↓symPre, symPost, y_condP, y_condG, run, lver, minD, intsD, eqAll, tupD, splice, Nat.zero_add, Nat.add_zero, Nat.zero_mul, Nat.mul_one, Nat.one_mul, Nat.reduceAdd, Nat.reduceSub, Nat.reduceMul, Nat.reduceLT, Nat.reduceLeDiff, Nat.reduceEqDiff, true_and, and_true, true_implies, if_true, if_false, ite_true, reduceIte, ne_eq, not_false_eq_true, reduceCtorEq, forall_const, bne_self_eq_false, Bool.true_eq_false, Bool.false_eq_true, false_implies, and_self, implies_true, Int.toNat_zero, beq_self_eq_true, decide_true, decide_false, Bool.not_true, Bool.not_false, ↓y_lookv, y_key1, y_mlook, y_mlookn, y_mres1, y_mres0, ↓y_call, h1, decide_false]
      by_cases htot : ls.flatten.length = 0
      · have hnil : ls.flatten = [] := List.eq_nil_of_length_eq_zero htot
        have hz : ((ls.flatten.length : Nat) : Int) = 0 := by omega
        rw [hz]
        refine pure_Grow0.call rfl ?_
        simp -implicitDefEqProofs only [↓symPre, symPost, y_condP, y_condG, run, lver, minD, intsD, eqAll, tupD, splice, Nat.zero_add, Nat.add_zero, Nat.zero_mul, Nat.mul_one, Nat.one_mul, Nat.reduceAdd, Nat.reduceSub, Nat.reduceMul, Nat.reduceLT, Nat.reduceLeDiff, Nat.reduceEqDiff, true_and, and_true, true_implies, if_true, if_false, ite_true, reduceIte, ne_eq, not_false_eq_true, reduceCtorEq, forall_const, bne_self_eq_false, Bool.true_eq_false, Bool.false_eq_true, false_implies, and_self, implies_true, Int.toNat_zero, beq_self_eq_true, decide_true, decide_false, Bool.not_true, Bool.not_false, ↓y_lookv, y_key1, y_mlook, y_mlookn, y_mres1, y_mres0, ↓y_call, ↓y_at_old hb, hh, hb]
        refine aloop (fun p : Nat × Nat => St.mk n ([.ref 1 b ver 0 ls.length, .top, .top, .top, .top, .top, .ref 1 (n + 33) p.2 0 0] ++ List.replicate 18 .top ++ [.ref 1 b ver 0 ls.length, .int .i64 ls.length, .int .i64 p.1] ++ List.replicate 8 .top) h
            (List.replicate 33 blk0 ++ [⟨p.2, .cells []⟩] ++ List.replicate 2 blk0)) (fun p => p.1 ≤ ls.length ∧ 1 ≤ p.2) (fun p => ls.length - p.1) (0, 1) ⟨Nat.zero_le _, Nat.le_refl _⟩ ?_ ?_
        · refine le_to (List.replicate 33 .hole ++ [.nil] ++ List.replicate 2 .hole) hl rfl ?_ ?_ <;> ((try simp only [y_blk_end, y_blk_hole, y_blk_nil, y_blk_old, y_wkl_end, y_wkl_top, List.replicate, List.cons_append, List.nil_append, and_true, true_and]) <;> (repeat' (first | apply And.intro | apply y_wkl | refine Exists.intro _ (And.intro rfl ?_))) <;> (try first | exact trivial | exact Wk.top _ | exact wk_int rfl | exact wk_bool rfl | exact wk_ptr rfl rfl rfl rfl | exact wk_ref rfl rfl rfl rfl rfl | exact wk_nil rfl rfl rfl | exact wk_ref rfl rfl rfl rfl (by simp) | exact wk_ref rfl rfl rfl rfl (by simp; omega) | exact wk_old (by assumption) (by simp) | exact wk_eq rfl (by first | exact Bd.int _ _ | exact Bd.bool _ | exact Bd.abool | exact Bd.nils | exact Bd.emp | exact Bd.nilp | exact Bd.nilfn | assumption | exact low_trees _ _ | exact low_treeD _ _ | exact low_ints _ _) | exact Nat.le_refl _ | exact wk_int (by simp) | exact wk_int (by omega) | exact Nat.succ_le_succ (Nat.zero_le _) | exact Nat.le_add_left _ _ | omega))
        · rintro ⟨i, v⟩ ⟨hi, hv⟩
          simp only at hi hv
          by_cases hlt : i < ls.length
          · have h1 : (i : Int) < (ls.length : Int) := by omega
            have h0 : (0 : Int) ≤ (i : Int) := by omega
            have e0 := nth_lists ls i hlt
            have hnl : ls[i] = [] := by
              have : ls[i] ∈ ls := List.getElem_mem hlt
              exact List.flatten_eq_nil_iff.1 hnil _ this
            rw [hnl] at e0
            have w1 : IntKind.i64.wrap ((i : Int) + 1) = ((i + 1 : Nat) : Int) := by rw [IntWalk.i64_in _ (by omega)]; omega
            have hll : i < (ls.map iD).length := by simpa using hlt
            simp -implicitDefEqProofs only [↓symPre, symPost, y_condP, y_condG, run, lver, minD, intsD, eqAll, tupD, splice, Nat.zero_add, Nat.add_zero, Nat.zero_mul, Nat.mul_one, Nat.one_mul, Nat.reduceAdd, Nat.reduceSub, Nat.reduceMul, Nat.reduceLT, Nat.reduceLeDiff, Nat.reduceEqDiff, true_and, and_true, true_implies, if_true, if_false, ite_true, reduceIte, ne_eq, not_false_eq_true, reduceCtorEq, forall_const, bne_self_eq_false, Bool.true_eq_false, Bool.false_eq_true, false_implies, and_self, implies_true, Int.toNat_zero, beq_self_eq_true, decide_true, decide_false, Bool.not_true, Bool.not_false, ↓y_lookv, y_key1, y_mlook, y_mlookn, y_mres1, y_mres0, ↓y_call, ↓y_at_old hb, hh, hb, List.length_map, h1, h0, decide_true, Int.toNat_natCast, e0, w1, hlt, srcOf, Nat.le_refl, Nat.zero_le, List.not_mem_nil, List.length_map]
            refine ⟨(i + 1, v + 1), ⟨by simp only; omega, by simp only; omega⟩, by simp only; omega, ?_⟩
            refine le_to (List.replicate 33 .hole ++ [.old 33] ++ List.replicate 2 .hole) hl rfl ?_ ?_ <;> ((try simp only [y_blk_end, y_blk_hole, y_blk_nil, y_blk_old, y_wkl_end, y_wkl_top, List.replicate, List.cons_append, List.nil_append, and_true, true_and]) <;> (repeat' (first | apply And.intro | apply y_wkl | refine Exists.intro _ (And.intro rfl ?_))) <;> (try first | exact trivial | exact Wk.top _ | exact wk_int rfl | exact wk_bool rfl | exact wk_ptr rfl rfl rfl rfl | exact wk_ref rfl rfl rfl rfl rfl | exact wk_nil rfl rfl rfl | exact wk_ref rfl rfl rfl rfl (by simp) | exact wk_ref rfl rfl rfl rfl (by simp; omega) | exact wk_old (by assumption) (by simp) | exact wk_eq rfl (by first | exact Bd.int _ _ | exact Bd.bool _ | exact Bd.abool | exact Bd.nils | exact Bd.emp | exact Bd.nilp | exact Bd.nilfn | assumption | exact low_trees _ _ | exact low_treeD _ _ | exact low_ints _ _) | exact Nat.le_refl _ | exact wk_int (by simp) | exact wk_int (by omega) | exact Nat.succ_le_succ (Nat.zero_le _) | exact Nat.le_add_left _ _ | omega))
          · have h1 : ¬ (i : Int) < (ls.length : Int) := by omega
            simp -implicitDefEqProofs only [↓symPre, symPost, y_condP, y_condG, run, lver, minD, intsD, eqAll, tupD, splice, Nat.zero_add, Nat.add_zero, Nat.zero_mul, Nat.mul_one, Nat.one_mul, Nat.reduceAdd, Nat.reduceSub, Nat.reduceMul, Nat.reduceLT, Nat.reduceLeDiff, Nat.reduceEqDiff, true_and, and_true, true_implies, if_true, if_false, ite_true, reduceIte, ne_eq, not_false_eq_true, reduceCtorEq, forall_const, bne_self_eq_false, Bool.true_eq_false, Bool.false_eq_true, false_implies, and_self, implies_true, Int.toNat_zero, beq_self_eq_true, decide_true, decide_false, Bool.not_true, Bool.not_false, ↓y_lookv, y_key1, y_mlook, y_mlookn, y_mres1, y_mres0, ↓y_call, h1, decide_false]
            rw [hnil]
            exact fin_wk hl (wk_ints (t := 33) rfl rfl) ⟨rfl, rfl, rfl⟩
      · refine (fresh_Grow ls.flatten.length (by omega) hfit).call (by simp) rfl rfl (Nat.le_of_ble_eq_true rfl) rfl ?_
        simp -implicitDefEqProofs only [↓symPre, symPost, y_condP, y_condG, run, lver, minD, intsD, eqAll, tupD, splice, Nat.zero_add, Nat.add_zero, Nat.zero_mul, Nat.mul_one, Nat.one_mul, Nat.reduceAdd, Nat.reduceSub, Nat.reduceMul, Nat.reduceLT, Nat.reduceLeDiff, Nat.reduceEqDiff, true_and, and_true, true_implies, if_true, if_false, ite_true, reduceIte, ne_eq, not_false_eq_true, reduceCtorEq, forall_const, bne_self_eq_false, Bool.true_eq_false, Bool.false_eq_true, false_implies, and_self, implies_true, Int.toNat_zero, beq_self_eq_true, decide_true, decide_false, Bool.not_true, Bool.not_false, ↓y_lookv, y_key1, y_mlook, y_mlookn, y_mres1, y_mres0, ↓y_call, ↓y_at_old hb, hh, hb]
        refine aloop (fun p : Nat × Nat => St.mk n ([.ref 1 b ver 0 ls.length, .top, .top, .top, .top, .top, .ref 1 (n + 24) p.2 0 (ls.take p.1).flatten.length] ++ List.replicate 18 .top ++ [.ref 1 b ver 0 ls.length, .int .i64 ls.length, .int .i64 p.1] ++ List.replicate 8 .top) h
            (List.replicate 24 blk0 ++ [⟨p.2, .cells ((ls.take p.1).flatten.map (.int .i64))⟩] ++ List.replicate 11 blk0)) (fun p => p.1 ≤ ls.length ∧ 1 ≤ p.2) (fun p => ls.length - p.1) (0, 1) ⟨Nat.zero_le _, Nat.le_refl _⟩ ?_ ?_
        · refine le_to (List.replicate 24 .hole ++ [.old 24] ++ List.replicate 11 .hole) hl rfl ?_ ?_ <;> ((try simp only [y_blk_end, y_blk_hole, y_blk_nil, y_blk_old, y_wkl_end, y_wkl_top, List.replicate, List.cons_append, List.nil_append, and_true, true_and]) <;> (repeat' (first | apply And.intro | apply y_wkl | refine Exists.intro _ (And.intro rfl ?_))) <;> (try first | exact trivial | exact Wk.top _ | exact wk_int rfl | exact wk_bool rfl | exact wk_ptr rfl rfl rfl rfl | exact wk_ref rfl rfl rfl rfl rfl | exact wk_nil rfl rfl rfl | exact wk_ref rfl rfl rfl rfl (by simp) | exact wk_ref rfl rfl rfl rfl (by simp; omega) | exact wk_old (by assumption) (by simp) | exact wk_eq rfl (by first | exact Bd.int _ _ | exact Bd.bool _ | exact Bd.abool | exact Bd.nils | exact Bd.emp | exact Bd.nilp | exact Bd.nilfn | assumption | exact low_trees _ _ | exact low_treeD _ _ | exact low_ints _ _) | exact Nat.le_refl _ | exact wk_int (by simp) | exact wk_int (by omega) | exact Nat.succ_le_succ (Nat.zero_le _) | exact Nat.le_add_left _ _ | omega))
        · rintro ⟨i, v⟩ ⟨hi, hv⟩
          simp only at hi hv
          by_cases hlt : i < ls.length
          · have h1 : (i : Int) < (ls.length : Int) := by omega
            have h0 : (0 : Int) ≤ (i : Int) := by omega
            have e0 := nth_lists ls i hlt
            have hs1 := flat_take_succ id ls i hlt
            have hs2 := flat_take_le ls (i + 1)
            simp only [List.map_id, id] at hs1
            rw [hs1] at hs2
            rw [List.length_append] at hs2
            have w1 : IntKind.i64.wrap ((i : Int) + 1) = ((i + 1 : Nat) : Int) := by rw [IntWalk.i64_in _ (by omega)]; omega
            have hll : i < (ls.map iD).length := by simpa using hlt
            generalize hA : (ls.take i).flatten = A at *
            have hf : (A.length + ls[i].length) * 8 ≤ 140737488355328 := by omega
            have hCt := take_all (A.map (D.int .i64)) (k := A.length) (by simp)
            simp -implicitDefEqProofs only [↓symPre, symPost, y_condP, y_condG, run, lver, minD, intsD, eqAll, tupD, splice, Nat.zero_add, Nat.add_zero, Nat.zero_mul, Nat.mul_one, Nat.one_mul, Nat.reduceAdd, Nat.reduceSub, Nat.reduceMul, Nat.reduceLT, Nat.reduceLeDiff, Nat.reduceEqDiff, true_and, and_true, true_implies, if_true, if_false, ite_true, reduceIte, ne_eq, not_false_eq_true, reduceCtorEq, forall_const, bne_self_eq_false, Bool.true_eq_false, Bool.false_eq_true, false_implies, and_self, implies_true, Int.toNat_zero, beq_self_eq_true, decide_true, decide_false, Bool.not_true, Bool.not_false, ↓y_lookv, y_key1, y_mlook, y_mlookn, y_mres1, y_mres0, ↓y_call, ↓y_at_old hb, hh, hb, List.length_map, h1, h0, decide_true, Int.toNat_natCast, e0, w1, hlt, srcOf, Nat.le_refl, ints_cells, ints_flat, ints_one, hf, hCt]
            refine ⟨(i + 1, v + 1), ⟨by simp only; omega, by simp only; omega⟩, by simp only; omega, ?_⟩
            simp only [hs1, List.map_append]
            refine le_to (List.replicate 24 .hole ++ [.old 24] ++ List.replicate 11 .hole) hl rfl ?_ ?_ <;> ((try simp only [y_blk_end, y_blk_hole, y_blk_nil, y_blk_old, y_wkl_end, y_wkl_top, List.replicate, List.cons_append, List.nil_append, and_true, true_and]) <;> (repeat' (first | apply And.intro | apply y_wkl | refine Exists.intro _ (And.intro rfl ?_))) <;> (try first | exact trivial | exact Wk.top _ | exact wk_int rfl | exact wk_bool rfl | exact wk_ptr rfl rfl rfl rfl | exact wk_ref rfl rfl rfl rfl rfl | exact wk_nil rfl rfl rfl | exact wk_ref rfl rfl rfl rfl (by simp) | exact wk_ref rfl rfl rfl rfl (by simp; omega) | exact wk_old (by assumption) (by simp) | exact wk_eq rfl (by first | exact Bd.int _ _ | exact Bd.bool _ | exact Bd.abool | exact Bd.nils | exact Bd.emp | exact Bd.nilp | exact Bd.nilfn | assumption | exact low_trees _ _ | exact low_treeD _ _ | exact low_ints _ _) | exact Nat.le_refl _ | exact wk_int (by simp) | exact wk_int (by omega) | exact Nat.succ_le_succ (Nat.zero_le _) | exact Nat.le_add_left _ _ | omega))
            rw [← List.map_append]
            exact WkL.low (low_iD _ _)
          · have h1 : ¬ (i : Int) < (ls.length : Int) := by omega
            have hil : i = ls.length := by omega
            subst hil
            simp -implicitDefEqProofs only [↓symPre, symPost, y_condP, y_condG, run, lver, minD, intsD, eqAll, tupD, splice, Nat.zero_add, Nat.add_zero, Nat.zero_mul, Nat.mul_one, Nat.one_mul, Nat.reduceAdd, Nat.reduceSub, Nat.reduceMul, Nat.reduceLT, Nat.reduceLeDiff, Nat.reduceEqDiff, true_and, and_true, true_implies, if_true, if_false, ite_true, reduceIte, ne_eq, not_false_eq_true, reduceCtorEq, forall_const, bne_self_eq_false, Bool.true_eq_false, Bool.false_eq_true, false_implies, and_self, implies_true, Int.toNat_zero, beq_self_eq_true, decide_true, decide_false, Bool.not_true, Bool.not_false, ↓y_lookv, y_key1, y_mlook, y_mlookn, y_mres1, y_mres0, ↓y_call, h1, decide_false]
            exact fin_wk hl (by rw [List.take_length]; exact wk_ints (t := 24) rfl rfl) ⟨rfl, rfl, rfl⟩

end Abs
end Go.Proofs.Ytokdeeagghhliaa

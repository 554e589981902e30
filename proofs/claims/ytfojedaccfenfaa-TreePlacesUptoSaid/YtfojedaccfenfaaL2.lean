/- Places. -/
import Derived.Test.YtfojedaccfenfaaL1
namespace Go.Proofs.Ytfojedaccfenfaa
namespace Abs
set_option linter.unusedVariables false
set_option linter.unusedSimpArgs false
set_option maxRecDepth 20000

/-- a place: from, to -/
def plD (x : Nat × Nat) : D := .agg [.int .i64 x.1, .int .i64 x.2]
theorem plD_cells (x : Nat × Nat) : (plD x).cells.length = 2 := rfl
theorem low_plD (n : Nat) (x : Nat × Nat) : Low n (plD x) := .agg _ fun c hc => by
  simp only [List.mem_cons, List.not_mem_nil, or_false] at hc
  rcases hc with rfl | rfl <;> exact .int ..

mutual
def placesT : Tree → Nat → List (Nat × Nat)
  | .mk r t ks, f => (f, f + (wordL (.mk r t ks)).length) :: (if r = -1 then [] else placesK ks f)
def placesK : List Tree → Nat → List (Nat × Nat)
  | [], _ => []
  | k :: ks, f => placesT k f ++ placesK ks (f + (wordL k).length)
end
theorem placesT_mk (r t : Int) (ks : List Tree) (f : Nat) : placesT (.mk r t ks) f = (f, f + (wordL (.mk r t ks)).length) :: (if r = -1 then [] else placesK ks f) := by rw [placesT]
theorem placesK_nil (f : Nat) : placesK [] f = [] := by rw [placesK]
theorem placesK_cons (k : Tree) (ks : List Tree) (f : Nat) : placesK (k :: ks) f = placesT k f ++ placesK ks (f + (wordL k).length) := by rw [placesK]
theorem placesK_app : ∀ (a b : List Tree) (f : Nat), placesK (a ++ b) f = placesK a f ++ placesK b (f + wlen a)
  | [], b, f => by rw [placesK_nil, wlen_nil]; rfl
  | k :: a, b, f => by
    rw [List.cons_append, placesK_cons, placesK_cons, placesK_app a b, wlen_cons, List.append_assoc, Nat.add_assoc]
theorem placesK_take (ks : List Tree) (i : Nat) (hi : i < ks.length) (f : Nat) : placesK (ks.take (i + 1)) f = placesK (ks.take i) f ++ placesT ks[i] (f + wlen (ks.take i)) := by
  rw [List.take_succ_eq_append_getElem hi, placesK_app, placesK_cons, placesK_nil, List.append_nil]

theorem placesT_len : ∀ (t : Tree) (f : Nat), (placesT t f).length = size t
  | .mk r t ks, f => by
    rw [placesT_mk, size_mk]
    split
    · rfl
    · have : ∀ (l : List Tree) (f : Nat), (∀ k ∈ l, k ∈ ks) → (placesK l f).length = (l.map size).sum := by
        intro l
        induction l with
        | nil => intro f _; rw [placesK_nil]; rfl
        | cons k l ih =>
          intro f hl
          have hk : k ∈ ks := hl k (by simp)
          rw [placesK_cons, List.length_append, ih _ fun k hk => hl k (by simp [hk]), placesT_len k]
          simp
      rw [List.length_cons, this ks f fun _ h => h]; omega
termination_by t => t
theorem placesK_len (l : List Tree) (f : Nat) : (placesK l f).length = (l.map size).sum := by
  induction l generalizing f with
  | nil => rw [placesK_nil]; rfl
  | cons k l ih => rw [placesK_cons, List.length_append, ih, placesT_len]; simp

/-- writing the second number of the place behind L -/
theorem put_to (L : List D) (a b c : D) (X : List D) {k : Nat} (hk : L.length = k * 2) : (L ++ [a, b] ++ X).take (k * 2 + 1) ++ [c] ++ (L ++ [a, b] ++ X).drop (k * 2 + 1 + 1) = L ++ [a, c] ++ X := by
  have h1 : (L ++ [a, b] ++ X).take (k * 2 + 1) = L ++ [a] := by
    rw [List.append_assoc, List.take_append, ← hk, List.take_of_length_le (by omega)]
    simp
  have h2 : (L ++ [a, b] ++ X).drop (k * 2 + 1 + 1) = X := by
    rw [List.append_assoc, List.drop_append, ← hk, List.drop_eq_nil_of_le (by omega)]
    simp [show L.length + 1 + 1 - L.length = 2 by omega]
  rw [h1, h2]; simp

set_option maxHeartbeats 4000000 in
theorem app_walk : ∀ (t : Tree) (f : Nat), size t < 2 ^ 40 → f + (wordL t).length < 2 ^ 40 → Appends prog F_tree_walk (fun d => [d, treeD t, .int .i64 f]) 2 16 (cellsF plD (placesT t f)) (size t)
  | .mk r tm ks, f, hsz, hf => by
    intro n h b ver l len hb hv hh hlen hfit hlow
    rw [treeD_mk]
    refine K_tree_walk.calls fun hl => ?_
    unfold C_tree_walk
    have hwl := wordL_len (.mk r tm ks)
    have hs1 := size_pos (.mk r tm ks)
    have hf1 : (len + 1) * 16 ≤ 140737488355328 := by omega
    have hle : len * 2 ≤ l.length := by omega
    have htk := take_all l (k := len * 2) (by omega)
    have hint : ∀ (W : List (Nat × Nat)), ∀ c ∈ l ++ cellsF plD W, Low n c := fun W c hc => by
      rcases List.mem_append.1 hc with hc | hc
      · exact hlow c hc
      · exact low_cellsF plD (low_plD n) W c hc
    have l0 : (0 : Int) ≤ (len : Int) := by omega
    simp -implicitDefEqProofs only [↓symPre, symPost, y_condP, y_condG, run, lver, minD, intsD, eqAll, tupD, splice, Nat.zero_add, Nat.add_zero, Nat.zero_mul, Nat.mul_one, Nat.one_mul, Nat.reduceAdd, Nat.reduceSub, Nat.reduceMul, Nat.reduceLT, Nat.reduceLeDiff, Nat.reduceEqDiff, true_and, and_true, true_implies, if_true, if_false, ite_true, reduceIte, ne_eq, not_false_eq_true, reduceCtorEq, forall_const, bne_self_eq_false, Bool.true_eq_false, Bool.false_eq_true, false_implies, and_self, implies_true, Int.toNat_zero, beq_self_eq_true, decide_true, decide_false, Bool.not_true, Bool.not_false, ↓y_call, ↓y_at_old hb, hh, hb, hf1, hle, htk, Nat.le_refl]
    refine (pure_leaf r tm _).call rfl ?_
    by_cases hr' : r = -1
    · subst hr'
      rw [wordL_mk, if_pos rfl] at hwl hf
      have hres : cellsF plD (placesT (.mk (-1) tm ks) f) = [.int .i64 f, .int .i64 ((f + 1 : Nat) : Int)] := by
        rw [placesT_mk, if_pos rfl, cellsF_one, wordL_mk, if_pos rfl]; rfl
      have hsz1 : size (.mk (-1) tm ks) = 1 := by rw [size_mk, if_pos rfl]
      rw [hres, hsz1]
      have w1 : IntKind.i64.wrap ((f : Int) + 1) = ((f + 1 : Nat) : Int) := by rw [IntWalk.i64_in _ (by omega)]; omega
      have hput := put_to l (.int .i64 f) (.int .i64 f) (.int .i64 ((f + 1 : Nat) : Int)) [] (k := len) hlen
      simp only [List.append_nil] at hput
      have l1 : (len : Int) < ((len + 1 : Nat) : Int) := by omega
      have l2 : len * 2 + 1 + 1 ≤ (l ++ [D.int .i64 f, D.int .i64 f]).length := by simp; omega
      have l3 : ¬ l ++ [D.int .i64 f, D.int .i64 f] = [] := by simp
      have l4 : len * 2 + 1 < (l ++ [D.int .i64 f, D.int .i64 f]).length := by simp; omega
      simp -implicitDefEqProofs only [↓symPre, symPost, y_condP, y_condG, run, lver, minD, intsD, eqAll, tupD, splice, Nat.zero_add, Nat.add_zero, Nat.zero_mul, Nat.mul_one, Nat.one_mul, Nat.reduceAdd, Nat.reduceSub, Nat.reduceMul, Nat.reduceLT, Nat.reduceLeDiff, Nat.reduceEqDiff, true_and, and_true, true_implies, if_true, if_false, ite_true, reduceIte, ne_eq, not_false_eq_true, reduceCtorEq, forall_const, bne_self_eq_false, Bool.true_eq_false, Bool.false_eq_true, false_implies, and_self, implies_true, Int.toNat_zero, beq_self_eq_true, decide_true, decide_false, Bool.not_true, Bool.not_false, ↓y_call, ↓y_at_old hb, upd_same, hb, w1, l0, l1, l2, l3, l4, Int.toNat_natCast, hput, upd_upd]
      refine fin_old (lowH_upd hl fun c hc => ?_) hb ⟨rfl, ver + 1, by omega, rfl, rfl⟩
      have := hint [(f, f + 1)] c
      exact this hc
    · have hrb : (r == -1) = false := by simpa using hr'
      have hszk := size_mk r tm ks
      rw [if_neg hr'] at hszk
      have hres : cellsF plD (placesT (.mk r tm ks) f) = [.int .i64 f, .int .i64 ((f + wlen ks : Nat) : Int)] ++ cellsF plD (placesK ks f) := by
        rw [placesT_mk, if_neg hr', show ∀ (x : Nat × Nat) (L : List (Nat × Nat)), x :: L = [x] ++ L from fun _ _ => rfl, cellsF_app, cellsF_one, wordL_mk, if_neg hr']; rfl
      rw [wordL_mk, if_neg hr'] at hwl hf
      change wlen ks ≤ _ at hwl
      change f + wlen ks < _ at hf
      rw [hres, hszk]
      have hkl := len_le_sum ks
      have low2 : ∀ (x : Int) (W : List (Nat × Nat)), ∀ c ∈ l ++ [D.int .i64 f, D.int .i64 x] ++ cellsF plD W, Low n c := fun x W c hc => by
        rcases List.mem_append.1 hc with hc | hc
        · rcases List.mem_append.1 hc with hc | hc
          · exact hlow c hc
          · simp only [List.mem_cons, List.not_mem_nil, or_false] at hc
            rcases hc with rfl | rfl <;> exact .int ..
        · exact low_cellsF plD (low_plD n) W c hc
      simp -implicitDefEqProofs only [↓symPre, symPost, y_condP, y_condG, run, lver, minD, intsD, eqAll, tupD, splice, Nat.zero_add, Nat.add_zero, Nat.zero_mul, Nat.mul_one, Nat.one_mul, Nat.reduceAdd, Nat.reduceSub, Nat.reduceMul, Nat.reduceLT, Nat.reduceLeDiff, Nat.reduceEqDiff, true_and, and_true, true_implies, if_true, if_false, ite_true, reduceIte, ne_eq, not_false_eq_true, reduceCtorEq, forall_const, bne_self_eq_false, Bool.true_eq_false, Bool.false_eq_true, false_implies, and_self, implies_true, Int.toNat_zero, beq_self_eq_true, decide_true, decide_false, Bool.not_true, Bool.not_false, ↓y_call, hrb]
      refine aloop (fun p : Nat × Nat => St.mk n ([.ref 2 b p.2 0 (len + 1 + ((ks.take p.1).map size).sum), .top, .int .i64 ((f + wlen (ks.take p.1) : Nat) : Int), .top, .top, .top, .top, .int .i64 len] ++ List.replicate 20 .top ++ [.lst (ks.map treeD), .int .i64 ks.length, .int .i64 p.1] ++ List.replicate 19 .top)
          (upd h b ⟨p.2, .cells (l ++ [.int .i64 f, .int .i64 f] ++ cellsF plD (placesK (ks.take p.1) f))⟩) (List.replicate 50 blk0)) (fun p => p.1 ≤ ks.length ∧ ver ≤ p.2) (fun p => ks.length - p.1) (0, ver + 1) ⟨Nat.zero_le _, Nat.le_succ _⟩ ?_ ?_
      · refine le_toh (List.replicate 50 .hole) (lowH_upd hl fun c hc => ?_) (by simp [placesK_nil, cellsF_nil]) rfl ?_ ?_ <;> (try simp only [List.length_map]) <;> ((try simp only [y_blk_end, y_blk_hole, y_blk_nil, y_blk_old, y_wkl_end, y_wkl_top, List.replicate, List.cons_append, List.nil_append, and_true, true_and]) <;> (repeat' (first | apply And.intro | apply y_wkl | refine Exists.intro _ (And.intro rfl ?_))) <;> (try first | exact trivial | exact Wk.top _ | exact wk_int rfl | exact wk_bool rfl | exact wk_ptr rfl rfl rfl rfl | exact wk_ref rfl rfl rfl rfl rfl | exact wk_nil rfl rfl rfl | exact wk_ref rfl rfl rfl rfl (by simp) | exact wk_ref rfl rfl rfl rfl (by simp; omega) | exact wk_old (by assumption) (by simp) | exact wk_eq rfl (by first | exact Bd.int _ _ | exact Bd.bool _ | exact Bd.abool | exact Bd.nils | exact Bd.emp | exact Bd.nilp | exact Bd.nilfn | assumption | exact low_trees _ _ | exact low_treeD _ _ | exact low_ints _ _) | exact Nat.le_refl _ | exact wk_int (by simp) | exact wk_int (by omega) | exact Nat.succ_le_succ (Nat.zero_le _) | exact Nat.le_add_left _ _ | omega))
        have := low2 f [] c
        rw [cellsF_nil, List.append_nil] at this
        exact this hc
      · rintro ⟨i, v⟩ ⟨hi, hv'⟩
        simp only at hi hv'
        have hst0 := sum_take_le (ks.map size) i
        rw [← List.map_take] at hst0
        have hwt := wlen_take_le ks i
        by_cases hlt : i < ks.length
        · have h1 : (i : Int) < (ks.length : Int) := by omega
          have h0 : (0 : Int) ≤ (i : Int) := by omega
          have hm : ks[i] ∈ ks := List.getElem_mem hlt
          have hsk := size_kid hm
          have hwts := wlen_take_succ ks i hlt
          have hwt2 := wlen_take_le ks (i + 1)
          have ih := app_walk ks[i] (f + wlen (ks.take i)) (by omega) (by omega)
          have pw := pure_Word ks[i] (by omega)
          have e0 := nth_map_tree ks i hlt
          have hpt := placesK_take ks i hlt f
          have hst := sum_take_succ (ks.map size) i (by simpa using hlt)
          have hst2 := sum_take_le (ks.map size) (i + 1)
          simp only [List.getElem_map] at hst
          simp only [← List.map_take] at hst hst2
          have hpl := placesK_len (ks.take i) f
          have hcl := cellsF_len plD plD_cells (placesK (ks.take i) f)
          generalize ks[i] = kk at *
          obtain ⟨r', t', k', ek⟩ : ∃ r' t' k', kk = .mk r' t' k' := by cases kk; exact ⟨_, _, _, rfl⟩
          have ekD : treeD kk = .agg [.int .i64 r', .int .i64 t', .lst (k'.map treeD)] := by rw [ek, treeD_mk]
          rw [ekD] at e0 ih pw
          simp -implicitDefEqProofs only [↓symPre, symPost, y_condP, y_condG, run, lver, minD, intsD, eqAll, tupD, splice, Nat.zero_add, Nat.add_zero, Nat.zero_mul, Nat.mul_one, Nat.one_mul, Nat.reduceAdd, Nat.reduceSub, Nat.reduceMul, Nat.reduceLT, Nat.reduceLeDiff, Nat.reduceEqDiff, true_and, and_true, true_implies, if_true, if_false, ite_true, reduceIte, ne_eq, not_false_eq_true, reduceCtorEq, forall_const, bne_self_eq_false, Bool.true_eq_false, Bool.false_eq_true, false_implies, and_self, implies_true, Int.toNat_zero, beq_self_eq_true, decide_true, decide_false, Bool.not_true, Bool.not_false, ↓y_call, List.length_map, h1, h0, decide_true, Int.toNat_natCast, e0]
          refine Appends.call (mk := fun d => [d, .agg [.int .i64 r', .int .i64 t', .lst (k'.map treeD)], .int .i64 ((f + wlen (ks.take i) : Nat) : Int)]) (l := l ++ [.int .i64 f, .int .i64 f] ++ cellsF plD (placesK (ks.take i) f)) (ver := v) (len := len + 1 + ((ks.take i).map size).sum) ih rfl rfl (by show b < n + 50; omega) (by omega) ((mrg_lt hb).trans (upd_same ..)) ?_ ?_ ?_ ?_
          · simp only [List.length_append, List.length_cons, List.length_nil, hcl, hpl]; omega
          · omega
          · intro c hc; exact (low2 f _ c hc).mono fun b' v' h => h.elim (fun h => .inl (by omega)) .inr
          · intro v2 hv2
            have w1 : IntKind.i64.wrap ((i : Int) + 1) = ((i + 1 : Nat) : Int) := by rw [IntWalk.i64_in _ (by omega)]; omega
            have w2 : IntKind.i64.wrap (((f + wlen (ks.take i) : Nat) : Int) + ((wordL kk).length : Int)) = ((f + wlen (ks.take (i + 1)) : Nat) : Int) := by rw [IntWalk.i64_in _ (by omega)]; omega
            simp -implicitDefEqProofs only [↓symPre, symPost, y_condP, y_condG, run, lver, minD, intsD, eqAll, tupD, splice, Nat.zero_add, Nat.add_zero, Nat.zero_mul, Nat.mul_one, Nat.one_mul, Nat.reduceAdd, Nat.reduceSub, Nat.reduceMul, Nat.reduceLT, Nat.reduceLeDiff, Nat.reduceEqDiff, true_and, and_true, true_implies, if_true, if_false, ite_true, reduceIte, ne_eq, not_false_eq_true, reduceCtorEq, forall_const, bne_self_eq_false, Bool.true_eq_false, Bool.false_eq_true, false_implies, and_self, implies_true, Int.toNat_zero, beq_self_eq_true, decide_true, decide_false, Bool.not_true, Bool.not_false, ↓y_call, hb, upd_upd]
            refine pw.call rfl ?_
            simp -implicitDefEqProofs only [↓symPre, symPost, y_condP, y_condG, run, lver, minD, intsD, eqAll, tupD, splice, Nat.zero_add, Nat.add_zero, Nat.zero_mul, Nat.mul_one, Nat.one_mul, Nat.reduceAdd, Nat.reduceSub, Nat.reduceMul, Nat.reduceLT, Nat.reduceLeDiff, Nat.reduceEqDiff, true_and, and_true, true_implies, if_true, if_false, ite_true, reduceIte, ne_eq, not_false_eq_true, reduceCtorEq, forall_const, bne_self_eq_false, Bool.true_eq_false, Bool.false_eq_true, false_implies, and_self, implies_true, Int.toNat_zero, beq_self_eq_true, decide_true, decide_false, Bool.not_true, Bool.not_false, ↓y_call, List.length_map, w1, w2]
            refine ⟨(i + 1, v2), ⟨by simp only; omega, by simp only; omega⟩, by simp only; omega, ?_⟩
            have hc1 : l ++ [D.int .i64 f, D.int .i64 f] ++ cellsF plD (placesK (ks.take i) f) ++ cellsF plD (placesT kk (f + wlen (ks.take i))) = l ++ [D.int .i64 f, D.int .i64 f] ++ cellsF plD (placesK (ks.take (i + 1)) f) := by
              rw [hpt, cellsF_app]; simp only [List.append_assoc]
            have hc2 : len + 1 + ((ks.take i).map size).sum + size kk = len + 1 + ((ks.take (i + 1)).map size).sum := by omega
            simp only [hc1, hc2]
            refine le_to (List.replicate 50 .hole) (lowH_upd hl fun c hc => low2 f _ c hc) rfl ?_ ?_ <;> ((try simp only [y_blk_end, y_blk_hole, y_blk_nil, y_blk_old, y_wkl_end, y_wkl_top, List.replicate, List.cons_append, List.nil_append, and_true, true_and]) <;> (repeat' (first | apply And.intro | apply y_wkl | refine Exists.intro _ (And.intro rfl ?_))) <;> (try first | exact trivial | exact Wk.top _ | exact wk_int rfl | exact wk_bool rfl | exact wk_ptr rfl rfl rfl rfl | exact wk_ref rfl rfl rfl rfl rfl | exact wk_nil rfl rfl rfl | exact wk_ref rfl rfl rfl rfl (by simp) | exact wk_ref rfl rfl rfl rfl (by simp; omega) | exact wk_old (by assumption) (by simp) | exact wk_eq rfl (by first | exact Bd.int _ _ | exact Bd.bool _ | exact Bd.abool | exact Bd.nils | exact Bd.emp | exact Bd.nilp | exact Bd.nilfn | assumption | exact low_trees _ _ | exact low_treeD _ _ | exact low_ints _ _) | exact Nat.le_refl _ | exact wk_int (by simp) | exact wk_int (by omega) | exact Nat.succ_le_succ (Nat.zero_le _) | exact Nat.le_add_left _ _ | omega))
        · have h1 : ¬ (i : Int) < (ks.length : Int) := by omega
          have hil : i = ks.length := by omega
          subst hil
          rw [List.take_length] at *
          have hput := put_to l (.int .i64 f) (.int .i64 f) (.int .i64 ((f + wlen ks : Nat) : Int)) (cellsF plD (placesK ks f)) (k := len) hlen
          have hcl := cellsF_len plD plD_cells (placesK ks f)
          have hCl := low_cellsF plD (low_plD n) (placesK ks f)
          generalize cellsF plD (placesK ks f) = C at *
          have l1 : (len : Int) < ((len + 1 + (ks.map size).sum : Nat) : Int) := by omega
          have l2 : len * 2 + 1 + 1 ≤ (l ++ [D.int .i64 f, D.int .i64 f] ++ C).length := by simp; omega
          have l3 : ¬ l ++ [D.int .i64 f, D.int .i64 f] ++ C = [] := by simp
          simp -implicitDefEqProofs only [↓symPre, symPost, y_condP, y_condG, run, lver, minD, intsD, eqAll, tupD, splice, Nat.zero_add, Nat.add_zero, Nat.zero_mul, Nat.mul_one, Nat.one_mul, Nat.reduceAdd, Nat.reduceSub, Nat.reduceMul, Nat.reduceLT, Nat.reduceLeDiff, Nat.reduceEqDiff, true_and, and_true, true_implies, if_true, if_false, ite_true, reduceIte, ne_eq, not_false_eq_true, reduceCtorEq, forall_const, bne_self_eq_false, Bool.true_eq_false, Bool.false_eq_true, false_implies, and_self, implies_true, Int.toNat_zero, beq_self_eq_true, decide_true, decide_false, Bool.not_true, Bool.not_false, ↓y_call, h1, decide_false, ↓y_at_old hb, upd_same, hb, l0, l1, l2, l3, Int.toNat_natCast, hput, upd_upd]
          refine fin_old (lowH_upd hl fun c hc => ?_) hb ⟨rfl, v, hv', ?_, ?_⟩
          · rcases List.mem_append.1 hc with hc | hc
            · rcases List.mem_append.1 hc with hc | hc
              · exact hlow c hc
              · simp only [List.mem_cons, List.not_mem_nil, or_false] at hc
                rcases hc with rfl | rfl <;> exact .int ..
            · exact hCl c hc
          · simp only [List.append_assoc, List.cons_append, List.nil_append]
          · rw [show len + 1 + (ks.map size).sum = len + (1 + (ks.map size).sum) by omega]
termination_by t => t

theorem fresh_walk (t : Tree) (hsz : size t < 2 ^ 40) (hw : (wordL t).length < 2 ^ 40) (hfit : size t * 16 ≤ 140737488355328) : Fresh prog F_tree_walk [.nils, treeD t, .int .i64 0] 2 (cellsF plD (placesT t 0)) (size t) :=
  (app_walk t 0 hsz (by omega)).fresh hfit fun X d d' h => y_wkl h (y_wkl (.low _ (low_treeD _ t)) (y_wkl (wk_int rfl) trivial))

theorem pure_Places (t : Tree) (hsz : size t < 2 ^ 40) (hfit : size t * 16 ≤ 140737488355328) : Pure prog F_tree_Places [treeD t] (.lst ((placesT t 0).map plD)) := by
  intro n h
  have hw := wordL_len t
  have hlen := placesT_len t 0
  have fw := fresh_walk t hsz (by omega) hfit
  obtain ⟨r0, t0, k0, ht⟩ : ∃ r t' k, t = .mk r t' k := by cases t; exact ⟨_, _, _, rfl⟩
  have htD : treeD t = .agg [.int .i64 r0, .int .i64 t0, .lst (k0.map treeD)] := by rw [ht, treeD_mk]
  rw [htD] at fw ⊢
  refine K_tree_Places.calls fun hl => ?_
  unfold C_tree_Places
  simp -implicitDefEqProofs only [↓symPre, symPost, y_condP, y_condG, run, lver, minD, intsD, eqAll, tupD, splice, Nat.zero_add, Nat.add_zero, Nat.zero_mul, Nat.mul_one, Nat.one_mul, Nat.reduceAdd, Nat.reduceSub, Nat.reduceMul, Nat.reduceLT, Nat.reduceLeDiff, Nat.reduceEqDiff, true_and, and_true, true_implies, if_true, if_false, ite_true, reduceIte, ne_eq, not_false_eq_true, reduceCtorEq, forall_const, bne_self_eq_false, Bool.true_eq_false, Bool.false_eq_true, false_implies, and_self, implies_true, Int.toNat_zero, beq_self_eq_true, decide_true, decide_false, Bool.not_true, Bool.not_false, ↓y_call]
  refine fw.call (t := 4) (low_cellsF plD (low_plD 0) _) rfl rfl (Nat.le_of_ble_eq_true rfl) rfl ?_
  simp -implicitDefEqProofs only [↓symPre, symPost, y_condP, y_condG, run, lver, minD, intsD, eqAll, tupD, splice, Nat.zero_add, Nat.add_zero, Nat.zero_mul, Nat.mul_one, Nat.one_mul, Nat.reduceAdd, Nat.reduceSub, Nat.reduceMul, Nat.reduceLT, Nat.reduceLeDiff, Nat.reduceEqDiff, true_and, and_true, true_implies, if_true, if_false, ite_true, reduceIte, ne_eq, not_false_eq_true, reduceCtorEq, forall_const, bne_self_eq_false, Bool.true_eq_false, Bool.false_eq_true, false_implies, and_self, implies_true, Int.toNat_zero, beq_self_eq_true, decide_true, decide_false, Bool.not_true, Bool.not_false, ↓y_call]
  exact fin_wk hl (wk_frzF plD plD_cells (low_plD n) (t := 4) rfl rfl (by simp) hlen.symm) ⟨rfl, rfl, rfl⟩

end Abs
end Go.Proofs.Ytfojedaccfenfaa

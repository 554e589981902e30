/- Calc. -/
import Derived.Test.YtoeehfnkcfeoaaaN9
namespace Go.Proofs.Ytoeehfnkcfeoaaa
namespace Abs
set_option linter.unusedVariables false
set_option linter.unusedSimpArgs false
set_option maxRecDepth 20000

def addM (a b : Int) : Int := (IntKind.i64.wrap (a + b)).tmod 1000003
def mulM (a b : Int) : Int := (IntKind.i64.wrap (a * b)).tmod 1000003
def calcV (k n w : Int) (l : List Int) : Int :=
  if k = 0 then n else if k = 1 then w else if k = 2 then l.foldl addM 0 else if k = 3 then l.foldl mulM 1 else if k = 4 then maxL l
  else if k = 5 then (if l.getD 0 0 < l.getD 1 0 then 1 else 0) else (if l.getD 0 0 = 0 then l.getD 2 0 else l.getD 1 0)
def calcE (f : Int → Int → Int) : Ex → Int
  | .mk k n a r xs => calcV k n (f a r) (xs.map (calcE f))
theorem calcE_mk (f : Int → Int → Int) (k n a r : Int) (xs : List Ex) : calcE f (.mk k n a r xs) = calcV k n (f a r) (xs.map (calcE f)) := by rw [calcE]

theorem foldl_take {g : Int → Int → Int} {z : Int} {l : List Int} {i : Nat} (hi : i < l.length) : (l.take (i + 1)).foldl g z = g ((l.take i).foldl g z) l[i] := by
  rw [List.take_succ_eq_append_getElem hi, List.foldl_append]; rfl

set_option maxHeartbeats 16000000 in
theorem at_Calc (f : Int → Int → Int) (F : FuncId) (cs : List D) : ∀ (x : Ex), okX x → sz x < 2 ^ 40 → ∀ (n : Nat) (h : Heap), (∀ c ∈ cs, Low n c) → Gets n h F cs f →
    ACalls prog F_attr_Calc [exD x, .fn F cs] n h fun d h' y => y = [] ∧ h' = h ∧ d = .int .i64 (calcE f x)
  | .mk k nn a r xs, hok, hsz, n, h, hcs, hg => by
    have hszm := sz_mk k nn a r xs
    have hkl := len_le_sz xs
    have hrec := fun y (hy : y ∈ xs) (m : Nat) (H : Heap) => at_Calc f F cs y ((okX_mk.1 hok).2 y hy) (by have := sz_mem hy; omega) m H
    have hk := (okX_mk.1 hok).1
    rw [calcE_mk, exD_mk]
    refine K_attr_Calc.calls fun hl => ?_
    unfold C_attr_Calc
    have lowF : Low n (.fn F cs) := .fn _ _ hcs
    have hlx := low_exs n xs
    have hM : ¬ (1000003 : Int) = 0 := by decide
    simp -implicitDefEqProofs only [↓symPre, symPost, y_condP, y_condG, run, lver, minD, intsD, eqAll, tupD, splice, Nat.zero_add, Nat.add_zero, Nat.zero_mul, Nat.mul_one, Nat.one_mul, Nat.reduceAdd, Nat.reduceSub, Nat.reduceMul, Nat.reduceLT, Nat.reduceLeDiff, Nat.reduceEqDiff, true_and, and_true, true_implies, if_true, if_false, ite_true, reduceIte, ne_eq, not_false_eq_true, reduceCtorEq, forall_const, bne_self_eq_false, Bool.true_eq_false, Bool.false_eq_true, false_implies, and_self, implies_true, Int.toNat_zero, beq_self_eq_true, decide_true, decide_false, Bool.not_true, Bool.not_false, ↓y_lookv, y_key1, y_mlook, y_mlookn, y_mres1, y_mres0, ↓y_call, List.length_map]
    refine aloop (fun p : Nat × Nat => St.mk n ([.top, .fn F cs, .ptr (n + 2) 1 0, .top, .top, .ref 1 (n + 25) p.2 0 p.1] ++ List.replicate 8 .top ++ [.lst (xs.map exD), .int .i64 xs.length, .int .i64 p.1] ++ List.replicate 74 .top) h
        (List.replicate 2 blk0 ++ [⟨1, .cells [.int .i64 k, .int .i64 nn, .int .i64 a, .int .i64 r, .lst (xs.map exD)]⟩] ++ List.replicate 22 blk0 ++ [⟨p.2, .cells (((xs.take p.1).map (calcE f)).map (.int .i64))⟩] ++ List.replicate 65 blk0))
      (fun p => p.1 ≤ xs.length ∧ 1 ≤ p.2) (fun p => xs.length - p.1) (0, 1) ⟨Nat.zero_le _, Nat.le_refl _⟩ ?_ ?_
    · refine le_to (List.replicate 2 .hole ++ [.old 2] ++ List.replicate 22 .hole ++ [.nil] ++ List.replicate 65 .hole) hl rfl ?_ ?_ <;> (try simp only [List.take_zero, List.map_nil]) <;> ((try simp only [y_blk_end, y_blk_hole, y_blk_nil, y_blk_old, y_wkl_end, y_wkl_top, List.replicate, List.cons_append, List.nil_append, and_true, true_and]) <;> (repeat' (first | apply And.intro | apply y_wkl | refine Exists.intro _ (And.intro rfl ?_))) <;> (try first | exact trivial | exact Wk.top _ | exact wk_int rfl | exact wk_bool rfl | exact wk_ptr rfl rfl rfl rfl | exact wk_ref rfl rfl rfl rfl rfl | exact wk_nil rfl rfl rfl | exact wk_ref rfl rfl rfl rfl (by simp) | exact wk_ref rfl rfl rfl rfl (by simp; omega) | exact wk_old (by assumption) (by simp) | exact wk_eq rfl (by first | exact Bd.int _ _ | exact Bd.bool _ | exact Bd.abool | exact Bd.nils | exact Bd.emp | exact Bd.nilp | exact Bd.nilfn | assumption | exact low_trees _ _ | exact low_treeD _ _ | exact low_ints _ _) | exact Nat.le_refl _ | exact wk_int (by simp) | exact wk_int (by omega) | exact Nat.succ_le_succ (Nat.zero_le _) | exact Nat.le_add_left _ _ | omega))
    · rintro ⟨i, v⟩ ⟨hi, hv⟩
      simp only at hi hv
      by_cases hlt : i < xs.length
      · have f1 : (i : Int) < (xs.length : Int) := by omega
        have f0 : (0 : Int) ≤ (i : Int) := by omega
        have w1 : IntKind.i64.wrap ((i : Int) + 1) = ((i + 1 : Nat) : Int) := by rw [IntWalk.i64_in _ (by omega)]; omega
        have e0 := nth_exs xs i hlt
        have hT : ((xs.take (i + 1)).map (calcE f)).map (D.int .i64) = ((xs.take i).map (calcE f)).map (D.int .i64) ++ [D.int .i64 (calcE f xs[i])] := by
          rw [List.take_succ_eq_append_getElem hlt, List.map_append, List.map_append]; rfl
        have hc1 := hrec xs[i] (List.getElem_mem hlt) (n + 91)
        have hTl : ((xs.take i).map (calcE f)).length = i := by simp; omega
        simp only [hT]
        generalize (xs.take i).map (calcE f) = T at *
        have hTt := take_all (T.map (D.int .i64)) (k := i) (by simp [hTl])
        have hTf : i ≤ (T.map (D.int .i64)).length := by simp [hTl]
        have hf8 : (i + 1) * 8 ≤ 140737488355328 := by omega
        generalize hyy : xs[i] = y at *
        generalize hcy : calcE f y = cy at *
        obtain ⟨yk, yn, ya, yr, ys⟩ := y
        have hly := low_exs n ys
        rw [exD_mk] at e0 hc1
        simp -implicitDefEqProofs only [↓symPre, symPost, y_condP, y_condG, run, lver, minD, intsD, eqAll, tupD, splice, Nat.zero_add, Nat.add_zero, Nat.zero_mul, Nat.mul_one, Nat.one_mul, Nat.reduceAdd, Nat.reduceSub, Nat.reduceMul, Nat.reduceLT, Nat.reduceLeDiff, Nat.reduceEqDiff, true_and, and_true, true_implies, if_true, if_false, ite_true, reduceIte, ne_eq, not_false_eq_true, reduceCtorEq, forall_const, bne_self_eq_false, Bool.true_eq_false, Bool.false_eq_true, false_implies, and_self, implies_true, Int.toNat_zero, beq_self_eq_true, decide_true, decide_false, Bool.not_true, Bool.not_false, ↓y_lookv, y_key1, y_mlook, y_mlookn, y_mres1, y_mres0, ↓y_call, f1, f0, decide_true, List.length_map, Int.toNat_natCast, e0]
        refine (hc1 _ (fun c hc => (hcs c hc).mono (by omega)) (hg.mono (by omega) Keeps.mrg)).mono fun d h' x ⟨hx, hh, hd⟩ => .inl ⟨[], by simp [St.inr], hx, by rw [hh]; rfl, ?_⟩
        subst hd
        simp -implicitDefEqProofs only [↓symPre, symPost, y_condP, y_condG, run, lver, minD, intsD, eqAll, tupD, splice, Nat.zero_add, Nat.add_zero, Nat.zero_mul, Nat.mul_one, Nat.one_mul, Nat.reduceAdd, Nat.reduceSub, Nat.reduceMul, Nat.reduceLT, Nat.reduceLeDiff, Nat.reduceEqDiff, true_and, and_true, true_implies, if_true, if_false, ite_true, reduceIte, ne_eq, not_false_eq_true, reduceCtorEq, forall_const, bne_self_eq_false, Bool.true_eq_false, Bool.false_eq_true, false_implies, and_self, implies_true, Int.toNat_zero, beq_self_eq_true, decide_true, decide_false, Bool.not_true, Bool.not_false, ↓y_lookv, y_key1, y_mlook, y_mlookn, y_mres1, y_mres0, ↓y_call, srcOf, Nat.le_refl, hTt, hTf, hf8, w1]
        refine ⟨(i + 1, v + 1), ⟨by simp only; omega, by simp only; omega⟩, by simp only; omega, ?_⟩
        simp only [hT]
        refine le_to (List.replicate 2 .hole ++ [.old 2] ++ List.replicate 22 .hole ++ [.old 25] ++ List.replicate 65 .hole) hl rfl ?_ ?_ <;> ((try simp only [y_blk_end, y_blk_hole, y_blk_nil, y_blk_old, y_wkl_end, y_wkl_top, List.replicate, List.cons_append, List.nil_append, and_true, true_and]) <;> (repeat' (first | apply And.intro | apply y_wkl | refine Exists.intro _ (And.intro rfl ?_))) <;> (try first | exact trivial | exact Wk.top _ | exact wk_int rfl | exact wk_bool rfl | exact wk_ptr rfl rfl rfl rfl | exact wk_ref rfl rfl rfl rfl rfl | exact wk_nil rfl rfl rfl | exact wk_ref rfl rfl rfl rfl (by simp) | exact wk_ref rfl rfl rfl rfl (by simp; omega) | exact wk_old (by assumption) (by simp) | exact wk_eq rfl (by first | exact Bd.int _ _ | exact Bd.bool _ | exact Bd.abool | exact Bd.nils | exact Bd.emp | exact Bd.nilp | exact Bd.nilfn | assumption | exact low_trees _ _ | exact low_treeD _ _ | exact low_ints _ _) | exact Nat.le_refl _ | exact wk_int (by simp) | exact wk_int (by omega) | exact Nat.succ_le_succ (Nat.zero_le _) | exact Nat.le_add_left _ _ | omega))
        all_goals exact WkL.app (WkL.low fun c hc => by obtain ⟨x, _, rfl⟩ := List.mem_map.1 hc; exact .int ..) (y_wkl (wk_int rfl) trivial)
      · have f1 : ¬ (i : Int) < (xs.length : Int) := by omega
        obtain rfl : i = xs.length := by omega
        rw [List.take_length]
        have hvl : (xs.map (calcE f)).length = xs.length := by simp
        generalize xs.map (calcE f) = V at *
        have hV : ∀ c ∈ V.map (D.int .i64), Low n c := fun c hc => by obtain ⟨x, _, rfl⟩ := List.mem_map.1 hc; exact .int ..
        rcases hk with hkq | hkq | hkq | hkq | ⟨hkq, hx⟩ | ⟨hkq, hx⟩ | ⟨hkq, hx⟩
        · have hcv : calcV k nn (f a r) V = calcV 0 nn (f a r) V := by rw [hkq]
          rw [hcv]
          have b0 : (k == 0) = true := by simp [hkq]
          simp -implicitDefEqProofs only [↓symPre, symPost, y_condP, y_condG, run, lver, minD, intsD, eqAll, tupD, splice, Nat.zero_add, Nat.add_zero, Nat.zero_mul, Nat.mul_one, Nat.one_mul, Nat.reduceAdd, Nat.reduceSub, Nat.reduceMul, Nat.reduceLT, Nat.reduceLeDiff, Nat.reduceEqDiff, true_and, and_true, true_implies, if_true, if_false, ite_true, reduceIte, ne_eq, not_false_eq_true, reduceCtorEq, forall_const, bne_self_eq_false, Bool.true_eq_false, Bool.false_eq_true, false_implies, and_self, implies_true, Int.toNat_zero, beq_self_eq_true, decide_true, decide_false, Bool.not_true, Bool.not_false, ↓y_lookv, y_key1, y_mlook, y_mlookn, y_mres1, y_mres0, ↓y_call, f1, decide_false, b0]
          exact fin_low hl (.int ..) ⟨rfl, rfl, rfl⟩
        · have hcv : calcV k nn (f a r) V = calcV 1 nn (f a r) V := by rw [hkq]
          rw [hcv]
          have b0 : (k == 0) = false := by simp [hkq]
          have b1 : (k == 1) = true := by simp [hkq]
          simp -implicitDefEqProofs only [↓symPre, symPost, y_condP, y_condG, run, lver, minD, intsD, eqAll, tupD, splice, Nat.zero_add, Nat.add_zero, Nat.zero_mul, Nat.mul_one, Nat.one_mul, Nat.reduceAdd, Nat.reduceSub, Nat.reduceMul, Nat.reduceLT, Nat.reduceLeDiff, Nat.reduceEqDiff, true_and, and_true, true_implies, if_true, if_false, ite_true, reduceIte, ne_eq, not_false_eq_true, reduceCtorEq, forall_const, bne_self_eq_false, Bool.true_eq_false, Bool.false_eq_true, false_implies, and_self, implies_true, Int.toNat_zero, beq_self_eq_true, decide_true, decide_false, Bool.not_true, Bool.not_false, ↓y_lookv, y_key1, y_mlook, y_mlookn, y_mres1, y_mres0, ↓y_call, f1, decide_false, ↓y_callv, b0, b1]
          refine (hg a r (n + 91) _ (by omega) Keeps.mrg).mono fun d h' x ⟨hx, hh, hd⟩ => .inl ⟨[], by simp [St.inr], hx, by rw [hh]; rfl, ?_⟩
          subst hd
          simp -implicitDefEqProofs only [↓symPre, symPost, y_condP, y_condG, run, lver, minD, intsD, eqAll, tupD, splice, Nat.zero_add, Nat.add_zero, Nat.zero_mul, Nat.mul_one, Nat.one_mul, Nat.reduceAdd, Nat.reduceSub, Nat.reduceMul, Nat.reduceLT, Nat.reduceLeDiff, Nat.reduceEqDiff, true_and, and_true, true_implies, if_true, if_false, ite_true, reduceIte, ne_eq, not_false_eq_true, reduceCtorEq, forall_const, bne_self_eq_false, Bool.true_eq_false, Bool.false_eq_true, false_implies, and_self, implies_true, Int.toNat_zero, beq_self_eq_true, decide_true, decide_false, Bool.not_true, Bool.not_false, ↓y_lookv, y_key1, y_mlook, y_mlookn, y_mres1, y_mres0, ↓y_call]
          exact fin_low hl (.int ..) ⟨rfl, rfl, rfl⟩
        · have hcv : calcV k nn (f a r) V = calcV 2 nn (f a r) V := by rw [hkq]
          rw [hcv]
          have b0 : (k == 0) = false := by simp [hkq]
          have b1 : (k == 1) = false := by simp [hkq]
          have b2 : (k == 2) = true := by simp [hkq]
          have hcv2 : calcV 2 nn (f a r) V = V.foldl addM 0 := rfl
          rw [hcv2]
          simp -implicitDefEqProofs only [↓symPre, symPost, y_condP, y_condG, run, lver, minD, intsD, eqAll, tupD, splice, Nat.zero_add, Nat.add_zero, Nat.zero_mul, Nat.mul_one, Nat.one_mul, Nat.reduceAdd, Nat.reduceSub, Nat.reduceMul, Nat.reduceLT, Nat.reduceLeDiff, Nat.reduceEqDiff, true_and, and_true, true_implies, if_true, if_false, ite_true, reduceIte, ne_eq, not_false_eq_true, reduceCtorEq, forall_const, bne_self_eq_false, Bool.true_eq_false, Bool.false_eq_true, false_implies, and_self, implies_true, Int.toNat_zero, beq_self_eq_true, decide_true, decide_false, Bool.not_true, Bool.not_false, ↓y_lookv, y_key1, y_mlook, y_mlookn, y_mres1, y_mres0, ↓y_call, f1, decide_false, b0, b1, b2]
          refine aloop (fun j : Nat => St.mk n (List.replicate 8 .top ++ [.int .i64 ((V.take j).foldl addM 0)] ++ List.replicate 32 .top ++ [.ref 1 (n + 25) v 0 xs.length, .int .i64 xs.length, .int .i64 j] ++ List.replicate 47 .top) h
              (List.replicate 25 blk0 ++ [⟨v, .cells (V.map (.int .i64))⟩] ++ List.replicate 65 blk0)) (fun j => j ≤ xs.length) (fun j => xs.length - j) 0 (Nat.zero_le _) ?_ ?_
          · refine le_to (List.replicate 25 .hole ++ [.old 25] ++ List.replicate 65 .hole) hl rfl ?_ ?_ <;> (try simp only [List.take_zero, List.foldl_nil]) <;> ((try simp only [y_blk_end, y_blk_hole, y_blk_nil, y_blk_old, y_wkl_end, y_wkl_top, List.replicate, List.cons_append, List.nil_append, and_true, true_and]) <;> (repeat' (first | apply And.intro | apply y_wkl | refine Exists.intro _ (And.intro rfl ?_))) <;> (try first | exact trivial | exact Wk.top _ | exact wk_int rfl | exact wk_bool rfl | exact wk_ptr rfl rfl rfl rfl | exact wk_ref rfl rfl rfl rfl rfl | exact wk_nil rfl rfl rfl | exact wk_ref rfl rfl rfl rfl (by simp) | exact wk_ref rfl rfl rfl rfl (by simp; omega) | exact wk_old (by assumption) (by simp) | exact wk_eq rfl (by first | exact Bd.int _ _ | exact Bd.bool _ | exact Bd.abool | exact Bd.nils | exact Bd.emp | exact Bd.nilp | exact Bd.nilfn | assumption | exact low_trees _ _ | exact low_treeD _ _ | exact low_ints _ _) | exact Nat.le_refl _ | exact wk_int (by simp) | exact wk_int (by omega) | exact Nat.succ_le_succ (Nat.zero_le _) | exact Nat.le_add_left _ _ | omega))
            all_goals first | exact WkL.low hV | skip
          · intro j hj
            by_cases hjl' : j < xs.length
            · have hjl : j < V.length := by omega
              have g1 : (j : Int) < (xs.length : Int) := by omega
              have g0 : (0 : Int) ≤ (j : Int) := by omega
              have w2 : IntKind.i64.wrap ((j : Int) + 1) = ((j + 1 : Nat) : Int) := by rw [IntWalk.i64_in _ (by omega)]; omega
              have e1 := nth_ints V j hjl
              have hft := @foldl_take addM 0 V j hjl
              have hjm : j < (V.map (D.int .i64)).length := by simpa using hjl
              generalize V[j] = x at *
              simp -implicitDefEqProofs only [↓symPre, symPost, y_condP, y_condG, run, lver, minD, intsD, eqAll, tupD, splice, Nat.zero_add, Nat.add_zero, Nat.zero_mul, Nat.mul_one, Nat.one_mul, Nat.reduceAdd, Nat.reduceSub, Nat.reduceMul, Nat.reduceLT, Nat.reduceLeDiff, Nat.reduceEqDiff, true_and, and_true, true_implies, if_true, if_false, ite_true, reduceIte, ne_eq, not_false_eq_true, reduceCtorEq, forall_const, bne_self_eq_false, Bool.true_eq_false, Bool.false_eq_true, false_implies, and_self, implies_true, Int.toNat_zero, beq_self_eq_true, decide_true, decide_false, Bool.not_true, Bool.not_false, ↓y_lookv, y_key1, y_mlook, y_mlookn, y_mres1, y_mres0, ↓y_call, g1, g0, decide_true, List.length_map, Int.toNat_natCast, e1, hjl, hM, w2]
              refine ⟨j + 1, by omega, by omega, ?_⟩
              simp only [hft, addM]
              refine le_to (List.replicate 25 .hole ++ [.old 25] ++ List.replicate 65 .hole) hl rfl ?_ ?_ <;> ((try simp only [y_blk_end, y_blk_hole, y_blk_nil, y_blk_old, y_wkl_end, y_wkl_top, List.replicate, List.cons_append, List.nil_append, and_true, true_and]) <;> (repeat' (first | apply And.intro | apply y_wkl | refine Exists.intro _ (And.intro rfl ?_))) <;> (try first | exact trivial | exact Wk.top _ | exact wk_int rfl | exact wk_bool rfl | exact wk_ptr rfl rfl rfl rfl | exact wk_ref rfl rfl rfl rfl rfl | exact wk_nil rfl rfl rfl | exact wk_ref rfl rfl rfl rfl (by simp) | exact wk_ref rfl rfl rfl rfl (by simp; omega) | exact wk_old (by assumption) (by simp) | exact wk_eq rfl (by first | exact Bd.int _ _ | exact Bd.bool _ | exact Bd.abool | exact Bd.nils | exact Bd.emp | exact Bd.nilp | exact Bd.nilfn | assumption | exact low_trees _ _ | exact low_treeD _ _ | exact low_ints _ _) | exact Nat.le_refl _ | exact wk_int (by simp) | exact wk_int (by omega) | exact Nat.succ_le_succ (Nat.zero_le _) | exact Nat.le_add_left _ _ | omega))
              all_goals first | exact WkL.low hV | skip
            · have g1 : ¬ (j : Int) < (xs.length : Int) := by omega
              rw [List.take_of_length_le (by omega)]
              simp -implicitDefEqProofs only [↓symPre, symPost, y_condP, y_condG, run, lver, minD, intsD, eqAll, tupD, splice, Nat.zero_add, Nat.add_zero, Nat.zero_mul, Nat.mul_one, Nat.one_mul, Nat.reduceAdd, Nat.reduceSub, Nat.reduceMul, Nat.reduceLT, Nat.reduceLeDiff, Nat.reduceEqDiff, true_and, and_true, true_implies, if_true, if_false, ite_true, reduceIte, ne_eq, not_false_eq_true, reduceCtorEq, forall_const, bne_self_eq_false, Bool.true_eq_false, Bool.false_eq_true, false_implies, and_self, implies_true, Int.toNat_zero, beq_self_eq_true, decide_true, decide_false, Bool.not_true, Bool.not_false, ↓y_lookv, y_key1, y_mlook, y_mlookn, y_mres1, y_mres0, ↓y_call, g1, decide_false]
              exact fin_low hl (.int ..) ⟨rfl, rfl, rfl⟩
        · have hcv : calcV k nn (f a r) V = calcV 3 nn (f a r) V := by rw [hkq]
          rw [hcv]
          have b0 : (k == 0) = false := by simp [hkq]
          have b1 : (k == 1) = false := by simp [hkq]
          have b2 : (k == 2) = false := by simp [hkq]
          have b3 : (k == 3) = true := by simp [hkq]
          have hcv2 : calcV 3 nn (f a r) V = V.foldl mulM 1 := rfl
          rw [hcv2]
          simp -implicitDefEqProofs only [↓symPre, symPost, y_condP, y_condG, run, lver, minD, intsD, eqAll, tupD, splice, Nat.zero_add, Nat.add_zero, Nat.zero_mul, Nat.mul_one, Nat.one_mul, Nat.reduceAdd, Nat.reduceSub, Nat.reduceMul, Nat.reduceLT, Nat.reduceLeDiff, Nat.reduceEqDiff, true_and, and_true, true_implies, if_true, if_false, ite_true, reduceIte, ne_eq, not_false_eq_true, reduceCtorEq, forall_const, bne_self_eq_false, Bool.true_eq_false, Bool.false_eq_true, false_implies, and_self, implies_true, Int.toNat_zero, beq_self_eq_true, decide_true, decide_false, Bool.not_true, Bool.not_false, ↓y_lookv, y_key1, y_mlook, y_mlookn, y_mres1, y_mres0, ↓y_call, f1, decide_false, b0, b1, b2, b3]
          refine aloop (fun j : Nat => St.mk n (List.replicate 8 .top ++ [.int .i64 ((V.take j).foldl mulM 1)] ++ List.replicate 45 .top ++ [.ref 1 (n + 25) v 0 xs.length, .int .i64 xs.length, .int .i64 j] ++ List.replicate 34 .top) h
              (List.replicate 25 blk0 ++ [⟨v, .cells (V.map (.int .i64))⟩] ++ List.replicate 65 blk0)) (fun j => j ≤ xs.length) (fun j => xs.length - j) 0 (Nat.zero_le _) ?_ ?_
          · refine le_to (List.replicate 25 .hole ++ [.old 25] ++ List.replicate 65 .hole) hl rfl ?_ ?_ <;> (try simp only [List.take_zero, List.foldl_nil]) <;> ((try simp only [y_blk_end, y_blk_hole, y_blk_nil, y_blk_old, y_wkl_end, y_wkl_top, List.replicate, List.cons_append, List.nil_append, and_true, true_and]) <;> (repeat' (first | apply And.intro | apply y_wkl | refine Exists.intro _ (And.intro rfl ?_))) <;> (try first | exact trivial | exact Wk.top _ | exact wk_int rfl | exact wk_bool rfl | exact wk_ptr rfl rfl rfl rfl | exact wk_ref rfl rfl rfl rfl rfl | exact wk_nil rfl rfl rfl | exact wk_ref rfl rfl rfl rfl (by simp) | exact wk_ref rfl rfl rfl rfl (by simp; omega) | exact wk_old (by assumption) (by simp) | exact wk_eq rfl (by first | exact Bd.int _ _ | exact Bd.bool _ | exact Bd.abool | exact Bd.nils | exact Bd.emp | exact Bd.nilp | exact Bd.nilfn | assumption | exact low_trees _ _ | exact low_treeD _ _ | exact low_ints _ _) | exact Nat.le_refl _ | exact wk_int (by simp) | exact wk_int (by omega) | exact Nat.succ_le_succ (Nat.zero_le _) | exact Nat.le_add_left _ _ | omega))
            all_goals first | exact WkL.low hV | skip
          · intro j hj
            by_cases hjl' : j < xs.length
            · have hjl : j < V.length := by omega
              have g1 : (j : Int) < (xs.length : Int) := by omega
              have g0 : (0 : Int) ≤ (j : Int) := by omega
              have w2 : IntKind.i64.wrap ((j : Int) + 1) = ((j + 1 : Nat) : Int) := by rw [IntWalk.i64_in _ (by omega)]; omega
              have e1 := nth_ints V j hjl
              have hft := @foldl_take mulM 1 V j hjl
              have hjm : j < (V.map (D.int .i64)).length := by simpa using hjl
              generalize V[j] = x at *
              simp -implicitDefEqProofs only [↓symPre, symPost, y_condP, y_condG, run, lver, minD, intsD, eqAll, tupD, splice, Nat.zero_add, Nat.add_zero, Nat.zero_mul, Nat.mul_one, Nat.one_mul, Nat.reduceAdd, Nat.reduceSub, Nat.reduceMul, Nat.reduceLT, Nat.reduceLeDiff, Nat.reduceEqDiff, true_and, and_true, true_implies, if_true, if_false, ite_true, reduceIte, ne_eq, not_false_eq_true, reduceCtorEq, forall_const, bne_self_eq_false, Bool.true_eq_false, Bool.false_eq_true, false_implies, and_self, implies_true, Int.toNat_zero, beq_self_eq_true, decide_true, decide_false, Bool.not_true, Bool.not_false, ↓y_lookv, y_key1, y_mlook, y_mlookn, y_mres1, y_mres0, ↓y_call, g1, g0, decide_true, List.length_map, Int.toNat_natCast, e1, hjl, hM, w2]
              refine ⟨j + 1, by omega, by omega, ?_⟩
              simp only [hft, mulM]
              refine le_to (List.replicate 25 .hole ++ [.old 25] ++ List.replicate 65 .hole) hl rfl ?_ ?_ <;> ((try simp only [y_blk_end, y_blk_hole, y_blk_nil, y_blk_old, y_wkl_end, y_wkl_top, List.replicate, List.cons_append, List.nil_append, and_true, true_and]) <;> (repeat' (first | apply And.intro | apply y_wkl | refine Exists.intro _ (And.intro rfl ?_))) <;> (try first | exact trivial | exact Wk.top _ | exact wk_int rfl | exact wk_bool rfl | exact wk_ptr rfl rfl rfl rfl | exact wk_ref rfl rfl rfl rfl rfl | exact wk_nil rfl rfl rfl | exact wk_ref rfl rfl rfl rfl (by simp) | exact wk_ref rfl rfl rfl rfl (by simp; omega) | exact wk_old (by assumption) (by simp) | exact wk_eq rfl (by first | exact Bd.int _ _ | exact Bd.bool _ | exact Bd.abool | exact Bd.nils | exact Bd.emp | exact Bd.nilp | exact Bd.nilfn | assumption | exact low_trees _ _ | exact low_treeD _ _ | exact low_ints _ _) | exact Nat.le_refl _ | exact wk_int (by simp) | exact wk_int (by omega) | exact Nat.succ_le_succ (Nat.zero_le _) | exact Nat.le_add_left _ _ | omega))
              all_goals first | exact WkL.low hV | skip
            · have g1 : ¬ (j : Int) < (xs.length : Int) := by omega
              rw [List.take_of_length_le (by omega)]
              simp -implicitDefEqProofs only [↓symPre, symPost, y_condP, y_condG, run, lver, minD, intsD, eqAll, tupD, splice, Nat.zero_add, Nat.add_zero, Nat.zero_mul, Nat.mul_one, Nat.one_mul, Nat.reduceAdd, Nat.reduceSub, Nat.reduceMul, Nat.reduceLT, Nat.reduceLeDiff, Nat.reduceEqDiff, true_and, and_true, true_implies, if_true, if_false, ite_true, reduceIte, ne_eq, not_false_eq_true, reduceCtorEq, forall_const, bne_self_eq_false, Bool.true_eq_false, Bool.false_eq_true, false_implies, and_self, implies_true, Int.toNat_zero, beq_self_eq_true, decide_true, decide_false, Bool.not_true, Bool.not_false, ↓y_lookv, y_key1, y_mlook, y_mlookn, y_mres1, y_mres0, ↓y_call, g1, decide_false]
              exact fin_low hl (.int ..) ⟨rfl, rfl, rfl⟩
        · have hcv : calcV k nn (f a r) V = calcV 4 nn (f a r) V := by rw [hkq]
          rw [hcv]
          have b0 : (k == 0) = false := by simp [hkq]
          have b1 : (k == 1) = false := by simp [hkq]
          have b2 : (k == 2) = false := by simp [hkq]
          have b3 : (k == 3) = false := by simp [hkq]
          have b4 : (k == 4) = true := by simp [hkq]
          have hcv2 : calcV 4 nn (f a r) V = maxL V := rfl
          rw [hcv2]
          simp -implicitDefEqProofs only [↓symPre, symPost, y_condP, y_condG, run, lver, minD, intsD, eqAll, tupD, splice, Nat.zero_add, Nat.add_zero, Nat.zero_mul, Nat.mul_one, Nat.one_mul, Nat.reduceAdd, Nat.reduceSub, Nat.reduceMul, Nat.reduceLT, Nat.reduceLeDiff, Nat.reduceEqDiff, true_and, and_true, true_implies, if_true, if_false, ite_true, reduceIte, ne_eq, not_false_eq_true, reduceCtorEq, forall_const, bne_self_eq_false, Bool.true_eq_false, Bool.false_eq_true, false_implies, and_self, implies_true, Int.toNat_zero, beq_self_eq_true, decide_true, decide_false, Bool.not_true, Bool.not_false, ↓y_lookv, y_key1, y_mlook, y_mlookn, y_mres1, y_mres0, ↓y_call, f1, decide_false, b0, b1, b2, b3, b4]
          refine (pure_Max V (by omega) (by omega)).callF (.int ..) rfl (y_wkl (fz_ints (by omega) (by rw [mrg_loc]; rfl) hvl.symm) trivial) ?_
          simp -implicitDefEqProofs only [↓symPre, symPost, y_condP, y_condG, run, lver, minD, intsD, eqAll, tupD, splice, Nat.zero_add, Nat.add_zero, Nat.zero_mul, Nat.mul_one, Nat.one_mul, Nat.reduceAdd, Nat.reduceSub, Nat.reduceMul, Nat.reduceLT, Nat.reduceLeDiff, Nat.reduceEqDiff, true_and, and_true, true_implies, if_true, if_false, ite_true, reduceIte, ne_eq, not_false_eq_true, reduceCtorEq, forall_const, bne_self_eq_false, Bool.true_eq_false, Bool.false_eq_true, false_implies, and_self, implies_true, Int.toNat_zero, beq_self_eq_true, decide_true, decide_false, Bool.not_true, Bool.not_false, ↓y_lookv, y_key1, y_mlook, y_mlookn, y_mres1, y_mres0, ↓y_call]
          exact fin_low hl (.int ..) ⟨rfl, rfl, rfl⟩
        · have hcv : calcV k nn (f a r) V = calcV 5 nn (f a r) V := by rw [hkq]
          rw [hcv]
          have b0 : (k == 0) = false := by simp [hkq]
          have b1 : (k == 1) = false := by simp [hkq]
          have b2 : (k == 2) = false := by simp [hkq]
          have b3 : (k == 3) = false := by simp [hkq]
          have b4 : (k == 4) = false := by simp [hkq]
          have b5 : (k == 5) = true := by simp [hkq]
          have hcv2 : calcV 5 nn (f a r) V = if V.getD 0 0 < V.getD 1 0 then 1 else 0 := rfl
          rw [hcv2]
          obtain ⟨x0, x1, rfl⟩ : ∃ x0 x1, V = [x0, x1] := by
            match V, hvl.trans hx with
            | [x0, x1], _ => exact ⟨_, _, rfl⟩
          have hlx2 : ((xs.length : Nat) : Int) = 2 := by omega
          have i1 : (1 : Int) < 2 := by omega
          have i2 : (0 : Int) < 2 := by omega
          have i3 : (0 : Int) ≤ 1 := by omega
          have t0 : (0 : Int).toNat = 0 := rfl
          have t1 : (1 : Int).toNat = 1 := rfl
          have d0 : [x0, x1].getD 0 0 = x0 := rfl
          have d1 : [x0, x1].getD 1 0 = x1 := rfl
          rw [d0, d1]
          by_cases hc : x0 < x1
          · rw [if_pos hc]
            simp -implicitDefEqProofs only [↓symPre, symPost, y_condP, y_condG, run, lver, minD, intsD, eqAll, tupD, splice, Nat.zero_add, Nat.add_zero, Nat.zero_mul, Nat.mul_one, Nat.one_mul, Nat.reduceAdd, Nat.reduceSub, Nat.reduceMul, Nat.reduceLT, Nat.reduceLeDiff, Nat.reduceEqDiff, true_and, and_true, true_implies, if_true, if_false, ite_true, reduceIte, ne_eq, not_false_eq_true, reduceCtorEq, forall_const, bne_self_eq_false, Bool.true_eq_false, Bool.false_eq_true, false_implies, and_self, implies_true, Int.toNat_zero, beq_self_eq_true, decide_true, decide_false, Bool.not_true, Bool.not_false, ↓y_lookv, y_key1, y_mlook, y_mlookn, y_mres1, y_mres0, ↓y_call, f1, decide_false, b0, b1, b2, b3, b4, b5]
            refine adrawq hmix [] ?_
            simp (maxSteps := 400000) -implicitDefEqProofs only [↓symPre, symPost, y_condP, y_condG, run, lver, minD, intsD, eqAll, tupD, splice, Nat.zero_add, Nat.add_zero, Nat.zero_mul, Nat.mul_one, Nat.one_mul, Nat.reduceAdd, Nat.reduceSub, Nat.reduceMul, Nat.reduceLT, Nat.reduceLeDiff, Nat.reduceEqDiff, true_and, and_true, true_implies, if_true, if_false, ite_true, reduceIte, ne_eq, not_false_eq_true, reduceCtorEq, forall_const, bne_self_eq_false, Bool.true_eq_false, Bool.false_eq_true, false_implies, and_self, implies_true, Int.toNat_zero, beq_self_eq_true, decide_true, decide_false, Bool.not_true, Bool.not_false, ↓y_lookv, y_key1, y_mlook, y_mlookn, y_mres1, y_mres0, ↓y_call, ↓y_adq0, ↓y_adq, ↓y_stepQ_call, ↓y_adq_onT, ↓y_adq_onF, ↓y_adq_onS, drawPost, isCall, isNew, isEff, Option.toList, or_false, false_or, cond_true, cond_false, not_true_eq_false, or_true, true_or, Nat.add_left_cancel_iff, Bool.false_eq_true, ↓y_q0, ↓y_q1, ↓y_q1e, y_qn, isMap, hlx2, i1, i2, i3, Int.le_refl, t0, t1, List.map_cons, List.map_nil, List.length_cons, List.length_nil, hc, decide_true]
            exact fin_low hl (.int ..) ⟨rfl, rfl, rfl⟩
          · rw [if_neg hc]
            simp -implicitDefEqProofs only [↓symPre, symPost, y_condP, y_condG, run, lver, minD, intsD, eqAll, tupD, splice, Nat.zero_add, Nat.add_zero, Nat.zero_mul, Nat.mul_one, Nat.one_mul, Nat.reduceAdd, Nat.reduceSub, Nat.reduceMul, Nat.reduceLT, Nat.reduceLeDiff, Nat.reduceEqDiff, true_and, and_true, true_implies, if_true, if_false, ite_true, reduceIte, ne_eq, not_false_eq_true, reduceCtorEq, forall_const, bne_self_eq_false, Bool.true_eq_false, Bool.false_eq_true, false_implies, and_self, implies_true, Int.toNat_zero, beq_self_eq_true, decide_true, decide_false, Bool.not_true, Bool.not_false, ↓y_lookv, y_key1, y_mlook, y_mlookn, y_mres1, y_mres0, ↓y_call, f1, decide_false, b0, b1, b2, b3, b4, b5]
            refine adrawq hmix [] ?_
            simp (maxSteps := 400000) -implicitDefEqProofs only [↓symPre, symPost, y_condP, y_condG, run, lver, minD, intsD, eqAll, tupD, splice, Nat.zero_add, Nat.add_zero, Nat.zero_mul, Nat.mul_one, Nat.one_mul, Nat.reduceAdd, Nat.reduceSub, Nat.reduceMul, Nat.reduceLT, Nat.reduceLeDiff, Nat.reduceEqDiff, true_and, and_true, true_implies, if_true, if_false, ite_true, reduceIte, ne_eq, not_false_eq_true, reduceCtorEq, forall_const, bne_self_eq_false, Bool.true_eq_false, Bool.false_eq_true, false_implies, and_self, implies_true, Int.toNat_zero, beq_self_eq_true, decide_true, decide_false, Bool.not_true, Bool.not_false, ↓y_lookv, y_key1, y_mlook, y_mlookn, y_mres1, y_mres0, ↓y_call, ↓y_adq0, ↓y_adq, ↓y_stepQ_call, ↓y_adq_onT, ↓y_adq_onF, ↓y_adq_onS, drawPost, isCall, isNew, isEff, Option.toList, or_false, false_or, cond_true, cond_false, not_true_eq_false, or_true, true_or, Nat.add_left_cancel_iff, Bool.false_eq_true, ↓y_q0, ↓y_q1, ↓y_q1e, y_qn, isMap, hlx2, i1, i2, i3, Int.le_refl, t0, t1, List.map_cons, List.map_nil, List.length_cons, List.length_nil, hc, decide_false]
            exact fin_low hl (.int ..) ⟨rfl, rfl, rfl⟩
        · have hcv : calcV k nn (f a r) V = calcV 6 nn (f a r) V := by rw [hkq]
          rw [hcv]
          have b0 : (k == 0) = false := by simp [hkq]
          have b1 : (k == 1) = false := by simp [hkq]
          have b2 : (k == 2) = false := by simp [hkq]
          have b3 : (k == 3) = false := by simp [hkq]
          have b4 : (k == 4) = false := by simp [hkq]
          have b5 : (k == 5) = false := by simp [hkq]
          have b6 : (k == 6) = true := by simp [hkq]
          have hcv2 : calcV 6 nn (f a r) V = if V.getD 0 0 = 0 then V.getD 2 0 else V.getD 1 0 := rfl
          rw [hcv2]
          obtain ⟨x0, x1, x2, rfl⟩ : ∃ x0 x1 x2, V = [x0, x1, x2] := by
            match V, hvl.trans hx with
            | [x0, x1, x2], _ => exact ⟨_, _, _, rfl⟩
          have hlx2 : ((xs.length : Nat) : Int) = 3 := by omega
          have i1 : (1 : Int) < (xs.length : Int) := by omega
          have i2 : (0 : Int) < (xs.length : Int) := by omega
          have i4 : (2 : Int) < (xs.length : Int) := by omega
          have i3 : (0 : Int) ≤ 1 := by omega
          have i5 : (0 : Int) ≤ 2 := by omega
          have t0 : (0 : Int).toNat = 0 := rfl
          have t1 : (1 : Int).toNat = 1 := rfl
          have t2 : (2 : Int).toNat = 2 := rfl
          have d0 : [x0, x1, x2].getD 0 0 = x0 := rfl
          have d1 : [x0, x1, x2].getD 1 0 = x1 := rfl
          have d2 : [x0, x1, x2].getD 2 0 = x2 := rfl
          rw [d0, d1, d2]
          by_cases hc : x0 = 0
          · have bc : (x0 == 0) = true := by simp [hc]
            rw [if_pos hc]
            simp -implicitDefEqProofs only [↓symPre, symPost, y_condP, y_condG, run, lver, minD, intsD, eqAll, tupD, splice, Nat.zero_add, Nat.add_zero, Nat.zero_mul, Nat.mul_one, Nat.one_mul, Nat.reduceAdd, Nat.reduceSub, Nat.reduceMul, Nat.reduceLT, Nat.reduceLeDiff, Nat.reduceEqDiff, true_and, and_true, true_implies, if_true, if_false, ite_true, reduceIte, ne_eq, not_false_eq_true, reduceCtorEq, forall_const, bne_self_eq_false, Bool.true_eq_false, Bool.false_eq_true, false_implies, and_self, implies_true, Int.toNat_zero, beq_self_eq_true, decide_true, decide_false, Bool.not_true, Bool.not_false, ↓y_lookv, y_key1, y_mlook, y_mlookn, y_mres1, y_mres0, ↓y_call, f1, decide_false, b0, b1, b2, b3, b4, b5, b6, i1, i2, i3, i4, i5, Int.le_refl, t0, t1, t2, List.map_cons, List.map_nil, List.length_cons, List.length_nil, bc]
            exact fin_low hl (.int ..) ⟨rfl, rfl, rfl⟩
          · have bc : (x0 == 0) = false := by simp [hc]
            rw [if_neg hc]
            simp -implicitDefEqProofs only [↓symPre, symPost, y_condP, y_condG, run, lver, minD, intsD, eqAll, tupD, splice, Nat.zero_add, Nat.add_zero, Nat.zero_mul, Nat.mul_one, Nat.one_mul, Nat.reduceAdd, Nat.reduceSub, Nat.reduceMul, Nat.reduceLT, Nat.reduceLeDiff, Nat.reduceEqDiff, true_and, and_true, true_implies, if_true, if_false, ite_true, reduceIte, ne_eq, not_false_eq_true, reduceCtorEq, forall_const, bne_self_eq_false, Bool.true_eq_false, Bool.false_eq_true, false_implies, and_self, implies_true, Int.toNat_zero, beq_self_eq_true, decide_true, decide_false, Bool.not_true, Bool.not_false, ↓y_lookv, y_key1, y_mlook, y_mlookn, y_mres1, y_mres0, ↓y_call, f1, decide_false, b0, b1, b2, b3, b4, b5, b6, i1, i2, i3, i4, i5, Int.le_refl, t0, t1, t2, List.map_cons, List.map_nil, List.length_cons, List.length_nil, bc]
            exact fin_low hl (.int ..) ⟨rfl, rfl, rfl⟩

end Abs
end Go.Proofs.Ytoeehfnkcfeoaaa

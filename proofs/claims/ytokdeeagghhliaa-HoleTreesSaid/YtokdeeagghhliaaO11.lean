/- The table: words. -/
import Derived.Test.YtokdeeagghhliaaO12
namespace Go.Proofs.Ytokdeeagghhliaa
namespace Abs
set_option linter.unusedVariables false
set_option linter.unusedSimpArgs false
set_option maxRecDepth 20000

def passW (ws : List Wd) (rs : List Ru) : List Wd := rs.foldl stepW ws
def pchW : List Wd → List Ru → Bool
  | _, [] => false
  | ws, r :: rs => chgW ws r || pchW (stepW ws r) rs
def runW (rs : List Ru) : Nat → List Wd → List Wd
  | 0, ws => ws
  | k + 1, ws => if pchW ws rs = true then runW rs k (passW ws rs) else passW ws rs

theorem seqW_app (ws : List Wd) : ∀ (a b : List Sy) (v : Wd), seqW ws v (a ++ b) = seqW ws (seqW ws v a) b
  | [], b, v => rfl
  | x :: a, b, v => by rw [List.cons_append, seqW, seqW, seqW_app ws a b]
theorem seqW_take (ws : List Wd) (v : Wd) {xs : List Sy} {j : Nat} (hj : j < xs.length) :
    seqW ws v (xs.take (j + 1)) = if (seqW ws v (xs.take j)).ok = true ∧ (freeW ws (xs.getD j ⟨false, 0⟩)).ok = true then joinW (seqW ws v (xs.take j)) (freeW ws (xs.getD j ⟨false, 0⟩)) else wd0 := by
  rw [← List.take_append_getElem hj, seqW_app, show xs.getD j ⟨false, 0⟩ = xs[j] by simp [List.getD, hj]]
  rfl

theorem stepW_app (ws : List Wd) (a b : List Ru) : passW ws (a ++ b) = passW (passW ws a) b := by simp [passW]
theorem pchW_app : ∀ (a b : List Ru) (ws : List Wd), pchW ws (a ++ b) = (pchW ws a || pchW (passW ws a) b)
  | [], b, ws => by simp [pchW, passW]
  | r :: a, b, ws => by
    rw [List.cons_append, pchW, pchW, pchW_app a b, Bool.or_assoc]; rfl
theorem passW_take (ws : List Wd) {rs : List Ru} {i : Nat} (hi : i < rs.length) : passW ws (rs.take (i + 1)) = stepW (passW ws (rs.take i)) (rs.getD i ru0) := by
  rw [← List.take_append_getElem hi, stepW_app, show rs.getD i ru0 = rs[i] by simp [List.getD, hi]]
  rfl
theorem pchW_take (ws : List Wd) {rs : List Ru} {i : Nat} (hi : i < rs.length) : pchW ws (rs.take (i + 1)) = (pchW ws (rs.take i) || chgW (passW ws (rs.take i)) (rs.getD i ru0)) := by
  rw [← List.take_append_getElem hi, pchW_app, show rs.getD i ru0 = rs[i] by simp [List.getD, hi]]
  simp [pchW]

def liveW (n : Nat) (h : Heap) (b ver N : Nat) (g : Gr) (l : List Sy) (Pa : D) (ws : List Wd) : St :=
  St.mk n ([.ptr b ver 0, .top, .bool true] ++ List.replicate 68 .top) (upd h b ⟨ver, .cells [.int .i64 g.terms, .int .i64 g.nons, .int .i64 g.start, .lst (g.rules.map ruleD), .lst (l.map symD), .ref 3 (n + 15) 1 0 N, Pa]⟩)
      (List.replicate 15 blk0 ++ [⟨1, .cells (cellsF wD ws)⟩] ++ List.replicate 55 blk0)
def doneW (n : Nat) (h : Heap) (b ver : Nat) (g : Gr) (l : List Sy) (Pa : D) (ws : List Wd) : St :=
  St.mk n ([.ptr b ver 0, .top, .bool false] ++ List.replicate 68 .top) (upd h b ⟨ver, .cells [.int .i64 g.terms, .int .i64 g.nons, .int .i64 g.start, .lst (g.rules.map ruleD), .lst (l.map symD), .lst (ws.map wD), Pa]⟩)
      (List.replicate 71 blk0)

set_option maxHeartbeats 2000000 in
theorem at_words (g : Gr) (l : List Sy) (B : Nat) (hn : 0 ≤ g.nons) (hn10 : g.nons ≤ 10) (hB : 1 ≤ B) (hr62 : g.rules.length < 2 ^ 62) (hg : ∀ r ∈ g.rules, r.right.length ≤ 4 ∧ (∀ x ∈ r.right, symOk B g.nons.toNat x) ∧ 0 ≤ r.left ∧ r.left < g.nons) (Le Pa : D) {n : Nat} {h : Heap} {b ver : Nat} (hb : b < n) (hh : h b = ⟨ver, .cells (tabC g l Le Pa)⟩) :
    ACalls prog F_hole_table_words [.ptr b ver 0] n h fun d h' x' => x' = [] ∧ h' = upd h b ⟨ver, .cells (tabC g l (.lst ((runW g.rules (sumMu B (List.replicate g.nons.toNat wd0) + 1) (List.replicate g.nons.toNat wd0)).map wD)) Pa)⟩ ∧ d = .tup [] := by
  refine K_hole_table_words.calls fun hl => ?_
  unfold C_hole_table_words
  unfold tabC at hh ⊢
  obtain ⟨N, hN⟩ : ∃ N : Nat, g.nons = N := ⟨g.nons.toNat, by omega⟩
  have hNt : g.nons.toNat = N := by omega
  have hPa : Low n Pa := by
    have := hl b hb
    rw [hh] at this
    exact this Pa (by simp)
  have n0 : ¬ g.nons < 0 := by omega
  rw [hNt]
  generalize hK : sumMu B (List.replicate N wd0) + 1 = K
  generalize hF : runW g.rules K (List.replicate N wd0) = F
  simp -implicitDefEqProofs only [↓symPre, symPost, y_condP, y_condG, run, lver, minD, intsD, eqAll, tupD, splice, Nat.zero_add, Nat.add_zero, Nat.zero_mul, Nat.mul_one, Nat.one_mul, Nat.reduceAdd, Nat.reduceSub, Nat.reduceMul, Nat.reduceLT, Nat.reduceLeDiff, Nat.reduceEqDiff, true_and, and_true, true_implies, if_true, if_false, ite_true, reduceIte, ne_eq, not_false_eq_true, reduceCtorEq, forall_const, bne_self_eq_false, Bool.true_eq_false, Bool.false_eq_true, false_implies, and_self, implies_true, Int.toNat_zero, beq_self_eq_true, decide_true, decide_false, Bool.not_true, Bool.not_false, ↓y_lookv, y_key1, y_mlook, y_mlookn, y_mres1, y_mres0, ↓y_call, ↓y_at_old hb, hh, hb, n0, hn, hNt, Int.le_refl]
  refine ⟨by omega, by omega, ?_⟩
  refine aloop (fun p : Bool × List Wd × Nat => if p.1 = true then liveW n h b ver N g l Pa p.2.1 else doneW n h b ver g l Pa p.2.1)
      (fun p => (p.1 = true → GoodW B N p.2.1 ∧ sumMu B p.2.1 < p.2.2 ∧ runW g.rules p.2.2 p.2.1 = F) ∧ (p.1 = false → p.2.1 = F)) (fun p => p.2.2) (true, List.replicate N wd0, K) ⟨fun _ => ⟨?_, by simp only; omega, hF⟩, fun h => by simp at h⟩ ?_ ?_
  · refine ⟨by simp, by omega, fun x hx => ?_, fun x hx => ?_, fun x hx => ?_⟩ <;> (obtain ⟨_, rfl⟩ := List.mem_replicate.1 hx)
    · exact okW0
    · intro y hy; cases hy
    · show wd0.n ≤ _; exact Int.natCast_nonneg _
  · simp only [if_true]
    unfold liveW
    refine le_toH (List.replicate 15 .hole ++ [.old 15] ++ List.replicate 55 .hole) (lowW_upd hl ?_) rfl ?_ ?_ <;> ((try simp only [y_blk_end, y_blk_hole, y_blk_nil, y_blk_old, y_wkl_end, y_wkl_top, List.replicate, List.cons_append, List.nil_append, and_true, true_and]) <;> (repeat' (first | apply And.intro | apply y_wkl | refine Exists.intro _ (And.intro rfl ?_))) <;> (try first | exact trivial | exact Wk.top _ | exact wk_int rfl | exact wk_bool rfl | exact wk_ptr rfl rfl rfl rfl | exact wk_ref rfl rfl rfl rfl rfl | exact wk_nil rfl rfl rfl | exact wk_ref rfl rfl rfl rfl (by simp) | exact wk_ref rfl rfl rfl rfl (by simp; omega) | exact wk_old (by assumption) (by simp) | exact wk_eq rfl (by first | exact Bd.int _ _ | exact Bd.bool _ | exact Bd.abool | exact Bd.nils | exact Bd.emp | exact Bd.nilp | exact Bd.nilfn | assumption | exact low_trees _ _ | exact low_treeD _ _ | exact low_ints _ _) | exact Nat.le_refl _ | exact wk_int (by simp) | exact wk_int (by omega) | exact Nat.succ_le_succ (Nat.zero_le _) | exact Nat.le_add_left _ _ | omega))
    all_goals first | exact .low _ (.ptr _ _ _ (.inl hb)) | exact .low _ (low_rules n g.rules) | exact .low _ (low_syms n l) | exact .low _ hPa | exact cells_wd0 N | trace_state
  · rintro ⟨c, ws, k⟩ ⟨i1, i2⟩
    cases c with
    | false =>
      have i2 := i2 rfl
      simp only at i2
      subst i2
      simp only [Bool.false_eq_true, if_false]
      unfold doneW
      simp -implicitDefEqProofs only [↓symPre, symPost, y_condP, y_condG, run, lver, minD, intsD, eqAll, tupD, splice, Nat.zero_add, Nat.add_zero, Nat.zero_mul, Nat.mul_one, Nat.one_mul, Nat.reduceAdd, Nat.reduceSub, Nat.reduceMul, Nat.reduceLT, Nat.reduceLeDiff, Nat.reduceEqDiff, true_and, and_true, true_implies, if_true, if_false, ite_true, reduceIte, ne_eq, not_false_eq_true, reduceCtorEq, forall_const, bne_self_eq_false, Bool.true_eq_false, Bool.false_eq_true, false_implies, and_self, implies_true, Int.toNat_zero, beq_self_eq_true, decide_true, decide_false, Bool.not_true, Bool.not_false, ↓y_lookv, y_key1, y_mlook, y_mlookn, y_mres1, y_mres0, ↓y_call]
      refine fin_low (lowH_upd hl (fun c hc => ?_)) (.tup _ (by intro c hc; cases hc)) ⟨rfl, rfl, rfl⟩
      simp only [List.mem_cons, List.not_mem_nil, or_false] at hc
      rcases hc with rfl | rfl | rfl | rfl | rfl | rfl | rfl
      · exact .int ..
      · exact .int ..
      · exact .int ..
      · exact low_rules n g.rules
      · exact low_syms n l
      · exact low_lstF wD (low_wD n) _
      · exact hPa
    | true =>
      obtain ⟨j1, j2, j3⟩ := i1 rfl
      simp only [if_true]
      unfold liveW
      generalize hH : upd h b ⟨ver, .cells [.int .i64 g.terms, .int .i64 g.nons, .int .i64 g.start, .lst (g.rules.map ruleD), .lst (l.map symD), .ref 3 (n + 15) 1 0 N, Pa]⟩ = H
      have hHb : H b = ⟨ver, .cells [.int .i64 g.terms, .int .i64 g.nons, .int .i64 g.start, .lst (g.rules.map ruleD), .lst (l.map symD), .ref 3 (n + 15) 1 0 N, Pa]⟩ := by rw [← hH]; simp [upd]
      simp -implicitDefEqProofs only [↓symPre, symPost, y_condP, y_condG, run, lver, minD, intsD, eqAll, tupD, splice, Nat.zero_add, Nat.add_zero, Nat.zero_mul, Nat.mul_one, Nat.one_mul, Nat.reduceAdd, Nat.reduceSub, Nat.reduceMul, Nat.reduceLT, Nat.reduceLeDiff, Nat.reduceEqDiff, true_and, and_true, true_implies, if_true, if_false, ite_true, reduceIte, ne_eq, not_false_eq_true, reduceCtorEq, forall_const, bne_self_eq_false, Bool.true_eq_false, Bool.false_eq_true, false_implies, and_self, implies_true, Int.toNat_zero, beq_self_eq_true, decide_true, decide_false, Bool.not_true, Bool.not_false, ↓y_lookv, y_key1, y_mlook, y_mlookn, y_mres1, y_mres0, ↓y_call, ↓y_at_old hb, hHb, hb, List.length_map]
      refine aloop (fun i : Nat => St.mk n ([.ptr b ver 0, .top, .bool (pchW ws (g.rules.take i))] ++ List.replicate 20 .top ++ [.lst (g.rules.map ruleD), .int .i64 g.rules.length, .int .i64 i] ++ List.replicate 45 .top) H
          (List.replicate 15 blk0 ++ [⟨1, .cells (cellsF wD (passW ws (g.rules.take i)))⟩] ++ List.replicate 55 blk0)) (fun i => i ≤ g.rules.length ∧ GoodW B N (passW ws (g.rules.take i)) ∧ (pchW ws (g.rules.take i) = true → sumMu B (passW ws (g.rules.take i)) < sumMu B ws) ∧ (pchW ws (g.rules.take i) = false → passW ws (g.rules.take i) = ws)) (fun i => g.rules.length - i) 0 ⟨Nat.zero_le _, j1, fun h => by simp [pchW] at h, fun _ => rfl⟩ ?_ ?_
      · rw [← hH]
        refine le_toH (List.replicate 15 .hole ++ [.old 15] ++ List.replicate 55 .hole) (lowW_upd hl ?_) rfl ?_ ?_ <;> ((try simp only [y_blk_end, y_blk_hole, y_blk_nil, y_blk_old, y_wkl_end, y_wkl_top, List.replicate, List.cons_append, List.nil_append, and_true, true_and]) <;> (repeat' (first | apply And.intro | apply y_wkl | refine Exists.intro _ (And.intro rfl ?_))) <;> (try first | exact trivial | exact Wk.top _ | exact wk_int rfl | exact wk_bool rfl | exact wk_ptr rfl rfl rfl rfl | exact wk_ref rfl rfl rfl rfl rfl | exact wk_nil rfl rfl rfl | exact wk_ref rfl rfl rfl rfl (by simp) | exact wk_ref rfl rfl rfl rfl (by simp; omega) | exact wk_old (by assumption) (by simp) | exact wk_eq rfl (by first | exact Bd.int _ _ | exact Bd.bool _ | exact Bd.abool | exact Bd.nils | exact Bd.emp | exact Bd.nilp | exact Bd.nilfn | assumption | exact low_trees _ _ | exact low_treeD _ _ | exact low_ints _ _) | exact Nat.le_refl _ | exact wk_int (by simp) | exact wk_int (by omega) | exact Nat.succ_le_succ (Nat.zero_le _) | exact Nat.le_add_left _ _ | omega))
        all_goals first | exact .low _ (.ptr _ _ _ (.inl hb)) | exact .low _ (low_rules n g.rules) | exact .low _ (low_syms n l) | exact .low _ hPa | exact WkL.low (low_cellsF wD (low_wD n) _) | trace_state
      · rintro i ⟨q1, q2, q3, q4⟩
        by_cases hlt : i < g.rules.length
        · have f1 : (i : Int) < (g.rules.length : Int) := by omega
          have f0 : (0 : Int) ≤ (i : Int) := by omega
          have e0 := nth_rule g i hlt
          generalize hW : passW ws (g.rules.take i) = W at *
          generalize hC : pchW ws (g.rules.take i) = C at *
          have hgi := hg (g.rules.getD i ru0) (by simp [List.getD, hlt])
          generalize hr : g.rules.getD i ru0 = r at *
          obtain ⟨rl, rr⟩ := r
          simp only at e0 hgi
          obtain ⟨hg1, hg2, hg3, hg4⟩ := hgi
          simp -implicitDefEqProofs only [↓symPre, symPost, y_condP, y_condG, run, lver, minD, intsD, eqAll, tupD, splice, Nat.zero_add, Nat.add_zero, Nat.zero_mul, Nat.mul_one, Nat.one_mul, Nat.reduceAdd, Nat.reduceSub, Nat.reduceMul, Nat.reduceLT, Nat.reduceLeDiff, Nat.reduceEqDiff, true_and, and_true, true_implies, if_true, if_false, ite_true, reduceIte, ne_eq, not_false_eq_true, reduceCtorEq, forall_const, bne_self_eq_false, Bool.true_eq_false, Bool.false_eq_true, false_implies, and_self, implies_true, Int.toNat_zero, beq_self_eq_true, decide_true, decide_false, Bool.not_true, Bool.not_false, ↓y_lookv, y_key1, y_mlook, y_mlookn, y_mres1, y_mres0, ↓y_call, ↓y_at_old hb, hHb, hb, List.length_map, f1, f0, decide_true, Int.toNat_natCast, e0]
          have hfin := q2.rule (r := ⟨rl, rr⟩) hg1 (by rw [hNt] at hg2; exact hg2)
          refine aloop (fun j : Nat => St.mk n ([.ptr b ver 0, .top, .bool C, .top, .ptr (n + 4) 1 0, .ptr (n + 5) 1 0] ++ List.replicate 17 .top ++ [.lst (g.rules.map ruleD), .int .i64 g.rules.length, .int .i64 i] ++ List.replicate 5 .top ++ [.lst (rr.map symD), .int .i64 rr.length, .int .i64 j] ++ List.replicate 37 .top) H
              (List.replicate 4 blk0 ++ [⟨1, .cells [.int .i64 rl, .lst (rr.map symD)]⟩, ⟨1, .cells [.bool (seqW W wd1 (rr.take j)).ok, .int .i64 (seqW W wd1 (rr.take j)).n, iD (seqW W wd1 (rr.take j)).w]⟩] ++ List.replicate 9 blk0 ++ [⟨1, .cells (cellsF wD W)⟩] ++ List.replicate 55 blk0)) (fun j => j ≤ rr.length) (fun j => rr.length - j) 0 (Nat.zero_le _) ?_ ?_
          · rw [← hH]
            refine le_toH (List.replicate 4 .hole ++ [.old 4, .old 5] ++ List.replicate 9 .hole ++ [.old 15] ++ List.replicate 55 .hole) (lowW_upd hl ?_) rfl ?_ ?_ <;> ((try simp only [y_blk_end, y_blk_hole, y_blk_nil, y_blk_old, y_wkl_end, y_wkl_top, List.replicate, List.cons_append, List.nil_append, and_true, true_and]) <;> (repeat' (first | apply And.intro | apply y_wkl | refine Exists.intro _ (And.intro rfl ?_))) <;> (try first | exact trivial | exact Wk.top _ | exact wk_int rfl | exact wk_bool rfl | exact wk_ptr rfl rfl rfl rfl | exact wk_ref rfl rfl rfl rfl rfl | exact wk_nil rfl rfl rfl | exact wk_ref rfl rfl rfl rfl (by simp) | exact wk_ref rfl rfl rfl rfl (by simp; omega) | exact wk_old (by assumption) (by simp) | exact wk_eq rfl (by first | exact Bd.int _ _ | exact Bd.bool _ | exact Bd.abool | exact Bd.nils | exact Bd.emp | exact Bd.nilp | exact Bd.nilfn | assumption | exact low_trees _ _ | exact low_treeD _ _ | exact low_ints _ _) | exact Nat.le_refl _ | exact wk_int (by simp) | exact wk_int (by omega) | exact Nat.succ_le_succ (Nat.zero_le _) | exact Nat.le_add_left _ _ | omega))
            all_goals first | exact .low _ (.ptr _ _ _ (.inl hb)) | exact .low _ (low_rules n g.rules) | exact .low _ (low_syms n rr) | exact .low _ (low_syms n l) | exact .low _ hPa | exact WkL.low (low_cellsF wD (low_wD n) _) | exact .nilsLst | trace_state
          · intro j hj
            by_cases hjl : j < rr.length
            · have g1 : (j : Int) < (rr.length : Int) := by omega
              have g0 : (0 : Int) ≤ (j : Int) := by omega
              have s0 := nth_sym rr j hjl
              have hxm := hg2 (rr.getD j ⟨false, 0⟩) (by simp [List.getD, hjl])
              have hst := seqW_take W wd1 hjl
              have hu := q2.seq (rr.take j) wd1 0 (fun x hx => by have := hg2 x (List.mem_of_mem_take hx); rw [hNt] at this; exact this) okW1 (fun y hy => by cases hy) (by show (0 : Int) ≤ _; exact Int.natCast_nonneg _) (by simp; omega)
              have hfr := q2.free (x := rr.getD j ⟨false, 0⟩) (by rw [hNt] at hxm; exact hxm)
              generalize rr.getD j ⟨false, 0⟩ = x at *
              have hf := fun (lc : List Blk) (h15 : lc[15]? = some ⟨1, .cells (cellsF wD W)⟩) (hlen : lc.length = 71) => at_free g l x W (.ref 3 (n + 15) 1 0 N) Pa (n := n + 71) (h := mrg n H lc) (b := b) (ver := ver) (by omega) (by rw [mrg_lt hb]; exact hHb)
                (.inr ⟨n + 15, 1, by omega, by rw [q2.len], by rw [mrg_loc]; simp [List.getD, h15]⟩) (fun h => by have h1 := hxm.1; have h2 := hxm.2.2 h; rw [hNt] at h2; rw [q2.len]; exact ⟨h1, h2⟩)
              have w1 : IntKind.i64.wrap ((j : Int) + 1) = ((j + 1 : Nat) : Int) := by rw [IntWalk.i64_in _ (by omega)]; omega
              have pJ := pure_join _ _ hu.1 hfr.1
              generalize freeW W x = f at *
              generalize seqW W wd1 (rr.take j) = u at *
              generalize hU : seqW W wd1 (rr.take (j + 1)) = U at *
              obtain ⟨xt, xn⟩ := x
              obtain ⟨uo, un, uw⟩ := u
              obtain ⟨fo, fn, fw⟩ := f
              unfold symD at hf
              unfold wD at hf pJ
              simp only at s0 hf pJ
              simp -implicitDefEqProofs only [↓symPre, symPost, y_condP, y_condG, run, lver, minD, intsD, eqAll, tupD, splice, Nat.zero_add, Nat.add_zero, Nat.zero_mul, Nat.mul_one, Nat.one_mul, Nat.reduceAdd, Nat.reduceSub, Nat.reduceMul, Nat.reduceLT, Nat.reduceLeDiff, Nat.reduceEqDiff, true_and, and_true, true_implies, if_true, if_false, ite_true, reduceIte, ne_eq, not_false_eq_true, reduceCtorEq, forall_const, bne_self_eq_false, Bool.true_eq_false, Bool.false_eq_true, false_implies, and_self, implies_true, Int.toNat_zero, beq_self_eq_true, decide_true, decide_false, Bool.not_true, Bool.not_false, ↓y_lookv, y_key1, y_mlook, y_mlookn, y_mres1, y_mres0, ↓y_call, ↓y_at_old hb, hHb, hb, List.length_map, g1, g0, decide_true, Int.toNat_natCast, s0]
              refine ACalls.none0 rfl (hf _ rfl rfl) ?_
              by_cases hoo : uo = true ∧ fo = true
              · obtain ⟨rfl, rfl⟩ := hoo
                rw [if_pos ⟨rfl, rfl⟩] at hst
                rw [← hst] at pJ
                simp -implicitDefEqProofs only [↓symPre, symPost, y_condP, y_condG, run, lver, minD, intsD, eqAll, tupD, splice, Nat.zero_add, Nat.add_zero, Nat.zero_mul, Nat.mul_one, Nat.one_mul, Nat.reduceAdd, Nat.reduceSub, Nat.reduceMul, Nat.reduceLT, Nat.reduceLeDiff, Nat.reduceEqDiff, true_and, and_true, true_implies, if_true, if_false, ite_true, reduceIte, ne_eq, not_false_eq_true, reduceCtorEq, forall_const, bne_self_eq_false, Bool.true_eq_false, Bool.false_eq_true, false_implies, and_self, implies_true, Int.toNat_zero, beq_self_eq_true, decide_true, decide_false, Bool.not_true, Bool.not_false, ↓y_lookv, y_key1, y_mlook, y_mlookn, y_mres1, y_mres0, ↓y_call]
                refine pJ.call rfl ?_
                simp -implicitDefEqProofs only [↓symPre, symPost, y_condP, y_condG, run, lver, minD, intsD, eqAll, tupD, splice, Nat.zero_add, Nat.add_zero, Nat.zero_mul, Nat.mul_one, Nat.one_mul, Nat.reduceAdd, Nat.reduceSub, Nat.reduceMul, Nat.reduceLT, Nat.reduceLeDiff, Nat.reduceEqDiff, true_and, and_true, true_implies, if_true, if_false, ite_true, reduceIte, ne_eq, not_false_eq_true, reduceCtorEq, forall_const, bne_self_eq_false, Bool.true_eq_false, Bool.false_eq_true, false_implies, and_self, implies_true, Int.toNat_zero, beq_self_eq_true, decide_true, decide_false, Bool.not_true, Bool.not_false, ↓y_lookv, y_key1, y_mlook, y_mlookn, y_mres1, y_mres0, ↓y_call, w1]
                refine ⟨j + 1, by omega, by omega, ?_⟩
                rw [← hH, hU]
                refine le_toH (List.replicate 4 .hole ++ [.old 4, .old 5] ++ List.replicate 9 .hole ++ [.old 15] ++ List.replicate 55 .hole) (lowW_upd hl ?_) rfl ?_ ?_ <;> ((try simp only [y_blk_end, y_blk_hole, y_blk_nil, y_blk_old, y_wkl_end, y_wkl_top, List.replicate, List.cons_append, List.nil_append, and_true, true_and]) <;> (repeat' (first | apply And.intro | apply y_wkl | refine Exists.intro _ (And.intro rfl ?_))) <;> (try first | exact trivial | exact Wk.top _ | exact wk_int rfl | exact wk_bool rfl | exact wk_ptr rfl rfl rfl rfl | exact wk_ref rfl rfl rfl rfl rfl | exact wk_nil rfl rfl rfl | exact wk_ref rfl rfl rfl rfl (by simp) | exact wk_ref rfl rfl rfl rfl (by simp; omega) | exact wk_old (by assumption) (by simp) | exact wk_eq rfl (by first | exact Bd.int _ _ | exact Bd.bool _ | exact Bd.abool | exact Bd.nils | exact Bd.emp | exact Bd.nilp | exact Bd.nilfn | assumption | exact low_trees _ _ | exact low_treeD _ _ | exact low_ints _ _) | exact Nat.le_refl _ | exact wk_int (by simp) | exact wk_int (by omega) | exact Nat.succ_le_succ (Nat.zero_le _) | exact Nat.le_add_left _ _ | omega))
                all_goals first | exact .low _ (.ptr _ _ _ (.inl hb)) | exact .low _ (low_rules n g.rules) | exact .low _ (low_syms n rr) | exact .low _ (low_syms n l) | exact .low _ hPa | exact WkL.low (low_cellsF wD (low_wD n) _) | exact .nilsLst | exact .low _ (low_ints n _) | trace_state
              · rw [if_neg (by simpa using hoo)] at hst
                subst hst
                cases uo with
                | false =>
                  simp -implicitDefEqProofs only [↓symPre, symPost, y_condP, y_condG, run, lver, minD, intsD, eqAll, tupD, splice, Nat.zero_add, Nat.add_zero, Nat.zero_mul, Nat.mul_one, Nat.one_mul, Nat.reduceAdd, Nat.reduceSub, Nat.reduceMul, Nat.reduceLT, Nat.reduceLeDiff, Nat.reduceEqDiff, true_and, and_true, true_implies, if_true, if_false, ite_true, reduceIte, ne_eq, not_false_eq_true, reduceCtorEq, forall_const, bne_self_eq_false, Bool.true_eq_false, Bool.false_eq_true, false_implies, and_self, implies_true, Int.toNat_zero, beq_self_eq_true, decide_true, decide_false, Bool.not_true, Bool.not_false, ↓y_lookv, y_key1, y_mlook, y_mlookn, y_mres1, y_mres0, ↓y_call, w1]
                  refine ⟨j + 1, by omega, by omega, ?_⟩
                  rw [← hH, hU]
                  refine le_toH (List.replicate 4 .hole ++ [.old 4, .old 5] ++ List.replicate 9 .hole ++ [.old 15] ++ List.replicate 55 .hole) (lowW_upd hl ?_) rfl ?_ ?_ <;> ((try simp only [y_blk_end, y_blk_hole, y_blk_nil, y_blk_old, y_wkl_end, y_wkl_top, List.replicate, List.cons_append, List.nil_append, and_true, true_and]) <;> (repeat' (first | apply And.intro | apply y_wkl | refine Exists.intro _ (And.intro rfl ?_))) <;> (try first | exact trivial | exact Wk.top _ | exact wk_int rfl | exact wk_bool rfl | exact wk_ptr rfl rfl rfl rfl | exact wk_ref rfl rfl rfl rfl rfl | exact wk_nil rfl rfl rfl | exact wk_ref rfl rfl rfl rfl (by simp) | exact wk_ref rfl rfl rfl rfl (by simp; omega) | exact wk_old (by assumption) (by simp) | exact wk_eq rfl (by first | exact Bd.int _ _ | exact Bd.bool _ | exact Bd.abool | exact Bd.nils | exact Bd.emp | exact Bd.nilp | exact Bd.nilfn | assumption | exact low_trees _ _ | exact low_treeD _ _ | exact low_ints _ _) | exact Nat.le_refl _ | exact wk_int (by simp) | exact wk_int (by omega) | exact Nat.succ_le_succ (Nat.zero_le _) | exact Nat.le_add_left _ _ | omega))
                  all_goals first | exact .low _ (.ptr _ _ _ (.inl hb)) | exact .low _ (low_rules n g.rules) | exact .low _ (low_syms n rr) | exact .low _ (low_syms n l) | exact .low _ hPa | exact WkL.low (low_cellsF wD (low_wD n) _) | exact .nilsLst | exact .low _ (low_ints n _) | trace_state
                | true =>
                  have : fo = false := by simpa using hoo
                  subst this
                  simp -implicitDefEqProofs only [↓symPre, symPost, y_condP, y_condG, run, lver, minD, intsD, eqAll, tupD, splice, Nat.zero_add, Nat.add_zero, Nat.zero_mul, Nat.mul_one, Nat.one_mul, Nat.reduceAdd, Nat.reduceSub, Nat.reduceMul, Nat.reduceLT, Nat.reduceLeDiff, Nat.reduceEqDiff, true_and, and_true, true_implies, if_true, if_false, ite_true, reduceIte, ne_eq, not_false_eq_true, reduceCtorEq, forall_const, bne_self_eq_false, Bool.true_eq_false, Bool.false_eq_true, false_implies, and_self, implies_true, Int.toNat_zero, beq_self_eq_true, decide_true, decide_false, Bool.not_true, Bool.not_false, ↓y_lookv, y_key1, y_mlook, y_mlookn, y_mres1, y_mres0, ↓y_call, w1]
                  refine ⟨j + 1, by omega, by omega, ?_⟩
                  rw [← hH, hU]
                  refine le_toH (List.replicate 4 .hole ++ [.old 4, .old 5] ++ List.replicate 9 .hole ++ [.old 15] ++ List.replicate 55 .hole) (lowW_upd hl ?_) rfl ?_ ?_ <;> ((try simp only [y_blk_end, y_blk_hole, y_blk_nil, y_blk_old, y_wkl_end, y_wkl_top, List.replicate, List.cons_append, List.nil_append, and_true, true_and]) <;> (repeat' (first | apply And.intro | apply y_wkl | refine Exists.intro _ (And.intro rfl ?_))) <;> (try first | exact trivial | exact Wk.top _ | exact wk_int rfl | exact wk_bool rfl | exact wk_ptr rfl rfl rfl rfl | exact wk_ref rfl rfl rfl rfl rfl | exact wk_nil rfl rfl rfl | exact wk_ref rfl rfl rfl rfl (by simp) | exact wk_ref rfl rfl rfl rfl (by simp; omega) | exact wk_old (by assumption) (by simp) | exact wk_eq rfl (by first | exact Bd.int _ _ | exact Bd.bool _ | exact Bd.abool | exact Bd.nils | exact Bd.emp | exact Bd.nilp | exact Bd.nilfn | assumption | exact low_trees _ _ | exact low_treeD _ _ | exact low_ints _ _) | exact Nat.le_refl _ | exact wk_int (by simp) | exact wk_int (by omega) | exact Nat.succ_le_succ (Nat.zero_le _) | exact Nat.le_add_left _ _ | omega))
                  all_goals first | exact .low _ (.ptr _ _ _ (.inl hb)) | exact .low _ (low_rules n g.rules) | exact .low _ (low_syms n rr) | exact .low _ (low_syms n l) | exact .low _ hPa | exact WkL.low (low_cellsF wD (low_wD n) _) | exact .nilsLst | exact .low _ (low_ints n _) | trace_state
            · have g1 : ¬ (j : Int) < (rr.length : Int) := by omega
              obtain rfl : j = rr.length := by omega
              rw [List.take_length] at *
              simp -implicitDefEqProofs only [↓symPre, symPost, y_condP, y_condG, run, lver, minD, intsD, eqAll, tupD, splice, Nat.zero_add, Nat.add_zero, Nat.zero_mul, Nat.mul_one, Nat.one_mul, Nat.reduceAdd, Nat.reduceSub, Nat.reduceMul, Nat.reduceLT, Nat.reduceLeDiff, Nat.reduceEqDiff, true_and, and_true, true_implies, if_true, if_false, ite_true, reduceIte, ne_eq, not_false_eq_true, reduceCtorEq, forall_const, bne_self_eq_false, Bool.true_eq_false, Bool.false_eq_true, false_implies, and_self, implies_true, Int.toNat_zero, beq_self_eq_true, decide_true, decide_false, Bool.not_true, Bool.not_false, ↓y_lookv, y_key1, y_mlook, y_mlookn, y_mres1, y_mres0, ↓y_call, g1, decide_false]
              have hlW := q2.len
              have k0 : rl < ((N : Nat) : Int) := by omega
              have k1 : rl.toNat < W.length := by omega
              have e1 := cells_wD W rl.toNat k1
              have elen : (cellsF wD W).length = W.length * 3 := cellsF_len wD wD_cells W
              have i1 : rl.toNat * 3 + 3 ≤ W.length * 3 := by omega
              have pS := pure_shorter1 (seqW W wd1 rr) (W.getD rl.toNat wd0) hfin.1 (q2.ok _ (getD_mem k1))
              have hNW : W.length = N := by omega
              generalize hv : seqW W wd1 rr = v at *
              generalize hc : W.getD rl.toNat wd0 = c at *
              generalize hsh : shorterW v wd1 c = sh at *
              obtain ⟨vo, vn, vw⟩ := v
              obtain ⟨co, cn, cw⟩ := c
              unfold wD wdN at pS
              simp only at pS e1
              refine adrawq hmix [] ?_
              simp (maxSteps := 400000) -implicitDefEqProofs only [↓symPre, symPost, y_condP, y_condG, run, lver, minD, intsD, eqAll, tupD, splice, Nat.zero_add, Nat.add_zero, Nat.zero_mul, Nat.mul_one, Nat.one_mul, Nat.reduceAdd, Nat.reduceSub, Nat.reduceMul, Nat.reduceLT, Nat.reduceLeDiff, Nat.reduceEqDiff, true_and, and_true, true_implies, if_true, if_false, ite_true, reduceIte, ne_eq, not_false_eq_true, reduceCtorEq, forall_const, bne_self_eq_false, Bool.true_eq_false, Bool.false_eq_true, false_implies, and_self, implies_true, Int.toNat_zero, beq_self_eq_true, decide_true, decide_false, Bool.not_true, Bool.not_false, ↓y_lookv, y_key1, y_mlook, y_mlookn, y_mres1, y_mres0, ↓y_call, ↓y_adq0, ↓y_adq, ↓y_stepQ_call, ↓y_adq_onT, ↓y_adq_onF, ↓y_adq_onS, drawPost, isCall, isNew, isEff, Option.toList, or_false, false_or, cond_true, cond_false, not_true_eq_false, or_true, true_or, Nat.add_left_cancel_iff, Bool.false_eq_true, ↓y_q0, ↓y_q1, ↓y_q1e, y_qn, isMap, ↓y_at_old hb, hHb, hb, hg3, k0, k1, e1, elen, i1]
              refine ⟨_, _, pS.draw rfl, (by simp [y_cov0, y_cov1, isNew, isEff, Option.toList]), ?_⟩
              have tk := passW_take ws hlt
              have tc := pchW_take ws hlt
              rw [hW, hr] at tk tc
              rw [hC] at tc
              have hgs := q2.step hB (r := ⟨rl, rr⟩) hg1 (by rw [hNt] at hg2; exact hg2) ⟨hg3, by simp only; omega⟩
              have hcv : chgW W ⟨rl, rr⟩ = sh := by
                show shorterW (ruleW W ⟨rl, rr⟩) wd1 (W.getD rl.toNat wd0) = sh
                rw [hc, show ruleW W ⟨rl, rr⟩ = ⟨vo, vn, vw⟩ from hv]; exact hsh
              have w2 : IntKind.i64.wrap ((i : Int) + 1) = ((i + 1 : Nat) : Int) := by rw [IntWalk.i64_in _ (by omega)]; omega
              rw [hcv] at tc hgs
              cases sh with
              | true =>
                have hstp : stepW W ⟨rl, rr⟩ = W.set rl.toNat ⟨vo, vn, vw⟩ := by
                  unfold stepW; rw [hcv, if_pos rfl, show ruleW W ⟨rl, rr⟩ = ⟨vo, vn, vw⟩ from hv]
                have hput := cells_put wD_cells W k1 ⟨vo, vn, vw⟩
                simp (maxSteps := 400000) -implicitDefEqProofs only [↓symPre, symPost, y_condP, y_condG, run, lver, minD, intsD, eqAll, tupD, splice, Nat.zero_add, Nat.add_zero, Nat.zero_mul, Nat.mul_one, Nat.one_mul, Nat.reduceAdd, Nat.reduceSub, Nat.reduceMul, Nat.reduceLT, Nat.reduceLeDiff, Nat.reduceEqDiff, true_and, and_true, true_implies, if_true, if_false, ite_true, reduceIte, ne_eq, not_false_eq_true, reduceCtorEq, forall_const, bne_self_eq_false, Bool.true_eq_false, Bool.false_eq_true, false_implies, and_self, implies_true, Int.toNat_zero, beq_self_eq_true, decide_true, decide_false, Bool.not_true, Bool.not_false, ↓y_lookv, y_key1, y_mlook, y_mlookn, y_mres1, y_mres0, ↓y_call, ↓y_adq0, ↓y_adq, ↓y_stepQ_call, ↓y_adq_onT, ↓y_adq_onF, ↓y_adq_onS, drawPost, isCall, isNew, isEff, Option.toList, or_false, false_or, cond_true, cond_false, not_true_eq_false, or_true, true_or, Nat.add_left_cancel_iff, Bool.false_eq_true, ↓y_q0, ↓y_q1, ↓y_q1e, y_qn, isMap, ↓y_at_old hb, hHb, hb]
                refine adrawq hmix (List.replicate 8 [] ++ [[n + 15]]) ?_
                simp (maxSteps := 400000) -implicitDefEqProofs only [↓symPre, symPost, y_condP, y_condG, run, lver, minD, intsD, eqAll, tupD, splice, Nat.zero_add, Nat.add_zero, Nat.zero_mul, Nat.mul_one, Nat.one_mul, Nat.reduceAdd, Nat.reduceSub, Nat.reduceMul, Nat.reduceLT, Nat.reduceLeDiff, Nat.reduceEqDiff, true_and, and_true, true_implies, if_true, if_false, ite_true, reduceIte, ne_eq, not_false_eq_true, reduceCtorEq, forall_const, bne_self_eq_false, Bool.true_eq_false, Bool.false_eq_true, false_implies, and_self, implies_true, Int.toNat_zero, beq_self_eq_true, decide_true, decide_false, Bool.not_true, Bool.not_false, ↓y_lookv, y_key1, y_mlook, y_mlookn, y_mres1, y_mres0, ↓y_call, ↓y_adq0, ↓y_adq, ↓y_stepQ_call, ↓y_adq_onT, ↓y_adq_onF, ↓y_adq_onS, drawPost, isCall, isNew, isEff, Option.toList, or_false, false_or, cond_true, cond_false, not_true_eq_false, or_true, true_or, Nat.add_left_cancel_iff, Bool.false_eq_true, ↓y_q0, ↓y_q1, ↓y_q1e, y_qn, isMap, ↓y_at_old hb, hHb, hb, hg3, k0, k1, e1, elen, i1]
                refine ⟨by rintro c (rfl | rfl | rfl) <;> rfl, ?_⟩
                rw [hstp] at tk hgs
                rw [Bool.or_true] at tc
                refine ⟨i + 1, ⟨by omega, by rw [tk]; exact hgs.1, fun _ => ?_, fun h => by rw [tc] at h; cases h⟩, by omega, ?_⟩
                · rw [tk]
                  have h1 := hgs.2.1 rfl
                  cases C with
                  | true => have := q3 rfl; omega
                  | false => rw [← q4 rfl]; exact h1
                rw [← hH, tk, tc, w2]
                refine le_toH (List.replicate 15 .hole ++ [.old 15] ++ List.replicate 55 .hole) (lowW_upd hl ?_) rfl ?_ ?_ <;> ((try simp only [y_blk_end, y_blk_hole, y_blk_nil, y_blk_old, y_wkl_end, y_wkl_top, List.replicate, List.cons_append, List.nil_append, and_true, true_and]) <;> (repeat' (first | apply And.intro | apply y_wkl | refine Exists.intro _ (And.intro rfl ?_))) <;> (try first | exact trivial | exact Wk.top _ | exact wk_int rfl | exact wk_bool rfl | exact wk_ptr rfl rfl rfl rfl | exact wk_ref rfl rfl rfl rfl rfl | exact wk_nil rfl rfl rfl | exact wk_ref rfl rfl rfl rfl (by simp) | exact wk_ref rfl rfl rfl rfl (by simp; omega) | exact wk_old (by assumption) (by simp) | exact wk_eq rfl (by first | exact Bd.int _ _ | exact Bd.bool _ | exact Bd.abool | exact Bd.nils | exact Bd.emp | exact Bd.nilp | exact Bd.nilfn | assumption | exact low_trees _ _ | exact low_treeD _ _ | exact low_ints _ _) | exact Nat.le_refl _ | exact wk_int (by simp) | exact wk_int (by omega) | exact Nat.succ_le_succ (Nat.zero_le _) | exact Nat.le_add_left _ _ | omega))
                all_goals first | exact .low _ (.ptr _ _ _ (.inl hb)) | exact .low _ (low_rules n g.rules) | exact .low _ (low_syms n l) | exact .low _ hPa | (rw [← hput]; exact WkL.low (fun c hc => low_cellsF wD (low_wD n) _ c (by rw [← hput]; exact hc))) | trace_state
              | false =>
                have hstp : stepW W ⟨rl, rr⟩ = W := hgs.2.2 rfl
                simp (maxSteps := 400000) -implicitDefEqProofs only [↓symPre, symPost, y_condP, y_condG, run, lver, minD, intsD, eqAll, tupD, splice, Nat.zero_add, Nat.add_zero, Nat.zero_mul, Nat.mul_one, Nat.one_mul, Nat.reduceAdd, Nat.reduceSub, Nat.reduceMul, Nat.reduceLT, Nat.reduceLeDiff, Nat.reduceEqDiff, true_and, and_true, true_implies, if_true, if_false, ite_true, reduceIte, ne_eq, not_false_eq_true, reduceCtorEq, forall_const, bne_self_eq_false, Bool.true_eq_false, Bool.false_eq_true, false_implies, and_self, implies_true, Int.toNat_zero, beq_self_eq_true, decide_true, decide_false, Bool.not_true, Bool.not_false, ↓y_lookv, y_key1, y_mlook, y_mlookn, y_mres1, y_mres0, ↓y_call, ↓y_adq0, ↓y_adq, ↓y_stepQ_call, ↓y_adq_onT, ↓y_adq_onF, ↓y_adq_onS, drawPost, isCall, isNew, isEff, Option.toList, or_false, false_or, cond_true, cond_false, not_true_eq_false, or_true, true_or, Nat.add_left_cancel_iff, Bool.false_eq_true, ↓y_q0, ↓y_q1, ↓y_q1e, y_qn, isMap, ↓y_at_old hb, hHb, hb, w2]
                rw [hstp] at tk
                rw [Bool.or_false] at tc
                refine ⟨i + 1, ⟨by omega, by rw [tk]; exact q2, by rw [tk, tc]; exact q3, by rw [tk, tc]; exact q4⟩, by omega, ?_⟩
                rw [← hH, tk, tc]
                refine le_toH (List.replicate 15 .hole ++ [.old 15] ++ List.replicate 55 .hole) (lowW_upd hl ?_) rfl ?_ ?_ <;> ((try simp only [y_blk_end, y_blk_hole, y_blk_nil, y_blk_old, y_wkl_end, y_wkl_top, List.replicate, List.cons_append, List.nil_append, and_true, true_and]) <;> (repeat' (first | apply And.intro | apply y_wkl | refine Exists.intro _ (And.intro rfl ?_))) <;> (try first | exact trivial | exact Wk.top _ | exact wk_int rfl | exact wk_bool rfl | exact wk_ptr rfl rfl rfl rfl | exact wk_ref rfl rfl rfl rfl rfl | exact wk_nil rfl rfl rfl | exact wk_ref rfl rfl rfl rfl (by simp) | exact wk_ref rfl rfl rfl rfl (by simp; omega) | exact wk_old (by assumption) (by simp) | exact wk_eq rfl (by first | exact Bd.int _ _ | exact Bd.bool _ | exact Bd.abool | exact Bd.nils | exact Bd.emp | exact Bd.nilp | exact Bd.nilfn | assumption | exact low_trees _ _ | exact low_treeD _ _ | exact low_ints _ _) | exact Nat.le_refl _ | exact wk_int (by simp) | exact wk_int (by omega) | exact Nat.succ_le_succ (Nat.zero_le _) | exact Nat.le_add_left _ _ | omega))
                all_goals first | exact .low _ (.ptr _ _ _ (.inl hb)) | exact .low _ (low_rules n g.rules) | exact .low _ (low_syms n l) | exact .low _ hPa | exact WkL.low (low_cellsF wD (low_wD n) _) | trace_state
        · have f1 : ¬ (i : Int) < (g.rules.length : Int) := by omega
          obtain rfl : i = g.rules.length := by omega
          rw [List.take_length] at *
          simp -implicitDefEqProofs only [↓symPre, symPost, y_condP, y_condG, run, lver, minD, intsD, eqAll, tupD, splice, Nat.zero_add, Nat.add_zero, Nat.zero_mul, Nat.mul_one, Nat.one_mul, Nat.reduceAdd, Nat.reduceSub, Nat.reduceMul, Nat.reduceLT, Nat.reduceLeDiff, Nat.reduceEqDiff, true_and, and_true, true_implies, if_true, if_false, ite_true, reduceIte, ne_eq, not_false_eq_true, reduceCtorEq, forall_const, bne_self_eq_false, Bool.true_eq_false, Bool.false_eq_true, false_implies, and_self, implies_true, Int.toNat_zero, beq_self_eq_true, decide_true, decide_false, Bool.not_true, Bool.not_false, ↓y_lookv, y_key1, y_mlook, y_mlookn, y_mres1, y_mres0, ↓y_call, f1, decide_false]
          obtain ⟨k', rfl⟩ : ∃ k', k = k' + 1 := ⟨k - 1, by simp only at j2; omega⟩
          simp only at j2 j3 ⊢
          rw [runW] at j3
          cases hp : pchW ws g.rules with
          | true =>
            rw [hp, if_pos rfl] at j3
            refine ⟨(true, passW ws g.rules, k'), ⟨fun _ => ⟨q2, by have := q3 hp; simp only; omega, j3⟩, fun h => by simp at h⟩, by simp only; omega, ?_⟩
            simp only [if_true]
            rw [← hH]
            refine le_toH (List.replicate 15 .hole ++ [.old 15] ++ List.replicate 55 .hole) (lowW_upd hl ?_) rfl ?_ ?_ <;> ((try simp only [y_blk_end, y_blk_hole, y_blk_nil, y_blk_old, y_wkl_end, y_wkl_top, List.replicate, List.cons_append, List.nil_append, and_true, true_and]) <;> (repeat' (first | apply And.intro | apply y_wkl | refine Exists.intro _ (And.intro rfl ?_))) <;> (try first | exact trivial | exact Wk.top _ | exact wk_int rfl | exact wk_bool rfl | exact wk_ptr rfl rfl rfl rfl | exact wk_ref rfl rfl rfl rfl rfl | exact wk_nil rfl rfl rfl | exact wk_ref rfl rfl rfl rfl (by simp) | exact wk_ref rfl rfl rfl rfl (by simp; omega) | exact wk_old (by assumption) (by simp) | exact wk_eq rfl (by first | exact Bd.int _ _ | exact Bd.bool _ | exact Bd.abool | exact Bd.nils | exact Bd.emp | exact Bd.nilp | exact Bd.nilfn | assumption | exact low_trees _ _ | exact low_treeD _ _ | exact low_ints _ _) | exact Nat.le_refl _ | exact wk_int (by simp) | exact wk_int (by omega) | exact Nat.succ_le_succ (Nat.zero_le _) | exact Nat.le_add_left _ _ | omega))
            all_goals first | exact .low _ (.ptr _ _ _ (.inl hb)) | exact .low _ (low_rules n g.rules) | exact .low _ (low_syms n l) | exact .low _ hPa | exact WkL.low (low_cellsF wD (low_wD n) _) | trace_state
          | false =>
            rw [hp, if_neg (by simp)] at j3
            refine ⟨(false, passW ws g.rules, k'), ⟨fun h => by simp at h, fun _ => j3⟩, by simp only; omega, ?_⟩
            simp only [Bool.false_eq_true, if_false]
            unfold doneW
            rw [← hH]
            refine le_toH (List.replicate 71 .hole) (lowW_upd hl ?_) rfl ?_ ?_ <;> ((try simp only [y_blk_end, y_blk_hole, y_blk_nil, y_blk_old, y_wkl_end, y_wkl_top, List.replicate, List.cons_append, List.nil_append, and_true, true_and]) <;> (repeat' (first | apply And.intro | apply y_wkl | refine Exists.intro _ (And.intro rfl ?_))) <;> (try first | exact trivial | exact Wk.top _ | exact wk_int rfl | exact wk_bool rfl | exact wk_ptr rfl rfl rfl rfl | exact wk_ref rfl rfl rfl rfl rfl | exact wk_nil rfl rfl rfl | exact wk_ref rfl rfl rfl rfl (by simp) | exact wk_ref rfl rfl rfl rfl (by simp; omega) | exact wk_old (by assumption) (by simp) | exact wk_eq rfl (by first | exact Bd.int _ _ | exact Bd.bool _ | exact Bd.abool | exact Bd.nils | exact Bd.emp | exact Bd.nilp | exact Bd.nilfn | assumption | exact low_trees _ _ | exact low_treeD _ _ | exact low_ints _ _) | exact Nat.le_refl _ | exact wk_int (by simp) | exact wk_int (by omega) | exact Nat.succ_le_succ (Nat.zero_le _) | exact Nat.le_add_left _ _ | omega))
            all_goals first | exact .low _ (.ptr _ _ _ (.inl hb)) | exact .low _ (low_rules n g.rules) | exact .low _ (low_syms n l) | exact .low _ hPa | exact wk_frzF wD wD_cells (low_wD n) (t := 15) rfl rfl (by simp) (by have := q2.len; omega) | trace_state
end Abs
end Go.Proofs.Ytokdeeagghhliaa

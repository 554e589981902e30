/- Slices of bools compared; a cell for any terminal. -/
import Derived.Test.YthihmgnfnhcgeaaO26
import Derived.Test.YthihmgnfnhcgeaaO25
namespace Go.Proofs.Ythihmgnfnhcgeaa
namespace Abs
set_option linter.unusedVariables false
set_option linter.unusedSimpArgs false
set_option maxRecDepth 20000

theorem drop_eq_iffB {l m : List Bool} (i : Nat) (h1 : i < l.length) (h2 : i < m.length) : l.drop i = m.drop i ↔ l[i] = m[i] ∧ l.drop (i + 1) = m.drop (i + 1) := by
  rw [List.drop_eq_getElem_cons h1, List.drop_eq_getElem_cons h2, List.cons.injEq]
theorem pure_EqualB (l m : List Bool) (hl62 : l.length < 2 ^ 62) (hm62 : m.length < 2 ^ 62) : Pure prog F_slices_Equal_bool_bool [.lst (l.map .bool), .lst (m.map .bool)] (.bool (decide (l = m))) := by
  intro n h
  refine K_slices_Equal_bool_bool.calls fun hl => ?_
  unfold C_slices_Equal_bool_bool
  by_cases hlen : l.length = m.length
  · simp -implicitDefEqProofs only [↓symPre, symPost, y_condP, y_condG, run, lver, minD, intsD, eqAll, tupD, splice, Nat.zero_add, Nat.add_zero, Nat.zero_mul, Nat.mul_one, Nat.one_mul, Nat.reduceAdd, Nat.reduceSub, Nat.reduceMul, Nat.reduceLT, Nat.reduceLeDiff, Nat.reduceEqDiff, true_and, and_true, true_implies, if_true, if_false, ite_true, reduceIte, ne_eq, not_false_eq_true, reduceCtorEq, forall_const, bne_self_eq_false, Bool.true_eq_false, Bool.false_eq_true, false_implies, and_self, implies_true, Int.toNat_zero, beq_self_eq_true, decide_true, decide_false, Bool.not_true, Bool.not_false, ↓y_lookv, y_key1, y_mlook, y_mlookn, y_mres1, y_mres0, ↓y_call, List.length_map, hlen]
    refine aloop (fun i : Nat => St.mk n ([.lst (l.map .bool), .lst (m.map .bool)] ++ List.replicate 9 .top ++ [.lst (l.map .bool), .int .i64 l.length, .int .i64 i] ++ List.replicate 12 .top) h
        (List.replicate 26 blk0)) (fun i => i ≤ l.length ∧ (l = m ↔ l.drop i = m.drop i)) (fun i => l.length - i) 0 ⟨Nat.zero_le _, Iff.rfl⟩ ?_ ?_
    · refine le_to (List.replicate 26 .hole) hl rfl ?_ ?_ <;> ((try simp only [y_blk_end, y_blk_hole, y_blk_nil, y_blk_old, y_wkl_end, y_wkl_top, List.replicate, List.cons_append, List.nil_append, and_true, true_and]) <;> (repeat' (first | apply And.intro | apply y_wkl | refine Exists.intro _ (And.intro rfl ?_))) <;> (try first | exact trivial | exact Wk.top _ | exact wk_int rfl | exact wk_bool rfl | exact wk_ptr rfl rfl rfl rfl | exact wk_ref rfl rfl rfl rfl rfl | exact wk_nil rfl rfl rfl | exact wk_ref rfl rfl rfl rfl (by simp) | exact wk_ref rfl rfl rfl rfl (by simp; omega) | exact wk_old (by assumption) (by simp) | exact wk_eq rfl (by first | exact Bd.int _ _ | exact Bd.bool _ | exact Bd.abool | exact Bd.nils | exact Bd.emp | exact Bd.nilp | exact Bd.nilfn | assumption | exact low_trees _ _ | exact low_treeD _ _ | exact low_ints _ _) | exact Nat.le_refl _ | exact wk_int (by simp) | exact wk_int (by omega) | exact Nat.succ_le_succ (Nat.zero_le _) | exact Nat.le_add_left _ _ | omega))
      all_goals first | exact .low _ (low_bools n l) | exact .low _ (low_bools n m) | trace_state
    · rintro i ⟨hi, hc⟩
      by_cases hlt : i < l.length
      · have h1 : (i : Int) < (l.length : Int) := by omega
        have h0 : (0 : Int) ≤ (i : Int) := by omega
        have h3 : (i : Int) < (m.length : Int) := by omega
        have e0 := nth_bools l i hlt
        have e1 := nth_bools m i (by omega)
        have hd := drop_eq_iffB (l := l) (m := m) i hlt (by omega)
        have w1 : IntKind.i64.wrap ((i : Int) + 1) = ((i + 1 : Nat) : Int) := by rw [IntWalk.i64_in _ (by omega)]; omega
        simp -implicitDefEqProofs only [↓symPre, symPost, y_condP, y_condG, run, lver, minD, intsD, eqAll, tupD, splice, Nat.zero_add, Nat.add_zero, Nat.zero_mul, Nat.mul_one, Nat.one_mul, Nat.reduceAdd, Nat.reduceSub, Nat.reduceMul, Nat.reduceLT, Nat.reduceLeDiff, Nat.reduceEqDiff, true_and, and_true, true_implies, if_true, if_false, ite_true, reduceIte, ne_eq, not_false_eq_true, reduceCtorEq, forall_const, bne_self_eq_false, Bool.true_eq_false, Bool.false_eq_true, false_implies, and_self, implies_true, Int.toNat_zero, beq_self_eq_true, decide_true, decide_false, Bool.not_true, Bool.not_false, ↓y_lookv, y_key1, y_mlook, y_mlookn, y_mres1, y_mres0, ↓y_call, List.length_map, h1, h0, h3, decide_true, Int.toNat_natCast, e0, e1]
        refine adrawq hmix [] ?_
        simp (maxSteps := 400000) -implicitDefEqProofs only [↓symPre, symPost, y_condP, y_condG, run, lver, minD, intsD, eqAll, tupD, splice, Nat.zero_add, Nat.add_zero, Nat.zero_mul, Nat.mul_one, Nat.one_mul, Nat.reduceAdd, Nat.reduceSub, Nat.reduceMul, Nat.reduceLT, Nat.reduceLeDiff, Nat.reduceEqDiff, true_and, and_true, true_implies, if_true, if_false, ite_true, reduceIte, ne_eq, not_false_eq_true, reduceCtorEq, forall_const, bne_self_eq_false, Bool.true_eq_false, Bool.false_eq_true, false_implies, and_self, implies_true, Int.toNat_zero, beq_self_eq_true, decide_true, decide_false, Bool.not_true, Bool.not_false, ↓y_lookv, y_key1, y_mlook, y_mlookn, y_mres1, y_mres0, ↓y_call, ↓y_adq0, ↓y_adq, ↓y_stepQ_call, ↓y_adq_onT, ↓y_adq_onF, ↓y_adq_onS, drawPost, isCall, isNew, isEff, Option.toList, or_false, false_or, cond_true, cond_false, not_true_eq_false, or_true, true_or, Nat.add_left_cancel_iff, Bool.false_eq_true, ↓y_q0, ↓y_q1, ↓y_q1e, y_qn, isMap, List.length_map, h1, h0, h3, Int.toNat_natCast, e0, e1, w1]
        refine ⟨fun hne => ?_, fun heq => ?_⟩
        · refine fin_bool hl ?_
          have : ¬ (l = m) := by rw [hc, hd]; rintro ⟨h, _⟩; simp [h] at hne
          simp [this]
        · have hq : l[i] = m[i] := by simpa using heq
          refine ⟨i + 1, ⟨by omega, by rw [hc, hd]; simp [hq]⟩, by omega, ?_⟩
          refine le_to (List.replicate 26 .hole) hl rfl ?_ ?_ <;> ((try simp only [y_blk_end, y_blk_hole, y_blk_nil, y_blk_old, y_wkl_end, y_wkl_top, List.replicate, List.cons_append, List.nil_append, and_true, true_and]) <;> (repeat' (first | apply And.intro | apply y_wkl | refine Exists.intro _ (And.intro rfl ?_))) <;> (try first | exact trivial | exact Wk.top _ | exact wk_int rfl | exact wk_bool rfl | exact wk_ptr rfl rfl rfl rfl | exact wk_ref rfl rfl rfl rfl rfl | exact wk_nil rfl rfl rfl | exact wk_ref rfl rfl rfl rfl (by simp) | exact wk_ref rfl rfl rfl rfl (by simp; omega) | exact wk_old (by assumption) (by simp) | exact wk_eq rfl (by first | exact Bd.int _ _ | exact Bd.bool _ | exact Bd.abool | exact Bd.nils | exact Bd.emp | exact Bd.nilp | exact Bd.nilfn | assumption | exact low_trees _ _ | exact low_treeD _ _ | exact low_ints _ _) | exact Nat.le_refl _ | exact wk_int (by simp) | exact wk_int (by omega) | exact Nat.succ_le_succ (Nat.zero_le _) | exact Nat.le_add_left _ _ | omega))
          all_goals first | exact .low _ (low_bools n l) | exact .low _ (low_bools n m) | trace_state
      · have h1 : ¬ (i : Int) < (l.length : Int) := by omega
        simp -implicitDefEqProofs only [↓symPre, symPost, y_condP, y_condG, run, lver, minD, intsD, eqAll, tupD, splice, Nat.zero_add, Nat.add_zero, Nat.zero_mul, Nat.mul_one, Nat.one_mul, Nat.reduceAdd, Nat.reduceSub, Nat.reduceMul, Nat.reduceLT, Nat.reduceLeDiff, Nat.reduceEqDiff, true_and, and_true, true_implies, if_true, if_false, ite_true, reduceIte, ne_eq, not_false_eq_true, reduceCtorEq, forall_const, bne_self_eq_false, Bool.true_eq_false, Bool.false_eq_true, false_implies, and_self, implies_true, Int.toNat_zero, beq_self_eq_true, decide_true, decide_false, Bool.not_true, Bool.not_false, ↓y_lookv, y_key1, y_mlook, y_mlookn, y_mres1, y_mres0, ↓y_call, List.length_map, h1, decide_false]
        refine fin_bool hl ?_
        have : l = m := by rw [hc, List.drop_eq_nil_of_le (by omega), List.drop_eq_nil_of_le (by omega)]
        simp [this]
  · have hne : ¬ (l.length : Int) = (m.length : Int) := by omega
    have hb : (((l.length : Int) == (m.length : Int)) != true) = true := by simpa using hne
    simp -implicitDefEqProofs only [↓symPre, symPost, y_condP, y_condG, run, lver, minD, intsD, eqAll, tupD, splice, Nat.zero_add, Nat.add_zero, Nat.zero_mul, Nat.mul_one, Nat.one_mul, Nat.reduceAdd, Nat.reduceSub, Nat.reduceMul, Nat.reduceLT, Nat.reduceLeDiff, Nat.reduceEqDiff, true_and, and_true, true_implies, if_true, if_false, ite_true, reduceIte, ne_eq, not_false_eq_true, reduceCtorEq, forall_const, bne_self_eq_false, Bool.true_eq_false, Bool.false_eq_true, false_implies, and_self, implies_true, Int.toNat_zero, beq_self_eq_true, decide_true, decide_false, Bool.not_true, Bool.not_false, ↓y_lookv, y_key1, y_mlook, y_mlookn, y_mres1, y_mres0, ↓y_call, List.length_map]
    refine ⟨fun h1 => ?_, fun h1 => ?_⟩
    · refine fin_bool hl ?_
      have : ¬ (l = m) := fun e => hlen (by rw [e])
      simp [this]
    · exact absurd h1 (by simpa using hne)


/-! ### a cell for any terminal -/
theorem genD_base {base base' : Sy → Nat → Nat → List Int → Prop} (h : ∀ x i j w, base x i j w → base' x i j w) {rs : List Ru} : ∀ (k : Nat) {x : Sy} {i j : Nat} {w : List Int}, genD base rs k x i j w → genD base' rs k x i j w
  | 0, x, i, j, w, hb => h x i j w hb
  | k + 1, x, i, j, w, hb => by
    rcases hb with hb | ⟨r, hr, hx, hs⟩
    · exact .inl (h x i j w hb)
    · exact .inr ⟨r, hr, hx, seqD_mono (fun x i j w h' => genD_base h k h') hs⟩
theorem seqD_ord {S : Sy → Nat → Nat → List Int → Prop} (h : ∀ x i j w, S x i j w → i ≤ j) : ∀ {xs : List Sy} {i j : Nat} {w : List Int}, seqD S xs i j w → i ≤ j
  | [], i, j, w, ⟨h1, _⟩ => Nat.le_of_eq h1
  | x :: xs, i, j, w, ⟨m, u, v, _, h2, h3⟩ => Nat.le_trans (h x i m u h2) (seqD_ord h h3)
theorem partG_ord {rs : List Ru} {l : List Sy} : ∀ (k : Nat) {x : Sy} {i j : Nat} {w : List Int}, genD (baseC rs l) rs k x i j w → i ≤ j
  | 0, x, i, j, w, ⟨h, _⟩ => by omega
  | k + 1, x, i, j, w, h => by
    rcases h with ⟨h, _⟩ | ⟨r, hr, hx, hs⟩
    · omega
    · exact seqD_ord (fun x i j w h => partG_ord k h) hs

section
variable {g : Gr} {l : List Sy} {p : Nat}
theorem setN_get (hp : p < l.length) (t i : Nat) : (setN l p t).getD i sy0 = if i = p then ⟨true, t⟩ else l.getD i sy0 := by
  unfold setN; exact getD_set _ _ _ _ _ hp
theorem setN_back (hg : okG g) (hp : p < l.length) (hc : l.getD p sy0 = ⟨true, -1⟩) {t : Nat} {x : Sy} {i j : Nat} {w : List Int} (h : baseC g.rules (setN l p t) x i j w) : baseC g.rules l x i j w := by
  obtain ⟨h1, h2, h3, h4⟩ := h
  refine ⟨h1, by simpa [setN] using h2, ?_, h4⟩
  rw [setN_get hp] at h3
  split at h3
  · rename_i e
    subst e
    rw [hc]
    have := (takes_n h3).1
    simp only at this
    simp [takes, ← this]
  · exact h3
/-- a part without the cell stays as it is; one with the cell is derived with some terminal there -/
theorem any_part (hg : okG g) (hp : p < l.length) (hc : l.getD p sy0 = ⟨true, -1⟩) : ∀ (k : Nat) {x : Sy} {i j : Nat} {w : List Int}, okSy g.terms g.nons x → genD (baseC g.rules l) g.rules k x i j w →
    (¬ (i ≤ p ∧ p < j) → ∀ t : Nat, genD (baseC g.rules (setN l p t)) g.rules k x i j w) ∧ (i ≤ p → p < j → ∃ t : Nat, (t : Int) < g.terms ∧ genD (baseC g.rules (setN l p t)) g.rules k x i j w) := by
  have base : ∀ {x : Sy} {i j : Nat} {w : List Int}, okSy g.terms g.nons x → baseC g.rules l x i j w → (¬ (i ≤ p ∧ p < j) → ∀ t : Nat, baseC g.rules (setN l p t) x i j w) ∧ (i ≤ p → p < j → ∃ t : Nat, (t : Int) < g.terms ∧ baseC g.rules (setN l p t) x i j w) := by
    rintro x i j w hx ⟨h1, h2, h3, h4⟩
    subst h1
    refine ⟨fun hn t => ⟨rfl, by simpa [setN] using h2, by rw [setN_get hp, if_neg (by omega)]; exact h3, h4⟩, fun a b => ?_⟩
    have e : i = p := by omega
    subst e
    rw [hc] at h3
    have ht : x.t = true := ((takes_n h3).1).symm
    have h0 := hx.1
    refine ⟨x.n.toNat, by have := hx.2.1 ht; omega, rfl, by simpa [setN] using h2, ?_, h4⟩
    rw [setN_get hp, if_pos rfl]
    simp [takes, ht]; omega
  intro k
  induction k with
  | zero => intro x i j w hx h; exact base hx h
  | succ k ih =>
    have seq : ∀ {xs : List Sy} {i j : Nat} {w : List Int}, (∀ x ∈ xs, okSy g.terms g.nons x) → seqD (genD (baseC g.rules l) g.rules k) xs i j w →
        (¬ (i ≤ p ∧ p < j) → ∀ t : Nat, seqD (genD (baseC g.rules (setN l p t)) g.rules k) xs i j w) ∧ (i ≤ p → p < j → ∃ t : Nat, (t : Int) < g.terms ∧ seqD (genD (baseC g.rules (setN l p t)) g.rules k) xs i j w) := by
      intro xs
      induction xs with
      | nil =>
        intro i j w _ h
        exact ⟨fun _ t => h, fun a b => by have := h.1; omega⟩
      | cons x xs ihx =>
        rintro i j w hx ⟨m, u, v, h1, h2, h3⟩
        have o1 := partG_ord k h2
        have o2 := seqD_ord (fun x i j w h => partG_ord k h) h3
        obtain ⟨a1, a2⟩ := ih (hx x (by simp)) h2
        obtain ⟨b1, b2⟩ := ihx (fun y hy => hx y (by simp [hy])) h3
        refine ⟨fun hn t => ⟨m, u, v, h1, a1 (by omega) t, b1 (by omega) t⟩, fun a b => ?_⟩
        by_cases hpm : p < m
        · obtain ⟨t, ht, h4⟩ := a2 a hpm
          exact ⟨t, ht, m, u, v, h1, h4, b1 (by omega) t⟩
        · obtain ⟨t, ht, h4⟩ := b2 (by omega) b
          exact ⟨t, ht, m, u, v, h1, a1 (by omega) t, h4⟩
    intro x i j w hx h
    rcases h with h | ⟨r, hr, hxr, hs⟩
    · obtain ⟨a1, a2⟩ := base hx h
      exact ⟨fun hn t => .inl (a1 hn t), fun a b => by obtain ⟨t, h1, h2⟩ := a2 a b; exact ⟨t, h1, .inl h2⟩⟩
    · obtain ⟨a1, a2⟩ := seq (hg.rules r hr).2.2.2 hs
      exact ⟨fun hn t => .inr ⟨r, hr, hxr, a1 hn t⟩, fun a b => by obtain ⟨t, h1, h2⟩ := a2 a b; exact ⟨t, h1, .inr ⟨r, hr, hxr, h2⟩⟩⟩
theorem whole_any (hg : okG g) (hp : p < l.length) (hc : l.getD p sy0 = ⟨true, -1⟩) (hl : okP g l) : (wholeW g l).ok = ((List.range g.terms.toNat).map fun t => (wholeW g (setN l p t)).ok).contains true := by
  have hs : (setN l p 0).length = l.length := by simp [setN]
  rw [Bool.eq_iff_iff, whole_ok hg hl]
  simp only [List.contains_iff_mem, List.mem_map, List.mem_range]
  constructor
  · rintro ⟨w, k, hk⟩
    obtain ⟨t, ht, h⟩ := (any_part hg hp hc k ⟨hg.start.1, fun h => (by cases h), fun _ => hg.start.2⟩ hk).2 (by omega) hp
    refine ⟨t, by omega, ?_⟩
    rw [whole_ok hg (okP_setN hl ht)]
    exact ⟨w, k, by simpa [setN] using h⟩
  · rintro ⟨t, ht, ho⟩
    rw [whole_ok hg (okP_setN hl (by omega))] at ho
    obtain ⟨w, k, hk⟩ := ho
    refine ⟨w, k, genD_base (fun x i j w h => setN_back hg hp hc h) k (by simpa [setN] using hk)⟩
end

/-- the first check -/
theorem list_chk : gchk listG = 0 := by decide +kernel
theorem may_list : mayF listG [⟨true, -1⟩] 0 = ([true], 0) := by
  have h1 : hchk listG [⟨true, -1⟩] = 0 := by
    unfold hchk
    rw [list_chk, if_neg (by simp), if_neg (by simp), if_neg]
    decide
  have h2 : (wholeW listG (setN [⟨true, -1⟩] 0 0)).ok = true := by
    rw [whole_ok (gchk_ok list_chk) (okP_setN (hchk_ok h1).2 (by show ((0 : Nat) : Int) < 1; omega))]
    refine ⟨[0], 1, .inr ⟨⟨0, [⟨true, 0⟩]⟩, by simp [listG], rfl, 1, [0], [], rfl, ⟨rfl, by simp [setN], rfl, ?_⟩, rfl, rfl⟩⟩
    exact freeD_t (x := ⟨true, 0⟩) rfl
  unfold mayF
  rw [h1, if_neg (by simp), if_neg (by simp), if_neg (by simp)]
  show ([(wholeW listG (setN [⟨true, -1⟩] 0 0)).ok], (0 : Int)) = _
  rw [h2]

end Abs
end Go.Proofs.Ythihmgnfnhcgeaa

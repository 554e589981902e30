/- attr.Check. -/
import Derived.Test.YtbdcklchcdkhbaaQ12
namespace Go.Proofs.Ytbdcklchcdkhbaa
namespace Abs
set_option linter.unusedVariables false
set_option linter.unusedSimpArgs false
set_option maxRecDepth 20000

def eq0 : Eqn := ⟨0, 0, 0, .mk 0 0 0 0 []⟩
def sameK (q p : Eqn) : Bool := decide (p.rule = q.rule ∧ p.at' = q.at' ∧ p.attr = q.attr)
def eqE (s : Sys) (g : Gr) (i : Nat) : Int :=
  if eqnB s g (s.eqs.getD i eq0) ≠ 0 then eqnB s g (s.eqs.getD i eq0) else if (s.eqs.take i).any (sameK (s.eqs.getD i eq0)) = true then 6 else 0
def isEq (s : Sys) (r k a : Nat) : Bool := s.eqs.any fun q => decide (q.rule = r ∧ q.at' = k ∧ q.attr = a)
def lacks (s : Sys) (g : Gr) (r : Nat) : Bool := (occL s g r ((g.rules.getD r ru0).right.length + 1)).any fun o => !isEq s r o.1 o.2
def lackN (s : Sys) (g : Gr) (r : Nat) : Int := if lacks s g r = true then 5 else 0
def chkN (s : Sys) (g : Gr) : Int :=
  if gchk g ≠ 0 then gchk g else if attrF g s.attrs ≠ 0 then attrF g s.attrs else if s.eqs.length > 200 then 2
  else if firstNZ (eqE s g) 0 s.eqs.length ≠ 0 then firstNZ (eqE s g) 0 s.eqs.length else firstNZ (lackN s g) 0 g.rules.length

structure Seen (ks : Ks) (l : List Eqn) : Prop where
  dist : Dist ks
  len : ks.length ≤ l.length
  iff : ∀ a b r, (∃ e ∈ ks, e.1 = (a, b) ∧ r ∈ e.2) ↔ ∃ q ∈ l, q.at' = a ∧ q.attr = b ∧ q.rule = r

theorem Seen.new {ks : Ks} {l : List Eqn} {q : Eqn} (h : Seen ks l) (hn : ∀ e ∈ ks, e.1 ≠ (q.at', q.attr)) : Seen (ks ++ [((q.at', q.attr), [q.rule])]) (l ++ [q]) := by
  refine ⟨fun i j a b ha hb hab => ?_, ?_, fun a b r => ?_⟩
  · rcases Nat.lt_or_ge i ks.length with hi | hi <;> rcases Nat.lt_or_ge j ks.length with hj | hj
    · rw [List.getElem?_append_left hi] at ha
      rw [List.getElem?_append_left hj] at hb
      exact h.dist i j a b ha hb hab
    · have : j = ks.length := by have := (List.getElem?_eq_some_iff.1 hb).1; simp at this; omega
      subst this
      rw [List.getElem?_append_left hi] at ha
      rw [List.getElem?_append_right hj, Nat.sub_self, List.getElem?_cons_zero] at hb
      injection hb with hb
      subst hb
      exact absurd hab (hn a (List.mem_of_getElem? ha))
    · have : i = ks.length := by have := (List.getElem?_eq_some_iff.1 ha).1; simp at this; omega
      subst this
      rw [List.getElem?_append_left hj] at hb
      rw [List.getElem?_append_right hi, Nat.sub_self, List.getElem?_cons_zero] at ha
      injection ha with ha
      subst ha
      exact absurd hab.symm (hn b (List.mem_of_getElem? hb))
    · have h1 := (List.getElem?_eq_some_iff.1 ha).1
      have h2 := (List.getElem?_eq_some_iff.1 hb).1
      simp at h1 h2; omega
  · have := h.len
    simp; omega
  · have := h.iff a b r
    simp only [List.mem_append, List.mem_singleton]
    constructor
    · rintro ⟨e, he | rfl, h1, h2⟩
      · obtain ⟨p, hp, hpp⟩ := this.1 ⟨e, he, h1, h2⟩
        exact ⟨p, .inl hp, hpp⟩
      · simp only [Prod.mk.injEq, List.mem_singleton] at h1 h2
        exact ⟨q, .inr rfl, h1.1, h1.2, h2.symm⟩
    · rintro ⟨p, hp | rfl, h1, h2, h3⟩
      · obtain ⟨e, he, hee⟩ := this.2 ⟨p, hp, h1, h2, h3⟩
        exact ⟨e, .inl he, hee⟩
      · exact ⟨_, .inr rfl, by simp [h1, h2], by simp [h3]⟩
theorem Seen.more {ks : Ks} {l : List Eqn} {q : Eqn} (h : Seen ks l) {j : Nat} {e : (Int × Int) × List Int} (hj : ks[j]? = some e) (he : e.1 = (q.at', q.attr)) : Seen (ks.set j (e.1, e.2 ++ [q.rule])) (l ++ [q]) := by
  have hjl : j < ks.length := (List.getElem?_eq_some_iff.1 hj).1
  have hget : ∀ i x, (ks.set j (e.1, e.2 ++ [q.rule]))[i]? = some x → ∃ y, ks[i]? = some y ∧ y.1 = x.1 ∧ (i ≠ j → y = x) := fun i x hx => by
    by_cases hij : j = i
    · subst hij
      rw [List.getElem?_set_self hjl] at hx
      injection hx with hx
      exact ⟨e, hj, by rw [← hx], fun h => absurd rfl h⟩
    · rw [List.getElem?_set_ne hij] at hx
      exact ⟨x, hx, rfl, fun _ => rfl⟩
  refine ⟨fun i i' a b ha hb hab => ?_, ?_, fun a b r => ?_⟩
  · obtain ⟨x, hx, hx1, _⟩ := hget i a ha
    obtain ⟨y, hy, hy1, _⟩ := hget i' b hb
    exact h.dist i i' x y hx hy (by rw [hx1, hy1, hab])
  · have := h.len
    simp; omega
  · have := h.iff a b r
    simp only [List.mem_append, List.mem_singleton]
    constructor
    · rintro ⟨x, hx, h1, h2⟩
      obtain ⟨i, hi⟩ := List.mem_iff_getElem?.1 hx
      by_cases hij : j = i
      · subst hij
        rw [List.getElem?_set_self hjl] at hi
        injection hi with hi
        subst hi
        simp only [List.mem_append, List.mem_singleton] at h1 h2
        rcases h2 with h2 | h2
        · obtain ⟨p, hp, hpp⟩ := this.1 ⟨e, List.mem_of_getElem? hj, h1, h2⟩
          exact ⟨p, .inl hp, hpp⟩
        · rw [he, Prod.mk.injEq] at h1
          exact ⟨q, .inr rfl, h1.1, h1.2, h2.symm⟩
      · rw [List.getElem?_set_ne hij] at hi
        obtain ⟨p, hp, hpp⟩ := this.1 ⟨x, List.mem_of_getElem? hi, h1, h2⟩
        exact ⟨p, .inl hp, hpp⟩
    · rintro ⟨p, hp | rfl, h1, h2, h3⟩
      · obtain ⟨x, hx, hx1, hx2⟩ := this.2 ⟨p, hp, h1, h2, h3⟩
        obtain ⟨i, hi⟩ := List.mem_iff_getElem?.1 hx
        by_cases hij : j = i
        · subst hij
          rw [hj] at hi
          injection hi with hi
          subst hi
          exact ⟨_, List.mem_of_getElem? (List.getElem?_set_self hjl), hx1, by simp [hx2]⟩
        · exact ⟨x, List.mem_of_getElem? (by rw [List.getElem?_set_ne hij]; exact hi), hx1, hx2⟩
      · exact ⟨_, List.mem_of_getElem? (List.getElem?_set_self hjl), by rw [he, h1, h2], by simp [h3]⟩
/-- a key is there, or it isn't -/
theorem Seen.key (ks : Ks) (a b : Int) : (∃ (j : Nat) (e : (Int × Int) × List Int), ks[j]? = some e ∧ e.1 = (a, b)) ∨ ∀ e ∈ ks, e.1 ≠ (a, b) := by
  by_cases h : ∃ e ∈ ks, e.1 = (a, b)
  · obtain ⟨e, he, h1⟩ := h
    obtain ⟨j, hj⟩ := List.mem_iff_getElem?.1 he
    exact .inl ⟨j, e, hj, h1⟩
  · exact .inr fun e he h1 => h ⟨e, he, h1⟩

set_option maxHeartbeats 8000000 in
theorem pure_attrCheck (s : Sys) (g : Gr) (hgl : g.rules.length < 2 ^ 40) (hx : ∀ r ∈ g.rules, r.right.length < 2 ^ 20) (hA : s.attrs.length < 2 ^ 21) (hE : s.eqs.length < 2 ^ 40) (hz : ∀ q ∈ s.eqs, sz q.is < 2 ^ 40) : Pure prog F_attr_Check [gramD g, sysD s] (.int .i64 (chkN s g)) := by
  intro n h
  refine K_attr_Check.calls fun hl => ?_
  have hx40 : ∀ r ∈ g.rules, r.right.length < 2 ^ 40 := fun r h => Nat.lt_trans (hx r h) (by decide)
  have pg := pure_gramCheck g (by omega) fun r h => Nat.lt_trans (hx r h) (by decide)
  have pa := pure_attrs s g (by omega)
  have pe := fun q => pure_equation s g q hgl hx40
  have po := fun r hr => pure_occurrences s g r hr hx hA
  have hlr := low_rules n g.rules
  have hla := low_ats n s.attrs
  have hle := low_eqs n s.eqs
  have hC : chkN s g = if gchk g ≠ 0 then gchk g else if attrF g s.attrs ≠ 0 then attrF g s.attrs else if s.eqs.length > 200 then 2
    else if firstNZ (eqE s g) 0 s.eqs.length ≠ 0 then firstNZ (eqE s g) 0 s.eqs.length else firstNZ (lackN s g) 0 g.rules.length := rfl
  generalize gchk g = cg at *
  generalize attrF g s.attrs = ca at *
  unfold C_attr_Check
  have hgC : gramC g = [.int .i64 g.terms, .int .i64 g.nons, .int .i64 g.start, .lst (g.rules.map ruleD)] := rfl
  have hsC : sysC s = [.lst (s.attrs.map atD), .lst (s.eqs.map eqD)] := rfl
  unfold sysD gramD at *
  by_cases c0 : cg = 0
  rotate_left
  · rw [if_pos c0] at hC
    have b0 : (cg != 0) = true := by simpa using c0
    simp -implicitDefEqProofs only [↓symPre, symPost, y_condP, y_condG, run, lver, minD, intsD, eqAll, tupD, splice, Nat.zero_add, Nat.add_zero, Nat.zero_mul, Nat.mul_one, Nat.one_mul, Nat.reduceAdd, Nat.reduceSub, Nat.reduceMul, Nat.reduceLT, Nat.reduceLeDiff, Nat.reduceEqDiff, true_and, and_true, true_implies, if_true, if_false, ite_true, reduceIte, ne_eq, not_false_eq_true, reduceCtorEq, forall_const, bne_self_eq_false, Bool.true_eq_false, Bool.false_eq_true, false_implies, and_self, implies_true, Int.toNat_zero, beq_self_eq_true, decide_true, decide_false, Bool.not_true, Bool.not_false, ↓y_lookv, y_key1, y_mlook, y_mlookn, y_mres1, y_mres0, ↓y_call, List.length_map]
    refine pg.call rfl ?_
    simp -implicitDefEqProofs only [↓symPre, symPost, y_condP, y_condG, run, lver, minD, intsD, eqAll, tupD, splice, Nat.zero_add, Nat.add_zero, Nat.zero_mul, Nat.mul_one, Nat.one_mul, Nat.reduceAdd, Nat.reduceSub, Nat.reduceMul, Nat.reduceLT, Nat.reduceLeDiff, Nat.reduceEqDiff, true_and, and_true, true_implies, if_true, if_false, ite_true, reduceIte, ne_eq, not_false_eq_true, reduceCtorEq, forall_const, bne_self_eq_false, Bool.true_eq_false, Bool.false_eq_true, false_implies, and_self, implies_true, Int.toNat_zero, beq_self_eq_true, decide_true, decide_false, Bool.not_true, Bool.not_false, ↓y_lookv, y_key1, y_mlook, y_mlookn, y_mres1, y_mres0, ↓y_call, b0]
    exact fin_int hl hC.symm
  rw [if_neg (by simpa using c0)] at hC
  have b0 : (cg != 0) = false := by simpa using c0
  by_cases c1 : ca = 0
  rotate_left
  · rw [if_pos c1] at hC
    have b1 : (ca != 0) = true := by simpa using c1
    simp -implicitDefEqProofs only [↓symPre, symPost, y_condP, y_condG, run, lver, minD, intsD, eqAll, tupD, splice, Nat.zero_add, Nat.add_zero, Nat.zero_mul, Nat.mul_one, Nat.one_mul, Nat.reduceAdd, Nat.reduceSub, Nat.reduceMul, Nat.reduceLT, Nat.reduceLeDiff, Nat.reduceEqDiff, true_and, and_true, true_implies, if_true, if_false, ite_true, reduceIte, ne_eq, not_false_eq_true, reduceCtorEq, forall_const, bne_self_eq_false, Bool.true_eq_false, Bool.false_eq_true, false_implies, and_self, implies_true, Int.toNat_zero, beq_self_eq_true, decide_true, decide_false, Bool.not_true, Bool.not_false, ↓y_lookv, y_key1, y_mlook, y_mlookn, y_mres1, y_mres0, ↓y_call, List.length_map]
    refine pg.call rfl ?_
    simp -implicitDefEqProofs only [↓symPre, symPost, y_condP, y_condG, run, lver, minD, intsD, eqAll, tupD, splice, Nat.zero_add, Nat.add_zero, Nat.zero_mul, Nat.mul_one, Nat.one_mul, Nat.reduceAdd, Nat.reduceSub, Nat.reduceMul, Nat.reduceLT, Nat.reduceLeDiff, Nat.reduceEqDiff, true_and, and_true, true_implies, if_true, if_false, ite_true, reduceIte, ne_eq, not_false_eq_true, reduceCtorEq, forall_const, bne_self_eq_false, Bool.true_eq_false, Bool.false_eq_true, false_implies, and_self, implies_true, Int.toNat_zero, beq_self_eq_true, decide_true, decide_false, Bool.not_true, Bool.not_false, ↓y_lookv, y_key1, y_mlook, y_mlookn, y_mres1, y_mres0, ↓y_call, b0]
    refine pa.call rfl ?_
    simp -implicitDefEqProofs only [↓symPre, symPost, y_condP, y_condG, run, lver, minD, intsD, eqAll, tupD, splice, Nat.zero_add, Nat.add_zero, Nat.zero_mul, Nat.mul_one, Nat.one_mul, Nat.reduceAdd, Nat.reduceSub, Nat.reduceMul, Nat.reduceLT, Nat.reduceLeDiff, Nat.reduceEqDiff, true_and, and_true, true_implies, if_true, if_false, ite_true, reduceIte, ne_eq, not_false_eq_true, reduceCtorEq, forall_const, bne_self_eq_false, Bool.true_eq_false, Bool.false_eq_true, false_implies, and_self, implies_true, Int.toNat_zero, beq_self_eq_true, decide_true, decide_false, Bool.not_true, Bool.not_false, ↓y_lookv, y_key1, y_mlook, y_mlookn, y_mres1, y_mres0, ↓y_call, b1]
    exact fin_int hl hC.symm
  rw [if_neg (by simpa using c1)] at hC
  have b1 : (ca != 0) = false := by simpa using c1
  by_cases c2 : (s.eqs.length : Int) > 200
  · rw [if_pos (by omega)] at hC
    simp -implicitDefEqProofs only [↓symPre, symPost, y_condP, y_condG, run, lver, minD, intsD, eqAll, tupD, splice, Nat.zero_add, Nat.add_zero, Nat.zero_mul, Nat.mul_one, Nat.one_mul, Nat.reduceAdd, Nat.reduceSub, Nat.reduceMul, Nat.reduceLT, Nat.reduceLeDiff, Nat.reduceEqDiff, true_and, and_true, true_implies, if_true, if_false, ite_true, reduceIte, ne_eq, not_false_eq_true, reduceCtorEq, forall_const, bne_self_eq_false, Bool.true_eq_false, Bool.false_eq_true, false_implies, and_self, implies_true, Int.toNat_zero, beq_self_eq_true, decide_true, decide_false, Bool.not_true, Bool.not_false, ↓y_lookv, y_key1, y_mlook, y_mlookn, y_mres1, y_mres0, ↓y_call, List.length_map]
    refine pg.call rfl ?_
    simp -implicitDefEqProofs only [↓symPre, symPost, y_condP, y_condG, run, lver, minD, intsD, eqAll, tupD, splice, Nat.zero_add, Nat.add_zero, Nat.zero_mul, Nat.mul_one, Nat.one_mul, Nat.reduceAdd, Nat.reduceSub, Nat.reduceMul, Nat.reduceLT, Nat.reduceLeDiff, Nat.reduceEqDiff, true_and, and_true, true_implies, if_true, if_false, ite_true, reduceIte, ne_eq, not_false_eq_true, reduceCtorEq, forall_const, bne_self_eq_false, Bool.true_eq_false, Bool.false_eq_true, false_implies, and_self, implies_true, Int.toNat_zero, beq_self_eq_true, decide_true, decide_false, Bool.not_true, Bool.not_false, ↓y_lookv, y_key1, y_mlook, y_mlookn, y_mres1, y_mres0, ↓y_call, b0]
    refine pa.call rfl ?_
    simp -implicitDefEqProofs only [↓symPre, symPost, y_condP, y_condG, run, lver, minD, intsD, eqAll, tupD, splice, Nat.zero_add, Nat.add_zero, Nat.zero_mul, Nat.mul_one, Nat.one_mul, Nat.reduceAdd, Nat.reduceSub, Nat.reduceMul, Nat.reduceLT, Nat.reduceLeDiff, Nat.reduceEqDiff, true_and, and_true, true_implies, if_true, if_false, ite_true, reduceIte, ne_eq, not_false_eq_true, reduceCtorEq, forall_const, bne_self_eq_false, Bool.true_eq_false, Bool.false_eq_true, false_implies, and_self, implies_true, Int.toNat_zero, beq_self_eq_true, decide_true, decide_false, Bool.not_true, Bool.not_false, ↓y_lookv, y_key1, y_mlook, y_mlookn, y_mres1, y_mres0, ↓y_call, b1, List.length_map, c2, decide_true]
    exact fin_int hl hC.symm
  rw [if_neg (by omega)] at hC
  simp -implicitDefEqProofs only [↓symPre, symPost, y_condP, y_condG, run, lver, minD, intsD, eqAll, tupD, splice, Nat.zero_add, Nat.add_zero, Nat.zero_mul, Nat.mul_one, Nat.one_mul, Nat.reduceAdd, Nat.reduceSub, Nat.reduceMul, Nat.reduceLT, Nat.reduceLeDiff, Nat.reduceEqDiff, true_and, and_true, true_implies, if_true, if_false, ite_true, reduceIte, ne_eq, not_false_eq_true, reduceCtorEq, forall_const, bne_self_eq_false, Bool.true_eq_false, Bool.false_eq_true, false_implies, and_self, implies_true, Int.toNat_zero, beq_self_eq_true, decide_true, decide_false, Bool.not_true, Bool.not_false, ↓y_lookv, y_key1, y_mlook, y_mlookn, y_mres1, y_mres0, ↓y_call, List.length_map]
  refine pg.call rfl ?_
  simp -implicitDefEqProofs only [↓symPre, symPost, y_condP, y_condG, run, lver, minD, intsD, eqAll, tupD, splice, Nat.zero_add, Nat.add_zero, Nat.zero_mul, Nat.mul_one, Nat.one_mul, Nat.reduceAdd, Nat.reduceSub, Nat.reduceMul, Nat.reduceLT, Nat.reduceLeDiff, Nat.reduceEqDiff, true_and, and_true, true_implies, if_true, if_false, ite_true, reduceIte, ne_eq, not_false_eq_true, reduceCtorEq, forall_const, bne_self_eq_false, Bool.true_eq_false, Bool.false_eq_true, false_implies, and_self, implies_true, Int.toNat_zero, beq_self_eq_true, decide_true, decide_false, Bool.not_true, Bool.not_false, ↓y_lookv, y_key1, y_mlook, y_mlookn, y_mres1, y_mres0, ↓y_call, b0]
  refine pa.call rfl ?_
  simp -implicitDefEqProofs only [↓symPre, symPost, y_condP, y_condG, run, lver, minD, intsD, eqAll, tupD, splice, Nat.zero_add, Nat.add_zero, Nat.zero_mul, Nat.mul_one, Nat.one_mul, Nat.reduceAdd, Nat.reduceSub, Nat.reduceMul, Nat.reduceLT, Nat.reduceLeDiff, Nat.reduceEqDiff, true_and, and_true, true_implies, if_true, if_false, ite_true, reduceIte, ne_eq, not_false_eq_true, reduceCtorEq, forall_const, bne_self_eq_false, Bool.true_eq_false, Bool.false_eq_true, false_implies, and_self, implies_true, Int.toNat_zero, beq_self_eq_true, decide_true, decide_false, Bool.not_true, Bool.not_false, ↓y_lookv, y_key1, y_mlook, y_mlookn, y_mres1, y_mres0, ↓y_call, b1, List.length_map, c2, decide_false]
  refine aloop (fun p : Nat × Ks => St.mk n ([.top, .top, .ptr (n + 2) 1 0, .ptr (n + 3) 1 0, .top, .top, .top, .map (n + 29) 1] ++ List.replicate 23 .top ++ [.lst (s.eqs.map eqD), .int .i64 s.eqs.length, .int .i64 p.1] ++ List.replicate 56 .top) h (chkL n g s p.2))
    (fun p => p.1 ≤ s.eqs.length ∧ Seen p.2 (s.eqs.take p.1) ∧ firstNZ (eqE s g) p.1 (s.eqs.length - p.1) = firstNZ (eqE s g) 0 s.eqs.length) (fun p => s.eqs.length - p.1) (0, [])
    ⟨Nat.zero_le _, ⟨fun i j a b h => by simp at h, by simp, by simp⟩, rfl⟩ ?_ ?_
  · refine le_chk (fun j => 90 + j) hl ?_ rfl rfl rfl (fun j e h => by simp at h) (fun i j h => by simp at h) (fun j h => by simp at h)
    simp only [List.replicate, List.cons_append, List.nil_append, slc_top, Int.cast_ofNat_Int]
    repeat (first | rw [slc_top] | refine slc_2 ?_ | refine slc_3 ?_ | refine slc_m ?_ | refine slc_low (by first | assumption | exact Bd.int _ _) ?_)
    exact trivial
  · rintro ⟨i, ks⟩ ⟨hi, hS, hF⟩
    simp only at hi hS hF
    by_cases hlt : i < s.eqs.length
    · have f1 : (i : Int) < (s.eqs.length : Int) := by omega
      have f0 : (0 : Int) ≤ (i : Int) := by omega
      have w1 : IntKind.i64.wrap ((i : Int) + 1) = ((i + 1 : Nat) : Int) := by rw [IntWalk.i64_in _ (by omega)]; omega
      have e0 := nth_eqs s.eqs i hlt
      have hB : eqE s g i = if eqnB s g (s.eqs.getD i eq0) ≠ 0 then eqnB s g (s.eqs.getD i eq0) else if (s.eqs.take i).any (sameK (s.eqs.getD i eq0)) = true then 6 else 0 := rfl
      have hgd : s.eqs.getD i eq0 = s.eqs[i] := by simp [List.getD, hlt]
      have htk := List.take_succ_eq_append_getElem hlt
      have pe1 := pe s.eqs[i] (hz _ (List.getElem_mem hlt))
      rw [hgd] at hB
      have hFs := firstNZ_step (f := eqE s g) hlt
      have hNew := @Seen.new ks (s.eqs.take i) s.eqs[i] hS
      have hMore := @Seen.more ks (s.eqs.take i) s.eqs[i] hS
      rw [← htk] at hNew hMore
      generalize s.eqs[i] = q at *
      obtain ⟨u, v, w, ⟨k, m, a, r, xs⟩⟩ := q
      have hlx := low_exs n xs
      rw [eqD_mk] at e0 pe1
      generalize hce : eqnB s g ⟨u, v, w, .mk k m a r xs⟩ = ce at *
      have hL := @chkL_getD n g s ks
      have g2 : (chkL n g s ks).getD 2 blk0 = ⟨1, .cells (gramC g)⟩ := hL (by omega)
      have g3 : (chkL n g s ks).getD 3 blk0 = ⟨1, .cells (sysC s)⟩ := hL (by omega)
      have g9 : (chkL n g s ks).getD 9 blk0 = blk0 := hL (by omega)
      have g29 : (chkL n g s ks).getD 29 blk0 = ⟨1, .map (outE n (fun j => 90 + j) 0 ks)⟩ := hL (by omega)
      have g52 : (chkL n g s ks).getD 52 blk0 = blk0 := hL (by omega)
      have gi : ∀ j e, ks[j]? = some e → (chkL n g s ks).getD (90 + j) blk0 = ⟨1, .map (inE e.2)⟩ := fun j e hj => by
        have hjl := (List.getElem?_eq_some_iff.1 hj).1
        rw [hL (by omega), chkB, if_neg (by omega), if_neg (by omega), if_neg (by omega), if_pos (by omega), show 90 + j - 90 = j by omega]
        simp [List.getD, hj]
      have gln := chkL_len n g s ks
      have l9 : 9 < (chkL n g s ks).length := by omega
      have l29 : 29 < (chkL n g s ks).length := by omega
      have l52 : 52 < (chkL n g s ks).length := by omega
      have hk2 := klen_outE n (fun j => 90 + j) ks 0
      have hmg := fun j e => mget_outE (n := n) (src := fun j => 90 + j) hS.dist (i := j) (e := e)
      generalize chkL n g s ks = L at *
      have hl2 : ([v, w] : List Int).length = 2 := rfl
      have hl1 : ([u] : List Int).length = 1 := rfl
      have g2' := g2
      have g3' := g3
      rw [hgC] at g2
      rw [hsC] at g3
      by_cases c3 : ce = 0
      rotate_left
      · rw [if_pos c3] at hB
        rw [hFs, hB, if_neg c3] at hF
        rw [← hF, if_pos c3] at hC
        have b3 : (ce != 0) = true := by simpa using c3
        clear hF
        simp -implicitDefEqProofs only [↓symPre, symPost, y_condP, y_condG, run, lver, minD, intsD, eqAll, tupD, splice, Nat.zero_add, Nat.add_zero, Nat.zero_mul, Nat.mul_one, Nat.one_mul, Nat.reduceAdd, Nat.reduceSub, Nat.reduceMul, Nat.reduceLT, Nat.reduceLeDiff, Nat.reduceEqDiff, true_and, and_true, true_implies, if_true, if_false, ite_true, reduceIte, ne_eq, not_false_eq_true, reduceCtorEq, forall_const, bne_self_eq_false, Bool.true_eq_false, Bool.false_eq_true, false_implies, and_self, implies_true, Int.toNat_zero, beq_self_eq_true, decide_true, decide_false, Bool.not_true, Bool.not_false, ↓y_lookv, y_key1, y_mlook, y_mlookn, y_mres1, y_mres0, ↓y_call, f1, f0, decide_true, List.length_map, Int.toNat_natCast, e0, g2, g3, g9, l9, getD_set_ne, getD_set_eq, List.length_set, not_false_eq_true, eqD_cells]
        refine pe1.call rfl ?_
        simp -implicitDefEqProofs only [↓symPre, symPost, y_condP, y_condG, run, lver, minD, intsD, eqAll, tupD, splice, Nat.zero_add, Nat.add_zero, Nat.zero_mul, Nat.mul_one, Nat.one_mul, Nat.reduceAdd, Nat.reduceSub, Nat.reduceMul, Nat.reduceLT, Nat.reduceLeDiff, Nat.reduceEqDiff, true_and, and_true, true_implies, if_true, if_false, ite_true, reduceIte, ne_eq, not_false_eq_true, reduceCtorEq, forall_const, bne_self_eq_false, Bool.true_eq_false, Bool.false_eq_true, false_implies, and_self, implies_true, Int.toNat_zero, beq_self_eq_true, decide_true, decide_false, Bool.not_true, Bool.not_false, ↓y_lookv, y_key1, y_mlook, y_mlookn, y_mres1, y_mres0, ↓y_call, b3]
        exact fin_int hl hC.symm
      rw [if_neg (by simpa using c3)] at hB
      have b3 : (ce != 0) = false := by simpa using c3
      rcases Seen.key ks v w with ⟨j, e, hj, he⟩ | hno
      · obtain ⟨t, ht⟩ : ∃ t, t = 90 + j := ⟨_, rfl⟩
        have hjl := (List.getElem?_eq_some_iff.1 hj).1
        have hm1 := hmg j e hj
        have hkey : kyE e = [v, w] := by rw [kyE, he]
        have gt := gi j e hj
        have gi' := gi
        have lt : t < L.length := by omega
        simp only [← ht, hkey] at hm1 gt
        have n9 : ¬ t = 9 := by omega
        have n9' : ¬ 9 = t := by omega
        have n29 : ¬ t = 29 := by omega
        have n29' : ¬ 29 = t := by omega
        have n2' : ¬ t = 2 := by omega
        have n3' : ¬ t = 3 := by omega
        have hki := klen_inE e.2
        have hmi := mget_inE e.2 u
        by_cases hmem : u ∈ e.2
        · rw [if_pos hmem] at hmi
          have h6 : eqE s g i = 6 := by
            rw [hB, if_pos]
            obtain ⟨p, hp, h1, h2, h3⟩ := (hS.iff v w u).1 ⟨e, List.mem_of_getElem? hj, he, hmem⟩
            exact List.any_eq_true.2 ⟨p, hp, decide_eq_true ⟨h3, h1, h2⟩⟩
          rw [hFs, h6, if_neg (by decide)] at hF
          rw [← hF, if_pos (by decide)] at hC
          clear hF
          generalize outE n (fun j => 90 + j) 0 ks = E at *
          generalize inE e.2 = I at *
          simp -implicitDefEqProofs only [↓symPre, symPost, y_condP, y_condG, run, lver, minD, intsD, eqAll, tupD, splice, Nat.zero_add, Nat.add_zero, Nat.zero_mul, Nat.mul_one, Nat.one_mul, Nat.reduceAdd, Nat.reduceSub, Nat.reduceMul, Nat.reduceLT, Nat.reduceLeDiff, Nat.reduceEqDiff, true_and, and_true, true_implies, if_true, if_false, ite_true, reduceIte, ne_eq, not_false_eq_true, reduceCtorEq, forall_const, bne_self_eq_false, Bool.true_eq_false, Bool.false_eq_true, false_implies, and_self, implies_true, Int.toNat_zero, beq_self_eq_true, decide_true, decide_false, Bool.not_true, Bool.not_false, ↓y_lookv, y_key1, y_mlook, y_mlookn, y_mres1, y_mres0, ↓y_call, f1, f0, decide_true, List.length_map, Int.toNat_natCast, e0, g2, g3, g9, g29, g52, l9, l29, l52, getD_set_ne, getD_set_eq, List.length_set, not_false_eq_true, eqD_cells]
          refine pe1.call rfl ?_
          simp -implicitDefEqProofs only [↓symPre, symPost, y_condP, y_condG, run, lver, minD, intsD, eqAll, tupD, splice, Nat.zero_add, Nat.add_zero, Nat.zero_mul, Nat.mul_one, Nat.one_mul, Nat.reduceAdd, Nat.reduceSub, Nat.reduceMul, Nat.reduceLT, Nat.reduceLeDiff, Nat.reduceEqDiff, true_and, and_true, true_implies, if_true, if_false, ite_true, reduceIte, ne_eq, not_false_eq_true, reduceCtorEq, forall_const, bne_self_eq_false, Bool.true_eq_false, Bool.false_eq_true, false_implies, and_self, implies_true, Int.toNat_zero, beq_self_eq_true, decide_true, decide_false, Bool.not_true, Bool.not_false, ↓y_lookv, y_key1, y_mlook, y_mlookn, y_mres1, y_mres0, ↓y_call, b3, ↓y_lookvM, ↓y_atm_loc, getD_set_ne, getD_set_eq, g29, l9, l29, hk2, hl2, hm1, gt, n9, n9', n29, n29', not_false_eq_true]
          refine adrawq hmix [] ?_
          simp (maxSteps := 400000) -implicitDefEqProofs only [↓symPre, symPost, y_condP, y_condG, run, lver, minD, intsD, eqAll, tupD, splice, Nat.zero_add, Nat.add_zero, Nat.zero_mul, Nat.mul_one, Nat.one_mul, Nat.reduceAdd, Nat.reduceSub, Nat.reduceMul, Nat.reduceLT, Nat.reduceLeDiff, Nat.reduceEqDiff, true_and, and_true, true_implies, if_true, if_false, ite_true, reduceIte, ne_eq, not_false_eq_true, reduceCtorEq, forall_const, bne_self_eq_false, Bool.true_eq_false, Bool.false_eq_true, false_implies, and_self, implies_true, Int.toNat_zero, beq_self_eq_true, decide_true, decide_false, Bool.not_true, Bool.not_false, ↓y_lookv, y_key1, y_mlook, y_mlookn, y_mres1, y_mres0, ↓y_call, ↓y_adq0, ↓y_adq, ↓y_stepQ_call, ↓y_adq_onT, ↓y_adq_onF, ↓y_adq_onS, drawPost, isCall, isNew, isEff, Option.toList, or_false, false_or, cond_true, cond_false, not_true_eq_false, or_true, true_or, Nat.add_left_cancel_iff, Bool.false_eq_true, ↓y_q0, ↓y_q1, ↓y_q1e, y_qn, isMap, ↓y_lookvM, ↓y_atm_loc, getD_set_ne, getD_set_eq, g29, l9, l29, hk2, hl2, hm1, gt, n9, n9', n29, n29', hki, hl1, hmi, not_false_eq_true]
          exact fin_int hl hC.symm
        · rw [if_neg hmem] at hmi
          have hnd : eqE s g i = 0 := by
            rw [hB, if_neg]
            intro hany
            obtain ⟨p, hp, hpp⟩ := List.any_eq_true.1 hany
            have hpp := of_decide_eq_true hpp
            obtain ⟨e', he', h1, h2⟩ := (hS.iff v w u).2 ⟨p, hp, hpp.2.1, hpp.2.2, hpp.1⟩
            obtain ⟨j', hj'⟩ := List.mem_iff_getElem?.1 he'
            have := hS.dist j' j e' e hj' hj (by rw [h1, he])
            subst this
            rw [hj] at hj'
            injection hj' with hj'
            subst hj'
            exact hmem h2
          rw [hFs, hnd, if_pos rfl] at hF
          have hmp := mput_inE hmem
          have hS' := hMore hj he
          have hupd := outE_upd n (fun j => 90 + j) (e.2 ++ [u]) ks 0 j e hj
          have hEE : outE n (fun j => 90 + j) 0 ks = outE n (fun j => 90 + j) 0 ks := rfl
          generalize hEg : outE n (fun j => 90 + j) 0 ks = E at *
          generalize hI : inE e.2 = I at *
          simp -implicitDefEqProofs only [↓symPre, symPost, y_condP, y_condG, run, lver, minD, intsD, eqAll, tupD, splice, Nat.zero_add, Nat.add_zero, Nat.zero_mul, Nat.mul_one, Nat.one_mul, Nat.reduceAdd, Nat.reduceSub, Nat.reduceMul, Nat.reduceLT, Nat.reduceLeDiff, Nat.reduceEqDiff, true_and, and_true, true_implies, if_true, if_false, ite_true, reduceIte, ne_eq, not_false_eq_true, reduceCtorEq, forall_const, bne_self_eq_false, Bool.true_eq_false, Bool.false_eq_true, false_implies, and_self, implies_true, Int.toNat_zero, beq_self_eq_true, decide_true, decide_false, Bool.not_true, Bool.not_false, ↓y_lookv, y_key1, y_mlook, y_mlookn, y_mres1, y_mres0, ↓y_call, f1, f0, decide_true, List.length_map, Int.toNat_natCast, e0, g2, g3, g9, g29, g52, l9, l29, l52, getD_set_ne, getD_set_eq, List.length_set, not_false_eq_true, eqD_cells]
          refine pe1.call rfl ?_
          simp -implicitDefEqProofs only [↓symPre, symPost, y_condP, y_condG, run, lver, minD, intsD, eqAll, tupD, splice, Nat.zero_add, Nat.add_zero, Nat.zero_mul, Nat.mul_one, Nat.one_mul, Nat.reduceAdd, Nat.reduceSub, Nat.reduceMul, Nat.reduceLT, Nat.reduceLeDiff, Nat.reduceEqDiff, true_and, and_true, true_implies, if_true, if_false, ite_true, reduceIte, ne_eq, not_false_eq_true, reduceCtorEq, forall_const, bne_self_eq_false, Bool.true_eq_false, Bool.false_eq_true, false_implies, and_self, implies_true, Int.toNat_zero, beq_self_eq_true, decide_true, decide_false, Bool.not_true, Bool.not_false, ↓y_lookv, y_key1, y_mlook, y_mlookn, y_mres1, y_mres0, ↓y_call, b3, ↓y_lookvM, ↓y_atm_loc, getD_set_ne, getD_set_eq, g29, l9, l29, hk2, hl2, hm1, gt, n9, n9', n29, n29', not_false_eq_true]
          refine adrawq hmix [] ?_
          simp (maxSteps := 400000) -implicitDefEqProofs only [↓symPre, symPost, y_condP, y_condG, run, lver, minD, intsD, eqAll, tupD, splice, Nat.zero_add, Nat.add_zero, Nat.zero_mul, Nat.mul_one, Nat.one_mul, Nat.reduceAdd, Nat.reduceSub, Nat.reduceMul, Nat.reduceLT, Nat.reduceLeDiff, Nat.reduceEqDiff, true_and, and_true, true_implies, if_true, if_false, ite_true, reduceIte, ne_eq, not_false_eq_true, reduceCtorEq, forall_const, bne_self_eq_false, Bool.true_eq_false, Bool.false_eq_true, false_implies, and_self, implies_true, Int.toNat_zero, beq_self_eq_true, decide_true, decide_false, Bool.not_true, Bool.not_false, ↓y_lookv, y_key1, y_mlook, y_mlookn, y_mres1, y_mres0, ↓y_call, ↓y_adq0, ↓y_adq, ↓y_stepQ_call, ↓y_adq_onT, ↓y_adq_onF, ↓y_adq_onS, drawPost, isCall, isNew, isEff, Option.toList, or_false, false_or, cond_true, cond_false, not_true_eq_false, or_true, true_or, Nat.add_left_cancel_iff, Bool.false_eq_true, ↓y_q0, ↓y_q1, ↓y_q1e, y_qn, isMap, ↓y_lookvM, ↓y_atm_loc, getD_set_ne, getD_set_eq, g29, l9, l29, hk2, hl2, hm1, gt, n9, n9', n29, n29', hki, hl1, hmi, not_false_eq_true]
          refine adrawq hmix (List.replicate 6 [] ++ [[n + t]]) ?_
          simp (maxSteps := 400000) -implicitDefEqProofs only [↓symPre, symPost, y_condP, y_condG, run, lver, minD, intsD, eqAll, tupD, splice, Nat.zero_add, Nat.add_zero, Nat.zero_mul, Nat.mul_one, Nat.one_mul, Nat.reduceAdd, Nat.reduceSub, Nat.reduceMul, Nat.reduceLT, Nat.reduceLeDiff, Nat.reduceEqDiff, true_and, and_true, true_implies, if_true, if_false, ite_true, reduceIte, ne_eq, not_false_eq_true, reduceCtorEq, forall_const, bne_self_eq_false, Bool.true_eq_false, Bool.false_eq_true, false_implies, and_self, implies_true, Int.toNat_zero, beq_self_eq_true, decide_true, decide_false, Bool.not_true, Bool.not_false, ↓y_lookv, y_key1, y_mlook, y_mlookn, y_mres1, y_mres0, ↓y_call, ↓y_adq0, ↓y_adq, ↓y_stepQ_call, ↓y_adq_onT, ↓y_adq_onF, ↓y_adq_onS, drawPost, isCall, isNew, isEff, Option.toList, or_false, false_or, cond_true, cond_false, not_true_eq_false, or_true, true_or, Nat.add_left_cancel_iff, Bool.false_eq_true, ↓y_q0, ↓y_q1, ↓y_q1e, y_qn, isMap, ↓y_lookvM, ↓y_atm_loc, getD_set_ne, getD_set_eq, g29, l9, l29, hk2, hl2, hm1, gt, n9, n9', n29, n29', hki, hl1, hmi, not_false_eq_true, List.replicate, List.cons_append, List.nil_append, List.getD_cons_succ, List.getD_cons_zero, hmp, w1]
          refine ⟨(i + 1, ks.set j (e.1, e.2 ++ [u])), ⟨by simp only; omega, hS', hF⟩, by simp only; omega, ?_⟩
          refine le_chk (fun j => 90 + j) hl ?_ ?_ ?_ ?_ ?_ (fun a b ha hb hab => by simpa using hab) (fun a ha => by show 90 + a ≠ 2 ∧ 90 + a ≠ 3 ∧ 90 + a ≠ 29; omega)
          · simp only [List.replicate, List.cons_append, List.nil_append, slc_top, Int.cast_ofNat_Int]
            repeat (first | rw [slc_top] | refine slc_2 ?_ | refine slc_3 ?_ | refine slc_m ?_ | refine slc_low (by first | assumption | exact Bd.int _ _) ?_)
            exact trivial
          · simp only [getD_set_ne, n2', g2', Nat.reduceEqDiff, not_false_eq_true]
          · simp only [getD_set_ne, n3', g3', Nat.reduceEqDiff, not_false_eq_true]
          · simp only [getD_set_ne, n29, g29, Nat.reduceEqDiff, not_false_eq_true]
            rw [hupd]
          · intro j' e' hj'
            by_cases hjj : j = j'
            · subst hjj
              rw [List.getElem?_set_self hjl] at hj'
              injection hj' with hj'
              subst hj'
              rw [← ht, getD_set_eq (by simp only [List.length_set]; omega)]
            · rw [List.getElem?_set_ne hjj] at hj'
              have := gi' j' e' hj'
              have hne : ¬ t = 90 + j' := by omega
              have hne9 : ¬ 9 = 90 + j' := by omega
              simp only [getD_set_ne, hne, hne9, not_false_eq_true, this]
      · have hnd : eqE s g i = 0 := by
          rw [hB, if_neg]
          intro hany
          obtain ⟨p, hp, hpp⟩ := List.any_eq_true.1 hany
          have hpp := of_decide_eq_true hpp
          obtain ⟨e', he', h1, h2⟩ := (hS.iff v w u).2 ⟨p, hp, hpp.2.1, hpp.2.2, hpp.1⟩
          exact hno e' he' h1
        rw [hFs, hnd, if_pos rfl] at hF
        have hS' := hNew hno
        have hoE := outE_no (n := n) (src := fun j => 90 + j) (j := 0) hno
        have hm0 := mget_no hoE
        have hp0 := mput_no (v := .map (n + 52) 1) hoE
        have hk2' : klen 2 (outE n (fun j => 90 + j) 0 ks ++ [([v, w], .map (n + 52) 1)]) = true := by
          simp only [klen, List.all_append, Bool.and_eq_true]
          exact ⟨hk2, rfl⟩
        have hm2 : mget (outE n (fun j => 90 + j) 0 ks ++ [([v, w], .map (n + 52) 1)]) [v, w] = some (.map (n + 52) 1) := by
          rw [← hp0, mget_mput, if_pos rfl]
        have hk0 : klen 1 [] = true := rfl
        have hg0 : mget [] [u] = none := rfl
        have hq0 : mput [] [u] (.bool true) = inE [u] := rfl
        have hsn := outE_snoc n (fun j => if j < ks.length then 90 + j else 52) ((v, w), [u]) ks 0
        have hcg := outE_congr n (fun j => 90 + j) (fun j => if j < ks.length then 90 + j else 52) ks 0 (fun i hi => by simp only [Nat.zero_add]; rw [if_pos hi])
        rw [← hcg] at hsn
        simp only [Nat.zero_add, Nat.lt_irrefl, if_false] at hsn
        rw [show kyE ((v, w), [u]) = [v, w] from rfl] at hsn
        generalize hEg : outE n (fun j => 90 + j) 0 ks = E at *
        generalize hEg2 : E ++ [([v, w], .map (n + 52) 1)] = E2 at *
        generalize hI : inE [u] = I at *
        simp -implicitDefEqProofs only [↓symPre, symPost, y_condP, y_condG, run, lver, minD, intsD, eqAll, tupD, splice, Nat.zero_add, Nat.add_zero, Nat.zero_mul, Nat.mul_one, Nat.one_mul, Nat.reduceAdd, Nat.reduceSub, Nat.reduceMul, Nat.reduceLT, Nat.reduceLeDiff, Nat.reduceEqDiff, true_and, and_true, true_implies, if_true, if_false, ite_true, reduceIte, ne_eq, not_false_eq_true, reduceCtorEq, forall_const, bne_self_eq_false, Bool.true_eq_false, Bool.false_eq_true, false_implies, and_self, implies_true, Int.toNat_zero, beq_self_eq_true, decide_true, decide_false, Bool.not_true, Bool.not_false, ↓y_lookv, y_key1, y_mlook, y_mlookn, y_mres1, y_mres0, ↓y_call, f1, f0, decide_true, List.length_map, Int.toNat_natCast, e0, g2, g3, g9, g29, g52, l9, l29, l52, getD_set_ne, getD_set_eq, List.length_set, not_false_eq_true, eqD_cells]
        refine pe1.call rfl ?_
        simp -implicitDefEqProofs only [↓symPre, symPost, y_condP, y_condG, run, lver, minD, intsD, eqAll, tupD, splice, Nat.zero_add, Nat.add_zero, Nat.zero_mul, Nat.mul_one, Nat.one_mul, Nat.reduceAdd, Nat.reduceSub, Nat.reduceMul, Nat.reduceLT, Nat.reduceLeDiff, Nat.reduceEqDiff, true_and, and_true, true_implies, if_true, if_false, ite_true, reduceIte, ne_eq, not_false_eq_true, reduceCtorEq, forall_const, bne_self_eq_false, Bool.true_eq_false, Bool.false_eq_true, false_implies, and_self, implies_true, Int.toNat_zero, beq_self_eq_true, decide_true, decide_false, Bool.not_true, Bool.not_false, ↓y_lookv, y_key1, y_mlook, y_mlookn, y_mres1, y_mres0, ↓y_call, b3, ↓y_lookvM, ↓y_atm_loc, getD_set_ne, getD_set_eq, g29, g52, l9, l29, l52, List.length_set, hk2, hl2, hm0, hp0, not_false_eq_true]
        refine adrawq hmix [] ?_
        simp (maxSteps := 400000) -implicitDefEqProofs only [↓symPre, symPost, y_condP, y_condG, run, lver, minD, intsD, eqAll, tupD, splice, Nat.zero_add, Nat.add_zero, Nat.zero_mul, Nat.mul_one, Nat.one_mul, Nat.reduceAdd, Nat.reduceSub, Nat.reduceMul, Nat.reduceLT, Nat.reduceLeDiff, Nat.reduceEqDiff, true_and, and_true, true_implies, if_true, if_false, ite_true, reduceIte, ne_eq, not_false_eq_true, reduceCtorEq, forall_const, bne_self_eq_false, Bool.true_eq_false, Bool.false_eq_true, false_implies, and_self, implies_true, Int.toNat_zero, beq_self_eq_true, decide_true, decide_false, Bool.not_true, Bool.not_false, ↓y_lookv, y_key1, y_mlook, y_mlookn, y_mres1, y_mres0, ↓y_call, ↓y_adq0, ↓y_adq, ↓y_stepQ_call, ↓y_adq_onT, ↓y_adq_onF, ↓y_adq_onS, drawPost, isCall, isNew, isEff, Option.toList, or_false, false_or, cond_true, cond_false, not_true_eq_false, or_true, true_or, Nat.add_left_cancel_iff, Bool.false_eq_true, ↓y_q0, ↓y_q1, ↓y_q1e, y_qn, isMap, ↓y_lookvM, ↓y_atm_loc, getD_set_ne, getD_set_eq, l9, l29, l52, List.length_set, hk2', hl2, hm2, hk0, hl1, hg0, not_false_eq_true]
        refine adrawq hmix (List.replicate 6 [] ++ [[n + 52]]) ?_
        simp (maxSteps := 400000) -implicitDefEqProofs only [↓symPre, symPost, y_condP, y_condG, run, lver, minD, intsD, eqAll, tupD, splice, Nat.zero_add, Nat.add_zero, Nat.zero_mul, Nat.mul_one, Nat.one_mul, Nat.reduceAdd, Nat.reduceSub, Nat.reduceMul, Nat.reduceLT, Nat.reduceLeDiff, Nat.reduceEqDiff, true_and, and_true, true_implies, if_true, if_false, ite_true, reduceIte, ne_eq, not_false_eq_true, reduceCtorEq, forall_const, bne_self_eq_false, Bool.true_eq_false, Bool.false_eq_true, false_implies, and_self, implies_true, Int.toNat_zero, beq_self_eq_true, decide_true, decide_false, Bool.not_true, Bool.not_false, ↓y_lookv, y_key1, y_mlook, y_mlookn, y_mres1, y_mres0, ↓y_call, ↓y_adq0, ↓y_adq, ↓y_stepQ_call, ↓y_adq_onT, ↓y_adq_onF, ↓y_adq_onS, drawPost, isCall, isNew, isEff, Option.toList, or_false, false_or, cond_true, cond_false, not_true_eq_false, or_true, true_or, Nat.add_left_cancel_iff, Bool.false_eq_true, ↓y_q0, ↓y_q1, ↓y_q1e, y_qn, isMap, ↓y_lookvM, ↓y_atm_loc, getD_set_ne, getD_set_eq, l9, l29, l52, List.length_set, hk2', hl2, hm2, hk0, hl1, hg0, not_false_eq_true, List.replicate, List.cons_append, List.nil_append, List.getD_cons_succ, List.getD_cons_zero, hq0, w1]
        refine ⟨(i + 1, ks ++ [((v, w), [u])]), ⟨by simp only; omega, hS', hF⟩, by simp only; omega, ?_⟩
        refine le_chk (fun j => if j < ks.length then 90 + j else 52) hl ?_ ?_ ?_ ?_ ?_ (fun a b ha hb hab => ?_) (fun a ha => ?_)
        · simp only [List.replicate, List.cons_append, List.nil_append, slc_top, Int.cast_ofNat_Int]
          repeat (first | rw [slc_top] | refine slc_2 ?_ | refine slc_3 ?_ | refine slc_m ?_ | refine slc_low (by first | assumption | exact Bd.int _ _) ?_)
          exact trivial
        · simp only [getD_set_ne, g2', Nat.reduceEqDiff, not_false_eq_true]
        · simp only [getD_set_ne, g3', Nat.reduceEqDiff, not_false_eq_true]
        · simp only [getD_set_ne, getD_set_eq, List.length_set, l29, Nat.reduceEqDiff, not_false_eq_true]
          rw [hsn]
        · intro j' e' hj'
          by_cases hjj : j' < ks.length
          · rw [List.getElem?_append_left hjj] at hj'
            have := gi j' e' hj'
            have hne : ¬ 52 = 90 + j' := by omega
            have hne9 : ¬ 9 = 90 + j' := by omega
            have hne29 : ¬ 29 = 90 + j' := by omega
            simp only [hjj, if_true, getD_set_ne, hne, hne9, hne29, not_false_eq_true, this]
          · have h1 := (List.getElem?_eq_some_iff.1 hj').1
            have : j' = ks.length := by simp at h1; omega
            subst this
            rw [List.getElem?_append_right (Nat.le_refl _), Nat.sub_self, List.getElem?_cons_zero] at hj'
            injection hj' with hj'
            subst hj'
            simp only [Nat.lt_irrefl, if_false, getD_set_eq, List.length_set, l52, hI]
        · simp only [List.length_append, List.length_singleton] at ha hb hab
          split at hab <;> split at hab <;> omega
        · show (if a < ks.length then 90 + a else 52) ≠ 2 ∧ (if a < ks.length then 90 + a else 52) ≠ 3 ∧ (if a < ks.length then 90 + a else 52) ≠ 29
          split <;> omega
    · have f1 : ¬ (i : Int) < (s.eqs.length : Int) := by omega
      obtain rfl : i = s.eqs.length := by omega
      rw [firstNZ_end] at hF
      rw [← hF, if_neg (by simp)] at hC
      rw [List.take_length] at hS
      clear hF
      have hIs : ∀ (rr ka aa : Nat), isEq s rr ka aa = true ↔ ∃ e ∈ ks, e.1 = ((ka : Int), (aa : Int)) ∧ (rr : Int) ∈ e.2 := fun rr ka aa => by
        rw [hS.iff, isEq, List.any_eq_true]
        exact ⟨fun ⟨q, hq, h⟩ => have h := of_decide_eq_true h; ⟨q, hq, h.2.1, h.2.2, h.1⟩, fun ⟨q, hq, h1, h2, h3⟩ => ⟨q, hq, decide_eq_true ⟨h3, h1, h2⟩⟩⟩
      have hL := @chkL_getD n g s ks
      have g2 : (chkL n g s ks).getD 2 blk0 = ⟨1, .cells (gramC g)⟩ := hL (by omega)
      have g3 : (chkL n g s ks).getD 3 blk0 = ⟨1, .cells (sysC s)⟩ := hL (by omega)
      have g13 : (chkL n g s ks).getD 13 blk0 = blk0 := hL (by omega)
      have g29 : (chkL n g s ks).getD 29 blk0 = ⟨1, .map (outE n (fun j => 90 + j) 0 ks)⟩ := hL (by omega)
      have gi : ∀ j e, ks[j]? = some e → (chkL n g s ks).getD (90 + j) blk0 = ⟨1, .map (inE e.2)⟩ := fun j e hj => by
        have hjl := (List.getElem?_eq_some_iff.1 hj).1
        rw [hL (by omega), chkB, if_neg (by omega), if_neg (by omega), if_neg (by omega), if_pos (by omega), show 90 + j - 90 = j by omega]
        simp [List.getD, hj]
      have gln := chkL_len n g s ks
      have l13 : 13 < (chkL n g s ks).length := by omega
      have hk2 := klen_outE n (fun j => 90 + j) ks 0
      have hmg := fun j e => mget_outE (n := n) (src := fun j => 90 + j) hS.dist (i := j) (e := e)
      have hno := fun (a b : Int) (h : ∀ e ∈ ks, e.1 ≠ (a, b)) => mget_no (outE_no (n := n) (src := fun j => 90 + j) (j := 0) h)
      have fin4 := fun sl sl' lc hs g2 g3 g29 gi => @le_chk n sl sl' h lc g s ks (fun j => 90 + j) hl hs g2 g3 g29 gi (fun a b ha hb hab => by simpa using hab) (fun a ha => by show 90 + a ≠ 2 ∧ 90 + a ≠ 3 ∧ 90 + a ≠ 29; omega)
      have g2' := g2
      have g3' := g3
      rw [hgC] at g2
      rw [hsC] at g3
      generalize chkL n g s ks = L at *
      generalize outE n (fun j => 90 + j) 0 ks = E at *
      simp -implicitDefEqProofs only [↓symPre, symPost, y_condP, y_condG, run, lver, minD, intsD, eqAll, tupD, splice, Nat.zero_add, Nat.add_zero, Nat.zero_mul, Nat.mul_one, Nat.one_mul, Nat.reduceAdd, Nat.reduceSub, Nat.reduceMul, Nat.reduceLT, Nat.reduceLeDiff, Nat.reduceEqDiff, true_and, and_true, true_implies, if_true, if_false, ite_true, reduceIte, ne_eq, not_false_eq_true, reduceCtorEq, forall_const, bne_self_eq_false, Bool.true_eq_false, Bool.false_eq_true, false_implies, and_self, implies_true, Int.toNat_zero, beq_self_eq_true, decide_true, decide_false, Bool.not_true, Bool.not_false, ↓y_lookv, y_key1, y_mlook, y_mlookn, y_mres1, y_mres0, ↓y_call, f1, decide_false, g2, List.length_map]
      refine aloop (fun p : Nat => St.mk n ([.top, .top, .ptr (n + 2) 1 0, .ptr (n + 3) 1 0, .top, .top, .top, .map (n + 29) 1] ++ List.replicate 60 .top ++ [.lst (g.rules.map ruleD), .int .i64 g.rules.length, .int .i64 p] ++ List.replicate 19 .top) h L)
        (fun p => p ≤ g.rules.length ∧ firstNZ (lackN s g) p (g.rules.length - p) = firstNZ (lackN s g) 0 g.rules.length) (fun p => g.rules.length - p) 0 ⟨Nat.zero_le _, rfl⟩ ?_ ?_
      · refine fin4 _ _ _ ?_ g2' g3' g29 gi
        simp only [List.replicate, List.cons_append, List.nil_append, slc_top, Int.cast_ofNat_Int]
        repeat (first | rw [slc_top] | refine slc_2 ?_ | refine slc_3 ?_ | refine slc_m ?_ | refine slc_low (by first | assumption | exact Bd.int _ _) ?_)
        exact trivial
      · rintro p ⟨hp, hF⟩
        by_cases hpl : p < g.rules.length
        · have p1 : (p : Int) < (g.rules.length : Int) := by omega
          have wp : IntKind.i64.wrap ((p : Int) + 1) = ((p + 1 : Nat) : Int) := by rw [IntWalk.i64_in _ (by omega)]; omega
          have hFs := firstNZ_step (f := lackN s g) hpl
          have po1 := po p hpl
          have hla1 : lackN s g p = if (occL s g p ((g.rules.getD p ru0).right.length + 1)).any (fun o => !isEq s p o.1 o.2) = true then 5 else 0 := rfl
          have hol : (occL s g p ((g.rules.getD p ru0).right.length + 1)).length < 2 ^ 60 := by
            have h1 := occL_len s g p ((g.rules.getD p ru0).right.length + 1)
            have h2 : (g.rules.getD p ru0).right.length < 2 ^ 20 := by
              have : g.rules.getD p ru0 = g.rules[p] := by simp [List.getD, hpl]
              rw [this]; exact hx _ (List.getElem_mem hpl)
            have h3 : ((g.rules.getD p ru0).right.length + 1) * s.attrs.length ≤ 2 ^ 20 * 2 ^ 21 := Nat.mul_le_mul (by omega) (by omega)
            omega
          generalize occL s g p ((g.rules.getD p ru0).right.length + 1) = O at *
          have hlo : Low n (.lst (O.map refD)) := low_lstF refD (low_refD n) O
          simp -implicitDefEqProofs only [↓symPre, symPost, y_condP, y_condG, run, lver, minD, intsD, eqAll, tupD, splice, Nat.zero_add, Nat.add_zero, Nat.zero_mul, Nat.mul_one, Nat.one_mul, Nat.reduceAdd, Nat.reduceSub, Nat.reduceMul, Nat.reduceLT, Nat.reduceLeDiff, Nat.reduceEqDiff, true_and, and_true, true_implies, if_true, if_false, ite_true, reduceIte, ne_eq, not_false_eq_true, reduceCtorEq, forall_const, bne_self_eq_false, Bool.true_eq_false, Bool.false_eq_true, false_implies, and_self, implies_true, Int.toNat_zero, beq_self_eq_true, decide_true, decide_false, Bool.not_true, Bool.not_false, ↓y_lookv, y_key1, y_mlook, y_mlookn, y_mres1, y_mres0, ↓y_call, p1, decide_true, g2, g3, List.length_map]
          refine po1.call rfl ?_
          simp -implicitDefEqProofs only [↓symPre, symPost, y_condP, y_condG, run, lver, minD, intsD, eqAll, tupD, splice, Nat.zero_add, Nat.add_zero, Nat.zero_mul, Nat.mul_one, Nat.one_mul, Nat.reduceAdd, Nat.reduceSub, Nat.reduceMul, Nat.reduceLT, Nat.reduceLeDiff, Nat.reduceEqDiff, true_and, and_true, true_implies, if_true, if_false, ite_true, reduceIte, ne_eq, not_false_eq_true, reduceCtorEq, forall_const, bne_self_eq_false, Bool.true_eq_false, Bool.false_eq_true, false_implies, and_self, implies_true, Int.toNat_zero, beq_self_eq_true, decide_true, decide_false, Bool.not_true, Bool.not_false, ↓y_lookv, y_key1, y_mlook, y_mlookn, y_mres1, y_mres0, ↓y_call, List.length_map]
          refine aloop (fun q : Nat => St.mk n ([.top, .top, .ptr (n + 2) 1 0, .ptr (n + 3) 1 0, .top, .top, .top, .map (n + 29) 1] ++ List.replicate 3 .top ++ [.int .i64 p] ++ List.replicate 56 .top ++ [.lst (g.rules.map ruleD), .int .i64 g.rules.length, .int .i64 p] ++ List.replicate 5 .top ++ [.lst (O.map refD), .int .i64 O.length, .int .i64 q] ++ List.replicate 11 .top) h L)
            (fun q => q ≤ O.length ∧ (O.take q).any (fun o => !isEq s p o.1 o.2) = false) (fun q => O.length - q) 0 ⟨Nat.zero_le _, by simp⟩ ?_ ?_
          · refine fin4 _ _ _ ?_ g2' g3' g29 gi
            simp only [List.replicate, List.cons_append, List.nil_append, slc_top, Int.cast_ofNat_Int]
            repeat (first | rw [slc_top] | refine slc_2 ?_ | refine slc_3 ?_ | refine slc_m ?_ | refine slc_low (by first | assumption | exact Bd.int _ _) ?_)
            exact trivial
          · rintro q ⟨hq, hno'⟩
            by_cases hql : q < O.length
            · have q1 : (q : Int) < (O.length : Int) := by omega
              have q0 : (0 : Int) ≤ (q : Int) := by omega
              have wq : IntKind.i64.wrap ((q : Int) + 1) = ((q + 1 : Nat) : Int) := by rw [IntWalk.i64_in _ (by omega)]; omega
              have e0 := nth_mapF refD O q hql
              have htk := List.take_succ_eq_append_getElem hql
              have hmem : O[q] ∈ O := List.getElem_mem hql
              generalize O[q] = o at *
              obtain ⟨ka, aa⟩ := o
              rw [show refD (ka, aa) = .agg [.int .i64 ka, .int .i64 aa] from rfl] at e0
              have hl2 : ([(ka : Int), (aa : Int)] : List Int).length = 2 := rfl
              have hl1 : ([(p : Int)] : List Int).length = 1 := rfl
              have bad : isEq s p ka aa = false → lackN s g p = 5 := fun hb => by
                rw [hla1, if_pos (List.any_eq_true.2 ⟨_, hmem, by simp [hb]⟩)]
              have good : isEq s p ka aa = true → (O.take (q + 1)).any (fun o => !isEq s p o.1 o.2) = false := fun hb => by
                rw [htk, List.any_append, hno']; simp [hb]
              rcases Seen.key ks ka aa with ⟨j, e, hj, he⟩ | hnk
              · obtain ⟨t, ht⟩ : ∃ t, t = 90 + j := ⟨_, rfl⟩
                have hjl := (List.getElem?_eq_some_iff.1 hj).1
                have hm1 := hmg j e hj
                have hkey : kyE e = [(ka : Int), (aa : Int)] := by rw [kyE, he]
                have gt := gi j e hj
                simp only [← ht, hkey] at hm1 gt
                have n13 : ¬ 13 = t := by omega
                have hki := klen_inE e.2
                have hmi := mget_inE e.2 p
                by_cases hin : (p : Int) ∈ e.2
                · rw [if_pos hin] at hmi
                  have hgd := good ((hIs p ka aa).2 ⟨e, List.mem_of_getElem? hj, he, hin⟩)
                  generalize inE e.2 = I at *
                  simp -implicitDefEqProofs only [↓symPre, symPost, y_condP, y_condG, run, lver, minD, intsD, eqAll, tupD, splice, Nat.zero_add, Nat.add_zero, Nat.zero_mul, Nat.mul_one, Nat.one_mul, Nat.reduceAdd, Nat.reduceSub, Nat.reduceMul, Nat.reduceLT, Nat.reduceLeDiff, Nat.reduceEqDiff, true_and, and_true, true_implies, if_true, if_false, ite_true, reduceIte, ne_eq, not_false_eq_true, reduceCtorEq, forall_const, bne_self_eq_false, Bool.true_eq_false, Bool.false_eq_true, false_implies, and_self, implies_true, Int.toNat_zero, beq_self_eq_true, decide_true, decide_false, Bool.not_true, Bool.not_false, ↓y_lookv, y_key1, y_mlook, y_mlookn, y_mres1, y_mres0, ↓y_call, ↓y_lookvM, ↓y_atm_loc, q0, q1, decide_true, List.length_map, Int.toNat_natCast, e0, g13, l13, getD_set_ne, getD_set_eq, List.length_set, g29, hk2, hl2, hm1, gt, n13, hki, hl1, hmi, not_false_eq_true, wq]
                  refine ⟨q + 1, ⟨by omega, hgd⟩, by omega, ?_⟩
                  refine fin4 _ _ _ ?_ (by simp only [getD_set_ne, g2', Nat.reduceEqDiff, not_false_eq_true]) (by simp only [getD_set_ne, g3', Nat.reduceEqDiff, not_false_eq_true]) (by simp only [getD_set_ne, g29, Nat.reduceEqDiff, not_false_eq_true]) (fun j' e' hj' => by
                    have := gi j' e' hj'
                    have hne13 : ¬ 13 = 90 + j' := by omega
                    simp only [getD_set_ne, hne13, not_false_eq_true, this])
                  simp only [List.replicate, List.cons_append, List.nil_append, slc_top, Int.cast_ofNat_Int]
                  repeat (first | rw [slc_top] | refine slc_2 ?_ | refine slc_3 ?_ | refine slc_m ?_ | refine slc_low (by first | assumption | exact Bd.int _ _) ?_)
                  exact trivial
                · rw [if_neg hin] at hmi
                  have hbd := bad (by
                    rw [Bool.eq_false_iff]
                    intro hh
                    obtain ⟨e', he', h1, h2⟩ := (hIs p ka aa).1 hh
                    obtain ⟨j', hj'⟩ := List.mem_iff_getElem?.1 he'
                    have := hS.dist j' j e' e hj' hj (by rw [h1, he])
                    subst this
                    rw [hj] at hj'
                    injection hj' with hj'
                    subst hj'
                    exact hin h2)
                  generalize inE e.2 = I at *
                  rw [hFs, hbd, if_neg (by decide)] at hF
                  simp -implicitDefEqProofs only [↓symPre, symPost, y_condP, y_condG, run, lver, minD, intsD, eqAll, tupD, splice, Nat.zero_add, Nat.add_zero, Nat.zero_mul, Nat.mul_one, Nat.one_mul, Nat.reduceAdd, Nat.reduceSub, Nat.reduceMul, Nat.reduceLT, Nat.reduceLeDiff, Nat.reduceEqDiff, true_and, and_true, true_implies, if_true, if_false, ite_true, reduceIte, ne_eq, not_false_eq_true, reduceCtorEq, forall_const, bne_self_eq_false, Bool.true_eq_false, Bool.false_eq_true, false_implies, and_self, implies_true, Int.toNat_zero, beq_self_eq_true, decide_true, decide_false, Bool.not_true, Bool.not_false, ↓y_lookv, y_key1, y_mlook, y_mlookn, y_mres1, y_mres0, ↓y_call, ↓y_lookvM, ↓y_atm_loc, q0, q1, decide_true, List.length_map, Int.toNat_natCast, e0, g13, l13, getD_set_ne, getD_set_eq, List.length_set, g29, hk2, hl2, hm1, gt, n13, hki, hl1, hmi, not_false_eq_true, wq]
                  exact fin_int hl (by rw [hC, ← hF])
              · have hm0 := hno ka aa hnk
                have hbd := bad (by
                  rw [Bool.eq_false_iff]
                  intro hh
                  obtain ⟨e', he', h1, h2⟩ := (hIs p ka aa).1 hh
                  exact hnk e' he' h1)
                rw [hFs, hbd, if_neg (by decide)] at hF
                simp -implicitDefEqProofs only [↓symPre, symPost, y_condP, y_condG, run, lver, minD, intsD, eqAll, tupD, splice, Nat.zero_add, Nat.add_zero, Nat.zero_mul, Nat.mul_one, Nat.one_mul, Nat.reduceAdd, Nat.reduceSub, Nat.reduceMul, Nat.reduceLT, Nat.reduceLeDiff, Nat.reduceEqDiff, true_and, and_true, true_implies, if_true, if_false, ite_true, reduceIte, ne_eq, not_false_eq_true, reduceCtorEq, forall_const, bne_self_eq_false, Bool.true_eq_false, Bool.false_eq_true, false_implies, and_self, implies_true, Int.toNat_zero, beq_self_eq_true, decide_true, decide_false, Bool.not_true, Bool.not_false, ↓y_lookv, y_key1, y_mlook, y_mlookn, y_mres1, y_mres0, ↓y_call, ↓y_lookvM, ↓y_atm_loc, q0, q1, decide_true, List.length_map, Int.toNat_natCast, e0, g13, l13, getD_set_ne, getD_set_eq, List.length_set, g29, hk2, hl2, hm0, hl1, not_false_eq_true, wq]
                exact fin_int hl (by rw [hC, ← hF])
            · have q1 : ¬ (q : Int) < (O.length : Int) := by omega
              rw [List.take_of_length_le (by omega)] at hno'
              rw [hno', if_neg (by simp)] at hla1
              rw [hFs, hla1, if_pos rfl] at hF
              simp -implicitDefEqProofs only [↓symPre, symPost, y_condP, y_condG, run, lver, minD, intsD, eqAll, tupD, splice, Nat.zero_add, Nat.add_zero, Nat.zero_mul, Nat.mul_one, Nat.one_mul, Nat.reduceAdd, Nat.reduceSub, Nat.reduceMul, Nat.reduceLT, Nat.reduceLeDiff, Nat.reduceEqDiff, true_and, and_true, true_implies, if_true, if_false, ite_true, reduceIte, ne_eq, not_false_eq_true, reduceCtorEq, forall_const, bne_self_eq_false, Bool.true_eq_false, Bool.false_eq_true, false_implies, and_self, implies_true, Int.toNat_zero, beq_self_eq_true, decide_true, decide_false, Bool.not_true, Bool.not_false, ↓y_lookv, y_key1, y_mlook, y_mlookn, y_mres1, y_mres0, ↓y_call, q1, decide_false, wp]
              refine ⟨p + 1, ⟨by omega, hF⟩, by omega, ?_⟩
              refine fin4 _ _ _ ?_ g2' g3' g29 gi
              simp only [List.replicate, List.cons_append, List.nil_append, slc_top, Int.cast_ofNat_Int]
              repeat (first | rw [slc_top] | refine slc_2 ?_ | refine slc_3 ?_ | refine slc_m ?_ | refine slc_low (by first | assumption | exact Bd.int _ _) ?_)
              exact trivial
        · have p1 : ¬ (p : Int) < (g.rules.length : Int) := by omega
          obtain rfl : p = g.rules.length := by omega
          rw [firstNZ_end] at hF
          simp -implicitDefEqProofs only [↓symPre, symPost, y_condP, y_condG, run, lver, minD, intsD, eqAll, tupD, splice, Nat.zero_add, Nat.add_zero, Nat.zero_mul, Nat.mul_one, Nat.one_mul, Nat.reduceAdd, Nat.reduceSub, Nat.reduceMul, Nat.reduceLT, Nat.reduceLeDiff, Nat.reduceEqDiff, true_and, and_true, true_implies, if_true, if_false, ite_true, reduceIte, ne_eq, not_false_eq_true, reduceCtorEq, forall_const, bne_self_eq_false, Bool.true_eq_false, Bool.false_eq_true, false_implies, and_self, implies_true, Int.toNat_zero, beq_self_eq_true, decide_true, decide_false, Bool.not_true, Bool.not_false, ↓y_lookv, y_key1, y_mlook, y_mlookn, y_mres1, y_mres0, ↓y_call, p1, decide_false]
          exact fin_int hl (by rw [hC, ← hF])

end Abs
end Go.Proofs.Ytbdcklchcdkhbaa

/- The table: whole. -/
import Derived.Test.YtokdeeagghhliaaO17
import Derived.Test.YtokdeeagghhliaaO11
namespace Go.Proofs.Ytokdeeagghhliaa
namespace Abs
set_option linter.unusedVariables false
set_option linter.unusedSimpArgs false
set_option maxRecDepth 20000

/-- a grammar that gram.Check lets pass, and a pattern that hole.Check lets pass -/
structure okG (g : Gr) : Prop where
  terms : 1 ≤ g.terms ∧ g.terms ≤ 8
  nons : 1 ≤ g.nons ∧ g.nons ≤ 10
  start : 0 ≤ g.start ∧ g.start < g.nons
  len : g.rules.length ≤ 32
  rules : ∀ r ∈ g.rules, 0 ≤ r.left ∧ r.left < g.nons ∧ r.right.length ≤ 4 ∧ ∀ s ∈ r.right, okSy g.terms g.nons s
structure okP (g : Gr) (l : List Sy) : Prop where
  len : l.length ≤ 12
  cell : ∀ x ∈ l, (x.t = true → -1 ≤ x.n ∧ x.n < g.terms) ∧ (x.t = false → 0 ≤ x.n ∧ x.n < g.nons)

/-- the least words of the nonterminals, and those of the parts, as the program computes them -/
def initW (g : Gr) : List Wd := List.replicate g.nons.toNat wd0
def leastW (g : Gr) : List Wd := runW g.rules (sumMu 8 (initW g) + 1) (initW g)
def partsW (g : Gr) (l : List Sy) : Tb := runP (leastW g) l g.rules (sum3 8 (part0 g.nons.toNat (l.length + 1)) + 1) (part0 g.nons.toNat (l.length + 1))
def wholeW (g : Gr) (l : List Sy) : Wd := symW (leastW g) (partsW g l) l ⟨false, g.start⟩ 0 l.length

theorem okG.sym {g : Gr} (h : okG g) {s : Sy} (hs : okSy g.terms g.nons s) : symOk 8 g.nons.toNat s :=
  ⟨hs.1, fun ht => by have := hs.2.1 ht; have := h.terms; omega, fun ht => by have := hs.2.2 ht; have := h.nons; omega⟩
theorem okG.rule {g : Gr} (h : okG g) : ∀ r ∈ g.rules, r.right.length ≤ 4 ∧ (∀ x ∈ r.right, symOk 8 g.nons.toNat x) ∧ 0 ≤ r.left ∧ r.left < g.nons.toNat := fun r hr => by
  obtain ⟨h1, h2, h3, h4⟩ := h.rules r hr
  exact ⟨h3, fun x hx => h.sym (h4 x hx), h1, by omega⟩

theorem runW_good {B N : Nat} (hB : 1 ≤ B) {rs : List Ru} (hg : ∀ r ∈ rs, r.right.length ≤ 4 ∧ (∀ x ∈ r.right, symOk B N x) ∧ 0 ≤ r.left ∧ r.left < N) : ∀ (k : Nat) (ws : List Wd), GoodW B N ws → GoodW B N (runW rs k ws) := by
  have pass : ∀ (rs' : List Ru) (ws : List Wd), (∀ r ∈ rs', r ∈ rs) → GoodW B N ws → GoodW B N (passW ws rs') := fun rs' => by
    induction rs' with
    | nil => intro ws _ h; exact h
    | cons r rs' ih =>
      intro ws hr h
      obtain ⟨g1, g2, g3⟩ := hg r (hr r (by simp))
      exact ih (stepW ws r) (fun r' h' => hr r' (by simp [h'])) (h.step hB g1 g2 g3).1
  intro k
  induction k with
  | zero => intro ws h; exact h
  | succ k ih =>
    intro ws h
    rw [runW]
    split
    · exact ih _ (pass rs ws (fun _ h => h) h)
    · exact pass rs ws (fun _ h => h) h
theorem initW_good {g : Gr} (h : okG g) : GoodW 8 g.nons.toNat (initW g) := by
  refine ⟨by simp [initW], by have := h.nons; omega, fun x hx => ?_, fun x hx => ?_, fun x hx => ?_⟩ <;> (obtain ⟨_, rfl⟩ := List.mem_replicate.1 hx)
  · exact okW0
  · intro y hy; cases hy
  · show wd0.n ≤ _; exact Int.natCast_nonneg _
theorem leastW_good {g : Gr} (h : okG g) : GoodW 8 g.nons.toNat (leastW g) := runW_good (by omega) h.rule _ _ (initW_good h)
theorem okP.pat {g : Gr} {l : List Sy} (h : okG g) (hl : okP g l) : PatW 8 g.nons.toNat (leastW g) l :=
  ⟨leastW_good h, hl.len, fun x hx ht => by have := (hl.cell x hx).2 ht; have := h.nons; omega⟩
theorem runP_good {B N : Nat} (hB : 1 ≤ B) {ws : List Wd} {l : List Sy} (hw : PatW B N ws l) {rs : List Ru} (hg : ∀ r ∈ rs, (0 ≤ r.left ∧ r.left < N) ∧ ∀ x ∈ r.right, symOk B N x) : ∀ (k : Nat) (P : Tb), GoodP B ws l N P → GoodP B ws l N (runP ws l rs k P) := by
  have pass : ∀ P, GoodP B ws l N P → GoodP B ws l N (passP ws l rs P).1 := fun P h => by
    have := foldR_mid hB hw hg (P0 := P) (s := (P, false)) ⟨h, fun h => (by cases h), fun _ => rfl⟩ rs.length (Nat.le_refl _)
    rw [List.take_length] at this
    exact this.good
  intro k
  induction k with
  | zero => intro P h; exact h
  | succ k ih =>
    intro P h
    rw [runP]
    split
    · exact ih _ (pass P h)
    · exact pass P h
theorem partsW_good {g : Gr} {l : List Sy} (h : okG g) (hl : okP g l) : GoodP 8 (leastW g) l g.nons.toNat (partsW g l) :=
  runP_good (by omega) (hl.pat h) (fun r hr => ⟨(h.rule r hr).2.2, (h.rule r hr).2.1⟩) _ _ (part0_good rfl)
theorem okG.startS {g : Gr} (h : okG g) : symOk 8 g.nons.toNat ⟨false, g.start⟩ := ⟨h.start.1, fun h => (by cases h), fun _ => by have := h.start; show g.start < _; omega⟩
theorem wholeW_ok {g : Gr} {l : List Sy} (h : okG g) (hl : okP g l) : okW (wholeW g l) := (ent_sym (hl.pat h) (partsW_good h hl) h.startS (by omega) (by omega)).ok

set_option maxHeartbeats 2000000 in
theorem pure_whole (g : Gr) (l : List Sy) (hg : okG g) (hl' : okP g l) : Pure prog F_hole_whole [gramD g, .lst (l.map symD)] (wD (wholeW g l)) := by
  intro n h
  refine K_hole_whole.calls fun hl => ?_
  unfold C_hole_whole
  unfold gramD
  have h12 := hl'.len
  have hN : g.nons = g.nons.toNat := by have := hg.nons; omega
  have hW := fun (lc : List Blk) (he : lc.getD 9 blk0 = ⟨1, .cells (tabC g l .nils .nils)⟩) => at_words g l 8 (by have := hg.nons; omega) hg.nons.2 (by omega) (by have := hg.len; omega)
    (fun r hr => by obtain ⟨h1, h2, h3, h4⟩ := hg.rule r hr; exact ⟨h1, h2, h3, by omega⟩) .nils .nils (n := n + 21) (h := mrg n h lc) (b := n + 9) (ver := 1) (by omega) (by rw [mrg_loc]; exact he)
  simp -implicitDefEqProofs only [↓symPre, symPost, y_condP, y_condG, run, lver, minD, intsD, eqAll, tupD, splice, Nat.zero_add, Nat.add_zero, Nat.zero_mul, Nat.mul_one, Nat.one_mul, Nat.reduceAdd, Nat.reduceSub, Nat.reduceMul, Nat.reduceLT, Nat.reduceLeDiff, Nat.reduceEqDiff, true_and, and_true, true_implies, if_true, if_false, ite_true, reduceIte, ne_eq, not_false_eq_true, reduceCtorEq, forall_const, bne_self_eq_false, Bool.true_eq_false, Bool.false_eq_true, false_implies, and_self, implies_true, Int.toNat_zero, beq_self_eq_true, decide_true, decide_false, Bool.not_true, Bool.not_false, ↓y_lookv, y_key1, y_mlook, y_mlookn, y_mres1, y_mres0, ↓y_call]
  refine ACalls.one (r := .tup []) 9 ⟨1, .cells (tabC g l (.lst ((leastW g).map wD)) .nils)⟩ rfl rfl (by simp) (hW _ rfl) ?_
  simp -implicitDefEqProofs only [↓symPre, symPost, y_condP, y_condG, run, lver, minD, intsD, eqAll, tupD, splice, Nat.zero_add, Nat.add_zero, Nat.zero_mul, Nat.mul_one, Nat.one_mul, Nat.reduceAdd, Nat.reduceSub, Nat.reduceMul, Nat.reduceLT, Nat.reduceLeDiff, Nat.reduceEqDiff, true_and, and_true, true_implies, if_true, if_false, ite_true, reduceIte, ne_eq, not_false_eq_true, reduceCtorEq, forall_const, bne_self_eq_false, Bool.true_eq_false, Bool.false_eq_true, false_implies, and_self, implies_true, Int.toNat_zero, beq_self_eq_true, decide_true, decide_false, Bool.not_true, Bool.not_false, ↓y_lookv, y_key1, y_mlook, y_mlookn, y_mres1, y_mres0, ↓y_call]
  have hp := fun (lc : List Blk) (he : lc.getD 9 blk0 = ⟨1, .cells (tabC g l (.lst ((leastW g).map wD)) .nils)⟩) => at_parts g l (leastW g) .nils (B := 8) (N := g.nons.toNat) (n := n + 21) (h := mrg n h lc) (b := n + 9) (ver := 1) (by omega) (by rw [mrg_loc]; exact he) hN (hl'.pat hg) (by omega) (by have := hg.len; omega) hg.rule
  refine ACalls.one (r := .tup []) 9 ⟨1, .cells (tabC g l (.lst ((leastW g).map wD)) (partD (partsW g l)))⟩ rfl rfl (by simp) (hp _ rfl) ?_
  simp -implicitDefEqProofs only [↓symPre, symPost, y_condP, y_condG, run, lver, minD, intsD, eqAll, tupD, splice, Nat.zero_add, Nat.add_zero, Nat.zero_mul, Nat.mul_one, Nat.one_mul, Nat.reduceAdd, Nat.reduceSub, Nat.reduceMul, Nat.reduceLT, Nat.reduceLeDiff, Nat.reduceEqDiff, true_and, and_true, true_implies, if_true, if_false, ite_true, reduceIte, ne_eq, not_false_eq_true, reduceCtorEq, forall_const, bne_self_eq_false, Bool.true_eq_false, Bool.false_eq_true, false_implies, and_self, implies_true, Int.toNat_zero, beq_self_eq_true, decide_true, decide_false, Bool.not_true, Bool.not_false, ↓y_lookv, y_key1, y_mlook, y_mlookn, y_mres1, y_mres0, ↓y_call, List.length_map]
  have hs := fun (lc : List Blk) (he : lc.getD 9 blk0 = ⟨1, .cells (tabC g l (.lst ((leastW g).map wD)) (partD (partsW g l)))⟩) => at_symbol g l ⟨false, g.start⟩ 0 l.length (leastW g) (partsW g l) (.lst ((leastW g).map wD)) (partD (partsW g l)) (n := n + 21) (h := mrg n h lc) (b := n + 9) (ver := 1) (by omega) (by rw [mrg_loc]; exact he) (.inl rfl) (.inl rfl)
    (fun _ => ⟨hg.start.1, by have := (leastW_good hg).len; have := hg.start; simp only; omega, (partsW_good hg hl').inW (by have := hg.start; simp only; omega) (by omega) (by omega), ((partsW_good hg hl').ent _ 0 l.length (by have := hg.start; simp only; omega) (by omega) (by omega)).ok⟩) (by omega) (by omega) (by omega)
    (fun _ => (ent_cell (hl'.pat hg) hg.startS (by omega)).ok)
  refine ACalls.none0 rfl (hs _ rfl) ?_
  rw [show symW (leastW g) (partsW g l) l ⟨false, g.start⟩ 0 l.length = wholeW g l from rfl]
  obtain ⟨vo, vn, vw⟩ := wholeW g l
  unfold wD
  simp -implicitDefEqProofs only [↓symPre, symPost, y_condP, y_condG, run, lver, minD, intsD, eqAll, tupD, splice, Nat.zero_add, Nat.add_zero, Nat.zero_mul, Nat.mul_one, Nat.one_mul, Nat.reduceAdd, Nat.reduceSub, Nat.reduceMul, Nat.reduceLT, Nat.reduceLeDiff, Nat.reduceEqDiff, true_and, and_true, true_implies, if_true, if_false, ite_true, reduceIte, ne_eq, not_false_eq_true, reduceCtorEq, forall_const, bne_self_eq_false, Bool.true_eq_false, Bool.false_eq_true, false_implies, and_self, implies_true, Int.toNat_zero, beq_self_eq_true, decide_true, decide_false, Bool.not_true, Bool.not_false, ↓y_lookv, y_key1, y_mlook, y_mlookn, y_mres1, y_mres0, ↓y_call]
  exact fin_low hl (low_wD n ⟨vo, vn, vw⟩) ⟨rfl, rfl, rfl⟩

end Abs
end Go.Proofs.Ytokdeeagghhliaa

/- A copy in an array of its own; what value makes; calls. -/
import Derived.Test.YtoeehfnkcfeoaaaN6
namespace Go.Proofs.Ytoeehfnkcfeoaaa
namespace Abs
set_option linter.unusedVariables false
set_option linter.unusedSimpArgs false
set_option maxRecDepth 20000

/-- nil, held to be an empty slice of its own -/
theorem fin_nil0 {n : Nat} {sl : List D} {h : Heap} {lc : List Blk} {R : D → Heap → List Blk → Prop} {sz : Nat} (hl : LowH n h)
    (hR : R (.ref sz (n + 0) 1 0 0) h [⟨1, .cells []⟩]) : Fin (St.mk n sl h lc) R [.nils] := by
  refine ⟨hl, [.nil], [⟨1, .cells []⟩], _, ⟨rfl, ?_, ?_⟩, wk_nil (n := n) (i := 0) rfl rfl rfl, by simp, hR⟩
  · intro i x k h1 h2
    cases i with
    | zero => simp at h1 h2; subst h1; subst h2; exact Nat.le_refl _
    | succ i => simp at h1
  · intro i j t' h1 h2
    cases i <;> cases j <;> simp at h1 h2

theorem fresh_CloneR (A : List (Int × Int)) (hfit : A.length * 16 ≤ 140737488355328) : Fresh prog F_slices_Clone_attr_Ref_attr_Ref [.lst (A.map pairD)] 2 (cellsF pairD A) A.length := by
  intro n h
  refine K_slices_Clone_attr_Ref_attr_Ref.calls fun hl => ?_
  unfold C_slices_Clone_attr_Ref_attr_Ref
  by_cases hne : A = []
  · subst hne
    simp -implicitDefEqProofs only [↓symPre, symPost, y_condP, y_condG, run, lver, minD, intsD, eqAll, tupD, splice, Nat.zero_add, Nat.add_zero, Nat.zero_mul, Nat.mul_one, Nat.one_mul, Nat.reduceAdd, Nat.reduceSub, Nat.reduceMul, Nat.reduceLT, Nat.reduceLeDiff, Nat.reduceEqDiff, true_and, and_true, true_implies, if_true, if_false, ite_true, reduceIte, ne_eq, not_false_eq_true, reduceCtorEq, forall_const, bne_self_eq_false, Bool.true_eq_false, Bool.false_eq_true, false_implies, and_self, implies_true, Int.toNat_zero, beq_self_eq_true, decide_true, decide_false, Bool.not_true, Bool.not_false, ↓y_lookv, y_key1, y_mlook, y_mlookn, y_mres1, y_mres0, ↓y_call, srcOf, List.length_nil, List.map_nil, List.flatMap_nil, Nat.zero_le]
    exact ⟨⟨fin_nil0 hl ⟨rfl, 1, rfl, rfl⟩, by simp, fin_ref hl (t := 5) rfl (by omega) (by simp) ⟨rfl, 2, rfl, rfl⟩⟩, fun h => (h trivial).elim⟩
  · have hne' : ¬ A.map pairD = [] := by simpa using hne
    simp -implicitDefEqProofs only [↓symPre, symPost, y_condP, y_condG, run, lver, minD, intsD, eqAll, tupD, splice, Nat.zero_add, Nat.add_zero, Nat.zero_mul, Nat.mul_one, Nat.one_mul, Nat.reduceAdd, Nat.reduceSub, Nat.reduceMul, Nat.reduceLT, Nat.reduceLeDiff, Nat.reduceEqDiff, true_and, and_true, true_implies, if_true, if_false, ite_true, reduceIte, ne_eq, not_false_eq_true, reduceCtorEq, forall_const, bne_self_eq_false, Bool.true_eq_false, Bool.false_eq_true, false_implies, and_self, implies_true, Int.toNat_zero, beq_self_eq_true, decide_true, decide_false, Bool.not_true, Bool.not_false, ↓y_lookv, y_key1, y_mlook, y_mlookn, y_mres1, y_mres0, ↓y_call, hne', srcOf, List.length_map, pairs_sc, pairs_flat, pairs_one, Nat.zero_le, hfit]
    exact fin_ref hl (t := 5) rfl (by omega) (low_cellsF pairD (low_pairD n) A) ⟨rfl, 2, rfl, rfl⟩

/-! ### what value makes -/
def okX : Ex → Prop
  | .mk k _ _ _ xs => (k = 0 ∨ k = 1 ∨ k = 2 ∨ k = 3 ∨ (k = 4 ∧ 1 ≤ xs.length) ∨ (k = 5 ∧ xs.length = 2) ∨ (k = 6 ∧ xs.length = 3)) ∧ ∀ x ∈ xs, okX x
theorem okX_mk {k n a r : Int} {xs : List Ex} : okX (.mk k n a r xs) ↔ (k = 0 ∨ k = 1 ∨ k = 2 ∨ k = 3 ∨ (k = 4 ∧ 1 ≤ xs.length) ∨ (k = 5 ∧ xs.length = 2) ∨ (k = 6 ∧ xs.length = 3)) ∧ ∀ x ∈ xs, okX x := by rw [okX]
theorem leafF_ok (F : List (Int × Int)) (z : Int) (l : List Int) : okX (leafF F z l).1 ∧ sz (leafF F z l).1 = 1 := by
  unfold leafF
  split
  · exact ⟨okX_mk.2 ⟨.inl rfl, by simp⟩, by simp [sz_mk]⟩
  · exact ⟨okX_mk.2 ⟨.inr (.inl rfl), by simp⟩, by simp [sz_mk]⟩
theorem itF_ok {f : List Int → Ex × List Int} {b : Nat} (hf : ∀ l, okX (f l).1 ∧ sz (f l).1 ≤ b) : ∀ (m : Nat) (l : List Int), (∀ x ∈ (itF f m l).1, okX x) ∧ ((itF f m l).1.map sz).sum ≤ m * b
  | 0, l => by simp [itF]
  | m + 1, l => by
    obtain ⟨h1, h2⟩ := itF_ok hf m l
    obtain ⟨h3, h4⟩ := hf (itF f m l).2
    refine ⟨fun x hx => ?_, ?_⟩
    · rw [itF] at hx
      rcases List.mem_append.1 hx with hx | hx
      · exact h1 x hx
      · simp only [List.mem_singleton] at hx
        rw [hx]; exact h3
    · rw [itF]
      simp only [List.map_append, List.sum_append, List.map_cons, List.map_nil, List.sum_cons, List.sum_nil, Nat.add_mul]
      omega
theorem bnd_pos : ∀ d, 1 ≤ bnd d
  | 0 => Nat.le_refl _
  | d + 1 => by simp [bnd]
theorem valF_ok (F : List (Int × Int)) : ∀ (d : Nat) (l : List Int), okX (valF F d l).1 ∧ sz (valF F d l).1 ≤ bnd d
  | 0, l => by
    have := leafF_ok F (nextV l 7) (nextL l 7)
    exact ⟨this.1, by rw [valF, bnd]; omega⟩
  | d + 1, l => by
    have hb := bnd_pos (d + 1)
    by_cases hlf : nextV l 7 = 0 ∨ nextV l 7 = 1
    · have := leafF_ok F (nextV l 7) (nextL l 7)
      rw [valF, if_pos hlf]
      exact ⟨this.1, by omega⟩
    rw [valF, if_neg hlf]
    simp only
    have hr7 := nextV_range l 7
    have hr2 := nextV_range (nextL l 7) 2
    have hm : manyF (nextV l 7) (nextL l 7) = if nextV l 7 = 5 then 2 else if nextV l 7 = 6 then 3 else 1 + nextV (nextL l 7) 2 := rfl
    obtain ⟨h1, h2⟩ := itF_ok (f := valF F d) (b := bnd d) (fun l => valF_ok F d l) (manyF (nextV l 7) (nextL l 7)).toNat (nextL (nextL l 7) 2)
    have hlen := itF_len (f := valF F d) (manyF (nextV l 7) (nextL l 7)).toNat (nextL (nextL l 7) 2)
    generalize (itF (valF F d) (manyF (nextV l 7) (nextL l 7)).toNat (nextL (nextL l 7) 2)).1 = xs at *
    refine ⟨okX_mk.2 ⟨?_, h1⟩, ?_⟩
    · rw [hlen, hm]
      by_cases c5 : nextV l 7 = 5
      · rw [if_pos c5]; omega
      by_cases c6 : nextV l 7 = 6
      · rw [if_neg c5, if_pos c6]; omega
      rw [if_neg c5, if_neg c6]
      omega
    · rw [sz_mk, bnd]
      have hm3 : (manyF (nextV l 7) (nextL l 7)).toNat ≤ 3 := by rw [hm]; split <;> (try split) <;> omega
      have := Nat.mul_le_mul_right (bnd d) hm3
      omega

/-! ### calls -/
theorem at_value2 (F : List (Int × Int)) (hF : F.length < 2 ^ 30) (l : List Int) (hlen : l.length < 2 ^ 60) {n : Nat} {h : Heap} {b ver : Nat} (hb : b < n) (hh : h b = ⟨ver, .cells [iD l]⟩) :
    ACalls prog F_parlkeep4_value [.ptr b ver 0, .lst (F.map pairD), .int .i64 2] n h fun d h' x => x = [] ∧ h' = upd h b ⟨ver, .cells [iD (valF F 2 l).2]⟩ ∧ d = exD (valF F 2 l).1 :=
  at_value F hF 2 (Nat.le_refl _) l hlen hb hh

theorem occ_call {g : Gr} {As : List At} {X : D} {rule k : Nat} {inh : Bool} (hr : rule < g.rules.length) (hk : k ≤ (g.rules.getD rule ru0).right.length) (hx : (g.rules.getD rule ru0).right.length < 2 ^ 30) (hA : As.length < 2 ^ 30) {kI : Int} (hkI : kI = k)
    {N : Nat} {H : Heap} {s : St} {dst : Option Nat} {K : D → Chg → Prop} (hH : H = s.hp) (hK : ∀ A : List (Int × Int), A.length ≤ As.length → K (.lst (A.map pairD)) []) :
    ACalls prog F_parlkeep4_occurrences [.agg [.int .i64 g.terms, .int .i64 g.nons, .int .i64 g.start, .lst (g.rules.map ruleD)], .agg [.lst (As.map atD), X], .int .i64 rule, .int .i64 kI, .bool inh] N H (callK s dst K) := by
  subst hkI
  exact (at_occurrences g As X rule k inh hr hk hx hA N H).mono fun d h' x ⟨h1, h2, A, hA, hd⟩ => .inl ⟨[], by simp [St.inr], h2, by rw [h1, hH]; rfl, by rw [hd]; exact hK A hA⟩

theorem attrs_call {g : Gr} {nn : Nat} (hnn : g.nons = nn) (h4 : nn ≤ 4) {l : List Int} (hlen : l.length < 2 ^ 60) {n : Nat} {sl : List D} {h : Heap} {lc : List Blk} {N : Nat} {H : Heap} {dst : Option Nat} {K : D → Chg → Prop} {t ver : Nat}
    (hN : N = n + lc.length) (hH : H = mrg n h lc) (ht : lc[t]? = some ⟨ver, .cells [iD l]⟩) (hK : ∀ (A : List At) (l' : List Int), A.length ≤ 8 → l'.length ≤ l.length → K (.lst (A.map atD)) [(n + t, ⟨ver, .cells [iD l']⟩)]) :
    ACalls prog F_parlkeep4_attributes [.agg [.int .i64 g.terms, .int .i64 g.nons, .int .i64 g.start, .lst (g.rules.map ruleD)], .ptr (n + t) ver 0] N H (callK (St.mk n sl h lc) dst K) := by
  have hlt : t < lc.length := (List.getElem?_eq_some_iff.1 ht).1
  subst hN; subst hH
  exact (at_attributes g nn hnn h4 l hlen (by omega) (by rw [mrg_loc]; simp [List.getD, ht])).mono fun d h' x ⟨h1, A, l', h2, h3, h4, h5⟩ =>
    .inl ⟨[(n + t, ⟨ver, .cells [iD l']⟩)], by simp [St.inr]; omega, h1, by rw [h5]; rfl, by rw [h4]; exact hK A l' h2 h3⟩

end Abs
end Go.Proofs.Ytoeehfnkcfeoaaa

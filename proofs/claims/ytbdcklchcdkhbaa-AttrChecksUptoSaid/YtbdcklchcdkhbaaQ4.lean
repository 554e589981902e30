/- Slots of which less is told; maps; System.attrs. -/
import Derived.Test.YtbdcklchcdkhbaaQ3
namespace Go.Proofs.Ytbdcklchcdkhbaa
namespace Abs
set_option linter.unusedVariables false
set_option linter.unusedSimpArgs false
set_option maxRecDepth 20000

/-- slots of which less is told -/
def Tops : List D → List D → Prop
  | [], [] => True
  | d :: l, d' :: l' => (d' = .top ∨ d' = d) ∧ Tops l l'
  | _, _ => False
theorem Tops.len : ∀ {l l' : List D}, Tops l l' → l'.length = l.length
  | [], [], _ => rfl
  | d :: l, d' :: l', h => by simp only [List.length_cons, Tops.len h.2]
  | [], _ :: _, h => h.elim
  | _ :: _, [], h => h.elim
theorem Tops.get : ∀ {l l' : List D}, Tops l l' → ∀ (t : Nat) (d d' : D), l[t]? = some d → l'[t]? = some d' → d' = .top ∨ d' = d
  | [], [], _, t, d, d', h, _ => by simp at h
  | a :: l, a' :: l', h, 0, d, d', h1, h2 => by
    simp at h1 h2; subst h1; subst h2; exact h.1
  | a :: l, a' :: l', h, t + 1, d, d', h1, h2 => Tops.get h.2 t d d' (by simpa using h1) (by simpa using h2)
theorem Tops.refl : ∀ l : List D, Tops l l
  | [] => trivial
  | d :: l => ⟨.inr rfl, Tops.refl l⟩
theorem tops_top (d : D) (l l' : List D) : Tops (d :: l) (.top :: l') = Tops l l' := by simp [Tops]
theorem tops_same (d : D) (l l' : List D) : Tops (d :: l) (d :: l') = Tops l l' := by simp [Tops]
theorem tops_nil : Tops [] [] = True := rfl
theorem le_tops {n : Nat} {sl sl' : List D} {h : Heap} {lc : List Blk} (ht : Tops sl sl') : Le (St.mk n sl h lc) (St.mk n sl' h lc) := by
  refine ⟨rfl, fun a w M hs => ⟨M, ⟨hs.defers, hs.size.trans ht.len.symm, fun t d' v hd' hv => ?_, hs.sim⟩, .refl ..⟩⟩
  have hlt : t < sl.length := by rw [← ht.len]; exact (List.getElem?_eq_some_iff.1 hd').1
  rcases ht.get t _ d' (nth_get hlt) hd' with rfl | rfl
  · exact .top _
  · exact hs.sl t _ v (nth_get hlt) hv


/-! ### maps -/
theorem mget_mput (es : List (List Int × D)) (k k' : List Int) (v : D) : mget (mput es k v) k' = if k' = k then some v else mget es k' := by
  induction es with
  | nil =>
    by_cases h : k' = k
    · subst h; simp [mput, mget]
    · have h' : ¬ k = k' := fun e => h e.symm
      simp [mput, mget, h, h']
  | cons e es ih =>
    obtain ⟨ek, ev⟩ := e
    by_cases he : ek = k
    · subst he
      by_cases h : k' = ek
      · subst h; simp [mput, mget]
      · have h' : ¬ ek = k' := fun e => h e.symm
        simp [mput, mget, List.find?_cons, h, h']
    · have hb : (ek == k) = false := by simp [he]
      by_cases h : ek = k'
      · subst h
        have h2 : ¬ ek = k := he
        simp [mput, mget, hb, h2]
      · have hb' : (ek == k') = false := by simp [h]
        simp only [mput, hb, Bool.false_eq_true, if_false, mget, List.find?_cons, hb'] at ih ⊢
        exact ih
theorem klen_mput {n : Nat} {es : List (List Int × D)} {k : List Int} {v : D} (h : klen n es = true) (hk : k.length = n) : klen n (mput es k v) = true := by
  induction es with
  | nil => simp [mput, klen, hk]
  | cons e es ih =>
    simp only [klen, List.all_cons, Bool.and_eq_true, beq_iff_eq] at h
    by_cases he : (e.1 == k) = true
    · simp only [mput, he, if_true, klen, List.all_cons, Bool.and_eq_true, beq_iff_eq]
      exact ⟨hk, h.2⟩
    · simp only [mput, he, Bool.false_eq_true, if_false, klen, List.all_cons, Bool.and_eq_true, beq_iff_eq]
      exact ⟨h.1, ih h.2⟩

/-! ### the first fault -/
def firstNZ (f : Nat → Int) : Nat → Nat → Int
  | _, 0 => 0
  | i, k + 1 => if f i = 0 then firstNZ f (i + 1) k else f i
theorem firstNZ_step {f : Nat → Int} {i n : Nat} (hi : i < n) : firstNZ f i (n - i) = if f i = 0 then firstNZ f (i + 1) (n - (i + 1)) else f i := by
  obtain ⟨k, hk⟩ : ∃ k, n - i = k + 1 := ⟨n - i - 1, by omega⟩
  rw [hk, firstNZ, show n - (i + 1) = k by omega]
theorem firstNZ_end {f : Nat → Int} {n : Nat} : firstNZ f n (n - n) = 0 := by rw [Nat.sub_self]; rfl

def cntA (l : List At) (i : Nat) (v : Int) : Nat := ((l.take i).filter fun a => decide (a.non = v)).length
theorem cntA_succ {l : List At} {i : Nat} (hi : i < l.length) (v : Int) : cntA l (i + 1) v = cntA l i v + if (l.getD i at0).non = v then 1 else 0 := by
  have e : l.getD i at0 = l[i] := by simp [List.getD, hi]
  rw [cntA, List.take_succ_eq_append_getElem hi, List.filter_append, List.length_append, e]
  by_cases h : l[i].non = v <;> simp [cntA, h]
theorem cntA_le (l : List At) (i : Nat) (v : Int) : cntA l i v ≤ i := by
  have := List.length_filter_le (fun a : At => decide (a.non = v)) (l.take i)
  have h2 : (l.take i).length ≤ i := by simp; omega
  unfold cntA; omega
def attrB (g : Gr) (l : List At) (i : Nat) : Int :=
  if (l.getD i at0).non < 0 ∨ (l.getD i at0).non ≥ g.nons then 1 else if (l.getD i at0).inh = true ∧ (l.getD i at0).non = g.start then 3 else if cntA l (i + 1) (l.getD i at0).non > 3 then 2 else 0
def attrF (g : Gr) (l : List At) : Int := firstNZ (attrB g l) 0 l.length

/-- a map of counts -/
def cntM (l : List At) (i : Nat) (es : List (List Int × D)) : Prop := klen 1 es = true ∧ ∀ v, mget es [v] = if cntA l i v = 0 then none else some (.int .i64 (cntA l i v))

set_option maxHeartbeats 4000000 in
theorem pure_attrs (s : Sys) (g : Gr) (hlen : s.attrs.length < 2 ^ 60) : Pure prog F_attr_System_attrs [sysD s, gramD g] (.int .i64 (attrF g s.attrs)) := by
  intro n h
  refine K_attr_System_attrs.calls fun hl => ?_
  unfold C_attr_System_attrs sysD gramD
  have hlr := low_rules n g.rules
  have hla := low_ats n s.attrs
  have hle := low_eqs n s.eqs
  simp -implicitDefEqProofs only [↓symPre, symPost, y_condP, y_condG, run, lver, minD, intsD, eqAll, tupD, splice, Nat.zero_add, Nat.add_zero, Nat.zero_mul, Nat.mul_one, Nat.one_mul, Nat.reduceAdd, Nat.reduceSub, Nat.reduceMul, Nat.reduceLT, Nat.reduceLeDiff, Nat.reduceEqDiff, true_and, and_true, true_implies, if_true, if_false, ite_true, reduceIte, ne_eq, not_false_eq_true, reduceCtorEq, forall_const, bne_self_eq_false, Bool.true_eq_false, Bool.false_eq_true, false_implies, and_self, implies_true, Int.toNat_zero, beq_self_eq_true, decide_true, decide_false, Bool.not_true, Bool.not_false, ↓y_lookv, y_key1, y_mlook, y_mlookn, y_mres1, y_mres0, ↓y_call, List.length_map]
  refine aloop (fun p : Nat × List (List Int × D) × Blk => St.mk n ([.agg [.lst (s.attrs.map atD), .lst (s.eqs.map eqD)], .agg [.int .i64 g.terms, .int .i64 g.nons, .int .i64 g.start, .lst (g.rules.map ruleD)], .ptr (n + 2) 1 0, .ptr (n + 3) 1 0, .top, .map (n + 8) 1] ++ List.replicate 4 .top ++ [.lst (s.attrs.map atD), .int .i64 s.attrs.length, .int .i64 p.1] ++ List.replicate 33 .top) h
      ([blk0, blk0, ⟨1, .cells [.lst (s.attrs.map atD), .lst (s.eqs.map eqD)]⟩, ⟨1, .cells [.int .i64 g.terms, .int .i64 g.nons, .int .i64 g.start, .lst (g.rules.map ruleD)]⟩, blk0, blk0, blk0, p.2.2, ⟨1, .map p.2.1⟩] ++ List.replicate 37 blk0))
    (fun p => p.1 ≤ s.attrs.length ∧ cntM s.attrs p.1 p.2.1 ∧ p.2.2.con.isOpq = false ∧ firstNZ (attrB g s.attrs) p.1 (s.attrs.length - p.1) = attrF g s.attrs) (fun p => s.attrs.length - p.1) (0, [], blk0)
    ⟨Nat.zero_le _, ⟨rfl, fun v => by simp [cntA, mget]⟩, rfl, rfl⟩ ?_ ?_
  · refine le_tops ?_
    simp only [List.replicate, List.cons_append, List.nil_append, tops_top, tops_same, tops_nil, Int.cast_ofNat_Int]
  · rintro ⟨i, es, b7⟩ ⟨hi, ⟨hk, hm⟩, hb, hF⟩
    simp only at hi hk hm hb hF
    by_cases hlt : i < s.attrs.length
    · have f1 : (i : Int) < (s.attrs.length : Int) := by omega
      have f0 : (0 : Int) ≤ (i : Int) := by omega
      have e0 := nth_at s.attrs i hlt
      have w1 : IntKind.i64.wrap ((i : Int) + 1) = ((i + 1 : Nat) : Int) := by rw [IntWalk.i64_in _ (by omega)]; omega
      have hcs := cntA_succ hlt
      have hcl := cntA_le s.attrs i
      rw [firstNZ_step hlt] at hF
      have hB : attrB g s.attrs i = if (s.attrs.getD i at0).non < 0 ∨ (s.attrs.getD i at0).non ≥ g.nons then 1 else if (s.attrs.getD i at0).inh = true ∧ (s.attrs.getD i at0).non = g.start then 3 else if cntA s.attrs (i + 1) (s.attrs.getD i at0).non > 3 then 2 else 0 := rfl
      generalize s.attrs.getD i at0 = a at *
      have hla' := low_atD n a
      by_cases c0 : a.non < 0
      · rw [if_pos (.inl c0)] at hB
        simp -implicitDefEqProofs only [↓symPre, symPost, y_condP, y_condG, run, lver, minD, intsD, eqAll, tupD, splice, Nat.zero_add, Nat.add_zero, Nat.zero_mul, Nat.mul_one, Nat.one_mul, Nat.reduceAdd, Nat.reduceSub, Nat.reduceMul, Nat.reduceLT, Nat.reduceLeDiff, Nat.reduceEqDiff, true_and, and_true, true_implies, if_true, if_false, ite_true, reduceIte, ne_eq, not_false_eq_true, reduceCtorEq, forall_const, bne_self_eq_false, Bool.true_eq_false, Bool.false_eq_true, false_implies, and_self, implies_true, Int.toNat_zero, beq_self_eq_true, decide_true, decide_false, Bool.not_true, Bool.not_false, ↓y_lookv, y_key1, y_mlook, y_mlookn, y_mres1, y_mres0, ↓y_call, List.length_map, f0, f1, e0, Int.toNat_natCast, decide_true, hb, c0]
        exact fin_int hl (by rw [← hF, hB]; rfl)
      by_cases c1 : a.non ≥ g.nons
      · rw [if_pos (.inr c1)] at hB
        simp -implicitDefEqProofs only [↓symPre, symPost, y_condP, y_condG, run, lver, minD, intsD, eqAll, tupD, splice, Nat.zero_add, Nat.add_zero, Nat.zero_mul, Nat.mul_one, Nat.one_mul, Nat.reduceAdd, Nat.reduceSub, Nat.reduceMul, Nat.reduceLT, Nat.reduceLeDiff, Nat.reduceEqDiff, true_and, and_true, true_implies, if_true, if_false, ite_true, reduceIte, ne_eq, not_false_eq_true, reduceCtorEq, forall_const, bne_self_eq_false, Bool.true_eq_false, Bool.false_eq_true, false_implies, and_self, implies_true, Int.toNat_zero, beq_self_eq_true, decide_true, decide_false, Bool.not_true, Bool.not_false, ↓y_lookv, y_key1, y_mlook, y_mlookn, y_mres1, y_mres0, ↓y_call, List.length_map, f0, f1, e0, Int.toNat_natCast, decide_true, decide_false, hb, c0, c1]
        exact fin_int hl (by rw [← hF, hB]; rfl)
      rw [if_neg (by omega)] at hB
      by_cases c2 : a.inh = true ∧ a.non = g.start
      · rw [if_pos c2] at hB
        have b2 : (a.non == g.start) = true := by simp [c2.2]
        rw [c2.1] at e0
        simp -implicitDefEqProofs only [↓symPre, symPost, y_condP, y_condG, run, lver, minD, intsD, eqAll, tupD, splice, Nat.zero_add, Nat.add_zero, Nat.zero_mul, Nat.mul_one, Nat.one_mul, Nat.reduceAdd, Nat.reduceSub, Nat.reduceMul, Nat.reduceLT, Nat.reduceLeDiff, Nat.reduceEqDiff, true_and, and_true, true_implies, if_true, if_false, ite_true, reduceIte, ne_eq, not_false_eq_true, reduceCtorEq, forall_const, bne_self_eq_false, Bool.true_eq_false, Bool.false_eq_true, false_implies, and_self, implies_true, Int.toNat_zero, beq_self_eq_true, decide_true, decide_false, Bool.not_true, Bool.not_false, ↓y_lookv, y_key1, y_mlook, y_mlookn, y_mres1, y_mres0, ↓y_call, List.length_map, f0, f1, e0, Int.toNat_natCast, decide_true, decide_false, hb, c0, c1, b2]
        exact fin_int hl (by rw [← hF, hB]; rfl)
      rw [if_neg c2] at hB
      have hN := cntA_le s.attrs (i + 1) a.non
      have hc1 := hcs a.non
      rw [if_pos rfl] at hc1
      -- the count, before and after
      have hget : mget es [a.non] = if cntA s.attrs i a.non = 0 then none else some (.int .i64 (cntA s.attrs i a.non)) := hm a.non
      have hput : ∀ v, mget (mput es [a.non] (.int .i64 (cntA s.attrs (i + 1) a.non))) [v] = if cntA s.attrs (i + 1) v = 0 then none else some (.int .i64 (cntA s.attrs (i + 1) v)) := fun v => by
        rw [mget_mput, hm v, hcs v]
        by_cases hv : v = a.non
        · subst hv; simp [hcs]
        · have hv' : ¬ a.non = v := fun e => hv e.symm
          simp [hv, hv']
      have hkp : klen 1 (mput es [a.non] (.int .i64 (cntA s.attrs (i + 1) a.non))) = true := klen_mput hk rfl
      have hpa := hput a.non
      rw [if_neg (by omega)] at hpa
      have w2 : IntKind.i64.wrap ((cntA s.attrs i a.non : Int) + 1) = (cntA s.attrs (i + 1) a.non : Int) := by rw [IntWalk.i64_in _ (by omega), hc1]; omega
      have w3 : IntKind.i64.wrap ((0 : Int) + 1) = 1 := IntWalk.i64_in _ (by omega)
      have hl1 : ([a.non] : List Int).length = 1 := rfl
      by_cases ci : a.inh = true
      · have b2 : (a.non == g.start) = false := beq_eq_false_iff_ne.2 fun e => c2 ⟨ci, e⟩
        rw [ci] at e0
        by_cases cz : cntA s.attrs i a.non = 0
        · rw [if_pos cz] at hget
          have hone : (1 : Int) = (cntA s.attrs (i + 1) a.non : Int) := by omega
          have w4 : IntKind.i64.wrap ((0 : Int) + 1) = (cntA s.attrs (i + 1) a.non : Int) := by rw [w3]; exact hone
          by_cases c3 : cntA s.attrs (i + 1) a.non > 3
          · have g3 : (cntA s.attrs (i + 1) a.non : Int) > 3 := by omega
            simp -implicitDefEqProofs only [↓symPre, symPost, y_condP, y_condG, run, lver, minD, intsD, eqAll, tupD, splice, Nat.zero_add, Nat.add_zero, Nat.zero_mul, Nat.mul_one, Nat.one_mul, Nat.reduceAdd, Nat.reduceSub, Nat.reduceMul, Nat.reduceLT, Nat.reduceLeDiff, Nat.reduceEqDiff, true_and, and_true, true_implies, if_true, if_false, ite_true, reduceIte, ne_eq, not_false_eq_true, reduceCtorEq, forall_const, bne_self_eq_false, Bool.true_eq_false, Bool.false_eq_true, false_implies, and_self, implies_true, Int.toNat_zero, beq_self_eq_true, decide_true, decide_false, Bool.not_true, Bool.not_false, ↓y_lookv, y_key1, y_mlook, y_mlookn, y_mres1, y_mres0, ↓y_call, List.length_map, f0, f1, e0, Int.toNat_natCast, decide_true, decide_false, hb, c0, c1, b2, hget, hk, hkp, hpa, w4, hl1, w1, g3]
            exact fin_int hl (by rw [← hF, hB, if_pos c3]; rfl)
          · have g3 : ¬ (cntA s.attrs (i + 1) a.non : Int) > 3 := by omega
            simp -implicitDefEqProofs only [↓symPre, symPost, y_condP, y_condG, run, lver, minD, intsD, eqAll, tupD, splice, Nat.zero_add, Nat.add_zero, Nat.zero_mul, Nat.mul_one, Nat.one_mul, Nat.reduceAdd, Nat.reduceSub, Nat.reduceMul, Nat.reduceLT, Nat.reduceLeDiff, Nat.reduceEqDiff, true_and, and_true, true_implies, if_true, if_false, ite_true, reduceIte, ne_eq, not_false_eq_true, reduceCtorEq, forall_const, bne_self_eq_false, Bool.true_eq_false, Bool.false_eq_true, false_implies, and_self, implies_true, Int.toNat_zero, beq_self_eq_true, decide_true, decide_false, Bool.not_true, Bool.not_false, ↓y_lookv, y_key1, y_mlook, y_mlookn, y_mres1, y_mres0, ↓y_call, List.length_map, f0, f1, e0, Int.toNat_natCast, decide_true, decide_false, hb, c0, c1, b2, hget, hk, hkp, hpa, w4, hl1, w1, g3]
            refine ⟨(i + 1, _, _), ⟨by simp only; omega, ⟨hkp, hput⟩, rfl, ?_⟩, by simp only; omega, le_tops ?_⟩
            · rw [hB, if_neg c3] at hF
              exact hF
            · simp only [List.replicate, List.cons_append, List.nil_append, tops_top, tops_same, tops_nil, Int.cast_ofNat_Int]
        · rw [if_neg cz] at hget
          by_cases c3 : cntA s.attrs (i + 1) a.non > 3
          · have g3 : (cntA s.attrs (i + 1) a.non : Int) > 3 := by omega
            simp -implicitDefEqProofs only [↓symPre, symPost, y_condP, y_condG, run, lver, minD, intsD, eqAll, tupD, splice, Nat.zero_add, Nat.add_zero, Nat.zero_mul, Nat.mul_one, Nat.one_mul, Nat.reduceAdd, Nat.reduceSub, Nat.reduceMul, Nat.reduceLT, Nat.reduceLeDiff, Nat.reduceEqDiff, true_and, and_true, true_implies, if_true, if_false, ite_true, reduceIte, ne_eq, not_false_eq_true, reduceCtorEq, forall_const, bne_self_eq_false, Bool.true_eq_false, Bool.false_eq_true, false_implies, and_self, implies_true, Int.toNat_zero, beq_self_eq_true, decide_true, decide_false, Bool.not_true, Bool.not_false, ↓y_lookv, y_key1, y_mlook, y_mlookn, y_mres1, y_mres0, ↓y_call, List.length_map, f0, f1, e0, Int.toNat_natCast, decide_true, decide_false, hb, c0, c1, b2, hget, hk, hkp, hpa, w2, hl1, w1, g3]
            exact fin_int hl (by rw [← hF, hB, if_pos c3]; rfl)
          · have g3 : ¬ (cntA s.attrs (i + 1) a.non : Int) > 3 := by omega
            simp -implicitDefEqProofs only [↓symPre, symPost, y_condP, y_condG, run, lver, minD, intsD, eqAll, tupD, splice, Nat.zero_add, Nat.add_zero, Nat.zero_mul, Nat.mul_one, Nat.one_mul, Nat.reduceAdd, Nat.reduceSub, Nat.reduceMul, Nat.reduceLT, Nat.reduceLeDiff, Nat.reduceEqDiff, true_and, and_true, true_implies, if_true, if_false, ite_true, reduceIte, ne_eq, not_false_eq_true, reduceCtorEq, forall_const, bne_self_eq_false, Bool.true_eq_false, Bool.false_eq_true, false_implies, and_self, implies_true, Int.toNat_zero, beq_self_eq_true, decide_true, decide_false, Bool.not_true, Bool.not_false, ↓y_lookv, y_key1, y_mlook, y_mlookn, y_mres1, y_mres0, ↓y_call, List.length_map, f0, f1, e0, Int.toNat_natCast, decide_true, decide_false, hb, c0, c1, b2, hget, hk, hkp, hpa, w2, hl1, w1, g3]
            refine ⟨(i + 1, _, _), ⟨by simp only; omega, ⟨hkp, hput⟩, rfl, ?_⟩, by simp only; omega, le_tops ?_⟩
            · rw [hB, if_neg c3] at hF
              exact hF
            · simp only [List.replicate, List.cons_append, List.nil_append, tops_top, tops_same, tops_nil, Int.cast_ofNat_Int]
      · have ci' : a.inh = false := by simpa using ci
        rw [ci'] at e0
        by_cases cz : cntA s.attrs i a.non = 0
        · rw [if_pos cz] at hget
          have hone : (1 : Int) = (cntA s.attrs (i + 1) a.non : Int) := by omega
          have w4 : IntKind.i64.wrap ((0 : Int) + 1) = (cntA s.attrs (i + 1) a.non : Int) := by rw [w3]; exact hone
          by_cases c3 : cntA s.attrs (i + 1) a.non > 3
          · have g3 : (cntA s.attrs (i + 1) a.non : Int) > 3 := by omega
            simp -implicitDefEqProofs only [↓symPre, symPost, y_condP, y_condG, run, lver, minD, intsD, eqAll, tupD, splice, Nat.zero_add, Nat.add_zero, Nat.zero_mul, Nat.mul_one, Nat.one_mul, Nat.reduceAdd, Nat.reduceSub, Nat.reduceMul, Nat.reduceLT, Nat.reduceLeDiff, Nat.reduceEqDiff, true_and, and_true, true_implies, if_true, if_false, ite_true, reduceIte, ne_eq, not_false_eq_true, reduceCtorEq, forall_const, bne_self_eq_false, Bool.true_eq_false, Bool.false_eq_true, false_implies, and_self, implies_true, Int.toNat_zero, beq_self_eq_true, decide_true, decide_false, Bool.not_true, Bool.not_false, ↓y_lookv, y_key1, y_mlook, y_mlookn, y_mres1, y_mres0, ↓y_call, List.length_map, f0, f1, e0, Int.toNat_natCast, decide_true, decide_false, hb, c0, c1, w1, hget, hk, hkp, hpa, w4, hl1, w1, g3]
            exact fin_int hl (by rw [← hF, hB, if_pos c3]; rfl)
          · have g3 : ¬ (cntA s.attrs (i + 1) a.non : Int) > 3 := by omega
            simp -implicitDefEqProofs only [↓symPre, symPost, y_condP, y_condG, run, lver, minD, intsD, eqAll, tupD, splice, Nat.zero_add, Nat.add_zero, Nat.zero_mul, Nat.mul_one, Nat.one_mul, Nat.reduceAdd, Nat.reduceSub, Nat.reduceMul, Nat.reduceLT, Nat.reduceLeDiff, Nat.reduceEqDiff, true_and, and_true, true_implies, if_true, if_false, ite_true, reduceIte, ne_eq, not_false_eq_true, reduceCtorEq, forall_const, bne_self_eq_false, Bool.true_eq_false, Bool.false_eq_true, false_implies, and_self, implies_true, Int.toNat_zero, beq_self_eq_true, decide_true, decide_false, Bool.not_true, Bool.not_false, ↓y_lookv, y_key1, y_mlook, y_mlookn, y_mres1, y_mres0, ↓y_call, List.length_map, f0, f1, e0, Int.toNat_natCast, decide_true, decide_false, hb, c0, c1, w1, hget, hk, hkp, hpa, w4, hl1, w1, g3]
            refine ⟨(i + 1, _, _), ⟨by simp only; omega, ⟨hkp, hput⟩, rfl, ?_⟩, by simp only; omega, le_tops ?_⟩
            · rw [hB, if_neg c3] at hF
              exact hF
            · simp only [List.replicate, List.cons_append, List.nil_append, tops_top, tops_same, tops_nil, Int.cast_ofNat_Int]
        · rw [if_neg cz] at hget
          by_cases c3 : cntA s.attrs (i + 1) a.non > 3
          · have g3 : (cntA s.attrs (i + 1) a.non : Int) > 3 := by omega
            simp -implicitDefEqProofs only [↓symPre, symPost, y_condP, y_condG, run, lver, minD, intsD, eqAll, tupD, splice, Nat.zero_add, Nat.add_zero, Nat.zero_mul, Nat.mul_one, Nat.one_mul, Nat.reduceAdd, Nat.reduceSub, Nat.reduceMul, Nat.reduceLT, Nat.reduceLeDiff, Nat.reduceEqDiff, true_and, and_true, true_implies, if_true, if_false, ite_true, reduceIte, ne_eq, not_false_eq_true, reduceCtorEq, forall_const, bne_self_eq_false, Bool.true_eq_false, Bool.false_eq_true, false_implies, and_self, implies_true, Int.toNat_zero, beq_self_eq_true, decide_true, decide_false, Bool.not_true, Bool.not_false, ↓y_lookv, y_key1, y_mlook, y_mlookn, y_mres1, y_mres0, ↓y_call, List.length_map, f0, f1, e0, Int.toNat_natCast, decide_true, decide_false, hb, c0, c1, w1, hget, hk, hkp, hpa, w2, hl1, w1, g3]
            exact fin_int hl (by rw [← hF, hB, if_pos c3]; rfl)
          · have g3 : ¬ (cntA s.attrs (i + 1) a.non : Int) > 3 := by omega
            simp -implicitDefEqProofs only [↓symPre, symPost, y_condP, y_condG, run, lver, minD, intsD, eqAll, tupD, splice, Nat.zero_add, Nat.add_zero, Nat.zero_mul, Nat.mul_one, Nat.one_mul, Nat.reduceAdd, Nat.reduceSub, Nat.reduceMul, Nat.reduceLT, Nat.reduceLeDiff, Nat.reduceEqDiff, true_and, and_true, true_implies, if_true, if_false, ite_true, reduceIte, ne_eq, not_false_eq_true, reduceCtorEq, forall_const, bne_self_eq_false, Bool.true_eq_false, Bool.false_eq_true, false_implies, and_self, implies_true, Int.toNat_zero, beq_self_eq_true, decide_true, decide_false, Bool.not_true, Bool.not_false, ↓y_lookv, y_key1, y_mlook, y_mlookn, y_mres1, y_mres0, ↓y_call, List.length_map, f0, f1, e0, Int.toNat_natCast, decide_true, decide_false, hb, c0, c1, w1, hget, hk, hkp, hpa, w2, hl1, w1, g3]
            refine ⟨(i + 1, _, _), ⟨by simp only; omega, ⟨hkp, hput⟩, rfl, ?_⟩, by simp only; omega, le_tops ?_⟩
            · rw [hB, if_neg c3] at hF
              exact hF
            · simp only [List.replicate, List.cons_append, List.nil_append, tops_top, tops_same, tops_nil, Int.cast_ofNat_Int]
    · have f1 : ¬ (i : Int) < (s.attrs.length : Int) := by omega
      obtain rfl : i = s.attrs.length := by omega
      rw [firstNZ_end] at hF
      simp -implicitDefEqProofs only [↓symPre, symPost, y_condP, y_condG, run, lver, minD, intsD, eqAll, tupD, splice, Nat.zero_add, Nat.add_zero, Nat.zero_mul, Nat.mul_one, Nat.one_mul, Nat.reduceAdd, Nat.reduceSub, Nat.reduceMul, Nat.reduceLT, Nat.reduceLeDiff, Nat.reduceEqDiff, true_and, and_true, true_implies, if_true, if_false, ite_true, reduceIte, ne_eq, not_false_eq_true, reduceCtorEq, forall_const, bne_self_eq_false, Bool.true_eq_false, Bool.false_eq_true, false_implies, and_self, implies_true, Int.toNat_zero, beq_self_eq_true, decide_true, decide_false, Bool.not_true, Bool.not_false, ↓y_lookv, y_key1, y_mlook, y_mlookn, y_mres1, y_mres0, ↓y_call, f1, decide_false]
      exact fin_int hl hF

end Abs
end Go.Proofs.Ytbdcklchcdkhbaa

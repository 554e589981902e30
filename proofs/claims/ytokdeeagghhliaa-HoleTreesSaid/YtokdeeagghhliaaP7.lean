/- parlkeep4.HoleTrees. -/
import Derived.Test.YtokdeeagghhliaaP6
namespace Go.Proofs.Ytokdeeagghhliaa
namespace Abs
set_option linter.unusedVariables false
set_option linter.unusedSimpArgs false
set_option maxRecDepth 20000

theorem okGr_G {g : Gr} (h : okGr g) : okG g := gchk_ok (okGr_chk h)
theorem okSy_start {g : Gr} (h : okGr g) : okSy g.terms g.nons ⟨false, g.start⟩ := ⟨h.start.1, fun h => (by cases h), fun _ => h.start.2⟩
/-- the cells of a tree's pattern are valid -/
theorem front_ok {g : Gr} (hg : okGr g) : ∀ (p : List Int) {s y : Sy} {t x : Tree}, Der g s t → okSy g.terms g.nons s → belowT t p = some x → okSy g.terms g.nons y → ∀ c ∈ frT p t y, okSy g.terms g.nons c
  | [], s, y, t, x, h, hs, hb, hy, c, hc => by
    rw [frT, List.mem_singleton] at hc
    rw [hc]; exact hy
  | i :: p, s, y, t, x, h, hs, hb, hy, c, hc => by
    simp only [belowT, Option.bind_eq_some_iff] at hb
    obtain ⟨k, h1, h2⟩ := hb
    cases h with
    | leaf n => simp [kidT] at h1
    | node q ru ks hr hl hk =>
      simp only [kidT] at h1
      split at h1
      · cases h1
      · rename_i hn
        have hro := (hg.rules ru (List.mem_of_getElem? hr)).2.2.2
        rw [frT, List.mem_flatten] at hc
        obtain ⟨cs, hcs, hc⟩ := hc
        obtain ⟨j, hj, rfl⟩ := List.mem_map.1 hcs
        have hjl := List.mem_range.1 hj
        have ekd : ks.getD j zeroT = ks[j] := by simp [List.getD, hjl]
        have hjr : j < ru.right.length := by omega
        have hkd := hk j ru.right[j] ks[j] (by simp [hjr]) (by simp [hjl])
        have hos := hro ru.right[j] (List.getElem_mem hjr)
        rw [ekd] at hc
        by_cases e : (j : Int) = i
        · rw [if_pos e] at hc
          have e2 : i.toNat = j := by omega
          rw [e2, List.getElem?_eq_getElem hjl] at h1
          have h1 := Option.some.inj h1
          rw [← h1] at h2
          exact front_ok hg p hkd hos h2 hy c hc
        · rw [if_neg e] at hc
          obtain ⟨a, ha, rfl⟩ := List.mem_map.1 hc
          have := der_word hg hkd hos a ha
          exact ⟨this.1, fun _ => this.2, fun h => by cases h⟩

/-- the answer of hole.Fill to the pattern of a tree -/
theorem fill_tree {g : Gr} (hg : okGr g) {t x : Tree} {p : List Int} {y : Sy} (ht : Der g ⟨false, g.start⟩ t) (hb : belowT t p = some x) (hx : Der g y x) (hy : okSy g.terms g.nons y) (hl : (frT p t y).length ≤ 12) :
    ((fillF g (frT p t y)).2 = 0 ∨ (fillF g (frT p t y)).2 = 2) ∧ (fillF g (frT p t y)).1.length ≤ (wordL t).length := by
  have hG := okGr_G hg
  have ok : okP g (frT p t y) := by
    refine ⟨hl, fun c hc => ?_⟩
    have := front_ok hg p ht (okSy_start hg) hb hy c hc
    exact ⟨fun h => ⟨by have := this.1; omega, this.2.1 h⟩, fun h => ⟨this.1, this.2.2 h⟩⟩
  have hu : ∀ z, Der g z x → z = y := by
    have one : ∀ z, Der g z x → z = (symT g x).1 := fun z hz => by
      cases hz with
      | leaf n => rw [symT, if_pos rfl]
      | node i ru ks h hl hk => rw [symT, if_neg (by omega), if_neg (by omega), Int.toNat_natCast, h]
    intro z hz
    rw [one z hz, one y hx]
  have hd := der_front p ht hb hx hu [] []
  have hd : partD' g.rules (frT p t y) ⟨false, g.start⟩ 0 (frT p t y).length (wordL t) := by simpa using hd
  obtain ⟨u, hu1, hu2⟩ := whole_bel hG ok hd
  have hc := hchk_zero (okGr_chk hg) ok
  unfold fillF
  rw [hc, if_neg (by simp), hu1]
  have en : (valS u).n = u.length := rfl
  rw [if_neg (by simp [valS]), en]
  split
  · exact ⟨.inr rfl, Nat.zero_le _⟩
  · refine ⟨.inl rfl, ?_⟩
    have : (valS u).w = u := by unfold valS; simp only; rw [if_pos (by omega)]
    rw [this]
    show u.length ≤ _
    rcases hu2 with h | ⟨h, _⟩ <;> omega

/-- a local slice of symbols, given up -/
theorem fzS {n : Nat} {h : Heap} {lc : List Blk} {Z : List Nat} {t ver len : Nat} {l : List Sy} (hz : n + t ∈ Z) (hb : lc[t]? = some ⟨ver, .cells (cellsF symD l)⟩) (hl : len = l.length) :
    Fz (mrg n h lc) Z (.ref 2 (n + t) ver 0 len) (.lst (l.map symD)) := by
  refine .frz 2 (n + t) ver 0 len (cellsF symD l) _ hz (by rw [mrg_loc]; simp [List.getD, hb]) (by simp [hl]) (by rw [cellsF_len symD symD_cells]; omega) (fun d hd => ?_) fun i d hd j e he => ?_
  · obtain ⟨x, _, rfl⟩ := List.mem_map.1 hd; rfl
  · simp only [List.getElem?_map, Option.map_eq_some_iff] at hd
    obtain ⟨x, hx, rfl⟩ := hd
    have := cellsF_get symD symD_cells l i j x e hx he
    have e1 : nth (cellsF symD l) (0 + i * 2 + j) = e := by simp [nth, List.getD, this]
    rw [e1]
    exact .same _

set_option maxHeartbeats 8000000 in
theorem pure_HoleTrees (l m p : List Int) (hl60 : l.length < 2 ^ 60) (hm60 : m.length < 2 ^ 60) (hp60 : p.length < 2 ^ 60) : Pure prog F_parlkeep4_HoleTrees [iD l, iD m, iD p] (.bool true) := by
  intro n h
  refine K_parlkeep4_HoleTrees.calls fun hl => ?_
  unfold C_parlkeep4_HoleTrees
  simp -implicitDefEqProofs only [↓symPre, symPost, y_condP, y_condG, run, lver, minD, intsD, eqAll, tupD, splice, Nat.zero_add, Nat.add_zero, Nat.zero_mul, Nat.mul_one, Nat.one_mul, Nat.reduceAdd, Nat.reduceSub, Nat.reduceMul, Nat.reduceLT, Nat.reduceLeDiff, Nat.reduceEqDiff, true_and, and_true, true_implies, if_true, if_false, ite_true, reduceIte, ne_eq, not_false_eq_true, reduceCtorEq, forall_const, bne_self_eq_false, Bool.true_eq_false, Bool.false_eq_true, false_implies, and_self, implies_true, Int.toNat_zero, beq_self_eq_true, decide_true, decide_false, Bool.not_true, Bool.not_false, ↓y_lookv, y_key1, y_mlook, y_mlookn, y_mres1, y_mres0, ↓y_call]
  refine pure_list.call rfl ?_
  simp -implicitDefEqProofs only [↓symPre, symPost, y_condP, y_condG, run, lver, minD, intsD, eqAll, tupD, splice, Nat.zero_add, Nat.add_zero, Nat.zero_mul, Nat.mul_one, Nat.one_mul, Nat.reduceAdd, Nat.reduceSub, Nat.reduceMul, Nat.reduceLT, Nat.reduceLeDiff, Nat.reduceEqDiff, true_and, and_true, true_implies, if_true, if_false, ite_true, reduceIte, ne_eq, not_false_eq_true, reduceCtorEq, forall_const, bne_self_eq_false, Bool.true_eq_false, Bool.false_eq_true, false_implies, and_self, implies_true, Int.toNat_zero, beq_self_eq_true, decide_true, decide_false, Bool.not_true, Bool.not_false, ↓y_lookv, y_key1, y_mlook, y_mlookn, y_mres1, y_mres0, ↓y_call]
  refine (pure_Fill listG [⟨false, 0⟩, ⟨true, 0⟩] (by decide) (by decide) (by decide)).callZ [24] rfl rfl (by simp [Con.isOpq]) ⟨.same _, fzS (by simp) rfl rfl, trivial⟩ ?_
  rw [fill_list]
  have b2 : (((2 : Nat) : Int) != 2) = false := rfl
  have hlen : ([0, 0] : List Int).length = 2 := rfl
  simp -implicitDefEqProofs only [↓symPre, symPost, y_condP, y_condG, run, lver, minD, intsD, eqAll, tupD, splice, Nat.zero_add, Nat.add_zero, Nat.zero_mul, Nat.mul_one, Nat.one_mul, Nat.reduceAdd, Nat.reduceSub, Nat.reduceMul, Nat.reduceLT, Nat.reduceLeDiff, Nat.reduceEqDiff, true_and, and_true, true_implies, if_true, if_false, ite_true, reduceIte, ne_eq, not_false_eq_true, reduceCtorEq, forall_const, bne_self_eq_false, Bool.true_eq_false, Bool.false_eq_true, false_implies, and_self, implies_true, Int.toNat_zero, beq_self_eq_true, decide_true, decide_false, Bool.not_true, Bool.not_false, ↓y_lookv, y_key1, y_mlook, y_mlookn, y_mres1, y_mres0, ↓y_call, List.length_map, hlen, b2]
  refine (at_Grammar l hl60 _ _).mono fun d h' x ⟨hh, hx, g, hg, hd⟩ => .inl ⟨[], by simp [St.inr], hx, by rw [hh]; rfl, ?_⟩
  subst hd
  have hr60 : g.rules.length < 2 ^ 60 := by have := hg.len; omega
  have hx60 : ∀ r ∈ g.rules, r.right.length < 2 ^ 60 := fun r hr => by have := (hg.rules r hr).2.2.1; omega
  have hlr := low_rules n g.rules
  unfold gramD
  simp -implicitDefEqProofs only [↓symPre, symPost, y_condP, y_condG, run, lver, minD, intsD, eqAll, tupD, splice, Nat.zero_add, Nat.add_zero, Nat.zero_mul, Nat.mul_one, Nat.one_mul, Nat.reduceAdd, Nat.reduceSub, Nat.reduceMul, Nat.reduceLT, Nat.reduceLeDiff, Nat.reduceEqDiff, true_and, and_true, true_implies, if_true, if_false, ite_true, reduceIte, ne_eq, not_false_eq_true, reduceCtorEq, forall_const, bne_self_eq_false, Bool.true_eq_false, Bool.false_eq_true, false_implies, and_self, implies_true, Int.toNat_zero, beq_self_eq_true, decide_true, decide_false, Bool.not_true, Bool.not_false, ↓y_lookv, y_key1, y_mlook, y_mlookn, y_mres1, y_mres0, ↓y_call]
  refine (at_TreeM g hg m hm60 _ _).mono fun d h' x ⟨hh, hx, r0, t0, k0, ok, hd, hok⟩ => .inl ⟨[], by simp [St.inr], hx, by rw [hh]; rfl, ?_⟩
  subst hd
  cases ok with
  | false =>
    simp -implicitDefEqProofs only [↓symPre, symPost, y_condP, y_condG, run, lver, minD, intsD, eqAll, tupD, splice, Nat.zero_add, Nat.add_zero, Nat.zero_mul, Nat.mul_one, Nat.one_mul, Nat.reduceAdd, Nat.reduceSub, Nat.reduceMul, Nat.reduceLT, Nat.reduceLeDiff, Nat.reduceEqDiff, true_and, and_true, true_implies, if_true, if_false, ite_true, reduceIte, ne_eq, not_false_eq_true, reduceCtorEq, forall_const, bne_self_eq_false, Bool.true_eq_false, Bool.false_eq_true, false_implies, and_self, implies_true, Int.toNat_zero, beq_self_eq_true, decide_true, decide_false, Bool.not_true, Bool.not_false, ↓y_lookv, y_key1, y_mlook, y_mlookn, y_mres1, y_mres0, ↓y_call, Bool.not_false]
    exact fin_bool hl rfl
  | true =>
    obtain ⟨hD, hsz⟩ := hok rfl
    simp -implicitDefEqProofs only [↓symPre, symPost, y_condP, y_condG, run, lver, minD, intsD, eqAll, tupD, splice, Nat.zero_add, Nat.add_zero, Nat.zero_mul, Nat.mul_one, Nat.one_mul, Nat.reduceAdd, Nat.reduceSub, Nat.reduceMul, Nat.reduceLT, Nat.reduceLeDiff, Nat.reduceEqDiff, true_and, and_true, true_implies, if_true, if_false, ite_true, reduceIte, ne_eq, not_false_eq_true, reduceCtorEq, forall_const, bne_self_eq_false, Bool.true_eq_false, Bool.false_eq_true, false_implies, and_self, implies_true, Int.toNat_zero, beq_self_eq_true, decide_true, decide_false, Bool.not_true, Bool.not_false, ↓y_lookv, y_key1, y_mlook, y_mlookn, y_mres1, y_mres0, ↓y_call, Bool.not_true]
    generalize ht : Tree.mk r0 t0 k0 = t at *
    have htD : treeD t = .agg [.int .i64 r0, .int .i64 t0, .lst (k0.map treeD)] := by rw [← ht, treeD_mk]
    have hfd := full_der hD
    have pP := fun n h => at_Path t p (by omega) hp60 n h
    rw [htD] at pP
    refine (pP _ _).mono fun d h' x ⟨hh, hx, P, s, hPs, hd⟩ => .inl ⟨[], by simp [St.inr], hx, by rw [hh]; rfl, ?_⟩
    subst hd
    have hPl := below_len P t s hPs
    have hss := size_pos s
    have pA := pure_At t P (by omega) (by omega)
    have hA : atT t P = (s, 0) := by unfold atT; rw [hPs]
    rw [hA, htD] at pA
    obtain ⟨y, hDs, hy⟩ := der_below hg P hD (okSy_start hg) hPs
    obtain ⟨hsy, hval⟩ := der_valid hg hDs hy
    have hfs := full_der hDs
    have pS := pure_TSymbol g s hr60 hx60 (by omega) (by omega)
    have hck : tchk g s = 0 := by unfold tchk; rw [okGr_chk hg, if_pos rfl, if_neg (by omega), hval, if_pos rfl]
    have hts : tsym g s = y := by unfold tsym; rw [hck, if_pos rfl, hsy]
    rw [hck, hts] at pS
    obtain ⟨rs, ts, ks, hs⟩ : ∃ r' t' k', s = .mk r' t' k' := by cases h : s; exact ⟨_, _, _, rfl⟩
    have hsD : treeD s = .agg [.int .i64 rs, .int .i64 ts, .lst (ks.map treeD)] := by rw [hs, treeD_mk]
    have pF := pure_frontier P t y (by omega) (by omega)
    have lF := front_len P t y
    have pW := pure_Word t (by omega)
    have hfill := fill_tree hg hD hPs hDs hy
    rw [hsD] at pA pS
    rw [htD] at pF pW
    have lwd := wordL_len t
    obtain ⟨yt, yn⟩ := y
    unfold gramD at pS
    rw [show symD ⟨yt, yn⟩ = .agg [.bool yt, .int .i64 yn] from rfl] at pS pF
    simp -implicitDefEqProofs only [↓symPre, symPost, y_condP, y_condG, run, lver, minD, intsD, eqAll, tupD, splice, Nat.zero_add, Nat.add_zero, Nat.zero_mul, Nat.mul_one, Nat.one_mul, Nat.reduceAdd, Nat.reduceSub, Nat.reduceMul, Nat.reduceLT, Nat.reduceLeDiff, Nat.reduceEqDiff, true_and, and_true, true_implies, if_true, if_false, ite_true, reduceIte, ne_eq, not_false_eq_true, reduceCtorEq, forall_const, bne_self_eq_false, Bool.true_eq_false, Bool.false_eq_true, false_implies, and_self, implies_true, Int.toNat_zero, beq_self_eq_true, decide_true, decide_false, Bool.not_true, Bool.not_false, ↓y_lookv, y_key1, y_mlook, y_mlookn, y_mres1, y_mres0, ↓y_call]
    refine pA.call rfl ?_
    simp -implicitDefEqProofs only [↓symPre, symPost, y_condP, y_condG, run, lver, minD, intsD, eqAll, tupD, splice, Nat.zero_add, Nat.add_zero, Nat.zero_mul, Nat.mul_one, Nat.one_mul, Nat.reduceAdd, Nat.reduceSub, Nat.reduceMul, Nat.reduceLT, Nat.reduceLeDiff, Nat.reduceEqDiff, true_and, and_true, true_implies, if_true, if_false, ite_true, reduceIte, ne_eq, not_false_eq_true, reduceCtorEq, forall_const, bne_self_eq_false, Bool.true_eq_false, Bool.false_eq_true, false_implies, and_self, implies_true, Int.toNat_zero, beq_self_eq_true, decide_true, decide_false, Bool.not_true, Bool.not_false, ↓y_lookv, y_key1, y_mlook, y_mlookn, y_mres1, y_mres0, ↓y_call]
    refine pS.call rfl ?_
    simp -implicitDefEqProofs only [↓symPre, symPost, y_condP, y_condG, run, lver, minD, intsD, eqAll, tupD, splice, Nat.zero_add, Nat.add_zero, Nat.zero_mul, Nat.mul_one, Nat.one_mul, Nat.reduceAdd, Nat.reduceSub, Nat.reduceMul, Nat.reduceLT, Nat.reduceLeDiff, Nat.reduceEqDiff, true_and, and_true, true_implies, if_true, if_false, ite_true, reduceIte, ne_eq, not_false_eq_true, reduceCtorEq, forall_const, bne_self_eq_false, Bool.true_eq_false, Bool.false_eq_true, false_implies, and_self, implies_true, Int.toNat_zero, beq_self_eq_true, decide_true, decide_false, Bool.not_true, Bool.not_false, ↓y_lookv, y_key1, y_mlook, y_mlookn, y_mres1, y_mres0, ↓y_call]
    refine pF.call rfl ?_
    by_cases hlen12 : (frT P t ⟨yt, yn⟩).length ≤ 12
    · have c1 : ¬ ((frT P t ⟨yt, yn⟩).length : Int) > 12 := by omega
      obtain ⟨f1, f2⟩ := hfill hlen12
      have pFi := pure_Fill g (frT P t ⟨yt, yn⟩) hr60 hx60 (by omega)
      generalize frT P t ⟨yt, yn⟩ = C at *
      generalize (fillF g C).2 = e at *
      generalize (fillF g C).1 = w at *
      unfold gramD at pFi
      simp -implicitDefEqProofs only [↓symPre, symPost, y_condP, y_condG, run, lver, minD, intsD, eqAll, tupD, splice, Nat.zero_add, Nat.add_zero, Nat.zero_mul, Nat.mul_one, Nat.one_mul, Nat.reduceAdd, Nat.reduceSub, Nat.reduceMul, Nat.reduceLT, Nat.reduceLeDiff, Nat.reduceEqDiff, true_and, and_true, true_implies, if_true, if_false, ite_true, reduceIte, ne_eq, not_false_eq_true, reduceCtorEq, forall_const, bne_self_eq_false, Bool.true_eq_false, Bool.false_eq_true, false_implies, and_self, implies_true, Int.toNat_zero, beq_self_eq_true, decide_true, decide_false, Bool.not_true, Bool.not_false, ↓y_lookv, y_key1, y_mlook, y_mlookn, y_mres1, y_mres0, ↓y_call, List.length_map, c1, decide_false]
      refine pFi.call rfl ?_
      have c2 : (w.length : Int) ≤ ((wordL t).length : Int) := by omega
      rcases f1 with rfl | rfl
      · simp -implicitDefEqProofs only [↓symPre, symPost, y_condP, y_condG, run, lver, minD, intsD, eqAll, tupD, splice, Nat.zero_add, Nat.add_zero, Nat.zero_mul, Nat.mul_one, Nat.one_mul, Nat.reduceAdd, Nat.reduceSub, Nat.reduceMul, Nat.reduceLT, Nat.reduceLeDiff, Nat.reduceEqDiff, true_and, and_true, true_implies, if_true, if_false, ite_true, reduceIte, ne_eq, not_false_eq_true, reduceCtorEq, forall_const, bne_self_eq_false, Bool.true_eq_false, Bool.false_eq_true, false_implies, and_self, implies_true, Int.toNat_zero, beq_self_eq_true, decide_true, decide_false, Bool.not_true, Bool.not_false, ↓y_lookv, y_key1, y_mlook, y_mlookn, y_mres1, y_mres0, ↓y_call]
        refine pW.call rfl ?_
        simp -implicitDefEqProofs only [↓symPre, symPost, y_condP, y_condG, run, lver, minD, intsD, eqAll, tupD, splice, Nat.zero_add, Nat.add_zero, Nat.zero_mul, Nat.mul_one, Nat.one_mul, Nat.reduceAdd, Nat.reduceSub, Nat.reduceMul, Nat.reduceLT, Nat.reduceLeDiff, Nat.reduceEqDiff, true_and, and_true, true_implies, if_true, if_false, ite_true, reduceIte, ne_eq, not_false_eq_true, reduceCtorEq, forall_const, bne_self_eq_false, Bool.true_eq_false, Bool.false_eq_true, false_implies, and_self, implies_true, Int.toNat_zero, beq_self_eq_true, decide_true, decide_false, Bool.not_true, Bool.not_false, ↓y_lookv, y_key1, y_mlook, y_mlookn, y_mres1, y_mres0, ↓y_call, List.length_map, c2, decide_true]
        exact fin_bool hl rfl
      · have c3 : ((2 : Int) == 0) = false := rfl
        simp -implicitDefEqProofs only [↓symPre, symPost, y_condP, y_condG, run, lver, minD, intsD, eqAll, tupD, splice, Nat.zero_add, Nat.add_zero, Nat.zero_mul, Nat.mul_one, Nat.one_mul, Nat.reduceAdd, Nat.reduceSub, Nat.reduceMul, Nat.reduceLT, Nat.reduceLeDiff, Nat.reduceEqDiff, true_and, and_true, true_implies, if_true, if_false, ite_true, reduceIte, ne_eq, not_false_eq_true, reduceCtorEq, forall_const, bne_self_eq_false, Bool.true_eq_false, Bool.false_eq_true, false_implies, and_self, implies_true, Int.toNat_zero, beq_self_eq_true, decide_true, decide_false, Bool.not_true, Bool.not_false, ↓y_lookv, y_key1, y_mlook, y_mlookn, y_mres1, y_mres0, ↓y_call, c3]
        refine pW.call rfl ?_
        simp -implicitDefEqProofs only [↓symPre, symPost, y_condP, y_condG, run, lver, minD, intsD, eqAll, tupD, splice, Nat.zero_add, Nat.add_zero, Nat.zero_mul, Nat.mul_one, Nat.one_mul, Nat.reduceAdd, Nat.reduceSub, Nat.reduceMul, Nat.reduceLT, Nat.reduceLeDiff, Nat.reduceEqDiff, true_and, and_true, true_implies, if_true, if_false, ite_true, reduceIte, ne_eq, not_false_eq_true, reduceCtorEq, forall_const, bne_self_eq_false, Bool.true_eq_false, Bool.false_eq_true, false_implies, and_self, implies_true, Int.toNat_zero, beq_self_eq_true, decide_true, decide_false, Bool.not_true, Bool.not_false, ↓y_lookv, y_key1, y_mlook, y_mlookn, y_mres1, y_mres0, ↓y_call, List.length_map, c2, decide_true]
        exact fin_bool hl rfl
    · have c1 : ((frT P t ⟨yt, yn⟩).length : Int) > 12 := by omega
      simp -implicitDefEqProofs only [↓symPre, symPost, y_condP, y_condG, run, lver, minD, intsD, eqAll, tupD, splice, Nat.zero_add, Nat.add_zero, Nat.zero_mul, Nat.mul_one, Nat.one_mul, Nat.reduceAdd, Nat.reduceSub, Nat.reduceMul, Nat.reduceLT, Nat.reduceLeDiff, Nat.reduceEqDiff, true_and, and_true, true_implies, if_true, if_false, ite_true, reduceIte, ne_eq, not_false_eq_true, reduceCtorEq, forall_const, bne_self_eq_false, Bool.true_eq_false, Bool.false_eq_true, false_implies, and_self, implies_true, Int.toNat_zero, beq_self_eq_true, decide_true, decide_false, Bool.not_true, Bool.not_false, ↓y_lookv, y_key1, y_mlook, y_mlookn, y_mres1, y_mres0, ↓y_call, List.length_map, c1, decide_true]
      exact fin_bool hl rfl

end Abs
end Go.Proofs.Ytokdeeagghhliaa

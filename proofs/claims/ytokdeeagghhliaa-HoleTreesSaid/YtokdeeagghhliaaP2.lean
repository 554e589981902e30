/- parlmake.Tree makes a tree of a grammar, or none. -/
import Derived.Test.YtokdeeagghhliaaP1
namespace Go.Proofs.Ytokdeeagghhliaa
namespace Abs
set_option linter.unusedVariables false
set_option linter.unusedSimpArgs false
set_option maxRecDepth 20000

/-- a tree of a symbol -/
inductive Der (g : Gr) : Sy → Tree → Prop
  | leaf (n : Int) : Der g ⟨true, n⟩ (.mk (-1) n [])
  | node (i : Nat) (ru : Ru) (ks : List Tree) (h : g.rules[i]? = some ru) (hl : ks.length = ru.right.length)
      (hk : ∀ (j : Nat) (s : Sy) (k : Tree), ru.right[j]? = some s → ks[j]? = some k → Der g s k) : Der g ⟨false, ru.left⟩ (.mk i 0 ks)

def TreeR (g : Gr) (y : Sy) (k : Int) (l : List Int) (l' : List Int) (k' : Int) (d : D) : Prop :=
  l'.length ≤ l.length ∧ -1 ≤ k' ∧ k' ≤ k ∧ ((∃ t, Der g y t ∧ (size t : Int) ≤ k - k' ∧ 0 ≤ k' ∧ d = .tup [treeD t, .bool true]) ∨ d = .tup [.agg [.int .i64 0, .int .i64 0, .nils], .bool false])

def sB (vs : Nat) (l : List Int) : Blk := ⟨vs, .cells [iD l]⟩

def kB (vl : Nat) (k : Int) : Blk := ⟨vl, .cells [.int .i64 k]⟩

theorem upd_comm {h : Heap} {a b : Nat} {x y : Blk} (hne : a ≠ b) : upd (upd h a x) b y = upd (upd h b y) a x := by
  funext c
  unfold upd
  by_cases h1 : c = b
  · by_cases h2 : c = a
    · exact absurd (h2.symm.trans h1) hne
    · simp [h1, h2]
      intro e; exact absurd e.symm hne
  · simp [h1]

theorem upd_two {h : Heap} {a b : Nat} {x y x' y' : Blk} (hne : a ≠ b) : upd (upd (upd (upd h a x) b y) a x') b y' = upd (upd h a x') b y' := by
  funext c
  unfold upd
  by_cases h1 : c = b <;> by_cases h2 : c = a <;> simp [h1, h2]

theorem y_fin_old2 {n : Nat} {sl : List D} {h : Heap} {lc : List Blk} (dst : Option Nat) (d : D) (b b' : Nat) (x x' : Blk) (hb : b < n) (hb' : b' < n) : St.fin (St.mk n sl h lc) dst d [(b, x), (b', x')] = St.mk n (setD sl dst d) (upd (upd h b x) b' x') lc := by
  simp [St.fin, St.app, St.app1, hb, hb']

theorem ACalls.two {P : Program} {f : FuncId} {ds : List D} {N : Nat} {H : Heap} {s : St} {dst : Option Nat} {K : D → Chg → Prop} {bs bl vs vl : Nat} {Q : List Int → Int → D → Prop} (hN : N = s.n + s.lc.length) (hH : H = s.hp) (h1 : bs < N) (h2 : bl < N)
    (hp : ACalls P f ds N H fun d h' x' => x' = [] ∧ ∃ l' k', Q l' k' d ∧ h' = upd (upd H bs (sB vs l')) bl (kB vl k')) (hK : ∀ l' k' d, Q l' k' d → K d [(bs, sB vs l'), (bl, kB vl k')]) : ACalls P f ds N H (callK s dst K) := by
  subst hN; subst hH
  exact hp.mono fun d h' x' ⟨hx, l', k', hq, hh⟩ => .inl ⟨[(bs, sB vs l'), (bl, kB vl k')], by simp [St.inr]; exact ⟨h1, h2⟩, hx, by rw [hh]; rfl, hK l' k' d hq⟩

def At2 (g : Gr) (D0 : Nat) : Prop := ∀ (y : Sy) (l : List Int) (k : Int) (n : Nat) (h : Heap) (bs bl vs vl : Nat), l.length < 2 ^ 60 → 0 ≤ k → k < 2 ^ 60 → bs < n → bl < n → bs ≠ bl → h bs = sB vs l → h bl = kB vl k →
  ACalls prog F_parlmake_tree [gramD g, symD y, .ptr bs vs 0, .ptr bl vl 0, .int .i64 ((D0 : Int) - 1)] n h fun d h' x => x = [] ∧ ∃ l' k', TreeR g y k l l' k' d ∧ h' = upd (upd h bs (sB vs l')) bl (kB vl k')

theorem nth_int (l : List Int) (i : Nat) (hi : i < l.length) : nth (l.map (D.int .i64)) i = .int .i64 l[i] := by simp [nth, List.getD, hi]

theorem fin_tree0 {n : Nat} {sl : List D} {h H : Heap} {lc : List Blk} {g : Gr} {y : Sy} {k k' : Int} {l l' : List Int} {bs bl vs vl : Nat} (hl : LowH n H) (hlen : l'.length ≤ l.length) (h1 : -1 ≤ k') (h2 : k' ≤ k) (hH : H = upd (upd h bs (sB vs l')) bl (kB vl k')) :
    Fin (St.mk n sl H lc) (fun d h' x => x = [] ∧ ∃ l' k', TreeR g y k l l' k' d ∧ h' = upd (upd h bs (sB vs l')) bl (kB vl k')) [.agg [.int .i64 0, .int .i64 0, .nils], .bool false] :=
  fin_low hl (.tup _ fun c hc => by
    simp only [List.mem_cons, List.not_mem_nil, or_false] at hc
    rcases hc with rfl | rfl
    · refine .agg _ fun c hc => ?_
      simp only [List.mem_cons, List.not_mem_nil, or_false] at hc
      rcases hc with rfl | rfl | rfl
      · exact .int ..
      · exact .int ..
      · exact .nils
    · exact .bool _) ⟨rfl, l', k', ⟨hlen, h1, h2, .inr rfl⟩, hH⟩

theorem low_kB {n : Nat} {h : Heap} {b vl : Nat} {k : Int} (hl : LowH n h) : LowH n (upd h b (kB vl k)) := lowH_upd hl (by simp; exact .int ..)

theorem low_sB {n : Nat} {h : Heap} {b vs : Nat} {l : List Int} (hl : LowH n h) : LowH n (upd h b (sB vs l)) := lowH_upd hl (by simp; exact low_ints n l)

theorem sum_take_kids (ks : List Tree) (t : Tree) : ((ks ++ [t]).map size).sum = (ks.map size).sum + size t := by simp

set_option maxHeartbeats 8000000 in
theorem at_tree (g : Gr) (hg : okGr g) : ∀ (D0 : Nat), D0 < 1000 → At2 g D0 := by
  intro D0
  induction D0 with
  | zero =>
    intro hD y l k n h bs bl vs vl hlen hk0 hk60 hbs hbl hne hhs hhl
    obtain ⟨yt, yn⟩ := y
    refine K_parlmake_tree.calls fun hl => ?_
    unfold C_parlmake_tree gramD symD
    have w1 : IntKind.i64.wrap (k - 1) = k - 1 := IntWalk.i64_in _ (by omega)
    have hx : upd h bl (kB vl (k - 1)) = upd (upd h bs (sB vs l)) bl (kB vl (k - 1)) := by rw [upd_self hhs]
    have hl1 : LowH n (upd h bl (kB vl (k - 1))) := low_kB hl
    have hz : ((0 : Nat) : Int) - 1 < 0 := by omega
    unfold kB at hhl hl1 hx
    by_cases c1 : k - 1 < 0
    · simp -implicitDefEqProofs only [↓symPre, symPost, y_condP, y_condG, run, lver, minD, intsD, eqAll, tupD, splice, Nat.zero_add, Nat.add_zero, Nat.zero_mul, Nat.mul_one, Nat.one_mul, Nat.reduceAdd, Nat.reduceSub, Nat.reduceMul, Nat.reduceLT, Nat.reduceLeDiff, Nat.reduceEqDiff, true_and, and_true, true_implies, if_true, if_false, ite_true, reduceIte, ne_eq, not_false_eq_true, reduceCtorEq, forall_const, bne_self_eq_false, Bool.true_eq_false, Bool.false_eq_true, false_implies, and_self, implies_true, Int.toNat_zero, beq_self_eq_true, decide_true, decide_false, Bool.not_true, Bool.not_false, ↓y_lookv, y_key1, y_mlook, y_mlookn, y_mres1, y_mres0, ↓y_call, ↓y_at_old hbl, hhl, hbl, w1, upd_same, c1]
      exact fin_tree0 hl1 (Nat.le_refl _) (by omega) (by omega) hx
    · simp -implicitDefEqProofs only [↓symPre, symPost, y_condP, y_condG, run, lver, minD, intsD, eqAll, tupD, splice, Nat.zero_add, Nat.add_zero, Nat.zero_mul, Nat.mul_one, Nat.one_mul, Nat.reduceAdd, Nat.reduceSub, Nat.reduceMul, Nat.reduceLT, Nat.reduceLeDiff, Nat.reduceEqDiff, true_and, and_true, true_implies, if_true, if_false, ite_true, reduceIte, ne_eq, not_false_eq_true, reduceCtorEq, forall_const, bne_self_eq_false, Bool.true_eq_false, Bool.false_eq_true, false_implies, and_self, implies_true, Int.toNat_zero, beq_self_eq_true, decide_true, decide_false, Bool.not_true, Bool.not_false, ↓y_lookv, y_key1, y_mlook, y_mlookn, y_mres1, y_mres0, ↓y_call, ↓y_at_old hbl, hhl, hbl, w1, upd_same, c1, hz]
      exact fin_tree0 hl1 (Nat.le_refl _) (by omega) (by omega) hx
  | succ D0 ih =>
    intro hD y l k n h bs bl vs vl hlen hk0 hk60 hbs hbl hne hhs hhl
    have ih := ih (by omega)
    obtain ⟨yt, yn⟩ := y
    have hg8 := hg.len
    have hne' : bl ≠ bs := fun e => hne e.symm
    refine K_parlmake_tree.calls fun hl => ?_
    unfold C_parlmake_tree gramD symD
    have w1 : IntKind.i64.wrap (k - 1) = k - 1 := IntWalk.i64_in _ (by omega)
    have hx : upd h bl (kB vl (k - 1)) = upd (upd h bs (sB vs l)) bl (kB vl (k - 1)) := by rw [upd_self hhs]
    have hl1 : LowH n (upd h bl (kB vl (k - 1))) := low_kB hl
    have hz : ¬ ((D0 + 1 : Nat) : Int) - 1 < 0 := by omega
    have hhl' := hhl
    unfold kB at hhl' hl1 hx
    by_cases c1 : k - 1 < 0
    · simp -implicitDefEqProofs only [↓symPre, symPost, y_condP, y_condG, run, lver, minD, intsD, eqAll, tupD, splice, Nat.zero_add, Nat.add_zero, Nat.zero_mul, Nat.mul_one, Nat.one_mul, Nat.reduceAdd, Nat.reduceSub, Nat.reduceMul, Nat.reduceLT, Nat.reduceLeDiff, Nat.reduceEqDiff, true_and, and_true, true_implies, if_true, if_false, ite_true, reduceIte, ne_eq, not_false_eq_true, reduceCtorEq, forall_const, bne_self_eq_false, Bool.true_eq_false, Bool.false_eq_true, false_implies, and_self, implies_true, Int.toNat_zero, beq_self_eq_true, decide_true, decide_false, Bool.not_true, Bool.not_false, ↓y_lookv, y_key1, y_mlook, y_mlookn, y_mres1, y_mres0, ↓y_call, ↓y_at_old hbl, hhl', hbl, w1, upd_same, c1]
      exact fin_tree0 hl1 (Nat.le_refl _) (by omega) (by omega) hx
    by_cases c2 : yt = true
    · subst c2
      simp -implicitDefEqProofs only [↓symPre, symPost, y_condP, y_condG, run, lver, minD, intsD, eqAll, tupD, splice, Nat.zero_add, Nat.add_zero, Nat.zero_mul, Nat.mul_one, Nat.one_mul, Nat.reduceAdd, Nat.reduceSub, Nat.reduceMul, Nat.reduceLT, Nat.reduceLeDiff, Nat.reduceEqDiff, true_and, and_true, true_implies, if_true, if_false, ite_true, reduceIte, ne_eq, not_false_eq_true, reduceCtorEq, forall_const, bne_self_eq_false, Bool.true_eq_false, Bool.false_eq_true, false_implies, and_self, implies_true, Int.toNat_zero, beq_self_eq_true, decide_true, decide_false, Bool.not_true, Bool.not_false, ↓y_lookv, y_key1, y_mlook, y_mlookn, y_mres1, y_mres0, ↓y_call, ↓y_at_old hbl, hhl', hbl, w1, upd_same, c1, hz]
      exact fin_wk hl1 (wk_tup2 (wk_agg3 wk_i wk_i .nilsLst) (.low _ (.bool _))) ⟨rfl, l, k - 1, ⟨Nat.le_refl _, by omega, by omega, .inl ⟨.mk (-1) yn [], .leaf yn, by rw [size_mk]; simp; omega, by omega, by rw [treeD_mk]; rfl⟩⟩, hx⟩
    have c2 : yt = false := by simpa using c2
    subst c2
    have hH1 : upd (upd h bl (kB vl (k - 1))) bs (sB vs l) = upd h bl (kB vl (k - 1)) := upd_self (by rw [upd_ne hne]; exact hhs)
    simp -implicitDefEqProofs only [↓symPre, symPost, y_condP, y_condG, run, lver, minD, intsD, eqAll, tupD, splice, Nat.zero_add, Nat.add_zero, Nat.zero_mul, Nat.mul_one, Nat.one_mul, Nat.reduceAdd, Nat.reduceSub, Nat.reduceMul, Nat.reduceLT, Nat.reduceLeDiff, Nat.reduceEqDiff, true_and, and_true, true_implies, if_true, if_false, ite_true, reduceIte, ne_eq, not_false_eq_true, reduceCtorEq, forall_const, bne_self_eq_false, Bool.true_eq_false, Bool.false_eq_true, false_implies, and_self, implies_true, Int.toNat_zero, beq_self_eq_true, decide_true, decide_false, Bool.not_true, Bool.not_false, ↓y_lookv, y_key1, y_mlook, y_mlookn, y_mres1, y_mres0, ↓y_call, ↓y_at_old hbl, hhl', hbl, w1, upd_same, c1, hz]
    change LowH n (upd h bl (kB vl (k - 1))) at hl1
    change upd h bl (kB vl (k - 1)) = _ at hx
    have hs1 : upd h bl (kB vl (k - 1)) bs = sB vs l := by rw [upd_ne hne]; exact hhs
    refine aloop (fun p : Nat × List Int × Nat => St.mk n ([.top, .top, .ptr bs vs 0, .ptr bl vl 0, .int .i64 (((D0 + 1 : Nat) : Int) - 1), .ptr (n + 5) 1 0, .ptr (n + 6) 1 0, .top, .top, .top, .ptr (n + 10) 1 0, .top, .ref 1 (n + 55) p.2.2 0 p.2.1.length] ++ List.replicate 27 .top ++ [.lst (g.rules.map ruleD), .int .i64 g.rules.length, .int .i64 p.1] ++ List.replicate 59 .top) (upd h bl (kB vl (k - 1)))
        (List.replicate 5 blk0 ++ [⟨1, .cells [.int .i64 g.terms, .int .i64 g.nons, .int .i64 g.start, .lst (g.rules.map ruleD)]⟩, ⟨1, .cells [.bool false, .int .i64 yn]⟩, blk0, blk0, blk0, ⟨1, .cells [.int .i64 0, .int .i64 0, .nils]⟩] ++ List.replicate 44 blk0 ++ [⟨p.2.2, .cells (p.2.1.map (.int .i64))⟩] ++ List.replicate 46 blk0))
        (fun p => p.1 ≤ g.rules.length ∧ p.2.1.length ≤ p.1 ∧ (∀ x ∈ p.2.1, ∃ (i : Nat) (ru : Ru), x = i ∧ g.rules[i]? = some ru ∧ ru.left = yn) ∧ 1 ≤ p.2.2) (fun p => g.rules.length - p.1) (0, [], 1) ⟨Nat.zero_le _, Nat.le_refl _, by simp, Nat.le_refl _⟩ ?_ ?_
    · refine le_to (List.replicate 5 .hole ++ [.old 5, .old 6, .hole, .hole, .hole, .old 10] ++ List.replicate 44 .hole ++ [.nil] ++ List.replicate 46 .hole) hl1 rfl ?_ ?_ <;> (try simp only [List.length_map]) <;> ((try simp only [y_blk_end, y_blk_hole, y_blk_nil, y_blk_old, y_wkl_end, y_wkl_top, List.replicate, List.cons_append, List.nil_append, and_true, true_and]) <;> (repeat' (first | apply And.intro | apply y_wkl | refine Exists.intro _ (And.intro rfl ?_))) <;> (try first | exact trivial | exact Wk.top _ | exact wk_int rfl | exact wk_bool rfl | exact wk_ptr rfl rfl rfl rfl | exact wk_ref rfl rfl rfl rfl rfl | exact wk_nil rfl rfl rfl | exact wk_ref rfl rfl rfl rfl (by simp) | exact wk_ref rfl rfl rfl rfl (by simp; omega) | exact wk_old (by assumption) (by simp) | exact wk_eq rfl (by first | exact Bd.int _ _ | exact Bd.bool _ | exact Bd.abool | exact Bd.nils | exact Bd.emp | exact Bd.nilp | exact Bd.nilfn | assumption | exact low_trees _ _ | exact low_treeD _ _ | exact low_ints _ _) | exact Nat.le_refl _ | exact wk_int (by simp) | exact wk_int (by omega) | exact Nat.succ_le_succ (Nat.zero_le _) | exact Nat.le_add_left _ _ | omega))
      all_goals first | exact .low _ (.ptr _ _ _ (.inl hbs)) | exact .low _ (.ptr _ _ _ (.inl hbl)) | exact wk_eq rfl (low_rules _ _)
    · rintro ⟨i, M, v⟩ ⟨hi, hM, hMr, hv⟩
      simp only at hi hM hMr hv
      by_cases hlt : i < g.rules.length
      · have f1 : (i : Int) < (g.rules.length : Int) := by omega
        have f0 : (0 : Int) ≤ (i : Int) := by omega
        have w2 : IntKind.i64.wrap ((i : Int) + 1) = ((i + 1 : Nat) : Int) := by rw [IntWalk.i64_in _ (by omega)]; omega
        have e0 : nth (g.rules.map ruleD) i = .agg [.int .i64 g.rules[i].left, .lst (g.rules[i].right.map symD)] := nth_mapF ruleD g.rules i hlt
        have hgi : g.rules[i]? = some g.rules[i] := by simp [hlt]
        generalize g.rules[i] = ru at *
        have hCt := take_all (M.map (D.int .i64)) (k := M.length) (by simp)
        have hf8 : (M.length + 1) * 8 ≤ 140737488355328 := by omega
        by_cases c3 : ru.left = yn
        · have b1 : (ru.left == yn) = true := by simp [c3]
          simp -implicitDefEqProofs only [↓symPre, symPost, y_condP, y_condG, run, lver, minD, intsD, eqAll, tupD, splice, Nat.zero_add, Nat.add_zero, Nat.zero_mul, Nat.mul_one, Nat.one_mul, Nat.reduceAdd, Nat.reduceSub, Nat.reduceMul, Nat.reduceLT, Nat.reduceLeDiff, Nat.reduceEqDiff, true_and, and_true, true_implies, if_true, if_false, ite_true, reduceIte, ne_eq, not_false_eq_true, reduceCtorEq, forall_const, bne_self_eq_false, Bool.true_eq_false, Bool.false_eq_true, false_implies, and_self, implies_true, Int.toNat_zero, beq_self_eq_true, decide_true, decide_false, Bool.not_true, Bool.not_false, ↓y_lookv, y_key1, y_mlook, y_mlookn, y_mres1, y_mres0, ↓y_call, List.length_map, f1, f0, decide_true, Int.toNat_natCast, e0, b1, w2, srcOf, Nat.le_refl, hf8, hCt]
          refine ⟨(i + 1, M ++ [(i : Int)], v + 1), ⟨by simp only; omega, by simp; omega, ?_, by simp only; omega⟩, by simp only; omega, ?_⟩
          · intro x hx
            rcases List.mem_append.1 hx with hx | hx
            · exact hMr x hx
            · simp only [List.mem_cons, List.not_mem_nil, or_false] at hx
              exact ⟨i, ru, hx, hgi, c3⟩
          simp only [List.map_append, List.map_cons, List.map_nil]
          refine le_to (List.replicate 5 .hole ++ [.old 5, .old 6, .hole, .hole, .hole, .old 10] ++ List.replicate 44 .hole ++ [.old 55] ++ List.replicate 46 .hole) hl1 rfl ?_ ?_ <;> ((try simp only [y_blk_end, y_blk_hole, y_blk_nil, y_blk_old, y_wkl_end, y_wkl_top, List.replicate, List.cons_append, List.nil_append, and_true, true_and]) <;> (repeat' (first | apply And.intro | apply y_wkl | refine Exists.intro _ (And.intro rfl ?_))) <;> (try first | exact trivial | exact Wk.top _ | exact wk_int rfl | exact wk_bool rfl | exact wk_ptr rfl rfl rfl rfl | exact wk_ref rfl rfl rfl rfl rfl | exact wk_nil rfl rfl rfl | exact wk_ref rfl rfl rfl rfl (by simp) | exact wk_ref rfl rfl rfl rfl (by simp; omega) | exact wk_old (by assumption) (by simp) | exact wk_eq rfl (by first | exact Bd.int _ _ | exact Bd.bool _ | exact Bd.abool | exact Bd.nils | exact Bd.emp | exact Bd.nilp | exact Bd.nilfn | assumption | exact low_trees _ _ | exact low_treeD _ _ | exact low_ints _ _) | exact Nat.le_refl _ | exact wk_int (by simp) | exact wk_int (by omega) | exact Nat.succ_le_succ (Nat.zero_le _) | exact Nat.le_add_left _ _ | omega))
          all_goals first | exact .low _ (.ptr _ _ _ (.inl hbs)) | exact .low _ (.ptr _ _ _ (.inl hbl)) | exact wk_eq rfl (low_rules _ _) | exact WkL.app (WkL.low (low_iD n M)) (y_wkl (wk_int rfl) trivial)
        · have b1 : (ru.left == yn) = false := by simp [c3]
          simp -implicitDefEqProofs only [↓symPre, symPost, y_condP, y_condG, run, lver, minD, intsD, eqAll, tupD, splice, Nat.zero_add, Nat.add_zero, Nat.zero_mul, Nat.mul_one, Nat.one_mul, Nat.reduceAdd, Nat.reduceSub, Nat.reduceMul, Nat.reduceLT, Nat.reduceLeDiff, Nat.reduceEqDiff, true_and, and_true, true_implies, if_true, if_false, ite_true, reduceIte, ne_eq, not_false_eq_true, reduceCtorEq, forall_const, bne_self_eq_false, Bool.true_eq_false, Bool.false_eq_true, false_implies, and_self, implies_true, Int.toNat_zero, beq_self_eq_true, decide_true, decide_false, Bool.not_true, Bool.not_false, ↓y_lookv, y_key1, y_mlook, y_mlookn, y_mres1, y_mres0, ↓y_call, List.length_map, f1, f0, decide_true, Int.toNat_natCast, e0, b1, w2]
          refine ⟨(i + 1, M, v), ⟨by simp only; omega, by simp only; omega, hMr, hv⟩, by simp only; omega, ?_⟩
          refine le_to (List.replicate 5 .hole ++ [.old 5, .old 6, .hole, .hole, .hole, .old 10] ++ List.replicate 44 .hole ++ [.old 55] ++ List.replicate 46 .hole) hl1 rfl ?_ ?_ <;> ((try simp only [y_blk_end, y_blk_hole, y_blk_nil, y_blk_old, y_wkl_end, y_wkl_top, List.replicate, List.cons_append, List.nil_append, and_true, true_and]) <;> (repeat' (first | apply And.intro | apply y_wkl | refine Exists.intro _ (And.intro rfl ?_))) <;> (try first | exact trivial | exact Wk.top _ | exact wk_int rfl | exact wk_bool rfl | exact wk_ptr rfl rfl rfl rfl | exact wk_ref rfl rfl rfl rfl rfl | exact wk_nil rfl rfl rfl | exact wk_ref rfl rfl rfl rfl (by simp) | exact wk_ref rfl rfl rfl rfl (by simp; omega) | exact wk_old (by assumption) (by simp) | exact wk_eq rfl (by first | exact Bd.int _ _ | exact Bd.bool _ | exact Bd.abool | exact Bd.nils | exact Bd.emp | exact Bd.nilp | exact Bd.nilfn | assumption | exact low_trees _ _ | exact low_treeD _ _ | exact low_ints _ _) | exact Nat.le_refl _ | exact wk_int (by simp) | exact wk_int (by omega) | exact Nat.succ_le_succ (Nat.zero_le _) | exact Nat.le_add_left _ _ | omega))
          all_goals first | exact .low _ (.ptr _ _ _ (.inl hbs)) | exact .low _ (.ptr _ _ _ (.inl hbl)) | exact wk_eq rfl (low_rules _ _) | exact WkL.low (low_iD n M)
      · have f1 : ¬ (i : Int) < (g.rules.length : Int) := by omega
        by_cases c3 : M.length = 0
        · have b1 : ((M.length : Int) == 0) = true := by simp [c3]
          simp -implicitDefEqProofs only [↓symPre, symPost, y_condP, y_condG, run, lver, minD, intsD, eqAll, tupD, splice, Nat.zero_add, Nat.add_zero, Nat.zero_mul, Nat.mul_one, Nat.one_mul, Nat.reduceAdd, Nat.reduceSub, Nat.reduceMul, Nat.reduceLT, Nat.reduceLeDiff, Nat.reduceEqDiff, true_and, and_true, true_implies, if_true, if_false, ite_true, reduceIte, ne_eq, not_false_eq_true, reduceCtorEq, forall_const, bne_self_eq_false, Bool.true_eq_false, Bool.false_eq_true, false_implies, and_self, implies_true, Int.toNat_zero, beq_self_eq_true, decide_true, decide_false, Bool.not_true, Bool.not_false, ↓y_lookv, y_key1, y_mlook, y_mlookn, y_mres1, y_mres0, ↓y_call, f1, decide_false, List.length_map, b1]
          exact fin_tree0 hl1 (Nat.le_refl _) (by omega) (by omega) hx
        · have b1 : ((M.length : Int) == 0) = false := beq_eq_false_iff_ne.2 (by omega)
          simp -implicitDefEqProofs only [↓symPre, symPost, y_condP, y_condG, run, lver, minD, intsD, eqAll, tupD, splice, Nat.zero_add, Nat.add_zero, Nat.zero_mul, Nat.mul_one, Nat.one_mul, Nat.reduceAdd, Nat.reduceSub, Nat.reduceMul, Nat.reduceLT, Nat.reduceLeDiff, Nat.reduceEqDiff, true_and, and_true, true_implies, if_true, if_false, ite_true, reduceIte, ne_eq, not_false_eq_true, reduceCtorEq, forall_const, bne_self_eq_false, Bool.true_eq_false, Bool.false_eq_true, false_implies, and_self, implies_true, Int.toNat_zero, beq_self_eq_true, decide_true, decide_false, Bool.not_true, Bool.not_false, ↓y_lookv, y_key1, y_mlook, y_mlookn, y_mres1, y_mres0, ↓y_call, f1, decide_false, List.length_map, b1]
          refine snext_callO (l := l) (k := (M.length : Int)) (ver := vs) (b := bs) (by omega) (by omega) hlen rfl rfl (by show bs < n + 102; omega) (by show mrg n _ _ bs = _; rw [mrg_lt hbs]; exact hs1) fun q l1 hq0 hq1 hl1' => ?_
          obtain ⟨q, rfl⟩ : ∃ c : Nat, q = c := ⟨q.toNat, by omega⟩
          have hq : q < M.length := by omega
          obtain ⟨ii, ru, hMq, hgi, hleft⟩ := hMr M[q] (List.getElem_mem hq)
          have e1 : nth (M.map (D.int .i64)) q = .int .i64 ii := by rw [nth_int M q hq, hMq]
          have hii : ii < g.rules.length := (List.getElem?_eq_some_iff.1 hgi).1
          have e2 : nth (g.rules.map ruleD) ii = .agg [.int .i64 ru.left, .lst (ru.right.map symD)] := by
            rw [nth_mapF ruleD g.rules ii hii, show g.rules[ii] = ru from (List.getElem?_eq_some_iff.1 hgi).2]; rfl
          have g0 : (0 : Int) ≤ (ii : Int) := by omega
          have g1 : (ii : Int) < (g.rules.length : Int) := by omega
          have hr3 := (hg.rules ru (List.mem_of_getElem? hgi)).2.2.1
          simp -implicitDefEqProofs only [↓symPre, symPost, y_condP, y_condG, run, lver, minD, intsD, eqAll, tupD, splice, Nat.zero_add, Nat.add_zero, Nat.zero_mul, Nat.mul_one, Nat.one_mul, Nat.reduceAdd, Nat.reduceSub, Nat.reduceMul, Nat.reduceLT, Nat.reduceLeDiff, Nat.reduceEqDiff, true_and, and_true, true_implies, if_true, if_false, ite_true, reduceIte, ne_eq, not_false_eq_true, reduceCtorEq, forall_const, bne_self_eq_false, Bool.true_eq_false, Bool.false_eq_true, false_implies, and_self, implies_true, Int.toNat_zero, beq_self_eq_true, decide_true, decide_false, Bool.not_true, Bool.not_false, ↓y_lookv, y_key1, y_mlook, y_mlookn, y_mres1, y_mres0, ↓y_call, hbs, hq0, hq1, hq, List.length_map, e1, e2, g0, g1, Int.toNat_natCast]
          have hcm : upd (upd h bl (kB vl (k - 1))) bs (sB vs l1) = upd (upd h bs (sB vs l1)) bl (kB vl (k - 1)) := upd_comm hne'
          have hl2 : LowH n (upd (upd h bl (kB vl (k - 1))) bs (sB vs l1)) := low_sB (low_kB hl)
          refine aloop (fun p : Nat × List Int × Int × List Tree × Nat => St.mk n ([.top, .top, .ptr bs vs 0, .ptr bl vl 0, .int .i64 (((D0 + 1 : Nat) : Int) - 1), .ptr (n + 5) 1 0, .top, .top, .top, .top, .ptr (n + 10) 1 0, .top, .top, .top, .top, .ptr (n + 15) 1 0] ++ List.replicate 59 .top ++ [.lst (ru.right.map symD), .int .i64 ru.right.length, .int .i64 p.1] ++ List.replicate 24 .top) (upd (upd h bs (sB vs p.2.1)) bl (kB vl p.2.2.1))
              (List.replicate 5 blk0 ++ [⟨1, .cells [.int .i64 g.terms, .int .i64 g.nons, .int .i64 g.start, .lst (g.rules.map ruleD)]⟩, blk0, blk0, blk0, blk0, ⟨1, .cells [.int .i64 0, .int .i64 0, .nils]⟩, blk0, blk0, blk0, blk0, ⟨1, .cells [.int .i64 ii, .int .i64 0, .ref 3 (n + 98) p.2.2.2.2 0 p.2.2.2.1.length]⟩] ++ List.replicate 82 blk0 ++ [⟨p.2.2.2.2, .cells (cellsF treeD p.2.2.2.1)⟩] ++ List.replicate 3 blk0))
              (fun p => p.1 ≤ ru.right.length ∧ p.2.1.length ≤ l.length ∧ 0 ≤ p.2.2.1 ∧ p.2.2.2.1.length = p.1 ∧ (((p.2.2.2.1.map size).sum : Nat) : Int) ≤ k - 1 - p.2.2.1 ∧ (∀ (j : Nat) (s : Sy) (t : Tree), ru.right[j]? = some s → p.2.2.2.1[j]? = some t → Der g s t) ∧ 1 ≤ p.2.2.2.2) (fun p => ru.right.length - p.1) (0, l1, k - 1, [], 1) ⟨Nat.zero_le _, hl1', by simp only; omega, rfl, by simp, by simp, Nat.le_refl _⟩ ?_ ?_
          · refine le_toh (List.replicate 5 .hole ++ [.old 5, .hole, .hole, .hole, .hole, .old 10, .hole, .hole, .hole, .hole, .old 15] ++ List.replicate 82 .hole ++ [.nil] ++ List.replicate 3 .hole) hl2 hcm.symm rfl ?_ ?_ <;> (try simp only [List.length_map, cellsF_nil]) <;> ((try simp only [y_blk_end, y_blk_hole, y_blk_nil, y_blk_old, y_wkl_end, y_wkl_top, List.replicate, List.cons_append, List.nil_append, and_true, true_and]) <;> (repeat' (first | apply And.intro | apply y_wkl | refine Exists.intro _ (And.intro rfl ?_))) <;> (try first | exact trivial | exact Wk.top _ | exact wk_int rfl | exact wk_bool rfl | exact wk_ptr rfl rfl rfl rfl | exact wk_ref rfl rfl rfl rfl rfl | exact wk_nil rfl rfl rfl | exact wk_ref rfl rfl rfl rfl (by simp) | exact wk_ref rfl rfl rfl rfl (by simp; omega) | exact wk_old (by assumption) (by simp) | exact wk_eq rfl (by first | exact Bd.int _ _ | exact Bd.bool _ | exact Bd.abool | exact Bd.nils | exact Bd.emp | exact Bd.nilp | exact Bd.nilfn | assumption | exact low_trees _ _ | exact low_treeD _ _ | exact low_ints _ _) | exact Nat.le_refl _ | exact wk_int (by simp) | exact wk_int (by omega) | exact Nat.succ_le_succ (Nat.zero_le _) | exact Nat.le_add_left _ _ | omega))
            all_goals first | exact .low _ (.ptr _ _ _ (.inl hbs)) | exact .low _ (.ptr _ _ _ (.inl hbl)) | exact wk_eq rfl (low_rules _ _) | exact wk_eq rfl (low_syms _ _)
          · rintro ⟨j, L, k', ks, u⟩ ⟨hj, hL, hk', hks, hsum, hder, hu⟩
            simp only at hj hL hk' hks hsum hder hu
            have hbs1 : upd (upd h bs (sB vs L)) bl (kB vl k') bs = sB vs L := by rw [upd_ne hne, upd_same]
            have hbl1 : upd (upd h bs (sB vs L)) bl (kB vl k') bl = kB vl k' := upd_same ..
            have hl3 : LowH n (upd (upd h bs (sB vs L)) bl (kB vl k')) := low_kB (low_sB hl)
            by_cases hjl : j < ru.right.length
            · have p1 : (j : Int) < (ru.right.length : Int) := by omega
              have p0 : (0 : Int) ≤ (j : Int) := by omega
              have w3 : IntKind.i64.wrap ((j : Int) + 1) = ((j + 1 : Nat) : Int) := by rw [IntWalk.i64_in _ (by omega)]; omega
              have w4 : IntKind.i64.wrap (((D0 + 1 : Nat) : Int) - 1 - 1) = (D0 : Int) - 1 := by rw [IntWalk.i64_in _ (by omega)]; omega
              have e3 : nth (ru.right.map symD) j = .agg [.bool ru.right[j].t, .int .i64 ru.right[j].n] := nth_mapF symD ru.right j hjl
              have hrj : ru.right[j]? = some ru.right[j] := by simp [hjl]
              have ihj := ih ru.right[j] L k'
              unfold gramD symD at ihj
              generalize ru.right[j] = s at *
              simp -implicitDefEqProofs only [↓symPre, symPost, y_condP, y_condG, run, lver, minD, intsD, eqAll, tupD, splice, Nat.zero_add, Nat.add_zero, Nat.zero_mul, Nat.mul_one, Nat.one_mul, Nat.reduceAdd, Nat.reduceSub, Nat.reduceMul, Nat.reduceLT, Nat.reduceLeDiff, Nat.reduceEqDiff, true_and, and_true, true_implies, if_true, if_false, ite_true, reduceIte, ne_eq, not_false_eq_true, reduceCtorEq, forall_const, bne_self_eq_false, Bool.true_eq_false, Bool.false_eq_true, false_implies, and_self, implies_true, Int.toNat_zero, beq_self_eq_true, decide_true, decide_false, Bool.not_true, Bool.not_false, ↓y_lookv, y_key1, y_mlook, y_mlookn, y_mres1, y_mres0, ↓y_call, p1, p0, decide_true, List.length_map, Int.toNat_natCast, e3, w4]
              refine ACalls.two (Q := TreeR g s k' L) rfl rfl (by show bs < n + 102; omega) (by show bl < n + 102; omega) (ihj _ _ bs bl vs vl (by omega) hk' (by omega) (by show bs < n + 102; omega) (by show bl < n + 102; omega) hne (by show mrg n _ _ bs = _; rw [mrg_lt hbs]; exact hbs1) (by show mrg n _ _ bl = _; rw [mrg_lt hbl]; exact hbl1)) ?_
              rintro L2 k2 d ⟨hL2, hk2, hk2', ⟨t, hdt, hst, hk20, rfl⟩ | rfl⟩
              · obtain ⟨tr, tt, tk, ht⟩ : ∃ r' t' k', t = .mk r' t' k' := by cases t; exact ⟨_, _, _, rfl⟩
                have htD : treeD t = .agg [.int .i64 tr, .int .i64 tt, .lst (tk.map treeD)] := by rw [ht, treeD_mk]
                have hcl : (cellsF treeD ks).length = ks.length * 3 := cellsF_len treeD treeD_cells ks
                have hCt := take_all (cellsF treeD ks) (k := ks.length * 3) (by rw [hcl])
                have hfit : ks.length * 3 ≤ (cellsF treeD ks).length := by omega
                have hf40 : (ks.length + 1) * 40 ≤ 140737488355328 := by omega
                have hone : cellsF treeD ks ++ [.int .i64 tr, .int .i64 tt, .lst (tk.map treeD)] = cellsF treeD (ks ++ [t]) := by rw [cellsF_app, cellsF_one, htD]; rfl
                rw [htD]
                simp -implicitDefEqProofs only [↓symPre, symPost, y_condP, y_condG, run, lver, minD, intsD, eqAll, tupD, splice, Nat.zero_add, Nat.add_zero, Nat.zero_mul, Nat.mul_one, Nat.one_mul, Nat.reduceAdd, Nat.reduceSub, Nat.reduceMul, Nat.reduceLT, Nat.reduceLeDiff, Nat.reduceEqDiff, true_and, and_true, true_implies, if_true, if_false, ite_true, reduceIte, ne_eq, not_false_eq_true, reduceCtorEq, forall_const, bne_self_eq_false, Bool.true_eq_false, Bool.false_eq_true, false_implies, and_self, implies_true, Int.toNat_zero, beq_self_eq_true, decide_true, decide_false, Bool.not_true, Bool.not_false, ↓y_lookv, y_key1, y_mlook, y_mlookn, y_mres1, y_mres0, ↓y_call, ↓y_fin_old2 (hb := hbs) (hb' := hbl), hbs, hbl, w3, srcOf, Nat.le_refl, hf40, hCt, hfit]
                refine ⟨(j + 1, L2, k2, ks ++ [t], u + 1), ⟨by simp only; omega, by simp only; omega, hk20, by simp [hks], by simp only; rw [sum_take_kids]; omega, ?_, by simp only; omega⟩, by simp only; omega, ?_⟩
                · intro j' s' t' h1 h2
                  simp only at h2
                  by_cases hj' : j' < ks.length
                  · rw [List.getElem?_append_left hj'] at h2; exact hder j' s' t' h1 h2
                  · rw [List.getElem?_append_right (by omega)] at h2
                    have : j' = j := by
                      have := (List.getElem?_eq_some_iff.1 h2).1
                      simp at this; omega
                    subst this
                    rw [hks, Nat.sub_self] at h2
                    simp at h2; subst h2
                    rw [hrj] at h1; injection h1 with h1; subst h1; exact hdt
                simp only [← hone, List.length_append, List.length_cons, List.length_nil, Nat.zero_add]
                refine le_toh (List.replicate 5 .hole ++ [.old 5, .hole, .hole, .hole, .hole, .old 10, .hole, .hole, .hole, .hole, .old 15] ++ List.replicate 82 .hole ++ [.old 98] ++ List.replicate 3 .hole) (low_kB (low_sB hl3)) (upd_two hne).symm rfl ?_ ?_ <;> ((try simp only [y_blk_end, y_blk_hole, y_blk_nil, y_blk_old, y_wkl_end, y_wkl_top, List.replicate, List.cons_append, List.nil_append, and_true, true_and]) <;> (repeat' (first | apply And.intro | apply y_wkl | refine Exists.intro _ (And.intro rfl ?_))) <;> (try first | exact trivial | exact Wk.top _ | exact wk_int rfl | exact wk_bool rfl | exact wk_ptr rfl rfl rfl rfl | exact wk_ref rfl rfl rfl rfl rfl | exact wk_nil rfl rfl rfl | exact wk_ref rfl rfl rfl rfl (by simp) | exact wk_ref rfl rfl rfl rfl (by simp; omega) | exact wk_old (by assumption) (by simp) | exact wk_eq rfl (by first | exact Bd.int _ _ | exact Bd.bool _ | exact Bd.abool | exact Bd.nils | exact Bd.emp | exact Bd.nilp | exact Bd.nilfn | assumption | exact low_trees _ _ | exact low_treeD _ _ | exact low_ints _ _) | exact Nat.le_refl _ | exact wk_int (by simp) | exact wk_int (by omega) | exact Nat.succ_le_succ (Nat.zero_le _) | exact Nat.le_add_left _ _ | omega))
                all_goals first | exact .low _ (.ptr _ _ _ (.inl hbs)) | exact .low _ (.ptr _ _ _ (.inl hbl)) | exact wk_eq rfl (low_rules _ _) | exact wk_eq rfl (low_syms _ _) | skip
                rw [hone]
                exact WkL.low (low_cellsF treeD (low_treeD n) _)
              · simp -implicitDefEqProofs only [↓symPre, symPost, y_condP, y_condG, run, lver, minD, intsD, eqAll, tupD, splice, Nat.zero_add, Nat.add_zero, Nat.zero_mul, Nat.mul_one, Nat.one_mul, Nat.reduceAdd, Nat.reduceSub, Nat.reduceMul, Nat.reduceLT, Nat.reduceLeDiff, Nat.reduceEqDiff, true_and, and_true, true_implies, if_true, if_false, ite_true, reduceIte, ne_eq, not_false_eq_true, reduceCtorEq, forall_const, bne_self_eq_false, Bool.true_eq_false, Bool.false_eq_true, false_implies, and_self, implies_true, Int.toNat_zero, beq_self_eq_true, decide_true, decide_false, Bool.not_true, Bool.not_false, ↓y_lookv, y_key1, y_mlook, y_mlookn, y_mres1, y_mres0, ↓y_call, ↓y_fin_old2 (hb := hbs) (hb' := hbl), hbs, hbl, w3]
                exact fin_tree0 (low_kB (low_sB hl3)) (by omega) (by omega) (by omega) (upd_two hne)
            · have p1 : ¬ (j : Int) < (ru.right.length : Int) := by omega
              simp -implicitDefEqProofs only [↓symPre, symPost, y_condP, y_condG, run, lver, minD, intsD, eqAll, tupD, splice, Nat.zero_add, Nat.add_zero, Nat.zero_mul, Nat.mul_one, Nat.one_mul, Nat.reduceAdd, Nat.reduceSub, Nat.reduceMul, Nat.reduceLT, Nat.reduceLeDiff, Nat.reduceEqDiff, true_and, and_true, true_implies, if_true, if_false, ite_true, reduceIte, ne_eq, not_false_eq_true, reduceCtorEq, forall_const, bne_self_eq_false, Bool.true_eq_false, Bool.false_eq_true, false_implies, and_self, implies_true, Int.toNat_zero, beq_self_eq_true, decide_true, decide_false, Bool.not_true, Bool.not_false, ↓y_lookv, y_key1, y_mlook, y_mlookn, y_mres1, y_mres0, ↓y_call, p1, decide_false]
              refine fin_wk hl3 (wk_tup2 (wk_agg3 wk_i wk_i (wk_frzF treeD treeD_cells (low_treeD n) (t := 98) rfl rfl (by simp) rfl)) (.low _ (.bool _))) ⟨rfl, L, k', ⟨by omega, by omega, by omega, .inl ⟨.mk ii 0 ks, ?_, ?_, hk', by rw [treeD_mk]⟩⟩, rfl⟩
              · subst hleft
                exact .node ii ru ks hgi (by omega) hder
              · rw [size_mk, if_neg (by omega)]; omega

theorem at_TreeM (g : Gr) (hg : okGr g) (l : List Int) (hlen : l.length < 2 ^ 60) (n : Nat) (h : Heap) : ACalls prog F_parlmake_Tree [.agg [.int .i64 g.terms, .int .i64 g.nons, .int .i64 g.start, .lst (g.rules.map ruleD)], iD l] n h fun d h' x => h' = h ∧ x = [] ∧
    ∃ (r t : Int) (ks : List Tree) (ok : Bool), d = .tup [.agg [.int .i64 r, .int .i64 t, .lst (ks.map treeD)], .bool ok] ∧ (ok = true → Der g ⟨false, g.start⟩ (.mk r t ks) ∧ size (.mk r t ks) ≤ 60) := by
  refine K_parlmake_Tree.calls fun hl => ?_
  unfold C_parlmake_Tree
  have ht := at_tree g hg 13 (by omega) ⟨false, g.start⟩ l 60
  unfold gramD symD at ht
  simp -implicitDefEqProofs only [↓symPre, symPost, y_condP, y_condG, run, lver, minD, intsD, eqAll, tupD, splice, Nat.zero_add, Nat.add_zero, Nat.zero_mul, Nat.mul_one, Nat.one_mul, Nat.reduceAdd, Nat.reduceSub, Nat.reduceMul, Nat.reduceLT, Nat.reduceLeDiff, Nat.reduceEqDiff, true_and, and_true, true_implies, if_true, if_false, ite_true, reduceIte, ne_eq, not_false_eq_true, reduceCtorEq, forall_const, bne_self_eq_false, Bool.true_eq_false, Bool.false_eq_true, false_implies, and_self, implies_true, Int.toNat_zero, beq_self_eq_true, decide_true, decide_false, Bool.not_true, Bool.not_false, ↓y_lookv, y_key1, y_mlook, y_mlookn, y_mres1, y_mres0, ↓y_call]
  refine ACalls.two (Q := TreeR g ⟨false, g.start⟩ 60 l) rfl rfl (by show n + 13 < n + 17; omega) (by show n + 6 < n + 17; omega) (ht _ _ (n + 13) (n + 6) 1 1 hlen (by omega) (by omega) (by show n + 13 < n + 17; omega) (by show n + 6 < n + 17; omega) (by omega) (by show mrg n h _ (n + 13) = _; rw [mrg_loc]; rfl) (by show mrg n h _ (n + 6) = _; rw [mrg_loc]; rfl)) ?_
  rintro L2 k2 d ⟨hL2, hk2, hk2', ⟨t, hdt, hst, hk20, rfl⟩ | rfl⟩
  · obtain ⟨tr, tt, tk, rfl⟩ : ∃ r' t' k', t = .mk r' t' k' := by cases t; exact ⟨_, _, _, rfl⟩
    rw [treeD_mk]
    simp -implicitDefEqProofs only [↓symPre, symPost, y_condP, y_condG, run, lver, minD, intsD, eqAll, tupD, splice, Nat.zero_add, Nat.add_zero, Nat.zero_mul, Nat.mul_one, Nat.one_mul, Nat.reduceAdd, Nat.reduceSub, Nat.reduceMul, Nat.reduceLT, Nat.reduceLeDiff, Nat.reduceEqDiff, true_and, and_true, true_implies, if_true, if_false, ite_true, reduceIte, ne_eq, not_false_eq_true, reduceCtorEq, forall_const, bne_self_eq_false, Bool.true_eq_false, Bool.false_eq_true, false_implies, and_self, implies_true, Int.toNat_zero, beq_self_eq_true, decide_true, decide_false, Bool.not_true, Bool.not_false, ↓y_lookv, y_key1, y_mlook, y_mlookn, y_mres1, y_mres0, ↓y_call]
    exact fin_wk hl (wk_tup2 (wk_agg3 wk_i wk_i (.low _ (low_trees n tk))) (.low _ (.bool _))) ⟨rfl, rfl, tr, tt, tk, true, rfl, fun _ => ⟨hdt, by omega⟩⟩
  · simp -implicitDefEqProofs only [↓symPre, symPost, y_condP, y_condG, run, lver, minD, intsD, eqAll, tupD, splice, Nat.zero_add, Nat.add_zero, Nat.zero_mul, Nat.mul_one, Nat.one_mul, Nat.reduceAdd, Nat.reduceSub, Nat.reduceMul, Nat.reduceLT, Nat.reduceLeDiff, Nat.reduceEqDiff, true_and, and_true, true_implies, if_true, if_false, ite_true, reduceIte, ne_eq, not_false_eq_true, reduceCtorEq, forall_const, bne_self_eq_false, Bool.true_eq_false, Bool.false_eq_true, false_implies, and_self, implies_true, Int.toNat_zero, beq_self_eq_true, decide_true, decide_false, Bool.not_true, Bool.not_false, ↓y_lookv, y_key1, y_mlook, y_mlookn, y_mres1, y_mres0, ↓y_call]
    exact fin_wk hl (wk_tup2 (wk_agg3 wk_i wk_i .nilsLst) (.low _ (.bool _))) ⟨rfl, rfl, 0, 0, [], false, rfl, fun h => by cases h⟩

end Abs
end Go.Proofs.Ytokdeeagghhliaa


/- What Leaf and Cover find; contains. -/
import Derived.Test.YtfojedaccfenfaaH5
import Derived.Test.YtfojedaccfenfaaG6
namespace Go.Proofs.Ytfojedaccfenfaa
namespace Abs
set_option linter.unusedVariables false
set_option linter.unusedSimpArgs false
set_option maxRecDepth 20000

theorem leafKs_spec : ∀ (l : List Tree) (i n : Nat), n < wlen l → ∃ (j : Nat) (k : Tree) (n' : Nat), l[j]? = some k ∧ leafKs l i n = ((i + j : Nat) : Int) :: leafP k n' ∧ n' < (wordL k).length ∧ ((l.map wordL).flatten)[n]? = (wordL k)[n']?
  | [], i, n, h => by simp [wlen_nil] at h
  | k :: l, i, n, h => by
    rw [leafKs_cons]
    by_cases c : n < (wordL k).length
    · rw [if_pos c]
      refine ⟨0, k, n, rfl, rfl, c, ?_⟩
      simp only [List.map_cons, List.flatten_cons]
      rw [List.getElem?_append_left c]
    · rw [if_neg c]
      rw [wlen_cons] at h
      obtain ⟨j, k', n', h1, h2, h3, h4⟩ := leafKs_spec l (i + 1) (n - (wordL k).length) (by omega)
      refine ⟨j + 1, k', n', by simpa using h1, ?_, h3, ?_⟩
      · rw [h2, show i + 1 + j = i + (j + 1) by omega]
      · simp only [List.map_cons, List.flatten_cons]
        rw [List.getElem?_append_right (by omega)]
        exact h4

theorem below_cons {r t : Int} {ks : List Tree} {j : Nat} {k : Tree} {p : List Int} (hr : r ≠ -1) (hk : ks[j]? = some k) : belowT (.mk r t ks) ((j : Int) :: p) = belowT k p := by
  have : ¬ (j : Int) < 0 := by omega
  simp [belowT, kidT, hr, this, hk]

theorem below_leafP : ∀ (t : Tree) (n : Nat), n < (wordL t).length → ∃ (x : Int) (ks : List Tree), belowT t (leafP t n) = some (.mk (-1) x ks) ∧ (wordL t)[n]? = some x
  | .mk r tm ks, n, h => by
    rw [leafP_mk]
    by_cases c : r = -1
    · subst c
      rw [wordL_mk, if_pos rfl] at h ⊢
      rw [if_pos rfl]
      have : n = 0 := by simp at h; omega
      subst this
      exact ⟨tm, ks, rfl, rfl⟩
    · rw [wordL_mk, if_neg c] at h ⊢
      rw [if_neg c]
      obtain ⟨j, k, n', h1, h2, h3, h4⟩ := leafKs_spec ks 0 n h
      have hm : k ∈ ks := List.mem_of_getElem? h1
      obtain ⟨x, ks', h5, h6⟩ := below_leafP k n' h3
      refine ⟨x, ks', ?_, h4.trans h6⟩
      rw [h2, Nat.zero_add, below_cons c h1]
      exact h5
termination_by t => t

theorem coverIx_off : ∀ (ks : List Tree) (i j : Nat) (low a b l : Int), coverIx ks i low a b = (some j, l) → l = low + (wlen (ks.take (j - i)) : Nat)
  | [], _, _, _, _, _, _, h => by simp [coverIx] at h
  | k :: ks, i, j, low, a, b, l, h => by
    have h0 := (coverIx_some _ _ _ _ _ _ _ h).1
    simp only [coverIx] at h
    split at h
    · simp only [Prod.mk.injEq, Option.some.injEq] at h
      obtain ⟨rfl, rfl⟩ := h
      simp [wlen_nil]
    · have h1 := (coverIx_some _ _ _ _ _ _ _ h).1
      have := coverIx_off ks (i + 1) j _ a b l h
      rw [this, show j - i = (j - (i + 1)) + 1 by omega, List.take_succ_cons, wlen_cons]
      omega

theorem flat_at (ks : List Tree) (j : Nat) (k : Tree) (h : ks[j]? = some k) : (ks.map wordL).flatten = ((ks.take j).map wordL).flatten ++ wordL k ++ ((ks.drop (j + 1)).map wordL).flatten := by
  have hj : j < ks.length := (List.getElem?_eq_some_iff.1 h).1
  have e : ks = ks.take j ++ (k :: ks.drop (j + 1)) := by
    have := List.drop_eq_getElem_cons hj
    rw [(List.getElem?_eq_some_iff.1 h).2] at this
    rw [← this, List.take_append_drop]
  conv => lhs; rw [e]
  simp

theorem seg_mid (P W S : List Int) {L a b : Nat} (hL : P.length = L) (h1 : L ≤ a) (h2 : a ≤ b) (h3 : b ≤ L + W.length) : ((P ++ W ++ S).drop a).take (b - a) = (W.drop (a - L)).take (b - a) := by
  subst hL
  have e : (P ++ W ++ S).drop a = (W ++ S).drop (a - P.length) := by
    rw [List.append_assoc, List.drop_append, List.drop_eq_nil_of_le (by omega), List.nil_append]
  rw [e, List.drop_append_of_le_length (by omega), List.take_append_of_le_length (by simp; omega)]

theorem below_coverP : ∀ (t : Tree) (a b : Nat), a ≤ b → b ≤ (wordL t).length → ∃ (s : Tree) (A B : List Int), belowT t (coverP t a b) = some s ∧ wordL s = A ++ ((wordL t).drop a).take (b - a) ++ B
  | .mk r tm ks, a, b, hab, hb => by
    rw [coverP_mk]
    have own : ∃ (s : Tree) (A B : List Int), belowT (.mk r tm ks) [] = some s ∧ wordL s = A ++ ((wordL (.mk r tm ks)).drop a).take (b - a) ++ B :=
      ⟨_, (wordL (.mk r tm ks)).take a, (wordL (.mk r tm ks)).drop b, rfl, by
        have h1 := List.take_append_drop (b - a) ((wordL (.mk r tm ks)).drop a)
        rw [List.drop_drop, show a + (b - a) = b by omega] at h1
        rw [List.append_assoc, h1, List.take_append_drop]⟩
    by_cases c : r = -1
    · rw [if_pos c]; exact own
    · rw [if_neg c]
      generalize hco : coverIx ks 0 0 a b = co
      obtain ⟨o, l⟩ := co
      cases o with
      | none => rw [coverIx_none _ _ _ _ _ _ hco]; exact own
      | some j =>
        obtain ⟨_, k, hk, h1, h2, h3, h4, h5⟩ := coverIx_some _ _ _ _ _ _ _ hco
        have ho := coverIx_off _ _ _ _ _ _ _ hco
        rw [Nat.sub_zero] at hk ho
        have hm : k ∈ ks := List.mem_of_getElem? hk
        obtain ⟨L, rfl⟩ : ∃ L : Nat, l = L := ⟨l.toNat, by omega⟩
        have hL : L = wlen (ks.take j) := by omega
        obtain ⟨s, A, B, q1, q2⟩ := below_coverP k (a - L) (b - L) (by omega) (by omega)
        refine ⟨s, A, B, ?_, ?_⟩
        · rw [h5, show (a : Int) - (L : Int) = ((a - L : Nat) : Int) by omega, show (b : Int) - (L : Int) = ((b - L : Nat) : Int) by omega, below_cons c hk]
          exact q1
        · rw [q2, wordL_mk, if_neg c, flat_at ks j k hk, show b - L - (a - L) = b - a by omega]
          have hlen : (((ks.take j).map wordL).flatten).length = L := hL.symm
          rw [seg_mid _ _ _ hlen (by omega) hab (by omega)]
termination_by t => t

theorem drop_mid {α : Type} (A v B : List α) : ((A ++ v ++ B).drop A.length).take (A.length + v.length - A.length) = v := by
  rw [List.append_assoc, List.drop_left, show A.length + v.length - A.length = v.length by omega, List.take_left]

set_option maxHeartbeats 1000000 in
theorem pure_contains (A v B : List Int) (hl60 : (A ++ v ++ B).length < 2 ^ 60) : Pure prog F_parlkeep4_contains [iD (A ++ v ++ B), iD v] (.bool true) := by
  intro n h
  refine K_parlkeep4_contains.calls fun hl => ?_
  unfold C_parlkeep4_contains
  have hmid := drop_mid A v B
  have hlen : (A ++ v ++ B).length = A.length + v.length + B.length := by simp; omega
  generalize A ++ v ++ B = w at *
  have w1 : IntKind.i64.wrap ((w.length : Int) - v.length) = (w.length : Int) - v.length := IntWalk.i64_in _ (by omega)
  have w2 : IntKind.i64.wrap ((w.length : Int) - v.length + 1) = (w.length : Int) - v.length + 1 := IntWalk.i64_in _ (by omega)
  simp -implicitDefEqProofs only [↓symPre, symPost, y_condP, y_condG, run, lver, minD, intsD, eqAll, tupD, splice, Nat.zero_add, Nat.add_zero, Nat.zero_mul, Nat.mul_one, Nat.one_mul, Nat.reduceAdd, Nat.reduceSub, Nat.reduceMul, Nat.reduceLT, Nat.reduceLeDiff, Nat.reduceEqDiff, true_and, and_true, true_implies, if_true, if_false, ite_true, reduceIte, ne_eq, not_false_eq_true, reduceCtorEq, forall_const, bne_self_eq_false, Bool.true_eq_false, Bool.false_eq_true, false_implies, and_self, implies_true, Int.toNat_zero, beq_self_eq_true, decide_true, decide_false, Bool.not_true, Bool.not_false, ↓y_call, List.length_map, w1, w2]
  refine aloop (fun i : Nat => St.mk n ([iD w, iD v] ++ List.replicate 9 .top ++ [.int .i64 ((w.length : Int) - v.length + 1), .int .i64 i] ++ List.replicate 12 .top) h (List.replicate 25 blk0)) (fun i => i ≤ A.length) (fun i => w.length - i) 0 (Nat.zero_le _) ?_ ?_
  · refine le_to (List.replicate 25 .hole) hl rfl ?_ ?_ <;> ((try simp only [y_blk_end, y_blk_hole, y_blk_nil, y_blk_old, y_wkl_end, y_wkl_top, List.replicate, List.cons_append, List.nil_append, and_true, true_and]) <;> (repeat' (first | apply And.intro | apply y_wkl | refine Exists.intro _ (And.intro rfl ?_))) <;> (try first | exact trivial | exact Wk.top _ | exact wk_int rfl | exact wk_bool rfl | exact wk_ptr rfl rfl rfl rfl | exact wk_ref rfl rfl rfl rfl rfl | exact wk_nil rfl rfl rfl | exact wk_ref rfl rfl rfl rfl (by simp) | exact wk_ref rfl rfl rfl rfl (by simp; omega) | exact wk_old (by assumption) (by simp) | exact wk_eq rfl (by first | exact Bd.int _ _ | exact Bd.bool _ | exact Bd.abool | exact Bd.nils | exact Bd.emp | exact Bd.nilp | exact Bd.nilfn | assumption | exact low_trees _ _ | exact low_treeD _ _ | exact low_ints _ _) | exact Nat.le_refl _ | exact wk_int (by simp) | exact wk_int (by omega) | exact Nat.succ_le_succ (Nat.zero_le _) | exact Nat.le_add_left _ _ | omega))
  · intro i hi
    have f1 : (i : Int) < (w.length : Int) - v.length + 1 := by omega
    have w3 : IntKind.i64.wrap ((i : Int) + (v.length : Int)) = (i : Int) + (v.length : Int) := IntWalk.i64_in _ (by omega)
    have w4 : IntKind.i64.wrap ((i : Int) + 1) = ((i + 1 : Nat) : Int) := by rw [IntWalk.i64_in _ (by omega)]; omega
    have s1 : (0 : Int) ≤ (i : Int) := by omega
    have s2 : (i : Int) ≤ (i : Int) + (v.length : Int) := by omega
    have s3 : (i : Int) + (v.length : Int) ≤ (w.length : Int) := by omega
    have t1 : ((i : Int) + (v.length : Int)).toNat = i + v.length := by omega
    have hsl : ((w.map (D.int .i64)).drop i).take (i + v.length - i) = ((w.drop i).take (i + v.length - i)).map (D.int .i64) := by rw [List.map_take, List.map_drop]
    have pE := pure_Equal ((w.drop i).take (i + v.length - i)) v (by simp; omega) (by omega)
    simp -implicitDefEqProofs only [↓symPre, symPost, y_condP, y_condG, run, lver, minD, intsD, eqAll, tupD, splice, Nat.zero_add, Nat.add_zero, Nat.zero_mul, Nat.mul_one, Nat.one_mul, Nat.reduceAdd, Nat.reduceSub, Nat.reduceMul, Nat.reduceLT, Nat.reduceLeDiff, Nat.reduceEqDiff, true_and, and_true, true_implies, if_true, if_false, ite_true, reduceIte, ne_eq, not_false_eq_true, reduceCtorEq, forall_const, bne_self_eq_false, Bool.true_eq_false, Bool.false_eq_true, false_implies, and_self, implies_true, Int.toNat_zero, beq_self_eq_true, decide_true, decide_false, Bool.not_true, Bool.not_false, ↓y_call, List.length_map, f1, decide_true, w3, s1, s2, s3, t1, Int.toNat_natCast, ints_cells, hsl]
    refine pE.call rfl ?_
    by_cases c : (w.drop i).take (i + v.length - i) = v
    · have b1 : decide ((w.drop i).take (i + v.length - i) = v) = true := by simpa using c
      simp -implicitDefEqProofs only [↓symPre, symPost, y_condP, y_condG, run, lver, minD, intsD, eqAll, tupD, splice, Nat.zero_add, Nat.add_zero, Nat.zero_mul, Nat.mul_one, Nat.one_mul, Nat.reduceAdd, Nat.reduceSub, Nat.reduceMul, Nat.reduceLT, Nat.reduceLeDiff, Nat.reduceEqDiff, true_and, and_true, true_implies, if_true, if_false, ite_true, reduceIte, ne_eq, not_false_eq_true, reduceCtorEq, forall_const, bne_self_eq_false, Bool.true_eq_false, Bool.false_eq_true, false_implies, and_self, implies_true, Int.toNat_zero, beq_self_eq_true, decide_true, decide_false, Bool.not_true, Bool.not_false, ↓y_call, b1]
      exact fin_bool hl rfl
    · have b1 : decide ((w.drop i).take (i + v.length - i) = v) = false := by simpa using c
      have hne : i ≠ A.length := fun e => c (by rw [e]; exact hmid)
      simp -implicitDefEqProofs only [↓symPre, symPost, y_condP, y_condG, run, lver, minD, intsD, eqAll, tupD, splice, Nat.zero_add, Nat.add_zero, Nat.zero_mul, Nat.mul_one, Nat.one_mul, Nat.reduceAdd, Nat.reduceSub, Nat.reduceMul, Nat.reduceLT, Nat.reduceLeDiff, Nat.reduceEqDiff, true_and, and_true, true_implies, if_true, if_false, ite_true, reduceIte, ne_eq, not_false_eq_true, reduceCtorEq, forall_const, bne_self_eq_false, Bool.true_eq_false, Bool.false_eq_true, false_implies, and_self, implies_true, Int.toNat_zero, beq_self_eq_true, decide_true, decide_false, Bool.not_true, Bool.not_false, ↓y_call, b1, w4]
      refine ⟨i + 1, by omega, by omega, ?_⟩
      refine le_to (List.replicate 25 .hole) hl rfl ?_ ?_ <;> ((try simp only [y_blk_end, y_blk_hole, y_blk_nil, y_blk_old, y_wkl_end, y_wkl_top, List.replicate, List.cons_append, List.nil_append, and_true, true_and]) <;> (repeat' (first | apply And.intro | apply y_wkl | refine Exists.intro _ (And.intro rfl ?_))) <;> (try first | exact trivial | exact Wk.top _ | exact wk_int rfl | exact wk_bool rfl | exact wk_ptr rfl rfl rfl rfl | exact wk_ref rfl rfl rfl rfl rfl | exact wk_nil rfl rfl rfl | exact wk_ref rfl rfl rfl rfl (by simp) | exact wk_ref rfl rfl rfl rfl (by simp; omega) | exact wk_old (by assumption) (by simp) | exact wk_eq rfl (by first | exact Bd.int _ _ | exact Bd.bool _ | exact Bd.abool | exact Bd.nils | exact Bd.emp | exact Bd.nilp | exact Bd.nilfn | assumption | exact low_trees _ _ | exact low_treeD _ _ | exact low_ints _ _) | exact Nat.le_refl _ | exact wk_int (by simp) | exact wk_int (by omega) | exact Nat.succ_le_succ (Nat.zero_le _) | exact Nat.le_add_left _ _ | omega))

theorem at_TreeS (g : Gr) (hg : okGr g) (l : List Int) (hlen : l.length < 2 ^ 60) (n : Nat) (h : Heap) : ACalls prog F_parlmake_Tree [.agg [.int .i64 g.terms, .int .i64 g.nons, .int .i64 g.start, .lst (g.rules.map ruleD)], iD l] n h fun d h' x => h' = h ∧ x = [] ∧
    ∃ (r t : Int) (ks : List Tree) (ok : Bool), d = .tup [.agg [.int .i64 r, .int .i64 t, .lst (ks.map treeD)], .bool ok] ∧ (ok = true → Der g ⟨false, g.start⟩ (.mk r t ks)) ∧ size (.mk r t ks) ≤ 60 := by
  refine K_parlmake_Tree.calls fun hl => ?_
  unfold C_parlmake_Tree
  have ht := at_tree g hg 13 (by omega) ⟨false, g.start⟩ l 60
  unfold gramD symD at ht
  simp -implicitDefEqProofs only [↓symPre, symPost, y_condP, y_condG, run, lver, minD, intsD, eqAll, tupD, splice, Nat.zero_add, Nat.add_zero, Nat.zero_mul, Nat.mul_one, Nat.one_mul, Nat.reduceAdd, Nat.reduceSub, Nat.reduceMul, Nat.reduceLT, Nat.reduceLeDiff, Nat.reduceEqDiff, true_and, and_true, true_implies, if_true, if_false, ite_true, reduceIte, ne_eq, not_false_eq_true, reduceCtorEq, forall_const, bne_self_eq_false, Bool.true_eq_false, Bool.false_eq_true, false_implies, and_self, implies_true, Int.toNat_zero, beq_self_eq_true, decide_true, decide_false, Bool.not_true, Bool.not_false, ↓y_call]
  refine ACalls.two (Q := TreeR g ⟨false, g.start⟩ 60 l) rfl rfl (by show n + 13 < n + 17; omega) (by show n + 6 < n + 17; omega) (ht _ _ (n + 13) (n + 6) 1 1 hlen (by omega) (by omega) (by show n + 13 < n + 17; omega) (by show n + 6 < n + 17; omega) (by omega) (by show mrg n h _ (n + 13) = _; rw [mrg_loc]; rfl) (by show mrg n h _ (n + 6) = _; rw [mrg_loc]; rfl)) ?_
  rintro L2 k2 d ⟨hL2, hk2, hk2', ⟨t, hdt, hst, hk20, rfl⟩ | rfl⟩
  · obtain ⟨tr, tt, tk, rfl⟩ : ∃ r' t' k', t = .mk r' t' k' := by cases t; exact ⟨_, _, _, rfl⟩
    rw [treeD_mk]
    simp -implicitDefEqProofs only [↓symPre, symPost, y_condP, y_condG, run, lver, minD, intsD, eqAll, tupD, splice, Nat.zero_add, Nat.add_zero, Nat.zero_mul, Nat.mul_one, Nat.one_mul, Nat.reduceAdd, Nat.reduceSub, Nat.reduceMul, Nat.reduceLT, Nat.reduceLeDiff, Nat.reduceEqDiff, true_and, and_true, true_implies, if_true, if_false, ite_true, reduceIte, ne_eq, not_false_eq_true, reduceCtorEq, forall_const, bne_self_eq_false, Bool.true_eq_false, Bool.false_eq_true, false_implies, and_self, implies_true, Int.toNat_zero, beq_self_eq_true, decide_true, decide_false, Bool.not_true, Bool.not_false, ↓y_call]
    exact fin_wk hl (wk_tup2 (wk_agg3 wk_i wk_i (.low _ (low_trees n tk))) (.low _ (.bool _))) ⟨rfl, rfl, tr, tt, tk, true, rfl, fun _ => hdt, by omega⟩
  · simp -implicitDefEqProofs only [↓symPre, symPost, y_condP, y_condG, run, lver, minD, intsD, eqAll, tupD, splice, Nat.zero_add, Nat.add_zero, Nat.zero_mul, Nat.mul_one, Nat.one_mul, Nat.reduceAdd, Nat.reduceSub, Nat.reduceMul, Nat.reduceLT, Nat.reduceLeDiff, Nat.reduceEqDiff, true_and, and_true, true_implies, if_true, if_false, ite_true, reduceIte, ne_eq, not_false_eq_true, reduceCtorEq, forall_const, bne_self_eq_false, Bool.true_eq_false, Bool.false_eq_true, false_implies, and_self, implies_true, Int.toNat_zero, beq_self_eq_true, decide_true, decide_false, Bool.not_true, Bool.not_false, ↓y_call]
    exact fin_wk hl (wk_tup2 (wk_agg3 wk_i wk_i .nilsLst) (.low _ (.bool _))) ⟨rfl, rfl, 0, 0, [], false, rfl, (fun h => by cases h), by rw [size_mk]; simp⟩


/-- what parlmake.Tree hands back: small in any case -/
theorem mtreeS_call {g : Gr} (hg : okGr g) {l : List Int} (hlen : l.length < 2 ^ 60) {s : St} {dst : Option Nat} {K : D → Chg → Prop} {N : Nat} {H : Heap} (hH : H = s.hp)
    (hK : ∀ (r t : Int) (ks : List Tree) (ok : Bool), (ok = true → Der g ⟨false, g.start⟩ (.mk r t ks)) → size (.mk r t ks) ≤ 60 → K (.tup [.agg [.int .i64 r, .int .i64 t, .lst (ks.map treeD)], .bool ok]) []) :
    ACalls prog F_parlmake_Tree [.agg [.int .i64 g.terms, .int .i64 g.nons, .int .i64 g.start, .lst (g.rules.map ruleD)], iD l] N H (callK s dst K) :=
  (at_TreeS g hg l hlen N H).mono fun d h' x ⟨h1, h2, r, t, ks, ok, h3, h4, h5⟩ => .inl ⟨[], by simp [St.inr], h2, by rw [h1, hH]; rfl, by rw [h3]; exact hK r t ks ok h4 h5⟩

end Abs
end Go.Proofs.Ytfojedaccfenfaa

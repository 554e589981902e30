/- Places, paths and leaves. -/
import Derived.Test.YtfojedaccfenfaaL4
namespace Go.Proofs.Ytfojedaccfenfaa
namespace Abs
set_option linter.unusedVariables false
set_option linter.unusedSimpArgs false
set_option maxRecDepth 20000

/-- the place of the node at a path -/
def plP (t : Tree) (f : Nat) (p : List Int) : Nat × Nat := (f + offT t p, f + offT t p + (wordL (belT t p).1).length)

theorem bel_cons {r t : Int} {ks : List Tree} {j : Nat} {k : Tree} {p : List Int} (hr : r ≠ -1) (hk : ks[j]? = some k) : belT (.mk r t ks) ((j : Int) :: p) = belT k p := by
  rw [belT, belT, below_cons hr hk]
theorem off_cons {r t : Int} {ks : List Tree} {j : Nat} {k : Tree} {p : List Int} (hk : ks[j]? = some k) : offT (.mk r t ks) ((j : Int) :: p) = wlen (ks.take j) + offT k p := by
  simp [offT, hk]

theorem places_paths : ∀ (t : Tree) (f : Nat), placesT t f = (pathsT t).map (plP t f)
  | .mk r tm ks, f => by
    rw [placesT_mk, pathsT_mk, List.map_cons]
    congr 1
    split
    · rfl
    · rename_i hr
      have key : ∀ (l : List Tree) (i : Nat), ks.drop i = l → placesK l (f + wlen (ks.take i)) = (pathsK l i).map (plP (.mk r tm ks) f) := by
        intro l
        induction l with
        | nil => intro i _; rw [placesK_nil, pathsK_nil]; rfl
        | cons k l ih =>
          intro i hl
          have hi : i < ks.length := by
            rcases Nat.lt_or_ge i ks.length with h | h
            · exact h
            · rw [List.drop_eq_nil_of_le h] at hl; cases hl
          rw [List.drop_eq_getElem_cons hi] at hl
          injection hl with h1 h2
          have hk : ks[i]? = some k := by rw [← h1]; simp [hi]
          have hm : k ∈ ks := List.mem_of_getElem? hk
          have hw := wlen_take_succ ks i hi
          rw [h1] at hw
          rw [placesK_cons, pathsK_cons, List.map_append, List.map_map, places_paths k, Nat.add_assoc f, ← hw, ih (i + 1) h2]
          congr 1
          refine List.map_congr_left fun p _ => ?_
          simp only [plP, Function.comp, bel_cons hr hk, off_cons hk]
          rw [Nat.add_assoc f]
      have := key ks 0 rfl
      simpa [wlen_nil] using this
termination_by t => t

theorem mem_pathsK : ∀ (l : List Tree) (i j : Nat) (k : Tree) (p : List Int), l[j]? = some k → p ∈ pathsT k → ((i + j : Nat) : Int) :: p ∈ pathsK l i
  | [], i, j, k, p, h, _ => by simp at h
  | x :: l, i, 0, k, p, h, hp => by
    simp at h; subst h
    rw [pathsK_cons]
    exact List.mem_append_left _ (List.mem_map.2 ⟨p, hp, rfl⟩)
  | x :: l, i, j + 1, k, p, h, hp => by
    rw [pathsK_cons]
    have := mem_pathsK l (i + 1) j k p (by simpa using h) hp
    rw [show i + 1 + j = i + (j + 1) by omega] at this
    exact List.mem_append_right _ this

theorem below_paths : ∀ (p : List Int) (t s : Tree), belowT t p = some s → p ∈ pathsT t
  | [], .mk r tm ks, s, h => by rw [pathsT_mk]; simp
  | x :: p, .mk r tm ks, s, h => by
    simp only [belowT, Option.bind_eq_some_iff] at h
    obtain ⟨k, h1, h2⟩ := h
    simp only [kidT] at h1
    by_cases c : r = -1 ∨ x < 0
    · rw [if_pos c] at h1; cases h1
    rw [if_neg c] at h1
    have c0 : ¬ r = -1 := fun h => c (.inl h)
    obtain ⟨j, rfl⟩ : ∃ j : Nat, x = j := ⟨x.toNat, by omega⟩
    rw [Int.toNat_natCast] at h1
    have := mem_pathsK ks 0 j k p h1 (below_paths p k s h2)
    rw [Nat.zero_add] at this
    rw [pathsT_mk, if_neg c0]
    exact List.mem_cons_of_mem _ this

theorem wlen_split : ∀ (l : List Tree) (n : Nat), n < wlen l → ∃ (j : Nat) (k : Tree) (n' : Nat), l[j]? = some k ∧ n' < (wordL k).length ∧ n = wlen (l.take j) + n'
  | [], n, h => by simp [wlen_nil] at h
  | k :: l, n, h => by
    by_cases c : n < (wordL k).length
    · exact ⟨0, k, n, rfl, c, by simp [wlen_nil]⟩
    · rw [wlen_cons] at h
      obtain ⟨j, k', n', h1, h2, h3⟩ := wlen_split l (n - (wordL k).length) (by omega)
      exact ⟨j + 1, k', n', by simpa using h1, h2, by rw [List.take_succ_cons, wlen_cons]; omega⟩

theorem leafKs_at : ∀ (l : List Tree) (i j : Nat) (k : Tree) (n' : Nat), l[j]? = some k → n' < (wordL k).length → leafKs l i (wlen (l.take j) + n') = ((i + j : Nat) : Int) :: leafP k n'
  | [], i, j, k, n', h, _ => by simp at h
  | x :: l, i, 0, k, n', h, hn => by
    simp at h; subst h
    rw [leafKs_cons]
    simp [wlen_nil, hn]
  | x :: l, i, j + 1, k, n', h, hn => by
    rw [leafKs_cons, List.take_succ_cons, wlen_cons, if_neg (by omega), show (wordL x).length + wlen (l.take j) + n' - (wordL x).length = wlen (l.take j) + n' by omega,
      leafKs_at l (i + 1) j k n' (by simpa using h) hn, show i + 1 + j = i + (j + 1) by omega]

theorem off_leafP : ∀ (t : Tree) (n : Nat), n < (wordL t).length → offT t (leafP t n) = n
  | .mk r tm ks, n, h => by
    rw [leafP_mk]
    by_cases c : r = -1
    · rw [if_pos c]
      rw [wordL_mk, if_pos c] at h
      simp at h
      simp [offT, h]
    · rw [if_neg c]
      rw [wordL_mk, if_neg c] at h
      obtain ⟨j, k, n', h1, h2, h3⟩ := wlen_split ks n h
      have hm : k ∈ ks := List.mem_of_getElem? h1
      rw [h3, leafKs_at ks 0 j k n' h1 h2, Nat.zero_add, off_cons h1, off_leafP k n' h2]
termination_by t => t

theorem leaf_path : ∀ (p : List Int) (t : Tree) (x : Int) (ks : List Tree), belowT t p = some (.mk (-1) x ks) → offT t p < (wordL t).length ∧ leafP t (offT t p) = p
  | [], t, x, ks, h => by
    simp [belowT] at h
    subst h
    simp [offT, wordL_mk, leafP_mk]
  | i :: p, .mk r tm ks', x, ks, h => by
    simp only [belowT, Option.bind_eq_some_iff] at h
    obtain ⟨k, h1, h2⟩ := h
    simp only [kidT] at h1
    by_cases c : r = -1 ∨ i < 0
    · rw [if_pos c] at h1; cases h1
    rw [if_neg c] at h1
    have c0 : ¬ r = -1 := fun h => c (.inl h)
    obtain ⟨j, rfl⟩ : ∃ j : Nat, i = j := ⟨i.toNat, by omega⟩
    rw [Int.toNat_natCast] at h1
    obtain ⟨q1, q2⟩ := leaf_path p k x ks h2
    have hj : j < ks'.length := (List.getElem?_eq_some_iff.1 h1).1
    have hjk : ks'[j] = k := (List.getElem?_eq_some_iff.1 h1).2
    have hw := wlen_take_succ ks' j hj
    have hw2 := wlen_take_le ks' (j + 1)
    rw [hjk] at hw
    rw [off_cons h1, wordL_mk, if_neg c0, leafP_mk, if_neg c0, leafKs_at ks' 0 j k _ h1 q1, q2, Nat.zero_add]
    exact ⟨by change _ < wlen ks'; omega, rfl⟩

/-- a path leads to leaf number n -/
def leafAt (t : Tree) (n : Int) (p : List Int) : Bool := decide (rootR (belT t p).1 = -1) && decide ((offT t p : Int) = n)
where rootR : Tree → Int | .mk r _ _ => r

theorem leafAt_spec {t : Tree} {n : Int} {p : List Int} (hp : p ∈ pathsT t) (h : leafAt t n p = true) : 0 ≤ n ∧ n < (wordL t).length ∧ p = leafP t n.toNat := by
  obtain ⟨s, hs⟩ := paths_below t p hp
  simp only [leafAt, Bool.and_eq_true, decide_eq_true_eq, belT, hs] at h
  obtain ⟨h1, h2⟩ := h
  obtain ⟨r, x, ks, rfl⟩ : ∃ r t' k, s = .mk r t' k := by cases s; exact ⟨_, _, _, rfl⟩
  simp only [leafAt.rootR] at h1
  subst h1
  obtain ⟨q1, q2⟩ := leaf_path p t x ks hs
  subst h2
  rw [Int.toNat_natCast]
  exact ⟨by omega, by omega, q2.symm⟩
theorem leafAt_ex {t : Tree} {n : Nat} (h : n < (wordL t).length) : ∃ p ∈ pathsT t, leafAt t n p = true := by
  obtain ⟨x, ks, h1, h2⟩ := below_leafP t n h
  refine ⟨leafP t n, below_paths _ t _ h1, ?_⟩
  simp only [leafAt, belT, h1, off_leafP t n h, leafAt.rootR]
  simp

/-- what the loop over the paths has found -/
def foundP (t : Tree) (n : Int) (l : List (List Int)) : Bool := l.any (leafAt t n)
def lastP (t : Tree) (n : Int) : List (List Int) → List Int → List Int
  | [], q => q
  | p :: l, q => lastP t n l (if leafAt t n p then p else q)
theorem lastP_app (t : Tree) (n : Int) : ∀ (a b : List (List Int)) (q : List Int), lastP t n (a ++ b) q = lastP t n b (lastP t n a q)
  | [], b, q => rfl
  | p :: a, b, q => by rw [List.cons_append, lastP, lastP, lastP_app t n a]
theorem lastP_spec {t : Tree} {n : Int} : ∀ (l : List (List Int)) (q : List Int), (∀ p ∈ l, p ∈ pathsT t) → lastP t n l q = if foundP t n l then leafP t n.toNat else q
  | [], q, _ => rfl
  | p :: l, q, h => by
    rw [lastP, lastP_spec l _ fun p hp => h p (by simp [hp])]
    by_cases c : leafAt t n p = true
    · obtain ⟨_, _, h3⟩ := leafAt_spec (h p (by simp)) c
      simp only [foundP, List.any_cons, c, Bool.true_or, if_true, ← h3, ite_self]
    · have c : leafAt t n p = false := by simpa using c
      simp [foundP, c]
theorem found_iff {t : Tree} {n : Int} : foundP t n (pathsT t) = decide (0 ≤ n ∧ n < (wordL t).length) := by
  by_cases h : 0 ≤ n ∧ n < (wordL t).length
  · rw [decide_eq_true h]
    obtain ⟨m, rfl⟩ : ∃ m : Nat, n = m := ⟨n.toNat, by omega⟩
    obtain ⟨p, h1, h2⟩ := leafAt_ex (t := t) (n := m) (by omega)
    exact List.any_eq_true.2 ⟨p, h1, h2⟩
  · rw [decide_eq_false h]
    refine Bool.eq_false_iff.2 fun hf => ?_
    obtain ⟨p, h1, h2⟩ := List.any_eq_true.1 hf
    obtain ⟨q1, q2, _⟩ := leafAt_spec h1 h2
    exact h ⟨q1, q2⟩

theorem leafP_len (t : Tree) (n : Nat) : (leafP t n).length ≤ size t := by
  have key : ∀ (l : List Tree), (∀ k ∈ l, ∀ n, (leafP k n).length ≤ size k) → ∀ (i n : Nat), (leafKs l i n).length ≤ 1 + (l.map size).sum := by
    intro l
    induction l with
    | nil => intro _ i n; rw [leafKs]; simp
    | cons k l ih =>
      intro h i n
      rw [leafKs_cons]
      have h1 := h k (by simp) n
      have h2 := ih (fun k hk => h k (by simp [hk])) (i + 1) (n - (wordL k).length)
      split <;> simp <;> omega
  match t with
  | .mk r tm ks =>
    rw [leafP_mk, size_mk]
    split
    · simp
    · exact key ks (fun k hk n => leafP_len k n) 0 n
termination_by t

theorem coverP_len (t : Tree) (a b : Int) : (coverP t a b).length ≤ size t := by
  have key : ∀ (l : List Tree), (∀ k ∈ l, ∀ a b, (coverP k a b).length ≤ size k) → ∀ (i : Nat) (low a b : Int), (coverK l i low a b).length ≤ 1 + (l.map size).sum := by
    intro l
    induction l with
    | nil => intro _ i low a b; rw [coverK]; simp
    | cons k l ih =>
      intro h i low a b
      rw [coverK]
      have h1 := h k (by simp) (a - low) (b - low)
      have h2 := ih (fun k hk => h k (by simp [hk])) (i + 1) (low + (wordL k).length) a b
      split <;> simp <;> omega
  match t with
  | .mk r tm ks =>
    rw [coverP_mk, size_mk]
    split
    · simp
    · exact key ks (fun k hk a b => coverP_len k a b) 0 0 a b
termination_by t

theorem pure_LeafBad (t : Tree) (m : Int) (hsz : size t * 40 ≤ 140737488355328) (hm : ¬ (0 ≤ m ∧ m < (wordL t).length)) : Pure prog F_tree_Leaf [treeD t, .int .i64 m] (.tup [iD [], .int .i64 5]) := by
  intro n h
  have pw := pure_Word t hsz
  obtain ⟨r0, t0, k0, ht⟩ : ∃ r t' k, t = .mk r t' k := by cases t; exact ⟨_, _, _, rfl⟩
  have htD : treeD t = .agg [.int .i64 r0, .int .i64 t0, .lst (k0.map treeD)] := by rw [ht, treeD_mk]
  rw [htD] at pw ⊢
  refine K_tree_Leaf.calls fun hl => ?_
  unfold C_tree_Leaf
  have done : ∀ {sl : List D} {lc : List Blk}, Fin (St.mk n sl h lc) (fun d h' x => h' = h ∧ x = [] ∧ d = .tup [iD [], .int .i64 5]) [.nils, .int .i64 5] := fun {sl lc} => fin_wk hl (wk_tup2 .nilsLst wk_i) ⟨rfl, rfl, rfl⟩
  by_cases g0 : m < 0
  · simp -implicitDefEqProofs only [↓symPre, symPost, y_condP, y_condG, run, lver, minD, intsD, eqAll, tupD, splice, Nat.zero_add, Nat.add_zero, Nat.zero_mul, Nat.mul_one, Nat.one_mul, Nat.reduceAdd, Nat.reduceSub, Nat.reduceMul, Nat.reduceLT, Nat.reduceLeDiff, Nat.reduceEqDiff, true_and, and_true, true_implies, if_true, if_false, ite_true, reduceIte, ne_eq, not_false_eq_true, reduceCtorEq, forall_const, bne_self_eq_false, Bool.true_eq_false, Bool.false_eq_true, false_implies, and_self, implies_true, Int.toNat_zero, beq_self_eq_true, decide_true, decide_false, Bool.not_true, Bool.not_false, ↓y_call, g0]
    exact done
  · have g1 : m ≥ ((wordL t).length : Int) := by omega
    simp -implicitDefEqProofs only [↓symPre, symPost, y_condP, y_condG, run, lver, minD, intsD, eqAll, tupD, splice, Nat.zero_add, Nat.add_zero, Nat.zero_mul, Nat.mul_one, Nat.one_mul, Nat.reduceAdd, Nat.reduceSub, Nat.reduceMul, Nat.reduceLT, Nat.reduceLeDiff, Nat.reduceEqDiff, true_and, and_true, true_implies, if_true, if_false, ite_true, reduceIte, ne_eq, not_false_eq_true, reduceCtorEq, forall_const, bne_self_eq_false, Bool.true_eq_false, Bool.false_eq_true, false_implies, and_self, implies_true, Int.toNat_zero, beq_self_eq_true, decide_true, decide_false, Bool.not_true, Bool.not_false, ↓y_call, g0]
    refine pw.call rfl ?_
    simp -implicitDefEqProofs only [↓symPre, symPost, y_condP, y_condG, run, lver, minD, intsD, eqAll, tupD, splice, Nat.zero_add, Nat.add_zero, Nat.zero_mul, Nat.mul_one, Nat.one_mul, Nat.reduceAdd, Nat.reduceSub, Nat.reduceMul, Nat.reduceLT, Nat.reduceLeDiff, Nat.reduceEqDiff, true_and, and_true, true_implies, if_true, if_false, ite_true, reduceIte, ne_eq, not_false_eq_true, reduceCtorEq, forall_const, bne_self_eq_false, Bool.true_eq_false, Bool.false_eq_true, false_implies, and_self, implies_true, Int.toNat_zero, beq_self_eq_true, decide_true, decide_false, Bool.not_true, Bool.not_false, ↓y_call, List.length_map, g1]
    exact done

end Abs
end Go.Proofs.Ytfojedaccfenfaa

/- Comparisons; grammars. -/
import Derived.Test.YtbdcklchcdkhbaaA26
import Derived.Test.YtbdcklchcdkhbaaB
namespace Go.Proofs.Ytbdcklchcdkhbaa
namespace Abs
set_option linter.unusedVariables false
set_option linter.unusedSimpArgs false
set_option maxRecDepth 20000

theorem hmix : prog.follows .mixedOrders = true := by kernel_rfl

theorem sum_take_succ : ∀ (l : List Nat) (i : Nat) (hi : i < l.length), (l.take (i + 1)).sum = (l.take i).sum + l[i]
  | [], i, hi => by simp at hi
  | a :: l, 0, hi => by simp
  | a :: l, i + 1, hi => by
    have := sum_take_succ l i (by simpa using hi)
    simp only [List.take_succ_cons, List.sum_cons, List.getElem_cons_succ] at this ⊢
    omega
theorem sum_take_le : ∀ (l : List Nat) (i : Nat), (l.take i).sum ≤ l.sum
  | [], i => by simp
  | a :: l, 0 => by simp
  | a :: l, i + 1 => by
    have := sum_take_le l i
    simp only [List.take_succ_cons, List.sum_cons]
    omega
theorem low_ints (n : Nat) (l : List Int) : Low n (.lst (l.map (.int .i64))) := by
  refine .lst _ fun c hc => ?_
  obtain ⟨k, hk, rfl⟩ := List.mem_map.1 hc
  exact .int ..

def cmpI (a b : Int) : Int := if a < b then -1 else if a > b then 1 else 0

theorem pure_isNaN (a : Int) : Pure prog F_cmp_isNaN_int [.int .i64 a] (.bool false) := by
  intro n h
  refine K_cmp_isNaN_int.calls fun hl => ?_
  unfold C_cmp_isNaN_int
  simp -implicitDefEqProofs only [↓symPre, symPost, y_condP, y_condG, run, lver, minD, intsD, eqAll, tupD, splice, Nat.zero_add, Nat.add_zero, Nat.zero_mul, Nat.mul_one, Nat.one_mul, Nat.reduceAdd, Nat.reduceSub, Nat.reduceMul, Nat.reduceLT, Nat.reduceLeDiff, Nat.reduceEqDiff, true_and, and_true, true_implies, if_true, if_false, ite_true, reduceIte, ne_eq, not_false_eq_true, reduceCtorEq, forall_const, bne_self_eq_false, Bool.true_eq_false, Bool.false_eq_true, false_implies, and_self, implies_true, Int.toNat_zero, beq_self_eq_true, decide_true, decide_false, Bool.not_true, Bool.not_false, ↓y_lookv, y_key1, y_mlook, y_mlookn, y_mres1, y_mres0]
  exact fin_low hl (.bool _) ⟨rfl, rfl, rfl⟩

theorem pure_cmp (a b : Int) : Pure prog F_cmp_Compare_int [.int .i64 a, .int .i64 b] (.int .i64 (cmpI a b)) := by
  intro n h
  refine K_cmp_Compare_int.calls fun hl => ?_
  unfold C_cmp_Compare_int
  simp -implicitDefEqProofs only [↓symPre, symPost, y_condP, y_condG, run, lver, minD, intsD, eqAll, tupD, splice, Nat.zero_add, Nat.add_zero, Nat.zero_mul, Nat.mul_one, Nat.one_mul, Nat.reduceAdd, Nat.reduceSub, Nat.reduceMul, Nat.reduceLT, Nat.reduceLeDiff, Nat.reduceEqDiff, true_and, and_true, true_implies, if_true, if_false, ite_true, reduceIte, ne_eq, not_false_eq_true, reduceCtorEq, forall_const, bne_self_eq_false, Bool.true_eq_false, Bool.false_eq_true, false_implies, and_self, implies_true, Int.toNat_zero, beq_self_eq_true, decide_true, decide_false, Bool.not_true, Bool.not_false, ↓y_lookv, y_key1, y_mlook, y_mlookn, y_mres1, y_mres0, ↓y_call]
  refine (pure_isNaN a).call rfl ?_
  simp -implicitDefEqProofs only [↓symPre, symPost, y_condP, y_condG, run, lver, minD, intsD, eqAll, tupD, splice, Nat.zero_add, Nat.add_zero, Nat.zero_mul, Nat.mul_one, Nat.one_mul, Nat.reduceAdd, Nat.reduceSub, Nat.reduceMul, Nat.reduceLT, Nat.reduceLeDiff, Nat.reduceEqDiff, true_and, and_true, true_implies, if_true, if_false, ite_true, reduceIte, ne_eq, not_false_eq_true, reduceCtorEq, forall_const, bne_self_eq_false, Bool.true_eq_false, Bool.false_eq_true, false_implies, and_self, implies_true, Int.toNat_zero, beq_self_eq_true, decide_true, decide_false, Bool.not_true, Bool.not_false, ↓y_lookv, y_key1, y_mlook, y_mlookn, y_mres1, y_mres0, ↓y_call]
  refine (pure_isNaN b).call rfl ?_
  simp -implicitDefEqProofs only [↓symPre, symPost, y_condP, y_condG, run, lver, minD, intsD, eqAll, tupD, splice, Nat.zero_add, Nat.add_zero, Nat.zero_mul, Nat.mul_one, Nat.one_mul, Nat.reduceAdd, Nat.reduceSub, Nat.reduceMul, Nat.reduceLT, Nat.reduceLeDiff, Nat.reduceEqDiff, true_and, and_true, true_implies, if_true, if_false, ite_true, reduceIte, ne_eq, not_false_eq_true, reduceCtorEq, forall_const, bne_self_eq_false, Bool.true_eq_false, Bool.false_eq_true, false_implies, and_self, implies_true, Int.toNat_zero, beq_self_eq_true, decide_true, decide_false, Bool.not_true, Bool.not_false, ↓y_lookv, y_key1, y_mlook, y_mlookn, y_mres1, y_mres0, ↓y_call]
  refine ⟨fun h1 => ?_, fun h1 => ⟨fun h2 => ?_, fun h2 => ?_⟩⟩
  · refine fin_int hl ?_
    simp [cmpI, of_decide_eq_true h1]
  · refine fin_int hl ?_
    have h1 := of_decide_eq_false h1
    have h2 := of_decide_eq_true h2
    simp [cmpI, h1, h2]
  · refine fin_int hl ?_
    have h1 := of_decide_eq_false h1
    have h2 := of_decide_eq_false h2
    simp [cmpI, h1, h2]

theorem nth_ints (l : List Int) (i : Nat) (hi : i < l.length) : nth (l.map (D.int .i64)) i = .int .i64 l[i] := by
  simp [nth, List.getD, hi]

section
variable {α : Type} (f : α → D)
def cellsF (l : List α) : List D := (l.map f).flatMap D.cells
theorem cellsF_nil : cellsF f [] = [] := rfl
theorem cellsF_app (a b : List α) : cellsF f (a ++ b) = cellsF f a ++ cellsF f b := by simp [cellsF]
theorem cellsF_one (x : α) : cellsF f [x] = (f x).cells := by simp [cellsF]
theorem cellsF_len {sz : Nat} (hsz : ∀ x, (f x).cells.length = sz) : ∀ l : List α, (cellsF f l).length = l.length * sz
  | [] => by simp [cellsF]
  | t :: ts => by
    have := cellsF_len hsz ts
    have h3 := hsz t
    simp only [cellsF, List.map_cons, List.flatMap_cons, List.length_append, List.length_cons, Nat.add_mul] at this ⊢
    omega
theorem cellsF_get {sz : Nat} (hsz : ∀ x, (f x).cells.length = sz) : ∀ (l : List α) (i j : Nat) (x : α) (e : D), l[i]? = some x → (f x).cells[j]? = some e → (cellsF f l)[i * sz + j]? = some e
  | [], i, j, x, e, h, _ => by simp at h
  | a :: O, 0, j, x, e, h, he => by
    simp only [List.getElem?_cons_zero, Option.some.injEq] at h
    subst h
    have hj : j < (f a).cells.length := (List.getElem?_eq_some_iff.1 he).1
    simp only [cellsF, List.map_cons, List.flatMap_cons, Nat.zero_mul, Nat.zero_add]
    rw [List.getElem?_append_left hj]; exact he
  | a :: O, i + 1, j, x, e, h, he => by
    have := cellsF_get hsz O i j x e (by simpa using h) he
    have h3 := hsz a
    simp only [cellsF, List.map_cons, List.flatMap_cons] at this ⊢
    rw [List.getElem?_append_right (by rw [Nat.add_mul]; omega), show (i + 1) * sz + j - (f a).cells.length = i * sz + j by rw [Nat.add_mul]; omega]
    exact this
theorem low_cellsF {n : Nat} (hlow : ∀ x, Low n (f x)) (l : List α) : ∀ c ∈ cellsF f l, Low n c := by
  intro c hc
  simp only [cellsF, List.mem_flatMap, List.mem_map] at hc
  obtain ⟨d, ⟨t, ht, rfl⟩, hc⟩ := hc
  exact (hlow t).cells c hc
theorem low_lstF {n : Nat} (hlow : ∀ x, Low n (f x)) (l : List α) : Low n (.lst (l.map f)) := by
  refine .lst _ fun c hc => ?_
  obtain ⟨k, hk, rfl⟩ := List.mem_map.1 hc
  exact hlow k
theorem nth_mapF (l : List α) (i : Nat) (hi : i < l.length) : nth (l.map f) i = f l[i] := by simp [nth, List.getD, hi]

/-- a slice that is held to be data from now on -/
theorem wk_frzF {X : Wx} {sz : Nat} (hsz : ∀ x, (f x).cells.length = sz) (hlow : ∀ x, Low X.n (f x)) {b t ver len : Nat} {l : List α} (e : b = X.n + t) (hb : X.lc[t]? = some ⟨ver, .cells (cellsF f l)⟩) (hg : Src1.old t ∉ X.g) (hl : len = l.length) :
    Wk X (.ref sz b ver 0 len) (.lst (l.map f)) := by
  subst hl; subst e
  refine .frz sz t ver 0 l.length (cellsF f l) _ hb hg (by simp) (by rw [cellsF_len f hsz]; omega) (fun d hd => ?_) fun i d hd j e he => ?_
  · obtain ⟨x, _, rfl⟩ := List.mem_map.1 hd; exact hsz x
  · simp only [List.getElem?_map, Option.map_eq_some_iff] at hd
    obtain ⟨x, hx, rfl⟩ := hd
    have := cellsF_get f hsz l i j x e hx he
    have e1 : nth (cellsF f l) (0 + i * sz + j) = e := by simp [nth, List.getD, this]
    rw [e1]
    exact .low _ ((hlow x).cells e (List.mem_of_getElem? he))

/-- a live slice, read as data -/
theorem fz_F {N : Nat} {H : Heap} {sz : Nat} (hsz : ∀ x, (f x).cells.length = sz) (hlow : ∀ x, Low 0 (f x)) {b ver len : Nat} {l : List α} (hb : b < N) (hH : H b = ⟨ver, .cells (cellsF f l)⟩) (hl : len = l.length) : Wk (FX N H) (.ref sz b ver 0 len) (.lst (l.map f)) :=
  wk_frzF f (X := FX N H) hsz hlow (Nat.zero_add b).symm (by simp [FX, hb, hH]) (by simp [FX]) hl
end

theorem WkL.app {X : Wx} : ∀ {a a' b b' : List D}, WkL X a a' → WkL X b b' → WkL X (a ++ b) (a' ++ b')
  | [], [], b, b', _, h => h
  | [], _ :: _, _, _, h, _ => by simp [WkL] at h
  | _ :: _, [], _, _, h, _ => by simp [WkL] at h
  | d :: a, d' :: a', b, b', h, h2 => by
    cases d' with
    | top => simp only [List.cons_append, y_wkl_top] at h ⊢; exact WkL.app h h2
    | _ => simp only [WkL] at h; exact y_wkl h.1 (WkL.app h.2 h2)

theorem wk_agg2 {X : Wx} {a b a' b' : D} (h1 : Wk X a a') (h2 : Wk X b b') : Wk X (.agg [a, b]) (.agg [a', b']) :=
  .agg _ _ rfl fun i c c' hc hc' => by
    rcases i with _ | _ | i
    · simp at hc hc'; subst hc; subst hc'; exact h1
    · simp at hc hc'; subst hc; subst hc'; exact h2
    · simp at hc

/-! ### grammars -/
structure Sy where
  t : Bool
  n : Int
  deriving DecidableEq
structure Ru where
  left : Int
  right : List Sy
  deriving DecidableEq
structure Gr where
  terms : Int
  nons : Int
  start : Int
  rules : List Ru

def symD (s : Sy) : D := .agg [.bool s.t, .int .i64 s.n]
def ruleD (r : Ru) : D := .agg [.int .i64 r.left, .lst (r.right.map symD)]
def gramD (g : Gr) : D := .agg [.int .i64 g.terms, .int .i64 g.nons, .int .i64 g.start, .lst (g.rules.map ruleD)]
theorem symD_cells (s : Sy) : (symD s).cells.length = 2 := rfl
theorem ruleD_cells (r : Ru) : (ruleD r).cells.length = 2 := rfl
theorem low_symD (n : Nat) (s : Sy) : Low n (symD s) := by
  refine .agg _ fun c hc => ?_
  simp only [List.mem_cons, List.not_mem_nil, or_false] at hc
  rcases hc with rfl | rfl
  · exact .bool _
  · exact .int ..
theorem low_ruleD (n : Nat) (r : Ru) : Low n (ruleD r) := by
  refine .agg _ fun c hc => ?_
  simp only [List.mem_cons, List.not_mem_nil, or_false] at hc
  rcases hc with rfl | rfl
  · exact .int ..
  · exact low_lstF symD (low_symD n) _
theorem low_gramD (n : Nat) (g : Gr) : Low n (gramD g) := by
  refine .agg _ fun c hc => ?_
  simp only [List.mem_cons, List.not_mem_nil, or_false] at hc
  rcases hc with rfl | rfl | rfl | rfl
  · exact .int ..
  · exact .int ..
  · exact .int ..
  · exact low_lstF ruleD (low_ruleD n) _

theorem take_all {α : Type} (l : List α) {k : Nat} (h : k = l.length) : l.take k = l := by rw [h, List.take_length]

theorem low_rules (n : Nat) (l : List Ru) : Low n (.lst (l.map ruleD)) := low_lstF ruleD (low_ruleD n) l

theorem low_syms (n : Nat) (l : List Sy) : Low n (.lst (l.map symD)) := low_lstF symD (low_symD n) l


end Abs
end Go.Proofs.Ytbdcklchcdkhbaa

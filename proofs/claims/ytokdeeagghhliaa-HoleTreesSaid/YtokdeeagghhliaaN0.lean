/- Comparisons; grammars; expressions; what a stream gives. Put together by tools/genN0.py out of other texts. -/
import Derived.Test.YtokdeeagghhliaaA26
import Derived.Test.YtokdeeagghhliaaB
namespace Go.Proofs.Ytokdeeagghhliaa
namespace Abs
set_option linter.unusedVariables false
set_option linter.unusedSimpArgs false
set_option maxRecDepth 20000

theorem hmix : prog.follows .mixedOrders = true := by kernel_rfl

theorem sum_take_succ : ∀ (l : List Nat) (i : Nat) (hi : i < l.length), (l.take (i + 1)).sum = (l.take i).sum + l[i]
  | [], i, hi => by simp at hi
  | a :: l, 0, hi => by simp
  | a :: l, i + 1, hi => by
    have := sum_take_succ l i (by simpa using hi)
    simp only [List.take_succ_cons, List.sum_cons, List.getElem_cons_succ] at this ⊢
    omega
theorem sum_take_le : ∀ (l : List Nat) (i : Nat), (l.take i).sum ≤ l.sum
  | [], i => by simp
  | a :: l, 0 => by simp
  | a :: l, i + 1 => by
    have := sum_take_le l i
    simp only [List.take_succ_cons, List.sum_cons]
    omega
theorem low_ints (n : Nat) (l : List Int) : Low n (.lst (l.map (.int .i64))) := by
  refine .lst _ fun c hc => ?_
  obtain ⟨k, hk, rfl⟩ := List.mem_map.1 hc
  exact .int ..

def cmpI (a b : Int) : Int := if a < b then -1 else if a > b then 1 else 0

theorem pure_isNaN (a : Int) : Pure prog F_cmp_isNaN_int [.int .i64 a] (.bool false) := by
  intro n h
  refine K_cmp_isNaN_int.calls fun hl => ?_
  unfold C_cmp_isNaN_int
  simp -implicitDefEqProofs only [↓symPre, symPost, y_condP, y_condG, run, lver, minD, intsD, eqAll, tupD, splice, Nat.zero_add, Nat.add_zero, Nat.zero_mul, Nat.mul_one, Nat.one_mul, Nat.reduceAdd, Nat.reduceSub, Nat.reduceMul, Nat.reduceLT, Nat.reduceLeDiff, Nat.reduceEqDiff, true_and, and_true, true_implies, if_true, if_false, ite_true, reduceIte, ne_eq, not_false_eq_true, reduceCtorEq, forall_const, bne_self_eq_false, Bool.true_eq_false, Bool.false_eq_true, false_implies, and_self, implies_true, Int.toNat_zero, beq_self_eq_true, decide_true, decide_false, Bool.not_true, Bool.not_false, ↓y_lookv, y_key1, y_mlook, y_mlookn, y_mres1, y_mres0]
  exact fin_low hl (.bool _) ⟨rfl, rfl, rfl⟩

theorem pure_cmp (a b : Int) : Pure prog F_cmp_Compare_int [.int .i64 a, .int .i64 b] (.int .i64 (cmpI a b)) := by
  intro n h
  refine K_cmp_Compare_int.calls fun hl => ?_
  unfold C_cmp_Compare_int
  simp -implicitDefEqProofs only [↓symPre, symPost, y_condP, y_condG, run, lver, minD, intsD, eqAll, tupD, splice, Nat.zero_add, Nat.add_zero, Nat.zero_mul, Nat.mul_one, Nat.one_mul, Nat.reduceAdd, Nat.reduceSub, Nat.reduceMul, Nat.reduceLT, Nat.reduceLeDiff, Nat.reduceEqDiff, true_and, and_true, true_implies, if_true, if_false, ite_true, reduceIte, ne_eq, not_false_eq_true, reduceCtorEq, forall_const, bne_self_eq_false, Bool.true_eq_false, Bool.false_eq_true, false_implies, and_self, implies_true, Int.toNat_zero, beq_self_eq_true, decide_true, decide_false, Bool.not_true, Bool.not_false, ↓y_lookv, y_key1, y_mlook, y_mlookn, y_mres1, y_mres0, ↓y_call]
  refine (pure_isNaN a).call rfl ?_
  simp -implicitDefEqProofs only [↓symPre, symPost, y_condP, y_condG, run, lver, minD, intsD, eqAll, tupD, splice, Nat.zero_add, Nat.add_zero, Nat.zero_mul, Nat.mul_one, Nat.one_mul, Nat.reduceAdd, Nat.reduceSub, Nat.reduceMul, Nat.reduceLT, Nat.reduceLeDiff, Nat.reduceEqDiff, true_and, and_true, true_implies, if_true, if_false, ite_true, reduceIte, ne_eq, not_false_eq_true, reduceCtorEq, forall_const, bne_self_eq_false, Bool.true_eq_false, Bool.false_eq_true, false_implies, and_self, implies_true, Int.toNat_zero, beq_self_eq_true, decide_true, decide_false, Bool.not_true, Bool.not_false, ↓y_lookv, y_key1, y_mlook, y_mlookn, y_mres1, y_mres0, ↓y_call]
  refine (pure_isNaN b).call rfl ?_
  simp -implicitDefEqProofs only [↓symPre, symPost, y_condP, y_condG, run, lver, minD, intsD, eqAll, tupD, splice, Nat.zero_add, Nat.add_zero, Nat.zero_mul, Nat.mul_one, Nat.one_mul, Nat.reduceAdd, Nat.reduceSub, Nat.reduceMul, Nat.reduceLT, Nat.reduceLeDiff, Nat.reduceEqDiff, true_and, and_true, true_implies, if_true, if_false, ite_true, reduceIte, ne_eq, not_false_eq_true, reduceCtorEq, forall_const, bne_self_eq_false, Bool.true_eq_false, Bool.false_eq_true, false_implies, and_self, implies_true, Int.toNat_zero, beq_self_eq_true, decide_true, decide_false, Bool.not_true, Bool.not_false, ↓y_lookv, y_key1, y_mlook, y_mlookn, y_mres1, y_mres0, ↓y_call]
  refine ⟨fun h1 => ?_, fun h1 => ⟨fun h2 => ?_, fun h2 => ?_⟩⟩
  · refine fin_int hl ?_
    simp [cmpI, of_decide_eq_true h1]
  · refine fin_int hl ?_
    have h1 := of_decide_eq_false h1
    have h2 := of_decide_eq_true h2
    simp [cmpI, h1, h2]
  · refine fin_int hl ?_
    have h1 := of_decide_eq_false h1
    have h2 := of_decide_eq_false h2
    simp [cmpI, h1, h2]

theorem nth_ints (l : List Int) (i : Nat) (hi : i < l.length) : nth (l.map (D.int .i64)) i = .int .i64 l[i] := by
  simp [nth, List.getD, hi]

section
variable {α : Type} (f : α → D)
def cellsF (l : List α) : List D := (l.map f).flatMap D.cells
theorem cellsF_nil : cellsF f [] = [] := rfl
theorem cellsF_app (a b : List α) : cellsF f (a ++ b) = cellsF f a ++ cellsF f b := by simp [cellsF]
theorem cellsF_one (x : α) : cellsF f [x] = (f x).cells := by simp [cellsF]
theorem cellsF_len {sz : Nat} (hsz : ∀ x, (f x).cells.length = sz) : ∀ l : List α, (cellsF f l).length = l.length * sz
  | [] => by simp [cellsF]
  | t :: ts => by
    have := cellsF_len hsz ts
    have h3 := hsz t
    simp only [cellsF, List.map_cons, List.flatMap_cons, List.length_append, List.length_cons, Nat.add_mul] at this ⊢
    omega
theorem cellsF_get {sz : Nat} (hsz : ∀ x, (f x).cells.length = sz) : ∀ (l : List α) (i j : Nat) (x : α) (e : D), l[i]? = some x → (f x).cells[j]? = some e → (cellsF f l)[i * sz + j]? = some e
  | [], i, j, x, e, h, _ => by simp at h
  | a :: O, 0, j, x, e, h, he => by
    simp only [List.getElem?_cons_zero, Option.some.injEq] at h
    subst h
    have hj : j < (f a).cells.length := (List.getElem?_eq_some_iff.1 he).1
    simp only [cellsF, List.map_cons, List.flatMap_cons, Nat.zero_mul, Nat.zero_add]
    rw [List.getElem?_append_left hj]; exact he
  | a :: O, i + 1, j, x, e, h, he => by
    have := cellsF_get hsz O i j x e (by simpa using h) he
    have h3 := hsz a
    simp only [cellsF, List.map_cons, List.flatMap_cons] at this ⊢
    rw [List.getElem?_append_right (by rw [Nat.add_mul]; omega), show (i + 1) * sz + j - (f a).cells.length = i * sz + j by rw [Nat.add_mul]; omega]
    exact this
theorem low_cellsF {n : Nat} (hlow : ∀ x, Low n (f x)) (l : List α) : ∀ c ∈ cellsF f l, Low n c := by
  intro c hc
  simp only [cellsF, List.mem_flatMap, List.mem_map] at hc
  obtain ⟨d, ⟨t, ht, rfl⟩, hc⟩ := hc
  exact (hlow t).cells c hc
theorem low_lstF {n : Nat} (hlow : ∀ x, Low n (f x)) (l : List α) : Low n (.lst (l.map f)) := by
  refine .lst _ fun c hc => ?_
  obtain ⟨k, hk, rfl⟩ := List.mem_map.1 hc
  exact hlow k
theorem nth_mapF (l : List α) (i : Nat) (hi : i < l.length) : nth (l.map f) i = f l[i] := by simp [nth, List.getD, hi]

/-- a slice that is held to be data from now on -/
theorem wk_frzF {X : Wx} {sz : Nat} (hsz : ∀ x, (f x).cells.length = sz) (hlow : ∀ x, Low X.n (f x)) {b t ver len : Nat} {l : List α} (e : b = X.n + t) (hb : X.lc[t]? = some ⟨ver, .cells (cellsF f l)⟩) (hg : Src1.old t ∉ X.g) (hl : len = l.length) :
    Wk X (.ref sz b ver 0 len) (.lst (l.map f)) := by
  subst hl; subst e
  refine .frz sz t ver 0 l.length (cellsF f l) _ hb hg (by simp) (by rw [cellsF_len f hsz]; omega) (fun d hd => ?_) fun i d hd j e he => ?_
  · obtain ⟨x, _, rfl⟩ := List.mem_map.1 hd; exact hsz x
  · simp only [List.getElem?_map, Option.map_eq_some_iff] at hd
    obtain ⟨x, hx, rfl⟩ := hd
    have := cellsF_get f hsz l i j x e hx he
    have e1 : nth (cellsF f l) (0 + i * sz + j) = e := by simp [nth, List.getD, this]
    rw [e1]
    exact .low _ ((hlow x).cells e (List.mem_of_getElem? he))

/-- a live slice, read as data -/
theorem fz_F {N : Nat} {H : Heap} {sz : Nat} (hsz : ∀ x, (f x).cells.length = sz) (hlow : ∀ x, Low 0 (f x)) {b ver len : Nat} {l : List α} (hb : b < N) (hH : H b = ⟨ver, .cells (cellsF f l)⟩) (hl : len = l.length) : Wk (FX N H) (.ref sz b ver 0 len) (.lst (l.map f)) :=
  wk_frzF f (X := FX N H) hsz hlow (Nat.zero_add b).symm (by simp [FX, hb, hH]) (by simp [FX]) hl
end

theorem WkL.app {X : Wx} : ∀ {a a' b b' : List D}, WkL X a a' → WkL X b b' → WkL X (a ++ b) (a' ++ b')
  | [], [], b, b', _, h => h
  | [], _ :: _, _, _, h, _ => by simp [WkL] at h
  | _ :: _, [], _, _, h, _ => by simp [WkL] at h
  | d :: a, d' :: a', b, b', h, h2 => by
    cases d' with
    | top => simp only [List.cons_append, y_wkl_top] at h ⊢; exact WkL.app h h2
    | _ => simp only [WkL] at h; exact y_wkl h.1 (WkL.app h.2 h2)

theorem wk_agg2 {X : Wx} {a b a' b' : D} (h1 : Wk X a a') (h2 : Wk X b b') : Wk X (.agg [a, b]) (.agg [a', b']) :=
  .agg _ _ rfl fun i c c' hc hc' => by
    rcases i with _ | _ | i
    · simp at hc hc'; subst hc; subst hc'; exact h1
    · simp at hc hc'; subst hc; subst hc'; exact h2
    · simp at hc

/-! ### grammars -/
structure Sy where
  t : Bool
  n : Int
  deriving DecidableEq
structure Ru where
  left : Int
  right : List Sy
  deriving DecidableEq
structure Gr where
  terms : Int
  nons : Int
  start : Int
  rules : List Ru

def symD (s : Sy) : D := .agg [.bool s.t, .int .i64 s.n]
def ruleD (r : Ru) : D := .agg [.int .i64 r.left, .lst (r.right.map symD)]
def gramD (g : Gr) : D := .agg [.int .i64 g.terms, .int .i64 g.nons, .int .i64 g.start, .lst (g.rules.map ruleD)]
theorem symD_cells (s : Sy) : (symD s).cells.length = 2 := rfl
theorem ruleD_cells (r : Ru) : (ruleD r).cells.length = 2 := rfl
theorem low_symD (n : Nat) (s : Sy) : Low n (symD s) := by
  refine .agg _ fun c hc => ?_
  simp only [List.mem_cons, List.not_mem_nil, or_false] at hc
  rcases hc with rfl | rfl
  · exact .bool _
  · exact .int ..
theorem low_ruleD (n : Nat) (r : Ru) : Low n (ruleD r) := by
  refine .agg _ fun c hc => ?_
  simp only [List.mem_cons, List.not_mem_nil, or_false] at hc
  rcases hc with rfl | rfl
  · exact .int ..
  · exact low_lstF symD (low_symD n) _
theorem low_gramD (n : Nat) (g : Gr) : Low n (gramD g) := by
  refine .agg _ fun c hc => ?_
  simp only [List.mem_cons, List.not_mem_nil, or_false] at hc
  rcases hc with rfl | rfl | rfl | rfl
  · exact .int ..
  · exact .int ..
  · exact .int ..
  · exact low_lstF ruleD (low_ruleD n) _

theorem take_all {α : Type} (l : List α) {k : Nat} (h : k = l.length) : l.take k = l := by rw [h, List.take_length]

theorem low_rules (n : Nat) (l : List Ru) : Low n (.lst (l.map ruleD)) := low_lstF ruleD (low_ruleD n) l

theorem low_syms (n : Nat) (l : List Sy) : Low n (.lst (l.map symD)) := low_lstF symD (low_symD n) l



/-! ### expressions, equations, systems -/
inductive Ex where
  | mk (kind n at' attr : Int) (args : List Ex)
  deriving Inhabited
def exD : Ex → D
  | .mk k n a r xs => .agg [.int .i64 k, .int .i64 n, .int .i64 a, .int .i64 r, .lst (xs.map exD)]
theorem exD_mk (k n a r : Int) (xs : List Ex) : exD (.mk k n a r xs) = .agg [.int .i64 k, .int .i64 n, .int .i64 a, .int .i64 r, .lst (xs.map exD)] := by rw [exD]
theorem low_exD (n : Nat) : ∀ x : Ex, Low n (exD x)
  | .mk k m a r xs => by
    rw [exD_mk]
    refine .agg _ fun c hc => ?_
    simp only [List.mem_cons, List.not_mem_nil, or_false] at hc
    rcases hc with rfl | rfl | rfl | rfl | rfl
    · exact .int ..
    · exact .int ..
    · exact .int ..
    · exact .int ..
    · refine .lst _ fun c hc => ?_
      obtain ⟨y, hy, rfl⟩ := List.mem_map.1 hc
      exact low_exD n y
theorem exD_cells (x : Ex) : (exD x).cells.length = 5 := by cases x; rw [exD_mk]; rfl
theorem low_exs (n : Nat) (l : List Ex) : Low n (.lst (l.map exD)) := low_lstF exD (low_exD n) l

structure Eqn where
  rule : Int
  at' : Int
  attr : Int
  is : Ex
structure At where
  non : Int
  inh : Bool
structure Sys where
  attrs : List At
  eqs : List Eqn
def exC : Ex → List D
  | .mk k n a r xs => [.int .i64 k, .int .i64 n, .int .i64 a, .int .i64 r, .lst (xs.map exD)]
theorem exD_C (x : Ex) : exD x = .agg (exC x) := by cases x; rw [exD_mk]; rfl
def eqD (q : Eqn) : D := .agg ([.int .i64 q.rule, .int .i64 q.at', .int .i64 q.attr] ++ exC q.is)
def atD (a : At) : D := .agg [.int .i64 a.non, .bool a.inh]
def sysD (s : Sys) : D := .agg [.lst (s.attrs.map atD), .lst (s.eqs.map eqD)]
theorem low_exC (n : Nat) (x : Ex) : ∀ c ∈ exC x, Low n c := fun c hc => by
  have := low_exD n x
  rw [exD_C] at this
  exact low_agg.1 this c hc
theorem low_eqD (n : Nat) (q : Eqn) : Low n (eqD q) := .agg _ fun c hc => by
  rcases List.mem_append.1 hc with hc | hc
  · simp only [List.mem_cons, List.not_mem_nil, or_false] at hc
    rcases hc with rfl | rfl | rfl <;> exact .int ..
  · exact low_exC n _ c hc
theorem low_atD (n : Nat) (a : At) : Low n (atD a) := .agg _ fun c hc => by
  simp only [List.mem_cons, List.not_mem_nil, or_false] at hc
  rcases hc with rfl | rfl
  · exact .int ..
  · exact .bool _
theorem low_ats (n : Nat) (l : List At) : Low n (.lst (l.map atD)) := low_lstF atD (low_atD n) l
theorem low_eqs (n : Nat) (l : List Eqn) : Low n (.lst (l.map eqD)) := low_lstF eqD (low_eqD n) l
theorem eqD_cells (q : Eqn) : (eqD q).cells.length = 8 := by
  unfold eqD
  cases q.is; rfl
theorem atD_cells (a : At) : (atD a).cells.length = 2 := rfl
theorem low_sysD (n : Nat) (s : Sys) : Low n (sysD s) := .agg _ fun c hc => by
  simp only [List.mem_cons, List.not_mem_nil, or_false] at hc
  rcases hc with rfl | rfl
  · exact low_ats n _
  · exact low_eqs n _

def ru0 : Ru := ⟨0, []⟩
theorem nth_rule (g : Gr) (i : Nat) (hi : i < g.rules.length) : nth (g.rules.map ruleD) i = .agg [.int .i64 (g.rules.getD i ru0).left, .lst ((g.rules.getD i ru0).right.map symD)] := by
  simp [nth, List.getD, hi, ruleD]
theorem nth_sym (l : List Sy) (i : Nat) (hi : i < l.length) : nth (l.map symD) i = .agg [.bool (l.getD i ⟨false, 0⟩).t, .int .i64 (l.getD i ⟨false, 0⟩).n] := by
  simp [nth, List.getD, hi, symD]

def at0 : At := ⟨0, false⟩
theorem nth_at (l : List At) (i : Nat) (hi : i < l.length) : nth (l.map atD) i = .agg [.int .i64 (l.getD i at0).non, .bool (l.getD i at0).inh] := by
  simp [nth, List.getD, hi, atD]

def sz : Ex → Nat
  | .mk _ _ _ _ xs => 1 + (xs.map sz).sum
theorem sz_mk (k n a r : Int) (xs : List Ex) : sz (.mk k n a r xs) = 1 + (xs.map sz).sum := by rw [sz]
theorem sz_pos (x : Ex) : 1 ≤ sz x := by cases x; rw [sz_mk]; omega
def argsE : Ex → List Ex
  | .mk _ _ _ _ xs => xs
theorem nth_exs (xs : List Ex) (i : Nat) (hi : i < xs.length) : nth (xs.map exD) i = exD xs[i] := by
  simp [nth, List.getD, hi]
theorem sz_take_succ (xs : List Ex) (i : Nat) (hi : i < xs.length) : ((xs.take (i + 1)).map sz).sum = ((xs.take i).map sz).sum + sz xs[i] := by
  rw [List.take_succ_eq_append_getElem hi, List.map_append, List.sum_append]; simp
theorem sz_take_le : ∀ (xs : List Ex) (i : Nat), ((xs.take i).map sz).sum ≤ (xs.map sz).sum
  | [], i => by simp
  | x :: xs, 0 => by simp
  | x :: xs, i + 1 => by
    have := sz_take_le xs i
    simp only [List.take_succ_cons, List.map_cons, List.sum_cons]; omega
theorem sz_mem {xs : List Ex} {x : Ex} (hx : x ∈ xs) : sz x ≤ (xs.map sz).sum := by
  induction xs with
  | nil => cases hx
  | cons y ys ih =>
    simp only [List.map_cons, List.sum_cons]
    rcases List.mem_cons.1 hx with rfl | h
    · omega
    · have := ih h; omega
theorem len_le_sz : ∀ xs : List Ex, xs.length ≤ (xs.map sz).sum
  | [] => Nat.le_refl _
  | x :: xs => by
    have := len_le_sz xs
    have := sz_pos x
    simp only [List.map_cons, List.sum_cons, List.length_cons]; omega

def okSy (terms nons : Int) (s : Sy) : Prop := 0 ≤ s.n ∧ (s.t = true → s.n < terms) ∧ (s.t = false → s.n < nons)
def okRu (terms nons : Int) (r : Ru) : Prop := 0 ≤ r.left ∧ r.left < nons ∧ r.right.length ≤ 3 ∧ ∀ s ∈ r.right, okSy terms nons s
/-- what parlmake.Grammar makes -/
structure okGr (g : Gr) : Prop where
  terms : 1 ≤ g.terms ∧ g.terms ≤ 3
  nons : 1 ≤ g.nons ∧ g.nons ≤ 4
  start : 0 ≤ g.start ∧ g.start < g.nons
  len : g.rules.length ≤ 8
  rules : ∀ r ∈ g.rules, okRu g.terms g.nons r
  nodup : g.rules.Nodup


end Abs
end Go.Proofs.Ytokdeeagghhliaa

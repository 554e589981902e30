/- The words of the parts of a pattern, as plain lists: a row of a rule's right side; what a table holds on its way. -/
import Derived.Test.YtokdeeagghhliaaO10
namespace Go.Proofs.Ytokdeeagghhliaa
namespace Abs
set_option linter.unusedVariables false
set_option linter.unusedSimpArgs false
set_option maxRecDepth 20000

abbrev Tb := List (List (List Wd))

/-- the length of the words of a cell -/
def wtW (ws : List Wd) (l : List Sy) (k : Nat) : Int := if (l.getD k sy0).t = true then 1 else (ws.getD (l.getD k sy0).n.toNat wd0).n
def preW (ws : List Wd) (l : List Sy) : Nat → Int
  | 0 => 0
  | k + 1 => preW ws l k + wtW ws l k

/-- a word of the part from i to j, as far as it is known -/
structure EntW (B : Nat) (ws : List Wd) (l : List Sy) (i j : Nat) (v : Wd) : Prop where
  ok : okW v
  num : inB B v.w
  len : v.ok = true → i ≤ j ∧ v.n = preW ws l j - preW ws l i

theorem ent0 {B : Nat} {ws : List Wd} {l : List Sy} {i j : Nat} : EntW B ws l i j wd0 := ⟨okW0, fun _ h => (by cases h), fun h => (by cases h)⟩
theorem ent1 {B : Nat} {ws : List Wd} {l : List Sy} {i : Nat} : EntW B ws l i i wd1 := ⟨okW1, fun _ h => (by cases h), fun _ => ⟨Nat.le_refl _, by show (0 : Int) = _; omega⟩⟩

/-- a table of the parts on its way -/
structure GoodP (B : Nat) (ws : List Wd) (l : List Sy) (N : Nat) (P : Tb) : Prop where
  len : P.length = N
  row : ∀ A ∈ P, A.length = l.length + 1
  col : ∀ A ∈ P, ∀ R ∈ A, R.length = l.length + 1
  ent : ∀ a i j, a < N → i ≤ l.length → j ≤ l.length → EntW B ws l i j (partW P a i j)

theorem GoodP.inW {B : Nat} {ws : List Wd} {l : List Sy} {N : Nat} {P : Tb} (h : GoodP B ws l N P) {a i j : Nat} (ha : a < N) (hi : i ≤ l.length) (hj : j ≤ l.length) : inW P a i j := by
  have h1 : a < P.length := by rw [h.len]; exact ha
  have m1 : P[a] ∈ P := List.getElem_mem h1
  have h2 : i < P[a].length := by rw [h.row _ m1]; omega
  have m2 : P[a][i] ∈ P[a] := List.getElem_mem h2
  exact ⟨P[a], P[a][i], List.getElem?_eq_getElem h1, List.getElem?_eq_getElem h2, by rw [h.col _ m1 _ m2]; omega⟩

/-- what is asked of the pattern and of the least words -/
structure PatW (B N : Nat) (ws : List Wd) (l : List Sy) : Prop where
  ws : GoodW B N ws
  len : l.length ≤ 12
  cell : ∀ x ∈ l, x.t = false → 0 ≤ x.n ∧ x.n < N

theorem PatW.wt {B N : Nat} {ws : List Wd} {l : List Sy} (h : PatW B N ws l) {k : Nat} (hk : k < l.length) : 0 ≤ wtW ws l k ∧ wtW ws l k ≤ 2 ^ 20 := by
  unfold wtW
  have hm : l.getD k sy0 ∈ l := by simp [List.getD, hk]
  generalize l.getD k sy0 = c at hm
  have e10 : (4 : Nat) ^ 10 = 2 ^ 20 := by decide
  split
  · exact ⟨by omega, by omega⟩
  · rename_i ht
    obtain ⟨c1, c2⟩ := h.cell c hm (by simpa using ht)
    have hmw := getD_mem (ws := ws) (i := c.n.toNat) (by have := h.ws.len; omega)
    have h1 := h.ws.low _ hmw
    have h2 := h.ws.top
    have h3 := (h.ws.ok _ hmw).pos
    omega
theorem PatW.pre {B N : Nat} {ws : List Wd} {l : List Sy} (h : PatW B N ws l) : ∀ k, k ≤ l.length → 0 ≤ preW ws l k ∧ preW ws l k ≤ k * 2 ^ 20
  | 0, _ => by simp [preW]
  | k + 1, hk => by
    have := PatW.pre h k (by omega)
    have := h.wt (k := k) (by omega)
    simp only [preW]
    omega

theorem ent_join {B N : Nat} {ws : List Wd} {l : List Sy} (h : PatW B N ws l) {i m j : Nat} {u v : Wd} (hu : EntW B ws l i m u) (hv : EntW B ws l m j v) (uo : u.ok = true) (vo : v.ok = true) (hj : j ≤ l.length) : EntW B ws l i j (joinW u v) := by
  obtain ⟨u1, u2⟩ := hu.len uo
  obtain ⟨v1, v2⟩ := hv.len vo
  have p1 := h.pre j hj
  have p2 := h.pre i (by omega)
  have hn : u.n + v.n = preW ws l j - preW ws l i := by omega
  have hjl := h.len
  refine ⟨okW_join hu.ok hv.ok (by omega), ?_, fun _ => ⟨by omega, hn⟩⟩
  unfold joinW
  simp only
  split
  · intro y hy
    rcases List.mem_append.1 hy with hy | hy
    · exact hu.num y hy
    · exact hv.num y hy
  · intro y hy; cases hy

theorem takes_n {c x : Sy} (h : takes c x = true) : c.t = x.t ∧ (c.n = x.n ∨ (c.n = -1 ∧ x.t = true)) := by
  unfold takes at h
  simp only [Bool.or_eq_true, Bool.and_eq_true, beq_iff_eq] at h
  rcases h with ⟨h1, h2⟩ | ⟨⟨h1, h2⟩, h3⟩
  · exact ⟨h1, .inl h2⟩
  · exact ⟨by rw [h1, h3], .inr ⟨h2, h3⟩⟩

theorem ent_cell {B N : Nat} {ws : List Wd} {l : List Sy} (h : PatW B N ws l) {x : Sy} (hx : symOk B N x) {i : Nat} (hi : i < l.length) : EntW B ws l i (i + 1) (cellW ws l x i) := by
  unfold cellW
  split
  · rename_i ht
    obtain ⟨t1, t2⟩ := takes_n ht
    obtain ⟨f1, f2, f3⟩ := h.ws.free hx
    refine ⟨f1, f2, fun _ => ⟨by omega, ?_⟩⟩
    have e : preW ws l (i + 1) - preW ws l i = wtW ws l i := by simp only [preW]; omega
    rw [e]
    unfold freeW wtW
    cases hxt : x.t with
    | true => rw [if_pos rfl, if_pos (by rw [t1, hxt])]
    | false =>
      rw [if_neg (by simp), if_neg (by rw [t1, hxt]; simp)]
      rcases t2 with t2 | ⟨_, t2⟩
      · rw [t2]
      · rw [hxt] at t2; cases t2
  · exact ent0

theorem ent_sym {B N : Nat} {ws : List Wd} {l : List Sy} {P : Tb} (h : PatW B N ws l) (hP : GoodP B ws l N P) {x : Sy} (hx : symOk B N x) {i j : Nat} (hi : i ≤ l.length) (hj : j ≤ l.length) : EntW B ws l i j (symW ws P l x i j) := by
  unfold symW
  have ho : EntW B ws l i j (if j = i + 1 then cellW ws l x i else wd0) := by
    split
    · rename_i e
      subst e
      exact ent_cell h hx (by omega)
    · exact ent0
  simp only
  generalize (if j = i + 1 then cellW ws l x i else wd0) = o at *
  split
  · rename_i hc
    have h3 := hx.2.2 hc.1
    have h1 := hx.1
    exact hP.ent _ i j (by omega) hi hj
  · exact ho

/-! ### a row -/
def cellJ (ws : List Wd) (P : Tb) (l : List Sy) (x : Sy) (now : List Wd) (m : Nat) (nx : List Wd) (j : Nat) : List Wd :=
  if shorterW (now.getD m wd0) (symW ws P l x m j) (nx.getD j wd0) = true then nx.set j (joinW (now.getD m wd0) (symW ws P l x m j)) else nx
def rowJ (ws : List Wd) (P : Tb) (l : List Sy) (x : Sy) (now : List Wd) (m k : Nat) (nx : List Wd) : List Wd := (List.range' m k).foldl (cellJ ws P l x now m) nx
def cellM (ws : List Wd) (P : Tb) (l : List Sy) (x : Sy) (now : List Wd) (nx : List Wd) (m : Nat) : List Wd :=
  if (now.getD m wd0).ok = true then rowJ ws P l x now m (l.length + 1 - m) nx else nx
def rowM (ws : List Wd) (P : Tb) (l : List Sy) (x : Sy) (now : List Wd) (i k : Nat) (nx : List Wd) : List Wd := (List.range' i k).foldl (cellM ws P l x now) nx
def row0 (l : List Sy) : List Wd := List.replicate (l.length + 1) wd0
def stepX (ws : List Wd) (P : Tb) (l : List Sy) (i : Nat) (now : List Wd) (x : Sy) : List Wd := rowM ws P l x now i (l.length + 1 - i) (row0 l)
def rowX (ws : List Wd) (P : Tb) (l : List Sy) (i : Nat) (xs : List Sy) : List Wd := xs.foldl (stepX ws P l i) ((row0 l).set i wd1)

theorem rowJ_0 (ws : List Wd) (P : Tb) (l : List Sy) (x : Sy) (now : List Wd) (m : Nat) (nx : List Wd) : rowJ ws P l x now m 0 nx = nx := rfl
theorem rowJ_s (ws : List Wd) (P : Tb) (l : List Sy) (x : Sy) (now : List Wd) (m k : Nat) (nx : List Wd) : rowJ ws P l x now m (k + 1) nx = cellJ ws P l x now m (rowJ ws P l x now m k nx) (m + k) := by
  unfold rowJ
  rw [List.range'_concat, List.foldl_append]
  simp
theorem rowM_0 (ws : List Wd) (P : Tb) (l : List Sy) (x : Sy) (now : List Wd) (i : Nat) (nx : List Wd) : rowM ws P l x now i 0 nx = nx := rfl
theorem rowM_s (ws : List Wd) (P : Tb) (l : List Sy) (x : Sy) (now : List Wd) (i k : Nat) (nx : List Wd) : rowM ws P l x now i (k + 1) nx = cellM ws P l x now (rowM ws P l x now i k nx) (i + k) := by
  unfold rowM
  rw [List.range'_concat, List.foldl_append]
  simp
theorem rowX_take (ws : List Wd) (P : Tb) (l : List Sy) (i : Nat) {xs : List Sy} {k : Nat} (hk : k < xs.length) : rowX ws P l i (xs.take (k + 1)) = stepX ws P l i (rowX ws P l i (xs.take k)) (xs.getD k ⟨false, 0⟩) := by
  unfold rowX
  rw [← List.take_append_getElem hk, List.foldl_append, show xs.getD k ⟨false, 0⟩ = xs[k] by simp [List.getD, hk]]
  rfl

/-- a row of words of the parts that begin at i -/
structure RowW (B : Nat) (ws : List Wd) (l : List Sy) (i : Nat) (now : List Wd) : Prop where
  len : now.length = l.length + 1
  ent : ∀ j, j ≤ l.length → EntW B ws l i j (now.getD j wd0)

theorem getD_set {α : Type} (l : List α) (i j : Nat) (a d : α) (hi : i < l.length) : (l.set i a).getD j d = if j = i then a else l.getD j d := by
  by_cases h : j = i
  · subst h; simp [List.getD, hi]
  · rw [if_neg h]; simp [List.getD, List.getElem?_set_ne (Ne.symm h)]

theorem RowW.set {B : Nat} {ws : List Wd} {l : List Sy} {i j : Nat} {now : List Wd} (h : RowW B ws l i now) (hj : j ≤ l.length) {v : Wd} (hv : EntW B ws l i j v) : RowW B ws l i (now.set j v) := by
  refine ⟨by rw [List.length_set]; exact h.len, fun k hk => ?_⟩
  rw [getD_set _ _ _ _ _ (by have := h.len; omega)]
  split
  · rename_i e; subst e; exact hv
  · exact h.ent k hk
theorem row0_good {B : Nat} {ws : List Wd} {l : List Sy} {i : Nat} : RowW B ws l i (row0 l) := by
  refine ⟨by simp [row0], fun j hj => ?_⟩
  have : (row0 l).getD j wd0 = wd0 := by simp [row0, List.getD, List.getElem?_replicate]; split <;> rfl
  rw [this]; exact ent0
theorem shorter_oks {a b c : Wd} (h : shorterW a b c = true) : a.ok = true ∧ b.ok = true := by
  unfold shorterW at h
  split at h
  · simp at h
  · rename_i hok
    cases ha : a.ok <;> cases hb : b.ok <;> simp [ha, hb] at hok ⊢

section
variable {B N : Nat} {ws : List Wd} {l : List Sy} {P : Tb} {x : Sy} {now : List Wd} {i : Nat}
theorem cellJ_good (h : PatW B N ws l) (hP : GoodP B ws l N P) (hx : symOk B N x) (hn : RowW B ws l i now) {m j : Nat} (hm : m ≤ l.length) (hj : j ≤ l.length) {nx : List Wd} (hx' : RowW B ws l i nx) : RowW B ws l i (cellJ ws P l x now m nx j) := by
  unfold cellJ
  split
  · rename_i hs
    obtain ⟨s1, s2⟩ := shorter_oks hs
    exact hx'.set hj (ent_join h (hn.ent m hm) (ent_sym h hP hx hm hj) s1 s2 hj)
  · exact hx'
theorem rowJ_good (h : PatW B N ws l) (hP : GoodP B ws l N P) (hx : symOk B N x) (hn : RowW B ws l i now) {m : Nat} (hm : m ≤ l.length) {nx : List Wd} (hx' : RowW B ws l i nx) : ∀ k, m + k ≤ l.length + 1 → RowW B ws l i (rowJ ws P l x now m k nx)
  | 0, _ => hx'
  | k + 1, hk => by
    rw [rowJ_s]
    exact cellJ_good h hP hx hn hm (by omega) (rowJ_good h hP hx hn hm hx' k (by omega))
theorem cellM_good (h : PatW B N ws l) (hP : GoodP B ws l N P) (hx : symOk B N x) (hn : RowW B ws l i now) {m : Nat} (hm : m ≤ l.length) {nx : List Wd} (hx' : RowW B ws l i nx) : RowW B ws l i (cellM ws P l x now nx m) := by
  unfold cellM
  split
  · exact rowJ_good h hP hx hn hm hx' _ (by omega)
  · exact hx'
theorem rowM_good (h : PatW B N ws l) (hP : GoodP B ws l N P) (hx : symOk B N x) (hn : RowW B ws l i now) {nx : List Wd} (hx' : RowW B ws l i nx) : ∀ k, i + k ≤ l.length + 1 → RowW B ws l i (rowM ws P l x now i k nx)
  | 0, _ => hx'
  | k + 1, hk => by
    rw [rowM_s]
    exact cellM_good h hP hx hn (by omega) (rowM_good h hP hx hn hx' k (by omega))
theorem stepX_good (h : PatW B N ws l) (hP : GoodP B ws l N P) (hx : symOk B N x) (hn : RowW B ws l i now) (hi : i ≤ l.length) : RowW B ws l i (stepX ws P l i now x) := rowM_good h hP hx hn row0_good _ (by omega)
end
theorem rowX_good {B N : Nat} {ws : List Wd} {l : List Sy} {P : Tb} (h : PatW B N ws l) (hP : GoodP B ws l N P) {i : Nat} (hi : i ≤ l.length) {xs : List Sy} (hx : ∀ x ∈ xs, symOk B N x) : ∀ k, k ≤ xs.length → RowW B ws l i (rowX ws P l i (xs.take k))
  | 0, _ => row0_good.set hi ent1
  | k + 1, hk => by
    rw [rowX_take _ _ _ _ (by omega)]
    exact stepX_good h hP (hx _ (by simp [List.getD, show k < xs.length by omega])) (rowX_good h hP hi hx k (by omega)) hi

/-! ### the table, written -/
def set3 (P : Tb) (a i j : Nat) (v : Wd) : Tb := P.set a ((P.getD a []).set i (((P.getD a []).getD i []).set j v))
def sum3 (B : Nat) (P : Tb) : Nat := (P.map fun A => (A.map (sumMu B)).sum).sum

theorem part_set3 {P : Tb} {a i j : Nat} (h : inW P a i j) (v : Wd) (a' i' j' : Nat) : partW (set3 P a i j v) a' i' j' = if a' = a ∧ i' = i ∧ j' = j then v else partW P a' i' j' := by
  obtain ⟨A, R, h1, h2, h3⟩ := h
  have e1 : P.getD a [] = A := by simp [List.getD, h1]
  have e2 : A.getD i [] = R := by simp [List.getD, h2]
  have l1 := (List.getElem?_eq_some_iff.1 h1).1
  have l2 := (List.getElem?_eq_some_iff.1 h2).1
  unfold partW set3
  rw [e1, e2, getD_set _ _ _ _ _ l1]
  by_cases ha : a' = a
  · subst ha
    rw [if_pos rfl, getD_set _ _ _ _ _ l2, e1]
    by_cases hi : i' = i
    · subst hi
      rw [if_pos rfl, getD_set _ _ _ _ _ h3, e2]
      simp
    · rw [if_neg hi, if_neg (fun h => hi h.2.1)]
  · rw [if_neg ha, if_neg (fun h => ha h.1)]

theorem GoodP.set {B : Nat} {ws : List Wd} {l : List Sy} {N : Nat} {P : Tb} (h : GoodP B ws l N P) {a i j : Nat} (ha : a < N) (hi : i ≤ l.length) (hj : j ≤ l.length) {v : Wd} (hv : EntW B ws l i j v) : GoodP B ws l N (set3 P a i j v) := by
  have hin := h.inW ha hi hj
  obtain ⟨A, R, h1, h2, h3⟩ := hin
  have e1 : P.getD a [] = A := by simp [List.getD, h1]
  have e2 : A.getD i [] = R := by simp [List.getD, h2]
  have m1 : A ∈ P := List.mem_of_getElem? h1
  have m2 : R ∈ A := List.mem_of_getElem? h2
  have ms : ∀ A' ∈ set3 P a i j v, A' ∈ P ∨ A' = A.set i (R.set j v) := fun A' hA => by
    unfold set3 at hA
    rw [e1, e2] at hA
    exact List.mem_or_eq_of_mem_set hA
  refine ⟨by simp [set3, h.len], fun A' hA => ?_, fun A' hA R' hR => ?_, fun a' i' j' ha' hi' hj' => ?_⟩
  · rcases ms A' hA with hA | rfl
    · exact h.row A' hA
    · rw [List.length_set]; exact h.row A m1
  · rcases ms A' hA with hA | rfl
    · exact h.col A' hA R' hR
    · rcases List.mem_or_eq_of_mem_set hR with hR | rfl
      · exact h.col A m1 R' hR
      · rw [List.length_set]; exact h.col A m1 R m2
  · rw [part_set3 (h.inW ha hi hj)]
    split
    · rename_i e; obtain ⟨rfl, rfl, rfl⟩ := e; exact hv
    · exact h.ent a' i' j' ha' hi' hj'

theorem sum3_set {B : Nat} {P : Tb} {a i j : Nat} (h : inW P a i j) {v : Wd} (hv : muW B v < muW B (partW P a i j)) : sum3 B (set3 P a i j v) < sum3 B P := by
  obtain ⟨A, R, h1, h2, h3⟩ := h
  have e1 : P.getD a [] = A := by simp [List.getD, h1]
  have e2 : A.getD i [] = R := by simp [List.getD, h2]
  have l1 := (List.getElem?_eq_some_iff.1 h1).1
  have l2 := (List.getElem?_eq_some_iff.1 h2).1
  unfold partW at hv
  unfold set3 sum3
  rw [e1, e2] at hv ⊢
  have s1 := sum_set (muW B) R j v wd0 h3 hv
  have s2 := sum_set (sumMu B) A i (R.set j v) [] l2 (by rw [e2]; exact s1)
  exact sum_set (fun A => (A.map (sumMu B)).sum) P a (A.set i (R.set j v)) [] l1 (by rw [e1]; exact s2)

/-! ### a pass over the rules -/
def chkP (row : List Wd) (P : Tb) (a i j : Nat) : Bool := shorterW (row.getD j wd0) wd1 (partW P a i j)
def stepJ (row : List Wd) (a i : Nat) (s : Tb × Bool) (j : Nat) : Tb × Bool := if chkP row s.1 a i j = true then (set3 s.1 a i j (row.getD j wd0), true) else s
def stepI (ws : List Wd) (l : List Sy) (r : Ru) (s : Tb × Bool) (i : Nat) : Tb × Bool := (List.range (l.length + 1)).foldl (stepJ (rowX ws s.1 l i r.right) r.left.toNat i) s
def stepR (ws : List Wd) (l : List Sy) (s : Tb × Bool) (r : Ru) : Tb × Bool := (List.range (l.length + 1)).foldl (stepI ws l r) s
def passP (ws : List Wd) (l : List Sy) (rs : List Ru) (P : Tb) : Tb × Bool := rs.foldl (stepR ws l) (P, false)
def runP (ws : List Wd) (l : List Sy) (rs : List Ru) : Nat → Tb → Tb
  | 0, P => P
  | k + 1, P => if (passP ws l rs P).2 = true then runP ws l rs k (passP ws l rs P).1 else (passP ws l rs P).1

/-- a pass on its way, from the table P0 -/
structure MidP (B : Nat) (ws : List Wd) (l : List Sy) (N : Nat) (P0 : Tb) (s : Tb × Bool) : Prop where
  good : GoodP B ws l N s.1
  less : s.2 = true → sum3 B s.1 < sum3 B P0
  same : s.2 = false → s.1 = P0

section
variable {B N : Nat} {ws : List Wd} {l : List Sy} {P0 : Tb}
theorem stepJ_mid (hB : 1 ≤ B) {row : List Wd} {a i j : Nat} (ha : a < N) (hi : i ≤ l.length) (hj : j ≤ l.length) (hr : RowW B ws l i row) {s : Tb × Bool} (h : MidP B ws l N P0 s) : MidP B ws l N P0 (stepJ row a i s j) := by
  unfold stepJ
  split
  · rename_i hc
    have he := h.good.ent a i j ha hi hj
    have hv := hr.ent j hj
    have hm := sum3_set (B := B) (h.good.inW ha hi hj) (muW_lt hB hv.ok he.ok hv.num he.num hc)
    refine ⟨h.good.set ha hi hj hv, fun _ => ?_, fun h => by cases h⟩
    cases hs : s.2 with
    | true => have := h.less hs; simp only; omega
    | false => have e := h.same hs; rw [← e]; exact hm
  · exact h
theorem foldJ_mid (hB : 1 ≤ B) {row : List Wd} {a i : Nat} (ha : a < N) (hi : i ≤ l.length) (hr : RowW B ws l i row) {s : Tb × Bool} (h : MidP B ws l N P0 s) : ∀ k, k ≤ l.length + 1 → MidP B ws l N P0 ((List.range k).foldl (stepJ row a i) s)
  | 0, _ => h
  | k + 1, hk => by
    rw [List.range_succ, List.foldl_append]
    exact stepJ_mid hB ha hi (by omega) hr (foldJ_mid hB ha hi hr h k (by omega))
theorem stepI_mid (hB : 1 ≤ B) (hw : PatW B N ws l) {r : Ru} (hl : 0 ≤ r.left ∧ r.left < N) (hx : ∀ x ∈ r.right, symOk B N x) {i : Nat} (hi : i ≤ l.length) {s : Tb × Bool} (h : MidP B ws l N P0 s) : MidP B ws l N P0 (stepI ws l r s i) := by
  have hr := rowX_good hw h.good hi hx r.right.length (Nat.le_refl _)
  rw [List.take_length] at hr
  exact foldJ_mid hB (by omega) hi hr h _ (Nat.le_refl _)
theorem foldI_mid (hB : 1 ≤ B) (hw : PatW B N ws l) {r : Ru} (hl : 0 ≤ r.left ∧ r.left < N) (hx : ∀ x ∈ r.right, symOk B N x) {s : Tb × Bool} (h : MidP B ws l N P0 s) : ∀ k, k ≤ l.length + 1 → MidP B ws l N P0 ((List.range k).foldl (stepI ws l r) s)
  | 0, _ => h
  | k + 1, hk => by
    rw [List.range_succ, List.foldl_append]
    exact stepI_mid hB hw hl hx (by omega) (foldI_mid hB hw hl hx h k (by omega))
theorem foldR_mid (hB : 1 ≤ B) (hw : PatW B N ws l) {rs : List Ru} (hl : ∀ r ∈ rs, (0 ≤ r.left ∧ r.left < N) ∧ ∀ x ∈ r.right, symOk B N x) {s : Tb × Bool} (h : MidP B ws l N P0 s) : ∀ k, k ≤ rs.length → MidP B ws l N P0 ((rs.take k).foldl (stepR ws l) s)
  | 0, _ => h
  | k + 1, hk => by
    rw [← List.take_append_getElem (show k < rs.length by omega), List.foldl_append]
    have := hl rs[k] (List.getElem_mem _)
    exact foldI_mid hB hw this.1 this.2 (foldR_mid hB hw hl h k (by omega)) _ (Nat.le_refl _)
end

/-- a cell of a slice of structs, written anew -/
theorem cells_put {α : Type} {f : α → D} {sz : Nat} (hsz : ∀ x, (f x).cells.length = sz) : ∀ (l : List α) {i : Nat} (hi : i < l.length) (x : α),
    (cellsF f l).take (i * sz) ++ (f x).cells ++ (cellsF f l).drop (i * sz + sz) = cellsF f (l.set i x)
  | [], i, h, _ => by simp at h
  | a :: l, 0, _, x => by
    have ha := hsz a
    simp only [Nat.zero_mul, List.take_zero, List.nil_append, Nat.zero_add, List.set_cons_zero]
    show (f x).cells ++ ((f a).cells ++ cellsF f l).drop sz = (f x).cells ++ cellsF f l
    rw [← ha, List.drop_left]
  | a :: l, i + 1, h, x => by
    have ha := hsz a
    have ih := cells_put hsz l (by simpa using h) x (i := i)
    have e : (i + 1) * sz = (f a).cells.length + i * sz := by rw [Nat.add_mul, ha]; omega
    show ((f a).cells ++ cellsF f l).take ((i + 1) * sz) ++ (f x).cells ++ ((f a).cells ++ cellsF f l).drop ((i + 1) * sz + sz) = (f a).cells ++ cellsF f (l.set i x)
    rw [e, List.take_length_add_append, Nat.add_assoc, List.drop_length_add_append, List.append_assoc, List.append_assoc, ← List.append_assoc (List.take _ _), ih]

theorem cells_wd0 {X : Wx} : ∀ N : Nat, WkL X (List.replicate N [D.bool false, .int .i64 0, .nils]).flatten (cellsF wD (List.replicate N wd0))
  | 0 => trivial
  | N + 1 => by
    have e : cellsF wD (List.replicate (N + 1) wd0) = (wD wd0).cells ++ cellsF wD (List.replicate N wd0) := by
      rw [List.replicate_succ, show wd0 :: List.replicate N wd0 = [wd0] ++ List.replicate N wd0 from rfl, cellsF_app, cellsF_one]
    rw [List.replicate_succ, List.flatten_cons, e]
    exact WkL.app (y_wkl (.low _ (.bool _)) (y_wkl wk_i (y_wkl .nilsLst trivial))) (cells_wd0 N)

end Abs
end Go.Proofs.Ytokdeeagghhliaa

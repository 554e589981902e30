/- Tables of whole numbers as a frame holds them; the distances and the common lengths (plain). -/
import Derived.Test.YtfojedaccfenfabV1
namespace Go.Proofs.Ytfojedaccfenfab
namespace Abs
set_option linter.unusedVariables false
set_option linter.unusedSimpArgs false
set_option maxRecDepth 20000

structure Mat (T n m cols : Nat) (Kn : Nat → Nat → Prop) (G : Nat → Nat → Int) (L : List Blk) : Prop where
  len : L.length = T + m
  d : ∃ R, L.getD 12 blk0 = ⟨1, .cells R⟩ ∧ R.length = m ∧ ∀ r, r < m → nth R r = .ref 1 (n + (T + r)) 1 0 cols
  row : ∀ r, r < m → ∃ C, L.getD (T + r) blk0 = ⟨1, .cells C⟩ ∧ C.length = cols ∧ ∀ c, c < cols → Kn r c → nth C c = .int .i64 (G r c)

theorem Mat.mono {T n m cols : Nat} {Kn Kn' : Nat → Nat → Prop} {G : Nat → Nat → Int} {L : List Blk} (h : Mat T n m cols Kn G L) (hk : ∀ r c, r < m → c < cols → Kn' r c → Kn r c) : Mat T n m cols Kn' G L :=
  ⟨h.len, h.d, fun r hr => let ⟨C, h1, h2, h3⟩ := h.row r hr; ⟨C, h1, h2, fun c hc hkn => h3 c hc (hk r c hr hc hkn)⟩⟩

theorem Mat.start {T n m cols : Nat} {Kn : Nat → Nat → Prop} {G : Nat → Nat → Int} (hT : 12 < T) (hk : ∀ r c, Kn r c → G r c = 0) : Mat T n m cols Kn G (matI T n m cols m) where
  len := matI_len ..
  d := ⟨_, by rw [matI_getD (by omega), matB, if_pos rfl], refsI_len .., fun r hr => by rw [nth_refsI hr, if_pos hr]⟩
  row r hr := ⟨_, by rw [matI_getD (by omega), matB, if_neg (by omega), if_pos (by omega)], by simp [zeroR], fun c hc hkn => by simp [zeroR, nth, List.getD, hc, hk r c hkn]⟩

theorem nth_put {C : List D} {c c' : Nat} (d : D) (hc : c < C.length) : nth (C.take c ++ [d] ++ C.drop (c + 1)) c' = if c' = c then d else nth C c' := by
  have hl : (C.take c).length = c := by simp; omega
  unfold nth List.getD
  rcases Nat.lt_trichotomy c' c with h | h | h
  · rw [if_neg (by omega), List.append_assoc, List.getElem?_append_left (by omega), List.getElem?_take, if_pos h]
  · subst h; simp [List.getElem?_append, hl]
  · rw [if_neg (by omega), List.getElem?_append_right (by simp; omega), List.getElem?_drop]
    congr 2; simp; omega

theorem Mat.put {T n m cols : Nat} {Kn Kn' : Nat → Nat → Prop} {G : Nat → Nat → Int} {L : List Blk} (h : Mat T n m cols Kn G L) (hT : 12 < T) {r c : Nat} (hr : r < m) (hc : c < cols) {C : List D} (hC : L.getD (T + r) blk0 = ⟨1, .cells C⟩) {v : Int} (hv : v = G r c)
    (hk : ∀ r' c', r' < m → c' < cols → Kn' r' c' → (r' = r ∧ c' = c) ∨ Kn r' c') : Mat T n m cols Kn' G (L.set (T + r) ⟨1, .cells (C.take c ++ [.int .i64 v] ++ C.drop (c + 1))⟩) := by
  obtain ⟨h1, ⟨R, q1, q2, q3⟩, h3⟩ := h
  refine ⟨by simpa using h1, ⟨R, ?_, q2, q3⟩, fun r' hr' => ?_⟩
  · rw [List.getD, List.getElem?_set_ne (by omega)]; exact q1
  · obtain ⟨C', p1, p2, p3⟩ := h3 r' hr'
    by_cases he : r' = r
    · subst he
      rw [hC] at p1; injection p1 with _ p1; injection p1 with p1; subst p1
      refine ⟨_, by simp [List.getD, h1, hr]; rfl, by simp; omega, fun c' hc' hkn => ?_⟩
      rw [List.append_cons] at *
      have := nth_put (C := C) (c := c) (c' := c') (.int .i64 v) (by omega)
      rw [show C.take c ++ [D.int .i64 v] ++ C.drop (c + 1) = C.take c ++ [D.int .i64 v] ++ C.drop (c + 1) from rfl] at this
      rw [this]
      by_cases hcc : c' = c
      · subst hcc; rw [if_pos rfl, hv]
      · rw [if_neg hcc]; exact p3 c' hc' ((hk _ _ hr' hc' hkn).resolve_left fun h => hcc h.2)
    · refine ⟨C', ?_, p2, fun c' hc' hkn => p3 c' hc' ((hk _ _ hr' hc' hkn).resolve_left fun h => he h.1)⟩
      rw [List.getD, List.getElem?_set_ne (by omega)]; exact p1

def matL (m cols : Nat) (G : Nat → Nat → Int) : List (List Int) := (List.range m).map fun r => (List.range cols).map (G r)
theorem matL_row {m cols : Nat} {G : Nat → Nat → Int} {r : Nat} (hr : r < m) : nth ((matL m cols G).map iD) r = iD ((List.range cols).map (G r)) := by simp [nth, List.getD, matL, hr]

/-- a table, handed back as data -/
theorem Mat.wk {T n m cols : Nat} {G : Nat → Nat → Int} {L : List Blk} (h : Mat T n m cols (fun _ _ => True) G L) (hT : 12 < T) : Wk ⟨n, L, [], []⟩ (.ref 1 (n + 12) 1 0 m) (.lst ((matL m cols G).map iD)) := by
  obtain ⟨h1, ⟨R, q1, q2, q3⟩, h3⟩ := h
  have g12 : L[12]? = some ⟨1, .cells R⟩ := by
    have : 12 < L.length := by omega
    have e : L.getD 12 blk0 = L[12] := by simp [List.getD, this]
    rw [← q1, e]; simp [this]
  refine .frz 1 12 1 0 m R _ g12 (by simp) (by simp [matL]) (by omega) (fun d hd => ?_) fun r d hd j e he => ?_
  · obtain ⟨x, _, rfl⟩ := List.mem_map.1 hd; rfl
  · have hr : r < m := by have := (List.getElem?_eq_some_iff.1 hd).1; simpa [matL] using this
    have e1 := nth_of hd
    rw [matL_row hr] at e1
    subst e1
    rcases j with _ | j
    · have e2 : e = iD ((List.range cols).map (G r)) := by simpa [D.cells] using he.symm
      subst e2
      obtain ⟨C, p1, p2, p3⟩ := h3 r hr
      have e3 : nth R (0 + r * 1 + 0) = .ref 1 (n + (T + r)) 1 0 cols := by rw [← q3 r hr]; congr 1; omega
      rw [e3]
      have gr : L[T + r]? = some ⟨1, .cells C⟩ := by
        have hlt : T + r < L.length := by omega
        have e : L.getD (T + r) blk0 = L[T + r] := by simp [List.getD, hlt]
        rw [← p1, e]; simp [hlt]
      refine .frz 1 (T + r) 1 0 cols C _ gr (by simp) (by simp) (by omega) (fun d hd => ?_) fun c d hd j e he => ?_
      · obtain ⟨x, _, rfl⟩ := List.mem_map.1 hd; rfl
      · have hc : c < cols := by have := (List.getElem?_eq_some_iff.1 hd).1; simpa using this
        have e1 : d = .int .i64 (G r c) := by
          have := nth_of hd
          rw [← this]; simp [nth, List.getD, hc]
        subst e1
        rcases j with _ | j
        · have e2 : e = .int .i64 (G r c) := by simpa [D.cells] using he.symm
          subst e2
          have e3 : nth C (0 + c * 1 + 0) = .int .i64 (G r c) := by rw [← p3 c hc trivial]; congr 1; omega
          rw [e3]
          exact .low _ (.int ..)
        · simp [D.cells] at he
    · simp [D.cells] at he

theorem flat_rep (z : D) : ∀ k : Nat, (List.replicate k [z]).flatten = List.replicate k z
  | 0 => rfl
  | k + 1 => by simp [List.replicate_succ, flat_rep z k]

theorem matI_zero (T n m cols : Nat) (hT : 12 < T) : ((List.replicate T blk0).set 12 ⟨1, .cells (List.replicate m .nils)⟩) ++ List.replicate m blk0 = matI T n m cols 0 := by
  refine List.ext_getElem? fun t => ?_
  by_cases ht : t < T + m
  · rw [matI_get ht, matB]
    by_cases h12 : t = 12
    · subst h12
      rw [if_pos rfl, List.getElem?_append_left (by simp; omega)]
      simp [hT]
      refine List.ext_getElem? fun r => ?_
      by_cases hr : r < m <;> simp [refsI, hr]
    · rw [if_neg h12, if_neg (by omega)]
      simp only [List.getElem?_append, List.length_set, List.length_replicate, List.getElem?_set_ne (Ne.symm h12), List.getElem?_replicate]
      split <;> simp
      omega
  · rw [List.getElem?_eq_none (by simp; omega), List.getElem?_eq_none (by rw [matI_len]; omega)]

theorem le_start {T n m cols : Nat} {sl sl' : List D} {h : Heap} (hT : 12 < T) (ht : Tops sl sl') : Le (St.mk n sl h ((List.replicate T blk0).set 12 ⟨1, .cells (List.replicate m .nils)⟩)) (St.mk n sl' h (matI T n m cols 0)) := by
  rw [← matI_zero T n m cols hT]
  exact (le_ghost m).trans (le_tops ht)

/-! ### plain -/
def dE : List Int → List Int → Int
  | [], b => b.length
  | a, [] => a.length
  | x :: a, y :: b => if x = y then dE a b else 1 + min (dE a (y :: b)) (dE (x :: a) b)
termination_by a b => a.length + b.length
def cE : List Int → List Int → Int
  | [], _ => 0
  | _, [] => 0
  | x :: a, y :: b => if x = y then max (max (cE a (y :: b)) (cE (x :: a) b)) (cE a b + 1) else max (cE a (y :: b)) (cE (x :: a) b)
termination_by a b => a.length + b.length

theorem dE_nil (b : List Int) : dE [] b = b.length := by rw [dE]
theorem dE_nil2 (a : List Int) : dE a [] = a.length := by cases a <;> simp [dE]
theorem dE_cons (x y : Int) (a b : List Int) : dE (x :: a) (y :: b) = if x = y then dE a b else 1 + min (dE a (y :: b)) (dE (x :: a) b) := by rw [dE]
theorem cE_nil (b : List Int) : cE [] b = 0 := by rw [cE]
theorem cE_nil2 (a : List Int) : cE a [] = 0 := by cases a <;> simp [cE]
theorem cE_cons (x y : Int) (a b : List Int) : cE (x :: a) (y :: b) = if x = y then max (max (cE a (y :: b)) (cE (x :: a) b)) (cE a b + 1) else max (cE a (y :: b)) (cE (x :: a) b) := by rw [cE]

/-- one symbol more lets at most one more be in common -/
theorem cE_step : ∀ (k : Nat) (a b : List Int), a.length + b.length ≤ k → 0 ≤ cE a b ∧ (∀ x, cE a b ≤ cE (x :: a) b ∧ cE (x :: a) b ≤ cE a b + 1) ∧ (∀ y, cE a b ≤ cE a (y :: b) ∧ cE a (y :: b) ≤ cE a b + 1) := by
  intro k
  induction k with
  | zero =>
    intro a b hk
    have ha : a = [] := List.eq_nil_of_length_eq_zero (by omega)
    have hb : b = [] := List.eq_nil_of_length_eq_zero (by omega)
    subst ha; subst hb
    simp [cE_nil, cE_nil2]
  | succ k ih =>
    intro a b hk
    have h0 : 0 ≤ cE a b := by
      cases a with
      | nil => simp [cE_nil]
      | cons x a =>
        cases b with
        | nil => simp [cE_nil2]
        | cons y b =>
          simp only [List.length_cons] at hk
          have h1 := (ih a (y :: b) (by simp; omega)).1
          rw [cE_cons]; split <;> omega
    refine ⟨h0, fun x => ?_, fun y => ?_⟩
    · cases b with
      | nil => simp [cE_nil2]
      | cons y b =>
        simp only [List.length_cons] at hk
        have h1 := ih a b (by omega)
        have h2 := (h1.2.2 y)
        have h3 := (h1.2.1 x)
        rw [cE_cons]
        by_cases he : x = y
        · simp only [if_pos he]; omega
        · simp only [if_neg he]; omega
    · cases a with
      | nil => simp [cE_nil]
      | cons x a =>
        simp only [List.length_cons] at hk
        have h1 := ih a b (by omega)
        have h2 := (h1.2.2 y)
        have h3 := (h1.2.1 x)
        rw [cE_cons]
        by_cases he : x = y
        · simp only [if_pos he]; omega
        · simp only [if_neg he]; omega

theorem dE_cE : ∀ (k : Nat) (a b : List Int), a.length + b.length ≤ k → dE a b = a.length + b.length - 2 * cE a b := by
  intro k
  induction k with
  | zero =>
    intro a b hk
    have ha : a = [] := List.eq_nil_of_length_eq_zero (by omega)
    have hb : b = [] := List.eq_nil_of_length_eq_zero (by omega)
    subst ha; subst hb
    simp [cE_nil, dE_nil]
  | succ k ih =>
    intro a b hk
    cases a with
    | nil => simp [cE_nil, dE_nil]
    | cons x a =>
      cases b with
      | nil => simp [cE_nil2, dE_nil2]
      | cons y b =>
        simp only [List.length_cons] at hk
        have h1 := ih a b (by omega)
        have h2 := ih a (y :: b) (by simp; omega)
        have h3 := ih (x :: a) b (by simp; omega)
        have h4 := (cE_step _ a b (Nat.le_refl _)).2
        have h5 := h4.1 x
        have h6 := h4.2 y
        rw [dE_cons, cE_cons]
        simp only [List.length_cons] at h2 h3 ⊢
        by_cases he : x = y
        · simp only [if_pos he]; omega
        · simp only [if_neg he]; omega
theorem dE_eq (a b : List Int) : dE a b = a.length + b.length - 2 * cE a b := dE_cE _ a b (Nat.le_refl _)
theorem cE_le : ∀ (k : Nat) (a b : List Int), a.length + b.length ≤ k → cE a b ≤ a.length ∧ cE a b ≤ b.length := by
  intro k
  induction k with
  | zero =>
    intro a b hk
    have ha : a = [] := List.eq_nil_of_length_eq_zero (by omega)
    subst ha
    simp [cE_nil]
  | succ k ih =>
    intro a b hk
    cases a with
    | nil => simp [cE_nil]
    | cons x a =>
      cases b with
      | nil => rw [cE_nil2]; simp; omega
      | cons y b =>
        simp only [List.length_cons] at hk
        have h1 := ih a b (by omega)
        have h2 := ih a (y :: b) (by simp; omega)
        have h3 := ih (x :: a) b (by simp; omega)
        rw [cE_cons]
        simp only [List.length_cons] at h2 h3 ⊢
        by_cases he : x = y
        · simp only [if_pos he]; omega
        · simp only [if_neg he]; omega
theorem dE_range (a b : List Int) : 0 ≤ dE a b ∧ dE a b ≤ a.length + b.length := by
  have h1 := cE_le _ a b (Nat.le_refl _)
  have h2 := (cE_step _ a b (Nat.le_refl _)).1
  rw [dE_eq]; omega
theorem cE_range (a b : List Int) : 0 ≤ cE a b ∧ cE a b ≤ a.length := ⟨(cE_step _ a b (Nat.le_refl _)).1, (cE_le _ a b (Nat.le_refl _)).1⟩

end Abs
end Go.Proofs.Ytfojedaccfenfab

/- Least costs of turning one word into another: the numbers, and repair's distances. -/
import Derived.Test.YtfojedaccfenfaaG1
namespace Go.Proofs.Ytfojedaccfenfaa
namespace Abs
set_option linter.unusedVariables false
set_option linter.unusedSimpArgs false
set_option maxRecDepth 20000

/-- costs: to insert, to delete, to replace -/
structure Co where
  a : Int
  b : Int
  c : Int
def okCo (q : Co) (M : Int) : Prop := 1 ≤ q.a ∧ q.a ≤ M ∧ 1 ≤ q.b ∧ q.b ≤ M ∧ 1 ≤ q.c ∧ q.c ≤ M
def coD (q : Co) : D := .agg [.int .i64 q.a, .int .i64 q.b, .int .i64 q.c]

def min3 (x y z : Int) : Int := if z < (if y < x then y else x) then z else if y < x then y else x
theorem min3_le (x y z : Int) : min3 x y z ≤ x ∧ min3 x y z ≤ y ∧ min3 x y z ≤ z ∧ (min3 x y z = x ∨ min3 x y z = y ∨ min3 x y z = z) := by
  unfold min3
  split <;> split <;> omega

def dR (q : Co) : List Int → List Int → Int
  | [], v => v.length * q.a
  | x :: w, [] => (w.length + 1 : Nat) * q.b
  | x :: w, y :: v => min3 (dR q w v + if x = y then 0 else q.c) (dR q w (y :: v) + q.b) (dR q (x :: w) v + q.a)
theorem dR_nil (q : Co) (v : List Int) : dR q [] v = v.length * q.a := by rw [dR]
theorem dR_nil2 (q : Co) (w : List Int) : dR q w [] = w.length * q.b := by
  cases w with
  | nil => rw [dR]; simp
  | cons x w => rw [dR]; simp
theorem dR_cons (q : Co) (x y : Int) (w v : List Int) : dR q (x :: w) (y :: v) = min3 (dR q w v + if x = y then 0 else q.c) (dR q w (y :: v) + q.b) (dR q (x :: w) v + q.a) := by rw [dR]

theorem dR_range {q : Co} (hq : okCo q 100) : ∀ (w v : List Int), 0 ≤ dR q w v ∧ dR q w v ≤ (w.length + v.length : Nat) * 100
  | [], v => by
    rw [dR_nil]
    obtain ⟨h1, h2, _⟩ := hq
    constructor
    · exact Int.mul_nonneg (by omega) (by omega)
    · have := Int.mul_le_mul_of_nonneg_left (a := q.a) (b := 100) (c := (v.length : Int)) h2 (by omega)
      simp only [List.length_nil, Nat.zero_add]; exact this
  | x :: w, [] => by
    rw [dR_nil2]
    obtain ⟨_, _, h1, h2, _⟩ := hq
    constructor
    · exact Int.mul_nonneg (by omega) (by omega)
    · have := Int.mul_le_mul_of_nonneg_left (a := q.b) (b := 100) (c := ((x :: w).length : Int)) h2 (by omega)
      simp only [List.length_nil, Nat.add_zero]; exact this
  | x :: w, y :: v => by
    have h1 := dR_range hq w v
    have h2 := dR_range hq w (y :: v)
    have h3 := dR_range hq (x :: w) v
    rw [dR_cons]
    have hm := min3_le (dR q w v + if x = y then 0 else q.c) (dR q w (y :: v) + q.b) (dR q (x :: w) v + q.a)
    obtain ⟨q1, q2, q3, q4, q5, q6⟩ := hq
    have hu : 0 ≤ (if x = y then 0 else q.c) ∧ (if x = y then 0 else q.c) ≤ 100 := by split <;> omega
    generalize (if x = y then 0 else q.c) = u at *
    generalize min3 _ _ _ = z at *
    simp only [List.length_cons] at *
    omega

def rowR (q : Co) (w v : List Int) (i : Nat) : List Int := (List.range (v.length + 1)).map fun j => dR q (w.drop i) (v.drop j)
def rowsR (q : Co) (w v : List Int) : List (List Int) := (List.range (w.length + 1)).map (rowR q w v)
theorem rowR_len (q : Co) (w v : List Int) (i : Nat) : (rowR q w v i).length = v.length + 1 := by simp [rowR]
theorem rowR_get (q : Co) (w v : List Int) (i j : Nat) (h : j ≤ v.length) : (rowR q w v i)[j]? = some (dR q (w.drop i) (v.drop j)) := by
  simp [rowR, Nat.lt_succ_of_le h]
theorem rowsR_len (q : Co) (w v : List Int) : (rowsR q w v).length = w.length + 1 := by simp [rowsR]
theorem rowsR_get (q : Co) (w v : List Int) (i : Nat) (h : i ≤ w.length) : (rowsR q w v)[i]? = some (rowR q w v i) := by
  simp [rowsR, Nat.lt_succ_of_le h]

/-! ### arrays filled from the end on -/
def tailC (z : D) (l : List D) (k : Nat) : List D := List.replicate k z ++ l.drop k
theorem tailC_len {z : D} {l : List D} {k : Nat} (h : k ≤ l.length) : (tailC z l k).length = l.length := by simp [tailC]; omega
theorem tailC_all (z : D) (l : List D) : tailC z l l.length = List.replicate l.length z := by simp [tailC]
theorem tailC_zero (z : D) (l : List D) : tailC z l 0 = l := by simp [tailC]
theorem tailC_put {z d : D} {l : List D} {k : Nat} (h : k < l.length) : (tailC z l (k + 1)).take k ++ [d] ++ (tailC z l (k + 1)).drop (k + 1) = List.replicate k z ++ d :: l.drop (k + 1) := by
  have h1 : (tailC z l (k + 1)).take k = List.replicate k z := by
    rw [tailC, List.take_append_of_le_length (by simp), List.take_replicate]; congr 1; omega
  have h2 : (tailC z l (k + 1)).drop (k + 1) = l.drop (k + 1) := by
    rw [tailC, List.drop_left' (by simp)]
  rw [h1, h2]; simp
theorem tailC_step {z d : D} {l : List D} {k : Nat} (h : l[k]? = some d) : List.replicate k z ++ d :: l.drop (k + 1) = tailC z l k := by
  obtain ⟨hk, hd⟩ := List.getElem?_eq_some_iff.1 h
  rw [tailC, List.drop_eq_getElem_cons hk, hd]
theorem nth_mid {z d : D} {r : List D} {k : Nat} : nth (List.replicate k z ++ d :: r) k = d := by simp [nth, List.getD]
theorem nth_mid1 {z d : D} {l : List D} {k j : Nat} (h : l[j]? = some d) (hj : k + 1 ≤ j) (x : D) : nth (List.replicate k z ++ x :: l.drop (k + 1)) j = d := by
  have e : (List.replicate k z ++ x :: l.drop (k + 1))[j]? = some d := by
    rw [List.getElem?_append_right (by simp; omega), List.length_replicate]
    obtain ⟨m, hm⟩ : ∃ m, j - k = m + 1 := ⟨j - k - 1, by omega⟩
    rw [hm, List.getElem?_cons_succ, List.getElem?_drop, show k + 1 + m = j by omega]; exact h
  exact nth_of e
theorem nth_tail {z d : D} {l : List D} {k j : Nat} (h : l[j]? = some d) (hj : k ≤ j) : nth (tailC z l k) j = d := by
  have e : (tailC z l k)[j]? = some d := by
    rw [tailC, List.getElem?_append_right (by simp; omega), List.length_replicate, List.getElem?_drop, show k + (j - k) = j by omega]; exact h
  exact nth_of e
theorem rep_flat (z : D) (k : Nat) : (List.replicate k [z]).flatten = List.replicate k z := by
  induction k with
  | zero => rfl
  | succ k ih => simp [List.replicate_succ, ih]
theorem mid_len {z d : D} {l : List D} {k : Nat} (h : k < l.length) : (List.replicate k z ++ d :: l.drop (k + 1)).length = l.length := by simp; omega
theorem low_rep {n : Nat} {z : D} (hz : Low n z) (k : Nat) : ∀ c ∈ List.replicate k z, Low n c := fun c hc => by rw [List.eq_of_mem_replicate hc]; exact hz
theorem low_tail {n : Nat} {z : D} {l : List D} (hz : Low n z) (hl : ∀ c ∈ l, Low n c) (k : Nat) : ∀ c ∈ tailC z l k, Low n c := fun c hc => by
  rcases List.mem_append.1 hc with hc | hc
  · exact low_rep hz k c hc
  · exact hl c (List.mem_of_mem_drop hc)

end Abs
end Go.Proofs.Ytfojedaccfenfaa

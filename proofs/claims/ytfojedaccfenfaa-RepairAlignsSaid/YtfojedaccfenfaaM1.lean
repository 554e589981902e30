/- Least costs once more: plain laws; the reference's alignment is repair's. -/
import Derived.Test.YtfojedaccfenfaaK5
namespace Go.Proofs.Ytfojedaccfenfaa
namespace Abs
set_option linter.unusedVariables false
set_option linter.unusedSimpArgs false
set_option maxRecDepth 20000

theorem len_mul (n : Nat) (a : Int) : ((n + 1 : Nat) : Int) * a = n * a + a := by
  rw [Int.natCast_add, Int.add_mul]; simp
/-- one terminal more to insert, to delete -/
theorem dR_ins (q : Co) : ∀ (w v : List Int) (y : Int), dR q w (y :: v) ≤ dR q w v + q.a
  | [], v, y => by rw [dR_nil, dR_nil, List.length_cons, len_mul]; omega
  | x :: w, v, y => by rw [dR_cons]; exact (min3_le ..).2.2.1
theorem dR_del (q : Co) : ∀ (w v : List Int) (x : Int), dR q (x :: w) v ≤ dR q w v + q.b
  | w, [], x => by rw [dR_nil2, dR_nil2, List.length_cons, len_mul]; omega
  | w, y :: v, x => by rw [dR_cons]; exact (min3_le ..).2.1
theorem dR_le (q : Co) : ∀ (w v : List Int), dR q w v ≤ w.length * q.b + v.length * q.a
  | [], v => by rw [dR_nil]; simp
  | x :: w, v => by
    have h1 := dR_del q w v x
    have h2 := dR_le q w v
    rw [List.length_cons, len_mul]; omega

theorem dR_back {q : Co} (ha : 0 ≤ q.a) (hb : 0 ≤ q.b) (hc : 0 ≤ q.c) : ∀ (w v : List Int), (∀ y, dR q w v ≤ dR q w (y :: v) + q.b) ∧ (∀ x, dR q w v ≤ dR q (x :: w) v + q.a)
  | [], v => by
    have first : ∀ y, dR q [] v ≤ dR q [] (y :: v) + q.b := fun y => by
      rw [dR_nil, dR_nil, List.length_cons, len_mul]; omega
    refine ⟨first, fun x => ?_⟩
    cases v with
    | nil => rw [dR_nil, dR_nil2]; simp; omega
    | cons y v =>
      have ih := (dR_back ha hb hc [] v).2 x
      have h4 := dR_ins q [] v y
      have hm := min3_le (dR q [] v + if x = y then 0 else q.c) (dR q [] (y :: v) + q.b) (dR q [x] v + q.a)
      rw [← dR_cons] at hm
      have hu : 0 ≤ (if x = y then 0 else q.c) := by split <;> omega
      omega
  | x0 :: w, [] => by
    constructor
    · intro y
      have ih := (dR_back ha hb hc w []).1 y
      have h3 := dR_del q w [] x0
      have hm := min3_le (dR q w [] + if x0 = y then 0 else q.c) (dR q w [y] + q.b) (dR q (x0 :: w) [] + q.a)
      rw [← dR_cons] at hm
      have hu : 0 ≤ (if x0 = y then 0 else q.c) := by split <;> omega
      omega
    · intro x
      rw [dR_nil2, dR_nil2]; simp only [List.length_cons]; rw [len_mul (w.length + 1)]; omega
  | x0 :: w, y0 :: v => by
    constructor
    · intro y
      have ih := (dR_back ha hb hc w (y0 :: v)).1 y
      have h3 := dR_del q w (y0 :: v) x0
      have hm := min3_le (dR q w (y0 :: v) + if x0 = y then 0 else q.c) (dR q w (y :: y0 :: v) + q.b) (dR q (x0 :: w) (y0 :: v) + q.a)
      rw [← dR_cons] at hm
      have hu : 0 ≤ (if x0 = y then 0 else q.c) := by split <;> omega
      omega
    · intro x
      have ih := (dR_back ha hb hc (x0 :: w) v).2 x
      have h4 := dR_ins q (x0 :: w) v y0
      have hm := min3_le (dR q (x0 :: w) v + if x = y0 then 0 else q.c) (dR q (x0 :: w) (y0 :: v) + q.b) (dR q (x :: x0 :: w) v + q.a)
      rw [← dR_cons] at hm
      have hu : 0 ≤ (if x = y0 then 0 else q.c) := by split <;> omega
      omega
termination_by w v => w.length + v.length

theorem dR_same {q : Co} (ha : 0 ≤ q.a) (hb : 0 ≤ q.b) (hc : 0 ≤ q.c) (x : Int) (w v : List Int) : dR q (x :: w) (x :: v) = dR q w v := by
  have h := dR_back ha hb hc w v
  have h1 := h.1 x
  have h2 := h.2 x
  have hm := min3_le (dR q w v + if x = x then 0 else q.c) (dR q w (x :: v) + q.b) (dR q (x :: w) v + q.a)
  rw [← dR_cons, if_pos rfl] at hm
  omega

/-- what the memo may hold -/
def tabD (q : Co) (w v : List Int) : List (D × D) := (List.range (w.length + 1)).flatMap fun (i : Nat) => (List.range (v.length + 1)).map fun (j : Nat) => (.agg [.int .i64 (i : Int), .int .i64 (j : Int)], .int .i64 (dR q (w.drop i) (v.drop j)))
theorem tab_mem {q : Co} {w v : List Int} {e : D × D} : e ∈ tabD q w v ↔ ∃ i j : Nat, i ≤ w.length ∧ j ≤ v.length ∧ e = (.agg [.int .i64 (i : Int), .int .i64 (j : Int)], .int .i64 (dR q (w.drop i) (v.drop j))) := by
  unfold tabD
  simp only [List.mem_flatMap, List.mem_map, List.mem_range]
  constructor
  · rintro ⟨i, hi, j, hj, rfl⟩; exact ⟨i, j, by omega, by omega, rfl⟩
  · rintro ⟨i, j, hi, hj, rfl⟩; exact ⟨i, by omega, j, by omega, rfl⟩
theorem tab_key {q : Co} {w v : List Int} : ∀ e ∈ tabD q w v, key2D e.1 = true := fun e he => by
  obtain ⟨i, j, _, _, rfl⟩ := tab_mem.1 he; rfl
theorem tab_sc {q : Co} {w v : List Int} : ∀ e ∈ tabD q w v, scD e.1 = true ∧ scD e.2 = true := fun e he => by
  obtain ⟨i, j, _, _, rfl⟩ := tab_mem.1 he; exact ⟨rfl, rfl⟩
theorem tab_get {q : Co} {w v : List Int} {i j : Nat} : ∀ e ∈ tabD q w v, e.1 = .agg [.int .i64 (i : Int), .int .i64 (j : Int)] → e.2 = .int .i64 (dR q (w.drop i) (v.drop j)) := fun e he h => by
  obtain ⟨i', j', _, _, rfl⟩ := tab_mem.1 he
  simp at h
  obtain ⟨h1, h2⟩ := h
  have : i' = i := by omega
  have : j' = j := by omega
  subst i'; subst j'; rfl
theorem tab_put {q : Co} {w v : List Int} {i j : Nat} (hi : i ≤ w.length) (hj : j ≤ v.length) : (D.agg [.int .i64 (i : Int), .int .i64 (j : Int)], D.int .i64 (dR q (w.drop i) (v.drop j))) ∈ tabD q w v := tab_mem.2 ⟨i, j, hi, hj, rfl⟩

end Abs
end Go.Proofs.Ytfojedaccfenfaa

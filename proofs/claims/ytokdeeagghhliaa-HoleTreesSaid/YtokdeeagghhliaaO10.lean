/- The least words: one pass over the rules, as plain lists. -/
import Derived.Test.YtokdeeagghhliaaO9
namespace Go.Proofs.Ytokdeeagghhliaa
namespace Abs
set_option linter.unusedVariables false
set_option linter.unusedSimpArgs false
set_option maxRecDepth 20000

def seqW (ws : List Wd) : Wd → List Sy → Wd
  | v, [] => v
  | v, x :: xs => seqW ws (if v.ok = true ∧ (freeW ws x).ok = true then joinW v (freeW ws x) else wd0) xs
def ruleW (ws : List Wd) (r : Ru) : Wd := seqW ws wd1 r.right
def chgW (ws : List Wd) (r : Ru) : Bool := shorterW (ruleW ws r) wd1 (ws.getD r.left.toNat wd0)
def stepW (ws : List Wd) (r : Ru) : List Wd := if chgW ws r = true then ws.set r.left.toNat (ruleW ws r) else ws
def cntW (ws : List Wd) : Nat := ws.countP (·.ok)
def symOk (B nons : Nat) (x : Sy) : Prop := 0 ≤ x.n ∧ (x.t = true → x.n < B) ∧ (x.t = false → x.n < nons)

/-- a table of least words on its way -/
structure GoodW (B nons : Nat) (ws : List Wd) : Prop where
  len : ws.length = nons
  few : nons ≤ 10
  ok : ∀ x ∈ ws, okW x
  num : ∀ x ∈ ws, inB B x.w
  low : ∀ x ∈ ws, x.n ≤ (4 ^ cntW ws : Nat)

theorem cntW_le (ws : List Wd) : cntW ws ≤ ws.length := List.countP_le_length
theorem GoodW.top {B nons : Nat} {ws : List Wd} (h : GoodW B nons ws) : (4 ^ cntW ws : Nat) ≤ 4 ^ 10 :=
  Nat.pow_le_pow_right (by omega) (Nat.le_trans (cntW_le ws) (by have := h.len; have := h.few; omega))
theorem getD_mem {ws : List Wd} {i : Nat} (hi : i < ws.length) : ws.getD i wd0 ∈ ws := by simp [List.getD, hi]

theorem GoodW.free {B nons : Nat} {ws : List Wd} (h : GoodW B nons ws) {x : Sy} (hx : symOk B nons x) : okW (freeW ws x) ∧ inB B (freeW ws x).w ∧ (freeW ws x).n ≤ (4 ^ cntW ws : Nat) := by
  obtain ⟨h1, h2, h3⟩ := hx
  unfold freeW
  cases hxt : x.t with
  | true =>
    have h2 := h2 hxt
    have hp : 1 ≤ 4 ^ cntW ws := Nat.one_le_pow _ _ (by omega)
    simp only [if_true]
    refine ⟨⟨by simp, by simp, fun _ => by simp, by simp⟩, fun y hy => ?_, by show (1 : Int) ≤ _; omega⟩
    simp only [List.mem_singleton] at hy
    subst hy
    exact ⟨h1, h2⟩
  | false =>
    have h3 := h3 hxt
    have hm := getD_mem (ws := ws) (i := x.n.toNat) (by have := h.len; omega)
    simp only [Bool.false_eq_true, if_false]
    exact ⟨h.ok _ hm, h.num _ hm, h.low _ hm⟩

theorem GoodW.seq {B nons : Nat} {ws : List Wd} (h : GoodW B nons ws) : ∀ (xs : List Sy) (v : Wd) (k : Nat), (∀ x ∈ xs, symOk B nons x) → okW v → inB B v.w → v.n ≤ (k * 4 ^ cntW ws : Nat) → k + xs.length ≤ 4 →
    okW (seqW ws v xs) ∧ inB B (seqW ws v xs).w ∧ (seqW ws v xs).n ≤ (4 * 4 ^ cntW ws : Nat)
  | [], v, k, _, hv, hb, hn, hk => by
    refine ⟨hv, hb, ?_⟩
    have : k * 4 ^ cntW ws ≤ 4 * 4 ^ cntW ws := Nat.mul_le_mul_right _ (by simpa using hk)
    show v.n ≤ _
    omega
  | x :: xs, v, k, hx, hv, hb, hn, hk => by
    obtain ⟨f1, f2, f3⟩ := h.free (hx x List.mem_cons_self)
    have hk' : (k + 1) + xs.length ≤ 4 := by simp only [List.length_cons] at hk; omega
    have ht := h.top
    have e10 : (4 : Nat) ^ 10 = 1048576 := by decide
    rw [e10] at ht
    have hkm : k * 4 ^ cntW ws ≤ 4 * 4 ^ cntW ws := Nat.mul_le_mul_right _ (by omega)
    have hkn : (k + 1) * 4 ^ cntW ws = k * 4 ^ cntW ws + 4 ^ cntW ws := by rw [Nat.add_mul]; omega
    rw [seqW]
    split
    · refine GoodW.seq h xs _ (k + 1) (fun y hy => hx y (List.mem_cons_of_mem _ hy)) (okW_join hv f1 (by omega)) ?_ (by show v.n + (freeW ws x).n ≤ _; omega) hk'
      unfold joinW
      simp only
      split
      · intro y hy
        rcases List.mem_append.1 hy with hy | hy
        · exact hb y hy
        · exact f2 y hy
      · intro y hy; cases hy
    · exact GoodW.seq h xs wd0 (k + 1) (fun y hy => hx y (List.mem_cons_of_mem _ hy)) okW0 (fun y hy => by cases hy) (by show (0 : Int) ≤ _; omega) hk'

theorem GoodW.rule {B nons : Nat} {ws : List Wd} (h : GoodW B nons ws) {r : Ru} (hr : r.right.length ≤ 4) (hx : ∀ x ∈ r.right, symOk B nons x) :
    okW (ruleW ws r) ∧ inB B (ruleW ws r).w ∧ (ruleW ws r).n ≤ (4 * 4 ^ cntW ws : Nat) :=
  h.seq r.right wd1 0 hx okW1 (fun y hy => by cases hy) (by show (0 : Int) ≤ _; omega) (by omega)

def sumMu (B : Nat) (ws : List Wd) : Nat := (ws.map (muW B)).sum

theorem sum_set {α : Type} (f : α → Nat) : ∀ (l : List α) (i : Nat) (a d : α), i < l.length → f a < f (l.getD i d) → ((l.set i a).map f).sum < (l.map f).sum
  | [], i, a, d, h, _ => by simp at h
  | x :: l, 0, a, d, _, h => by simp at h ⊢; omega
  | x :: l, i + 1, a, d, hi, h => by
    have := sum_set f l i a d (by simpa using hi) (by simpa using h)
    simp at this ⊢; omega
theorem cnt_set : ∀ (l : List Wd) (i : Nat) (a : Wd), i < l.length → a.ok = true → cntW (l.set i a) = cntW l + (if (l.getD i wd0).ok = true then 0 else 1)
  | [], i, a, h, _ => by simp at h
  | x :: l, 0, a, _, h => by
    simp only [List.set_cons_zero, cntW, List.countP_cons, h]
    cases hx : x.ok <;> simp [List.getD, hx]
  | x :: l, i + 1, a, hi, h => by
    have := cnt_set l i a (by simpa using hi) h
    have e : (x :: l).getD (i + 1) wd0 = l.getD i wd0 := by simp [List.getD]
    simp only [cntW] at this
    rw [e]
    simp only [List.set_cons_succ, cntW, List.countP_cons, this]
    generalize (if (l.getD i wd0).ok = true then 0 else 1) = q
    generalize (if x.ok = true then 1 else 0) = q'
    omega

theorem shorter_ok {v c : Wd} (h : shorterW v wd1 c = true) : v.ok = true := by
  unfold shorterW at h
  split at h
  · simp at h
  · rename_i hok
    cases hvo : v.ok with
    | true => rfl
    | false => exact absurd (.inl hvo) hok
theorem shorter_n {v c : Wd} (h : shorterW v wd1 c = true) (hc : c.ok = true) : v.n ≤ c.n := by
  have hn : wd1.n = 0 := rfl
  unfold shorterW at h
  rw [hn, Int.add_zero] at h
  split at h
  · simp at h
  · rw [if_neg (by rw [hc]; simp)] at h
    split at h
    · have : v.n < c.n := by simpa using h
      omega
    · omega

theorem GoodW.step {B nons : Nat} {ws : List Wd} (h : GoodW B nons ws) (hB : 1 ≤ B) {r : Ru} (hr : r.right.length ≤ 4) (hx : ∀ x ∈ r.right, symOk B nons x) (hl : 0 ≤ r.left ∧ r.left < nons) :
    GoodW B nons (stepW ws r) ∧ (chgW ws r = true → sumMu B (stepW ws r) < sumMu B ws) ∧ (chgW ws r = false → stepW ws r = ws) := by
  obtain ⟨r1, r2, r3⟩ := h.rule hr hx
  have hi : r.left.toNat < ws.length := by have := h.len; omega
  have hm := getD_mem hi
  unfold stepW
  cases hc : chgW ws r with
  | false => simp only [Bool.false_eq_true, if_false]; exact ⟨h, by simp, fun _ => trivial⟩
  | true =>
    have hs : shorterW (ruleW ws r) wd1 (ws.getD r.left.toNat wd0) = true := hc
    simp only [if_true]
    have hmu := muW_lt hB r1 (h.ok _ hm) r2 (h.num _ hm) hs
    have hcnt := cnt_set ws r.left.toNat (ruleW ws r) hi (shorter_ok hs)
    have hge : 4 ^ cntW ws ≤ 4 ^ cntW (ws.set r.left.toNat (ruleW ws r)) := Nat.pow_le_pow_right (by omega) (by omega)
    have hnew : (ruleW ws r).n ≤ (4 ^ cntW (ws.set r.left.toNat (ruleW ws r)) : Nat) := by
      cases hco : (ws.getD r.left.toNat wd0).ok with
      | true =>
        have := shorter_n hs hco
        have := h.low _ hm
        omega
      | false =>
        rw [hco, if_neg (by simp)] at hcnt
        rw [hcnt, Nat.pow_succ]
        omega
    refine ⟨⟨by rw [List.length_set]; exact h.len, h.few, fun x hx => ?_, fun x hx => ?_, fun x hx => ?_⟩, fun _ => sum_set (muW B) ws _ _ wd0 hi hmu, by simp⟩
    · rcases List.mem_or_eq_of_mem_set hx with hx | rfl
      · exact h.ok x hx
      · exact r1
    · rcases List.mem_or_eq_of_mem_set hx with hx | rfl
      · exact h.num x hx
      · exact r2
    · rcases List.mem_or_eq_of_mem_set hx with hx | rfl
      · have := h.low x hx; omega
      · exact hnew

end Abs
end Go.Proofs.Ytokdeeagghhliaa

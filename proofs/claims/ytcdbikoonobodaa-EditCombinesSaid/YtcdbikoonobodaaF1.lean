/- Common beginnings of lists; the change between two words. -/
import Derived.Test.YtcdbikoonobodaaD14
namespace Go.Proofs.Ytcdbikoonobodaa
namespace Abs
set_option linter.unusedVariables false
set_option linter.unusedSimpArgs false

def lcp : List Int → List Int → Nat
  | x :: a, y :: b => if x = y then lcp a b + 1 else 0
  | _, _ => 0

theorem lcp_le : ∀ a b : List Int, lcp a b ≤ a.length ∧ lcp a b ≤ b.length
  | [], b => by simp [lcp]
  | x :: a, [] => by simp [lcp]
  | x :: a, y :: b => by
    have := lcp_le a b
    unfold lcp
    split <;> simp <;> omega

theorem lcp_step : ∀ (a b : List Int) (i : Nat) (ha : i < a.length) (hb : i < b.length), i ≤ lcp a b → (a[i] = b[i] ↔ i < lcp a b)
  | [], b, i, ha, _, _ => by simp at ha
  | x :: a, [], i, _, hb, _ => by simp at hb
  | x :: a, y :: b, 0, _, _, _ => by
    unfold lcp
    simp only [List.getElem_cons_zero]
    split <;> simp_all
  | x :: a, y :: b, i + 1, ha, hb, h => by
    unfold lcp at h ⊢
    split at h
    · rename_i e
      rw [if_pos e]
      have := lcp_step a b i (by simpa using ha) (by simpa using hb) (by omega)
      simp only [List.getElem_cons_succ, this]
      omega
    · omega

theorem lcp_end (a b : List Int) (i : Nat) (h : i ≤ lcp a b) (he : ¬ (i < a.length ∧ i < b.length)) : i = lcp a b := by
  have := lcp_le a b
  omega

/-- how far the ends of two words agree behind their first k -/
def lcs (a b : List Int) (k : Nat) : Nat := lcp (a.drop k).reverse (b.drop k).reverse

theorem lcs_le (a b : List Int) (k : Nat) : lcs a b k ≤ a.length - k ∧ lcs a b k ≤ b.length - k := by
  have := lcp_le (a.drop k).reverse (b.drop k).reverse
  simpa [lcs] using this

theorem lcs_step (a b : List Int) (k i : Nat) (ha : i < a.length - k) (hb : i < b.length - k) (h : i ≤ lcs a b k) : (a[a.length - 1 - i]'(by omega) = b[b.length - 1 - i]'(by omega)) ↔ i < lcs a b k := by
  have h1 := lcp_step (a.drop k).reverse (b.drop k).reverse i (by simpa using ha) (by simpa using hb) h
  rw [List.getElem_reverse, List.getElem_reverse, List.getElem_drop, List.getElem_drop] at h1
  simp only [List.length_drop] at h1
  have e1 : k + (a.length - k - 1 - i) = a.length - 1 - i := by omega
  have e2 : k + (b.length - k - 1 - i) = b.length - 1 - i := by omega
  simp only [e1, e2] at h1
  exact h1

theorem lcs_end (a b : List Int) (k i : Nat) (h : i ≤ lcs a b k) (he : ¬ (i < a.length - k ∧ i < b.length - k)) : i = lcs a b k := by
  have := lcs_le a b k
  omega

def changeE (a b : List Int) : Ed := ⟨lcp a b, (a.length : Int) - lcs a b (lcp a b), (b.take (b.length - lcs a b (lcp a b))).drop (lcp a b)⟩

end Abs
end Go.Proofs.Ytcdbikoonobodaa

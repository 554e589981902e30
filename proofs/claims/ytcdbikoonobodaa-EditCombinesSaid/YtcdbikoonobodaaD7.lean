/- Numbers made of raw ones: Below, Word, a reader's next. -/
import Derived.Test.YtcdbikoonobodaaD6
namespace Go.Proofs.Ytcdbikoonobodaa
namespace Abs
set_option linter.unusedVariables false
set_option linter.unusedSimpArgs false
set_option maxRecDepth 20000

def belowI (x n : Int) : Int := if x.tmod n < 0 then x.tmod n + n else x.tmod n

theorem tmod_range (x n : Int) (h : 0 < n) : -n < x.tmod n ∧ x.tmod n < n := by
  rcases Int.lt_or_le x 0 with hx | hx
  · have h1 := Int.tmod_lt_of_pos (-x) h
    have h2 : (0 : Int) ≤ (-x).tmod n := Int.tmod_nonneg n (by omega)
    rw [Int.neg_tmod] at h1 h2
    omega
  · have h1 := Int.tmod_lt_of_pos x h
    have h2 := Int.tmod_nonneg n hx
    omega

theorem below_range (x n : Int) (h : 0 < n) : 0 ≤ belowI x n ∧ belowI x n < n := by
  have := tmod_range x n h
  unfold belowI
  split <;> omega

def wordM (terms : Int) (most : Nat) (l : List Int) : List Int := (l.take most).map fun x => belowI x terms

end Abs
end Go.Proofs.Ytcdbikoonobodaa

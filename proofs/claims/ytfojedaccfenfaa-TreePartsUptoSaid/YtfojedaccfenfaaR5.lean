/- A tree's nodes and its reading. -/
import Derived.Test.YtfojedaccfenfaaR2
import Derived.Test.YtfojedaccfenfaaG5
namespace Go.Proofs.Ytfojedaccfenfaa
namespace Abs

theorem full_le_bulk : ∀ t : Tree, full t ≤ bulk t
  | .mk r _ ks => by
    rw [full_mk, bulk_mk]
    have h : ∀ l : List Tree, (∀ k ∈ l, full k ≤ bulk k) → (l.map full).sum ≤ (l.map bulk).sum := by
      intro l
      induction l with
      | nil => intro _; exact Nat.le_refl _
      | cons k l ih =>
        intro hl
        have := ih fun k hk => hl k (by simp [hk])
        have := hl k (by simp)
        simp only [List.map_cons, List.sum_cons]; omega
    have := h ks fun k hk => full_le_bulk k
    omega

end Abs
end Go.Proofs.Ytfojedaccfenfaa

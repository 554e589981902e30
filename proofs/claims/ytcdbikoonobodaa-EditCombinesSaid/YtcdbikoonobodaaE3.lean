/- Lists of lists. -/
import Derived.Test.YtcdbikoonobodaaE2
namespace Go.Proofs.Ytcdbikoonobodaa
namespace Abs
set_option linter.unusedVariables false

theorem flat_take_succ {α β : Type} (f : α → List β) : ∀ (ks : List α) (i : Nat) (hi : i < ks.length), ((ks.map f).take (i + 1)).flatten = ((ks.map f).take i).flatten ++ f ks[i]
  | [], i, hi => by simp at hi
  | a :: l, 0, hi => by simp
  | a :: l, i + 1, hi => by
    have := flat_take_succ f l i (by simpa using hi)
    simp only [List.map_cons, List.take_succ_cons, List.flatten_cons, List.getElem_cons_succ, this, List.append_assoc]

theorem flat_take_le {α : Type} : ∀ (ls : List (List α)) (i : Nat), (ls.take i).flatten.length ≤ ls.flatten.length
  | [], i => by simp
  | a :: l, 0 => by simp
  | a :: l, i + 1 => by
    have := flat_take_le l i
    simp only [List.take_succ_cons, List.flatten_cons, List.length_append]
    omega

end Abs
end Go.Proofs.Ytcdbikoonobodaa

/- Whole numbers. -/
import Derived.Test.YtcdbikoonobodaaE1
namespace Go.Proofs.Ytcdbikoonobodaa
namespace Abs
set_option linter.unusedVariables false

theorem nth_ints (l : List Int) (i : Nat) (hi : i < l.length) : nth (l.map (D.int .i64)) i = .int .i64 l[i] := by
  simp [nth, List.getD, hi]

end Abs
end Go.Proofs.Ytcdbikoonobodaa

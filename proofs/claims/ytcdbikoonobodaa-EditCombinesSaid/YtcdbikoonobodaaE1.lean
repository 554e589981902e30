/- The order of calls is left open. -/
import Derived.Test.YtcdbikoonobodaaA26
import Derived.Test.YtcdbikoonobodaaB
import Derived.KernelRfl
namespace Go.Proofs.Ytcdbikoonobodaa
namespace Abs
set_option linter.unusedVariables false

theorem hmix : prog.follows .mixedOrders = true := by kernel_rfl

theorem low_ints (n : Nat) (l : List Int) : Low n (.lst (l.map (.int .i64))) := by
  refine .lst _ fun c hc => ?_
  obtain ⟨k, hk, rfl⟩ := List.mem_map.1 hc
  exact .int ..

end Abs
end Go.Proofs.Ytcdbikoonobodaa

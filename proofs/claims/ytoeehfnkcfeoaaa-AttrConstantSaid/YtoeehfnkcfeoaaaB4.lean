/- Printed by wip/tools/codes.py: the functions' texts. -/
import Derived.Test.YtoeehfnkcfeoaaaB0
import Derived.Test.YtoeehfnkcfeoaaaProg
import Derived.KernelRfl
namespace Go.Proofs.Ytoeehfnkcfeoaaa
namespace Abs
set_option linter.unusedVariables false
noncomputable section

def C_slices_order2CmpFunc_attr_Ref : AC :=
  (.seq (.region [⟨(.some 10), (.mov (.val (.int .i64 0))), .always⟩, ⟨(.some 11), (.mov (.val (.int .i64 0))), .always⟩]) (.seq (.seq (.draw [⟨⟨(.some 12), (.mov (.tmp 4)), .always⟩, [], []⟩, ⟨⟨(.some 13), (.mov (.tmp 0)), .always⟩, [], []⟩, ⟨⟨(.some 14), (.mov (.tmp 2)), .always⟩, [], []⟩, ⟨⟨(.some 15), (.idxS 2 (.tmp 13) (.tmp 14)), .always⟩, [], []⟩, ⟨⟨(.some 16), (.load .true 2 (.tmp 15)), .always⟩, [], []⟩, ⟨⟨(.some 17), (.mov (.tmp 0)), .always⟩, [], []⟩, ⟨⟨(.some 18), (.mov (.tmp 1)), .always⟩, [], []⟩, ⟨⟨(.some 19), (.idxS 2 (.tmp 17) (.tmp 18)), .always⟩, [], []⟩, ⟨⟨(.some 20), (.load .true 2 (.tmp 19)), .always⟩, [], []⟩, ⟨⟨(.some 21), (.callv (.tmp 12) [(.tmp 16), (.tmp 20)]), .always⟩, [], []⟩, ⟨⟨(.some 22), (.bin .lss (.tmp 21) (.val (.int .i64 0))), .always⟩, [], []⟩]) (.cond (.tmp 22) (.seq (.region [⟨(.some 23), (.mov (.tmp 3)), .always⟩, ⟨(.some 24), (.nilck (.tmp 23)), .always⟩, ⟨(.some 25), (.load .false 1 (.tmp 24)), .always⟩, ⟨(.some 26), (.bin .add (.tmp 25) (.val (.int .i64 1))), .always⟩, ⟨(.some 27), (.nilck (.tmp 23)), .always⟩, ⟨.none, (.store 1 (.tmp 27) (.tmp 26)), .always⟩]) (.seq (.region [⟨(.some 28), (.mov (.tmp 2)), .always⟩, ⟨(.some 29), (.mov (.tmp 1)), .always⟩, ⟨(.some 10), (.mov (.tmp 28)), .always⟩, ⟨(.some 11), (.mov (.tmp 29)), .always⟩]) .ret)) .skip)) (.seq (.region [⟨(.some 30), (.mov (.tmp 1)), .always⟩, ⟨(.some 31), (.mov (.tmp 2)), .always⟩, ⟨(.some 10), (.mov (.tmp 30)), .always⟩, ⟨(.some 11), (.mov (.tmp 31)), .always⟩]) .ret)))
theorem K_slices_order2CmpFunc_attr_Ref : Has prog F_slices_order2CmpFunc_attr_Ref 32 [(.tmp 10), (.tmp 11)] C_slices_order2CmpFunc_attr_Ref := ⟨Try.f44, _, Try.func44, rfl, by kernel_rfl, by kernel_rfl, rfl, by kernel_rfl⟩


end
end Abs
end Go.Proofs.Ytoeehfnkcfeoaaa

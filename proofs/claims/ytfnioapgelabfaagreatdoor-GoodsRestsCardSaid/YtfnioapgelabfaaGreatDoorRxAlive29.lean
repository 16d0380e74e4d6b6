/-
A part of the proof: lemmas on the machine that the printed functions run on, or contracts of functions.
-/
import Derived.Test.YtfnioapgelabfaaGreatDoorRxCode
import Derived.KernelRfl
set_option linter.unusedVariables false
set_option linter.unusedSimpArgs false
namespace Go.Rx
theorem t4 : callN prog 200 4 [] m0 = some (.bool true, m0) := by kernel_rfl
end Go.Rx

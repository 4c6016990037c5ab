/- The law of this seat holds of every input: a part of the proof (an evaluator that is proved to answer as the model does, and its runs by the kernel). -/
import Derived.Test.YtcjgdjlmlgjaiaaGreatDoorS2
set_option linter.unusedVariables false
set_option linter.unusedSimpArgs false
namespace Go.Proofs.YtcjgdjlmlgjaiaaGreatDoor
open Go Go.Ev
set_option maxRecDepth 1000000
theorem run_28 : okT (callF T1 2000 3 [.low 3 5 28] fs0) = true := by kernel_rfl
theorem run_29 : okT (callF T1 2000 3 [.low 3 5 29] fs0) = true := by kernel_rfl
theorem run_30 : okT (callF T1 2000 3 [.low 3 5 30] fs0) = true := by kernel_rfl
theorem run_31 : okT (callF T1 2000 3 [.low 3 5 31] fs0) = true := by kernel_rfl
end Go.Proofs.YtcjgdjlmlgjaiaaGreatDoor

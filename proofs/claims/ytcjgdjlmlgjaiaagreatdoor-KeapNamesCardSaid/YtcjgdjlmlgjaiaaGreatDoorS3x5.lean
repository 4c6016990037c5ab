/- The law of this seat holds of every input: a part of the proof (an evaluator that is proved to answer as the model does, and its runs by the kernel). -/
import Derived.Test.YtcjgdjlmlgjaiaaGreatDoorS2
set_option linter.unusedVariables false
set_option linter.unusedSimpArgs false
namespace Go.Proofs.YtcjgdjlmlgjaiaaGreatDoor
open Go Go.Ev
set_option maxRecDepth 1000000
theorem run_20 : okT (callF T1 2000 3 [.low 3 5 20] fs0) = true := by kernel_rfl
theorem run_21 : okT (callF T1 2000 3 [.low 3 5 21] fs0) = true := by kernel_rfl
theorem run_22 : okT (callF T1 2000 3 [.low 3 5 22] fs0) = true := by kernel_rfl
theorem run_23 : okT (callF T1 2000 3 [.low 3 5 23] fs0) = true := by kernel_rfl
end Go.Proofs.YtcjgdjlmlgjaiaaGreatDoor

/- The law of this seat holds of every input: a part of the proof (an evaluator that is proved to answer as the model does, and its runs by the kernel). -/
import Derived.Test.YtcjgdjlmlgjaiaaGreatDoorS2
set_option linter.unusedVariables false
set_option linter.unusedSimpArgs false
namespace Go.Proofs.YtcjgdjlmlgjaiaaGreatDoor
open Go Go.Ev
set_option maxRecDepth 1000000
theorem run_16 : okT (callF T1 2000 3 [.low 3 5 16] fs0) = true := by kernel_rfl
theorem run_17 : okT (callF T1 2000 3 [.low 3 5 17] fs0) = true := by kernel_rfl
theorem run_18 : okT (callF T1 2000 3 [.low 3 5 18] fs0) = true := by kernel_rfl
theorem run_19 : okT (callF T1 2000 3 [.low 3 5 19] fs0) = true := by kernel_rfl
end Go.Proofs.YtcjgdjlmlgjaiaaGreatDoor

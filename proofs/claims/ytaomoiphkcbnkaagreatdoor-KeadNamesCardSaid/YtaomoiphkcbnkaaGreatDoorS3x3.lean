/- The law of this seat holds of every input: a part of the proof (an evaluator that is proved to answer as the model does, and its runs by the kernel). -/
import Derived.Test.YtaomoiphkcbnkaaGreatDoorS2
set_option linter.unusedVariables false
set_option linter.unusedSimpArgs false
namespace Go.Proofs.YtaomoiphkcbnkaaGreatDoor
open Go Go.Ev
set_option maxRecDepth 1000000
theorem run_9_0 : okT (callF T1 2000 3 [.low 3 1018 9] (fs0 3000)) = true := by kernel_rfl
theorem run_9_1 : okT (callF T1 2000 3 [.low 3 1018 9] (fs0 3001)) = true := by kernel_rfl
theorem run_10_0 : okT (callF T1 2000 3 [.low 3 1018 10] (fs0 3000)) = true := by kernel_rfl
theorem run_10_1 : okT (callF T1 2000 3 [.low 3 1018 10] (fs0 3001)) = true := by kernel_rfl
theorem run_11_0 : okT (callF T1 2000 3 [.low 3 1018 11] (fs0 3000)) = true := by kernel_rfl
theorem run_11_1 : okT (callF T1 2000 3 [.low 3 1018 11] (fs0 3001)) = true := by kernel_rfl
end Go.Proofs.YtaomoiphkcbnkaaGreatDoor

/- The law of this seat holds of every input: a part of the proof (an evaluator that is proved to answer as the model does, and its runs by the kernel). -/
import Derived.Test.YtaomoiphkcbnkaaGreatDoorS2
set_option linter.unusedVariables false
set_option linter.unusedSimpArgs false
namespace Go.Proofs.YtaomoiphkcbnkaaGreatDoor
open Go Go.Ev
set_option maxRecDepth 1000000
theorem run_15_0 : okT (callF T1 2000 3 [.low 3 1018 15] (fs0 3000)) = true := by kernel_rfl
theorem run_15_1 : okT (callF T1 2000 3 [.low 3 1018 15] (fs0 3001)) = true := by kernel_rfl
theorem run_16_0 : okT (callF T1 2000 3 [.low 3 1018 16] (fs0 3000)) = true := by kernel_rfl
theorem run_16_1 : okT (callF T1 2000 3 [.low 3 1018 16] (fs0 3001)) = true := by kernel_rfl
theorem run_17_0 : okT (callF T1 2000 3 [.low 3 1018 17] (fs0 3000)) = true := by kernel_rfl
theorem run_17_1 : okT (callF T1 2000 3 [.low 3 1018 17] (fs0 3001)) = true := by kernel_rfl
end Go.Proofs.YtaomoiphkcbnkaaGreatDoor

/- The law of this seat holds of every input: a part of the proof (an evaluator that is proved to answer as the model does, and its runs by the kernel). -/
import Derived.Test.YtaomoiphkcbnkaaGreatDoorS2
set_option linter.unusedVariables false
set_option linter.unusedSimpArgs false
namespace Go.Proofs.YtaomoiphkcbnkaaGreatDoor
open Go Go.Ev
set_option maxRecDepth 1000000
theorem run_0_0 : okT (callF T1 2000 3 [.low 3 1018 0] (fs0 3000)) = true := by kernel_rfl
theorem run_0_1 : okT (callF T1 2000 3 [.low 3 1018 0] (fs0 3001)) = true := by kernel_rfl
theorem run_1_0 : okT (callF T1 2000 3 [.low 3 1018 1] (fs0 3000)) = true := by kernel_rfl
theorem run_1_1 : okT (callF T1 2000 3 [.low 3 1018 1] (fs0 3001)) = true := by kernel_rfl
theorem run_2_0 : okT (callF T1 2000 3 [.low 3 1018 2] (fs0 3000)) = true := by kernel_rfl
theorem run_2_1 : okT (callF T1 2000 3 [.low 3 1018 2] (fs0 3001)) = true := by kernel_rfl
end Go.Proofs.YtaomoiphkcbnkaaGreatDoor

/- The law of this seat holds of every input: a part of the proof (an evaluator that is proved to answer as the model does, and its runs by the kernel). -/
import Derived.Test.YtaomoiphkcbnkaaGreatDoorS2
set_option linter.unusedVariables false
set_option linter.unusedSimpArgs false
namespace Go.Proofs.YtaomoiphkcbnkaaGreatDoor
open Go Go.Ev
set_option maxRecDepth 1000000
theorem run_6_0 : okT (callF T1 2000 3 [.low 3 1018 6] (fs0 3000)) = true := by kernel_rfl
theorem run_6_1 : okT (callF T1 2000 3 [.low 3 1018 6] (fs0 3001)) = true := by kernel_rfl
theorem run_7_0 : okT (callF T1 2000 3 [.low 3 1018 7] (fs0 3000)) = true := by kernel_rfl
theorem run_7_1 : okT (callF T1 2000 3 [.low 3 1018 7] (fs0 3001)) = true := by kernel_rfl
theorem run_8_0 : okT (callF T1 2000 3 [.low 3 1018 8] (fs0 3000)) = true := by kernel_rfl
theorem run_8_1 : okT (callF T1 2000 3 [.low 3 1018 8] (fs0 3001)) = true := by kernel_rfl
end Go.Proofs.YtaomoiphkcbnkaaGreatDoor

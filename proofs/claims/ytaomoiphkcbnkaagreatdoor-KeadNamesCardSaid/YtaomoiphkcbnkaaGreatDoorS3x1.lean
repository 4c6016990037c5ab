/- The law of this seat holds of every input: a part of the proof (an evaluator that is proved to answer as the model does, and its runs by the kernel). -/
import Derived.Test.YtaomoiphkcbnkaaGreatDoorS2
set_option linter.unusedVariables false
set_option linter.unusedSimpArgs false
namespace Go.Proofs.YtaomoiphkcbnkaaGreatDoor
open Go Go.Ev
set_option maxRecDepth 1000000
theorem run_3_0 : okT (callF T1 2000 3 [.low 3 1018 3] (fs0 3000)) = true := by kernel_rfl
theorem run_3_1 : okT (callF T1 2000 3 [.low 3 1018 3] (fs0 3001)) = true := by kernel_rfl
theorem run_4_0 : okT (callF T1 2000 3 [.low 3 1018 4] (fs0 3000)) = true := by kernel_rfl
theorem run_4_1 : okT (callF T1 2000 3 [.low 3 1018 4] (fs0 3001)) = true := by kernel_rfl
theorem run_5_0 : okT (callF T1 2000 3 [.low 3 1018 5] (fs0 3000)) = true := by kernel_rfl
theorem run_5_1 : okT (callF T1 2000 3 [.low 3 1018 5] (fs0 3001)) = true := by kernel_rfl
end Go.Proofs.YtaomoiphkcbnkaaGreatDoor

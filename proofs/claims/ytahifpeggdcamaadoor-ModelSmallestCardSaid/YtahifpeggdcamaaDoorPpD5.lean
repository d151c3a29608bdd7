/- A part of an interpreter of the model's code that is proved sound, and of laws told by it: DamAwake. -/
import Derived.Test.YtahifpeggdcamaaDoorPpD1
import Derived.KernelRfl
set_option linter.unusedVariables false
set_option linter.unusedSimpArgs false
/- The seat's own example, reckoned. -/
namespace Go.Proofs.YtahifpeggdcamaaDoor
open Go.Dam
theorem awake_run (K : Nat) : run tab (K + 40) 13 [] = some (.sc (.bool true)) := by kernel_rfl
end Go.Proofs.YtahifpeggdcamaaDoor

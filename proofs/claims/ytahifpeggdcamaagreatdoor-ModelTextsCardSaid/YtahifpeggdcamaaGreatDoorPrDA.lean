/- A part of an interpreter of the model's code that is proved sound, and of laws told by it: DamAwake. -/
import Derived.Test.YtahifpeggdcamaaGreatDoorPrD1
import Derived.KernelRfl
set_option linter.unusedVariables false
set_option linter.unusedSimpArgs false
/- The seat's own example, reckoned. -/
namespace Go.Proofs.YtahifpeggdcamaaGreatDoor
open Go.Dam
theorem awake_run (K : Nat) : run tab (K + 40) 5 [] = some (.sc (.bool true)) := by kernel_rfl
end Go.Proofs.YtahifpeggdcamaaGreatDoor

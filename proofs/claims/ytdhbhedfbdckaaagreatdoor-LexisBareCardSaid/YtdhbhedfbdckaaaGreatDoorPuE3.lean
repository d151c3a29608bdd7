/- A part of an interpreter of the model's code that is proved sound, and of laws told by it: DamG64. -/
import Derived.Test.YtdhbhedfbdckaaaGreatDoorPuD1
import Derived.Test.YtdhbhedfbdckaaaGreatDoorPuE1
import Derived.KernelRfl
set_option linter.unusedVariables false
set_option linter.unusedSimpArgs false
namespace Go.Proofs.YtdhbhedfbdckaaaGreatDoor
open Go.Dam
set_option linter.unusedVariables false
set_option maxRecDepth 100000
noncomputable section
end
end Go.Proofs.YtdhbhedfbdckaaaGreatDoor

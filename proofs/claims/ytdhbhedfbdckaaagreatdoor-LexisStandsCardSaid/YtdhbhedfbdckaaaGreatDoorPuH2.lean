/- A part of an interpreter of the model's code that is proved sound, and of laws told by it: DamX24. -/
import Derived.Test.YtdhbhedfbdckaaaGreatDoorPuH1
set_option linter.unusedVariables false
set_option linter.unusedSimpArgs false
/- The laws of written tokens and of texts with their places. -/
namespace Go.Proofs.YtdhbhedfbdckaaaGreatDoor
open Go.Dam
set_option linter.unusedVariables false
set_option linter.unusedSimpArgs false
end Go.Proofs.YtdhbhedfbdckaaaGreatDoor

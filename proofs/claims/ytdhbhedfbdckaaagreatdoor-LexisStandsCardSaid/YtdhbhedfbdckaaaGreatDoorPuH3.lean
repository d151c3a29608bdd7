/- A part of an interpreter of the model's code that is proved sound, and of laws told by it: DamX25. -/
import Derived.Test.YtdhbhedfbdckaaaGreatDoorPuH1
set_option linter.unusedVariables false
set_option linter.unusedSimpArgs false
/- Which texts are names; the law of the tables. -/
namespace Go.Proofs.YtdhbhedfbdckaaaGreatDoor
open Go.Dam
set_option linter.unusedVariables false
set_option linter.unusedSimpArgs false
theorem badAt_of : ∀ {l : List UInt8}, (∀ c ∈ l, okC c = true) → badAt l = none
  | [], _ => rfl
  | c :: r, h => by rw [badAt_cons, if_pos (h c (by simp)), badAt_of fun d hd => h d (by simp [hd])]; rfl
end Go.Proofs.YtdhbhedfbdckaaaGreatDoor

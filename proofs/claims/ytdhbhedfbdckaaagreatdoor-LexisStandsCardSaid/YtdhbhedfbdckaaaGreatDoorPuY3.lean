/- A part of an interpreter of the model's code that is proved sound, and of laws told by it: DamX28, DamX29. -/
import Derived.Test.YtdhbhedfbdckaaaGreatDoorPuH3
import Derived.Test.YtdhbhedfbdckaaaGreatDoorPuY2
import Derived.Test.YtdhbhedfbdckaaaGreatDoorPuR1
set_option linter.unusedVariables false
set_option linter.unusedSimpArgs false
/- The joined text is read as the tokens that were joined. -/
namespace Go.Proofs.YtdhbhedfbdckaaaGreatDoor
open Go.Dam
set_option linter.unusedVariables false
set_option linter.unusedSimpArgs false
theorem gs_fin (lang : Int) : (∀ w ∈ gsOf lang, w.length ≤ 2 ∨ w = [46, 46, 46] ∨ w = [58, 58, 61]) ∧ [46, 46] ∈ gsOf lang ∧ (∀ w ∈ gsOf lang, (32 : UInt8) ∉ w) := by
  unfold gsOf
  split
  · exact ⟨by decide +kernel, by decide +kernel, by decide +kernel⟩
  · exact ⟨by decide +kernel, by decide +kernel, by decide +kernel⟩
end Go.Proofs.YtdhbhedfbdckaaaGreatDoor

/- The law of reading again. -/
namespace Go.Proofs.YtdhbhedfbdckaaaGreatDoor
open Go.Dam
set_option linter.unusedVariables false
set_option linter.unusedSimpArgs false
theorem tk_zero {lang : Int} {t : Tk} : tkErr lang t = 0 ↔ ¬ (t.k < 0 ∨ 6 < t.k) ∧ oneT lang t.k t.s = true ∧ (0 ≤ t.a ∧ t.a ≤ 8000) := by
  unfold tkErr
  by_cases h1 : t.k < 0 ∨ 6 < t.k
  · rw [if_pos h1]
    exact ⟨fun h => by omega, fun h => absurd h1 h.1⟩
  · rw [if_neg h1]
    by_cases h2 : oneT lang t.k t.s = true
    · rw [if_pos h2]
      by_cases h3 : 0 ≤ t.a ∧ t.a ≤ 8000
      · rw [if_pos h3]
        exact ⟨fun _ => ⟨h1, h2, h3⟩, fun _ => rfl⟩
      · rw [if_neg h3]
        exact ⟨fun h => by omega, fun h => absurd h.2.2 h3⟩
    · rw [if_neg h2]
      exact ⟨fun h => by omega, fun h => absurd h.2.1 h2⟩
end Go.Proofs.YtdhbhedfbdckaaaGreatDoor

/- A part of an interpreter of the model's code that is proved sound, and of laws told by it: DamCardStands. -/
import Derived.Test.YtdhbhedfbdckaaaGreatDoorCards
import Derived.Test.YtdhbhedfbdckaaaGreatDoorTie
import Derived.Test.YtdhbhedfbdckaaaGreatDoorPuZ1
import Derived.SevenTiedAt
set_option linter.unusedVariables false
set_option linter.unusedSimpArgs false
/- The law LexisStands returns true for every input, and each argument reads behind the call as it read before; on condition that the variables of the library read as the program's text lays them, to which the card ties them. -/
namespace Go.Proofs.YtdhbhedfbdckaaaGreatDoor
open Go
theorem lexisStands_card : Rows.LexisStandsCardSaid :=
  Claim7.holds_tied_plain_at .later [] [.data, .data, .data, .data, .sentinel, .sentinel, .listed, .data, .pinned] true (true, "378316dda04f7842da51d9e041cc254b5fee62cd800fe14beb1fbe72de6eb961") true
    lexisStands_holds (fun _ h => by cases h) (by kernel_rfl) (fun _ h => by cases h) lexisStands_row_tie rfl ⟨rfl, rfl⟩ (by kernel_rfl) rfl
    (fun f fn hf hfn => by
      obtain rfl : f = 9 := Option.some.inj ((show Tryz.prog.funcNamed "examiner/examinerlaw01.LexisStands" = some 9 by kernel_rfl).symm.trans hf) |>.symm
      obtain rfl : fn = Tryz.f9 := (Option.some.inj (Tryz.func9.symm.trans hfn)).symm
      exact ⟨by kernel_rfl, fun j t ht => by
        rw [Tryz.params9] at ht
        have hm : t ∈ [3, 9] := by simpa using Array.mem_of_getElem? ht
        have hall : ([3, 9].all fun u => !Tryz.prog.wantsStandIn u) = true := by kernel_rfl
        exact (show Tryz.prog.wantsStandIn t = false by simpa using List.all_eq_true.1 hall t hm)⟩)
    (by kernel_rfl)
#print axioms lexisStands_card
end Go.Proofs.YtdhbhedfbdckaaaGreatDoor

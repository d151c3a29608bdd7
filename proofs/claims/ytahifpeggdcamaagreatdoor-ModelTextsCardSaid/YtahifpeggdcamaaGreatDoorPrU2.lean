/- A part of an interpreter of the model's code that is proved sound, and of laws told by it: DamCardTexts. -/
import Derived.Test.YtahifpeggdcamaaGreatDoorCards
import Derived.Test.YtahifpeggdcamaaGreatDoorTie
import Derived.Test.YtahifpeggdcamaaGreatDoorPrU1
import Derived.SevenTiedAt
set_option linter.unusedVariables false
set_option linter.unusedSimpArgs false
/- The law ModelTexts returns true for every input, and each argument reads behind the call as it read before; on condition that the seven variables of the library read as the program's text lays them, to which the card ties them. -/
namespace Go.Proofs.YtahifpeggdcamaaGreatDoor
open Go
theorem modelTexts_card : Rows.ModelTextsCardSaid :=
  Claim7.holds_tied_plain_at .later [] [.data, .data, .data, .data, .sentinel, .sentinel, .pinned] true (true, "6f83d856b3e0b80dcc19d000c15b664140625e15a5552df119ebdde9a7eb2fd4") true
    modelTexts_holds (fun _ h => by cases h) (by kernel_rfl) (fun _ h => by cases h) modelTexts_row_tie rfl ⟨rfl, rfl⟩ (by kernel_rfl) rfl
    (fun f fn hf hfn => by
      obtain rfl : f = 4 := Option.some.inj ((show Tryz.prog.funcNamed "examiner/examinerlaw37.ModelTexts" = some 4 by kernel_rfl).symm.trans hf) |>.symm
      obtain rfl : fn = Tryz.f4 := (Option.some.inj (Tryz.func4.symm.trans hfn)).symm
      exact ⟨by kernel_rfl, fun j t ht => by
        rw [Tryz.params4] at ht
        have hm : t ∈ [24, 9] := by simpa using Array.mem_of_getElem? ht
        have hall : ([24, 9].all fun u => !Tryz.prog.wantsStandIn u) = true := by kernel_rfl
        exact (show Tryz.prog.wantsStandIn t = false by simpa using List.all_eq_true.1 hall t hm)⟩)
    (by kernel_rfl)
#print axioms modelTexts_card
end Go.Proofs.YtahifpeggdcamaaGreatDoor

/- A part of an interpreter of the model's code that is proved sound, and of laws told by it: DamCardAnswers. -/
import Derived.Test.YtahifpeggdcamaaGreatDoorCards
import Derived.Test.YtahifpeggdcamaaGreatDoorTie
import Derived.Test.YtahifpeggdcamaaGreatDoorPqU1
import Derived.SevenTiedAt
set_option linter.unusedVariables false
set_option linter.unusedSimpArgs false
/- The law ModelAnswers returns true for every input, and each argument reads behind the call as it read before; on condition that the three tables of the library read as the program's text lays them, to which the card ties them. -/
namespace Go.Proofs.YtahifpeggdcamaaGreatDoor
open Go
theorem modelAnswers_card : Rows.ModelAnswersCardSaid :=
  Claim7.holds_tied_plain_at .later [] [.data, .data, .data] true (true, "6f83d856b3e0b80dcc19d000c15b664140625e15a5552df119ebdde9a7eb2fd4") true
    modelAnswers_holds (fun _ h => by cases h) (by kernel_rfl) (fun _ h => by cases h) modelAnswers_row_tie rfl ⟨rfl, rfl⟩ (by kernel_rfl) rfl
    (fun f fn hf hfn => by
      obtain rfl : f = 3 := Option.some.inj ((show Tryz.prog.funcNamed "examiner/examinerlaw37.ModelAnswers" = some 3 by kernel_rfl).symm.trans hf) |>.symm
      obtain rfl : fn = Tryz.f3 := (Option.some.inj (Tryz.func3.symm.trans hfn)).symm
      exact ⟨by kernel_rfl, fun j t ht => by
        rw [Tryz.params3] at ht
        have hm : t ∈ [24, 3, 25] := by simpa using Array.mem_of_getElem? ht
        have hall : ([24, 3, 25].all fun u => !Tryz.prog.wantsStandIn u) = true := by kernel_rfl
        exact (show Tryz.prog.wantsStandIn t = false by simpa using List.all_eq_true.1 hall t hm)⟩)
    (by kernel_rfl)
#print axioms modelAnswers_card
end Go.Proofs.YtahifpeggdcamaaGreatDoor

/- A part of an interpreter of the model's code that is proved sound, and of laws told by it: DamCardSmallest. -/
import Derived.Test.YtahifpeggdcamaaDoorCards
import Derived.Test.YtahifpeggdcamaaDoorTie
import Derived.Test.YtahifpeggdcamaaDoorPpU1
import Derived.SevenTiedAt
set_option linter.unusedVariables false
set_option linter.unusedSimpArgs false
/- The law ModelSmallest returns true for every input, and each argument reads behind the call as it read before; on condition that the three tables of the library read as the program's text lays them, to which the card ties them. -/
namespace Go.Proofs.YtahifpeggdcamaaDoor
open Go
theorem modelSmallest_card : Rows.ModelSmallestCardSaid :=
  Claim7.holds_tied_plain_at .later [] [.data, .data, .data] true (true, "ee7f2690c282930e0ea28c844e376b7313ba2eacaf9216be72de62ca619b6a42") false
    modelSmallest_holds (fun _ h => by cases h) (by kernel_rfl) (fun _ h => by cases h) modelSmallest_row_tie rfl ⟨rfl, rfl⟩ (by kernel_rfl) rfl
    (fun f fn hf hfn => by
      obtain rfl : f = 12 := Option.some.inj ((show Tryd.prog.funcNamed "examiner/examinerlaw37.ModelSmallest" = some 12 by kernel_rfl).symm.trans hf) |>.symm
      obtain rfl : fn = Tryd.f12 := (Option.some.inj (Tryd.func12.symm.trans hfn)).symm
      exact ⟨by kernel_rfl, fun j t ht => by
        rw [Tryd.params12] at ht
        have hm : t ∈ [30, 30] := by simpa using Array.mem_of_getElem? ht
        have hall : ([30, 30].all fun u => !Tryd.prog.wantsStandIn u) = true := by kernel_rfl
        exact (show Tryd.prog.wantsStandIn t = false by simpa using List.all_eq_true.1 hall t hm)⟩)
    (by kernel_rfl)
#print axioms modelSmallest_card
end Go.Proofs.YtahifpeggdcamaaDoor

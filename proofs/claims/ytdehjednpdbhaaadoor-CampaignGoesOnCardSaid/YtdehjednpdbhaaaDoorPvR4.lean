/- A part of an interpreter of the model's code that is proved sound, and of laws told by it: DamCardGoesOn. -/
import Derived.Test.YtdehjednpdbhaaaDoorCards
import Derived.Test.YtdehjednpdbhaaaDoorTie
import Derived.Test.YtdehjednpdbhaaaDoorPvR3
import Derived.SevenTiedAt
set_option linter.unusedVariables false
set_option linter.unusedSimpArgs false
/- The law CampaignGoesOn returns true for every input, and each argument reads behind the call as it read before; on condition that the variables of the library read as the program's text lays them, to which the card ties them. -/
namespace Go.Proofs.YtdehjednpdbhaaaDoor
open Go
theorem campaignGoesOn_card : Rows.CampaignGoesOnCardSaid :=
  Claim7.holds_tied_plain_at .later [] [.data, .pinned] true (true, "2eb00ba0a9b0873a4dd34f100397d5f03242d05a44a4fa971147eaddc3633be7") false
    campaignGoesOn_holds (fun _ h => by cases h) (by kernel_rfl) (fun _ h => by cases h) campaignGoesOn_row_tie rfl ⟨rfl, rfl⟩ (by kernel_rfl) rfl
    (fun f fn hf hfn => by
      obtain rfl : f = 3 := Option.some.inj ((show Tryd.prog.funcNamed "examiner/examinertop.CampaignGoesOn" = some 3 by kernel_rfl).symm.trans hf) |>.symm
      obtain rfl : fn = Tryd.f3 := (Option.some.inj (Tryd.func3.symm.trans hfn)).symm
      exact ⟨by kernel_rfl, fun j t ht => by
        rw [Tryd.params3] at ht
        have hm : t ∈ [22] := by simpa using Array.mem_of_getElem? ht
        have hall : ([22].all fun u => !Tryd.prog.wantsStandIn u) = true := by kernel_rfl
        exact (show Tryd.prog.wantsStandIn t = false by simpa using List.all_eq_true.1 hall t hm)⟩)
    (by kernel_rfl)
#print axioms campaignGoesOn_card
end Go.Proofs.YtdehjednpdbhaaaDoor

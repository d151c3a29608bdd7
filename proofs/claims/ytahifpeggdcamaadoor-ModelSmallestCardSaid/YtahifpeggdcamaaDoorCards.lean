/-
  DERIVED. GIVEN WITH THE SEED: THE CARDS: each row of YtahifpeggdcamaaDoorRows.lean that lists a variable, with what it lists TIED to the program's text (the seventh form; the later family's looks); each row that meets fmt, with fmt's text TOLD by the authors' own Lean function (tested against real Go, not proved from fmt's source: count such statements apart). THE CARD IS WHAT COUNTS. Prove the row's statement (the work); the ties are given (YtahifpeggdcamaaDoorTie.lean); close each card by the builder's one call (the guide's Derived/Test/ToyasCard.lean, 'card_holds'). Laid BY PROGRAM, IN A SANDBOX (cutbox-door.mjs). By AI agents, Wed Nov 11 2026. No macro, syntax, notation, axiom, sorry.
-/
import Derived.Test.YtahifpeggdcamaaDoorRows
import GoSem.ClaimSeven
namespace Go.Proofs.YtahifpeggdcamaaDoor
namespace Rows

/-- THE TIED CARD OF 'examinerlaw37.ModelUnfolds'. -/
def modelUnfoldsCard : Claim7 := { stood := { row := modelUnfoldsRow, standIns := [], harness := (true, "ee7f2690c282930e0ea28c844e376b7313ba2eacaf9216be72de62ca619b6a42"), looks := false }, kinds := [], alts := [], laidByText := true, laidKinds := [.data, .data, .data], laidTests := true, laidLooks := .later }
def ModelUnfoldsCardSaid : Prop := Claim7.holds Tryd.pinned (.plain (OpenSpec.ofChange modelUnfoldsSpec)) modelUnfoldsCard

/-- THE TIED CARD OF 'examinerlaw37.ModelChecks'. -/
def modelChecksCard : Claim7 := { stood := { row := modelChecksRow, standIns := [], harness := (true, "ee7f2690c282930e0ea28c844e376b7313ba2eacaf9216be72de62ca619b6a42"), looks := false }, kinds := [], alts := [], laidByText := true, laidKinds := [.data, .data, .data], laidTests := true, laidLooks := .later }
def ModelChecksCardSaid : Prop := Claim7.holds Tryd.pinned (.plain (OpenSpec.ofChange modelChecksSpec)) modelChecksCard

/-- THE TIED CARD OF 'examinerlaw37.ModelNexts'. -/
def modelNextsCard : Claim7 := { stood := { row := modelNextsRow, standIns := [], harness := (true, "ee7f2690c282930e0ea28c844e376b7313ba2eacaf9216be72de62ca619b6a42"), looks := false }, kinds := [], alts := [], laidByText := true, laidKinds := [.data, .data, .data], laidTests := true, laidLooks := .later }
def ModelNextsCardSaid : Prop := Claim7.holds Tryd.pinned (.plain (OpenSpec.ofChange modelNextsSpec)) modelNextsCard

/-- THE TIED CARD OF 'examinerlaw37.ModelCompletes'. -/
def modelCompletesCard : Claim7 := { stood := { row := modelCompletesRow, standIns := [], harness := (true, "ee7f2690c282930e0ea28c844e376b7313ba2eacaf9216be72de62ca619b6a42"), looks := false }, kinds := [], alts := [], laidByText := true, laidKinds := [.data, .data, .data], laidTests := true, laidLooks := .later }
def ModelCompletesCardSaid : Prop := Claim7.holds Tryd.pinned (.plain (OpenSpec.ofChange modelCompletesSpec)) modelCompletesCard

/-- THE TIED CARD OF 'examinerlaw37.ModelRuns'. -/
def modelRunsCard : Claim7 := { stood := { row := modelRunsRow, standIns := [], harness := (true, "ee7f2690c282930e0ea28c844e376b7313ba2eacaf9216be72de62ca619b6a42"), looks := false }, kinds := [], alts := [], laidByText := true, laidKinds := [.data, .data, .data], laidTests := true, laidLooks := .later }
def ModelRunsCardSaid : Prop := Claim7.holds Tryd.pinned (.plain (OpenSpec.ofChange modelRunsSpec)) modelRunsCard

/-- THE TIED CARD OF 'examinerlaw37.ModelDifferences'. -/
def modelDifferencesCard : Claim7 := { stood := { row := modelDifferencesRow, standIns := [], harness := (true, "ee7f2690c282930e0ea28c844e376b7313ba2eacaf9216be72de62ca619b6a42"), looks := false }, kinds := [], alts := [], laidByText := true, laidKinds := [.data, .data, .data], laidTests := true, laidLooks := .later }
def ModelDifferencesCardSaid : Prop := Claim7.holds Tryd.pinned (.plain (OpenSpec.ofChange modelDifferencesSpec)) modelDifferencesCard

/-- THE TIED CARD OF 'examinerlaw37.ModelCompleted'. -/
def modelCompletedCard : Claim7 := { stood := { row := modelCompletedRow, standIns := [], harness := (true, "ee7f2690c282930e0ea28c844e376b7313ba2eacaf9216be72de62ca619b6a42"), looks := false }, kinds := [], alts := [], laidByText := true, laidKinds := [.data, .data, .data], laidTests := true, laidLooks := .later }
def ModelCompletedCardSaid : Prop := Claim7.holds Tryd.pinned (.plain (OpenSpec.ofChange modelCompletedSpec)) modelCompletedCard

/-- THE TIED CARD OF 'examinerlaw37.ModelSame'. -/
def modelSameCard : Claim7 := { stood := { row := modelSameRow, standIns := [], harness := (true, "ee7f2690c282930e0ea28c844e376b7313ba2eacaf9216be72de62ca619b6a42"), looks := false }, kinds := [], alts := [], laidByText := true, laidKinds := [.data, .data, .data], laidTests := true, laidLooks := .later }
def ModelSameCardSaid : Prop := Claim7.holds Tryd.pinned (.plain (OpenSpec.ofChange modelSameSpec)) modelSameCard

/-- THE TIED CARD OF 'examinerlaw37.ModelMinimal'. -/
def modelMinimalCard : Claim7 := { stood := { row := modelMinimalRow, standIns := [], harness := (true, "ee7f2690c282930e0ea28c844e376b7313ba2eacaf9216be72de62ca619b6a42"), looks := false }, kinds := [], alts := [], laidByText := true, laidKinds := [.data, .data, .data], laidTests := true, laidLooks := .later }
def ModelMinimalCardSaid : Prop := Claim7.holds Tryd.pinned (.plain (OpenSpec.ofChange modelMinimalSpec)) modelMinimalCard

/-- THE TIED CARD OF 'examinerlaw37.ModelSmallest'. -/
def modelSmallestCard : Claim7 := { stood := { row := modelSmallestRow, standIns := [], harness := (true, "ee7f2690c282930e0ea28c844e376b7313ba2eacaf9216be72de62ca619b6a42"), looks := false }, kinds := [], alts := [], laidByText := true, laidKinds := [.data, .data, .data], laidTests := true, laidLooks := .later }
def ModelSmallestCardSaid : Prop := Claim7.holds Tryd.pinned (.plain (OpenSpec.ofChange modelSmallestSpec)) modelSmallestCard

/-- THE SECOND FORM's CARD OF 'examinerlaw37.ModelUnfolds'. -/
def modelUnfoldsUptoCard : Claim7 := { stood := { row := modelUnfoldsUptoRow, standIns := [], harness := (true, "ee7f2690c282930e0ea28c844e376b7313ba2eacaf9216be72de62ca619b6a42"), looks := false }, kinds := [], alts := [], laidByText := true, laidKinds := [.data, .data, .data], laidTests := true, laidLooks := .later }
def ModelUnfoldsUptoCardSaid : Prop := Claim7.holds Tryd.pinned (.plain (OpenSpec.upto modelUnfoldsSpec)) modelUnfoldsUptoCard

/-- THE SECOND FORM's CARD OF 'examinerlaw37.ModelChecks'. -/
def modelChecksUptoCard : Claim7 := { stood := { row := modelChecksUptoRow, standIns := [], harness := (true, "ee7f2690c282930e0ea28c844e376b7313ba2eacaf9216be72de62ca619b6a42"), looks := false }, kinds := [], alts := [], laidByText := true, laidKinds := [.data, .data, .data], laidTests := true, laidLooks := .later }
def ModelChecksUptoCardSaid : Prop := Claim7.holds Tryd.pinned (.plain (OpenSpec.upto modelChecksSpec)) modelChecksUptoCard

/-- THE SECOND FORM's CARD OF 'examinerlaw37.ModelNexts'. -/
def modelNextsUptoCard : Claim7 := { stood := { row := modelNextsUptoRow, standIns := [], harness := (true, "ee7f2690c282930e0ea28c844e376b7313ba2eacaf9216be72de62ca619b6a42"), looks := false }, kinds := [], alts := [], laidByText := true, laidKinds := [.data, .data, .data], laidTests := true, laidLooks := .later }
def ModelNextsUptoCardSaid : Prop := Claim7.holds Tryd.pinned (.plain (OpenSpec.upto modelNextsSpec)) modelNextsUptoCard

/-- THE SECOND FORM's CARD OF 'examinerlaw37.ModelCompletes'. -/
def modelCompletesUptoCard : Claim7 := { stood := { row := modelCompletesUptoRow, standIns := [], harness := (true, "ee7f2690c282930e0ea28c844e376b7313ba2eacaf9216be72de62ca619b6a42"), looks := false }, kinds := [], alts := [], laidByText := true, laidKinds := [.data, .data, .data], laidTests := true, laidLooks := .later }
def ModelCompletesUptoCardSaid : Prop := Claim7.holds Tryd.pinned (.plain (OpenSpec.upto modelCompletesSpec)) modelCompletesUptoCard

/-- THE SECOND FORM's CARD OF 'examinerlaw37.ModelRuns'. -/
def modelRunsUptoCard : Claim7 := { stood := { row := modelRunsUptoRow, standIns := [], harness := (true, "ee7f2690c282930e0ea28c844e376b7313ba2eacaf9216be72de62ca619b6a42"), looks := false }, kinds := [], alts := [], laidByText := true, laidKinds := [.data, .data, .data], laidTests := true, laidLooks := .later }
def ModelRunsUptoCardSaid : Prop := Claim7.holds Tryd.pinned (.plain (OpenSpec.upto modelRunsSpec)) modelRunsUptoCard

/-- THE SECOND FORM's CARD OF 'examinerlaw37.ModelDifferences'. -/
def modelDifferencesUptoCard : Claim7 := { stood := { row := modelDifferencesUptoRow, standIns := [], harness := (true, "ee7f2690c282930e0ea28c844e376b7313ba2eacaf9216be72de62ca619b6a42"), looks := false }, kinds := [], alts := [], laidByText := true, laidKinds := [.data, .data, .data], laidTests := true, laidLooks := .later }
def ModelDifferencesUptoCardSaid : Prop := Claim7.holds Tryd.pinned (.plain (OpenSpec.upto modelDifferencesSpec)) modelDifferencesUptoCard

/-- THE SECOND FORM's CARD OF 'examinerlaw37.ModelCompleted'. -/
def modelCompletedUptoCard : Claim7 := { stood := { row := modelCompletedUptoRow, standIns := [], harness := (true, "ee7f2690c282930e0ea28c844e376b7313ba2eacaf9216be72de62ca619b6a42"), looks := false }, kinds := [], alts := [], laidByText := true, laidKinds := [.data, .data, .data], laidTests := true, laidLooks := .later }
def ModelCompletedUptoCardSaid : Prop := Claim7.holds Tryd.pinned (.plain (OpenSpec.upto modelCompletedSpec)) modelCompletedUptoCard

/-- THE SECOND FORM's CARD OF 'examinerlaw37.ModelSame'. -/
def modelSameUptoCard : Claim7 := { stood := { row := modelSameUptoRow, standIns := [], harness := (true, "ee7f2690c282930e0ea28c844e376b7313ba2eacaf9216be72de62ca619b6a42"), looks := false }, kinds := [], alts := [], laidByText := true, laidKinds := [.data, .data, .data], laidTests := true, laidLooks := .later }
def ModelSameUptoCardSaid : Prop := Claim7.holds Tryd.pinned (.plain (OpenSpec.upto modelSameSpec)) modelSameUptoCard

/-- THE SECOND FORM's CARD OF 'examinerlaw37.ModelMinimal'. -/
def modelMinimalUptoCard : Claim7 := { stood := { row := modelMinimalUptoRow, standIns := [], harness := (true, "ee7f2690c282930e0ea28c844e376b7313ba2eacaf9216be72de62ca619b6a42"), looks := false }, kinds := [], alts := [], laidByText := true, laidKinds := [.data, .data, .data], laidTests := true, laidLooks := .later }
def ModelMinimalUptoCardSaid : Prop := Claim7.holds Tryd.pinned (.plain (OpenSpec.upto modelMinimalSpec)) modelMinimalUptoCard

/-- THE SECOND FORM's CARD OF 'examinerlaw37.ModelSmallest'. -/
def modelSmallestUptoCard : Claim7 := { stood := { row := modelSmallestUptoRow, standIns := [], harness := (true, "ee7f2690c282930e0ea28c844e376b7313ba2eacaf9216be72de62ca619b6a42"), looks := false }, kinds := [], alts := [], laidByText := true, laidKinds := [.data, .data, .data], laidTests := true, laidLooks := .later }
def ModelSmallestUptoCardSaid : Prop := Claim7.holds Tryd.pinned (.plain (OpenSpec.upto modelSmallestSpec)) modelSmallestUptoCard
end Rows
end Go.Proofs.YtahifpeggdcamaaDoor

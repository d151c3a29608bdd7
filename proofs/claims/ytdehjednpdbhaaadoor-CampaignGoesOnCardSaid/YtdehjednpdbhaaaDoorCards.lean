/-
  DERIVED. GIVEN WITH THE SEED: THE CARDS: each row of YtdehjednpdbhaaaDoorRows.lean that lists a variable, with what it lists TIED to the program's text (the seventh form; the later family's looks); each row that meets fmt, with fmt's text TOLD by the authors' own Lean function (tested against real Go, not proved from fmt's source: count such statements apart). THE CARD IS WHAT COUNTS. Prove the row's statement (the work); the ties are given (YtdehjednpdbhaaaDoorTie.lean); close each card by the builder's one call (the guide's Derived/Test/ToyasCard.lean, 'card_holds'). Laid BY PROGRAM, IN A SANDBOX (cutbox-door.mjs). By AI agents, Wed Nov 11 2026. No macro, syntax, notation, axiom, sorry.
-/
import Derived.Test.YtdehjednpdbhaaaDoorRows
import GoSem.ClaimSeven
namespace Go.Proofs.YtdehjednpdbhaaaDoor
namespace Rows

/-- THE TIED CARD OF 'examinertop.CampaignGoesOn'. -/
def campaignGoesOnCard : Claim7 := { stood := { row := campaignGoesOnRow, standIns := [], harness := (true, "2eb00ba0a9b0873a4dd34f100397d5f03242d05a44a4fa971147eaddc3633be7"), looks := false }, kinds := [], alts := [], laidByText := true, laidKinds := [.data, .pinned], laidTests := true, laidLooks := .later }
def CampaignGoesOnCardSaid : Prop := Claim7.holds Tryd.pinned (.plain (OpenSpec.ofChange campaignGoesOnSpec)) campaignGoesOnCard

/-- THE SECOND FORM's CARD OF 'examinertop.CampaignGoesOn'. -/
def campaignGoesOnUptoCard : Claim7 := { stood := { row := campaignGoesOnUptoRow, standIns := [], harness := (true, "2eb00ba0a9b0873a4dd34f100397d5f03242d05a44a4fa971147eaddc3633be7"), looks := false }, kinds := [], alts := [], laidByText := true, laidKinds := [.data, .pinned], laidTests := true, laidLooks := .later }
def CampaignGoesOnUptoCardSaid : Prop := Claim7.holds Tryd.pinned (.plain (OpenSpec.upto campaignGoesOnSpec)) campaignGoesOnUptoCard
end Rows
end Go.Proofs.YtdehjednpdbhaaaDoor

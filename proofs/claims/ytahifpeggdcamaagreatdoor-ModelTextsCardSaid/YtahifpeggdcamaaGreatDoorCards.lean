/-
  DERIVED. GIVEN WITH THE SEED: THE CARDS: each row of YtahifpeggdcamaaGreatDoorRows.lean that lists a variable, with what it lists TIED to the program's text (the seventh form; the later family's looks); each row that meets fmt, with fmt's text TOLD by the authors' own Lean function (tested against real Go, not proved from fmt's source: count such statements apart). THE CARD IS WHAT COUNTS. Prove the row's statement (the work); the ties are given (YtahifpeggdcamaaGreatDoorTie.lean); close each card by the builder's one call (the guide's Derived/Test/ToyasCard.lean, 'card_holds'). Laid BY PROGRAM, IN A SANDBOX (cutbox-door.mjs). By AI agents, Wed Nov 11 2026. No macro, syntax, notation, axiom, sorry.
-/
import Derived.Test.YtahifpeggdcamaaGreatDoorRows
import GoSem.ClaimSeven
namespace Go.Proofs.YtahifpeggdcamaaGreatDoor
namespace Rows

/-- THE TIED CARD OF 'examinerlaw37.ModelAnswers'. -/
def modelAnswersCard : Claim7 := { stood := { row := modelAnswersRow, standIns := [], harness := (true, "6f83d856b3e0b80dcc19d000c15b664140625e15a5552df119ebdde9a7eb2fd4"), looks := true }, kinds := [], alts := [], laidByText := true, laidKinds := [.data, .data, .data], laidTests := true, laidLooks := .later }
def ModelAnswersCardSaid : Prop := Claim7.holds Tryz.pinned (.plain (OpenSpec.ofChange modelAnswersSpec)) modelAnswersCard

/-- THE TIED CARD OF 'examinerlaw37.ModelTexts'. -/
def modelTextsCard : Claim7 := { stood := { row := modelTextsRow, standIns := [], harness := (true, "6f83d856b3e0b80dcc19d000c15b664140625e15a5552df119ebdde9a7eb2fd4"), looks := true }, kinds := [], alts := [], laidByText := true, laidKinds := [.data, .data, .data, .data, .sentinel, .sentinel, .pinned], laidTests := true, laidLooks := .later }
def ModelTextsCardSaid : Prop := Claim7.holds Tryz.pinned (.plain (OpenSpec.ofChange modelTextsSpec)) modelTextsCard

/-- THE SECOND FORM's CARD OF 'examinerlaw37.ModelAnswers'. -/
def modelAnswersUptoCard : Claim7 := { stood := { row := modelAnswersUptoRow, standIns := [], harness := (true, "6f83d856b3e0b80dcc19d000c15b664140625e15a5552df119ebdde9a7eb2fd4"), looks := true }, kinds := [], alts := [], laidByText := true, laidKinds := [.data, .data, .data], laidTests := true, laidLooks := .later }
def ModelAnswersUptoCardSaid : Prop := Claim7.holds Tryz.pinned (.plain (OpenSpec.upto modelAnswersSpec)) modelAnswersUptoCard

/-- THE SECOND FORM's CARD OF 'examinerlaw37.ModelTexts'. -/
def modelTextsUptoCard : Claim7 := { stood := { row := modelTextsUptoRow, standIns := [], harness := (true, "6f83d856b3e0b80dcc19d000c15b664140625e15a5552df119ebdde9a7eb2fd4"), looks := true }, kinds := [], alts := [], laidByText := true, laidKinds := [.data, .data, .data, .data, .sentinel, .sentinel, .pinned], laidTests := true, laidLooks := .later }
def ModelTextsUptoCardSaid : Prop := Claim7.holds Tryz.pinned (.plain (OpenSpec.upto modelTextsSpec)) modelTextsUptoCard
end Rows
end Go.Proofs.YtahifpeggdcamaaGreatDoor

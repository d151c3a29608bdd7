/-
  DERIVED. GIVEN WITH THE SEED: THE CARDS: each row of YtdhbhedfbdckaaaGreatDoorRows.lean that lists a variable, with what it lists TIED to the program's text (the seventh form; the later family's looks); each row that meets fmt, with fmt's text TOLD by the authors' own Lean function (tested against real Go, not proved from fmt's source: count such statements apart). THE CARD IS WHAT COUNTS. Prove the row's statement (the work); the ties are given (YtdhbhedfbdckaaaGreatDoorTie.lean); close each card by the builder's one call (the guide's Derived/Test/ToyasCard.lean, 'card_holds'). Laid BY PROGRAM, IN A SANDBOX (cutbox-door.mjs). By AI agents, Wed Nov 11 2026. No macro, syntax, notation, axiom, sorry.
-/
import Derived.Test.YtdhbhedfbdckaaaGreatDoorRows
import GoSem.ClaimSeven
namespace Go.Proofs.YtdhbhedfbdckaaaGreatDoor
namespace Rows

/-- THE TIED CARD OF 'examinerlaw01.LexisTokens'. -/
def lexisTokensCard : Claim7 := { stood := { row := lexisTokensRow, standIns := [], harness := (true, "378316dda04f7842da51d9e041cc254b5fee62cd800fe14beb1fbe72de6eb961"), looks := true }, kinds := [], alts := [], laidByText := true, laidKinds := [.data, .data, .data, .data, .sentinel, .sentinel, .listed, .data, .pinned], laidTests := true, laidLooks := .later }
def LexisTokensCardSaid : Prop := Claim7.holds Tryz.pinned (.plain (OpenSpec.ofChange lexisTokensSpec)) lexisTokensCard

/-- THE TIED CARD OF 'examinerlaw01.LexisComments'. -/
def lexisCommentsCard : Claim7 := { stood := { row := lexisCommentsRow, standIns := [], harness := (true, "378316dda04f7842da51d9e041cc254b5fee62cd800fe14beb1fbe72de6eb961"), looks := true }, kinds := [], alts := [], laidByText := true, laidKinds := [.data, .data, .data, .data, .sentinel, .sentinel, .listed, .data, .pinned], laidTests := true, laidLooks := .later }
def LexisCommentsCardSaid : Prop := Claim7.holds Tryz.pinned (.plain (OpenSpec.ofChange lexisCommentsSpec)) lexisCommentsCard

/-- THE TIED CARD OF 'examinerlaw01.LexisChecks'. -/
def lexisChecksCard : Claim7 := { stood := { row := lexisChecksRow, standIns := [], harness := (true, "378316dda04f7842da51d9e041cc254b5fee62cd800fe14beb1fbe72de6eb961"), looks := true }, kinds := [], alts := [], laidByText := true, laidKinds := [.data, .data, .data, .data, .sentinel, .sentinel, .listed, .data, .pinned], laidTests := true, laidLooks := .later }
def LexisChecksCardSaid : Prop := Claim7.holds Tryz.pinned (.plain (OpenSpec.ofChange lexisChecksSpec)) lexisChecksCard

/-- THE TIED CARD OF 'examinerlaw01.LexisJoins'. -/
def lexisJoinsCard : Claim7 := { stood := { row := lexisJoinsRow, standIns := [], harness := (true, "378316dda04f7842da51d9e041cc254b5fee62cd800fe14beb1fbe72de6eb961"), looks := true }, kinds := [], alts := [], laidByText := true, laidKinds := [.data, .data, .data, .data, .sentinel, .sentinel, .listed, .data, .pinned], laidTests := true, laidLooks := .later }
def LexisJoinsCardSaid : Prop := Claim7.holds Tryz.pinned (.plain (OpenSpec.ofChange lexisJoinsSpec)) lexisJoinsCard

/-- THE TIED CARD OF 'examinerlaw01.LexisAgain'. -/
def lexisAgainCard : Claim7 := { stood := { row := lexisAgainRow, standIns := [], harness := (true, "378316dda04f7842da51d9e041cc254b5fee62cd800fe14beb1fbe72de6eb961"), looks := true }, kinds := [], alts := [], laidByText := true, laidKinds := [.data, .data, .data, .data, .sentinel, .sentinel, .listed, .data, .pinned], laidTests := true, laidLooks := .later }
def LexisAgainCardSaid : Prop := Claim7.holds Tryz.pinned (.plain (OpenSpec.ofChange lexisAgainSpec)) lexisAgainCard

/-- THE TIED CARD OF 'examinerlaw01.LexisBare'. -/
def lexisBareCard : Claim7 := { stood := { row := lexisBareRow, standIns := [], harness := (true, "378316dda04f7842da51d9e041cc254b5fee62cd800fe14beb1fbe72de6eb961"), looks := true }, kinds := [], alts := [], laidByText := true, laidKinds := [.data, .data, .data, .data, .sentinel, .sentinel, .listed, .data, .pinned], laidTests := true, laidLooks := .later }
def LexisBareCardSaid : Prop := Claim7.holds Tryz.pinned (.plain (OpenSpec.ofChange lexisBareSpec)) lexisBareCard

/-- THE TIED CARD OF 'examinerlaw01.LexisStands'. -/
def lexisStandsCard : Claim7 := { stood := { row := lexisStandsRow, standIns := [], harness := (true, "378316dda04f7842da51d9e041cc254b5fee62cd800fe14beb1fbe72de6eb961"), looks := true }, kinds := [], alts := [], laidByText := true, laidKinds := [.data, .data, .data, .data, .sentinel, .sentinel, .listed, .data, .pinned], laidTests := true, laidLooks := .later }
def LexisStandsCardSaid : Prop := Claim7.holds Tryz.pinned (.plain (OpenSpec.ofChange lexisStandsSpec)) lexisStandsCard

/-- THE TIED CARD OF 'examinerlaw01.LexisTables'. -/
def lexisTablesCard : Claim7 := { stood := { row := lexisTablesRow, standIns := [], harness := (true, "378316dda04f7842da51d9e041cc254b5fee62cd800fe14beb1fbe72de6eb961"), looks := true }, kinds := [], alts := [], laidByText := true, laidKinds := [.data, .data, .data, .data, .sentinel, .sentinel, .listed, .data, .pinned], laidTests := true, laidLooks := .later }
def LexisTablesCardSaid : Prop := Claim7.holds Tryz.pinned (.plain (OpenSpec.ofChange lexisTablesSpec)) lexisTablesCard

/-- THE TIED CARD OF 'examinerlaw01.LexisTexts'. -/
def lexisTextsCard : Claim7 := { stood := { row := lexisTextsRow, standIns := [], harness := (true, "378316dda04f7842da51d9e041cc254b5fee62cd800fe14beb1fbe72de6eb961"), looks := true }, kinds := [], alts := [], laidByText := true, laidKinds := [.data, .data, .data, .data, .sentinel, .sentinel, .listed, .data, .pinned], laidTests := true, laidLooks := .later }
def LexisTextsCardSaid : Prop := Claim7.holds Tryz.pinned (.plain (OpenSpec.ofChange lexisTextsSpec)) lexisTextsCard

/-- THE SECOND FORM's CARD OF 'examinerlaw01.LexisTokens'. -/
def lexisTokensUptoCard : Claim7 := { stood := { row := lexisTokensUptoRow, standIns := [], harness := (true, "378316dda04f7842da51d9e041cc254b5fee62cd800fe14beb1fbe72de6eb961"), looks := true }, kinds := [], alts := [], laidByText := true, laidKinds := [.data, .data, .data, .data, .sentinel, .sentinel, .listed, .data, .pinned], laidTests := true, laidLooks := .later }
def LexisTokensUptoCardSaid : Prop := Claim7.holds Tryz.pinned (.plain (OpenSpec.upto lexisTokensSpec)) lexisTokensUptoCard

/-- THE SECOND FORM's CARD OF 'examinerlaw01.LexisComments'. -/
def lexisCommentsUptoCard : Claim7 := { stood := { row := lexisCommentsUptoRow, standIns := [], harness := (true, "378316dda04f7842da51d9e041cc254b5fee62cd800fe14beb1fbe72de6eb961"), looks := true }, kinds := [], alts := [], laidByText := true, laidKinds := [.data, .data, .data, .data, .sentinel, .sentinel, .listed, .data, .pinned], laidTests := true, laidLooks := .later }
def LexisCommentsUptoCardSaid : Prop := Claim7.holds Tryz.pinned (.plain (OpenSpec.upto lexisCommentsSpec)) lexisCommentsUptoCard

/-- THE SECOND FORM's CARD OF 'examinerlaw01.LexisChecks'. -/
def lexisChecksUptoCard : Claim7 := { stood := { row := lexisChecksUptoRow, standIns := [], harness := (true, "378316dda04f7842da51d9e041cc254b5fee62cd800fe14beb1fbe72de6eb961"), looks := true }, kinds := [], alts := [], laidByText := true, laidKinds := [.data, .data, .data, .data, .sentinel, .sentinel, .listed, .data, .pinned], laidTests := true, laidLooks := .later }
def LexisChecksUptoCardSaid : Prop := Claim7.holds Tryz.pinned (.plain (OpenSpec.upto lexisChecksSpec)) lexisChecksUptoCard

/-- THE SECOND FORM's CARD OF 'examinerlaw01.LexisJoins'. -/
def lexisJoinsUptoCard : Claim7 := { stood := { row := lexisJoinsUptoRow, standIns := [], harness := (true, "378316dda04f7842da51d9e041cc254b5fee62cd800fe14beb1fbe72de6eb961"), looks := true }, kinds := [], alts := [], laidByText := true, laidKinds := [.data, .data, .data, .data, .sentinel, .sentinel, .listed, .data, .pinned], laidTests := true, laidLooks := .later }
def LexisJoinsUptoCardSaid : Prop := Claim7.holds Tryz.pinned (.plain (OpenSpec.upto lexisJoinsSpec)) lexisJoinsUptoCard

/-- THE SECOND FORM's CARD OF 'examinerlaw01.LexisAgain'. -/
def lexisAgainUptoCard : Claim7 := { stood := { row := lexisAgainUptoRow, standIns := [], harness := (true, "378316dda04f7842da51d9e041cc254b5fee62cd800fe14beb1fbe72de6eb961"), looks := true }, kinds := [], alts := [], laidByText := true, laidKinds := [.data, .data, .data, .data, .sentinel, .sentinel, .listed, .data, .pinned], laidTests := true, laidLooks := .later }
def LexisAgainUptoCardSaid : Prop := Claim7.holds Tryz.pinned (.plain (OpenSpec.upto lexisAgainSpec)) lexisAgainUptoCard

/-- THE SECOND FORM's CARD OF 'examinerlaw01.LexisBare'. -/
def lexisBareUptoCard : Claim7 := { stood := { row := lexisBareUptoRow, standIns := [], harness := (true, "378316dda04f7842da51d9e041cc254b5fee62cd800fe14beb1fbe72de6eb961"), looks := true }, kinds := [], alts := [], laidByText := true, laidKinds := [.data, .data, .data, .data, .sentinel, .sentinel, .listed, .data, .pinned], laidTests := true, laidLooks := .later }
def LexisBareUptoCardSaid : Prop := Claim7.holds Tryz.pinned (.plain (OpenSpec.upto lexisBareSpec)) lexisBareUptoCard

/-- THE SECOND FORM's CARD OF 'examinerlaw01.LexisStands'. -/
def lexisStandsUptoCard : Claim7 := { stood := { row := lexisStandsUptoRow, standIns := [], harness := (true, "378316dda04f7842da51d9e041cc254b5fee62cd800fe14beb1fbe72de6eb961"), looks := true }, kinds := [], alts := [], laidByText := true, laidKinds := [.data, .data, .data, .data, .sentinel, .sentinel, .listed, .data, .pinned], laidTests := true, laidLooks := .later }
def LexisStandsUptoCardSaid : Prop := Claim7.holds Tryz.pinned (.plain (OpenSpec.upto lexisStandsSpec)) lexisStandsUptoCard

/-- THE SECOND FORM's CARD OF 'examinerlaw01.LexisTables'. -/
def lexisTablesUptoCard : Claim7 := { stood := { row := lexisTablesUptoRow, standIns := [], harness := (true, "378316dda04f7842da51d9e041cc254b5fee62cd800fe14beb1fbe72de6eb961"), looks := true }, kinds := [], alts := [], laidByText := true, laidKinds := [.data, .data, .data, .data, .sentinel, .sentinel, .listed, .data, .pinned], laidTests := true, laidLooks := .later }
def LexisTablesUptoCardSaid : Prop := Claim7.holds Tryz.pinned (.plain (OpenSpec.upto lexisTablesSpec)) lexisTablesUptoCard

/-- THE SECOND FORM's CARD OF 'examinerlaw01.LexisTexts'. -/
def lexisTextsUptoCard : Claim7 := { stood := { row := lexisTextsUptoRow, standIns := [], harness := (true, "378316dda04f7842da51d9e041cc254b5fee62cd800fe14beb1fbe72de6eb961"), looks := true }, kinds := [], alts := [], laidByText := true, laidKinds := [.data, .data, .data, .data, .sentinel, .sentinel, .listed, .data, .pinned], laidTests := true, laidLooks := .later }
def LexisTextsUptoCardSaid : Prop := Claim7.holds Tryz.pinned (.plain (OpenSpec.upto lexisTextsSpec)) lexisTextsUptoCard
end Rows
end Go.Proofs.YtdhbhedfbdckaaaGreatDoor

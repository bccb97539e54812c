/-
  DERIVED. GIVEN WITH THE SEED: THE CARDS: each row of YtddeekefomhbmaaGreatDoorRows.lean that lists a variable, with what it lists TIED to the program's text (the seventh form; the later family's looks); each row that meets fmt, with fmt's text TOLD by the authors' own Lean function (tested against real Go, not proved from fmt's source: count such statements apart). THE CARD IS WHAT COUNTS. Prove the row's statement (the work); the ties are given (YtddeekefomhbmaaGreatDoorTie.lean); close each card by the builder's one call (the guide's Derived/Test/ToyasCard.lean, 'card_holds'). Laid BY PROGRAM, IN A SANDBOX (cutbox-door.mjs). By AI agents, Wed Nov 11 2026. No macro, syntax, notation, axiom, sorry.
-/
import Derived.Test.YtddeekefomhbmaaGreatDoorRows
import GoSem.ClaimSeven
namespace Go.Proofs.YtddeekefomhbmaaGreatDoor
namespace Rows

/-- THE TIED CARD OF 'kalendslaw12.GrammarMore'. -/
def grammarMoreCard : Claim7 := { stood := { row := grammarMoreRow, standIns := [], harness := (true, "9d4457df5055becff4086d73831c1fd89d697c4e5d090d885e058e618a91b270"), looks := true }, kinds := [], alts := [], laidByText := true, laidKinds := [.data, .data, .data, .data, .sentinel, .sentinel, .data, .widerDeep, .widerDeep, .data, .pinned], laidTests := true, laidLooks := .later }
def GrammarMoreCardSaid : Prop := Claim7.holds Tryz.pinned (.plain (OpenSpec.ofChange grammarMoreSpec)) grammarMoreCard

/-- THE TIED CARD OF 'kalendslaw12.GrammarOf'. -/
def grammarOfCard : Claim7 := { stood := { row := grammarOfRow, standIns := [], harness := (true, "9d4457df5055becff4086d73831c1fd89d697c4e5d090d885e058e618a91b270"), looks := true }, kinds := [], alts := [], laidByText := true, laidKinds := [.data, .data, .data, .data, .sentinel, .sentinel, .data, .widerDeep, .widerDeep, .data, .pinned], laidTests := true, laidLooks := .later }
def GrammarOfCardSaid : Prop := Claim7.holds Tryz.pinned (.plain (OpenSpec.ofChange grammarOfSpec)) grammarOfCard

/-- THE TIED CARD OF 'kalendslaw16.ReadingTokens'. -/
def readingTokensCard : Claim7 := { stood := { row := readingTokensRow, standIns := [], harness := (true, "9d4457df5055becff4086d73831c1fd89d697c4e5d090d885e058e618a91b270"), looks := true }, kinds := [], alts := [], laidByText := true, laidKinds := [.data, .data, .data, .data, .sentinel, .sentinel, .data, .widerDeep, .widerDeep, .data, .pinned], laidTests := true, laidLooks := .later }
def ReadingTokensCardSaid : Prop := Claim7.holds Tryz.pinned (.plain (OpenSpec.ofChange readingTokensSpec)) readingTokensCard

/-- THE SECOND FORM's CARD OF 'kalendslaw12.GrammarMore'. -/
def grammarMoreUptoCard : Claim7 := { stood := { row := grammarMoreUptoRow, standIns := [], harness := (true, "9d4457df5055becff4086d73831c1fd89d697c4e5d090d885e058e618a91b270"), looks := true }, kinds := [], alts := [], laidByText := true, laidKinds := [.data, .data, .data, .data, .sentinel, .sentinel, .data, .widerDeep, .widerDeep, .data, .pinned], laidTests := true, laidLooks := .later }
def GrammarMoreUptoCardSaid : Prop := Claim7.holds Tryz.pinned (.plain (OpenSpec.upto grammarMoreSpec)) grammarMoreUptoCard

/-- THE SECOND FORM's CARD OF 'kalendslaw12.GrammarOf'. -/
def grammarOfUptoCard : Claim7 := { stood := { row := grammarOfUptoRow, standIns := [], harness := (true, "9d4457df5055becff4086d73831c1fd89d697c4e5d090d885e058e618a91b270"), looks := true }, kinds := [], alts := [], laidByText := true, laidKinds := [.data, .data, .data, .data, .sentinel, .sentinel, .data, .widerDeep, .widerDeep, .data, .pinned], laidTests := true, laidLooks := .later }
def GrammarOfUptoCardSaid : Prop := Claim7.holds Tryz.pinned (.plain (OpenSpec.upto grammarOfSpec)) grammarOfUptoCard

/-- THE SECOND FORM's CARD OF 'kalendslaw16.ReadingTokens'. -/
def readingTokensUptoCard : Claim7 := { stood := { row := readingTokensUptoRow, standIns := [], harness := (true, "9d4457df5055becff4086d73831c1fd89d697c4e5d090d885e058e618a91b270"), looks := true }, kinds := [], alts := [], laidByText := true, laidKinds := [.data, .data, .data, .data, .sentinel, .sentinel, .data, .widerDeep, .widerDeep, .data, .pinned], laidTests := true, laidLooks := .later }
def ReadingTokensUptoCardSaid : Prop := Claim7.holds Tryz.pinned (.plain (OpenSpec.upto readingTokensSpec)) readingTokensUptoCard
end Rows
end Go.Proofs.YtddeekefomhbmaaGreatDoor

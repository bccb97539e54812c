/-
  DERIVED. GIVEN WITH THE SEED: THE CARDS: each row of YtecpdgfpnjelmaaGreatDoorRows.lean that lists a variable, with what it lists TIED to the program's text (the seventh form; the later family's looks); each row that meets fmt, with fmt's text TOLD by the authors' own Lean function (tested against real Go, not proved from fmt's source: count such statements apart). THE CARD IS WHAT COUNTS. Prove the row's statement (the work); the ties are given (YtecpdgfpnjelmaaGreatDoorTie.lean); close each card by the builder's one call (the guide's Derived/Test/ToyasCard.lean, 'card_holds'). Laid BY PROGRAM, IN A SANDBOX (cutbox-door.mjs). By AI agents, Wed Nov 11 2026. No macro, syntax, notation, axiom, sorry.
-/
import Derived.Test.YtecpdgfpnjelmaaGreatDoorRows
import GoSem.ClaimSeven
namespace Go.Proofs.YtecpdgfpnjelmaaGreatDoor
namespace Rows

/-- THE TIED CARD OF 'kalendslaw12.GrammarApart'. -/
def grammarApartCard : Claim7 := { stood := { row := grammarApartRow, standIns := [], harness := (true, "9178670698cd38d23ad93a7f9ebfe72025e8f97d3e6e2875d55210d47e4465f1"), looks := true }, kinds := [], alts := [], laidByText := true, laidKinds := [.data, .data, .data, .data, .sentinel, .sentinel, .data, .widerDeep, .widerDeep, .data, .pinned], laidTests := true, laidLooks := .later }
def GrammarApartCardSaid : Prop := Claim7.holds Tryz.pinned (.plain (OpenSpec.ofChange grammarApartSpec)) grammarApartCard

/-- THE TIED CARD OF 'kalendslaw12.GrammarMore'. -/
def grammarMoreCard : Claim7 := { stood := { row := grammarMoreRow, standIns := [], harness := (true, "9178670698cd38d23ad93a7f9ebfe72025e8f97d3e6e2875d55210d47e4465f1"), looks := true }, kinds := [], alts := [], laidByText := true, laidKinds := [.data, .data, .data, .data, .sentinel, .sentinel, .data, .widerDeep, .widerDeep, .data, .pinned], laidTests := true, laidLooks := .later }
def GrammarMoreCardSaid : Prop := Claim7.holds Tryz.pinned (.plain (OpenSpec.ofChange grammarMoreSpec)) grammarMoreCard

/-- THE TIED CARD OF 'kalendslaw12.GrammarOf'. -/
def grammarOfCard : Claim7 := { stood := { row := grammarOfRow, standIns := [], harness := (true, "9178670698cd38d23ad93a7f9ebfe72025e8f97d3e6e2875d55210d47e4465f1"), looks := true }, kinds := [], alts := [], laidByText := true, laidKinds := [.data, .data, .data, .data, .sentinel, .sentinel, .data, .widerDeep, .widerDeep, .data, .pinned], laidTests := true, laidLooks := .later }
def GrammarOfCardSaid : Prop := Claim7.holds Tryz.pinned (.plain (OpenSpec.ofChange grammarOfSpec)) grammarOfCard

/-- THE SECOND FORM's CARD OF 'kalendslaw12.GrammarApart'. -/
def grammarApartUptoCard : Claim7 := { stood := { row := grammarApartUptoRow, standIns := [], harness := (true, "9178670698cd38d23ad93a7f9ebfe72025e8f97d3e6e2875d55210d47e4465f1"), looks := true }, kinds := [], alts := [], laidByText := true, laidKinds := [.data, .data, .data, .data, .sentinel, .sentinel, .data, .widerDeep, .widerDeep, .data, .pinned], laidTests := true, laidLooks := .later }
def GrammarApartUptoCardSaid : Prop := Claim7.holds Tryz.pinned (.plain (OpenSpec.upto grammarApartSpec)) grammarApartUptoCard

/-- THE SECOND FORM's CARD OF 'kalendslaw12.GrammarMore'. -/
def grammarMoreUptoCard : Claim7 := { stood := { row := grammarMoreUptoRow, standIns := [], harness := (true, "9178670698cd38d23ad93a7f9ebfe72025e8f97d3e6e2875d55210d47e4465f1"), looks := true }, kinds := [], alts := [], laidByText := true, laidKinds := [.data, .data, .data, .data, .sentinel, .sentinel, .data, .widerDeep, .widerDeep, .data, .pinned], laidTests := true, laidLooks := .later }
def GrammarMoreUptoCardSaid : Prop := Claim7.holds Tryz.pinned (.plain (OpenSpec.upto grammarMoreSpec)) grammarMoreUptoCard

/-- THE SECOND FORM's CARD OF 'kalendslaw12.GrammarOf'. -/
def grammarOfUptoCard : Claim7 := { stood := { row := grammarOfUptoRow, standIns := [], harness := (true, "9178670698cd38d23ad93a7f9ebfe72025e8f97d3e6e2875d55210d47e4465f1"), looks := true }, kinds := [], alts := [], laidByText := true, laidKinds := [.data, .data, .data, .data, .sentinel, .sentinel, .data, .widerDeep, .widerDeep, .data, .pinned], laidTests := true, laidLooks := .later }
def GrammarOfUptoCardSaid : Prop := Claim7.holds Tryz.pinned (.plain (OpenSpec.upto grammarOfSpec)) grammarOfUptoCard
end Rows
end Go.Proofs.YtecpdgfpnjelmaaGreatDoor

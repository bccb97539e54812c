/-
  DERIVED. GIVEN WITH THE SEED: THE CARDS: each row of YtgbflpajaihmmaaGreatDoorRows.lean that lists a variable, with what it lists TIED to the program's text (the seventh form; the later family's looks); each row that meets fmt, with fmt's text TOLD by the authors' own Lean function (tested against real Go, not proved from fmt's source: count such statements apart). THE CARD IS WHAT COUNTS. Prove the row's statement (the work); the ties are given (YtgbflpajaihmmaaGreatDoorTie.lean); close each card by the builder's one call (the guide's Derived/Test/ToyasCard.lean, 'card_holds'). Laid BY PROGRAM, IN A SANDBOX (cutbox-door.mjs). By AI agents, Wed Nov 11 2026. No macro, syntax, notation, axiom, sorry.
-/
import Derived.Test.YtgbflpajaihmmaaGreatDoorRows
import GoSem.ClaimSeven
namespace Go.Proofs.YtgbflpajaihmmaaGreatDoor
namespace Rows

/-- THE TIED CARD OF 'kalendslaw18.LinesAll'. -/
def linesAllCard : Claim7 := { stood := { row := linesAllRow, standIns := [], harness := (true, "4ed9f9f7926e01aa5c7432597b38e0dee5e9059bdcb43e3f80b37343e4d93d0b"), looks := true }, kinds := [], alts := [], laidByText := true, laidKinds := [.data, .data, .data, .data, .sentinel, .sentinel, .data, .widerDeep, .widerDeep, .data, .pinned], laidTests := true, laidLooks := .later }
def LinesAllCardSaid : Prop := Claim7.holds Tryz.pinned (.plain (OpenSpec.ofChange linesAllSpec)) linesAllCard

/-- THE TIED CARD OF 'kalendslaw18.LinesTexts'. -/
def linesTextsCard : Claim7 := { stood := { row := linesTextsRow, standIns := [], harness := (true, "4ed9f9f7926e01aa5c7432597b38e0dee5e9059bdcb43e3f80b37343e4d93d0b"), looks := true }, kinds := [], alts := [], laidByText := true, laidKinds := [.data, .data, .data, .data, .sentinel, .sentinel, .data, .widerDeep, .widerDeep, .data, .pinned], laidTests := true, laidLooks := .later }
def LinesTextsCardSaid : Prop := Claim7.holds Tryz.pinned (.plain (OpenSpec.ofChange linesTextsSpec)) linesTextsCard

/-- THE TIED CARD OF 'kalendslaw18.LinesReads'. -/
def linesReadsCard : Claim7 := { stood := { row := linesReadsRow, standIns := [], harness := (true, "4ed9f9f7926e01aa5c7432597b38e0dee5e9059bdcb43e3f80b37343e4d93d0b"), looks := true }, kinds := [], alts := [], laidByText := true, laidKinds := [.data, .data, .data, .data, .sentinel, .sentinel, .data, .widerDeep, .widerDeep, .data, .pinned], laidTests := true, laidLooks := .later }
def LinesReadsCardSaid : Prop := Claim7.holds Tryz.pinned (.plain (OpenSpec.ofChange linesReadsSpec)) linesReadsCard

/-- THE TIED CARD OF 'kalendslaw18.LinesSpoilt'. -/
def linesSpoiltCard : Claim7 := { stood := { row := linesSpoiltRow, standIns := [], harness := (true, "4ed9f9f7926e01aa5c7432597b38e0dee5e9059bdcb43e3f80b37343e4d93d0b"), looks := true }, kinds := [], alts := [], laidByText := true, laidKinds := [.data, .data, .data, .data, .sentinel, .sentinel, .data, .widerDeep, .widerDeep, .data, .pinned], laidTests := true, laidLooks := .later }
def LinesSpoiltCardSaid : Prop := Claim7.holds Tryz.pinned (.plain (OpenSpec.ofChange linesSpoiltSpec)) linesSpoiltCard

/-- THE TIED CARD OF 'kalendslaw18.LinesApart'. -/
def linesApartCard : Claim7 := { stood := { row := linesApartRow, standIns := [], harness := (true, "4ed9f9f7926e01aa5c7432597b38e0dee5e9059bdcb43e3f80b37343e4d93d0b"), looks := true }, kinds := [], alts := [], laidByText := true, laidKinds := [.data, .data, .data, .data, .sentinel, .sentinel, .data, .widerDeep, .widerDeep, .data, .pinned], laidTests := true, laidLooks := .later }
def LinesApartCardSaid : Prop := Claim7.holds Tryz.pinned (.plain (OpenSpec.ofChange linesApartSpec)) linesApartCard

/-- THE TIED CARD OF 'kalendslaw19.WireDecodes'. -/
def wireDecodesCard : Claim7 := { stood := { row := wireDecodesRow, standIns := [], harness := (true, "4ed9f9f7926e01aa5c7432597b38e0dee5e9059bdcb43e3f80b37343e4d93d0b"), looks := true }, kinds := [], alts := [], laidByText := true, laidKinds := [.data, .data, .data, .data, .sentinel, .sentinel, .data, .widerDeep, .widerDeep, .data, .widerDeep, .pinned], laidTests := true, laidLooks := .later }
def WireDecodesCardSaid : Prop := Claim7.holds Tryz.pinned (.plain (OpenSpec.ofChange wireDecodesSpec)) wireDecodesCard

/-- THE TIED CARD OF 'kalendslaw19.WireSpoilt'. -/
def wireSpoiltCard : Claim7 := { stood := { row := wireSpoiltRow, standIns := [], harness := (true, "4ed9f9f7926e01aa5c7432597b38e0dee5e9059bdcb43e3f80b37343e4d93d0b"), looks := true }, kinds := [], alts := [], laidByText := true, laidKinds := [.data, .data, .data, .data, .sentinel, .sentinel, .data, .widerDeep, .widerDeep, .data, .widerDeep, .pinned], laidTests := true, laidLooks := .later }
def WireSpoiltCardSaid : Prop := Claim7.holds Tryz.pinned (.plain (OpenSpec.ofChange wireSpoiltSpec)) wireSpoiltCard

/-- THE TIED CARD OF 'kalendslaw19.WireLong'. -/
def wireLongCard : Claim7 := { stood := { row := wireLongRow, standIns := [], harness := (true, "4ed9f9f7926e01aa5c7432597b38e0dee5e9059bdcb43e3f80b37343e4d93d0b"), looks := true }, kinds := [], alts := [], laidByText := true, laidKinds := [.data, .data, .data, .data, .sentinel, .sentinel, .data, .widerDeep, .widerDeep, .data, .widerDeep, .pinned], laidTests := true, laidLooks := .later }
def WireLongCardSaid : Prop := Claim7.holds Tryz.pinned (.plain (OpenSpec.ofChange wireLongSpec)) wireLongCard

/-- THE TIED CARD OF 'kalendslaw19.WireRest'. -/
def wireRestCard : Claim7 := { stood := { row := wireRestRow, standIns := [], harness := (true, "4ed9f9f7926e01aa5c7432597b38e0dee5e9059bdcb43e3f80b37343e4d93d0b"), looks := true }, kinds := [], alts := [], laidByText := true, laidKinds := [.data, .data, .data, .data, .sentinel, .sentinel, .data, .widerDeep, .widerDeep, .data, .widerDeep, .pinned], laidTests := true, laidLooks := .later }
def WireRestCardSaid : Prop := Claim7.holds Tryz.pinned (.plain (OpenSpec.ofChange wireRestSpec)) wireRestCard

/-- THE TIED CARD OF 'kalendslaw19.WireWords'. -/
def wireWordsCard : Claim7 := { stood := { row := wireWordsRow, standIns := [], harness := (true, "4ed9f9f7926e01aa5c7432597b38e0dee5e9059bdcb43e3f80b37343e4d93d0b"), looks := true }, kinds := [], alts := [], laidByText := true, laidKinds := [.data, .data, .data, .data, .sentinel, .sentinel, .data, .widerDeep, .widerDeep, .data, .widerDeep, .pinned], laidTests := true, laidLooks := .later }
def WireWordsCardSaid : Prop := Claim7.holds Tryz.pinned (.plain (OpenSpec.ofChange wireWordsSpec)) wireWordsCard

/-- THE TIED CARD OF 'kalendslaw19.WireBack'. -/
def wireBackCard : Claim7 := { stood := { row := wireBackRow, standIns := [], harness := (true, "4ed9f9f7926e01aa5c7432597b38e0dee5e9059bdcb43e3f80b37343e4d93d0b"), looks := true }, kinds := [], alts := [], laidByText := true, laidKinds := [.data, .data, .data, .data, .sentinel, .sentinel, .data, .widerDeep, .widerDeep, .data, .widerDeep, .pinned], laidTests := true, laidLooks := .later }
def WireBackCardSaid : Prop := Claim7.holds Tryz.pinned (.plain (OpenSpec.ofChange wireBackSpec)) wireBackCard

/-- THE SECOND FORM's CARD OF 'kalendslaw18.LinesAll'. -/
def linesAllUptoCard : Claim7 := { stood := { row := linesAllUptoRow, standIns := [], harness := (true, "4ed9f9f7926e01aa5c7432597b38e0dee5e9059bdcb43e3f80b37343e4d93d0b"), looks := true }, kinds := [], alts := [], laidByText := true, laidKinds := [.data, .data, .data, .data, .sentinel, .sentinel, .data, .widerDeep, .widerDeep, .data, .pinned], laidTests := true, laidLooks := .later }
def LinesAllUptoCardSaid : Prop := Claim7.holds Tryz.pinned (.plain (OpenSpec.upto linesAllSpec)) linesAllUptoCard

/-- THE SECOND FORM's CARD OF 'kalendslaw18.LinesTexts'. -/
def linesTextsUptoCard : Claim7 := { stood := { row := linesTextsUptoRow, standIns := [], harness := (true, "4ed9f9f7926e01aa5c7432597b38e0dee5e9059bdcb43e3f80b37343e4d93d0b"), looks := true }, kinds := [], alts := [], laidByText := true, laidKinds := [.data, .data, .data, .data, .sentinel, .sentinel, .data, .widerDeep, .widerDeep, .data, .pinned], laidTests := true, laidLooks := .later }
def LinesTextsUptoCardSaid : Prop := Claim7.holds Tryz.pinned (.plain (OpenSpec.upto linesTextsSpec)) linesTextsUptoCard

/-- THE SECOND FORM's CARD OF 'kalendslaw18.LinesReads'. -/
def linesReadsUptoCard : Claim7 := { stood := { row := linesReadsUptoRow, standIns := [], harness := (true, "4ed9f9f7926e01aa5c7432597b38e0dee5e9059bdcb43e3f80b37343e4d93d0b"), looks := true }, kinds := [], alts := [], laidByText := true, laidKinds := [.data, .data, .data, .data, .sentinel, .sentinel, .data, .widerDeep, .widerDeep, .data, .pinned], laidTests := true, laidLooks := .later }
def LinesReadsUptoCardSaid : Prop := Claim7.holds Tryz.pinned (.plain (OpenSpec.upto linesReadsSpec)) linesReadsUptoCard

/-- THE SECOND FORM's CARD OF 'kalendslaw18.LinesSpoilt'. -/
def linesSpoiltUptoCard : Claim7 := { stood := { row := linesSpoiltUptoRow, standIns := [], harness := (true, "4ed9f9f7926e01aa5c7432597b38e0dee5e9059bdcb43e3f80b37343e4d93d0b"), looks := true }, kinds := [], alts := [], laidByText := true, laidKinds := [.data, .data, .data, .data, .sentinel, .sentinel, .data, .widerDeep, .widerDeep, .data, .pinned], laidTests := true, laidLooks := .later }
def LinesSpoiltUptoCardSaid : Prop := Claim7.holds Tryz.pinned (.plain (OpenSpec.upto linesSpoiltSpec)) linesSpoiltUptoCard

/-- THE SECOND FORM's CARD OF 'kalendslaw18.LinesApart'. -/
def linesApartUptoCard : Claim7 := { stood := { row := linesApartUptoRow, standIns := [], harness := (true, "4ed9f9f7926e01aa5c7432597b38e0dee5e9059bdcb43e3f80b37343e4d93d0b"), looks := true }, kinds := [], alts := [], laidByText := true, laidKinds := [.data, .data, .data, .data, .sentinel, .sentinel, .data, .widerDeep, .widerDeep, .data, .pinned], laidTests := true, laidLooks := .later }
def LinesApartUptoCardSaid : Prop := Claim7.holds Tryz.pinned (.plain (OpenSpec.upto linesApartSpec)) linesApartUptoCard

/-- THE SECOND FORM's CARD OF 'kalendslaw19.WireDecodes'. -/
def wireDecodesUptoCard : Claim7 := { stood := { row := wireDecodesUptoRow, standIns := [], harness := (true, "4ed9f9f7926e01aa5c7432597b38e0dee5e9059bdcb43e3f80b37343e4d93d0b"), looks := true }, kinds := [], alts := [], laidByText := true, laidKinds := [.data, .data, .data, .data, .sentinel, .sentinel, .data, .widerDeep, .widerDeep, .data, .widerDeep, .pinned], laidTests := true, laidLooks := .later }
def WireDecodesUptoCardSaid : Prop := Claim7.holds Tryz.pinned (.plain (OpenSpec.upto wireDecodesSpec)) wireDecodesUptoCard

/-- THE SECOND FORM's CARD OF 'kalendslaw19.WireSpoilt'. -/
def wireSpoiltUptoCard : Claim7 := { stood := { row := wireSpoiltUptoRow, standIns := [], harness := (true, "4ed9f9f7926e01aa5c7432597b38e0dee5e9059bdcb43e3f80b37343e4d93d0b"), looks := true }, kinds := [], alts := [], laidByText := true, laidKinds := [.data, .data, .data, .data, .sentinel, .sentinel, .data, .widerDeep, .widerDeep, .data, .widerDeep, .pinned], laidTests := true, laidLooks := .later }
def WireSpoiltUptoCardSaid : Prop := Claim7.holds Tryz.pinned (.plain (OpenSpec.upto wireSpoiltSpec)) wireSpoiltUptoCard

/-- THE SECOND FORM's CARD OF 'kalendslaw19.WireLong'. -/
def wireLongUptoCard : Claim7 := { stood := { row := wireLongUptoRow, standIns := [], harness := (true, "4ed9f9f7926e01aa5c7432597b38e0dee5e9059bdcb43e3f80b37343e4d93d0b"), looks := true }, kinds := [], alts := [], laidByText := true, laidKinds := [.data, .data, .data, .data, .sentinel, .sentinel, .data, .widerDeep, .widerDeep, .data, .widerDeep, .pinned], laidTests := true, laidLooks := .later }
def WireLongUptoCardSaid : Prop := Claim7.holds Tryz.pinned (.plain (OpenSpec.upto wireLongSpec)) wireLongUptoCard

/-- THE SECOND FORM's CARD OF 'kalendslaw19.WireRest'. -/
def wireRestUptoCard : Claim7 := { stood := { row := wireRestUptoRow, standIns := [], harness := (true, "4ed9f9f7926e01aa5c7432597b38e0dee5e9059bdcb43e3f80b37343e4d93d0b"), looks := true }, kinds := [], alts := [], laidByText := true, laidKinds := [.data, .data, .data, .data, .sentinel, .sentinel, .data, .widerDeep, .widerDeep, .data, .widerDeep, .pinned], laidTests := true, laidLooks := .later }
def WireRestUptoCardSaid : Prop := Claim7.holds Tryz.pinned (.plain (OpenSpec.upto wireRestSpec)) wireRestUptoCard

/-- THE SECOND FORM's CARD OF 'kalendslaw19.WireWords'. -/
def wireWordsUptoCard : Claim7 := { stood := { row := wireWordsUptoRow, standIns := [], harness := (true, "4ed9f9f7926e01aa5c7432597b38e0dee5e9059bdcb43e3f80b37343e4d93d0b"), looks := true }, kinds := [], alts := [], laidByText := true, laidKinds := [.data, .data, .data, .data, .sentinel, .sentinel, .data, .widerDeep, .widerDeep, .data, .widerDeep, .pinned], laidTests := true, laidLooks := .later }
def WireWordsUptoCardSaid : Prop := Claim7.holds Tryz.pinned (.plain (OpenSpec.upto wireWordsSpec)) wireWordsUptoCard

/-- THE SECOND FORM's CARD OF 'kalendslaw19.WireBack'. -/
def wireBackUptoCard : Claim7 := { stood := { row := wireBackUptoRow, standIns := [], harness := (true, "4ed9f9f7926e01aa5c7432597b38e0dee5e9059bdcb43e3f80b37343e4d93d0b"), looks := true }, kinds := [], alts := [], laidByText := true, laidKinds := [.data, .data, .data, .data, .sentinel, .sentinel, .data, .widerDeep, .widerDeep, .data, .widerDeep, .pinned], laidTests := true, laidLooks := .later }
def WireBackUptoCardSaid : Prop := Claim7.holds Tryz.pinned (.plain (OpenSpec.upto wireBackSpec)) wireBackUptoCard
end Rows
end Go.Proofs.YtgbflpajaihmmaaGreatDoor

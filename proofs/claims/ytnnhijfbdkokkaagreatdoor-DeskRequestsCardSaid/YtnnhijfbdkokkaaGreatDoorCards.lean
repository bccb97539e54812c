/-
  DERIVED. GIVEN WITH THE SEED: THE CARDS: each row of YtnnhijfbdkokkaaGreatDoorRows.lean that lists a variable, with what it lists TIED to the program's text (the seventh form; the later family's looks); each row that meets fmt, with fmt's text TOLD by the authors' own Lean function (tested against real Go, not proved from fmt's source: count such statements apart). THE CARD IS WHAT COUNTS. Prove the row's statement (the work); the ties are given (YtnnhijfbdkokkaaGreatDoorTie.lean); close each card by the builder's one call (the guide's Derived/Test/ToyasCard.lean, 'card_holds'). Laid BY PROGRAM, IN A SANDBOX (cutbox-door.mjs). By AI agents, Wed Nov 11 2026. No macro, syntax, notation, axiom, sorry.
-/
import Derived.Test.YtnnhijfbdkokkaaGreatDoorRows
import GoSem.ClaimSeven
namespace Go.Proofs.YtnnhijfbdkokkaaGreatDoor
namespace Rows

/-- THE TIED CARD OF 'kalendslaw18.LinesAll'. -/
def linesAllCard : Claim7 := { stood := { row := linesAllRow, standIns := [], harness := (true, "ad957ffa15d192a05e1e1b8ebe8d96c69938cddd23e385534862a55206420830"), looks := true }, kinds := [], alts := [], laidByText := true, laidKinds := [.data, .data, .data, .data, .sentinel, .sentinel, .data, .widerDeep, .widerDeep, .data, .pinned], laidTests := true, laidLooks := .later }
def LinesAllCardSaid : Prop := Claim7.holds Tryz.pinned (.plain (OpenSpec.ofChange linesAllSpec)) linesAllCard

/-- THE TIED CARD OF 'kalendslaw18.LinesTexts'. -/
def linesTextsCard : Claim7 := { stood := { row := linesTextsRow, standIns := [], harness := (true, "ad957ffa15d192a05e1e1b8ebe8d96c69938cddd23e385534862a55206420830"), looks := true }, kinds := [], alts := [], laidByText := true, laidKinds := [.data, .data, .data, .data, .sentinel, .sentinel, .data, .widerDeep, .widerDeep, .data, .pinned], laidTests := true, laidLooks := .later }
def LinesTextsCardSaid : Prop := Claim7.holds Tryz.pinned (.plain (OpenSpec.ofChange linesTextsSpec)) linesTextsCard

/-- THE TIED CARD OF 'kalendslaw18.LinesReads'. -/
def linesReadsCard : Claim7 := { stood := { row := linesReadsRow, standIns := [], harness := (true, "ad957ffa15d192a05e1e1b8ebe8d96c69938cddd23e385534862a55206420830"), looks := true }, kinds := [], alts := [], laidByText := true, laidKinds := [.data, .data, .data, .data, .sentinel, .sentinel, .data, .widerDeep, .widerDeep, .data, .pinned], laidTests := true, laidLooks := .later }
def LinesReadsCardSaid : Prop := Claim7.holds Tryz.pinned (.plain (OpenSpec.ofChange linesReadsSpec)) linesReadsCard

/-- THE TIED CARD OF 'kalendslaw18.LinesSpoilt'. -/
def linesSpoiltCard : Claim7 := { stood := { row := linesSpoiltRow, standIns := [], harness := (true, "ad957ffa15d192a05e1e1b8ebe8d96c69938cddd23e385534862a55206420830"), looks := true }, kinds := [], alts := [], laidByText := true, laidKinds := [.data, .data, .data, .data, .sentinel, .sentinel, .data, .widerDeep, .widerDeep, .data, .pinned], laidTests := true, laidLooks := .later }
def LinesSpoiltCardSaid : Prop := Claim7.holds Tryz.pinned (.plain (OpenSpec.ofChange linesSpoiltSpec)) linesSpoiltCard

/-- THE TIED CARD OF 'kalendslaw18.LinesApart'. -/
def linesApartCard : Claim7 := { stood := { row := linesApartRow, standIns := [], harness := (true, "ad957ffa15d192a05e1e1b8ebe8d96c69938cddd23e385534862a55206420830"), looks := true }, kinds := [], alts := [], laidByText := true, laidKinds := [.data, .data, .data, .data, .sentinel, .sentinel, .data, .widerDeep, .widerDeep, .data, .pinned], laidTests := true, laidLooks := .later }
def LinesApartCardSaid : Prop := Claim7.holds Tryz.pinned (.plain (OpenSpec.ofChange linesApartSpec)) linesApartCard

/-- THE TIED CARD OF 'kalendslaw19.WireDecodes'. -/
def wireDecodesCard : Claim7 := { stood := { row := wireDecodesRow, standIns := [], harness := (true, "ad957ffa15d192a05e1e1b8ebe8d96c69938cddd23e385534862a55206420830"), looks := true }, kinds := [], alts := [], laidByText := true, laidKinds := [.data, .data, .data, .data, .sentinel, .sentinel, .data, .widerDeep, .widerDeep, .data, .widerDeep, .pinned], laidTests := true, laidLooks := .later }
def WireDecodesCardSaid : Prop := Claim7.holds Tryz.pinned (.plain (OpenSpec.ofChange wireDecodesSpec)) wireDecodesCard

/-- THE TIED CARD OF 'kalendslaw19.WireSpoilt'. -/
def wireSpoiltCard : Claim7 := { stood := { row := wireSpoiltRow, standIns := [], harness := (true, "ad957ffa15d192a05e1e1b8ebe8d96c69938cddd23e385534862a55206420830"), looks := true }, kinds := [], alts := [], laidByText := true, laidKinds := [.data, .data, .data, .data, .sentinel, .sentinel, .data, .widerDeep, .widerDeep, .data, .widerDeep, .pinned], laidTests := true, laidLooks := .later }
def WireSpoiltCardSaid : Prop := Claim7.holds Tryz.pinned (.plain (OpenSpec.ofChange wireSpoiltSpec)) wireSpoiltCard

/-- THE TIED CARD OF 'kalendslaw19.WireWords'. -/
def wireWordsCard : Claim7 := { stood := { row := wireWordsRow, standIns := [], harness := (true, "ad957ffa15d192a05e1e1b8ebe8d96c69938cddd23e385534862a55206420830"), looks := true }, kinds := [], alts := [], laidByText := true, laidKinds := [.data, .data, .data, .data, .sentinel, .sentinel, .data, .widerDeep, .widerDeep, .data, .widerDeep, .pinned], laidTests := true, laidLooks := .later }
def WireWordsCardSaid : Prop := Claim7.holds Tryz.pinned (.plain (OpenSpec.ofChange wireWordsSpec)) wireWordsCard

/-- THE TIED CARD OF 'kalendslaw20.ServerRange'. -/
def serverRangeCard : Claim7 := { stood := { row := serverRangeRow, standIns := [], harness := (true, "ad957ffa15d192a05e1e1b8ebe8d96c69938cddd23e385534862a55206420830"), looks := true }, kinds := [], alts := [], laidByText := true, laidKinds := [.data, .data, .data, .data, .sentinel, .sentinel, .data, .widerDeep, .widerDeep, .data, .widerDeep, .pinned], laidTests := true, laidLooks := .later }
def ServerRangeCardSaid : Prop := Claim7.holds Tryz.pinned (.plain (OpenSpec.ofChange serverRangeSpec)) serverRangeCard

/-- THE TIED CARD OF 'kalendslaw20.ServerNone'. -/
def serverNoneCard : Claim7 := { stood := { row := serverNoneRow, standIns := [], harness := (true, "ad957ffa15d192a05e1e1b8ebe8d96c69938cddd23e385534862a55206420830"), looks := true }, kinds := [], alts := [], laidByText := true, laidKinds := [.data, .data, .data, .data, .sentinel, .sentinel, .data, .widerDeep, .widerDeep, .data, .widerDeep, .pinned], laidTests := true, laidLooks := .later }
def ServerNoneCardSaid : Prop := Claim7.holds Tryz.pinned (.plain (OpenSpec.ofChange serverNoneSpec)) serverNoneCard

/-- THE TIED CARD OF 'kalendslaw21.DeskRequests'. -/
def deskRequestsCard : Claim7 := { stood := { row := deskRequestsRow, standIns := [], harness := (true, "ad957ffa15d192a05e1e1b8ebe8d96c69938cddd23e385534862a55206420830"), looks := true }, kinds := [], alts := [], laidByText := true, laidKinds := [.data, .data, .data, .data, .sentinel, .sentinel, .data, .widerDeep, .widerDeep, .data, .widerDeep, .pinned], laidTests := true, laidLooks := .later }
def DeskRequestsCardSaid : Prop := Claim7.holds Tryz.pinned (.plain (OpenSpec.ofChange deskRequestsSpec)) deskRequestsCard

/-- THE SECOND FORM's CARD OF 'kalendslaw18.LinesAll'. -/
def linesAllUptoCard : Claim7 := { stood := { row := linesAllUptoRow, standIns := [], harness := (true, "ad957ffa15d192a05e1e1b8ebe8d96c69938cddd23e385534862a55206420830"), looks := true }, kinds := [], alts := [], laidByText := true, laidKinds := [.data, .data, .data, .data, .sentinel, .sentinel, .data, .widerDeep, .widerDeep, .data, .pinned], laidTests := true, laidLooks := .later }
def LinesAllUptoCardSaid : Prop := Claim7.holds Tryz.pinned (.plain (OpenSpec.upto linesAllSpec)) linesAllUptoCard

/-- THE SECOND FORM's CARD OF 'kalendslaw18.LinesTexts'. -/
def linesTextsUptoCard : Claim7 := { stood := { row := linesTextsUptoRow, standIns := [], harness := (true, "ad957ffa15d192a05e1e1b8ebe8d96c69938cddd23e385534862a55206420830"), looks := true }, kinds := [], alts := [], laidByText := true, laidKinds := [.data, .data, .data, .data, .sentinel, .sentinel, .data, .widerDeep, .widerDeep, .data, .pinned], laidTests := true, laidLooks := .later }
def LinesTextsUptoCardSaid : Prop := Claim7.holds Tryz.pinned (.plain (OpenSpec.upto linesTextsSpec)) linesTextsUptoCard

/-- THE SECOND FORM's CARD OF 'kalendslaw18.LinesReads'. -/
def linesReadsUptoCard : Claim7 := { stood := { row := linesReadsUptoRow, standIns := [], harness := (true, "ad957ffa15d192a05e1e1b8ebe8d96c69938cddd23e385534862a55206420830"), looks := true }, kinds := [], alts := [], laidByText := true, laidKinds := [.data, .data, .data, .data, .sentinel, .sentinel, .data, .widerDeep, .widerDeep, .data, .pinned], laidTests := true, laidLooks := .later }
def LinesReadsUptoCardSaid : Prop := Claim7.holds Tryz.pinned (.plain (OpenSpec.upto linesReadsSpec)) linesReadsUptoCard

/-- THE SECOND FORM's CARD OF 'kalendslaw18.LinesSpoilt'. -/
def linesSpoiltUptoCard : Claim7 := { stood := { row := linesSpoiltUptoRow, standIns := [], harness := (true, "ad957ffa15d192a05e1e1b8ebe8d96c69938cddd23e385534862a55206420830"), looks := true }, kinds := [], alts := [], laidByText := true, laidKinds := [.data, .data, .data, .data, .sentinel, .sentinel, .data, .widerDeep, .widerDeep, .data, .pinned], laidTests := true, laidLooks := .later }
def LinesSpoiltUptoCardSaid : Prop := Claim7.holds Tryz.pinned (.plain (OpenSpec.upto linesSpoiltSpec)) linesSpoiltUptoCard

/-- THE SECOND FORM's CARD OF 'kalendslaw18.LinesApart'. -/
def linesApartUptoCard : Claim7 := { stood := { row := linesApartUptoRow, standIns := [], harness := (true, "ad957ffa15d192a05e1e1b8ebe8d96c69938cddd23e385534862a55206420830"), looks := true }, kinds := [], alts := [], laidByText := true, laidKinds := [.data, .data, .data, .data, .sentinel, .sentinel, .data, .widerDeep, .widerDeep, .data, .pinned], laidTests := true, laidLooks := .later }
def LinesApartUptoCardSaid : Prop := Claim7.holds Tryz.pinned (.plain (OpenSpec.upto linesApartSpec)) linesApartUptoCard

/-- THE SECOND FORM's CARD OF 'kalendslaw19.WireDecodes'. -/
def wireDecodesUptoCard : Claim7 := { stood := { row := wireDecodesUptoRow, standIns := [], harness := (true, "ad957ffa15d192a05e1e1b8ebe8d96c69938cddd23e385534862a55206420830"), looks := true }, kinds := [], alts := [], laidByText := true, laidKinds := [.data, .data, .data, .data, .sentinel, .sentinel, .data, .widerDeep, .widerDeep, .data, .widerDeep, .pinned], laidTests := true, laidLooks := .later }
def WireDecodesUptoCardSaid : Prop := Claim7.holds Tryz.pinned (.plain (OpenSpec.upto wireDecodesSpec)) wireDecodesUptoCard

/-- THE SECOND FORM's CARD OF 'kalendslaw19.WireSpoilt'. -/
def wireSpoiltUptoCard : Claim7 := { stood := { row := wireSpoiltUptoRow, standIns := [], harness := (true, "ad957ffa15d192a05e1e1b8ebe8d96c69938cddd23e385534862a55206420830"), looks := true }, kinds := [], alts := [], laidByText := true, laidKinds := [.data, .data, .data, .data, .sentinel, .sentinel, .data, .widerDeep, .widerDeep, .data, .widerDeep, .pinned], laidTests := true, laidLooks := .later }
def WireSpoiltUptoCardSaid : Prop := Claim7.holds Tryz.pinned (.plain (OpenSpec.upto wireSpoiltSpec)) wireSpoiltUptoCard

/-- THE SECOND FORM's CARD OF 'kalendslaw19.WireWords'. -/
def wireWordsUptoCard : Claim7 := { stood := { row := wireWordsUptoRow, standIns := [], harness := (true, "ad957ffa15d192a05e1e1b8ebe8d96c69938cddd23e385534862a55206420830"), looks := true }, kinds := [], alts := [], laidByText := true, laidKinds := [.data, .data, .data, .data, .sentinel, .sentinel, .data, .widerDeep, .widerDeep, .data, .widerDeep, .pinned], laidTests := true, laidLooks := .later }
def WireWordsUptoCardSaid : Prop := Claim7.holds Tryz.pinned (.plain (OpenSpec.upto wireWordsSpec)) wireWordsUptoCard

/-- THE SECOND FORM's CARD OF 'kalendslaw20.ServerRange'. -/
def serverRangeUptoCard : Claim7 := { stood := { row := serverRangeUptoRow, standIns := [], harness := (true, "ad957ffa15d192a05e1e1b8ebe8d96c69938cddd23e385534862a55206420830"), looks := true }, kinds := [], alts := [], laidByText := true, laidKinds := [.data, .data, .data, .data, .sentinel, .sentinel, .data, .widerDeep, .widerDeep, .data, .widerDeep, .pinned], laidTests := true, laidLooks := .later }
def ServerRangeUptoCardSaid : Prop := Claim7.holds Tryz.pinned (.plain (OpenSpec.upto serverRangeSpec)) serverRangeUptoCard

/-- THE SECOND FORM's CARD OF 'kalendslaw20.ServerNone'. -/
def serverNoneUptoCard : Claim7 := { stood := { row := serverNoneUptoRow, standIns := [], harness := (true, "ad957ffa15d192a05e1e1b8ebe8d96c69938cddd23e385534862a55206420830"), looks := true }, kinds := [], alts := [], laidByText := true, laidKinds := [.data, .data, .data, .data, .sentinel, .sentinel, .data, .widerDeep, .widerDeep, .data, .widerDeep, .pinned], laidTests := true, laidLooks := .later }
def ServerNoneUptoCardSaid : Prop := Claim7.holds Tryz.pinned (.plain (OpenSpec.upto serverNoneSpec)) serverNoneUptoCard

/-- THE SECOND FORM's CARD OF 'kalendslaw21.DeskRequests'. -/
def deskRequestsUptoCard : Claim7 := { stood := { row := deskRequestsUptoRow, standIns := [], harness := (true, "ad957ffa15d192a05e1e1b8ebe8d96c69938cddd23e385534862a55206420830"), looks := true }, kinds := [], alts := [], laidByText := true, laidKinds := [.data, .data, .data, .data, .sentinel, .sentinel, .data, .widerDeep, .widerDeep, .data, .widerDeep, .pinned], laidTests := true, laidLooks := .later }
def DeskRequestsUptoCardSaid : Prop := Claim7.holds Tryz.pinned (.plain (OpenSpec.upto deskRequestsSpec)) deskRequestsUptoCard
end Rows
end Go.Proofs.YtnnhijfbdkokkaaGreatDoor

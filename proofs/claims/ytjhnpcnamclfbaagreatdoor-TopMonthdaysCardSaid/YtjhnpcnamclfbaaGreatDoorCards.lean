/-
  DERIVED. GIVEN WITH THE SEED: THE CARDS: each row of YtjhnpcnamclfbaaGreatDoorRows.lean that lists a variable, with what it lists TIED to the program's text (the seventh form; the later family's looks); each row that meets fmt, with fmt's text TOLD by the authors' own Lean function (tested against real Go, not proved from fmt's source: count such statements apart). THE CARD IS WHAT COUNTS. Prove the row's statement (the work); the ties are given (YtjhnpcnamclfbaaGreatDoorTie.lean); close each card by the builder's one call (the guide's Derived/Test/ToyasCard.lean, 'card_holds'). Laid BY PROGRAM, IN A SANDBOX (cutbox-door.mjs). By AI agents, Wed Nov 11 2026. No macro, syntax, notation, axiom, sorry.
-/
import Derived.Test.YtjhnpcnamclfbaaGreatDoorRows
import GoSem.ClaimSeven
namespace Go.Proofs.YtjhnpcnamclfbaaGreatDoor
namespace Rows

/-- THE TIED CARD OF 'kalendstop.TopMonths'. -/
def topMonthsCard : Claim7 := { stood := { row := topMonthsRow, standIns := [], harness := (true, "73026c3739fcf025a7c66b6aa3b86feff019c4fcc6f8e91f50dd8323dbe96008"), looks := true }, kinds := [], alts := [], laidByText := true, laidKinds := [.data, .data, .data, .data, .sentinel, .sentinel, .data, .widerDeep, .widerDeep, .data, .widerDeep, .pinned], laidTests := true, laidLooks := .later }
def TopMonthsCardSaid : Prop := Claim7.holds Tryz.pinned (.plain (OpenSpec.ofChange topMonthsSpec)) topMonthsCard

/-- THE TIED CARD OF 'kalendstop.TopSetpos'. -/
def topSetposCard : Claim7 := { stood := { row := topSetposRow, standIns := [], harness := (true, "73026c3739fcf025a7c66b6aa3b86feff019c4fcc6f8e91f50dd8323dbe96008"), looks := true }, kinds := [], alts := [], laidByText := true, laidKinds := [.data, .data, .data, .data, .sentinel, .sentinel, .data, .widerDeep, .widerDeep, .data, .widerDeep, .pinned], laidTests := true, laidLooks := .later }
def TopSetposCardSaid : Prop := Claim7.holds Tryz.pinned (.plain (OpenSpec.ofChange topSetposSpec)) topSetposCard

/-- THE TIED CARD OF 'kalendstop.TopYearly'. -/
def topYearlyCard : Claim7 := { stood := { row := topYearlyRow, standIns := [], harness := (true, "73026c3739fcf025a7c66b6aa3b86feff019c4fcc6f8e91f50dd8323dbe96008"), looks := true }, kinds := [], alts := [], laidByText := true, laidKinds := [.data, .data, .data, .data, .sentinel, .sentinel, .data, .widerDeep, .widerDeep, .data, .widerDeep, .pinned], laidTests := true, laidLooks := .later }
def TopYearlyCardSaid : Prop := Claim7.holds Tryz.pinned (.plain (OpenSpec.ofChange topYearlySpec)) topYearlyCard

/-- THE TIED CARD OF 'kalendstop.TopStart'. -/
def topStartCard : Claim7 := { stood := { row := topStartRow, standIns := [], harness := (true, "73026c3739fcf025a7c66b6aa3b86feff019c4fcc6f8e91f50dd8323dbe96008"), looks := true }, kinds := [], alts := [], laidByText := true, laidKinds := [.data, .data, .data, .data, .sentinel, .sentinel, .data, .widerDeep, .widerDeep, .data, .widerDeep, .pinned], laidTests := true, laidLooks := .later }
def TopStartCardSaid : Prop := Claim7.holds Tryz.pinned (.plain (OpenSpec.ofChange topStartSpec)) topStartCard

/-- THE TIED CARD OF 'kalendstop.TopMonthdays'. -/
def topMonthdaysCard : Claim7 := { stood := { row := topMonthdaysRow, standIns := [], harness := (true, "73026c3739fcf025a7c66b6aa3b86feff019c4fcc6f8e91f50dd8323dbe96008"), looks := true }, kinds := [], alts := [], laidByText := true, laidKinds := [.data, .data, .data, .data, .sentinel, .sentinel, .data, .widerDeep, .widerDeep, .data, .widerDeep, .pinned], laidTests := true, laidLooks := .later }
def TopMonthdaysCardSaid : Prop := Claim7.holds Tryz.pinned (.plain (OpenSpec.ofChange topMonthdaysSpec)) topMonthdaysCard

/-- THE SECOND FORM's CARD OF 'kalendstop.TopMonths'. -/
def topMonthsUptoCard : Claim7 := { stood := { row := topMonthsUptoRow, standIns := [], harness := (true, "73026c3739fcf025a7c66b6aa3b86feff019c4fcc6f8e91f50dd8323dbe96008"), looks := true }, kinds := [], alts := [], laidByText := true, laidKinds := [.data, .data, .data, .data, .sentinel, .sentinel, .data, .widerDeep, .widerDeep, .data, .widerDeep, .pinned], laidTests := true, laidLooks := .later }
def TopMonthsUptoCardSaid : Prop := Claim7.holds Tryz.pinned (.plain (OpenSpec.upto topMonthsSpec)) topMonthsUptoCard

/-- THE SECOND FORM's CARD OF 'kalendstop.TopSetpos'. -/
def topSetposUptoCard : Claim7 := { stood := { row := topSetposUptoRow, standIns := [], harness := (true, "73026c3739fcf025a7c66b6aa3b86feff019c4fcc6f8e91f50dd8323dbe96008"), looks := true }, kinds := [], alts := [], laidByText := true, laidKinds := [.data, .data, .data, .data, .sentinel, .sentinel, .data, .widerDeep, .widerDeep, .data, .widerDeep, .pinned], laidTests := true, laidLooks := .later }
def TopSetposUptoCardSaid : Prop := Claim7.holds Tryz.pinned (.plain (OpenSpec.upto topSetposSpec)) topSetposUptoCard

/-- THE SECOND FORM's CARD OF 'kalendstop.TopYearly'. -/
def topYearlyUptoCard : Claim7 := { stood := { row := topYearlyUptoRow, standIns := [], harness := (true, "73026c3739fcf025a7c66b6aa3b86feff019c4fcc6f8e91f50dd8323dbe96008"), looks := true }, kinds := [], alts := [], laidByText := true, laidKinds := [.data, .data, .data, .data, .sentinel, .sentinel, .data, .widerDeep, .widerDeep, .data, .widerDeep, .pinned], laidTests := true, laidLooks := .later }
def TopYearlyUptoCardSaid : Prop := Claim7.holds Tryz.pinned (.plain (OpenSpec.upto topYearlySpec)) topYearlyUptoCard

/-- THE SECOND FORM's CARD OF 'kalendstop.TopStart'. -/
def topStartUptoCard : Claim7 := { stood := { row := topStartUptoRow, standIns := [], harness := (true, "73026c3739fcf025a7c66b6aa3b86feff019c4fcc6f8e91f50dd8323dbe96008"), looks := true }, kinds := [], alts := [], laidByText := true, laidKinds := [.data, .data, .data, .data, .sentinel, .sentinel, .data, .widerDeep, .widerDeep, .data, .widerDeep, .pinned], laidTests := true, laidLooks := .later }
def TopStartUptoCardSaid : Prop := Claim7.holds Tryz.pinned (.plain (OpenSpec.upto topStartSpec)) topStartUptoCard

/-- THE SECOND FORM's CARD OF 'kalendstop.TopMonthdays'. -/
def topMonthdaysUptoCard : Claim7 := { stood := { row := topMonthdaysUptoRow, standIns := [], harness := (true, "73026c3739fcf025a7c66b6aa3b86feff019c4fcc6f8e91f50dd8323dbe96008"), looks := true }, kinds := [], alts := [], laidByText := true, laidKinds := [.data, .data, .data, .data, .sentinel, .sentinel, .data, .widerDeep, .widerDeep, .data, .widerDeep, .pinned], laidTests := true, laidLooks := .later }
def TopMonthdaysUptoCardSaid : Prop := Claim7.holds Tryz.pinned (.plain (OpenSpec.upto topMonthdaysSpec)) topMonthdaysUptoCard
end Rows
end Go.Proofs.YtjhnpcnamclfbaaGreatDoor

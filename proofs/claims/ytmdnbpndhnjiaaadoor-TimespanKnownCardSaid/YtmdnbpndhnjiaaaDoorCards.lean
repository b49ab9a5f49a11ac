/-
  DERIVED. GIVEN WITH THE SEED: THE CARDS: each row of YtmdnbpndhnjiaaaDoorRows.lean that lists a variable, with what it lists TIED to the program's text (the seventh form; the later family's looks); each row that meets fmt, with fmt's text TOLD by the authors' own Lean function (tested against real Go, not proved from fmt's source: count such statements apart). THE CARD IS WHAT COUNTS. Prove the row's statement (the work); the ties are given (YtmdnbpndhnjiaaaDoorTie.lean); close each card by the builder's one call (the guide's Derived/Test/ToyasCard.lean, 'card_holds'). Laid BY PROGRAM, IN A SANDBOX (cutbox-door.mjs). By AI agents, Wed Nov 11 2026. No macro, syntax, notation, axiom, sorry.
-/
import Derived.Test.YtmdnbpndhnjiaaaDoorRows
import GoSem.ClaimSeven
namespace Go.Proofs.YtmdnbpndhnjiaaaDoor
namespace Rows

/-- THE TIED CARD OF 'clepsydralaw02.TimespanParse'. -/
def timespanParseCard : Claim7 := { stood := { row := timespanParseRow, standIns := [], harness := (true, "263ebe7913285c126becff09b37140ec270925a6d74306f8ae562f17a7ae5844"), looks := true }, kinds := [], alts := [], laidByText := true, laidKinds := [.data, .data, .data, .data, .sentinel, .sentinel, .pinned], laidTests := true, laidLooks := .later }
def TimespanParseCardSaid : Prop := Claim7.holds Tryd.pinned (.plain (OpenSpec.ofChange timespanParseSpec)) timespanParseCard

/-- THE TIED CARD OF 'clepsydralaw02.TimespanBack'. -/
def timespanBackCard : Claim7 := { stood := { row := timespanBackRow, standIns := [], harness := (true, "263ebe7913285c126becff09b37140ec270925a6d74306f8ae562f17a7ae5844"), looks := true }, kinds := [], alts := [], laidByText := true, laidKinds := [.data, .data, .data, .data, .sentinel, .sentinel, .pinned], laidTests := true, laidLooks := .later }
def TimespanBackCardSaid : Prop := Claim7.holds Tryd.pinned (.plain (OpenSpec.ofChange timespanBackSpec)) timespanBackCard

/-- THE TIED CARD OF 'clepsydralaw02.TimespanOrder'. -/
def timespanOrderCard : Claim7 := { stood := { row := timespanOrderRow, standIns := [], harness := (true, "263ebe7913285c126becff09b37140ec270925a6d74306f8ae562f17a7ae5844"), looks := true }, kinds := [], alts := [], laidByText := true, laidKinds := [.data, .data, .data, .data, .sentinel, .sentinel, .pinned], laidTests := true, laidLooks := .later }
def TimespanOrderCardSaid : Prop := Claim7.holds Tryd.pinned (.plain (OpenSpec.ofChange timespanOrderSpec)) timespanOrderCard

/-- THE TIED CARD OF 'clepsydralaw02.TimespanUnits'. -/
def timespanUnitsCard : Claim7 := { stood := { row := timespanUnitsRow, standIns := [], harness := (true, "263ebe7913285c126becff09b37140ec270925a6d74306f8ae562f17a7ae5844"), looks := true }, kinds := [], alts := [], laidByText := true, laidKinds := [.data, .data, .data, .data, .sentinel, .sentinel, .pinned], laidTests := true, laidLooks := .later }
def TimespanUnitsCardSaid : Prop := Claim7.holds Tryd.pinned (.plain (OpenSpec.ofChange timespanUnitsSpec)) timespanUnitsCard

/-- THE TIED CARD OF 'clepsydralaw02.TimespanKnown'. -/
def timespanKnownCard : Claim7 := { stood := { row := timespanKnownRow, standIns := [], harness := (true, "263ebe7913285c126becff09b37140ec270925a6d74306f8ae562f17a7ae5844"), looks := true }, kinds := [], alts := [], laidByText := true, laidKinds := [.data, .data, .data, .data, .sentinel, .sentinel, .pinned], laidTests := true, laidLooks := .later }
def TimespanKnownCardSaid : Prop := Claim7.holds Tryd.pinned (.plain (OpenSpec.ofChange timespanKnownSpec)) timespanKnownCard

/-- THE TIED CARD OF 'clepsydralaw02.TimespanSums'. -/
def timespanSumsCard : Claim7 := { stood := { row := timespanSumsRow, standIns := [], harness := (true, "263ebe7913285c126becff09b37140ec270925a6d74306f8ae562f17a7ae5844"), looks := true }, kinds := [], alts := [], laidByText := true, laidKinds := [.data, .data, .data, .data, .sentinel, .sentinel, .pinned], laidTests := true, laidLooks := .later }
def TimespanSumsCardSaid : Prop := Claim7.holds Tryd.pinned (.plain (OpenSpec.ofChange timespanSumsSpec)) timespanSumsCard

/-- THE SECOND FORM's CARD OF 'clepsydralaw02.TimespanParse'. -/
def timespanParseUptoCard : Claim7 := { stood := { row := timespanParseUptoRow, standIns := [], harness := (true, "263ebe7913285c126becff09b37140ec270925a6d74306f8ae562f17a7ae5844"), looks := true }, kinds := [], alts := [], laidByText := true, laidKinds := [.data, .data, .data, .data, .sentinel, .sentinel, .pinned], laidTests := true, laidLooks := .later }
def TimespanParseUptoCardSaid : Prop := Claim7.holds Tryd.pinned (.plain (OpenSpec.upto timespanParseSpec)) timespanParseUptoCard

/-- THE SECOND FORM's CARD OF 'clepsydralaw02.TimespanBack'. -/
def timespanBackUptoCard : Claim7 := { stood := { row := timespanBackUptoRow, standIns := [], harness := (true, "263ebe7913285c126becff09b37140ec270925a6d74306f8ae562f17a7ae5844"), looks := true }, kinds := [], alts := [], laidByText := true, laidKinds := [.data, .data, .data, .data, .sentinel, .sentinel, .pinned], laidTests := true, laidLooks := .later }
def TimespanBackUptoCardSaid : Prop := Claim7.holds Tryd.pinned (.plain (OpenSpec.upto timespanBackSpec)) timespanBackUptoCard

/-- THE SECOND FORM's CARD OF 'clepsydralaw02.TimespanOrder'. -/
def timespanOrderUptoCard : Claim7 := { stood := { row := timespanOrderUptoRow, standIns := [], harness := (true, "263ebe7913285c126becff09b37140ec270925a6d74306f8ae562f17a7ae5844"), looks := true }, kinds := [], alts := [], laidByText := true, laidKinds := [.data, .data, .data, .data, .sentinel, .sentinel, .pinned], laidTests := true, laidLooks := .later }
def TimespanOrderUptoCardSaid : Prop := Claim7.holds Tryd.pinned (.plain (OpenSpec.upto timespanOrderSpec)) timespanOrderUptoCard

/-- THE SECOND FORM's CARD OF 'clepsydralaw02.TimespanUnits'. -/
def timespanUnitsUptoCard : Claim7 := { stood := { row := timespanUnitsUptoRow, standIns := [], harness := (true, "263ebe7913285c126becff09b37140ec270925a6d74306f8ae562f17a7ae5844"), looks := true }, kinds := [], alts := [], laidByText := true, laidKinds := [.data, .data, .data, .data, .sentinel, .sentinel, .pinned], laidTests := true, laidLooks := .later }
def TimespanUnitsUptoCardSaid : Prop := Claim7.holds Tryd.pinned (.plain (OpenSpec.upto timespanUnitsSpec)) timespanUnitsUptoCard

/-- THE SECOND FORM's CARD OF 'clepsydralaw02.TimespanKnown'. -/
def timespanKnownUptoCard : Claim7 := { stood := { row := timespanKnownUptoRow, standIns := [], harness := (true, "263ebe7913285c126becff09b37140ec270925a6d74306f8ae562f17a7ae5844"), looks := true }, kinds := [], alts := [], laidByText := true, laidKinds := [.data, .data, .data, .data, .sentinel, .sentinel, .pinned], laidTests := true, laidLooks := .later }
def TimespanKnownUptoCardSaid : Prop := Claim7.holds Tryd.pinned (.plain (OpenSpec.upto timespanKnownSpec)) timespanKnownUptoCard

/-- THE SECOND FORM's CARD OF 'clepsydralaw02.TimespanSums'. -/
def timespanSumsUptoCard : Claim7 := { stood := { row := timespanSumsUptoRow, standIns := [], harness := (true, "263ebe7913285c126becff09b37140ec270925a6d74306f8ae562f17a7ae5844"), looks := true }, kinds := [], alts := [], laidByText := true, laidKinds := [.data, .data, .data, .data, .sentinel, .sentinel, .pinned], laidTests := true, laidLooks := .later }
def TimespanSumsUptoCardSaid : Prop := Claim7.holds Tryd.pinned (.plain (OpenSpec.upto timespanSumsSpec)) timespanSumsUptoCard
end Rows
end Go.Proofs.YtmdnbpndhnjiaaaDoor

/-
  DERIVED. GIVEN WITH THE SEED: THE CARDS: each row of YtpooncihlnllnaaGreatDoorRows.lean that lists a variable, with what it lists TIED to the program's text (the seventh form; the later family's looks); each row that meets fmt, with fmt's text TOLD by the authors' own Lean function (tested against real Go, not proved from fmt's source: count such statements apart). THE CARD IS WHAT COUNTS. Prove the row's statement (the work); the ties are given (YtpooncihlnllnaaGreatDoorTie.lean); close each card by the builder's one call (the guide's Derived/Test/ToyasCard.lean, 'card_holds'). Laid BY PROGRAM, IN A SANDBOX (cutbox-door.mjs). By AI agents, Wed Nov 11 2026. No macro, syntax, notation, axiom, sorry.
-/
import Derived.Test.YtpooncihlnllnaaGreatDoorRows
import GoSem.ClaimSeven
namespace Go.Proofs.YtpooncihlnllnaaGreatDoor
namespace Rows

/-- THE TIED CARD OF 'clepsydralaw07.FooterKnown'. -/
def footerKnownCard : Claim7 := { stood := { row := footerKnownRow, standIns := [], harness := (true, "bc51626ccdb96795380a8ae200694443e526102720129b97103fb421475f9dbe"), looks := true }, kinds := [], alts := [], laidByText := true, laidKinds := [.data, .data, .data, .sentinel, .sentinel], laidTests := true, laidLooks := .later }
def FooterKnownCardSaid : Prop := Claim7.holds Tryz.pinned (.plain (OpenSpec.ofChange footerKnownSpec)) footerKnownCard

/-- THE SECOND FORM's CARD OF 'clepsydralaw07.FooterKnown'. -/
def footerKnownUptoCard : Claim7 := { stood := { row := footerKnownUptoRow, standIns := [], harness := (true, "bc51626ccdb96795380a8ae200694443e526102720129b97103fb421475f9dbe"), looks := true }, kinds := [], alts := [], laidByText := true, laidKinds := [.data, .data, .data, .sentinel, .sentinel], laidTests := true, laidLooks := .later }
def FooterKnownUptoCardSaid : Prop := Claim7.holds Tryz.pinned (.plain (OpenSpec.upto footerKnownSpec)) footerKnownUptoCard
end Rows
end Go.Proofs.YtpooncihlnllnaaGreatDoor

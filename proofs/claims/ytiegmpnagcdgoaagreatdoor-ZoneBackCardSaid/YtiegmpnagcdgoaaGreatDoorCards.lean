/-
  DERIVED. GIVEN WITH THE SEED: THE CARDS: each row of YtiegmpnagcdgoaaGreatDoorRows.lean that lists a variable, with what it lists TIED to the program's text (the seventh form; the later family's looks); each row that meets fmt, with fmt's text TOLD by the authors' own Lean function (tested against real Go, not proved from fmt's source: count such statements apart). THE CARD IS WHAT COUNTS. Prove the row's statement (the work); the ties are given (YtiegmpnagcdgoaaGreatDoorTie.lean); close each card by the builder's one call (the guide's Derived/Test/ToyasCard.lean, 'card_holds'). Laid BY PROGRAM, IN A SANDBOX (cutbox-door.mjs). By AI agents, Wed Nov 11 2026. No macro, syntax, notation, axiom, sorry.
-/
import Derived.Test.YtiegmpnagcdgoaaGreatDoorRows
import GoSem.ClaimSeven
namespace Go.Proofs.YtiegmpnagcdgoaaGreatDoor
namespace Rows

/-- THE TIED CARD OF 'clepsydralaw08.ZoneLocal'. -/
def zoneLocalCard : Claim7 := { stood := { row := zoneLocalRow, standIns := [], harness := (true, "c2ce07131f658996ff9c9a8923c48a8c048cd5758d082637264aea011cea3b75"), looks := true }, kinds := [], alts := [], laidByText := true, laidKinds := [.data, .data, .data, .sentinel, .sentinel], laidTests := true, laidLooks := .later }
def ZoneLocalCardSaid : Prop := Claim7.holds Tryz.pinned (.plain (OpenSpec.ofChange zoneLocalSpec)) zoneLocalCard

/-- THE TIED CARD OF 'clepsydralaw08.ZoneInstants'. -/
def zoneInstantsCard : Claim7 := { stood := { row := zoneInstantsRow, standIns := [], harness := (true, "c2ce07131f658996ff9c9a8923c48a8c048cd5758d082637264aea011cea3b75"), looks := true }, kinds := [], alts := [], laidByText := true, laidKinds := [.data, .data, .data, .sentinel, .sentinel], laidTests := true, laidLooks := .later }
def ZoneInstantsCardSaid : Prop := Claim7.holds Tryz.pinned (.plain (OpenSpec.ofChange zoneInstantsSpec)) zoneInstantsCard

/-- THE TIED CARD OF 'clepsydralaw08.ZoneBack'. -/
def zoneBackCard : Claim7 := { stood := { row := zoneBackRow, standIns := [], harness := (true, "c2ce07131f658996ff9c9a8923c48a8c048cd5758d082637264aea011cea3b75"), looks := true }, kinds := [], alts := [], laidByText := true, laidKinds := [.data, .data, .data, .sentinel, .sentinel], laidTests := true, laidLooks := .later }
def ZoneBackCardSaid : Prop := Claim7.holds Tryz.pinned (.plain (OpenSpec.ofChange zoneBackSpec)) zoneBackCard

/-- THE TIED CARD OF 'clepsydralaw08.ZoneChanges'. -/
def zoneChangesCard : Claim7 := { stood := { row := zoneChangesRow, standIns := [], harness := (true, "c2ce07131f658996ff9c9a8923c48a8c048cd5758d082637264aea011cea3b75"), looks := true }, kinds := [], alts := [], laidByText := true, laidKinds := [.data, .data, .data, .sentinel, .sentinel], laidTests := true, laidLooks := .later }
def ZoneChangesCardSaid : Prop := Claim7.holds Tryz.pinned (.plain (OpenSpec.ofChange zoneChangesSpec)) zoneChangesCard

/-- THE TIED CARD OF 'clepsydralaw08.ZoneNew'. -/
def zoneNewCard : Claim7 := { stood := { row := zoneNewRow, standIns := [], harness := (true, "c2ce07131f658996ff9c9a8923c48a8c048cd5758d082637264aea011cea3b75"), looks := true }, kinds := [], alts := [], laidByText := true, laidKinds := [.data, .data, .data, .sentinel, .sentinel], laidTests := true, laidLooks := .later }
def ZoneNewCardSaid : Prop := Claim7.holds Tryz.pinned (.plain (OpenSpec.ofChange zoneNewSpec)) zoneNewCard

/-- THE TIED CARD OF 'clepsydralaw08.ZoneKnown'. -/
def zoneKnownCard : Claim7 := { stood := { row := zoneKnownRow, standIns := [], harness := (true, "c2ce07131f658996ff9c9a8923c48a8c048cd5758d082637264aea011cea3b75"), looks := true }, kinds := [], alts := [], laidByText := true, laidKinds := [.data, .data, .data, .sentinel, .sentinel], laidTests := true, laidLooks := .later }
def ZoneKnownCardSaid : Prop := Claim7.holds Tryz.pinned (.plain (OpenSpec.ofChange zoneKnownSpec)) zoneKnownCard

/-- THE SECOND FORM's CARD OF 'clepsydralaw08.ZoneLocal'. -/
def zoneLocalUptoCard : Claim7 := { stood := { row := zoneLocalUptoRow, standIns := [], harness := (true, "c2ce07131f658996ff9c9a8923c48a8c048cd5758d082637264aea011cea3b75"), looks := true }, kinds := [], alts := [], laidByText := true, laidKinds := [.data, .data, .data, .sentinel, .sentinel], laidTests := true, laidLooks := .later }
def ZoneLocalUptoCardSaid : Prop := Claim7.holds Tryz.pinned (.plain (OpenSpec.upto zoneLocalSpec)) zoneLocalUptoCard

/-- THE SECOND FORM's CARD OF 'clepsydralaw08.ZoneInstants'. -/
def zoneInstantsUptoCard : Claim7 := { stood := { row := zoneInstantsUptoRow, standIns := [], harness := (true, "c2ce07131f658996ff9c9a8923c48a8c048cd5758d082637264aea011cea3b75"), looks := true }, kinds := [], alts := [], laidByText := true, laidKinds := [.data, .data, .data, .sentinel, .sentinel], laidTests := true, laidLooks := .later }
def ZoneInstantsUptoCardSaid : Prop := Claim7.holds Tryz.pinned (.plain (OpenSpec.upto zoneInstantsSpec)) zoneInstantsUptoCard

/-- THE SECOND FORM's CARD OF 'clepsydralaw08.ZoneBack'. -/
def zoneBackUptoCard : Claim7 := { stood := { row := zoneBackUptoRow, standIns := [], harness := (true, "c2ce07131f658996ff9c9a8923c48a8c048cd5758d082637264aea011cea3b75"), looks := true }, kinds := [], alts := [], laidByText := true, laidKinds := [.data, .data, .data, .sentinel, .sentinel], laidTests := true, laidLooks := .later }
def ZoneBackUptoCardSaid : Prop := Claim7.holds Tryz.pinned (.plain (OpenSpec.upto zoneBackSpec)) zoneBackUptoCard

/-- THE SECOND FORM's CARD OF 'clepsydralaw08.ZoneChanges'. -/
def zoneChangesUptoCard : Claim7 := { stood := { row := zoneChangesUptoRow, standIns := [], harness := (true, "c2ce07131f658996ff9c9a8923c48a8c048cd5758d082637264aea011cea3b75"), looks := true }, kinds := [], alts := [], laidByText := true, laidKinds := [.data, .data, .data, .sentinel, .sentinel], laidTests := true, laidLooks := .later }
def ZoneChangesUptoCardSaid : Prop := Claim7.holds Tryz.pinned (.plain (OpenSpec.upto zoneChangesSpec)) zoneChangesUptoCard

/-- THE SECOND FORM's CARD OF 'clepsydralaw08.ZoneNew'. -/
def zoneNewUptoCard : Claim7 := { stood := { row := zoneNewUptoRow, standIns := [], harness := (true, "c2ce07131f658996ff9c9a8923c48a8c048cd5758d082637264aea011cea3b75"), looks := true }, kinds := [], alts := [], laidByText := true, laidKinds := [.data, .data, .data, .sentinel, .sentinel], laidTests := true, laidLooks := .later }
def ZoneNewUptoCardSaid : Prop := Claim7.holds Tryz.pinned (.plain (OpenSpec.upto zoneNewSpec)) zoneNewUptoCard

/-- THE SECOND FORM's CARD OF 'clepsydralaw08.ZoneKnown'. -/
def zoneKnownUptoCard : Claim7 := { stood := { row := zoneKnownUptoRow, standIns := [], harness := (true, "c2ce07131f658996ff9c9a8923c48a8c048cd5758d082637264aea011cea3b75"), looks := true }, kinds := [], alts := [], laidByText := true, laidKinds := [.data, .data, .data, .sentinel, .sentinel], laidTests := true, laidLooks := .later }
def ZoneKnownUptoCardSaid : Prop := Claim7.holds Tryz.pinned (.plain (OpenSpec.upto zoneKnownSpec)) zoneKnownUptoCard
end Rows
end Go.Proofs.YtiegmpnagcdgoaaGreatDoor

/-
  DERIVED. GIVEN WITH THE SEED: THE CARDS: each row of YtcbgfjghebopoaaDoorRows.lean that lists a variable, with what it lists TIED to the program's text (the seventh form; the later family's looks); each row that meets fmt, with fmt's text TOLD by the authors' own Lean function (tested against real Go, not proved from fmt's source: count such statements apart). THE CARD IS WHAT COUNTS. Prove the row's statement (the work); the ties are given (YtcbgfjghebopoaaDoorTie.lean); close each card by the builder's one call (the guide's Derived/Test/ToyasCard.lean, 'card_holds'). Laid BY PROGRAM, IN A SANDBOX (cutbox-door.mjs). By AI agents, Wed Nov 11 2026. No macro, syntax, notation, axiom, sorry.
-/
import Derived.Test.YtcbgfjghebopoaaDoorRows
import GoSem.ClaimSeven
namespace Go.Proofs.YtcbgfjghebopoaaDoor
namespace Rows

/-- THE TIED CARD OF 'clepsydralaw06.TzifMore'. -/
def tzifMoreCard : Claim7 := { stood := { row := tzifMoreRow, standIns := [], harness := (true, "b3e90dac38678314f1a833b6699d59e507d40143017c13edda2e5f4355dc4dac"), looks := false }, kinds := [], alts := [], laidByText := true, laidKinds := [.sentinel], laidTests := true, laidLooks := .later }
def TzifMoreCardSaid : Prop := Claim7.holds Tryd.pinned (.plain (OpenSpec.ofChange tzifMoreSpec)) tzifMoreCard

/-- THE TIED CARD OF 'clepsydralaw06.TzifPuts'. -/
def tzifPutsCard : Claim7 := { stood := { row := tzifPutsRow, standIns := [], harness := (true, "b3e90dac38678314f1a833b6699d59e507d40143017c13edda2e5f4355dc4dac"), looks := false }, kinds := [], alts := [], laidByText := true, laidKinds := [.sentinel], laidTests := true, laidLooks := .later }
def TzifPutsCardSaid : Prop := Claim7.holds Tryd.pinned (.plain (OpenSpec.ofChange tzifPutsSpec)) tzifPutsCard

/-- THE TIED CARD OF 'clepsydralaw06.TzifBack'. -/
def tzifBackCard : Claim7 := { stood := { row := tzifBackRow, standIns := [], harness := (true, "b3e90dac38678314f1a833b6699d59e507d40143017c13edda2e5f4355dc4dac"), looks := false }, kinds := [], alts := [], laidByText := true, laidKinds := [.sentinel], laidTests := true, laidLooks := .later }
def TzifBackCardSaid : Prop := Claim7.holds Tryd.pinned (.plain (OpenSpec.ofChange tzifBackSpec)) tzifBackCard

/-- THE TIED CARD OF 'clepsydralaw06.TzifOld'. -/
def tzifOldCard : Claim7 := { stood := { row := tzifOldRow, standIns := [], harness := (true, "b3e90dac38678314f1a833b6699d59e507d40143017c13edda2e5f4355dc4dac"), looks := false }, kinds := [], alts := [], laidByText := true, laidKinds := [.sentinel], laidTests := true, laidLooks := .later }
def TzifOldCardSaid : Prop := Claim7.holds Tryd.pinned (.plain (OpenSpec.ofChange tzifOldSpec)) tzifOldCard

/-- THE TIED CARD OF 'clepsydralaw06.TzifKnown'. -/
def tzifKnownCard : Claim7 := { stood := { row := tzifKnownRow, standIns := [], harness := (true, "b3e90dac38678314f1a833b6699d59e507d40143017c13edda2e5f4355dc4dac"), looks := false }, kinds := [], alts := [], laidByText := true, laidKinds := [.sentinel], laidTests := true, laidLooks := .later }
def TzifKnownCardSaid : Prop := Claim7.holds Tryd.pinned (.plain (OpenSpec.ofChange tzifKnownSpec)) tzifKnownCard

/-- THE SECOND FORM's CARD OF 'clepsydralaw06.TzifMore'. -/
def tzifMoreUptoCard : Claim7 := { stood := { row := tzifMoreUptoRow, standIns := [], harness := (true, "b3e90dac38678314f1a833b6699d59e507d40143017c13edda2e5f4355dc4dac"), looks := false }, kinds := [], alts := [], laidByText := true, laidKinds := [.sentinel], laidTests := true, laidLooks := .later }
def TzifMoreUptoCardSaid : Prop := Claim7.holds Tryd.pinned (.plain (OpenSpec.upto tzifMoreSpec)) tzifMoreUptoCard

/-- THE SECOND FORM's CARD OF 'clepsydralaw06.TzifPuts'. -/
def tzifPutsUptoCard : Claim7 := { stood := { row := tzifPutsUptoRow, standIns := [], harness := (true, "b3e90dac38678314f1a833b6699d59e507d40143017c13edda2e5f4355dc4dac"), looks := false }, kinds := [], alts := [], laidByText := true, laidKinds := [.sentinel], laidTests := true, laidLooks := .later }
def TzifPutsUptoCardSaid : Prop := Claim7.holds Tryd.pinned (.plain (OpenSpec.upto tzifPutsSpec)) tzifPutsUptoCard

/-- THE SECOND FORM's CARD OF 'clepsydralaw06.TzifBack'. -/
def tzifBackUptoCard : Claim7 := { stood := { row := tzifBackUptoRow, standIns := [], harness := (true, "b3e90dac38678314f1a833b6699d59e507d40143017c13edda2e5f4355dc4dac"), looks := false }, kinds := [], alts := [], laidByText := true, laidKinds := [.sentinel], laidTests := true, laidLooks := .later }
def TzifBackUptoCardSaid : Prop := Claim7.holds Tryd.pinned (.plain (OpenSpec.upto tzifBackSpec)) tzifBackUptoCard

/-- THE SECOND FORM's CARD OF 'clepsydralaw06.TzifOld'. -/
def tzifOldUptoCard : Claim7 := { stood := { row := tzifOldUptoRow, standIns := [], harness := (true, "b3e90dac38678314f1a833b6699d59e507d40143017c13edda2e5f4355dc4dac"), looks := false }, kinds := [], alts := [], laidByText := true, laidKinds := [.sentinel], laidTests := true, laidLooks := .later }
def TzifOldUptoCardSaid : Prop := Claim7.holds Tryd.pinned (.plain (OpenSpec.upto tzifOldSpec)) tzifOldUptoCard

/-- THE SECOND FORM's CARD OF 'clepsydralaw06.TzifKnown'. -/
def tzifKnownUptoCard : Claim7 := { stood := { row := tzifKnownUptoRow, standIns := [], harness := (true, "b3e90dac38678314f1a833b6699d59e507d40143017c13edda2e5f4355dc4dac"), looks := false }, kinds := [], alts := [], laidByText := true, laidKinds := [.sentinel], laidTests := true, laidLooks := .later }
def TzifKnownUptoCardSaid : Prop := Claim7.holds Tryd.pinned (.plain (OpenSpec.upto tzifKnownSpec)) tzifKnownUptoCard
end Rows
end Go.Proofs.YtcbgfjghebopoaaDoor

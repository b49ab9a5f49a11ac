/-
  DERIVED. GIVEN WITH THE SEED: THE CARDS: each row of YtgcjkimkoppocaaDoorRows.lean that lists a variable, with what it lists TIED to the program's text (the seventh form; the later family's looks); each row that meets fmt, with fmt's text TOLD by the authors' own Lean function (tested against real Go, not proved from fmt's source: count such statements apart). THE CARD IS WHAT COUNTS. Prove the row's statement (the work); the ties are given (YtgcjkimkoppocaaDoorTie.lean); close each card by the builder's one call (the guide's Derived/Test/ToyasCard.lean, 'card_holds'). Laid BY PROGRAM, IN A SANDBOX (cutbox-door.mjs). By AI agents, Wed Nov 11 2026. No macro, syntax, notation, axiom, sorry.
-/
import Derived.Test.YtgcjkimkoppocaaDoorRows
import GoSem.ClaimSeven
namespace Go.Proofs.YtgcjkimkoppocaaDoor
namespace Rows

/-- THE TIED CARD OF 'clepsydralaw12.WordsSplit'. -/
def wordsSplitCard : Claim7 := { stood := { row := wordsSplitRow, standIns := [], harness := (true, "d6e6e61ade01992719e03eedd9bf133ab1166fac4bab9459fd18be7234d3b9ff"), looks := false }, kinds := [], alts := [], laidByText := true, laidKinds := [.data, .pinned], laidTests := true, laidLooks := .later }
def WordsSplitCardSaid : Prop := Claim7.holds Tryd.pinned (.plain (OpenSpec.ofChange wordsSplitSpec)) wordsSplitCard

/-- THE TIED CARD OF 'clepsydralaw12.WordsBack'. -/
def wordsBackCard : Claim7 := { stood := { row := wordsBackRow, standIns := [], harness := (true, "d6e6e61ade01992719e03eedd9bf133ab1166fac4bab9459fd18be7234d3b9ff"), looks := false }, kinds := [], alts := [], laidByText := true, laidKinds := [.data, .pinned], laidTests := true, laidLooks := .later }
def WordsBackCardSaid : Prop := Claim7.holds Tryd.pinned (.plain (OpenSpec.ofChange wordsBackSpec)) wordsBackCard

/-- THE TIED CARD OF 'clepsydralaw12.WordsMore'. -/
def wordsMoreCard : Claim7 := { stood := { row := wordsMoreRow, standIns := [], harness := (true, "d6e6e61ade01992719e03eedd9bf133ab1166fac4bab9459fd18be7234d3b9ff"), looks := false }, kinds := [], alts := [], laidByText := true, laidKinds := [.data, .pinned], laidTests := true, laidLooks := .later }
def WordsMoreCardSaid : Prop := Claim7.holds Tryd.pinned (.plain (OpenSpec.ofChange wordsMoreSpec)) wordsMoreCard

/-- THE TIED CARD OF 'clepsydralaw12.WordsPlain'. -/
def wordsPlainCard : Claim7 := { stood := { row := wordsPlainRow, standIns := [], harness := (true, "d6e6e61ade01992719e03eedd9bf133ab1166fac4bab9459fd18be7234d3b9ff"), looks := false }, kinds := [], alts := [], laidByText := true, laidKinds := [.data, .pinned], laidTests := true, laidLooks := .later }
def WordsPlainCardSaid : Prop := Claim7.holds Tryd.pinned (.plain (OpenSpec.ofChange wordsPlainSpec)) wordsPlainCard

/-- THE TIED CARD OF 'clepsydralaw12.WordsKnown'. -/
def wordsKnownCard : Claim7 := { stood := { row := wordsKnownRow, standIns := [], harness := (true, "d6e6e61ade01992719e03eedd9bf133ab1166fac4bab9459fd18be7234d3b9ff"), looks := false }, kinds := [], alts := [], laidByText := true, laidKinds := [.data, .pinned], laidTests := true, laidLooks := .later }
def WordsKnownCardSaid : Prop := Claim7.holds Tryd.pinned (.plain (OpenSpec.ofChange wordsKnownSpec)) wordsKnownCard

/-- THE TIED CARD OF 'clepsydralaw12.WordsQuoted'. -/
def wordsQuotedCard : Claim7 := { stood := { row := wordsQuotedRow, standIns := [], harness := (true, "d6e6e61ade01992719e03eedd9bf133ab1166fac4bab9459fd18be7234d3b9ff"), looks := false }, kinds := [], alts := [], laidByText := true, laidKinds := [.data, .pinned], laidTests := true, laidLooks := .later }
def WordsQuotedCardSaid : Prop := Claim7.holds Tryd.pinned (.plain (OpenSpec.ofChange wordsQuotedSpec)) wordsQuotedCard

/-- THE SECOND FORM's CARD OF 'clepsydralaw12.WordsSplit'. -/
def wordsSplitUptoCard : Claim7 := { stood := { row := wordsSplitUptoRow, standIns := [], harness := (true, "d6e6e61ade01992719e03eedd9bf133ab1166fac4bab9459fd18be7234d3b9ff"), looks := false }, kinds := [], alts := [], laidByText := true, laidKinds := [.data, .pinned], laidTests := true, laidLooks := .later }
def WordsSplitUptoCardSaid : Prop := Claim7.holds Tryd.pinned (.plain (OpenSpec.upto wordsSplitSpec)) wordsSplitUptoCard

/-- THE SECOND FORM's CARD OF 'clepsydralaw12.WordsBack'. -/
def wordsBackUptoCard : Claim7 := { stood := { row := wordsBackUptoRow, standIns := [], harness := (true, "d6e6e61ade01992719e03eedd9bf133ab1166fac4bab9459fd18be7234d3b9ff"), looks := false }, kinds := [], alts := [], laidByText := true, laidKinds := [.data, .pinned], laidTests := true, laidLooks := .later }
def WordsBackUptoCardSaid : Prop := Claim7.holds Tryd.pinned (.plain (OpenSpec.upto wordsBackSpec)) wordsBackUptoCard

/-- THE SECOND FORM's CARD OF 'clepsydralaw12.WordsMore'. -/
def wordsMoreUptoCard : Claim7 := { stood := { row := wordsMoreUptoRow, standIns := [], harness := (true, "d6e6e61ade01992719e03eedd9bf133ab1166fac4bab9459fd18be7234d3b9ff"), looks := false }, kinds := [], alts := [], laidByText := true, laidKinds := [.data, .pinned], laidTests := true, laidLooks := .later }
def WordsMoreUptoCardSaid : Prop := Claim7.holds Tryd.pinned (.plain (OpenSpec.upto wordsMoreSpec)) wordsMoreUptoCard

/-- THE SECOND FORM's CARD OF 'clepsydralaw12.WordsPlain'. -/
def wordsPlainUptoCard : Claim7 := { stood := { row := wordsPlainUptoRow, standIns := [], harness := (true, "d6e6e61ade01992719e03eedd9bf133ab1166fac4bab9459fd18be7234d3b9ff"), looks := false }, kinds := [], alts := [], laidByText := true, laidKinds := [.data, .pinned], laidTests := true, laidLooks := .later }
def WordsPlainUptoCardSaid : Prop := Claim7.holds Tryd.pinned (.plain (OpenSpec.upto wordsPlainSpec)) wordsPlainUptoCard

/-- THE SECOND FORM's CARD OF 'clepsydralaw12.WordsKnown'. -/
def wordsKnownUptoCard : Claim7 := { stood := { row := wordsKnownUptoRow, standIns := [], harness := (true, "d6e6e61ade01992719e03eedd9bf133ab1166fac4bab9459fd18be7234d3b9ff"), looks := false }, kinds := [], alts := [], laidByText := true, laidKinds := [.data, .pinned], laidTests := true, laidLooks := .later }
def WordsKnownUptoCardSaid : Prop := Claim7.holds Tryd.pinned (.plain (OpenSpec.upto wordsKnownSpec)) wordsKnownUptoCard

/-- THE SECOND FORM's CARD OF 'clepsydralaw12.WordsQuoted'. -/
def wordsQuotedUptoCard : Claim7 := { stood := { row := wordsQuotedUptoRow, standIns := [], harness := (true, "d6e6e61ade01992719e03eedd9bf133ab1166fac4bab9459fd18be7234d3b9ff"), looks := false }, kinds := [], alts := [], laidByText := true, laidKinds := [.data, .pinned], laidTests := true, laidLooks := .later }
def WordsQuotedUptoCardSaid : Prop := Claim7.holds Tryd.pinned (.plain (OpenSpec.upto wordsQuotedSpec)) wordsQuotedUptoCard
end Rows
end Go.Proofs.YtgcjkimkoppocaaDoor

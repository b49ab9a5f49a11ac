/-
  NARROWER THAN 'FOR EVERY INPUT', by the rows' own cells (each row's printed sentence says how): TzifMore: laid · TzifPuts: laid · TzifBack: laid · TzifOld: laid · TzifKnown: laid.
  DERIVED. THE GIVEN ROWS OF THIS SEAT. 5 by the template 'for every input the law returns true; each argument reads behind the call as it read before'; 0 by the template 'total and deterministic' (their statements: YtcbgfjghebopoaaDoorTotals.lean).
  GIVEN WITH THE SEED: the statements are not yours to turn. If you find one false, say at which input.
  Laid BY PROGRAM, IN A SANDBOX (cutbox-rows.mjs): the forced cells as the released guide's own fill.sh prints them over the translation 99a6f266dbd68740… (all of the seat's roots in one cut). By AI agents, Wed Nov 11 2026. No macro, syntax, notation, axiom, sorry.
-/
import Derived.Test.YtcbgfjghebopoaaDoorChecked
import GoSem.Claim
import GoSem.ClaimJoined
import GoSem.ClaimMapViews
import Derived.JoinedTies
import Derived.KernelRfl
namespace Go.Proofs.YtcbgfjghebopoaaDoor
/- THE CELL 'sum', in the pinned program and in every row, IS THE sha256 OF THE DUMP (.gsa) THAT YtcbgfjghebopoaaDoorProg.lean LOADS. Nothing in Lean hashes anything: it is a label: what it is worth is what the hold of that sum in a sandbox is worth. -/
noncomputable def Tryd.pinned : Pinned := { name := "ytcbgfjghebopoaadoor", sum := "99a6f266dbd687405c1451115729cb1ad2cf891ad36e36b223ef70c37e996417", checked := Tryd.checked }
namespace Rows
def none {H : Type} : Left H := { results := [], args := [] }

/- WHAT THE LISTED PACKAGE-LEVEL VARIABLES READ AS WHEN THE CALL BEGINS. Each datum BY PROGRAM (the guide's laid-datum.mjs) off the statement by which the dump's own 'gosem.cut.vars' lays the variable. In a bare row this is a premise. The card (YtcbgfjghebopoaaDoorCards.lean) ties it to the program's text. -/
def laid_bytes_ErrTooLarge {H : Type} : DataW H := .iface "*errors.errorString" (.ptr (.agg [.lit (.string [98, 121, 116, 101, 115, 46, 66, 117, 102, 102, 101, 114, 58, 32, 116, 111, 111, 32, 108, 97, 114, 103, 101])]))

/-- 'clepsydralaw06.TzifMore': WHATEVER THE INPUT: true; the input reads as it did. -/
def tzifMoreSpec : ChangeSpec := { name := "tzifMore", fn := fun _ => fun
  | [d1, d2, d3, d4] => { results := [.lit (.bool true)], args := [d1, d2, d3, d4] }
  | _ => none }
def tzifMoreRow : OpenClaim := { program := "ytcbgfjghebopoaadoor", sum := "99a6f266dbd687405c1451115729cb1ad2cf891ad36e36b223ef70c37e996417", func := "clepsydra/clepsydralaw06.TzifMore", spec := "tzifMore", inPlace := ["internal/bytealg.IndexByte", "internal/bytealg.Index"], unfollowed := true, recurses := true, named := ["bytes.ErrTooLarge", "internal/bytealg.MaxLen"], apart := false, laid := [("bytes.ErrTooLarge", laid_bytes_ErrTooLarge)] }
def TzifMoreSaid : Prop := tzifMoreRow.holds Tryd.pinned (OpenSpec.ofChange tzifMoreSpec)

/-- ITS FALSE NEIGHBOUR: 'it returns false'. Refute it at one input. -/
def tzifMoreWrong : ChangeSpec := { name := "tzifMore", fn := fun _ => fun
  | [d1, d2, d3, d4] => { results := [.lit (.bool false)], args := [d1, d2, d3, d4] }
  | _ => none }
def TzifMoreWrongFalsely : Prop := tzifMoreRow.holds Tryd.pinned (OpenSpec.ofChange tzifMoreWrong)

/-- 'clepsydralaw06.TzifPuts': WHATEVER THE INPUT: true; the input reads as it did. -/
def tzifPutsSpec : ChangeSpec := { name := "tzifPuts", fn := fun _ => fun
  | [d1, d2, d3] => { results := [.lit (.bool true)], args := [d1, d2, d3] }
  | _ => none }
def tzifPutsRow : OpenClaim := { program := "ytcbgfjghebopoaadoor", sum := "99a6f266dbd687405c1451115729cb1ad2cf891ad36e36b223ef70c37e996417", func := "clepsydra/clepsydralaw06.TzifPuts", spec := "tzifPuts", inPlace := ["internal/bytealg.IndexByte", "internal/bytealg.Index"], unfollowed := true, recurses := true, named := ["bytes.ErrTooLarge", "internal/bytealg.MaxLen"], apart := false, laid := [("bytes.ErrTooLarge", laid_bytes_ErrTooLarge)] }
def TzifPutsSaid : Prop := tzifPutsRow.holds Tryd.pinned (OpenSpec.ofChange tzifPutsSpec)

/-- ITS FALSE NEIGHBOUR: 'it returns false'. Refute it at one input. -/
def tzifPutsWrong : ChangeSpec := { name := "tzifPuts", fn := fun _ => fun
  | [d1, d2, d3] => { results := [.lit (.bool false)], args := [d1, d2, d3] }
  | _ => none }
def TzifPutsWrongFalsely : Prop := tzifPutsRow.holds Tryd.pinned (OpenSpec.ofChange tzifPutsWrong)

/-- 'clepsydralaw06.TzifBack': WHATEVER THE INPUT: true; the input reads as it did. -/
def tzifBackSpec : ChangeSpec := { name := "tzifBack", fn := fun _ => fun
  | [d1, d2] => { results := [.lit (.bool true)], args := [d1, d2] }
  | _ => none }
def tzifBackRow : OpenClaim := { program := "ytcbgfjghebopoaadoor", sum := "99a6f266dbd687405c1451115729cb1ad2cf891ad36e36b223ef70c37e996417", func := "clepsydra/clepsydralaw06.TzifBack", spec := "tzifBack", inPlace := ["internal/bytealg.IndexByte", "internal/bytealg.Index"], unfollowed := true, recurses := true, named := ["bytes.ErrTooLarge", "internal/bytealg.MaxLen"], apart := false, laid := [("bytes.ErrTooLarge", laid_bytes_ErrTooLarge)] }
def TzifBackSaid : Prop := tzifBackRow.holds Tryd.pinned (OpenSpec.ofChange tzifBackSpec)

/-- ITS FALSE NEIGHBOUR: 'it returns false'. Refute it at one input. -/
def tzifBackWrong : ChangeSpec := { name := "tzifBack", fn := fun _ => fun
  | [d1, d2] => { results := [.lit (.bool false)], args := [d1, d2] }
  | _ => none }
def TzifBackWrongFalsely : Prop := tzifBackRow.holds Tryd.pinned (OpenSpec.ofChange tzifBackWrong)

/-- 'clepsydralaw06.TzifOld': WHATEVER THE INPUT: true; the input reads as it did. -/
def tzifOldSpec : ChangeSpec := { name := "tzifOld", fn := fun _ => fun
  | [d1, d2, d3] => { results := [.lit (.bool true)], args := [d1, d2, d3] }
  | _ => none }
def tzifOldRow : OpenClaim := { program := "ytcbgfjghebopoaadoor", sum := "99a6f266dbd687405c1451115729cb1ad2cf891ad36e36b223ef70c37e996417", func := "clepsydra/clepsydralaw06.TzifOld", spec := "tzifOld", inPlace := ["internal/bytealg.IndexByte", "internal/bytealg.Index"], unfollowed := true, recurses := true, named := ["bytes.ErrTooLarge", "internal/bytealg.MaxLen"], apart := false, laid := [("bytes.ErrTooLarge", laid_bytes_ErrTooLarge)] }
def TzifOldSaid : Prop := tzifOldRow.holds Tryd.pinned (OpenSpec.ofChange tzifOldSpec)

/-- ITS FALSE NEIGHBOUR: 'it returns false'. Refute it at one input. -/
def tzifOldWrong : ChangeSpec := { name := "tzifOld", fn := fun _ => fun
  | [d1, d2, d3] => { results := [.lit (.bool false)], args := [d1, d2, d3] }
  | _ => none }
def TzifOldWrongFalsely : Prop := tzifOldRow.holds Tryd.pinned (OpenSpec.ofChange tzifOldWrong)

/-- 'clepsydralaw06.TzifKnown': WHATEVER THE INPUT: true; the input reads as it did. -/
def tzifKnownSpec : ChangeSpec := { name := "tzifKnown", fn := fun _ => fun
  | [] => { results := [.lit (.bool true)], args := [] }
  | _ => none }
def tzifKnownRow : OpenClaim := { program := "ytcbgfjghebopoaadoor", sum := "99a6f266dbd687405c1451115729cb1ad2cf891ad36e36b223ef70c37e996417", func := "clepsydra/clepsydralaw06.TzifKnown", spec := "tzifKnown", inPlace := ["internal/bytealg.IndexByte", "internal/bytealg.Index"], unfollowed := true, recurses := true, named := ["bytes.ErrTooLarge", "internal/bytealg.MaxLen"], apart := false, laid := [("bytes.ErrTooLarge", laid_bytes_ErrTooLarge)] }
def TzifKnownSaid : Prop := tzifKnownRow.holds Tryd.pinned (OpenSpec.ofChange tzifKnownSpec)

/-- ITS FALSE NEIGHBOUR: 'it returns false'. Refute it at one input. -/
def tzifKnownWrong : ChangeSpec := { name := "tzifKnown", fn := fun _ => fun
  | [] => { results := [.lit (.bool false)], args := [] }
  | _ => none }
def TzifKnownWrongFalsely : Prop := tzifKnownRow.holds Tryd.pinned (OpenSpec.ofChange tzifKnownWrong)

/- THE SECOND FORM. 'bulk': how many values and letters a reading holds, each counted each time it is reached (what is shared counts as often as it is met; a slice's spare places count too). A statement '..UptoSaid' is the law's where the arguments, and the package variables that the reading takes, are together of bulk at most 1048576: NARROWER than '..Said'. Prove '..Said' where nothing that the law and all that it calls make is longer than what came in: it says more and counts as full. Else prove '..UptoSaid'. A law counts once. -/
mutual
def uptoBulk {H : Type} : DataW H → Nat
  | .lit (.string bytes) => bytes.length + 1
  | .lit _ => 1
  | .nil => 1
  | .ptr d => uptoBulk d + 1
  | .slice elems spare => uptoBulkAll elems + uptoBulkAll spare + 1
  | .agg parts => uptoBulkAll parts + 1
  | .iface _ d => uptoBulk d + 1
  | .map entries => uptoBulkEntries entries + 1
  | .held _ => 1
def uptoBulkAll {H : Type} : List (DataW H) → Nat
  | [] => 0
  | d :: r => uptoBulk d + uptoBulkAll r
def uptoBulkEntries {H : Type} : List (Lit × DataW H) → Nat
  | [] => 0
  | x :: r => uptoBulkEntry x + uptoBulkEntries r
def uptoBulkEntry {H : Type} : Lit × DataW H → Nat
  | (.string bytes, d) => bytes.length + uptoBulk d + 1
  | (_, d) => uptoBulk d + 1
 end
def uptoSmall : (H : Type) → List (DataW H) → Bool := fun _ ds => decide (uptoBulkAll ds ≤ 1048576)
def OpenSpec.upto (s : _root_.Go.ChangeSpec) : _root_.Go.OpenSpec := { _root_.Go.OpenSpec.ofChange s with cond := some uptoSmall }

/-- 'clepsydralaw06.TzifMore', WHERE WHAT IT READS IS OF BULK AT MOST 1048576: true; the input reads as it did. -/
def tzifMoreUptoRow : OpenClaim := { program := "ytcbgfjghebopoaadoor", sum := "99a6f266dbd687405c1451115729cb1ad2cf891ad36e36b223ef70c37e996417", func := "clepsydra/clepsydralaw06.TzifMore", spec := "tzifMore", inPlace := ["internal/bytealg.IndexByte", "internal/bytealg.Index"], unfollowed := true, recurses := true, named := ["bytes.ErrTooLarge", "internal/bytealg.MaxLen"], apart := false, laid := [("bytes.ErrTooLarge", laid_bytes_ErrTooLarge)], narrowed := true }
def TzifMoreUptoSaid : Prop := tzifMoreUptoRow.holds Tryd.pinned (OpenSpec.upto tzifMoreSpec)

/-- 'clepsydralaw06.TzifPuts', WHERE WHAT IT READS IS OF BULK AT MOST 1048576: true; the input reads as it did. -/
def tzifPutsUptoRow : OpenClaim := { program := "ytcbgfjghebopoaadoor", sum := "99a6f266dbd687405c1451115729cb1ad2cf891ad36e36b223ef70c37e996417", func := "clepsydra/clepsydralaw06.TzifPuts", spec := "tzifPuts", inPlace := ["internal/bytealg.IndexByte", "internal/bytealg.Index"], unfollowed := true, recurses := true, named := ["bytes.ErrTooLarge", "internal/bytealg.MaxLen"], apart := false, laid := [("bytes.ErrTooLarge", laid_bytes_ErrTooLarge)], narrowed := true }
def TzifPutsUptoSaid : Prop := tzifPutsUptoRow.holds Tryd.pinned (OpenSpec.upto tzifPutsSpec)

/-- 'clepsydralaw06.TzifBack', WHERE WHAT IT READS IS OF BULK AT MOST 1048576: true; the input reads as it did. -/
def tzifBackUptoRow : OpenClaim := { program := "ytcbgfjghebopoaadoor", sum := "99a6f266dbd687405c1451115729cb1ad2cf891ad36e36b223ef70c37e996417", func := "clepsydra/clepsydralaw06.TzifBack", spec := "tzifBack", inPlace := ["internal/bytealg.IndexByte", "internal/bytealg.Index"], unfollowed := true, recurses := true, named := ["bytes.ErrTooLarge", "internal/bytealg.MaxLen"], apart := false, laid := [("bytes.ErrTooLarge", laid_bytes_ErrTooLarge)], narrowed := true }
def TzifBackUptoSaid : Prop := tzifBackUptoRow.holds Tryd.pinned (OpenSpec.upto tzifBackSpec)

/-- 'clepsydralaw06.TzifOld', WHERE WHAT IT READS IS OF BULK AT MOST 1048576: true; the input reads as it did. -/
def tzifOldUptoRow : OpenClaim := { program := "ytcbgfjghebopoaadoor", sum := "99a6f266dbd687405c1451115729cb1ad2cf891ad36e36b223ef70c37e996417", func := "clepsydra/clepsydralaw06.TzifOld", spec := "tzifOld", inPlace := ["internal/bytealg.IndexByte", "internal/bytealg.Index"], unfollowed := true, recurses := true, named := ["bytes.ErrTooLarge", "internal/bytealg.MaxLen"], apart := false, laid := [("bytes.ErrTooLarge", laid_bytes_ErrTooLarge)], narrowed := true }
def TzifOldUptoSaid : Prop := tzifOldUptoRow.holds Tryd.pinned (OpenSpec.upto tzifOldSpec)

/-- 'clepsydralaw06.TzifKnown', WHERE WHAT IT READS IS OF BULK AT MOST 1048576: true; the input reads as it did. -/
def tzifKnownUptoRow : OpenClaim := { program := "ytcbgfjghebopoaadoor", sum := "99a6f266dbd687405c1451115729cb1ad2cf891ad36e36b223ef70c37e996417", func := "clepsydra/clepsydralaw06.TzifKnown", spec := "tzifKnown", inPlace := ["internal/bytealg.IndexByte", "internal/bytealg.Index"], unfollowed := true, recurses := true, named := ["bytes.ErrTooLarge", "internal/bytealg.MaxLen"], apart := false, laid := [("bytes.ErrTooLarge", laid_bytes_ErrTooLarge)], narrowed := true }
def TzifKnownUptoSaid : Prop := tzifKnownUptoRow.holds Tryd.pinned (OpenSpec.upto tzifKnownSpec)

end Rows
end Go.Proofs.YtcbgfjghebopoaaDoor

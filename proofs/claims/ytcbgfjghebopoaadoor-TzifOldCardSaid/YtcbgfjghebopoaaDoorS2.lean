/- The ranges over functions of the program (there are none). -/
import Derived.Test.YtcbgfjghebopoaaDoorSA
namespace Go.Sh
/-- Yield's slots. -/
def loopPars (_ : Nat) : List Nat := []
/-- What is known of each. -/
def loopMeta (_ : Nat) : LMeta := ⟨[], .skip, .skip, [], 0⟩
theorem loopPars_ok (k : Nat) : loopPars k = (loopMeta k).params := rfl
/-- The type of bytes. -/
def byteT : TypeId := 5
end Go.Sh

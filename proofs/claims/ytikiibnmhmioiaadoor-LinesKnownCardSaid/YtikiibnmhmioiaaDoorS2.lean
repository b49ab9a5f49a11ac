/- The ranges over functions of the program. -/
import Derived.Test.YtikiibnmhmioiaaDoorSA
import Derived.Test.YtikiibnmhmioiaaDoorProg
namespace Go.Sh
/-- Yield's slots. -/
def loopPars : Nat → List Nat
  | 0 => [22, 23]
  | _ => []
/-- What is known of each. -/
noncomputable def loopMeta : Nat → LMeta
  | 0 => ⟨[22, 23], (Go.Proofs.Tryd.f9.body.getD .skip).a2.a2.a2.a2.a2.a1.a2.a1.ra, (Go.Proofs.Tryd.f9.body.getD .skip).a2.a2.a2.a2.a2.a1.a2.a1.rb, [4, 5, 6], 78⟩
  | _ => ⟨[], .skip, .skip, [], 0⟩
theorem loopPars_ok : ∀ k, loopPars k = (loopMeta k).params
  | 0 => rfl
  | _ + 1 => rfl
/-- The type of bytes. -/
def byteT : TypeId := 5
end Go.Sh

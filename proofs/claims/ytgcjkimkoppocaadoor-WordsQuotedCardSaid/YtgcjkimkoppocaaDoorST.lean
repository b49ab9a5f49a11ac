/- What the printed texts lean on. -/
import Derived.Test.YtgcjkimkoppocaaDoorSS
namespace Go.Sh
theorem bind_cond {α β : Type} (b : Bool) (x y : Option α) (f : α → Option β) : (cond b x y).bind f = cond b (x.bind f) (y.bind f) := by cases b <;> rfl
theorem elim_bind {α β γ δ : Type} (f : α → Option γ) (g : β → Option γ) (o : α ⊕ β) (J : γ → Option δ) : (Sum.elim f g o).bind J = Sum.elim (fun u => (f u).bind J) (fun v => (g v).bind J) o := by cases o <;> rfl
end Go.Sh
namespace Go
/-- Parts of code. -/
def Code.a1 : Code → Code
  | .seq x _ => x
  | .cond _ x _ => x
  | .block _ x => x
  | .loop x => x
  | x => x
def Code.a2 : Code → Code
  | .seq _ y => y
  | .cond _ _ y => y
  | x => x
end Go

/- What the printed texts lean on. -/
import Derived.Test.YtcbgfjghebopoaaDoorSS
namespace Go.Sh
theorem bind_cond {α β : Type} (b : Bool) (x y : Option α) (f : α → Option β) : (cond b x y).bind f = cond b (x.bind f) (y.bind f) := by cases b <;> rfl
theorem elim_bind {α β γ δ : Type} (f : α → Option γ) (g : β → Option γ) (o : α ⊕ β) (J : γ → Option δ) : (Sum.elim f g o).bind J = Sum.elim (fun u => (f u).bind J) (fun v => (g v).bind J) o := by cases o <;> rfl
theorem unc_bind {α β : Type} (l : List AV) (k : AV → List AV → Option α) (J : α → Option β) : (unc l k).bind J = unc l fun c r => (k c r).bind J := by cases l <;> rfl
theorem unn_bind {α β : Type} (l : List AV) (k : Option α) (J : α → Option β) : (unn l k).bind J = unn l (k.bind J) := by cases l <;> rfl
theorem getI_bind {α β : Type} (kd : IntKind) (a : AV) (k : Int → Option α) (J : α → Option β) : (getI kd a k).bind J = getI kd a fun n => (k n).bind J := by
  unfold getI
  split
  · rw [bind_cond]; rfl
  · rfl
theorem getB_bind {α β : Type} (a : AV) (k : Bool → Option α) (J : α → Option β) : (getB a k).bind J = getB a fun n => (k n).bind J := by
  unfold getB
  split <;> rfl
theorem getT_bind {α β : Type} (a : AV) (k : Str → Option α) (J : α → Option β) : (getT a k).bind J = getT a fun n => (k n).bind J := by
  unfold getT
  split <;> rfl
theorem getIs_bind {α β : Type} (kd : IntKind) (a : AV) (k : List Int → Option α) (J : α → Option β) : (getIs kd a k).bind J = getIs kd a fun n => (k n).bind J := by
  unfold getIs
  split
  · rw [bind_cond]; rfl
  · rfl
theorem getTs_bind {α β : Type} (a : AV) (k : List Str → Option α) (J : α → Option β) : (getTs a k).bind J = getTs a fun n => (k n).bind J := by
  unfold getTs
  split <;> rfl
theorem getSl_bind {α β : Type} (m : Nat) (a : AV) (k : List (List AV) → Option α) (J : α → Option β) : (getSl m a k).bind J = getSl m a fun n => (k n).bind J := by
  unfold getSl
  split
  · rw [bind_cond]; rfl
  · rfl
/-- All of these, for the printed proofs. -/
theorem nats : (∀ (α β : Type) (b : Bool) (x y : Option α) (f : α → Option β), (cond b x y).bind f = cond b (x.bind f) (y.bind f)) ∧
    (∀ (α β γ : Type) (x : Option α) (f : α → Option β) (g : β → Option γ), (x.bind f).bind g = x.bind fun y => (f y).bind g) ∧
    (∀ (α β : Type) (f : α → Option β), (none : Option α).bind f = none) ∧
    (∀ (α β γ δ : Type) (f : α → Option γ) (g : β → Option γ) (o : α ⊕ β) (J : γ → Option δ), (Sum.elim f g o).bind J = Sum.elim (fun u => (f u).bind J) (fun v => (g v).bind J) o) ∧
    (∀ (α β : Type) (l : List AV) (k : AV → List AV → Option α) (J : α → Option β), (unc l k).bind J = unc l fun c r => (k c r).bind J) ∧
    (∀ (α β : Type) (l : List AV) (k : Option α) (J : α → Option β), (unn l k).bind J = unn l (k.bind J)) ∧
    (∀ (α β : Type) (kd : IntKind) (a : AV) (k : Int → Option α) (J : α → Option β), (getI kd a k).bind J = getI kd a fun n => (k n).bind J) ∧
    (∀ (α β : Type) (a : AV) (k : Bool → Option α) (J : α → Option β), (getB a k).bind J = getB a fun n => (k n).bind J) ∧
    (∀ (α β : Type) (a : AV) (k : Str → Option α) (J : α → Option β), (getT a k).bind J = getT a fun n => (k n).bind J) ∧
    (∀ (α β : Type) (kd : IntKind) (a : AV) (k : List Int → Option α) (J : α → Option β), (getIs kd a k).bind J = getIs kd a fun n => (k n).bind J) ∧
    (∀ (α β : Type) (a : AV) (k : List Str → Option α) (J : α → Option β), (getTs a k).bind J = getTs a fun n => (k n).bind J) ∧
    (∀ (α β : Type) (m : Nat) (a : AV) (k : List (List AV) → Option α) (J : α → Option β), (getSl m a k).bind J = getSl m a fun n => (k n).bind J) :=
  ⟨fun _ _ => bind_cond, fun _ _ _ x f g => Option.bind_assoc x f g, fun _ _ _ => rfl, fun _ _ _ _ => elim_bind, fun _ _ => unc_bind, fun _ _ => unn_bind, fun _ _ => getI_bind, fun _ _ => getB_bind, fun _ _ => getT_bind, fun _ _ => getIs_bind, fun _ _ => getTs_bind, fun _ _ => getSl_bind⟩
end Go.Sh

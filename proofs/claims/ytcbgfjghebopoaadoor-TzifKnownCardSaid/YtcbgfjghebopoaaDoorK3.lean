/- Texts of this session, joined and cut to what one statement needs, under short names. -/
import Derived.Test.YtcbgfjghebopoaaDoorK2
import Derived.Test.YtcbgfjghebopoaaDoorProg
import Derived.KernelRfl
import Derived.IntWalk
import Derived.ChangeArms
import Derived.OpenShut
import Derived.WideShapes
import Derived.Deep.Slices
namespace Go.Proofs.YtcbgfjghebopoaaDoor.H
open Go.Sh Go.RowKit
set_option linter.unusedVariables false
set_option linter.unusedSimpArgs false
set_option maxHeartbeats 4000000
set_option maxRecDepth 100000
def mr (n : Nat) (a0 : List (List AV)) (a1 a2 : List Int) (a3 : Str) (a4 : Int) (R : Type) (K : Bool → Option R) : Option R := cond (decide ((a0.length : Int) ≤ (300 : Int))) (cond (decide ((a1.length : Int) ≤ a4)) (cond (decide ((a2.length : Int) ≤ a4)) (K (decide ((a3.length : Int) ≤ (200 : Int)))) (K false)) (K false)) (K false)
def bR (n : Nat) (a0 : List (List AV)) (a1 a2 : List Int) (a3 : Str) (a4 : Int) : Option (Bool) := mr n a0 a1 a2 a3 a4 _ some
def yA : List AV → List AObj → Option ((List (List AV)) × (List Int) × (List Int) × Str × Int)
  | [.agg [.sl false 3 a0, .ints false .i64 a1, .ints false .i64 a2, .str a3], .int .i64 a4], [] => some (a0, a1, a2, a3, a4)
  | _, _ => none
def jI (n : Nat) : FSpec := iQ yA (fun v => bR n v.1 v.2.1 v.2.2.1 v.2.2.2.1 v.2.2.2.2) (fun o => .bool o) (fun o => [])
theorem jS (n : Nat) : FSound Tryd.prog 8 (jI n) := aG (t := fun v => ⟨[(0, .agg [.sl false 3 v.1, .ints false .i64 v.2.1, .ints false .i64 v.2.2.1, .str v.2.2.2.1]), (1, .int .i64 v.2.2.2.2)], []⟩) (b := fun v R K => mr n v.1 v.2.1 v.2.2.1 v.2.2.2.1 v.2.2.2.2 R K) (nt := 29) (n := some 0) (rs := [.tmp 4]) .a Tryd.func8 (by kernel_rfl) rfl rfl rfl (fun _ h => by injection h with h; exact h.symm) (by decide) (by kernel_rfl) (by intro s v w h; unfold yA at h; split at h <;> first | (cases h; exact ⟨Nat.le_of_ble_eq_true rfl, rfl, rfl⟩) | cases h) (fun _ _ _ => by kernel_rfl) (by intros; unfold mr; simp only [aS]) (fun _ => by kernel_rfl) (by kernel_rfl) (by kernel_rfl) trivial
def yc (n : Nat) (a0 h0 : Int) (R : Type) (K : (Bool × Int) → Option R) : Option R := cond (decide (a0 < h0)) (K (true, h0)) (K (decide (a0 > (126 : Int)), h0))
def Dj (n : Nat) (a0 h0 : Int) : Option (Bool × Int) := yc n a0 h0 _ some
def Ic : List AV → List AObj → Option (Int × Int)
  | [.int .u8 a0, .ptr (some (0, 0))], [.cells 5 [.int .u8 h0]] => some (a0, h0)
  | _, _ => none
def Gw (n : Nat) : FSpec := iQ Ic (fun v => Dj n v.1 v.2) (fun o => .bool o.1) (fun o => [.cells 5 [.int .u8 o.2]])
theorem Jr (n : Nat) : FSound Tryd.prog 40 (Gw n) := aG (t := fun v => ⟨[(0, .int .u8 v.1), (1, .ptr (some (0, 0)))], [.cells 5 [.int .u8 v.2]]⟩) (b := fun v R K => yc n v.1 v.2 R K) (nt := 11) (n := some 1) (rs := [.tmp 3]) .a Tryd.func40 (by kernel_rfl) rfl rfl rfl (fun _ h => by injection h with h; exact h.symm) (by decide) (by kernel_rfl) (by intro s v w h; unfold Ic at h; split at h <;> first | (cases h; exact ⟨Nat.le_of_ble_eq_true rfl, rfl, rfl⟩) | cases h) (fun _ _ _ => by kernel_rfl) (by intros; unfold yc; simp only [aS]) (fun _ => by kernel_rfl) (by kernel_rfl) (by kernel_rfl) trivial
def dw (n : Nat) (x0 : List Int) (x7 x8 h0_0 : Int) (R : Type) (A_ : (List Int) → Int → Int → Int → Option R) (K : ((Int × Int) ⊕ (Int)) → Option R) : Option R := cond (decide (x8 < x7)) (cond (decide (0 ≤ x8)) ((x0[x8.toNat]?).bind fun e2 => ((Dj n e2 h0_0).bind fun o3 => (cond o3.1 (K (Sum.inl (x8, o3.2))) (A_ x0 x7 (IntKind.i64.wrap (x8 + (1 : Int))) o3.2)))) none) (K (Sum.inr h0_0))
def aN (n : Nat) : Nat → (List Int) → Int → Int → Int → Option ((Int × Int) ⊕ (Int))
  | 0, _, _, _, _ => none
  | m + 1, x0, x7, x8, h0_0 => dw n x0 x7 x8 h0_0 _ (aN n m) some
def nu : St → Option (((List Int) × Int × Int × Int) × (Unit))
  | ⟨[(0, .ints false .u8 x0), (1, .func (.func 40) [] [.ptr (some (0, 0))]), (7, .int .i64 x7), (8, .int .i64 x8)], [.cells 5 [.int .u8 h0_0]]⟩ => some ((x0, x7, x8, h0_0), ())
  | _ => none
def wH (v : (List Int) × Int × Int × Int) (w : Unit) : St := ⟨[(0, .ints false .u8 v.1), (1, .func (.func 40) [] [.ptr (some (0, 0))]), (7, .int .i64 v.2.1), (8, .int .i64 v.2.2.1)], [.cells 5 [.int .u8 v.2.2.2]]⟩
def wI (v : (List Int) × Int × Int × Int) (o : (Int × Int) ⊕ (Int)) (w : Unit) (R : Type) (K : AExit → St → Option R) : Option R := Sum.elim (fun (u0 : Int × Int) => K .ret ⟨[(4, .int .i64 u0.1)], [.cells 5 [.int .u8 u0.2]]⟩) (fun (v0 : (Int)) => K (.exit 0) ⟨[], [.cells 5 [.int .u8 v0]]⟩) o
def ny (n : Nat) : Ex := xOf nu (fun v => aN n n v.1 v.2.1 v.2.2.1 v.2.2.2) wI
theorem vF (n : Nat) : Snd ⟨Tryd.prog, 1, 19⟩ (ny n) (Tryd.f53.body.getD .skip).a2.a1.a2.a1 := aH (t := wH) (b := fun v R A K => dw n v.1 v.2.1 v.2.2.1 v.2.2.2 R (fun z0 z1 z2 z3 => A (z0, z1, z2, z3)) K) (f := fun m v => aN n m v.1 v.2.1 v.2.2.1 v.2.2.2) (m := (fun e => match e with | .ret => ([4], none) | .exit 0 => ([], none) | .normal => ([0, 1, 7, 8], none) | _ => ([], none))) n (.s .a (.s .a (.s (.u (.s .a (.s (.r [(5, .cl 40 (Gw n))]) .a))) .a))) (by intro s v w h; unfold nu at h; split at h <;> first | (cases h; rfl) | cases h) (fun _ _ _ _ => by kernel_rfl) (by intros; unfold dw; simp only [aS]) (fun _ => rfl) (fun _ _ => rfl) (fun _ => rfl) (fun _ _ _ _ _ _ => by kernel_rfl) (fun _ _ _ _ _ _ => by kernel_rfl) (by intro e n h; split at h <;> cases h) (by kernel_rfl) (by kernel_rfl) (ai (Jr n) trivial)
def gT (n : Nat) (a0 : List Int) (h0 : Int) (R : Type) (K : (Int × Int) → Option R) : Option R := (aN n n a0 (a0.length : Int) (0 : Int) h0).bind fun o4 => (Sum.elim (fun o5 => K (o5.1, o5.2)) (fun o6 => K ((-1 : Int), o6)) o4)
def kH (n : Nat) (a0 : List Int) (h0 : Int) : Option (Int × Int) := gT n a0 h0 _ some
def pI : List AV → List AObj → Option ((List Int) × Int)
  | [.ints false .u8 a0, .func (.func 40) [] [.ptr (some (0, 0))]], [.cells 5 [.int .u8 h0]] => some (a0, h0)
  | _, _ => none
def nX (n : Nat) : FSpec := iQ pI (fun v => kH n v.1 v.2) (fun o => .int .i64 o.1) (fun o => [.cells 5 [.int .u8 o.2]])
theorem vO (n : Nat) : FSound Tryd.prog 53 (nX n) := aG (t := fun v => ⟨[(0, .ints false .u8 v.1), (1, .func (.func 40) [] [.ptr (some (0, 0))])], [.cells 5 [.int .u8 v.2]]⟩) (b := fun v R K => gT n v.1 v.2 R K) (nt := 19) (n := some 1) (rs := [.tmp 4]) (.s .a (.s (.s .a (.u (.p (aA ([0, 1, 7, 8], none) (ny n))))) .a)) Tryd.func53 (by kernel_rfl) rfl rfl rfl (fun _ h => by injection h with h; exact h.symm) (by decide) (by kernel_rfl) (by intro s v w h; unfold pI at h; split at h <;> first | (cases h; exact ⟨Nat.le_of_ble_eq_true rfl, rfl, rfl⟩) | cases h) (fun _ _ _ => by kernel_rfl) (by intros; unfold gT; simp only [aS]) (fun _ => by kernel_rfl) (by kernel_rfl) (by kernel_rfl) (ai (aP [0, 1, 7, 8] (vF n)) trivial)
def fD (n : Nat) (a0 : List Int) (h0 : Int) (R : Type) (K : (Bool × Int) → Option R) : Option R := (kH n a0 h0).bind fun o7 => (K (decide (o7.1 ≥ (0 : Int)), o7.2))
def jo (n : Nat) (a0 : List Int) (h0 : Int) : Option (Bool × Int) := fD n a0 h0 _ some
def nz : List AV → List AObj → Option ((List Int) × Int)
  | [.ints false .u8 a0, .func (.func 40) [] [.ptr (some (0, 0))]], [.cells 5 [.int .u8 h0]] => some (a0, h0)
  | _, _ => none
def mD (n : Nat) : FSpec := iQ nz (fun v => jo n v.1 v.2) (fun o => .bool o.1) (fun o => [.cells 5 [.int .u8 o.2]])
theorem tL (n : Nat) : FSound Tryd.prog 41 (mD n) := aG (t := fun v => ⟨[(0, .ints false .u8 v.1), (1, .func (.func 40) [] [.ptr (some (0, 0))])], [.cells 5 [.int .u8 v.2]]⟩) (b := fun v R K => fD n v.1 v.2 R K) (nt := 9) (n := some 1) (rs := [.tmp 4]) (.s .a (.s (.r [(2, .cl 53 (nX n))]) .a)) Tryd.func41 (by kernel_rfl) rfl rfl rfl (fun _ h => by injection h with h; exact h.symm) (by decide) (by kernel_rfl) (by intro s v w h; unfold nz at h; split at h <;> first | (cases h; exact ⟨Nat.le_of_ble_eq_true rfl, rfl, rfl⟩) | cases h) (fun _ _ _ => by kernel_rfl) (by intros; unfold fD; simp only [aS]) (fun _ => by kernel_rfl) (by kernel_rfl) (by kernel_rfl) (ai (vO n) trivial)
def CW (n : Nat) (a0 : Str) (a1 a2 : Int) (R : Type) (K : Bool → Option R) : Option R := cond (decide ((a0.length : Int) ≤ a1)) ((jo n (au a0) a2).bind fun o8 => (K (!o8.1))) (K false)
def yB (n : Nat) (a0 : Str) (a1 a2 : Int) : Option (Bool) := CW n a0 a1 a2 _ some
def KG : List AV → List AObj → Option (Str × Int × Int)
  | [.str a0, .int .i64 a1, .int .u8 a2], [] => some (a0, a1, a2)
  | _, _ => none
def EX (n : Nat) : FSpec := iQ KG (fun v => yB n v.1 v.2.1 v.2.2) (fun o => .bool o) (fun o => [])
theorem FH (n : Nat) : FSound Tryd.prog 21 (EX n) := aG (t := fun v => ⟨[(0, .str v.1), (1, .int .i64 v.2.1), (2, .int .u8 v.2.2)], []⟩) (b := fun v R K => CW n v.1 v.2.1 v.2.2 R K) (nt := 20) (n := some 0) (rs := [.tmp 6]) (.s .a (.s .a (.s (.r [(8, .cl 41 (mD n))]) .a))) Tryd.func21 (by kernel_rfl) rfl rfl rfl (fun _ h => by injection h with h; exact h.symm) (by decide) (by kernel_rfl) (by intro s v w h; unfold KG at h; split at h <;> first | (cases h; exact ⟨Nat.le_of_ble_eq_true rfl, rfl, rfl⟩) | cases h) (fun _ _ _ => by kernel_rfl) (by intros; unfold CW; simp only [aS]) (fun _ => by kernel_rfl) (by kernel_rfl) (by kernel_rfl) (ai (tL n) trivial)
def uD (n : Nat) (h0_0 : List (List AV)) (h0_1 h0_2 : List Int) (h0_3 : Str) (R : Type) (K : (Bool × (List (List AV)) × (List Int) × (List Int) × Str) → Option R) : Option R := cond (decide ((h0_0.length : Int) < (1 : Int))) (K (true, h0_0, h0_1, h0_2, h0_3)) (cond (decide ((h0_0.length : Int) > (255 : Int))) (K (true, h0_0, h0_1, h0_2, h0_3)) (cond (decide ((h0_1.length : Int) > (4000 : Int))) (K (true, h0_0, h0_1, h0_2, h0_3)) (cond ((h0_1.length : Int) != (h0_2.length : Int)) (K (true, h0_0, h0_1, h0_2, h0_3)) ((yB n h0_3 (100 : Int) (32 : Int)).bind fun o23 => (K (!o23, h0_0, h0_1, h0_2, h0_3))))))
def Dk (n : Nat) (h0_0 : List (List AV)) (h0_1 h0_2 : List Int) (h0_3 : Str) : Option ((Bool × (List (List AV)) × (List Int) × (List Int) × Str)) := uD n h0_0 h0_1 h0_2 h0_3 _ some
def FI : St → Option (((List (List AV)) × (List Int) × (List Int) × Str) × (Unit))
  | ⟨[(1, .ptr (some (0, 0)))], [.cells 26 [.sl false 3 h0_0, .ints false .i64 h0_1, .ints false .i64 h0_2, .str h0_3]]⟩ => some ((h0_0, h0_1, h0_2, h0_3), ())
  | _ => none
def KR (v : (List (List AV)) × (List Int) × (List Int) × Str) (w : Unit) : St := ⟨[(1, .ptr (some (0, 0)))], [.cells 26 [.sl false 3 v.1, .ints false .i64 v.2.1, .ints false .i64 v.2.2.1, .str v.2.2.2]]⟩
def KS (v : (List (List AV)) × (List Int) × (List Int) × Str) (o : (Bool × (List (List AV)) × (List Int) × (List Int) × Str)) (w : Unit) (R : Type) (K : AExit → St → Option R) : Option R := K .normal ⟨[(1, .ptr (some (0, 0))), (38, .bool o.1)], [.cells 26 [.sl false 3 o.2.1, .ints false .i64 o.2.2.1, .ints false .i64 o.2.2.2.1, .str o.2.2.2.2]]⟩
def FJ (n : Nat) : Ex := xOf FI (fun v => Dk n v.1 v.2.1 v.2.2.1 v.2.2.2) KS
def uE (n : Nat) (h0_0 : List (List AV)) (h0_1 h0_2 : List Int) (h0_3 : Str) (h1_0 : Int) (h1_1 : Bool) (h1_2 : Str) (R : Type) (K : (Bool × (List (List AV)) × (List Int) × (List Int) × Str × Int × Bool × Str) → Option R) : Option R := cond (decide (h1_0 < (-89999 : Int))) (K (true, h0_0, h0_1, h0_2, h0_3, h1_0, h1_1, h1_2)) (cond (decide (h1_0 > (93599 : Int))) (K (true, h0_0, h0_1, h0_2, h0_3, h1_0, h1_1, h1_2)) (cond (h1_2 == ([] : Str)) (K (true, h0_0, h0_1, h0_2, h0_3, h1_0, h1_1, h1_2)) ((yB n h1_2 (15 : Int) (33 : Int)).bind fun o35 => (K (!o35, h0_0, h0_1, h0_2, h0_3, h1_0, h1_1, h1_2)))))
def yf (n : Nat) (h0_0 : List (List AV)) (h0_1 h0_2 : List Int) (h0_3 : Str) (h1_0 : Int) (h1_1 : Bool) (h1_2 : Str) : Option ((Bool × (List (List AV)) × (List Int) × (List Int) × Str × Int × Bool × Str)) := uE n h0_0 h0_1 h0_2 h0_3 h1_0 h1_1 h1_2 _ some
def FK : St → Option (((List (List AV)) × (List Int) × (List Int) × Str × Int × Bool × Str) × (AV × AV × AV × AV × AV))
  | ⟨[(1, p1), (3, p3), (5, .ptr (some (1, 0))), (40, p40), (41, p41), (42, p42)], [.cells 26 [.sl false 3 h0_0, .ints false .i64 h0_1, .ints false .i64 h0_2, .str h0_3], .cells 54 [.int .i64 h1_0, .bool h1_1, .str h1_2]]⟩ => some ((h0_0, h0_1, h0_2, h0_3, h1_0, h1_1, h1_2), (p1, p3, p40, p41, p42))
  | _ => none
def KT (v : (List (List AV)) × (List Int) × (List Int) × Str × Int × Bool × Str) (w : AV × AV × AV × AV × AV) : St := ⟨[(1, w.1), (3, w.2.1), (5, .ptr (some (1, 0))), (40, w.2.2.1), (41, w.2.2.2.1), (42, w.2.2.2.2)], [.cells 26 [.sl false 3 v.1, .ints false .i64 v.2.1, .ints false .i64 v.2.2.1, .str v.2.2.2.1], .cells 54 [.int .i64 v.2.2.2.2.1, .bool v.2.2.2.2.2.1, .str v.2.2.2.2.2.2]]⟩
def KU (v : (List (List AV)) × (List Int) × (List Int) × Str × Int × Bool × Str) (o : (Bool × (List (List AV)) × (List Int) × (List Int) × Str × Int × Bool × Str)) (w : AV × AV × AV × AV × AV) (R : Type) (K : AExit → St → Option R) : Option R := K .normal ⟨[(1, w.1), (3, w.2.1), (40, w.2.2.1), (41, w.2.2.2.1), (42, w.2.2.2.2), (70, .bool o.1)], [.cells 26 [.sl false 3 o.2.1, .ints false .i64 o.2.2.1, .ints false .i64 o.2.2.2.1, .str o.2.2.2.2.1], .cells 54 [.int .i64 o.2.2.2.2.2.1, .bool o.2.2.2.2.2.2.1, .str o.2.2.2.2.2.2.2]]⟩
def FL (n : Nat) : Ex := xOf FK (fun v => yf n v.1 v.2.1 v.2.2.1 v.2.2.2.1 v.2.2.2.2.1 v.2.2.2.2.2.1 v.2.2.2.2.2.2) KU
def pJ (n : Nat) (x3 : Int) (x40 : List (List AV)) (x41 x42 : Int) (h0_0 : List (List AV)) (h0_1 h0_2 : List Int) (h0_3 : Str) (R : Type) (A_ : Int → (List (List AV)) → Int → Int → (List (List AV)) → (List Int) → (List Int) → Str → Option R) (K : ((Unit) ⊕ (Int × (List (List AV)) × (List Int) × (List Int) × Str)) → Option R) : Option R := cond (decide (x42 < x41)) (cond (decide (0 ≤ x42)) ((x40[x42.toNat]?).bind fun e25 => (unc e25 fun c26 r27 => jR .i64 c26 fun x28 => unc r27 fun c29 r30 => l5 c29 fun x31 => unc r30 fun c32 r33 => l6 c32 fun x34 => unn r33 ((yf n h0_0 h0_1 h0_2 h0_3 x28 x31 x34).bind fun o36 => (cond o36.1 (K (Sum.inl ())) (A_ (IntKind.i64.wrap (x3 + (IntKind.i64.wrap ((x34.length : Int) + (1 : Int))))) x40 x41 (IntKind.i64.wrap (x42 + (1 : Int))) o36.2.1 o36.2.2.1 o36.2.2.2.1 o36.2.2.2.2.1))))) none) (K (Sum.inr (x3, h0_0, h0_1, h0_2, h0_3)))
def mV (n : Nat) : Nat → Int → (List (List AV)) → Int → Int → (List (List AV)) → (List Int) → (List Int) → Str → Option ((Unit) ⊕ (Int × (List (List AV)) × (List Int) × (List Int) × Str))
  | 0, _, _, _, _, _, _, _, _ => none
  | m + 1, x3, x40, x41, x42, h0_0, h0_1, h0_2, h0_3 => pJ n x3 x40 x41 x42 h0_0 h0_1 h0_2 h0_3 _ (mV n m) some
def FM : St → Option ((Int × (List (List AV)) × Int × Int × (List (List AV)) × (List Int) × (List Int) × Str) × (Unit))
  | ⟨[(1, .ptr (some (0, 0))), (3, .int .i64 x3), (40, .sl false 3 x40), (41, .int .i64 x41), (42, .int .i64 x42)], [.cells 26 [.sl false 3 h0_0, .ints false .i64 h0_1, .ints false .i64 h0_2, .str h0_3]]⟩ => some ((x3, x40, x41, x42, h0_0, h0_1, h0_2, h0_3), ())
  | _ => none
def KV (v : Int × (List (List AV)) × Int × Int × (List (List AV)) × (List Int) × (List Int) × Str) (w : Unit) : St := ⟨[(1, .ptr (some (0, 0))), (3, .int .i64 v.1), (40, .sl false 3 v.2.1), (41, .int .i64 v.2.2.1), (42, .int .i64 v.2.2.2.1)], [.cells 26 [.sl false 3 v.2.2.2.2.1, .ints false .i64 v.2.2.2.2.2.1, .ints false .i64 v.2.2.2.2.2.2.1, .str v.2.2.2.2.2.2.2]]⟩
def KW (v : Int × (List (List AV)) × Int × Int × (List (List AV)) × (List Int) × (List Int) × Str) (o : (Unit) ⊕ (Int × (List (List AV)) × (List Int) × (List Int) × Str)) (w : Unit) (R : Type) (K : AExit → St → Option R) : Option R := Sum.elim (fun (u0 : Unit) => K .ret ⟨[(2, .bool false)], []⟩) (fun (v0 : (Int × (List (List AV)) × (List Int) × (List Int) × Str)) => K (.exit 0) ⟨[(1, .ptr (some (0, 0))), (3, .int .i64 v0.1)], [.cells 26 [.sl false 3 v0.2.1, .ints false .i64 v0.2.2.1, .ints false .i64 v0.2.2.2.1, .str v0.2.2.2.2]]⟩) o
def FN (n : Nat) : Ex := xOf FM (fun v => mV n n v.1 v.2.1 v.2.2.1 v.2.2.2.1 v.2.2.2.2.1 v.2.2.2.2.2.1 v.2.2.2.2.2.2.1 v.2.2.2.2.2.2.2) KW
def uF (n : Nat) (x6 x7 : Int) (h0_0 : List (List AV)) (h0_1 h0_2 : List Int) (h0_3 : Str) (R : Type) (K : (Bool × (List (List AV)) × (List Int) × (List Int) × Str) → Option R) : Option R := cond (decide (x7 < (0 : Int))) (K (true, h0_0, h0_1, h0_2, h0_3)) (cond (decide (x7 ≥ (h0_0.length : Int))) (K (true, h0_0, h0_1, h0_2, h0_3)) (cond (decide (x6 > (0 : Int))) (cond (decide (0 ≤ x6)) ((h0_1[x6.toNat]?).bind fun e41 => (cond (decide (0 ≤ (IntKind.i64.wrap (x6 - (1 : Int))))) ((h0_1[(IntKind.i64.wrap (x6 - (1 : Int))).toNat]?).bind fun e42 => (K (decide (e41 ≤ e42), h0_0, h0_1, h0_2, h0_3))) none)) none) (K (false, h0_0, h0_1, h0_2, h0_3))))
def yg (n : Nat) (x6 x7 : Int) (h0_0 : List (List AV)) (h0_1 h0_2 : List Int) (h0_3 : Str) : Option ((Bool × (List (List AV)) × (List Int) × (List Int) × Str)) := uF n x6 x7 h0_0 h0_1 h0_2 h0_3 _ some
def FO : St → Option ((Int × Int × (List (List AV)) × (List Int) × (List Int) × Str) × (AV × AV × AV × AV))
  | ⟨[(1, .ptr (some (0, 0))), (3, p3), (6, .int .i64 x6), (7, .int .i64 x7), (73, p73), (74, p74), (75, p75)], [.cells 26 [.sl false 3 h0_0, .ints false .i64 h0_1, .ints false .i64 h0_2, .str h0_3]]⟩ => some ((x6, x7, h0_0, h0_1, h0_2, h0_3), (p3, p73, p74, p75))
  | _ => none
def KX (v : Int × Int × (List (List AV)) × (List Int) × (List Int) × Str) (w : AV × AV × AV × AV) : St := ⟨[(1, .ptr (some (0, 0))), (3, w.1), (6, .int .i64 v.1), (7, .int .i64 v.2.1), (73, w.2.1), (74, w.2.2.1), (75, w.2.2.2)], [.cells 26 [.sl false 3 v.2.2.1, .ints false .i64 v.2.2.2.1, .ints false .i64 v.2.2.2.2.1, .str v.2.2.2.2.2]]⟩
def KY (v : Int × Int × (List (List AV)) × (List Int) × (List Int) × Str) (o : (Bool × (List (List AV)) × (List Int) × (List Int) × Str)) (w : AV × AV × AV × AV) (R : Type) (K : AExit → St → Option R) : Option R := K .normal ⟨[(1, .ptr (some (0, 0))), (3, w.1), (73, w.2.1), (74, w.2.2.1), (75, w.2.2.2), (106, .bool o.1)], [.cells 26 [.sl false 3 o.2.1, .ints false .i64 o.2.2.1, .ints false .i64 o.2.2.2.1, .str o.2.2.2.2]]⟩
def FP (n : Nat) : Ex := xOf FO (fun v => yg n v.1 v.2.1 v.2.2.1 v.2.2.2.1 v.2.2.2.2.1 v.2.2.2.2.2) KY
def pK (n : Nat) (x73 : List Int) (x74 x75 : Int) (h0_0 : List (List AV)) (h0_1 h0_2 : List Int) (h0_3 : Str) (R : Type) (A_ : (List Int) → Int → Int → (List (List AV)) → (List Int) → (List Int) → Str → Option R) (K : (((List (List AV)) × (List Int) × (List Int) × Str) ⊕ ((List (List AV)) × (List Int) × (List Int) × Str)) → Option R) : Option R := cond (decide (x75 < x74)) (cond (decide (0 ≤ x75)) ((x73[x75.toNat]?).bind fun e40 => ((yg n x75 e40 h0_0 h0_1 h0_2 h0_3).bind fun o43 => (cond o43.1 (K (Sum.inl (o43.2.1, o43.2.2.1, o43.2.2.2.1, o43.2.2.2.2))) (A_ x73 x74 (IntKind.i64.wrap (x75 + (1 : Int))) o43.2.1 o43.2.2.1 o43.2.2.2.1 o43.2.2.2.2)))) none) (K (Sum.inr (h0_0, h0_1, h0_2, h0_3)))
def mW (n : Nat) : Nat → (List Int) → Int → Int → (List (List AV)) → (List Int) → (List Int) → Str → Option (((List (List AV)) × (List Int) × (List Int) × Str) ⊕ ((List (List AV)) × (List Int) × (List Int) × Str))
  | 0, _, _, _, _, _, _, _ => none
  | m + 1, x73, x74, x75, h0_0, h0_1, h0_2, h0_3 => pK n x73 x74 x75 h0_0 h0_1 h0_2 h0_3 _ (mW n m) some
def FQ : St → Option (((List Int) × Int × Int × (List (List AV)) × (List Int) × (List Int) × Str) × (AV))
  | ⟨[(1, .ptr (some (0, 0))), (3, p3), (73, .ints false .i64 x73), (74, .int .i64 x74), (75, .int .i64 x75)], [.cells 26 [.sl false 3 h0_0, .ints false .i64 h0_1, .ints false .i64 h0_2, .str h0_3]]⟩ => some ((x73, x74, x75, h0_0, h0_1, h0_2, h0_3), p3)
  | _ => none
def KZ (v : (List Int) × Int × Int × (List (List AV)) × (List Int) × (List Int) × Str) (w : AV) : St := ⟨[(1, .ptr (some (0, 0))), (3, w), (73, .ints false .i64 v.1), (74, .int .i64 v.2.1), (75, .int .i64 v.2.2.1)], [.cells 26 [.sl false 3 v.2.2.2.1, .ints false .i64 v.2.2.2.2.1, .ints false .i64 v.2.2.2.2.2.1, .str v.2.2.2.2.2.2]]⟩
def K3 (v : (List Int) × Int × Int × (List (List AV)) × (List Int) × (List Int) × Str) (o : ((List (List AV)) × (List Int) × (List Int) × Str) ⊕ ((List (List AV)) × (List Int) × (List Int) × Str)) (w : AV) (R : Type) (K : AExit → St → Option R) : Option R := Sum.elim (fun (u0 : (List (List AV)) × (List Int) × (List Int) × Str) => K .ret ⟨[(2, .bool false)], [.cells 26 [.sl false 3 u0.1, .ints false .i64 u0.2.1, .ints false .i64 u0.2.2.1, .str u0.2.2.2]]⟩) (fun (v0 : ((List (List AV)) × (List Int) × (List Int) × Str)) => K (.exit 2) ⟨[(3, w)], [.cells 26 [.sl false 3 v0.1, .ints false .i64 v0.2.1, .ints false .i64 v0.2.2.1, .str v0.2.2.2]]⟩) o
def FR (n : Nat) : Ex := xOf FQ (fun v => mW n n v.1 v.2.1 v.2.2.1 v.2.2.2.1 v.2.2.2.2.1 v.2.2.2.2.2.1 v.2.2.2.2.2.2) K3
theorem Js (n : Nat) : Snd ⟨Tryd.prog, 0, 110⟩ (FL n) (Tryd.f9.body.getD .skip).a2.a2.a2.a1.a2.a1.a1.a2.a2.a1.a1.a2.a2.a1 := dA (t := KT) (b := fun v R K => uE n v.1 v.2.1 v.2.2.1 v.2.2.2.1 v.2.2.2.2.1 v.2.2.2.2.2.1 v.2.2.2.2.2.2 R K) (m := (fun e => match e with | .normal => ([1, 3, 40, 41, 42, 70], none) | _ => ([], none))) (.r [(16, .cl 21 (EX n))]) (by intro s v w h; unfold FK at h; split at h <;> first | (cases h; rfl) | cases h) (fun _ _ _ _ => by kernel_rfl) (by intros; unfold uE; simp only [aS]) (fun _ => by kernel_rfl) (by intro e n h; split at h <;> cases h) (by kernel_rfl) (by kernel_rfl) (ai (FH n) trivial)
theorem Jt (n : Nat) : Snd ⟨Tryd.prog, 0, 110⟩ (FP n) (Tryd.f9.body.getD .skip).a2.a2.a2.a2.a1.a2.a1.a1.a2.a2.a1.a1.a2.a1 := dA (t := KX) (b := fun v R K => uF n v.1 v.2.1 v.2.2.1 v.2.2.2.1 v.2.2.2.2.1 v.2.2.2.2.2 R K) (m := (fun e => match e with | .normal => ([1, 3, 73, 74, 75, 106], none) | _ => ([], none))) (.d [] [(4, .look), (13, .look), (17, .no), (18, .look), (23, .no)]) (by intro s v w h; unfold FO at h; split at h <;> first | (cases h; rfl) | cases h) (fun _ _ _ _ => by kernel_rfl) (by intros; unfold uF; simp only [aS]) (fun _ => by kernel_rfl) (by intro e n h; split at h <;> cases h) (by kernel_rfl) (by kernel_rfl) trivial
theorem Ju (n : Nat) : Snd ⟨Tryd.prog, 0, 110⟩ (FJ n) (Tryd.f9.body.getD .skip).a2.a1.a1 := dA (t := KR) (b := fun v R K => uD n v.1 v.2.1 v.2.2.1 v.2.2.2 R K) (m := (fun e => match e with | .normal => ([1, 38], none) | _ => ([], none))) (.r [(28, .cl 21 (EX n))]) (by intro s v w h; unfold FI at h; split at h <;> first | (cases h; rfl) | cases h) (fun _ _ _ _ => by kernel_rfl) (by intros; unfold uD; simp only [aS]) (fun _ => by kernel_rfl) (by intro e n h; split at h <;> cases h) (by kernel_rfl) (by kernel_rfl) (ai (FH n) trivial)
theorem Jv (n : Nat) : Snd ⟨Tryd.prog, 0, 110⟩ (FN n) (Tryd.f9.body.getD .skip).a2.a2.a2.a1.a2.a1 := aH (t := KV) (b := fun v R A K => pJ n v.1 v.2.1 v.2.2.1 v.2.2.2.1 v.2.2.2.2.1 v.2.2.2.2.2.1 v.2.2.2.2.2.2.1 v.2.2.2.2.2.2.2 R (fun z0 z1 z2 z3 z4 z5 z6 z7 => A (z0, z1, z2, z3, z4, z5, z6, z7)) K) (f := fun m v => mV n m v.1 v.2.1 v.2.2.1 v.2.2.2.1 v.2.2.2.2.1 v.2.2.2.2.2.1 v.2.2.2.2.2.2.1 v.2.2.2.2.2.2.2) (m := (fun e => match e with | .ret => ([2], some 0) | .exit 0 => ([1, 3], none) | .normal => ([1, 3, 40, 41, 42], some 0) | _ => ([], none))) n (.s .a (.s .a (.s (.u (.s .a (.s .a (.s (.p (aA ([1, 3, 5, 40, 41, 42], none) (FL n))) .a)))) .a))) (by intro s v w h; unfold FM at h; split at h <;> first | (cases h; rfl) | cases h) (fun _ _ _ _ => by kernel_rfl) (by intros; unfold pJ; simp only [aS]) (fun _ => rfl) (fun _ _ => rfl) (fun _ => rfl) (fun _ _ _ _ _ _ => by kernel_rfl) (fun _ _ _ _ _ _ => by kernel_rfl) (by intro e n h; cases e <;> (first | cases h | (split at h <;> cases h)) <;> rfl) (by kernel_rfl) (by kernel_rfl) (ai (aP [1, 3, 5, 40, 41, 42] (Js n)) trivial)
theorem Jw (n : Nat) : Snd ⟨Tryd.prog, 0, 110⟩ (FR n) (Tryd.f9.body.getD .skip).a2.a2.a2.a2.a1.a2.a1 := aH (t := KZ) (b := fun v R A K => pK n v.1 v.2.1 v.2.2.1 v.2.2.2.1 v.2.2.2.2.1 v.2.2.2.2.2.1 v.2.2.2.2.2.2 R (fun z0 z1 z2 z3 z4 z5 z6 => A (z0, z1, z2, z3, z4, z5, z6)) K) (f := fun m v => mW n m v.1 v.2.1 v.2.2.1 v.2.2.2.1 v.2.2.2.2.1 v.2.2.2.2.2.1 v.2.2.2.2.2.2) (m := (fun e => match e with | .ret => ([2], none) | .exit 2 => ([3], none) | .normal => ([1, 3, 73, 74, 75], none) | _ => ([], none))) n (.s .a (.s .a (.s (.u (.s .a (.s (.p (aA ([1, 3, 6, 7, 73, 74, 75], none) (FP n))) .a))) .a))) (by intro s v w h; unfold FQ at h; split at h <;> first | (cases h; rfl) | cases h) (fun _ _ _ _ => by kernel_rfl) (by intros; unfold pK; simp only [aS]) (fun _ => rfl) (fun _ _ => rfl) (fun _ => rfl) (fun _ _ _ _ _ _ => by kernel_rfl) (fun _ _ _ _ _ _ => by kernel_rfl) (by intro e n h; split at h <;> cases h) (by kernel_rfl) (by kernel_rfl) (ai (aP [1, 3, 6, 7, 73, 74, 75] (Jt n)) trivial)
def zO (n : Nat) (a0 : List (List AV)) (a1 a2 : List Int) (a3 : Str) (R : Type) (K : Bool → Option R) : Option R := (Dk n a0 a1 a2 a3).bind fun o24 => (cond o24.1 (K false) ((mV n n (0 : Int) o24.2.1 (o24.2.1.length : Int) (0 : Int) o24.2.1 o24.2.2.1 o24.2.2.2.1 o24.2.2.2.2).bind fun o37 => (Sum.elim (fun o38 => K false) (fun o39 => (mW n n o39.2.2.2.1 (o39.2.2.2.1.length : Int) (0 : Int) o39.2.1 o39.2.2.1 o39.2.2.2.1 o39.2.2.2.2).bind fun o44 => (Sum.elim (fun o45 => K false) (fun o46 => K (decide (o39.1 ≤ (256 : Int)))) o44)) o37)))
def kT (n : Nat) (a0 : List (List AV)) (a1 a2 : List Int) (a3 : Str) : Option (Bool) := zO n a0 a1 a2 a3 _ some
def Jy : List AV → List AObj → Option ((List (List AV)) × (List Int) × (List Int) × Str)
  | [.agg [.sl false 3 a0, .ints false .i64 a1, .ints false .i64 a2, .str a3]], [] => some (a0, a1, a2, a3)
  | _, _ => none
def mX (n : Nat) : FSpec := iQ Jy (fun v => kT n v.1 v.2.1 v.2.2.1 v.2.2.2) (fun o => .bool o) (fun o => [])
theorem lm (n : Nat) : FSound Tryd.prog 9 (mX n) := aG (t := fun v => ⟨[(0, .agg [.sl false 3 v.1, .ints false .i64 v.2.1, .ints false .i64 v.2.2.1, .str v.2.2.2])], []⟩) (b := fun v R K => zO n v.1 v.2.1 v.2.2.1 v.2.2.2 R K) (nt := 110) (n := some 0) (rs := [.tmp 2]) (.s .a (.s (.s (.p (aA ([1], none) (FJ n))) .a) (.s .a (.s (.s .a (.u (.p (aA ([1, 3, 40, 41, 42], some 0) (FN n))))) (.s (.s .a (.u (.p (aA ([1, 3, 73, 74, 75], none) (FR n))))) .a))))) Tryd.func9 (by kernel_rfl) rfl rfl rfl (fun _ h => by injection h with h; exact h.symm) (by decide) (by kernel_rfl) (by intro s v w h; unfold Jy at h; split at h <;> first | (cases h; exact ⟨Nat.le_of_ble_eq_true rfl, rfl, rfl⟩) | cases h) (fun _ _ _ => by kernel_rfl) (by intros; unfold zO; simp only [aS]) (fun _ => by kernel_rfl) (by kernel_rfl) (by kernel_rfl) (ai (aP [1] (Ju n)) (ai (xZ [1, 3, 40, 41, 42] (Jv n)) (ai (aP [1, 3, 73, 74, 75] (Jw n)) trivial)))
def kU (n : Nat) : FSpec := CV J2
theorem nK (n : Nat) : FSound Tryd.prog 30 (kU n) := M0 Tryd.U3
def l9 (n : Nat) : FSpec := CV OW
theorem pM (n : Nat) : FSound Tryd.prog 42 (l9 n) := Qb Tryd.U2
def lT (n : Nat) : FSpec := CV Mo
theorem mY (n : Nat) : FSound Tryd.prog 27 (lT n) := OX Tryd.U4
def ib (n : Nat) (x1 x6 : Int) (h0_0 : List Int) (R : Type) (A_ : Int → Int → (List Int) → Option R) (K : ((List Int)) → Option R) : Option R := cond (decide (x6 ≥ (0 : Int))) (cond (decide ((IntKind.i64.wrap ((8 : Int) * x6)) < 0)) none (cond (decide (h0_0.length + 1 ≤ 140737488355328)) (A_ x1 (IntKind.i64.wrap (x6 - (1 : Int))) (h0_0 ++ [IntKind.u8.wrap (Int.fdiv x1 (2 ^ (min (IntKind.i64.wrap ((8 : Int) * x6)).toNat 64)))])) none)) (K h0_0)
def eP (n : Nat) : Nat → Int → Int → (List Int) → Option (((List Int)))
  | 0, _, _, _ => none
  | m + 1, x1, x6, h0_0 => ib n x1 x6 h0_0 _ (eP n m) some
def uO : St → Option ((Int × Int × (List Int)) × (Unit))
  | ⟨[(0, .ptr (some (0, 0))), (1, .int .i64 x1), (6, .int .i64 x6)], [.buf 1 68 h0_0]⟩ => some ((x1, x6, h0_0), ())
  | _ => none
def D9 (v : Int × Int × (List Int)) (w : Unit) : St := ⟨[(0, .ptr (some (0, 0))), (1, .int .i64 v.1), (6, .int .i64 v.2.1)], [.buf 1 68 v.2.2]⟩
def Ea (v : Int × Int × (List Int)) (o : ((List Int))) (w : Unit) (R : Type) (K : AExit → St → Option R) : Option R := K (.exit 0) ⟨[], [.buf 1 68 o]⟩
def uP (n : Nat) : Ex := xOf uO (fun v => eP n n v.1 v.2.1 v.2.2) Ea
theorem BP (n : Nat) : Snd ⟨Tryd.prog, 1, 22⟩ (uP n) (Tryd.f29.body.getD .skip).a2.a1 := aH (t := D9) (b := fun v R A K => ib n v.1 v.2.1 v.2.2 R (fun z0 z1 z2 => A (z0, z1, z2)) K) (f := fun m v => eP n m v.1 v.2.1 v.2.2) (m := (fun e => match e with | .exit 0 => ([], none) | .normal => ([0, 1, 6], none) | _ => ([], none))) n (.s .a (.s (.u (.d [(8, .cl 42 (l9 n))] [(0, .part [0]), (1, .part [0]), (2, .part [0]), (8, .all)])) .a)) (by intro s v w h; unfold uO at h; split at h <;> first | (cases h; rfl) | cases h) (fun _ _ _ _ => by kernel_rfl) (by intros; unfold ib; simp only [aS]) (fun _ => rfl) (fun _ _ => rfl) (fun _ => rfl) (fun _ _ _ _ _ _ => by kernel_rfl) (fun _ _ _ _ _ _ => by kernel_rfl) (by intro e n h; split at h <;> cases h) (by kernel_rfl) (by kernel_rfl) (ai (pM n) trivial)
def mE (n : Nat) (a0 a1 : Int) (h0 : List Int) (R : Type) (K : (List Int) → Option R) : Option R := (eP n n a0 (IntKind.i64.wrap (a1 - (1 : Int))) h0).bind fun o73 => (K o73)
def aW (n : Nat) (a0 a1 : Int) (h0 : List Int) : Option ((List Int)) := mE n a0 a1 h0 _ some
def yC : List AV → List AObj → Option (Int × Int × (List Int))
  | [.ptr (some (0, 0)), .int .i64 a0, .int .i64 a1], [.buf 1 68 h0] => some (a0, a1, h0)
  | _, _ => none
def eQ (n : Nat) : FSpec := iQ yC (fun v => aW n v.1 v.2.1 v.2.2) (fun o => .tuple []) (fun o => [.buf 1 68 o])
theorem eF (n : Nat) : FSound Tryd.prog 29 (eQ n) := aG (t := fun v => ⟨[(0, .ptr (some (0, 0))), (1, .int .i64 v.1), (2, .int .i64 v.2.1)], [.buf 1 68 v.2.2]⟩) (b := fun v R K => mE n v.1 v.2.1 v.2.2 R K) (nt := 22) (n := some 1) (rs := []) (.s .a (.u (.p (aA ([0, 1, 6], none) (uP n))))) Tryd.func29 (by kernel_rfl) rfl rfl rfl (fun _ h => by injection h with h; exact h.symm) (by decide) (by kernel_rfl) (by intro s v w h; unfold yC at h; split at h <;> first | (cases h; exact ⟨Nat.le_of_ble_eq_true rfl, rfl, rfl⟩) | cases h) (fun _ _ _ => by kernel_rfl) (by intros; unfold mE; simp only [aS]) (fun _ => by kernel_rfl) (by kernel_rfl) (by kernel_rfl) (ai (aP [0, 1, 6] (BP n)) trivial)
def jJ (n : Nat) (x31 : List Int) (x32 x33 : Int) (h0_0 : List Int) (h1_0 h1_1 h1_2 h1_3 h1_4 h1_5 h1_6 : Int) (R : Type) (A_ : (List Int) → Int → Int → (List Int) → Int → Int → Int → Int → Int → Int → Int → Option R) (K : ((List Int) × Int × Int × Int × Int × Int × Int × Int) → Option R) : Option R := cond (decide (x33 < x32)) (cond (decide (0 ≤ x33)) ((x31[x33.toNat]?).bind fun e72 => ((aW n e72 (4 : Int) h0_0).bind fun o74 => (A_ x31 x32 (IntKind.i64.wrap (x33 + (1 : Int))) o74 h1_0 h1_1 h1_2 h1_3 h1_4 h1_5 h1_6))) none) (K (h0_0, h1_0, h1_1, h1_2, h1_3, h1_4, h1_5, h1_6))
def gp (n : Nat) : Nat → (List Int) → Int → Int → (List Int) → Int → Int → Int → Int → Int → Int → Int → Option (((List Int) × Int × Int × Int × Int × Int × Int × Int))
  | 0, _, _, _, _, _, _, _, _, _, _, _ => none
  | m + 1, x31, x32, x33, h0_0, h1_0, h1_1, h1_2, h1_3, h1_4, h1_5, h1_6 => jJ n x31 x32 x33 h0_0 h1_0 h1_1 h1_2 h1_3 h1_4 h1_5 h1_6 _ (gp n m) some
def wS : St → Option (((List Int) × Int × Int × (List Int) × Int × Int × Int × Int × Int × Int × Int) × (Unit))
  | ⟨[(0, .ptr (some (0, 0))), (31, .ints true .i64 x31), (32, .int .i64 x32), (33, .int .i64 x33)], [.buf 1 68 h0_0, .cells 70 [.int .u8 h1_0, .int .i64 h1_1, .int .i64 h1_2, .int .i64 h1_3, .int .i64 h1_4, .int .i64 h1_5, .int .i64 h1_6]]⟩ => some ((x31, x32, x33, h0_0, h1_0, h1_1, h1_2, h1_3, h1_4, h1_5, h1_6), ())
  | _ => none
def FW (v : (List Int) × Int × Int × (List Int) × Int × Int × Int × Int × Int × Int × Int) (w : Unit) : St := ⟨[(0, .ptr (some (0, 0))), (31, .ints true .i64 v.1), (32, .int .i64 v.2.1), (33, .int .i64 v.2.2.1)], [.buf 1 68 v.2.2.2.1, .cells 70 [.int .u8 v.2.2.2.2.1, .int .i64 v.2.2.2.2.2.1, .int .i64 v.2.2.2.2.2.2.1, .int .i64 v.2.2.2.2.2.2.2.1, .int .i64 v.2.2.2.2.2.2.2.2.1, .int .i64 v.2.2.2.2.2.2.2.2.2.1, .int .i64 v.2.2.2.2.2.2.2.2.2.2]]⟩
def FX (v : (List Int) × Int × Int × (List Int) × Int × Int × Int × Int × Int × Int × Int) (o : ((List Int) × Int × Int × Int × Int × Int × Int × Int)) (w : Unit) (R : Type) (K : AExit → St → Option R) : Option R := K (.exit 0) ⟨[], [.buf 1 68 o.1, .cells 70 [.int .u8 o.2.1, .int .i64 o.2.2.1, .int .i64 o.2.2.2.1, .int .i64 o.2.2.2.2.1, .int .i64 o.2.2.2.2.2.1, .int .i64 o.2.2.2.2.2.2.1, .int .i64 o.2.2.2.2.2.2.2]]⟩
def wT (n : Nat) : Ex := xOf wS (fun v => gp n n v.1 v.2.1 v.2.2.1 v.2.2.2.1 v.2.2.2.2.1 v.2.2.2.2.2.1 v.2.2.2.2.2.2.1 v.2.2.2.2.2.2.2.1 v.2.2.2.2.2.2.2.2.1 v.2.2.2.2.2.2.2.2.2.1 v.2.2.2.2.2.2.2.2.2.2) FX
theorem Eb (n : Nat) : Snd ⟨Tryd.prog, 1, 41⟩ (wT n) (Tryd.f26.body.getD .skip).a2.a2.a2.a2.a2.a1 := aH (t := FW) (b := fun v R A K => jJ n v.1 v.2.1 v.2.2.1 v.2.2.2.1 v.2.2.2.2.1 v.2.2.2.2.2.1 v.2.2.2.2.2.2.1 v.2.2.2.2.2.2.2.1 v.2.2.2.2.2.2.2.2.1 v.2.2.2.2.2.2.2.2.2.1 v.2.2.2.2.2.2.2.2.2.2 R (fun z0 z1 z2 z3 z4 z5 z6 z7 z8 z9 z10 => A (z0, z1, z2, z3, z4, z5, z6, z7, z8, z9, z10)) K) (f := fun m v => gp n m v.1 v.2.1 v.2.2.1 v.2.2.2.1 v.2.2.2.2.1 v.2.2.2.2.2.1 v.2.2.2.2.2.2.1 v.2.2.2.2.2.2.2.1 v.2.2.2.2.2.2.2.2.1 v.2.2.2.2.2.2.2.2.2.1 v.2.2.2.2.2.2.2.2.2.2) (m := (fun e => match e with | .exit 0 => ([], none) | .normal => ([0, 31, 32, 33], none) | _ => ([], none))) n (.s .a (.s .a (.s (.u (.s .a (.r [(2, .cl 29 (eQ n))]))) .a))) (by intro s v w h; unfold wS at h; split at h <;> first | (cases h; rfl) | cases h) (fun _ _ _ _ => by kernel_rfl) (by intros; unfold jJ; simp only [aS]) (fun _ => rfl) (fun _ _ => rfl) (fun _ => rfl) (fun _ _ _ _ _ _ => by kernel_rfl) (fun _ _ _ _ _ _ => by kernel_rfl) (by intro e n h; split at h <;> cases h) (by kernel_rfl) (by kernel_rfl) (ai (eF n) trivial)
def oN (n : Nat) (a0 a1 a2 a3 a4 a5 a6 : Int) (h0 : List Int) (R : Type) (K : (List Int) → Option R) : Option R := cond (decide (0 < ([84, 90, 105, 102] : Str).length) && decide (h0.length + ([84, 90, 105, 102] : Str).length ≤ 140737488355328)) (cond (decide ((h0 ++ au ([84, 90, 105, 102] : Str)).length + 1 ≤ 140737488355328)) (cond (decide (0 < (List.replicate 15 0).length) && decide (((h0 ++ au ([84, 90, 105, 102] : Str)) ++ [(50 : Int)]).length + (List.replicate 15 0).length ≤ 140737488355328)) ((gp n n ([a1, a2, a3, a4, a5, a6] : List Int) (([a1, a2, a3, a4, a5, a6] : List Int).length : Int) (0 : Int) (((h0 ++ au ([84, 90, 105, 102] : Str)) ++ [(50 : Int)]) ++ (List.replicate 15 0)) a0 a1 a2 a3 a4 a5 a6).bind fun o75 => (K o75.1)) none) none) none
def lD (n : Nat) (a0 a1 a2 a3 a4 a5 a6 : Int) (h0 : List Int) : Option ((List Int)) := oN n a0 a1 a2 a3 a4 a5 a6 h0 _ some
def Bd : List AV → List AObj → Option (Int × Int × Int × Int × Int × Int × Int × (List Int))
  | [.ptr (some (0, 0)), .agg [.int .u8 a0, .int .i64 a1, .int .i64 a2, .int .i64 a3, .int .i64 a4, .int .i64 a5, .int .i64 a6]], [.buf 1 68 h0] => some (a0, a1, a2, a3, a4, a5, a6, h0)
  | _, _ => none
def tu (n : Nat) : FSpec := iQ Bd (fun v => lD n v.1 v.2.1 v.2.2.1 v.2.2.2.1 v.2.2.2.2.1 v.2.2.2.2.2.1 v.2.2.2.2.2.2.1 v.2.2.2.2.2.2.2) (fun o => .tuple []) (fun o => [.buf 1 68 o])
theorem vP (n : Nat) : FSound Tryd.prog 26 (tu n) := aG (t := fun v => ⟨[(0, .ptr (some (0, 0))), (1, .agg [.int .u8 v.1, .int .i64 v.2.1, .int .i64 v.2.2.1, .int .i64 v.2.2.2.1, .int .i64 v.2.2.2.2.1, .int .i64 v.2.2.2.2.2.1, .int .i64 v.2.2.2.2.2.2.1])], [.buf 1 68 v.2.2.2.2.2.2.2]⟩) (b := fun v R K => oN n v.1 v.2.1 v.2.2.1 v.2.2.2.1 v.2.2.2.2.1 v.2.2.2.2.2.1 v.2.2.2.2.2.2.1 v.2.2.2.2.2.2.2 R K) (nt := 41) (n := some 1) (rs := []) (.s .a (.s (.r [(3, .cl 30 (kU n))]) (.s (.r [(3, .cl 42 (l9 n))]) (.s (.d [(4, .cl 27 (lT n))] [(0, .part [0]), (1, .part [0]), (2, .part [0]), (4, .all)]) (.s .a (.u (.p (aA ([0, 31, 32, 33], none) (wT n))))))))) Tryd.func26 (by kernel_rfl) rfl rfl rfl (fun _ h => by injection h with h; exact h.symm) (by decide) (by kernel_rfl) (by intro s v w h; unfold Bd at h; split at h <;> first | (cases h; exact ⟨Nat.le_of_ble_eq_true rfl, rfl, rfl⟩) | cases h) (fun _ _ _ => by kernel_rfl) (by intros; unfold oN; simp only [aS]) (fun _ => by kernel_rfl) (by kernel_rfl) (by kernel_rfl) (ai (nK n) (ai (pM n) (ai (mY n) (ai (aP [0, 31, 32, 33] (Eb n)) trivial))))
def eG (n : Nat) (a0 a1 a2 a3 a4 a5 a6 a7 : Int) (R : Type) (K : Int → Option R) : Option R := K (IntKind.i64.wrap ((IntKind.i64.wrap ((IntKind.i64.wrap ((IntKind.i64.wrap ((IntKind.i64.wrap ((IntKind.i64.wrap (a4 * (IntKind.i64.wrap (a7 + (1 : Int))))) + (IntKind.i64.wrap (a5 * (6 : Int))))) + a6)) + (IntKind.i64.wrap (a3 * (IntKind.i64.wrap (a7 + (4 : Int))))))) + a2)) + a1))
def aO (n : Nat) (a0 a1 a2 a3 a4 a5 a6 a7 : Int) : Option (Int) := eG n a0 a1 a2 a3 a4 a5 a6 a7 _ some
def Ec : List AV → List AObj → Option (Int × Int × Int × Int × Int × Int × Int × Int)
  | [.agg [.int .u8 a0, .int .i64 a1, .int .i64 a2, .int .i64 a3, .int .i64 a4, .int .i64 a5, .int .i64 a6], .int .i64 a7], [] => some (a0, a1, a2, a3, a4, a5, a6, a7)
  | _, _ => none
def mF (n : Nat) : FSpec := iQ Ec (fun v => aO n v.1 v.2.1 v.2.2.1 v.2.2.2.1 v.2.2.2.2.1 v.2.2.2.2.2.1 v.2.2.2.2.2.2.1 v.2.2.2.2.2.2.2) (fun o => .int .i64 o) (fun o => [])
theorem mG (n : Nat) : FSound Tryd.prog 28 (mF n) := aG (t := fun v => ⟨[(0, .agg [.int .u8 v.1, .int .i64 v.2.1, .int .i64 v.2.2.1, .int .i64 v.2.2.2.1, .int .i64 v.2.2.2.2.1, .int .i64 v.2.2.2.2.2.1, .int .i64 v.2.2.2.2.2.2.1]), (1, .int .i64 v.2.2.2.2.2.2.2)], []⟩) (b := fun v R K => eG n v.1 v.2.1 v.2.2.1 v.2.2.2.1 v.2.2.2.2.1 v.2.2.2.2.2.1 v.2.2.2.2.2.2.1 v.2.2.2.2.2.2.2 R K) (nt := 29) (n := some 0) (rs := [.tmp 4]) .a Tryd.func28 (by kernel_rfl) rfl rfl rfl (fun _ h => by injection h with h; exact h.symm) (by decide) (by kernel_rfl) (by intro s v w h; unfold Ec at h; split at h <;> first | (cases h; exact ⟨Nat.le_of_ble_eq_true rfl, rfl, rfl⟩) | cases h) (fun _ _ _ => by kernel_rfl) (by intros; unfold eG; simp only [aS]) (fun _ => by kernel_rfl) (by kernel_rfl) (by kernel_rfl) trivial
def wU (n : Nat) : FSpec := bytes_sp
theorem Dl (n : Nat) : FSound Tryd.prog 31 (wU n) := Qc Tryd.U1
def tN (n : Nat) (x4 x5 : List Int) (x21 : List (List AV)) (x22 x23 : Int) (h0_0 : List (List AV)) (h0_1 h0_2 : List Int) (h0_3 : Str) (R : Type) (A_ : (List Int) → (List Int) → (List (List AV)) → Int → Int → (List (List AV)) → (List Int) → (List Int) → Str → Option R) (K : ((List Int) × (List Int) × (List (List AV)) × (List Int) × (List Int) × Str) → Option R) : Option R := cond (decide (x23 < x22)) (cond (decide (0 ≤ x23)) ((x21[x23.toNat]?).bind fun e138 => (unc e138 fun c139 r140 => jR .i64 c139 fun x141 => unc r140 fun c142 r143 => l5 c142 fun x144 => unc r143 fun c145 r146 => l6 c145 fun x147 => unn r146 (cond (decide ((x5.length + ([(x4.length : Int)] : List Int).length) * 8 ≤ 140737488355328)) (cond (decide ((x4.length + x147.length) * 1 ≤ 140737488355328)) (cond (decide (((x4 ++ (au x147)).length + ([(0 : Int)] : List Int).length) * 1 ≤ 140737488355328)) (A_ ((x4 ++ (au x147)) ++ ([(0 : Int)] : List Int)) (x5 ++ ([(x4.length : Int)] : List Int)) x21 x22 (IntKind.i64.wrap (x23 + (1 : Int))) h0_0 h0_1 h0_2 h0_3) none) none) none))) none) (K (x4, x5, h0_0, h0_1, h0_2, h0_3))
def qL (n : Nat) : Nat → (List Int) → (List Int) → (List (List AV)) → Int → Int → (List (List AV)) → (List Int) → (List Int) → Str → Option (((List Int) × (List Int) × (List (List AV)) × (List Int) × (List Int) × Str))
  | 0, _, _, _, _, _, _, _, _, _ => none
  | m + 1, x4, x5, x21, x22, x23, h0_0, h0_1, h0_2, h0_3 => tN n x4 x5 x21 x22 x23 h0_0 h0_1 h0_2 h0_3 _ (qL n m) some
def Ie : St → Option (((List Int) × (List Int) × (List (List AV)) × Int × Int × (List (List AV)) × (List Int) × (List Int) × Str) × (Unit))
  | ⟨[(1, .ptr (some (0, 0))), (4, .ints true .u8 x4), (5, .ints true .i64 x5), (21, .sl false 3 x21), (22, .int .i64 x22), (23, .int .i64 x23)], [.cells 26 [.sl false 3 h0_0, .ints false .i64 h0_1, .ints false .i64 h0_2, .str h0_3]]⟩ => some ((x4, x5, x21, x22, x23, h0_0, h0_1, h0_2, h0_3), ())
  | _ => none
def M3 (v : (List Int) × (List Int) × (List (List AV)) × Int × Int × (List (List AV)) × (List Int) × (List Int) × Str) (w : Unit) : St := ⟨[(1, .ptr (some (0, 0))), (4, .ints true .u8 v.1), (5, .ints true .i64 v.2.1), (21, .sl false 3 v.2.2.1), (22, .int .i64 v.2.2.2.1), (23, .int .i64 v.2.2.2.2.1)], [.cells 26 [.sl false 3 v.2.2.2.2.2.1, .ints false .i64 v.2.2.2.2.2.2.1, .ints false .i64 v.2.2.2.2.2.2.2.1, .str v.2.2.2.2.2.2.2.2]]⟩
def M4 (v : (List Int) × (List Int) × (List (List AV)) × Int × Int × (List (List AV)) × (List Int) × (List Int) × Str) (o : ((List Int) × (List Int) × (List (List AV)) × (List Int) × (List Int) × Str)) (w : Unit) (R : Type) (K : AExit → St → Option R) : Option R := K (.exit 0) ⟨[(1, .ptr (some (0, 0))), (4, .ints true .u8 o.1), (5, .ints true .i64 o.2.1)], [.cells 26 [.sl false 3 o.2.2.1, .ints false .i64 o.2.2.2.1, .ints false .i64 o.2.2.2.2.1, .str o.2.2.2.2.2]]⟩
def Ig (n : Nat) : Ex := xOf Ie (fun v => qL n n v.1 v.2.1 v.2.2.1 v.2.2.2.1 v.2.2.2.2.1 v.2.2.2.2.2.1 v.2.2.2.2.2.2.1 v.2.2.2.2.2.2.2.1 v.2.2.2.2.2.2.2.2) M4
def tO (n : Nat) (x64 : List Int) (x65 x66 : Int) (h0_0 : List (List AV)) (h0_1 h0_2 : List Int) (h0_3 : Str) (h1_0 h2_0 : List Int) (h3_0 h3_1 h3_2 h3_3 h3_4 h3_5 h3_6 : Int) (R : Type) (A_ : (List Int) → Int → Int → (List (List AV)) → (List Int) → (List Int) → Str → (List Int) → (List Int) → Int → Int → Int → Int → Int → Int → Int → Option R) (K : ((List (List AV)) × (List Int) × (List Int) × Str × (List Int) × (List Int) × Int × Int × Int × Int × Int × Int × Int) → Option R) : Option R := cond (decide (x66 < x65)) (cond (decide (0 ≤ x66)) ((x64[x66.toNat]?).bind fun e152 => ((aW n e152 (8 : Int) h2_0).bind fun o153 => (A_ x64 x65 (IntKind.i64.wrap (x66 + (1 : Int))) h0_0 h0_1 h0_2 h0_3 h1_0 o153 h3_0 h3_1 h3_2 h3_3 h3_4 h3_5 h3_6))) none) (K (h0_0, h0_1, h0_2, h0_3, h1_0, h2_0, h3_0, h3_1, h3_2, h3_3, h3_4, h3_5, h3_6))
def qM (n : Nat) : Nat → (List Int) → Int → Int → (List (List AV)) → (List Int) → (List Int) → Str → (List Int) → (List Int) → Int → Int → Int → Int → Int → Int → Int → Option (((List (List AV)) × (List Int) × (List Int) × Str × (List Int) × (List Int) × Int × Int × Int × Int × Int × Int × Int))
  | 0, _, _, _, _, _, _, _, _, _, _, _, _, _, _, _, _ => none
  | m + 1, x64, x65, x66, h0_0, h0_1, h0_2, h0_3, h1_0, h2_0, h3_0, h3_1, h3_2, h3_3, h3_4, h3_5, h3_6 => tO n x64 x65 x66 h0_0 h0_1 h0_2 h0_3 h1_0 h2_0 h3_0 h3_1 h3_2 h3_3 h3_4 h3_5 h3_6 _ (qM n m) some
def Ih : St → Option (((List Int) × Int × Int × (List (List AV)) × (List Int) × (List Int) × Str × (List Int) × (List Int) × Int × Int × Int × Int × Int × Int × Int) × (AV × AV × AV))
  | ⟨[(1, p1), (4, p4), (5, p5), (8, .ptr (some (2, 0))), (64, .ints false .i64 x64), (65, .int .i64 x65), (66, .int .i64 x66)], [.cells 26 [.sl false 3 h0_0, .ints false .i64 h0_1, .ints false .i64 h0_2, .str h0_3], .rowN .u8 h1_0, .buf 1 68 h2_0, .cells 70 [.int .u8 h3_0, .int .i64 h3_1, .int .i64 h3_2, .int .i64 h3_3, .int .i64 h3_4, .int .i64 h3_5, .int .i64 h3_6]]⟩ => some ((x64, x65, x66, h0_0, h0_1, h0_2, h0_3, h1_0, h2_0, h3_0, h3_1, h3_2, h3_3, h3_4, h3_5, h3_6), (p1, p4, p5))
  | _ => none
def M5 (v : (List Int) × Int × Int × (List (List AV)) × (List Int) × (List Int) × Str × (List Int) × (List Int) × Int × Int × Int × Int × Int × Int × Int) (w : AV × AV × AV) : St := ⟨[(1, w.1), (4, w.2.1), (5, w.2.2), (8, .ptr (some (2, 0))), (64, .ints false .i64 v.1), (65, .int .i64 v.2.1), (66, .int .i64 v.2.2.1)], [.cells 26 [.sl false 3 v.2.2.2.1, .ints false .i64 v.2.2.2.2.1, .ints false .i64 v.2.2.2.2.2.1, .str v.2.2.2.2.2.2.1], .rowN .u8 v.2.2.2.2.2.2.2.1, .buf 1 68 v.2.2.2.2.2.2.2.2.1, .cells 70 [.int .u8 v.2.2.2.2.2.2.2.2.2.1, .int .i64 v.2.2.2.2.2.2.2.2.2.2.1, .int .i64 v.2.2.2.2.2.2.2.2.2.2.2.1, .int .i64 v.2.2.2.2.2.2.2.2.2.2.2.2.1, .int .i64 v.2.2.2.2.2.2.2.2.2.2.2.2.2.1, .int .i64 v.2.2.2.2.2.2.2.2.2.2.2.2.2.2.1, .int .i64 v.2.2.2.2.2.2.2.2.2.2.2.2.2.2.2]]⟩
def M6 (v : (List Int) × Int × Int × (List (List AV)) × (List Int) × (List Int) × Str × (List Int) × (List Int) × Int × Int × Int × Int × Int × Int × Int) (o : ((List (List AV)) × (List Int) × (List Int) × Str × (List Int) × (List Int) × Int × Int × Int × Int × Int × Int × Int)) (w : AV × AV × AV) (R : Type) (K : AExit → St → Option R) : Option R := K (.exit 2) ⟨[(1, w.1), (4, w.2.1), (5, w.2.2), (8, .ptr (some (2, 0)))], [.cells 26 [.sl false 3 o.1, .ints false .i64 o.2.1, .ints false .i64 o.2.2.1, .str o.2.2.2.1], .rowN .u8 o.2.2.2.2.1, .buf 1 68 o.2.2.2.2.2.1, .cells 70 [.int .u8 o.2.2.2.2.2.2.1, .int .i64 o.2.2.2.2.2.2.2.1, .int .i64 o.2.2.2.2.2.2.2.2.1, .int .i64 o.2.2.2.2.2.2.2.2.2.1, .int .i64 o.2.2.2.2.2.2.2.2.2.2.1, .int .i64 o.2.2.2.2.2.2.2.2.2.2.2.1, .int .i64 o.2.2.2.2.2.2.2.2.2.2.2.2]]⟩
def Ii (n : Nat) : Ex := xOf Ih (fun v => qM n n v.1 v.2.1 v.2.2.1 v.2.2.2.1 v.2.2.2.2.1 v.2.2.2.2.2.1 v.2.2.2.2.2.2.1 v.2.2.2.2.2.2.2.1 v.2.2.2.2.2.2.2.2.1 v.2.2.2.2.2.2.2.2.2.1 v.2.2.2.2.2.2.2.2.2.2.1 v.2.2.2.2.2.2.2.2.2.2.2.1 v.2.2.2.2.2.2.2.2.2.2.2.2.1 v.2.2.2.2.2.2.2.2.2.2.2.2.2.1 v.2.2.2.2.2.2.2.2.2.2.2.2.2.2.1 v.2.2.2.2.2.2.2.2.2.2.2.2.2.2.2) M6
def tQ (n : Nat) (x75 : List Int) (x76 x77 : Int) (h0_0 : List (List AV)) (h0_1 h0_2 : List Int) (h0_3 : Str) (h1_0 h2_0 : List Int) (h3_0 h3_1 h3_2 h3_3 h3_4 h3_5 h3_6 : Int) (R : Type) (A_ : (List Int) → Int → Int → (List (List AV)) → (List Int) → (List Int) → Str → (List Int) → (List Int) → Int → Int → Int → Int → Int → Int → Int → Option R) (K : ((List (List AV)) × (List Int) × (List Int) × Str × (List Int) × (List Int) × Int × Int × Int × Int × Int × Int × Int) → Option R) : Option R := cond (decide (x77 < x76)) (cond (decide (0 ≤ x77)) ((x75[x77.toNat]?).bind fun e155 => ((aW n e155 (1 : Int) h2_0).bind fun o156 => (A_ x75 x76 (IntKind.i64.wrap (x77 + (1 : Int))) h0_0 h0_1 h0_2 h0_3 h1_0 o156 h3_0 h3_1 h3_2 h3_3 h3_4 h3_5 h3_6))) none) (K (h0_0, h0_1, h0_2, h0_3, h1_0, h2_0, h3_0, h3_1, h3_2, h3_3, h3_4, h3_5, h3_6))
def qN (n : Nat) : Nat → (List Int) → Int → Int → (List (List AV)) → (List Int) → (List Int) → Str → (List Int) → (List Int) → Int → Int → Int → Int → Int → Int → Int → Option (((List (List AV)) × (List Int) × (List Int) × Str × (List Int) × (List Int) × Int × Int × Int × Int × Int × Int × Int))
  | 0, _, _, _, _, _, _, _, _, _, _, _, _, _, _, _, _ => none
  | m + 1, x75, x76, x77, h0_0, h0_1, h0_2, h0_3, h1_0, h2_0, h3_0, h3_1, h3_2, h3_3, h3_4, h3_5, h3_6 => tQ n x75 x76 x77 h0_0 h0_1 h0_2 h0_3 h1_0 h2_0 h3_0 h3_1 h3_2 h3_3 h3_4 h3_5 h3_6 _ (qN n m) some
def Ij : St → Option (((List Int) × Int × Int × (List (List AV)) × (List Int) × (List Int) × Str × (List Int) × (List Int) × Int × Int × Int × Int × Int × Int × Int) × (AV × AV × AV))
  | ⟨[(1, p1), (4, p4), (5, p5), (8, .ptr (some (2, 0))), (75, .ints false .i64 x75), (76, .int .i64 x76), (77, .int .i64 x77)], [.cells 26 [.sl false 3 h0_0, .ints false .i64 h0_1, .ints false .i64 h0_2, .str h0_3], .rowN .u8 h1_0, .buf 1 68 h2_0, .cells 70 [.int .u8 h3_0, .int .i64 h3_1, .int .i64 h3_2, .int .i64 h3_3, .int .i64 h3_4, .int .i64 h3_5, .int .i64 h3_6]]⟩ => some ((x75, x76, x77, h0_0, h0_1, h0_2, h0_3, h1_0, h2_0, h3_0, h3_1, h3_2, h3_3, h3_4, h3_5, h3_6), (p1, p4, p5))
  | _ => none
def M7 (v : (List Int) × Int × Int × (List (List AV)) × (List Int) × (List Int) × Str × (List Int) × (List Int) × Int × Int × Int × Int × Int × Int × Int) (w : AV × AV × AV) : St := ⟨[(1, w.1), (4, w.2.1), (5, w.2.2), (8, .ptr (some (2, 0))), (75, .ints false .i64 v.1), (76, .int .i64 v.2.1), (77, .int .i64 v.2.2.1)], [.cells 26 [.sl false 3 v.2.2.2.1, .ints false .i64 v.2.2.2.2.1, .ints false .i64 v.2.2.2.2.2.1, .str v.2.2.2.2.2.2.1], .rowN .u8 v.2.2.2.2.2.2.2.1, .buf 1 68 v.2.2.2.2.2.2.2.2.1, .cells 70 [.int .u8 v.2.2.2.2.2.2.2.2.2.1, .int .i64 v.2.2.2.2.2.2.2.2.2.2.1, .int .i64 v.2.2.2.2.2.2.2.2.2.2.2.1, .int .i64 v.2.2.2.2.2.2.2.2.2.2.2.2.1, .int .i64 v.2.2.2.2.2.2.2.2.2.2.2.2.2.1, .int .i64 v.2.2.2.2.2.2.2.2.2.2.2.2.2.2.1, .int .i64 v.2.2.2.2.2.2.2.2.2.2.2.2.2.2.2]]⟩
def M8 (v : (List Int) × Int × Int × (List (List AV)) × (List Int) × (List Int) × Str × (List Int) × (List Int) × Int × Int × Int × Int × Int × Int × Int) (o : ((List (List AV)) × (List Int) × (List Int) × Str × (List Int) × (List Int) × Int × Int × Int × Int × Int × Int × Int)) (w : AV × AV × AV) (R : Type) (K : AExit → St → Option R) : Option R := K (.exit 4) ⟨[(1, w.1), (4, w.2.1), (5, w.2.2), (8, .ptr (some (2, 0)))], [.cells 26 [.sl false 3 o.1, .ints false .i64 o.2.1, .ints false .i64 o.2.2.1, .str o.2.2.2.1], .rowN .u8 o.2.2.2.2.1, .buf 1 68 o.2.2.2.2.2.1, .cells 70 [.int .u8 o.2.2.2.2.2.2.1, .int .i64 o.2.2.2.2.2.2.2.1, .int .i64 o.2.2.2.2.2.2.2.2.1, .int .i64 o.2.2.2.2.2.2.2.2.2.1, .int .i64 o.2.2.2.2.2.2.2.2.2.2.1, .int .i64 o.2.2.2.2.2.2.2.2.2.2.2.1, .int .i64 o.2.2.2.2.2.2.2.2.2.2.2.2]]⟩
def Ik (n : Nat) : Ex := xOf Ij (fun v => qN n n v.1 v.2.1 v.2.2.1 v.2.2.2.1 v.2.2.2.2.1 v.2.2.2.2.2.1 v.2.2.2.2.2.2.1 v.2.2.2.2.2.2.2.1 v.2.2.2.2.2.2.2.2.1 v.2.2.2.2.2.2.2.2.2.1 v.2.2.2.2.2.2.2.2.2.2.1 v.2.2.2.2.2.2.2.2.2.2.2.1 v.2.2.2.2.2.2.2.2.2.2.2.2.1 v.2.2.2.2.2.2.2.2.2.2.2.2.2.1 v.2.2.2.2.2.2.2.2.2.2.2.2.2.2.1 v.2.2.2.2.2.2.2.2.2.2.2.2.2.2.2) M8
def yh (n : Nat) (x16 : Int) (h0_0 : List (List AV)) (h0_1 h0_2 : List Int) (h0_3 : Str) (h1_0 : List Int) (h2_0 : Int) (h2_1 : Bool) (h2_2 : Str) (R : Type) (K : (Int × (List (List AV)) × (List Int) × (List Int) × Str × (List Int) × Int × Bool × Str) → Option R) : Option R := cond h2_1 (K ((1 : Int), h0_0, h0_1, h0_2, h0_3, h1_0, h2_0, h2_1, h2_2)) (K (x16, h0_0, h0_1, h0_2, h0_3, h1_0, h2_0, h2_1, h2_2))
def CX (n : Nat) (x16 : Int) (h0_0 : List (List AV)) (h0_1 h0_2 : List Int) (h0_3 : Str) (h1_0 : List Int) (h2_0 : Int) (h2_1 : Bool) (h2_2 : Str) : Option ((Int × (List (List AV)) × (List Int) × (List Int) × Str × (List Int) × Int × Bool × Str)) := yh n x16 h0_0 h0_1 h0_2 h0_3 h1_0 h2_0 h2_1 h2_2 _ some
def Il : St → Option ((Int × (List (List AV)) × (List Int) × (List Int) × Str × (List Int) × Int × Bool × Str) × (AV × AV × AV × AV × AV × AV × AV × AV))
  | ⟨[(1, p1), (4, p4), (5, p5), (8, p8), (14, p14), (15, .ptr (some (2, 0))), (16, .int .i64 x16), (86, p86), (87, p87), (88, p88)], [.cells 26 [.sl false 3 h0_0, .ints false .i64 h0_1, .ints false .i64 h0_2, .str h0_3], .buf 1 68 h1_0, .cells 54 [.int .i64 h2_0, .bool h2_1, .str h2_2]]⟩ => some ((x16, h0_0, h0_1, h0_2, h0_3, h1_0, h2_0, h2_1, h2_2), (p1, p4, p5, p8, p14, p86, p87, p88))
  | _ => none
def M9 (v : Int × (List (List AV)) × (List Int) × (List Int) × Str × (List Int) × Int × Bool × Str) (w : AV × AV × AV × AV × AV × AV × AV × AV) : St := ⟨[(1, w.1), (4, w.2.1), (5, w.2.2.1), (8, w.2.2.2.1), (14, w.2.2.2.2.1), (15, .ptr (some (2, 0))), (16, .int .i64 v.1), (86, w.2.2.2.2.2.1), (87, w.2.2.2.2.2.2.1), (88, w.2.2.2.2.2.2.2)], [.cells 26 [.sl false 3 v.2.1, .ints false .i64 v.2.2.1, .ints false .i64 v.2.2.2.1, .str v.2.2.2.2.1], .buf 1 68 v.2.2.2.2.2.1, .cells 54 [.int .i64 v.2.2.2.2.2.2.1, .bool v.2.2.2.2.2.2.2.1, .str v.2.2.2.2.2.2.2.2]]⟩
def Na (v : Int × (List (List AV)) × (List Int) × (List Int) × Str × (List Int) × Int × Bool × Str) (o : (Int × (List (List AV)) × (List Int) × (List Int) × Str × (List Int) × Int × Bool × Str)) (w : AV × AV × AV × AV × AV × AV × AV × AV) (R : Type) (K : AExit → St → Option R) : Option R := K .normal ⟨[(1, w.1), (4, w.2.1), (5, w.2.2.1), (8, w.2.2.2.1), (14, w.2.2.2.2.1), (16, .int .i64 o.1), (86, w.2.2.2.2.2.1), (87, w.2.2.2.2.2.2.1), (88, w.2.2.2.2.2.2.2)], [.cells 26 [.sl false 3 o.2.1, .ints false .i64 o.2.2.1, .ints false .i64 o.2.2.2.1, .str o.2.2.2.2.1], .buf 1 68 o.2.2.2.2.2.1, .cells 54 [.int .i64 o.2.2.2.2.2.2.1, .bool o.2.2.2.2.2.2.2.1, .str o.2.2.2.2.2.2.2.2]]⟩
def Im (n : Nat) : Ex := xOf Il (fun v => CX n v.1 v.2.1 v.2.2.1 v.2.2.2.1 v.2.2.2.2.1 v.2.2.2.2.2.1 v.2.2.2.2.2.2.1 v.2.2.2.2.2.2.2.1 v.2.2.2.2.2.2.2.2) Na
def tT (n : Nat) (x4 x5 : List Int) (x86 : List (List AV)) (x87 x88 : Int) (h0_0 : List (List AV)) (h0_1 h0_2 : List Int) (h0_3 : Str) (h1_0 : List Int) (R : Type) (A_ : (List Int) → (List Int) → (List (List AV)) → Int → Int → (List (List AV)) → (List Int) → (List Int) → Str → (List Int) → Option R) (K : ((List (List AV)) × (List Int) × (List Int) × Str × (List Int)) → Option R) : Option R := cond (decide (x88 < x87)) (cond (decide (0 ≤ x88)) ((x86[x88.toNat]?).bind fun e158 => (unc e158 fun c159 r160 => jR .i64 c159 fun x161 => unc r160 fun c162 r163 => l5 c162 fun x164 => unc r163 fun c165 r166 => l6 c165 fun x167 => unn r166 ((aW n x161 (4 : Int) h1_0).bind fun o168 => ((CX n (0 : Int) h0_0 h0_1 h0_2 h0_3 o168 x161 x164 x167).bind fun o169 => ((aW n o169.1 (1 : Int) o169.2.2.2.2.2.1).bind fun o170 => (cond (decide (0 ≤ x88)) ((x5[x88.toNat]?).bind fun e171 => ((aW n e171 (1 : Int) o170).bind fun o172 => (A_ x4 x5 x86 x87 (IntKind.i64.wrap (x88 + (1 : Int))) o169.2.1 o169.2.2.1 o169.2.2.2.1 o169.2.2.2.2.1 o172))) none)))))) none) (K (h0_0, h0_1, h0_2, h0_3, h1_0))
def qO (n : Nat) : Nat → (List Int) → (List Int) → (List (List AV)) → Int → Int → (List (List AV)) → (List Int) → (List Int) → Str → (List Int) → Option (((List (List AV)) × (List Int) × (List Int) × Str × (List Int)))
  | 0, _, _, _, _, _, _, _, _, _, _ => none
  | m + 1, x4, x5, x86, x87, x88, h0_0, h0_1, h0_2, h0_3, h1_0 => tT n x4 x5 x86 x87 x88 h0_0 h0_1 h0_2 h0_3 h1_0 _ (qO n m) some
def Io : St → Option (((List Int) × (List Int) × (List (List AV)) × Int × Int × (List (List AV)) × (List Int) × (List Int) × Str × (List Int)) × (Unit))
  | ⟨[(1, .ptr (some (0, 0))), (4, .ints true .u8 x4), (5, .ints true .i64 x5), (8, .ptr (some (1, 0))), (86, .sl false 3 x86), (87, .int .i64 x87), (88, .int .i64 x88)], [.cells 26 [.sl false 3 h0_0, .ints false .i64 h0_1, .ints false .i64 h0_2, .str h0_3], .buf 1 68 h1_0]⟩ => some ((x4, x5, x86, x87, x88, h0_0, h0_1, h0_2, h0_3, h1_0), ())
  | _ => none
def Nb (v : (List Int) × (List Int) × (List (List AV)) × Int × Int × (List (List AV)) × (List Int) × (List Int) × Str × (List Int)) (w : Unit) : St := ⟨[(1, .ptr (some (0, 0))), (4, .ints true .u8 v.1), (5, .ints true .i64 v.2.1), (8, .ptr (some (1, 0))), (86, .sl false 3 v.2.2.1), (87, .int .i64 v.2.2.2.1), (88, .int .i64 v.2.2.2.2.1)], [.cells 26 [.sl false 3 v.2.2.2.2.2.1, .ints false .i64 v.2.2.2.2.2.2.1, .ints false .i64 v.2.2.2.2.2.2.2.1, .str v.2.2.2.2.2.2.2.2.1], .buf 1 68 v.2.2.2.2.2.2.2.2.2]⟩
def Nc (v : (List Int) × (List Int) × (List (List AV)) × Int × Int × (List (List AV)) × (List Int) × (List Int) × Str × (List Int)) (o : ((List (List AV)) × (List Int) × (List Int) × Str × (List Int))) (w : Unit) (R : Type) (K : AExit → St → Option R) : Option R := K (.exit 6) ⟨[(1, .ptr (some (0, 0))), (4, .ints true .u8 v.1), (8, .ptr (some (1, 0)))], [.cells 26 [.sl false 3 o.1, .ints false .i64 o.2.1, .ints false .i64 o.2.2.1, .str o.2.2.2.1], .buf 1 68 o.2.2.2.2]⟩
def Ip (n : Nat) : Ex := xOf Io (fun v => qO n n v.1 v.2.1 v.2.2.1 v.2.2.2.1 v.2.2.2.2.1 v.2.2.2.2.2.1 v.2.2.2.2.2.2.1 v.2.2.2.2.2.2.2.1 v.2.2.2.2.2.2.2.2.1 v.2.2.2.2.2.2.2.2.2) Nc
theorem K4 (n : Nat) : Snd ⟨Tryd.prog, 0, 126⟩ (Im n) (Tryd.f13.body.getD .skip).a2.a2.a2.a2.a2.a2.a2.a2.a2.a2.a2.a2.a1.a2.a1.a1.a2.a2.a1.a1.a2.a2.a2.a1 := dA (t := M9) (b := fun v R K => yh n v.1 v.2.1 v.2.2.1 v.2.2.2.1 v.2.2.2.2.1 v.2.2.2.2.2.1 v.2.2.2.2.2.2.1 v.2.2.2.2.2.2.2.1 v.2.2.2.2.2.2.2.2 R K) (m := (fun e => match e with | .normal => ([1, 4, 5, 8, 14, 16, 86, 87, 88], none) | _ => ([], none))) .a (by intro s v w h; unfold Il at h; split at h <;> first | (cases h; rfl) | cases h) (fun _ _ _ _ => by kernel_rfl) (by intros; unfold yh; simp only [aS]) (fun _ => by kernel_rfl) (by intro e n h; split at h <;> cases h) (by kernel_rfl) (by kernel_rfl) trivial
theorem K5 (n : Nat) : Snd ⟨Tryd.prog, 0, 126⟩ (Ig n) (Tryd.f13.body.getD .skip).a2.a2.a2.a2.a1.a2.a1 := aH (t := M3) (b := fun v R A K => tN n v.1 v.2.1 v.2.2.1 v.2.2.2.1 v.2.2.2.2.1 v.2.2.2.2.2.1 v.2.2.2.2.2.2.1 v.2.2.2.2.2.2.2.1 v.2.2.2.2.2.2.2.2 R (fun z0 z1 z2 z3 z4 z5 z6 z7 z8 => A (z0, z1, z2, z3, z4, z5, z6, z7, z8)) K) (f := fun m v => qL n m v.1 v.2.1 v.2.2.1 v.2.2.2.1 v.2.2.2.2.1 v.2.2.2.2.2.1 v.2.2.2.2.2.2.1 v.2.2.2.2.2.2.2.1 v.2.2.2.2.2.2.2.2) (m := (fun e => match e with | .exit 0 => ([1, 4, 5], none) | .normal => ([1, 4, 5, 21, 22, 23], some 0) | _ => ([], none))) n (.s .a (.s .a (.s (.u (.s .a (.s (.r [(0, .tk [5]), (4, .tk [27]), (5, .tk [31])]) (.r [(0, .tk [4]), (3, .tk [32]), (5, .tk [35]), (6, .tk [37])])))) .a))) (by intro s v w h; unfold Ie at h; split at h <;> first | (cases h; rfl) | cases h) (fun _ _ _ _ => by kernel_rfl) (by intros; unfold tN; simp only [aS]) (fun _ => rfl) (fun _ _ => rfl) (fun _ => rfl) (fun _ _ _ _ _ _ => by kernel_rfl) (fun _ _ _ _ _ _ => by kernel_rfl) (by intro e n h; cases e <;> (first | cases h | (split at h <;> cases h)) <;> rfl) (by kernel_rfl) (by kernel_rfl) trivial
theorem K6 (n : Nat) : Snd ⟨Tryd.prog, 0, 126⟩ (Ii n) (Tryd.f13.body.getD .skip).a2.a2.a2.a2.a2.a2.a2.a2.a2.a2.a1.a2.a1 := aH (t := M5) (b := fun v R A K => tO n v.1 v.2.1 v.2.2.1 v.2.2.2.1 v.2.2.2.2.1 v.2.2.2.2.2.1 v.2.2.2.2.2.2.1 v.2.2.2.2.2.2.2.1 v.2.2.2.2.2.2.2.2.1 v.2.2.2.2.2.2.2.2.2.1 v.2.2.2.2.2.2.2.2.2.2.1 v.2.2.2.2.2.2.2.2.2.2.2.1 v.2.2.2.2.2.2.2.2.2.2.2.2.1 v.2.2.2.2.2.2.2.2.2.2.2.2.2.1 v.2.2.2.2.2.2.2.2.2.2.2.2.2.2.1 v.2.2.2.2.2.2.2.2.2.2.2.2.2.2.2 R (fun z0 z1 z2 z3 z4 z5 z6 z7 z8 z9 z10 z11 z12 z13 z14 z15 => A (z0, z1, z2, z3, z4, z5, z6, z7, z8, z9, z10, z11, z12, z13, z14, z15)) K) (f := fun m v => qM n m v.1 v.2.1 v.2.2.1 v.2.2.2.1 v.2.2.2.2.1 v.2.2.2.2.2.1 v.2.2.2.2.2.2.1 v.2.2.2.2.2.2.2.1 v.2.2.2.2.2.2.2.2.1 v.2.2.2.2.2.2.2.2.2.1 v.2.2.2.2.2.2.2.2.2.2.1 v.2.2.2.2.2.2.2.2.2.2.2.1 v.2.2.2.2.2.2.2.2.2.2.2.2.1 v.2.2.2.2.2.2.2.2.2.2.2.2.2.1 v.2.2.2.2.2.2.2.2.2.2.2.2.2.2.1 v.2.2.2.2.2.2.2.2.2.2.2.2.2.2.2) (m := (fun e => match e with | .exit 2 => ([1, 4, 5, 8], none) | .normal => ([1, 4, 5, 8, 64, 65, 66], none) | _ => ([], none))) n (.s .a (.s .a (.s (.u (.s .a (.r [(2, .cl 29 (eQ n))]))) .a))) (by intro s v w h; unfold Ih at h; split at h <;> first | (cases h; rfl) | cases h) (fun _ _ _ _ => by kernel_rfl) (by intros; unfold tO; simp only [aS]) (fun _ => rfl) (fun _ _ => rfl) (fun _ => rfl) (fun _ _ _ _ _ _ => by kernel_rfl) (fun _ _ _ _ _ _ => by kernel_rfl) (by intro e n h; split at h <;> cases h) (by kernel_rfl) (by kernel_rfl) (ai (eF n) trivial)
theorem K7 (n : Nat) : Snd ⟨Tryd.prog, 0, 126⟩ (Ik n) (Tryd.f13.body.getD .skip).a2.a2.a2.a2.a2.a2.a2.a2.a2.a2.a2.a1.a2.a1 := aH (t := M7) (b := fun v R A K => tQ n v.1 v.2.1 v.2.2.1 v.2.2.2.1 v.2.2.2.2.1 v.2.2.2.2.2.1 v.2.2.2.2.2.2.1 v.2.2.2.2.2.2.2.1 v.2.2.2.2.2.2.2.2.1 v.2.2.2.2.2.2.2.2.2.1 v.2.2.2.2.2.2.2.2.2.2.1 v.2.2.2.2.2.2.2.2.2.2.2.1 v.2.2.2.2.2.2.2.2.2.2.2.2.1 v.2.2.2.2.2.2.2.2.2.2.2.2.2.1 v.2.2.2.2.2.2.2.2.2.2.2.2.2.2.1 v.2.2.2.2.2.2.2.2.2.2.2.2.2.2.2 R (fun z0 z1 z2 z3 z4 z5 z6 z7 z8 z9 z10 z11 z12 z13 z14 z15 => A (z0, z1, z2, z3, z4, z5, z6, z7, z8, z9, z10, z11, z12, z13, z14, z15)) K) (f := fun m v => qN n m v.1 v.2.1 v.2.2.1 v.2.2.2.1 v.2.2.2.2.1 v.2.2.2.2.2.1 v.2.2.2.2.2.2.1 v.2.2.2.2.2.2.2.1 v.2.2.2.2.2.2.2.2.1 v.2.2.2.2.2.2.2.2.2.1 v.2.2.2.2.2.2.2.2.2.2.1 v.2.2.2.2.2.2.2.2.2.2.2.1 v.2.2.2.2.2.2.2.2.2.2.2.2.1 v.2.2.2.2.2.2.2.2.2.2.2.2.2.1 v.2.2.2.2.2.2.2.2.2.2.2.2.2.2.1 v.2.2.2.2.2.2.2.2.2.2.2.2.2.2.2) (m := (fun e => match e with | .exit 4 => ([1, 4, 5, 8], none) | .normal => ([1, 4, 5, 8, 75, 76, 77], none) | _ => ([], none))) n (.s .a (.s .a (.s (.u (.s .a (.r [(2, .cl 29 (eQ n))]))) .a))) (by intro s v w h; unfold Ij at h; split at h <;> first | (cases h; rfl) | cases h) (fun _ _ _ _ => by kernel_rfl) (by intros; unfold tQ; simp only [aS]) (fun _ => rfl) (fun _ _ => rfl) (fun _ => rfl) (fun _ _ _ _ _ _ => by kernel_rfl) (fun _ _ _ _ _ _ => by kernel_rfl) (by intro e n h; split at h <;> cases h) (by kernel_rfl) (by kernel_rfl) (ai (eF n) trivial)
theorem K8 (n : Nat) : Snd ⟨Tryd.prog, 0, 126⟩ (Ip n) (Tryd.f13.body.getD .skip).a2.a2.a2.a2.a2.a2.a2.a2.a2.a2.a2.a2.a1.a2.a1 := aH (t := Nb) (b := fun v R A K => tT n v.1 v.2.1 v.2.2.1 v.2.2.2.1 v.2.2.2.2.1 v.2.2.2.2.2.1 v.2.2.2.2.2.2.1 v.2.2.2.2.2.2.2.1 v.2.2.2.2.2.2.2.2.1 v.2.2.2.2.2.2.2.2.2 R (fun z0 z1 z2 z3 z4 z5 z6 z7 z8 z9 => A (z0, z1, z2, z3, z4, z5, z6, z7, z8, z9)) K) (f := fun m v => qO n m v.1 v.2.1 v.2.2.1 v.2.2.2.1 v.2.2.2.2.1 v.2.2.2.2.2.1 v.2.2.2.2.2.2.1 v.2.2.2.2.2.2.2.1 v.2.2.2.2.2.2.2.2.1 v.2.2.2.2.2.2.2.2.2) (m := (fun e => match e with | .exit 6 => ([1, 4, 8], none) | .normal => ([1, 4, 5, 8, 86, 87, 88], some 0) | _ => ([], none))) n (.s .a (.s .a (.s (.u (.s .a (.s (.r [(3, .cl 29 (eQ n))]) (.s .a (.s (.p (aA ([1, 4, 5, 8, 14, 15, 16, 86, 87, 88], none) (Im n))) (.s (.r [(2, .cl 29 (eQ n))]) (.r [(5, .cl 29 (eQ n))]))))))) .a))) (by intro s v w h; unfold Io at h; split at h <;> first | (cases h; rfl) | cases h) (fun _ _ _ _ => by kernel_rfl) (by intros; unfold tT; simp only [aS]) (fun _ => rfl) (fun _ _ => rfl) (fun _ => rfl) (fun _ _ _ _ _ _ => by kernel_rfl) (fun _ _ _ _ _ _ => by kernel_rfl) (by intro e n h; cases e <;> (first | cases h | (split at h <;> cases h)) <;> rfl) (by kernel_rfl) (by kernel_rfl) (ai (eF n) (ai (aP [1, 4, 5, 8, 14, 15, 16, 86, 87, 88] (K4 n)) (ai (eF n) (ai (eF n) trivial))))
def EY (n : Nat) (a0 : List (List AV)) (a1 a2 : List Int) (a3 : Str) (R : Type) (K : ((List Int) × Int) → Option R) : Option R := (kT n a0 a1 a2 a3).bind fun o137 => (cond (!o137) (K (([] : List Int), (2 : Int))) ((qL n n ([] : List Int) ([] : List Int) a0 (a0.length : Int) (0 : Int) a0 a1 a2 a3).bind fun o148 => ((lD n (0 : Int) (0 : Int) (0 : Int) (0 : Int) (0 : Int) (1 : Int) (1 : Int) ([] : List Int)).bind fun o149 => ((aO n (0 : Int) (0 : Int) (0 : Int) (0 : Int) (0 : Int) (1 : Int) (1 : Int) (4 : Int)).bind fun o150 => (cond (decide (0 ≤ o150)) (cond (decide (o150 * 1 ≤ 140737488355328)) (cond (decide (0 < (List.replicate o150.toNat 0).length) && decide (o149.length + (List.replicate o150.toNat 0).length ≤ 140737488355328)) ((lD n (0 : Int) (0 : Int) (0 : Int) (0 : Int) (o148.2.2.2.1.length : Int) (o148.2.2.1.length : Int) (o148.1.length : Int) (o149 ++ (List.replicate o150.toNat 0))).bind fun o151 => ((qM n n o148.2.2.2.1 (o148.2.2.2.1.length : Int) (0 : Int) o148.2.2.1 o148.2.2.2.1 o148.2.2.2.2.1 o148.2.2.2.2.2 ([] : List Int) o151 (0 : Int) (0 : Int) (0 : Int) (0 : Int) (0 : Int) (1 : Int) (1 : Int)).bind fun o154 => ((qN n n o154.2.2.1 (o154.2.2.1.length : Int) (0 : Int) o154.1 o154.2.1 o154.2.2.1 o154.2.2.2.1 o154.2.2.2.2.1 o154.2.2.2.2.2.1 o154.2.2.2.2.2.2.1 o154.2.2.2.2.2.2.2.1 o154.2.2.2.2.2.2.2.2.1 o154.2.2.2.2.2.2.2.2.2.1 o154.2.2.2.2.2.2.2.2.2.2.1 o154.2.2.2.2.2.2.2.2.2.2.2.1 o154.2.2.2.2.2.2.2.2.2.2.2.2).bind fun o157 => ((qO n n o148.1 o148.2.1 o157.1 (o157.1.length : Int) (0 : Int) o157.1 o157.2.1 o157.2.2.1 o157.2.2.2.1 o157.2.2.2.2.2.1).bind fun o173 => (cond (decide (0 < o148.1.length) && decide (o173.2.2.2.2.length + o148.1.length ≤ 140737488355328)) (cond (decide (([10] : Str).length + o173.2.2.2.1.length ≤ 9223372036854775807)) (cond (decide ((([10] : Str) ++ o173.2.2.2.1).length + ([10] : Str).length ≤ 9223372036854775807)) (cond (decide (0 < ((([10] : Str) ++ o173.2.2.2.1) ++ ([10] : Str)).length) && decide ((o173.2.2.2.2 ++ o148.1).length + ((([10] : Str) ++ o173.2.2.2.1) ++ ([10] : Str)).length ≤ 140737488355328)) (K ((o173.2.2.2.2 ++ o148.1) ++ au ((([10] : Str) ++ o173.2.2.2.1) ++ ([10] : Str)), (0 : Int))) none) none) none) none))))) none) none) none)))))
def mZ (n : Nat) (a0 : List (List AV)) (a1 a2 : List Int) (a3 : Str) : Option ((List Int) × Int) := EY n a0 a1 a2 a3 _ some
def Mq : List AV → List AObj → Option ((List (List AV)) × (List Int) × (List Int) × Str)
  | [.agg [.sl false 3 a0, .ints false .i64 a1, .ints false .i64 a2, .str a3]], [] => some (a0, a1, a2, a3)
  | _, _ => none
def uQ (n : Nat) : FSpec := iQ Mq (fun v => mZ n v.1 v.2.1 v.2.2.1 v.2.2.2) (fun o => .tuple [.ints false .u8 o.1, .int .i64 o.2]) (fun o => [])
theorem qP (n : Nat) : FSound Tryd.prog 13 (uQ n) := aG (t := fun v => ⟨[(0, .agg [.sl false 3 v.1, .ints false .i64 v.2.1, .ints false .i64 v.2.2.1, .str v.2.2.2])], []⟩) (b := fun v R K => EY n v.1 v.2.1 v.2.2.1 v.2.2.2 R K) (nt := 126) (n := some 0) (rs := [.tmp 2, .tmp 3]) (.s (.r [(1, .nn)]) (.s (.s (.r [(1, .cl 9 (mX n))]) (.s (.s (.r [(0, .nn)]) .a) .a)) (.s .a (.s .a (.s (.s .a (.u (.p (aA ([1, 4, 5, 21, 22, 23], some 0) (Ig n))))) (.s (.r [(0, .bb), (1, .bb)]) (.s .a (.s (.r [(2, .cl 26 (tu n))]) (.s (.d [(4, .cl 28 (mF n)), (6, .cl 27 (lT n))] [(0, .peek [2] [2]), (1, .peek [2] [2]), (2, .peek [2] [2]), (3, .peek [3] [3]), (4, .part []), (6, .all)]) (.s (.r [(10, .cl 26 (tu n))]) (.s (.s .a (.u (.p (aA ([1, 4, 5, 8, 64, 65, 66], none) (Ii n))))) (.s (.s .a (.u (.p (aA ([1, 4, 5, 8, 75, 76, 77], none) (Ik n))))) (.s (.s .a (.u (.p (aA ([1, 4, 5, 8, 86, 87, 88], some 0) (Ip n))))) (.s (.r [(3, .tk [4]), (4, .cl 27 (lT n))]) (.s (.d [(7, .cl 30 (kU n))] [(0, .part [1]), (1, .part [1]), (2, .part [1]), (3, .part [0]), (4, .part [0]), (7, .all)]) (.s (.r [(3, .cl 31 (wU n))]) .a)))))))))))))))) Tryd.func13 (by kernel_rfl) rfl rfl rfl (fun _ h => by injection h with h; exact h.symm) (by decide) (by kernel_rfl) (by intro s v w h; unfold Mq at h; split at h <;> first | (cases h; exact ⟨Nat.le_of_ble_eq_true rfl, rfl, rfl⟩) | cases h) (fun _ _ _ => by kernel_rfl) (by intros; unfold EY; simp only [aS]) (fun _ => by kernel_rfl) (by kernel_rfl) (by kernel_rfl) (ai (lm n) (ai (xZ [1, 4, 5, 21, 22, 23] (K5 n)) (ai (vP n) (ai (mG n) (ai (mY n) (ai (vP n) (ai (aP [1, 4, 5, 8, 64, 65, 66] (K6 n)) (ai (aP [1, 4, 5, 8, 75, 76, 77] (K7 n)) (ai (xZ [1, 4, 5, 8, 86, 87, 88] (K8 n)) (ai (mY n) (ai (nK n) (ai (Dl n) trivial))))))))))))
def lU (n : Nat) (x1 : Int) (h0_0 : List Int) (h0_1 : Bool) (R : Type) (K : (Bool × (List Int) × Bool) → Option R) : Option R := cond (decide (x1 < (0 : Int))) (K (true, h0_0, h0_1)) (K (decide (x1 > (h0_0.length : Int)), h0_0, h0_1))
def tC (n : Nat) (x1 : Int) (h0_0 : List Int) (h0_1 : Bool) : Option ((Bool × (List Int) × Bool)) := lU n x1 h0_0 h0_1 _ some
def wV : St → Option ((Int × (List Int) × Bool) × (Unit))
  | ⟨[(0, .ptr (some (0, 0))), (1, .int .i64 x1)], [.cells 88 [.ints false .u8 h0_0, .bool h0_1]]⟩ => some ((x1, h0_0, h0_1), ())
  | _ => none
def FY (v : Int × (List Int) × Bool) (w : Unit) : St := ⟨[(0, .ptr (some (0, 0))), (1, .int .i64 v.1)], [.cells 88 [.ints false .u8 v.2.1, .bool v.2.2]]⟩
def FZ (v : Int × (List Int) × Bool) (o : (Bool × (List Int) × Bool)) (w : Unit) (R : Type) (K : AExit → St → Option R) : Option R := K .normal ⟨[(0, .ptr (some (0, 0))), (1, .int .i64 v.1), (16, .bool o.1)], [.cells 88 [.ints false .u8 o.2.1, .bool o.2.2]]⟩
def wW (n : Nat) : Ex := xOf wV (fun v => tC n v.1 v.2.1 v.2.2) FZ
theorem Ed (n : Nat) : Snd ⟨Tryd.prog, 1, 39⟩ (wW n) (Tryd.f48.body.getD .skip).a2.a1.a1 := dA (t := FY) (b := fun v R K => lU n v.1 v.2.1 v.2.2 R K) (m := (fun e => match e with | .normal => ([0, 1, 16], none) | _ => ([], none))) .a (by intro s v w h; unfold wV at h; split at h <;> first | (cases h; rfl) | cases h) (fun _ _ _ _ => by kernel_rfl) (by intros; unfold lU; simp only [aS]) (fun _ => by kernel_rfl) (by intro e n h; split at h <;> cases h) (by kernel_rfl) (by kernel_rfl) trivial
def oO (n : Nat) (a0 : Int) (h0 : List Int) (h1 : Bool) (R : Type) (K : ((List Int) × (List Int) × Bool) → Option R) : Option R := (tC n a0 h0 h1).bind fun o176 => (cond o176.1 (K (([] : List Int), ([] : List Int), true)) (cond (decide (0 ≤ a0)) (cond (decide (a0 ≤ (o176.2.1.length : Int))) (cond (decide (0 ≤ a0)) (cond (decide (a0 ≤ (o176.2.1.length : Int))) (K ((o176.2.1.take a0.toNat).drop 0, o176.2.1.drop a0.toNat, o176.2.2)) none) none) none) none))
def bU (n : Nat) (a0 : Int) (h0 : List Int) (h1 : Bool) : Option ((List Int) × (List Int) × Bool) := oO n a0 h0 h1 _ some
def Be : List AV → List AObj → Option (Int × (List Int) × Bool)
  | [.ptr (some (0, 0)), .int .i64 a0], [.cells 88 [.ints false .u8 h0, .bool h1]] => some (a0, h0, h1)
  | _, _ => none
def dB (n : Nat) : FSpec := iQ Be (fun v => bU n v.1 v.2.1 v.2.2) (fun o => .ints false .u8 o.1) (fun o => [.cells 88 [.ints false .u8 o.2.1, .bool o.2.2]])
theorem cK (n : Nat) : FSound Tryd.prog 48 (dB n) := aG (t := fun v => ⟨[(0, .ptr (some (0, 0))), (1, .int .i64 v.1)], [.cells 88 [.ints false .u8 v.2.1, .bool v.2.2]]⟩) (b := fun v R K => oO n v.1 v.2.1 v.2.2 R K) (nt := 39) (n := some 1) (rs := [.tmp 4]) (.s (.r [(0, .nn)]) (.s (.s (.p (aA ([0, 1], none) (wW n))) (.s (.s (.r [(7, .nn)]) (.s (.r [(0, .nn)]) .a)) .a)) .a)) Tryd.func48 (by kernel_rfl) rfl rfl rfl (fun _ h => by injection h with h; exact h.symm) (by decide) (by kernel_rfl) (by intro s v w h; unfold Be at h; split at h <;> first | (cases h; exact ⟨Nat.le_of_ble_eq_true rfl, rfl, rfl⟩) | cases h) (fun _ _ _ => by kernel_rfl) (by intros; unfold oO; simp only [aS]) (fun _ => by kernel_rfl) (by kernel_rfl) (by kernel_rfl) (ai (aP [0, 1] (Ed n)) trivial)
def iV (n : Nat) (x4 : Int) (x9 : List Int) (x10 x11 : Int) (h0_0 : List Int) (h0_1 : Bool) (R : Type) (A_ : Int → (List Int) → Int → Int → (List Int) → Bool → Option R) (K : (Int × (List Int) × Bool) → Option R) : Option R := cond (decide (x11 < x10)) (cond (decide (0 ≤ x11)) ((x9[x11.toNat]?).bind fun e180 => (A_ (IntKind.i64.wrap ((BitVec.ofInt 64 (IntKind.i64.wrap (x4 * 2 ^ 8)) ||| BitVec.ofInt 64 (IntKind.i64.wrap e180)).toNat : Int)) x9 x10 (IntKind.i64.wrap (x11 + (1 : Int))) h0_0 h0_1)) none) (K (x4, h0_0, h0_1))
def fE (n : Nat) : Nat → Int → (List Int) → Int → Int → (List Int) → Bool → Option ((Int × (List Int) × Bool))
  | 0, _, _, _, _, _, _ => none
  | m + 1, x4, x9, x10, x11, h0_0, h0_1 => iV n x4 x9 x10 x11 h0_0 h0_1 _ (fE n m) some
def vQ : St → Option ((Int × (List Int) × Int × Int × (List Int) × Bool) × (Unit))
  | ⟨[(4, .int .i64 x4), (9, .ints false .u8 x9), (10, .int .i64 x10), (11, .int .i64 x11)], [.cells 88 [.ints false .u8 h0_0, .bool h0_1]]⟩ => some ((x4, x9, x10, x11, h0_0, h0_1), ())
  | _ => none
def EZ (v : Int × (List Int) × Int × Int × (List Int) × Bool) (w : Unit) : St := ⟨[(4, .int .i64 v.1), (9, .ints false .u8 v.2.1), (10, .int .i64 v.2.2.1), (11, .int .i64 v.2.2.2.1)], [.cells 88 [.ints false .u8 v.2.2.2.2.1, .bool v.2.2.2.2.2]]⟩
def E5 (v : Int × (List Int) × Int × Int × (List Int) × Bool) (o : (Int × (List Int) × Bool)) (w : Unit) (R : Type) (K : AExit → St → Option R) : Option R := K (.exit 0) ⟨[(4, .int .i64 o.1)], [.cells 88 [.ints false .u8 o.2.1, .bool o.2.2]]⟩
def vR (n : Nat) : Ex := xOf vQ (fun v => fE n n v.1 v.2.1 v.2.2.1 v.2.2.2.1 v.2.2.2.2.1 v.2.2.2.2.2) E5
theorem Dm (n : Nat) : Snd ⟨Tryd.prog, 1, 22⟩ (vR n) (Tryd.f57.body.getD .skip).a2.a1.a2.a1 := aH (t := EZ) (b := fun v R A K => iV n v.1 v.2.1 v.2.2.1 v.2.2.2.1 v.2.2.2.2.1 v.2.2.2.2.2 R (fun z0 z1 z2 z3 z4 z5 => A (z0, z1, z2, z3, z4, z5)) K) (f := fun m v => fE n m v.1 v.2.1 v.2.2.1 v.2.2.2.1 v.2.2.2.2.1 v.2.2.2.2.2) (m := (fun e => match e with | .exit 0 => ([4], none) | .normal => ([4, 9, 10, 11], none) | _ => ([], none))) n .a (by intro s v w h; unfold vQ at h; split at h <;> first | (cases h; rfl) | cases h) (fun _ _ _ _ => by kernel_rfl) (by intros; unfold iV; simp only [aS]) (fun _ => rfl) (fun _ _ => rfl) (fun _ => rfl) (fun _ _ _ _ _ _ => by kernel_rfl) (fun _ _ _ _ _ _ => by kernel_rfl) (by intro e n h; split at h <;> cases h) (by kernel_rfl) (by kernel_rfl) trivial
def nD (n : Nat) (a0 : Int) (h0 : List Int) (h1 : Bool) (R : Type) (K : (Int × (List Int) × Bool) → Option R) : Option R := (bU n a0 h0 h1).bind fun o179 => ((fE n n (0 : Int) o179.1 (o179.1.length : Int) (0 : Int) o179.2.1 o179.2.2).bind fun o181 => (K (o181.1, o181.2.1, o181.2.2)))
def bz (n : Nat) (a0 : Int) (h0 : List Int) (h1 : Bool) : Option (Int × (List Int) × Bool) := nD n a0 h0 h1 _ some
def zA : List AV → List AObj → Option (Int × (List Int) × Bool)
  | [.ptr (some (0, 0)), .int .i64 a0], [.cells 88 [.ints false .u8 h0, .bool h1]] => some (a0, h0, h1)
  | _, _ => none
def fF (n : Nat) : FSpec := iQ zA (fun v => bz n v.1 v.2.1 v.2.2) (fun o => .int .i64 o.1) (fun o => [.cells 88 [.ints false .u8 o.2.1, .bool o.2.2]])
theorem ic (n : Nat) : FSound Tryd.prog 57 (fF n) := aG (t := fun v => ⟨[(0, .ptr (some (0, 0))), (1, .int .i64 v.1)], [.cells 88 [.ints false .u8 v.2.1, .bool v.2.2]]⟩) (b := fun v R K => nD n v.1 v.2.1 v.2.2 R K) (nt := 22) (n := some 1) (rs := [.tmp 4]) (.s .a (.s (.s (.r [(2, .cl 48 (dB n))]) (.u (.p (aA ([4, 9, 10, 11], none) (vR n))))) .a)) Tryd.func57 (by kernel_rfl) rfl rfl rfl (fun _ h => by injection h with h; exact h.symm) (by decide) (by kernel_rfl) (by intro s v w h; unfold zA at h; split at h <;> first | (cases h; exact ⟨Nat.le_of_ble_eq_true rfl, rfl, rfl⟩) | cases h) (fun _ _ _ => by kernel_rfl) (by intros; unfold nD; simp only [aS]) (fun _ => by kernel_rfl) (by kernel_rfl) (by kernel_rfl) (ai (cK n) (ai (aP [4, 9, 10, 11] (Dm n)) trivial))
def lV (n : Nat) (h0_0 : List Int) (h0_1 : Bool) (h1_0 h1_1 h1_2 h1_3 h1_4 h1_5 h1_6 : Int) (R : Type) (K : ((List Int) × Bool × Int × Int × Int × Int × Int × Int × Int) → Option R) : Option R := (bU n (4 : Int) h0_0 h0_1).bind fun o177 => (cond (!((strOf o177.1) == ([84, 90, 105, 102] : Str))) (K (o177.2.1, true, h1_0, h1_1, h1_2, h1_3, h1_4, h1_5, h1_6)) (K (o177.2.1, o177.2.2, h1_0, h1_1, h1_2, h1_3, h1_4, h1_5, h1_6)))
def nE (n : Nat) (h0_0 : List Int) (h0_1 : Bool) (h1_0 h1_1 h1_2 h1_3 h1_4 h1_5 h1_6 : Int) : Option (((List Int) × Bool × Int × Int × Int × Int × Int × Int × Int)) := lV n h0_0 h0_1 h1_0 h1_1 h1_2 h1_3 h1_4 h1_5 h1_6 _ some
def wX : St → Option (((List Int) × Bool × Int × Int × Int × Int × Int × Int × Int) × (AV))
  | ⟨[(0, .ptr (some (0, 0))), (2, p2)], [.cells 88 [.ints false .u8 h0_0, .bool h0_1], .cells 70 [.int .u8 h1_0, .int .i64 h1_1, .int .i64 h1_2, .int .i64 h1_3, .int .i64 h1_4, .int .i64 h1_5, .int .i64 h1_6]]⟩ => some ((h0_0, h0_1, h1_0, h1_1, h1_2, h1_3, h1_4, h1_5, h1_6), p2)
  | _ => none
def F3 (v : (List Int) × Bool × Int × Int × Int × Int × Int × Int × Int) (w : AV) : St := ⟨[(0, .ptr (some (0, 0))), (2, w)], [.cells 88 [.ints false .u8 v.1, .bool v.2.1], .cells 70 [.int .u8 v.2.2.1, .int .i64 v.2.2.2.1, .int .i64 v.2.2.2.2.1, .int .i64 v.2.2.2.2.2.1, .int .i64 v.2.2.2.2.2.2.1, .int .i64 v.2.2.2.2.2.2.2.1, .int .i64 v.2.2.2.2.2.2.2.2]]⟩
def F4 (v : (List Int) × Bool × Int × Int × Int × Int × Int × Int × Int) (o : ((List Int) × Bool × Int × Int × Int × Int × Int × Int × Int)) (w : AV) (R : Type) (K : AExit → St → Option R) : Option R := K .normal ⟨[(0, .ptr (some (0, 0))), (2, w)], [.cells 88 [.ints false .u8 o.1, .bool o.2.1], .cells 70 [.int .u8 o.2.2.1, .int .i64 o.2.2.2.1, .int .i64 o.2.2.2.2.1, .int .i64 o.2.2.2.2.2.1, .int .i64 o.2.2.2.2.2.2.1, .int .i64 o.2.2.2.2.2.2.2.1, .int .i64 o.2.2.2.2.2.2.2.2]]⟩
def wY (n : Nat) : Ex := xOf wX (fun v => nE n v.1 v.2.1 v.2.2.1 v.2.2.2.1 v.2.2.2.2.1 v.2.2.2.2.2.1 v.2.2.2.2.2.2.1 v.2.2.2.2.2.2.2.1 v.2.2.2.2.2.2.2.2) F4
theorem Ee (n : Nat) : Snd ⟨Tryd.prog, 1, 64⟩ (wY n) (Tryd.f45.body.getD .skip).a2.a1 := dA (t := F3) (b := fun v R K => lV n v.1 v.2.1 v.2.2.1 v.2.2.2.1 v.2.2.2.2.1 v.2.2.2.2.2.1 v.2.2.2.2.2.2.1 v.2.2.2.2.2.2.2.1 v.2.2.2.2.2.2.2.2 R K) (m := (fun e => match e with | .normal => ([0, 2], none) | _ => ([], none))) (.r [(2, .cl 48 (dB n))]) (by intro s v w h; unfold wX at h; split at h <;> first | (cases h; rfl) | cases h) (fun _ _ _ _ => by kernel_rfl) (by intros; unfold lV; simp only [aS]) (fun _ => by kernel_rfl) (by intro e n h; split at h <;> cases h) (by kernel_rfl) (by kernel_rfl) (ai (cK n) trivial)
def oP (n : Nat) (h0 : List Int) (h1 : Bool) (R : Type) (K : (Int × Int × Int × Int × Int × Int × Int × (List Int) × Bool) → Option R) : Option R := (nE n h0 h1 (0 : Int) (0 : Int) (0 : Int) (0 : Int) (0 : Int) (0 : Int) (0 : Int)).bind fun o178 => ((bz n (1 : Int) o178.1 o178.2.1).bind fun o182 => ((bU n (15 : Int) o182.2.1 o182.2.2).bind fun o183 => (cond (decide ((0 : Int) < (6 : Int))) ((bz n (4 : Int) o183.2.1 o183.2.2).bind fun o185 => (cond (decide ((IntKind.i64.wrap ((0 : Int) + (1 : Int))) < (6 : Int))) ((bz n (4 : Int) o185.2.1 o185.2.2).bind fun o187 => (cond (decide ((IntKind.i64.wrap ((IntKind.i64.wrap ((0 : Int) + (1 : Int))) + (1 : Int))) < (6 : Int))) ((bz n (4 : Int) o187.2.1 o187.2.2).bind fun o189 => (cond (decide ((IntKind.i64.wrap ((IntKind.i64.wrap ((IntKind.i64.wrap ((0 : Int) + (1 : Int))) + (1 : Int))) + (1 : Int))) < (6 : Int))) ((bz n (4 : Int) o189.2.1 o189.2.2).bind fun o191 => (cond (decide ((IntKind.i64.wrap ((IntKind.i64.wrap ((IntKind.i64.wrap ((IntKind.i64.wrap ((0 : Int) + (1 : Int))) + (1 : Int))) + (1 : Int))) + (1 : Int))) < (6 : Int))) ((bz n (4 : Int) o191.2.1 o191.2.2).bind fun o193 => (cond (decide ((IntKind.i64.wrap ((IntKind.i64.wrap ((IntKind.i64.wrap ((IntKind.i64.wrap ((IntKind.i64.wrap ((0 : Int) + (1 : Int))) + (1 : Int))) + (1 : Int))) + (1 : Int))) + (1 : Int))) < (6 : Int))) ((bz n (4 : Int) o193.2.1 o193.2.2).bind fun o195 => (cond (decide ((IntKind.i64.wrap ((IntKind.i64.wrap ((IntKind.i64.wrap ((IntKind.i64.wrap ((IntKind.i64.wrap ((IntKind.i64.wrap ((0 : Int) + (1 : Int))) + (1 : Int))) + (1 : Int))) + (1 : Int))) + (1 : Int))) + (1 : Int))) < (6 : Int))) (none) (cond o195.2.2 (K (IntKind.u8.wrap o182.1, o185.1, o187.1, o189.1, o191.1, o193.1, o195.1, o195.2.1, true)) (cond ((IntKind.u8.wrap o182.1) != (0 : Int)) (cond ((IntKind.u8.wrap o182.1) != (50 : Int)) (K (IntKind.u8.wrap o182.1, o185.1, o187.1, o189.1, o191.1, o193.1, o195.1, o195.2.1, (IntKind.u8.wrap o182.1) != (51 : Int))) (K (IntKind.u8.wrap o182.1, o185.1, o187.1, o189.1, o191.1, o193.1, o195.1, o195.2.1, false))) (K (IntKind.u8.wrap o182.1, o185.1, o187.1, o189.1, o191.1, o193.1, o195.1, o195.2.1, false)))))) (cond o193.2.2 (K (IntKind.u8.wrap o182.1, o185.1, o187.1, o189.1, o191.1, o193.1, o178.2.2.2.2.2.2.2.2, o193.2.1, true)) (cond ((IntKind.u8.wrap o182.1) != (0 : Int)) (cond ((IntKind.u8.wrap o182.1) != (50 : Int)) (K (IntKind.u8.wrap o182.1, o185.1, o187.1, o189.1, o191.1, o193.1, o178.2.2.2.2.2.2.2.2, o193.2.1, (IntKind.u8.wrap o182.1) != (51 : Int))) (K (IntKind.u8.wrap o182.1, o185.1, o187.1, o189.1, o191.1, o193.1, o178.2.2.2.2.2.2.2.2, o193.2.1, false))) (K (IntKind.u8.wrap o182.1, o185.1, o187.1, o189.1, o191.1, o193.1, o178.2.2.2.2.2.2.2.2, o193.2.1, false)))))) (cond o191.2.2 (K (IntKind.u8.wrap o182.1, o185.1, o187.1, o189.1, o191.1, o178.2.2.2.2.2.2.2.1, o178.2.2.2.2.2.2.2.2, o191.2.1, true)) (cond ((IntKind.u8.wrap o182.1) != (0 : Int)) (cond ((IntKind.u8.wrap o182.1) != (50 : Int)) (K (IntKind.u8.wrap o182.1, o185.1, o187.1, o189.1, o191.1, o178.2.2.2.2.2.2.2.1, o178.2.2.2.2.2.2.2.2, o191.2.1, (IntKind.u8.wrap o182.1) != (51 : Int))) (K (IntKind.u8.wrap o182.1, o185.1, o187.1, o189.1, o191.1, o178.2.2.2.2.2.2.2.1, o178.2.2.2.2.2.2.2.2, o191.2.1, false))) (K (IntKind.u8.wrap o182.1, o185.1, o187.1, o189.1, o191.1, o178.2.2.2.2.2.2.2.1, o178.2.2.2.2.2.2.2.2, o191.2.1, false)))))) (cond o189.2.2 (K (IntKind.u8.wrap o182.1, o185.1, o187.1, o189.1, o178.2.2.2.2.2.2.1, o178.2.2.2.2.2.2.2.1, o178.2.2.2.2.2.2.2.2, o189.2.1, true)) (cond ((IntKind.u8.wrap o182.1) != (0 : Int)) (cond ((IntKind.u8.wrap o182.1) != (50 : Int)) (K (IntKind.u8.wrap o182.1, o185.1, o187.1, o189.1, o178.2.2.2.2.2.2.1, o178.2.2.2.2.2.2.2.1, o178.2.2.2.2.2.2.2.2, o189.2.1, (IntKind.u8.wrap o182.1) != (51 : Int))) (K (IntKind.u8.wrap o182.1, o185.1, o187.1, o189.1, o178.2.2.2.2.2.2.1, o178.2.2.2.2.2.2.2.1, o178.2.2.2.2.2.2.2.2, o189.2.1, false))) (K (IntKind.u8.wrap o182.1, o185.1, o187.1, o189.1, o178.2.2.2.2.2.2.1, o178.2.2.2.2.2.2.2.1, o178.2.2.2.2.2.2.2.2, o189.2.1, false)))))) (cond o187.2.2 (K (IntKind.u8.wrap o182.1, o185.1, o187.1, o178.2.2.2.2.2.1, o178.2.2.2.2.2.2.1, o178.2.2.2.2.2.2.2.1, o178.2.2.2.2.2.2.2.2, o187.2.1, true)) (cond ((IntKind.u8.wrap o182.1) != (0 : Int)) (cond ((IntKind.u8.wrap o182.1) != (50 : Int)) (K (IntKind.u8.wrap o182.1, o185.1, o187.1, o178.2.2.2.2.2.1, o178.2.2.2.2.2.2.1, o178.2.2.2.2.2.2.2.1, o178.2.2.2.2.2.2.2.2, o187.2.1, (IntKind.u8.wrap o182.1) != (51 : Int))) (K (IntKind.u8.wrap o182.1, o185.1, o187.1, o178.2.2.2.2.2.1, o178.2.2.2.2.2.2.1, o178.2.2.2.2.2.2.2.1, o178.2.2.2.2.2.2.2.2, o187.2.1, false))) (K (IntKind.u8.wrap o182.1, o185.1, o187.1, o178.2.2.2.2.2.1, o178.2.2.2.2.2.2.1, o178.2.2.2.2.2.2.2.1, o178.2.2.2.2.2.2.2.2, o187.2.1, false)))))) (cond o185.2.2 (K (IntKind.u8.wrap o182.1, o185.1, o178.2.2.2.2.1, o178.2.2.2.2.2.1, o178.2.2.2.2.2.2.1, o178.2.2.2.2.2.2.2.1, o178.2.2.2.2.2.2.2.2, o185.2.1, true)) (cond ((IntKind.u8.wrap o182.1) != (0 : Int)) (cond ((IntKind.u8.wrap o182.1) != (50 : Int)) (K (IntKind.u8.wrap o182.1, o185.1, o178.2.2.2.2.1, o178.2.2.2.2.2.1, o178.2.2.2.2.2.2.1, o178.2.2.2.2.2.2.2.1, o178.2.2.2.2.2.2.2.2, o185.2.1, (IntKind.u8.wrap o182.1) != (51 : Int))) (K (IntKind.u8.wrap o182.1, o185.1, o178.2.2.2.2.1, o178.2.2.2.2.2.1, o178.2.2.2.2.2.2.1, o178.2.2.2.2.2.2.2.1, o178.2.2.2.2.2.2.2.2, o185.2.1, false))) (K (IntKind.u8.wrap o182.1, o185.1, o178.2.2.2.2.1, o178.2.2.2.2.2.1, o178.2.2.2.2.2.2.1, o178.2.2.2.2.2.2.2.1, o178.2.2.2.2.2.2.2.2, o185.2.1, false)))))) (cond o183.2.2 (K (IntKind.u8.wrap o182.1, o178.2.2.2.1, o178.2.2.2.2.1, o178.2.2.2.2.2.1, o178.2.2.2.2.2.2.1, o178.2.2.2.2.2.2.2.1, o178.2.2.2.2.2.2.2.2, o183.2.1, true)) (cond ((IntKind.u8.wrap o182.1) != (0 : Int)) (cond ((IntKind.u8.wrap o182.1) != (50 : Int)) (K (IntKind.u8.wrap o182.1, o178.2.2.2.1, o178.2.2.2.2.1, o178.2.2.2.2.2.1, o178.2.2.2.2.2.2.1, o178.2.2.2.2.2.2.2.1, o178.2.2.2.2.2.2.2.2, o183.2.1, (IntKind.u8.wrap o182.1) != (51 : Int))) (K (IntKind.u8.wrap o182.1, o178.2.2.2.1, o178.2.2.2.2.1, o178.2.2.2.2.2.1, o178.2.2.2.2.2.2.1, o178.2.2.2.2.2.2.2.1, o178.2.2.2.2.2.2.2.2, o183.2.1, false))) (K (IntKind.u8.wrap o182.1, o178.2.2.2.1, o178.2.2.2.2.1, o178.2.2.2.2.2.1, o178.2.2.2.2.2.2.1, o178.2.2.2.2.2.2.2.1, o178.2.2.2.2.2.2.2.2, o183.2.1, false)))))))
def lF (n : Nat) (h0 : List Int) (h1 : Bool) : Option (Int × Int × Int × Int × Int × Int × Int × (List Int) × Bool) := oP n h0 h1 _ some
def Bf : List AV → List AObj → Option ((List Int) × Bool)
  | [.ptr (some (0, 0))], [.cells 88 [.ints false .u8 h0, .bool h1]] => some (h0, h1)
  | _, _ => none
def tF (n : Nat) : FSpec := iQ Bf (fun v => lF n v.1 v.2) (fun o => .agg [.int .u8 o.1, .int .i64 o.2.1, .int .i64 o.2.2.1, .int .i64 o.2.2.2.1, .int .i64 o.2.2.2.2.1, .int .i64 o.2.2.2.2.2.1, .int .i64 o.2.2.2.2.2.2.1]) (fun o => [.cells 88 [.ints false .u8 o.2.2.2.2.2.2.2.1, .bool o.2.2.2.2.2.2.2.2]])
theorem vS (n : Nat) : FSound Tryd.prog 45 (tF n) := aG (t := fun v => ⟨[(0, .ptr (some (0, 0)))], [.cells 88 [.ints false .u8 v.1, .bool v.2]]⟩) (b := fun v R K => oP n v.1 v.2 R K) (nt := 64) (n := some 1) (rs := [.cell 2 70 7 true]) (.s .a (.s (.p (aA ([0, 2], none) (wY n))) (.s (.r [(1, .cl 57 (fF n))]) (.s (.r [(1, .cl 48 (dB n))]) (.s (.s .a (.u (.p (DY (comp Tryd.prog (Tryd.f45.body.getD .skip).a2.a2.a2.a2.a1.a2.a1.a1 (.s .a (.s .a (.s (.u (.s .a (.r [(2, .cl 57 (fF n))]))) .a)))) 24)))) .a))))) Tryd.func45 (by kernel_rfl) rfl rfl rfl (fun _ h => by injection h with h; exact h.symm) (by decide) (by kernel_rfl) (by intro s v w h; unfold Bf at h; split at h <;> first | (cases h; exact ⟨Nat.le_of_ble_eq_true rfl, rfl, rfl⟩) | cases h) (fun _ _ _ => by kernel_rfl) (by intros; unfold oP; simp only [aS]) (fun _ => by kernel_rfl) (by kernel_rfl) (by kernel_rfl) (ai (aP [0, 2] (Ee n)) (ai (ic n) (ai (cK n) (ai (Q5 (c := ⟨Tryd.prog, 1, 64⟩) (cd := (Tryd.f45.body.getD .skip).a2.a2.a2.a2.a1.a2.a1.a1) 24 (.s .a (.s .a (.s (.u (.s .a (.r [(2, .cl 57 (fF n))]))) .a))) (by kernel_rfl) (by kernel_rfl) (ai (ic n) trivial)) trivial))))
def qc (n : Nat) (a0 h0 h1 h2 h3 h4 h5 h6 : Int) (R : Type) (K : (Bool × Int × Int × Int × Int × Int × Int × Int) → Option R) : Option R := cond (a0 == (0 : Int)) (K (true, h0, h1, h2, h3, h4, h5, h6)) (K (a0 == h5, h0, h1, h2, h3, h4, h5, h6))
def mH (n : Nat) (a0 h0 h1 h2 h3 h4 h5 h6 : Int) : Option (Bool × Int × Int × Int × Int × Int × Int × Int) := qc n a0 h0 h1 h2 h3 h4 h5 h6 _ some
def CY : List AV → List AObj → Option (Int × Int × Int × Int × Int × Int × Int × Int)
  | [.int .i64 a0, .ptr (some (0, 0))], [.cells 70 [.int .u8 h0, .int .i64 h1, .int .i64 h2, .int .i64 h3, .int .i64 h4, .int .i64 h5, .int .i64 h6]] => some (a0, h0, h1, h2, h3, h4, h5, h6)
  | _, _ => none
def uJ (n : Nat) : FSpec := iQ CY (fun v => mH n v.1 v.2.1 v.2.2.1 v.2.2.2.1 v.2.2.2.2.1 v.2.2.2.2.2.1 v.2.2.2.2.2.2.1 v.2.2.2.2.2.2.2) (fun o => .bool o.1) (fun o => [.cells 70 [.int .u8 o.2.1, .int .i64 o.2.2.1, .int .i64 o.2.2.2.1, .int .i64 o.2.2.2.2.1, .int .i64 o.2.2.2.2.2.1, .int .i64 o.2.2.2.2.2.2.1, .int .i64 o.2.2.2.2.2.2.2]])
theorem wZ (n : Nat) : FSound Tryd.prog 69 (uJ n) := aG (t := fun v => ⟨[(0, .int .i64 v.1), (1, .ptr (some (0, 0)))], [.cells 70 [.int .u8 v.2.1, .int .i64 v.2.2.1, .int .i64 v.2.2.2.1, .int .i64 v.2.2.2.2.1, .int .i64 v.2.2.2.2.2.1, .int .i64 v.2.2.2.2.2.2.1, .int .i64 v.2.2.2.2.2.2.2]]⟩) (b := fun v R K => qc n v.1 v.2.1 v.2.2.1 v.2.2.2.1 v.2.2.2.2.1 v.2.2.2.2.2.1 v.2.2.2.2.2.2.1 v.2.2.2.2.2.2.2 R K) (nt := 12) (n := some 1) (rs := [.tmp 3]) .a Tryd.func69 (by kernel_rfl) rfl rfl rfl (fun _ h => by injection h with h; exact h.symm) (by decide) (by kernel_rfl) (by intro s v w h; unfold CY at h; split at h <;> first | (cases h; exact ⟨Nat.le_of_ble_eq_true rfl, rfl, rfl⟩) | cases h) (fun _ _ _ => by kernel_rfl) (by intros; unfold qc; simp only [aS]) (fun _ => by kernel_rfl) (by kernel_rfl) (by kernel_rfl) trivial
def kI (n : Nat) (a0 a1 a2 a3 a4 a5 a6 : Int) (R : Type) (K : Bool → Option R) : Option R := cond (decide (a5 ≥ (1 : Int))) (cond (decide (a5 ≤ (255 : Int))) (cond (decide (a4 ≤ (4000 : Int))) (cond (decide (a6 ≥ (1 : Int))) (cond (decide (a6 ≤ (4096 : Int))) (cond (decide (a3 ≤ (1000 : Int))) ((mH n a2 a0 a1 a2 a3 a4 a5 a6).bind fun o198 => (cond o198.1 ((mH n o198.2.2.1 o198.2.1 o198.2.2.1 o198.2.2.2.1 o198.2.2.2.2.1 o198.2.2.2.2.2.1 o198.2.2.2.2.2.2.1 o198.2.2.2.2.2.2.2).bind fun o199 => (K o199.1)) (K false))) (K false)) (K false)) (K false)) (K false)) (K false)) (K false)
def eD (n : Nat) (a0 a1 a2 a3 a4 a5 a6 : Int) : Option (Bool) := kI n a0 a1 a2 a3 a4 a5 a6 _ some
def FT : List AV → List AObj → Option (Int × Int × Int × Int × Int × Int × Int)
  | [.agg [.int .u8 a0, .int .i64 a1, .int .i64 a2, .int .i64 a3, .int .i64 a4, .int .i64 a5, .int .i64 a6]], [] => some (a0, a1, a2, a3, a4, a5, a6)
  | _, _ => none
def xI (n : Nat) : FSpec := iQ FT (fun v => eD n v.1 v.2.1 v.2.2.1 v.2.2.2.1 v.2.2.2.2.1 v.2.2.2.2.2.1 v.2.2.2.2.2.2) (fun o => .bool o) (fun o => [])
theorem zB (n : Nat) : FSound Tryd.prog 58 (xI n) := aG (t := fun v => ⟨[(0, .agg [.int .u8 v.1, .int .i64 v.2.1, .int .i64 v.2.2.1, .int .i64 v.2.2.2.1, .int .i64 v.2.2.2.2.1, .int .i64 v.2.2.2.2.2.1, .int .i64 v.2.2.2.2.2.2])], []⟩) (b := fun v R K => kI n v.1 v.2.1 v.2.2.1 v.2.2.2.1 v.2.2.2.2.1 v.2.2.2.2.2.1 v.2.2.2.2.2.2 R K) (nt := 45) (n := some 0) (rs := [.tmp 2]) (.s .a (.s .a (.s (.r [(32, .cl 69 (uJ n)), (38, .cl 69 (uJ n))]) .a))) Tryd.func58 (by kernel_rfl) rfl rfl rfl (fun _ h => by injection h with h; exact h.symm) (by decide) (by kernel_rfl) (by intro s v w h; unfold FT at h; split at h <;> first | (cases h; exact ⟨Nat.le_of_ble_eq_true rfl, rfl, rfl⟩) | cases h) (fun _ _ _ => by kernel_rfl) (by intros; unfold kI; simp only [aS]) (fun _ => by kernel_rfl) (by kernel_rfl) (by kernel_rfl) (ai (wZ n) (ai (wZ n) trivial))
def nG (n : Nat) (h0 : List Int) (h1 : Bool) (R : Type) (K : (Int × (List Int) × Bool) → Option R) : Option R := (bz n (4 : Int) h0 h1).bind fun o203 => (K (IntKind.i64.wrap (IntKind.i32.wrap o203.1), o203.2.1, o203.2.2))
def kR (n : Nat) (h0 : List Int) (h1 : Bool) : Option (Int × (List Int) × Bool) := nG n h0 h1 _ some
def zC : List AV → List AObj → Option ((List Int) × Bool)
  | [.ptr (some (0, 0))], [.cells 88 [.ints false .u8 h0, .bool h1]] => some (h0, h1)
  | _, _ => none
def qQ (n : Nat) : FSpec := iQ zC (fun v => kR n v.1 v.2) (fun o => .int .i64 o.1) (fun o => [.cells 88 [.ints false .u8 o.2.1, .bool o.2.2]])
theorem uR (n : Nat) : FSound Tryd.prog 47 (qQ n) := aG (t := fun v => ⟨[(0, .ptr (some (0, 0)))], [.cells 88 [.ints false .u8 v.1, .bool v.2]]⟩) (b := fun v R K => nG n v.1 v.2 R K) (nt := 7) (n := some 1) (rs := [.tmp 2]) (.s .a (.s (.r [(1, .cl 57 (fF n))]) .a)) Tryd.func47 (by kernel_rfl) rfl rfl rfl (fun _ h => by injection h with h; exact h.symm) (by decide) (by kernel_rfl) (by intro s v w h; unfold zC at h; split at h <;> first | (cases h; exact ⟨Nat.le_of_ble_eq_true rfl, rfl, rfl⟩) | cases h) (fun _ _ _ => by kernel_rfl) (by intros; unfold nG; simp only [aS]) (fun _ => by kernel_rfl) (by kernel_rfl) (by kernel_rfl) (ai (ic n) trivial)
def kS (n : Nat) (x5 : List Int) (x6 x7 : Int) (h0_0 : List Int) (h0_1 : Bool) (R : Type) (A_ : (List Int) → Int → Int → (List Int) → Bool → Option R) (K : ((List Int) × (List Int) × Bool) → Option R) : Option R := cond (decide (x7 < x6)) ((kR n h0_0 h0_1).bind fun o204 => (cond (decide ((x5.length + ([o204.1] : List Int).length) * 8 ≤ 140737488355328)) (A_ (x5 ++ ([o204.1] : List Int)) x6 (IntKind.i64.wrap (x7 + (1 : Int))) o204.2.1 o204.2.2) none)) (K (x5, h0_0, h0_1))
def iW (n : Nat) : Nat → (List Int) → Int → Int → (List Int) → Bool → Option (((List Int) × (List Int) × Bool))
  | 0, _, _, _, _, _ => none
  | m + 1, x5, x6, x7, h0_0, h0_1 => kS n x5 x6 x7 h0_0 h0_1 _ (iW n m) some
def zD : St → Option (((List Int) × Int × Int × (List Int) × Bool) × (Unit))
  | ⟨[(1, .func (.func 47) [.ptr (some (0, 0))] []), (5, .ints true .i64 x5), (6, .int .i64 x6), (7, .int .i64 x7)], [.cells 88 [.ints false .u8 h0_0, .bool h0_1]]⟩ => some ((x5, x6, x7, h0_0, h0_1), ())
  | _ => none
def HY (v : (List Int) × Int × Int × (List Int) × Bool) (w : Unit) : St := ⟨[(1, .func (.func 47) [.ptr (some (0, 0))] []), (5, .ints true .i64 v.1), (6, .int .i64 v.2.1), (7, .int .i64 v.2.2.1)], [.cells 88 [.ints false .u8 v.2.2.2.1, .bool v.2.2.2.2]]⟩
def HZ (v : (List Int) × Int × Int × (List Int) × Bool) (o : ((List Int) × (List Int) × Bool)) (w : Unit) (R : Type) (K : AExit → St → Option R) : Option R := K (.exit 0) ⟨[(5, .ints true .i64 o.1)], [.cells 88 [.ints false .u8 o.2.1, .bool o.2.2]]⟩
def zF (n : Nat) : Ex := xOf zD (fun v => iW n n v.1 v.2.1 v.2.2.1 v.2.2.2.1 v.2.2.2.2) HZ
theorem F5 (n : Nat) : Snd ⟨Tryd.prog, 1, 16⟩ (zF n) (Tryd.f59.body.getD .skip).a2.a2.a1.a2.a1 := aH (t := HY) (b := fun v R A K => kS n v.1 v.2.1 v.2.2.1 v.2.2.2.1 v.2.2.2.2 R (fun z0 z1 z2 z3 z4 => A (z0, z1, z2, z3, z4)) K) (f := fun m v => iW n m v.1 v.2.1 v.2.2.1 v.2.2.2.1 v.2.2.2.2) (m := (fun e => match e with | .exit 0 => ([5], none) | .normal => ([1, 5, 6, 7], none) | _ => ([], none))) n (.s .a (.s .a (.s (.u (.r [(0, .tk [5]), (2, .cl 47 (qQ n)), (4, .tk [9]), (5, .tk [13])])) .a))) (by intro s v w h; unfold zD at h; split at h <;> first | (cases h; rfl) | cases h) (fun _ _ _ _ => by kernel_rfl) (by intros; unfold kS; simp only [aS]) (fun _ => rfl) (fun _ _ => rfl) (fun _ => rfl) (fun _ _ _ _ _ _ => by kernel_rfl) (fun _ _ _ _ _ _ => by kernel_rfl) (by intro e n h; split at h <;> cases h) (by kernel_rfl) (by kernel_rfl) (ai (uR n) trivial)
def nL (n : Nat) (a0 : Int) (h0 : List Int) (h1 : Bool) (R : Type) (K : ((List Int) × (List Int) × Bool) → Option R) : Option R := (iW n n ([] : List Int) a0 (0 : Int) h0 h1).bind fun o205 => (K (o205.1, o205.2.1, o205.2.2))
def rF (n : Nat) (a0 : Int) (h0 : List Int) (h1 : Bool) : Option ((List Int) × (List Int) × Bool) := nL n a0 h0 h1 _ some
def Ef : List AV → List AObj → Option (Int × (List Int) × Bool)
  | [.int .i64 a0, .func (.func 47) [.ptr (some (0, 0))] []], [.cells 88 [.ints false .u8 h0, .bool h1]] => some (a0, h0, h1)
  | _, _ => none
def CZ (n : Nat) : FSpec := iQ Ef (fun v => rF n v.1 v.2.1 v.2.2) (fun o => .ints true .i64 o.1) (fun o => [.cells 88 [.ints false .u8 o.2.1, .bool o.2.2]])
theorem Gx (n : Nat) : FSound Tryd.prog 59 (CZ n) := aG (t := fun v => ⟨[(0, .int .i64 v.1), (1, .func (.func 47) [.ptr (some (0, 0))] [])], [.cells 88 [.ints false .u8 v.2.1, .bool v.2.2]]⟩) (b := fun v R K => nL n v.1 v.2.1 v.2.2 R K) (nt := 16) (n := some 1) (rs := [.tmp 4]) (.s .a (.s .a (.s (.s .a (.u (.p (aA ([1, 5, 6, 7], none) (zF n))))) (.s (.r [(0, .tk [5]), (1, .tk [15])]) .a)))) Tryd.func59 (by kernel_rfl) rfl rfl rfl (fun _ h => by injection h with h; exact h.symm) (by decide) (by kernel_rfl) (by intro s v w h; unfold Ef at h; split at h <;> first | (cases h; exact ⟨Nat.le_of_ble_eq_true rfl, rfl, rfl⟩) | cases h) (fun _ _ _ => by kernel_rfl) (by intros; unfold nL; simp only [aS]) (fun _ => by kernel_rfl) (by kernel_rfl) (by kernel_rfl) (ai (aP [1, 5, 6, 7] (F5 n)) trivial)
def oQ (n : Nat) (h0 : List Int) (h1 : Bool) (R : Type) (K : (Int × (List Int) × Bool) → Option R) : Option R := (bz n (1 : Int) h0 h1).bind fun o207 => (K (o207.1, o207.2.1, o207.2.2))
def jP (n : Nat) (h0 : List Int) (h1 : Bool) : Option (Int × (List Int) × Bool) := oQ n h0 h1 _ some
def Bg : List AV → List AObj → Option ((List Int) × Bool)
  | [.ptr (some (0, 0))], [.cells 88 [.ints false .u8 h0, .bool h1]] => some (h0, h1)
  | _, _ => none
def nH (n : Nat) : FSpec := iQ Bg (fun v => jP n v.1 v.2) (fun o => .int .i64 o.1) (fun o => [.cells 88 [.ints false .u8 o.2.1, .bool o.2.2]])
theorem oU (n : Nat) : FSound Tryd.prog 61 (nH n) := aG (t := fun v => ⟨[(0, .ptr (some (0, 0)))], [.cells 88 [.ints false .u8 v.1, .bool v.2]]⟩) (b := fun v R K => oQ n v.1 v.2 R K) (nt := 5) (n := some 1) (rs := [.tmp 2]) (.s .a (.s (.r [(1, .cl 57 (fF n))]) .a)) Tryd.func61 (by kernel_rfl) rfl rfl rfl (fun _ h => by injection h with h; exact h.symm) (by decide) (by kernel_rfl) (by intro s v w h; unfold Bg at h; split at h <;> first | (cases h; exact ⟨Nat.le_of_ble_eq_true rfl, rfl, rfl⟩) | cases h) (fun _ _ _ => by kernel_rfl) (by intros; unfold oQ; simp only [aS]) (fun _ => by kernel_rfl) (by kernel_rfl) (by kernel_rfl) (ai (ic n) trivial)
def mI (n : Nat) (x5 : List Int) (x6 x7 : Int) (h0_0 : List Int) (h0_1 : Bool) (R : Type) (A_ : (List Int) → Int → Int → (List Int) → Bool → Option R) (K : ((List Int) × (List Int) × Bool) → Option R) : Option R := cond (decide (x7 < x6)) ((jP n h0_0 h0_1).bind fun o208 => (cond (decide ((x5.length + ([o208.1] : List Int).length) * 8 ≤ 140737488355328)) (A_ (x5 ++ ([o208.1] : List Int)) x6 (IntKind.i64.wrap (x7 + (1 : Int))) o208.2.1 o208.2.2) none)) (K (x5, h0_0, h0_1))
def kJ (n : Nat) : Nat → (List Int) → Int → Int → (List Int) → Bool → Option (((List Int) × (List Int) × Bool))
  | 0, _, _, _, _, _ => none
  | m + 1, x5, x6, x7, h0_0, h0_1 => mI n x5 x6 x7 h0_0 h0_1 _ (kJ n m) some
def C8 : St → Option (((List Int) × Int × Int × (List Int) × Bool) × (Unit))
  | ⟨[(1, .func (.func 61) [.ptr (some (0, 0))] []), (5, .ints true .i64 x5), (6, .int .i64 x6), (7, .int .i64 x7)], [.cells 88 [.ints false .u8 h0_0, .bool h0_1]]⟩ => some ((x5, x6, x7, h0_0, h0_1), ())
  | _ => none
def Jz (v : (List Int) × Int × Int × (List Int) × Bool) (w : Unit) : St := ⟨[(1, .func (.func 61) [.ptr (some (0, 0))] []), (5, .ints true .i64 v.1), (6, .int .i64 v.2.1), (7, .int .i64 v.2.2.1)], [.cells 88 [.ints false .u8 v.2.2.2.1, .bool v.2.2.2.2]]⟩
def JA (v : (List Int) × Int × Int × (List Int) × Bool) (o : ((List Int) × (List Int) × Bool)) (w : Unit) (R : Type) (K : AExit → St → Option R) : Option R := K (.exit 0) ⟨[(5, .ints true .i64 o.1)], [.cells 88 [.ints false .u8 o.2.1, .bool o.2.2]]⟩
def C9 (n : Nat) : Ex := xOf C8 (fun v => kJ n n v.1 v.2.1 v.2.2.1 v.2.2.2.1 v.2.2.2.2) JA
theorem H5 (n : Nat) : Snd ⟨Tryd.prog, 1, 16⟩ (C9 n) (Tryd.f60.body.getD .skip).a2.a2.a1.a2.a1 := aH (t := Jz) (b := fun v R A K => mI n v.1 v.2.1 v.2.2.1 v.2.2.2.1 v.2.2.2.2 R (fun z0 z1 z2 z3 z4 => A (z0, z1, z2, z3, z4)) K) (f := fun m v => kJ n m v.1 v.2.1 v.2.2.1 v.2.2.2.1 v.2.2.2.2) (m := (fun e => match e with | .exit 0 => ([5], none) | .normal => ([1, 5, 6, 7], none) | _ => ([], none))) n (.s .a (.s .a (.s (.u (.r [(0, .tk [5]), (2, .cl 61 (nH n)), (4, .tk [9]), (5, .tk [13])])) .a))) (by intro s v w h; unfold C8 at h; split at h <;> first | (cases h; rfl) | cases h) (fun _ _ _ _ => by kernel_rfl) (by intros; unfold mI; simp only [aS]) (fun _ => rfl) (fun _ _ => rfl) (fun _ => rfl) (fun _ _ _ _ _ _ => by kernel_rfl) (fun _ _ _ _ _ _ => by kernel_rfl) (by intro e n h; split at h <;> cases h) (by kernel_rfl) (by kernel_rfl) (ai (oU n) trivial)
def lG (n : Nat) (a0 : Int) (h0 : List Int) (h1 : Bool) (R : Type) (K : ((List Int) × (List Int) × Bool) → Option R) : Option R := (kJ n n ([] : List Int) a0 (0 : Int) h0 h1).bind fun o209 => (K (o209.1, o209.2.1, o209.2.2))
def lH (n : Nat) (a0 : Int) (h0 : List Int) (h1 : Bool) : Option ((List Int) × (List Int) × Bool) := lG n a0 h0 h1 _ some
def Gy : List AV → List AObj → Option (Int × (List Int) × Bool)
  | [.int .i64 a0, .func (.func 61) [.ptr (some (0, 0))] []], [.cells 88 [.ints false .u8 h0, .bool h1]] => some (a0, h0, h1)
  | _, _ => none
def zh (n : Nat) : FSpec := iQ Gy (fun v => lH n v.1 v.2.1 v.2.2) (fun o => .ints true .i64 o.1) (fun o => [.cells 88 [.ints false .u8 o.2.1, .bool o.2.2]])
theorem Bh (n : Nat) : FSound Tryd.prog 60 (zh n) := aG (t := fun v => ⟨[(0, .int .i64 v.1), (1, .func (.func 61) [.ptr (some (0, 0))] [])], [.cells 88 [.ints false .u8 v.2.1, .bool v.2.2]]⟩) (b := fun v R K => lG n v.1 v.2.1 v.2.2 R K) (nt := 16) (n := some 1) (rs := [.tmp 4]) (.s .a (.s .a (.s (.s .a (.u (.p (aA ([1, 5, 6, 7], none) (C9 n))))) (.s (.r [(0, .tk [5]), (1, .tk [15])]) .a)))) Tryd.func60 (by kernel_rfl) rfl rfl rfl (fun _ h => by injection h with h; exact h.symm) (by decide) (by kernel_rfl) (by intro s v w h; unfold Gy at h; split at h <;> first | (cases h; exact ⟨Nat.le_of_ble_eq_true rfl, rfl, rfl⟩) | cases h) (fun _ _ _ => by kernel_rfl) (by intros; unfold lG; simp only [aS]) (fun _ => by kernel_rfl) (by kernel_rfl) (by kernel_rfl) (ai (aP [1, 5, 6, 7] (H5 n)) trivial)
def jK (n : Nat) (h0 : List Int) (h1 : Bool) (R : Type) (K : (Int × Int × Int × (List Int) × Bool) → Option R) : Option R := (kR n h0 h1).bind fun o211 => ((jP n o211.2.1 o211.2.2).bind fun o212 => ((jP n o212.2.1 o212.2.2).bind fun o213 => (K (o211.1, o212.1, o213.1, o213.2.1, o213.2.2))))
def gH (n : Nat) (h0 : List Int) (h1 : Bool) : Option (Int × Int × Int × (List Int) × Bool) := jK n h0 h1 _ some
def w9 : List AV → List AObj → Option ((List Int) × Bool)
  | [.ptr (some (0, 0))], [.cells 86 [.ptr (some (1, 0))], .cells 88 [.ints false .u8 h0, .bool h1]] => some (h0, h1)
  | _, _ => none
def vT (n : Nat) : FSpec := iQ w9 (fun v => gH n v.1 v.2) (fun o => .agg [.int .i64 o.1, .int .i64 o.2.1, .int .i64 o.2.2.1]) (fun o => [.cells 86 [.ptr (some (1, 0))], .cells 88 [.ints false .u8 o.2.2.2.1, .bool o.2.2.2.2]])
theorem BQ (n : Nat) : FSound Tryd.prog 63 (vT n) := aG (t := fun v => ⟨[(0, .ptr (some (0, 0)))], [.cells 86 [.ptr (some (1, 0))], .cells 88 [.ints false .u8 v.1, .bool v.2]]⟩) (b := fun v R K => jK n v.1 v.2 R K) (nt := 9) (n := some 2) (rs := [.cell 1 119 3 true]) (.s .a (.s (.d [(1, .cl 47 (qQ n)), (3, .cl 61 (nH n)), (5, .cl 61 (nH n))] [(0, .peek [0, 1] [0]), (1, .part [1]), (2, .peek [0, 1] [0]), (3, .part [1]), (4, .peek [0, 1] [0]), (5, .part [1]), (7, .part [2])]) .a)) Tryd.func63 (by kernel_rfl) rfl rfl rfl (fun _ h => by injection h with h; exact h.symm) (by decide) (by kernel_rfl) (by intro s v w h; unfold w9 at h; split at h <;> first | (cases h; exact ⟨Nat.le_of_ble_eq_true rfl, rfl, rfl⟩) | cases h) (fun _ _ _ => by kernel_rfl) (by intros; unfold jK; simp only [aS]) (fun _ => by kernel_rfl) (by kernel_rfl) (by kernel_rfl) (ai (uR n) (ai (oU n) (ai (oU n) trivial)))
def lI (n : Nat) (x5 : List (List AV)) (x6 x7 : Int) (h1_0 : List Int) (h1_1 : Bool) (R : Type) (A_ : (List (List AV)) → Int → Int → (List Int) → Bool → Option R) (K : ((List (List AV)) × (List Int) × Bool) → Option R) : Option R := cond (decide (x7 < x6)) ((gH n h1_0 h1_1).bind fun o214 => (cond (decide ((x5.length + ([[.int .i64 o214.1, .int .i64 o214.2.1, .int .i64 o214.2.2.1]] : List (List AV)).length) * 24 ≤ 140737488355328)) (A_ (x5 ++ ([[.int .i64 o214.1, .int .i64 o214.2.1, .int .i64 o214.2.2.1]] : List (List AV))) x6 (IntKind.i64.wrap (x7 + (1 : Int))) o214.2.2.2.1 o214.2.2.2.2) none)) (K (x5, h1_0, h1_1))
def jT (n : Nat) : Nat → (List (List AV)) → Int → Int → (List Int) → Bool → Option (((List (List AV)) × (List Int) × Bool))
  | 0, _, _, _, _, _ => none
  | m + 1, x5, x6, x7, h1_0, h1_1 => lI n x5 x6 x7 h1_0 h1_1 _ (jT n m) some
def Gz : St → Option (((List (List AV)) × Int × Int × (List Int) × Bool) × (Unit))
  | ⟨[(1, .func (.func 63) [] [.ptr (some (0, 0))]), (5, .sl true 3 x5), (6, .int .i64 x6), (7, .int .i64 x7)], [.cells 86 [.ptr (some (1, 0))], .cells 88 [.ints false .u8 h1_0, .bool h1_1]]⟩ => some ((x5, x6, x7, h1_0, h1_1), ())
  | _ => none
def Mr (v : (List (List AV)) × Int × Int × (List Int) × Bool) (w : Unit) : St := ⟨[(1, .func (.func 63) [] [.ptr (some (0, 0))]), (5, .sl true 3 v.1), (6, .int .i64 v.2.1), (7, .int .i64 v.2.2.1)], [.cells 86 [.ptr (some (1, 0))], .cells 88 [.ints false .u8 v.2.2.2.1, .bool v.2.2.2.2]]⟩
def Ms (v : (List (List AV)) × Int × Int × (List Int) × Bool) (o : ((List (List AV)) × (List Int) × Bool)) (w : Unit) (R : Type) (K : AExit → St → Option R) : Option R := K (.exit 0) ⟨[(5, .sl true 3 o.1)], [.cells 86 [.ptr (some (1, 0))], .cells 88 [.ints false .u8 o.2.1, .bool o.2.2]]⟩
def GA (n : Nat) : Ex := xOf Gz (fun v => jT n n v.1 v.2.1 v.2.2.1 v.2.2.2.1 v.2.2.2.2) Ms
theorem J3 (n : Nat) : Snd ⟨Tryd.prog, 2, 16⟩ (GA n) (Tryd.f62.body.getD .skip).a2.a2.a1.a2.a1 := aH (t := Mr) (b := fun v R A K => lI n v.1 v.2.1 v.2.2.1 v.2.2.2.1 v.2.2.2.2 R (fun z0 z1 z2 z3 z4 => A (z0, z1, z2, z3, z4)) K) (f := fun m v => jT n m v.1 v.2.1 v.2.2.1 v.2.2.2.1 v.2.2.2.2) (m := (fun e => match e with | .exit 0 => ([5], none) | .normal => ([1, 5, 6, 7], none) | _ => ([], none))) n (.s .a (.s .a (.s (.u (.r [(0, .tk [5]), (2, .cl 63 (vT n)), (4, .tk [9]), (5, .tk [13])])) .a))) (by intro s v w h; unfold Gz at h; split at h <;> first | (cases h; rfl) | cases h) (fun _ _ _ _ => by kernel_rfl) (by intros; unfold lI; simp only [aS]) (fun _ => rfl) (fun _ _ => rfl) (fun _ => rfl) (fun _ _ _ _ _ _ => by kernel_rfl) (fun _ _ _ _ _ _ => by kernel_rfl) (by intro e n h; split at h <;> cases h) (by kernel_rfl) (by kernel_rfl) (ai (BQ n) trivial)
def qR (n : Nat) (a0 : Int) (h0 : List Int) (h1 : Bool) (R : Type) (K : ((List (List AV)) × (List Int) × Bool) → Option R) : Option R := (jT n n ([] : List (List AV)) a0 (0 : Int) h0 h1).bind fun o215 => (K (o215.1, o215.2.1, o215.2.2))
def qU (n : Nat) (a0 : Int) (h0 : List Int) (h1 : Bool) : Option ((List (List AV)) × (List Int) × Bool) := qR n a0 h0 h1 _ some
def KH : List AV → List AObj → Option (Int × (List Int) × Bool)
  | [.int .i64 a0, .func (.func 63) [] [.ptr (some (0, 0))]], [.cells 86 [.ptr (some (1, 0))], .cells 88 [.ints false .u8 h0, .bool h1]] => some (a0, h0, h1)
  | _, _ => none
def E8 (n : Nat) : FSpec := iQ KH (fun v => qU n v.1 v.2.1 v.2.2) (fun o => .sl true 3 o.1) (fun o => [.cells 86 [.ptr (some (1, 0))], .cells 88 [.ints false .u8 o.2.1, .bool o.2.2]])
theorem FU (n : Nat) : FSound Tryd.prog 62 (E8 n) := aG (t := fun v => ⟨[(0, .int .i64 v.1), (1, .func (.func 63) [] [.ptr (some (0, 0))])], [.cells 86 [.ptr (some (1, 0))], .cells 88 [.ints false .u8 v.2.1, .bool v.2.2]]⟩) (b := fun v R K => qR n v.1 v.2.1 v.2.2 R K) (nt := 16) (n := some 2) (rs := [.tmp 4]) (.s .a (.s .a (.s (.s .a (.u (.p (aA ([1, 5, 6, 7], none) (GA n))))) (.s (.r [(0, .tk [5]), (1, .tk [15])]) .a)))) Tryd.func62 (by kernel_rfl) rfl rfl rfl (fun _ h => by injection h with h; exact h.symm) (by decide) (by kernel_rfl) (by intro s v w h; unfold KH at h; split at h <;> first | (cases h; exact ⟨Nat.le_of_ble_eq_true rfl, rfl, rfl⟩) | cases h) (fun _ _ _ => by kernel_rfl) (by intros; unfold qR; simp only [aS]) (fun _ => by kernel_rfl) (by kernel_rfl) (by kernel_rfl) (ai (aP [1, 5, 6, 7] (J3 n)) trivial)
def E9 (n : Nat) : FSpec := OQ n
theorem FV (n : Nat) : FSound Tryd.prog 64 (E9 n) := Q6 n (Go.Sh.enters_of Tryd.func64 (by kernel_rfl) rfl) (fun p1 p2 n c1 k c2 xs ys w hg hx hy hr1 hr2 h1 h2 hp1 hcap hs hk => let ⟨m, hm⟩ := TQ hg; Tryd.bytes_Cut_all p1 p2 n c1 k c2 xs ys m w hx hy hr1 hr2 h1 h2 hp1 hcap hs hk hm)
def iX (n : Nat) (x2 : Int) (h0_0 : List Int) (h0_1 : Bool) (h2_0 h2_1 h2_2 h2_3 h2_4 h2_5 h2_6 : Int) (h3_0 : List (List AV)) (h3_1 h3_2 : List Int) (h3_3 : Str) (R : Type) (K : (Bool × (List Int) × Bool × Int × Int × Int × Int × Int × Int × Int × (List (List AV)) × (List Int) × (List Int) × Str) → Option R) : Option R := cond h0_1 (K (true, h0_0, h0_1, h2_0, h2_1, h2_2, h2_3, h2_4, h2_5, h2_6, h3_0, h3_1, h3_2, h3_3)) ((eD n h2_0 h2_1 h2_2 h2_3 h2_4 h2_5 h2_6).bind fun o231 => (cond (!o231) (K (true, h0_0, h0_1, h2_0, h2_1, h2_2, h2_3, h2_4, h2_5, h2_6, h3_0, h3_1, h3_2, h3_3)) ((aO n h2_0 h2_1 h2_2 h2_3 h2_4 h2_5 h2_6 x2).bind fun o232 => (K (decide ((h0_0.length : Int) < o232), h0_0, h0_1, h2_0, h2_1, h2_2, h2_3, h2_4, h2_5, h2_6, h3_0, h3_1, h3_2, h3_3)))))
def ig (n : Nat) (x2 : Int) (h0_0 : List Int) (h0_1 : Bool) (h2_0 h2_1 h2_2 h2_3 h2_4 h2_5 h2_6 : Int) (h3_0 : List (List AV)) (h3_1 h3_2 : List Int) (h3_3 : Str) : Option ((Bool × (List Int) × Bool × Int × Int × Int × Int × Int × Int × Int × (List (List AV)) × (List Int) × (List Int) × Str)) := iX n x2 h0_0 h0_1 h2_0 h2_1 h2_2 h2_3 h2_4 h2_5 h2_6 h3_0 h3_1 h3_2 h3_3 _ some
def vU : St → Option ((Int × (List Int) × Bool × Int × Int × Int × Int × Int × Int × Int × (List (List AV)) × (List Int) × (List Int) × Str) × (AV × AV))
  | ⟨[(2, .int .i64 x2), (3, p3), (4, .ptr (some (1, 0))), (5, .ptr (some (2, 0))), (8, p8)], [.cells 88 [.ints false .u8 h0_0, .bool h0_1], .cells 86 [.ptr (some (0, 0))], .cells 70 [.int .u8 h2_0, .int .i64 h2_1, .int .i64 h2_2, .int .i64 h2_3, .int .i64 h2_4, .int .i64 h2_5, .int .i64 h2_6], .cells 26 [.sl true 3 h3_0, .ints true .i64 h3_1, .ints true .i64 h3_2, .str h3_3]]⟩ => some ((x2, h0_0, h0_1, h2_0, h2_1, h2_2, h2_3, h2_4, h2_5, h2_6, h3_0, h3_1, h3_2, h3_3), (p3, p8))
  | _ => none
def Fa (v : Int × (List Int) × Bool × Int × Int × Int × Int × Int × Int × Int × (List (List AV)) × (List Int) × (List Int) × Str) (w : AV × AV) : St := ⟨[(2, .int .i64 v.1), (3, w.1), (4, .ptr (some (1, 0))), (5, .ptr (some (2, 0))), (8, w.2)], [.cells 88 [.ints false .u8 v.2.1, .bool v.2.2.1], .cells 86 [.ptr (some (0, 0))], .cells 70 [.int .u8 v.2.2.2.1, .int .i64 v.2.2.2.2.1, .int .i64 v.2.2.2.2.2.1, .int .i64 v.2.2.2.2.2.2.1, .int .i64 v.2.2.2.2.2.2.2.1, .int .i64 v.2.2.2.2.2.2.2.2.1, .int .i64 v.2.2.2.2.2.2.2.2.2.1], .cells 26 [.sl true 3 v.2.2.2.2.2.2.2.2.2.2.1, .ints true .i64 v.2.2.2.2.2.2.2.2.2.2.2.1, .ints true .i64 v.2.2.2.2.2.2.2.2.2.2.2.2.1, .str v.2.2.2.2.2.2.2.2.2.2.2.2.2]]⟩
def Fb (v : Int × (List Int) × Bool × Int × Int × Int × Int × Int × Int × Int × (List (List AV)) × (List Int) × (List Int) × Str) (o : (Bool × (List Int) × Bool × Int × Int × Int × Int × Int × Int × Int × (List (List AV)) × (List Int) × (List Int) × Str)) (w : AV × AV) (R : Type) (K : AExit → St → Option R) : Option R := K .normal ⟨[(2, .int .i64 v.1), (3, w.1), (4, .ptr (some (1, 0))), (5, .ptr (some (2, 0))), (8, w.2), (35, .bool o.1)], [.cells 88 [.ints false .u8 o.2.1, .bool o.2.2.1], .cells 86 [.ptr (some (0, 0))], .cells 70 [.int .u8 o.2.2.2.1, .int .i64 o.2.2.2.2.1, .int .i64 o.2.2.2.2.2.1, .int .i64 o.2.2.2.2.2.2.1, .int .i64 o.2.2.2.2.2.2.2.1, .int .i64 o.2.2.2.2.2.2.2.2.1, .int .i64 o.2.2.2.2.2.2.2.2.2.1], .cells 26 [.sl true 3 o.2.2.2.2.2.2.2.2.2.2.1, .ints true .i64 o.2.2.2.2.2.2.2.2.2.2.2.1, .ints true .i64 o.2.2.2.2.2.2.2.2.2.2.2.2.1, .str o.2.2.2.2.2.2.2.2.2.2.2.2.2]]⟩
def vV (n : Nat) : Ex := xOf vU (fun v => ig n v.1 v.2.1 v.2.2.1 v.2.2.2.1 v.2.2.2.2.1 v.2.2.2.2.2.1 v.2.2.2.2.2.2.1 v.2.2.2.2.2.2.2.1 v.2.2.2.2.2.2.2.2.1 v.2.2.2.2.2.2.2.2.2.1 v.2.2.2.2.2.2.2.2.2.2.1 v.2.2.2.2.2.2.2.2.2.2.2.1 v.2.2.2.2.2.2.2.2.2.2.2.2.1 v.2.2.2.2.2.2.2.2.2.2.2.2.2) Fb
def kV (n : Nat) (x15 : Bool) (h0_0 : List Int) (h0_1 : Bool) (h2_0 : List (List AV)) (h2_1 h2_2 : List Int) (h2_3 : Str) (h3_0 h3_1 h3_2 : Int) (R : Type) (K : ((List Int) × Bool × (List (List AV)) × (List Int) × (List Int) × Str × Int × Int × Int) → Option R) : Option R := cond h0_1 (K (h0_0, true, h2_0, h2_1, h2_2, h2_3, h3_0, h3_1, h3_2)) (cond (!x15) (K (h0_0, true, h2_0, h2_1, h2_2, h2_3, h3_0, h3_1, h3_2)) (K (h0_0, decide (h3_1 > (1 : Int)), h2_0, h2_1, h2_2, h2_3, h3_0, h3_1, h3_2)))
def mJ (n : Nat) (x15 : Bool) (h0_0 : List Int) (h0_1 : Bool) (h2_0 : List (List AV)) (h2_1 h2_2 : List Int) (h2_3 : Str) (h3_0 h3_1 h3_2 : Int) : Option (((List Int) × Bool × (List (List AV)) × (List Int) × (List Int) × Str × Int × Int × Int)) := kV n x15 h0_0 h0_1 h2_0 h2_1 h2_2 h2_3 h3_0 h3_1 h3_2 _ some
def vW : St → Option ((Bool × (List Int) × Bool × (List (List AV)) × (List Int) × (List Int) × Str × Int × Int × Int) × (AV × AV × AV × AV × AV × AV))
  | ⟨[(4, .ptr (some (1, 0))), (8, p8), (10, p10), (12, .ptr (some (3, 0))), (13, p13), (15, .bool x15), (72, p72), (73, p73), (74, p74)], [.cells 88 [.ints false .u8 h0_0, .bool h0_1], .cells 86 [.ptr (some (0, 0))], .cells 26 [.sl true 3 h2_0, .ints true .i64 h2_1, .ints true .i64 h2_2, .str h2_3], .cells 119 [.int .i64 h3_0, .int .i64 h3_1, .int .i64 h3_2]]⟩ => some ((x15, h0_0, h0_1, h2_0, h2_1, h2_2, h2_3, h3_0, h3_1, h3_2), (p8, p10, p13, p72, p73, p74))
  | _ => none
def Fe (v : Bool × (List Int) × Bool × (List (List AV)) × (List Int) × (List Int) × Str × Int × Int × Int) (w : AV × AV × AV × AV × AV × AV) : St := ⟨[(4, .ptr (some (1, 0))), (8, w.1), (10, w.2.1), (12, .ptr (some (3, 0))), (13, w.2.2.1), (15, .bool v.1), (72, w.2.2.2.1), (73, w.2.2.2.2.1), (74, w.2.2.2.2.2)], [.cells 88 [.ints false .u8 v.2.1, .bool v.2.2.1], .cells 86 [.ptr (some (0, 0))], .cells 26 [.sl true 3 v.2.2.2.1, .ints true .i64 v.2.2.2.2.1, .ints true .i64 v.2.2.2.2.2.1, .str v.2.2.2.2.2.2.1], .cells 119 [.int .i64 v.2.2.2.2.2.2.2.1, .int .i64 v.2.2.2.2.2.2.2.2.1, .int .i64 v.2.2.2.2.2.2.2.2.2]]⟩
def Ff (v : Bool × (List Int) × Bool × (List (List AV)) × (List Int) × (List Int) × Str × Int × Int × Int) (o : ((List Int) × Bool × (List (List AV)) × (List Int) × (List Int) × Str × Int × Int × Int)) (w : AV × AV × AV × AV × AV × AV) (R : Type) (K : AExit → St → Option R) : Option R := K .normal ⟨[(4, .ptr (some (1, 0))), (8, w.1), (10, w.2.1), (12, .ptr (some (3, 0))), (13, w.2.2.1), (72, w.2.2.2.1), (73, w.2.2.2.2.1), (74, w.2.2.2.2.2)], [.cells 88 [.ints false .u8 o.1, .bool o.2.1], .cells 86 [.ptr (some (0, 0))], .cells 26 [.sl true 3 o.2.2.1, .ints true .i64 o.2.2.2.1, .ints true .i64 o.2.2.2.2.1, .str o.2.2.2.2.2.1], .cells 119 [.int .i64 o.2.2.2.2.2.2.1, .int .i64 o.2.2.2.2.2.2.2.1, .int .i64 o.2.2.2.2.2.2.2.2]]⟩
def vX (n : Nat) : Ex := xOf vW (fun v => mJ n v.1 v.2.1 v.2.2.1 v.2.2.2.1 v.2.2.2.2.1 v.2.2.2.2.2.1 v.2.2.2.2.2.2.1 v.2.2.2.2.2.2.2.1 v.2.2.2.2.2.2.2.2.1 v.2.2.2.2.2.2.2.2.2) Ff
def iY (n : Nat) (x10 : List Int) (x72 : List (List AV)) (x73 x74 : Int) (h0_0 : List Int) (h0_1 : Bool) (h2_0 : List (List AV)) (h2_1 h2_2 : List Int) (h2_3 : Str) (R : Type) (A_ : (List Int) → (List (List AV)) → Int → Int → (List Int) → Bool → (List (List AV)) → (List Int) → (List Int) → Str → Option R) (K : ((List Int) × Bool × (List (List AV)) × (List Int) × (List Int) × Str) → Option R) : Option R := cond (decide (x74 < x73)) (cond (decide (0 ≤ x74)) ((x72[x74.toNat]?).bind fun e239 => (unc e239 fun c240 r241 => jR .i64 c240 fun x242 => unc r241 fun c243 r244 => jR .i64 c243 fun x245 => unc r244 fun c246 r247 => jR .i64 c246 fun x248 => unn r247 (cond (decide (0 ≤ (if (x10.length : Int) < x248 then (x10.length : Int) else x248))) (cond (decide ((if (x10.length : Int) < x248 then (x10.length : Int) else x248) ≤ (x10.length : Int))) ((Gv n (x10.drop (if (x10.length : Int) < x248 then (x10.length : Int) else x248).toNat) ([(0 : Int)] : List Int)).bind fun o249 => ((mJ n o249.2.2 h0_0 h0_1 h2_0 h2_1 h2_2 h2_3 x242 x245 x248).bind fun o250 => (cond (decide ((o250.2.2.1.length + ([[.int .i64 o250.2.2.2.2.2.2.1, .bool (o250.2.2.2.2.2.2.2.1 == (1 : Int)), .str (strOf o249.1)]] : List (List AV)).length) * 32 ≤ 140737488355328)) (A_ x10 x72 x73 (IntKind.i64.wrap (x74 + (1 : Int))) o250.1 o250.2.1 (o250.2.2.1 ++ ([[.int .i64 o250.2.2.2.2.2.2.1, .bool (o250.2.2.2.2.2.2.2.1 == (1 : Int)), .str (strOf o249.1)]] : List (List AV))) o250.2.2.2.1 o250.2.2.2.2.1 o250.2.2.2.2.2.1) none))) none) none))) none) (K (h0_0, h0_1, h2_0, h2_1, h2_2, h2_3))
def dM (n : Nat) : Nat → (List Int) → (List (List AV)) → Int → Int → (List Int) → Bool → (List (List AV)) → (List Int) → (List Int) → Str → Option (((List Int) × Bool × (List (List AV)) × (List Int) × (List Int) × Str))
  | 0, _, _, _, _, _, _, _, _, _, _ => none
  | m + 1, x10, x72, x73, x74, h0_0, h0_1, h2_0, h2_1, h2_2, h2_3 => iY n x10 x72 x73 x74 h0_0 h0_1 h2_0 h2_1 h2_2 h2_3 _ (dM n m) some
def vY : St → Option (((List Int) × (List (List AV)) × Int × Int × (List Int) × Bool × (List (List AV)) × (List Int) × (List Int) × Str) × (Unit))
  | ⟨[(4, .ptr (some (1, 0))), (8, .ptr (some (2, 0))), (10, .ints false .u8 x10), (72, .sl true 3 x72), (73, .int .i64 x73), (74, .int .i64 x74)], [.cells 88 [.ints false .u8 h0_0, .bool h0_1], .cells 86 [.ptr (some (0, 0))], .cells 26 [.sl true 3 h2_0, .ints true .i64 h2_1, .ints true .i64 h2_2, .str h2_3]]⟩ => some ((x10, x72, x73, x74, h0_0, h0_1, h2_0, h2_1, h2_2, h2_3), ())
  | _ => none
def Fg (v : (List Int) × (List (List AV)) × Int × Int × (List Int) × Bool × (List (List AV)) × (List Int) × (List Int) × Str) (w : Unit) : St := ⟨[(4, .ptr (some (1, 0))), (8, .ptr (some (2, 0))), (10, .ints false .u8 v.1), (72, .sl true 3 v.2.1), (73, .int .i64 v.2.2.1), (74, .int .i64 v.2.2.2.1)], [.cells 88 [.ints false .u8 v.2.2.2.2.1, .bool v.2.2.2.2.2.1], .cells 86 [.ptr (some (0, 0))], .cells 26 [.sl true 3 v.2.2.2.2.2.2.1, .ints true .i64 v.2.2.2.2.2.2.2.1, .ints true .i64 v.2.2.2.2.2.2.2.2.1, .str v.2.2.2.2.2.2.2.2.2]]⟩
def Fh (v : (List Int) × (List (List AV)) × Int × Int × (List Int) × Bool × (List (List AV)) × (List Int) × (List Int) × Str) (o : ((List Int) × Bool × (List (List AV)) × (List Int) × (List Int) × Str)) (w : Unit) (R : Type) (K : AExit → St → Option R) : Option R := K (.exit 0) ⟨[(8, .ptr (some (2, 0)))], [.cells 88 [.ints false .u8 o.1, .bool o.2.1], .cells 86 [.ptr (some (0, 0))], .cells 26 [.sl true 3 o.2.2.1, .ints true .i64 o.2.2.2.1, .ints true .i64 o.2.2.2.2.1, .str o.2.2.2.2.2]]⟩
def vZ (n : Nat) : Ex := xOf vY (fun v => dM n n v.1 v.2.1 v.2.2.1 v.2.2.2.1 v.2.2.2.2.1 v.2.2.2.2.2.1 v.2.2.2.2.2.2.1 v.2.2.2.2.2.2.2.1 v.2.2.2.2.2.2.2.2.1 v.2.2.2.2.2.2.2.2.2) Fh
theorem Dn (n : Nat) : Snd ⟨Tryd.prog, 1, 122⟩ (vX n) (Tryd.f46.body.getD .skip).a2.a2.a2.a2.a2.a2.a2.a1.a2.a1.a1.a2.a2.a1.a1.a2.a2.a1 := dA (t := Fe) (b := fun v R K => kV n v.1 v.2.1 v.2.2.1 v.2.2.2.1 v.2.2.2.2.1 v.2.2.2.2.2.1 v.2.2.2.2.2.2.1 v.2.2.2.2.2.2.2.1 v.2.2.2.2.2.2.2.2.1 v.2.2.2.2.2.2.2.2.2 R K) (m := (fun e => match e with | .normal => ([4, 8, 10, 12, 13, 72, 73, 74], none) | _ => ([], none))) (.d [] [(0, .part [0, 1]), (1, .part [0, 1]), (2, .part [0]), (3, .part [0]), (4, .part [0]), (10, .look), (14, .part [0]), (15, .part [0]), (16, .part [0])]) (by intro s v w h; unfold vW at h; split at h <;> first | (cases h; rfl) | cases h) (fun _ _ _ _ => by kernel_rfl) (by intros; unfold kV; simp only [aS]) (fun _ => by kernel_rfl) (by intro e n h; split at h <;> cases h) (by kernel_rfl) (by kernel_rfl) trivial
theorem Dp (n : Nat) : Snd ⟨Tryd.prog, 1, 122⟩ (vV n) (Tryd.f46.body.getD .skip).a2.a1.a1 := dA (t := Fa) (b := fun v R K => iX n v.1 v.2.1 v.2.2.1 v.2.2.2.1 v.2.2.2.2.1 v.2.2.2.2.2.1 v.2.2.2.2.2.2.1 v.2.2.2.2.2.2.2.1 v.2.2.2.2.2.2.2.2.1 v.2.2.2.2.2.2.2.2.2.1 v.2.2.2.2.2.2.2.2.2.2.1 v.2.2.2.2.2.2.2.2.2.2.2.1 v.2.2.2.2.2.2.2.2.2.2.2.2.1 v.2.2.2.2.2.2.2.2.2.2.2.2.2 R K) (m := (fun e => match e with | .normal => ([2, 3, 4, 5, 8, 35], none) | _ => ([], none))) (.d [(6, .cl 58 (xI n)), (17, .cl 28 (mF n))] [(0, .peek [0, 1] [1]), (1, .peek [0] [0]), (2, .peek [0] [0]), (3, .peek [0] [0]), (5, .peek [2] [2]), (10, .peek [0, 1] [1]), (11, .peek [0] [0]), (12, .peek [0] [0]), (13, .peek [0] [0]), (15, .peek [2] [2])]) (by intro s v w h; unfold vU at h; split at h <;> first | (cases h; rfl) | cases h) (fun _ _ _ _ => by kernel_rfl) (by intros; unfold iX; simp only [aS]) (fun _ => by kernel_rfl) (by intro e n h; split at h <;> cases h) (by kernel_rfl) (by kernel_rfl) (ai (zB n) (ai (mG n) trivial))
theorem Dq (n : Nat) : Snd ⟨Tryd.prog, 1, 122⟩ (vZ n) (Tryd.f46.body.getD .skip).a2.a2.a2.a2.a2.a2.a2.a1.a2.a1 := aH (t := Fg) (b := fun v R A K => iY n v.1 v.2.1 v.2.2.1 v.2.2.2.1 v.2.2.2.2.1 v.2.2.2.2.2.1 v.2.2.2.2.2.2.1 v.2.2.2.2.2.2.2.1 v.2.2.2.2.2.2.2.2.1 v.2.2.2.2.2.2.2.2.2 R (fun z0 z1 z2 z3 z4 z5 z6 z7 z8 z9 => A (z0, z1, z2, z3, z4, z5, z6, z7, z8, z9)) K) (f := fun m v => dM n m v.1 v.2.1 v.2.2.1 v.2.2.2.1 v.2.2.2.2.1 v.2.2.2.2.2.1 v.2.2.2.2.2.2.1 v.2.2.2.2.2.2.2.1 v.2.2.2.2.2.2.2.2.1 v.2.2.2.2.2.2.2.2.2) (m := (fun e => match e with | .exit 0 => ([8], none) | .normal => ([4, 8, 10, 72, 73, 74], some 1) | _ => ([], none))) n (.s .a (.s .a (.s (.u (.s .a (.s (.r [(8, .cl 64 (E9 n)), (12, .tk [78])]) (.s (.p (aA ([4, 8, 10, 12, 13, 15, 72, 73, 74], none) (vX n))) (.r [(1, .lt), (11, .tk [108]), (13, .tk [118])]))))) .a))) (by intro s v w h; unfold vY at h; split at h <;> first | (cases h; rfl) | cases h) (fun _ _ _ _ => by kernel_rfl) (by intros; unfold iY; simp only [aS]) (fun _ => rfl) (fun _ _ => rfl) (fun _ => rfl) (fun _ _ _ _ _ _ => by kernel_rfl) (fun _ _ _ _ _ _ => by kernel_rfl) (by intro e n h; cases e <;> (first | cases h | (split at h <;> cases h)) <;> rfl) (by kernel_rfl) (by kernel_rfl) (ai (FV n) (ai (aP [4, 8, 10, 12, 13, 15, 72, 73, 74] (Dn n)) trivial))
def gq (n : Nat) (a0 a1 a2 a3 a4 a5 a6 a7 : Int) (h0 : List Int) (h1 : Bool) (R : Type) (K : ((List (List AV)) × (List Int) × (List Int) × Str × (List Int) × Bool) → Option R) : Option R := (ig n a7 h0 h1 a0 a1 a2 a3 a4 a5 a6 ([] : List (List AV)) ([] : List Int) ([] : List Int) ([] : Str)).bind fun o233 => (cond o233.1 (K (([] : List (List AV)), ([] : List Int), ([] : List Int), ([] : Str), o233.2.1, true)) ((rF n o233.2.2.2.2.2.2.2.1 o233.2.1 o233.2.2.1).bind fun o234 => ((lH n o233.2.2.2.2.2.2.2.1 o234.2.1 o234.2.2).bind fun o235 => ((qU n o233.2.2.2.2.2.2.2.2.1 o235.2.1 o235.2.2).bind fun o236 => ((bU n o233.2.2.2.2.2.2.2.2.2.1 o236.2.1 o236.2.2).bind fun o237 => ((bU n (IntKind.i64.wrap ((IntKind.i64.wrap ((IntKind.i64.wrap (o233.2.2.2.2.2.2.1 * (IntKind.i64.wrap (a7 + (4 : Int))))) + o233.2.2.2.2.2.1)) + o233.2.2.2.2.1)) o237.2.1 o237.2.2).bind fun o238 => ((dM n n o237.1 o236.1 (o236.1.length : Int) (0 : Int) o238.2.1 o238.2.2 o233.2.2.2.2.2.2.2.2.2.2.1 o234.1 o235.1 o233.2.2.2.2.2.2.2.2.2.2.2.2.2).bind fun o251 => (K (o251.2.2.1, o251.2.2.2.1, o251.2.2.2.2.1, o251.2.2.2.2.2, o251.1, o251.2.1)))))))))
def bI (n : Nat) (a0 a1 a2 a3 a4 a5 a6 a7 : Int) (h0 : List Int) (h1 : Bool) : Option ((List (List AV)) × (List Int) × (List Int) × Str × (List Int) × Bool) := gq n a0 a1 a2 a3 a4 a5 a6 a7 h0 h1 _ some
def zG : List AV → List AObj → Option (Int × Int × Int × Int × Int × Int × Int × Int × (List Int) × Bool)
  | [.ptr (some (0, 0)), .agg [.int .u8 a0, .int .i64 a1, .int .i64 a2, .int .i64 a3, .int .i64 a4, .int .i64 a5, .int .i64 a6], .int .i64 a7, .func (.func 47) [.ptr (some (0, 0))] []], [.cells 88 [.ints false .u8 h0, .bool h1]] => some (a0, a1, a2, a3, a4, a5, a6, a7, h0, h1)
  | _, _ => none
def yD (n : Nat) : FSpec := iQ zG (fun v => bI n v.1 v.2.1 v.2.2.1 v.2.2.2.1 v.2.2.2.2.1 v.2.2.2.2.2.1 v.2.2.2.2.2.2.1 v.2.2.2.2.2.2.2.1 v.2.2.2.2.2.2.2.2.1 v.2.2.2.2.2.2.2.2.2) (fun o => .agg [.sl false 3 o.1, .ints false .i64 o.2.1, .ints false .i64 o.2.2.1, .str o.2.2.2.1]) (fun o => [.cells 88 [.ints false .u8 o.2.2.2.2.1, .bool o.2.2.2.2.2]])
theorem Eg (n : Nat) : FSound Tryd.prog 46 (yD n) := aG (t := fun v => ⟨[(0, .ptr (some (0, 0))), (1, .agg [.int .u8 v.1, .int .i64 v.2.1, .int .i64 v.2.2.1, .int .i64 v.2.2.2.1, .int .i64 v.2.2.2.2.1, .int .i64 v.2.2.2.2.2.1, .int .i64 v.2.2.2.2.2.2.1]), (2, .int .i64 v.2.2.2.2.2.2.2.1), (3, .func (.func 47) [.ptr (some (0, 0))] [])], [.cells 88 [.ints false .u8 v.2.2.2.2.2.2.2.2.1, .bool v.2.2.2.2.2.2.2.2.2]]⟩) (b := fun v R K => gq n v.1 v.2.1 v.2.2.1 v.2.2.2.1 v.2.2.2.2.1 v.2.2.2.2.2.1 v.2.2.2.2.2.2.1 v.2.2.2.2.2.2.2.1 v.2.2.2.2.2.2.2.2.1 v.2.2.2.2.2.2.2.2.2 R K) (nt := 122) (n := some 1) (rs := [.cell 8 26 4 true]) (.s .a (.s (.s (.p (aA ([2, 3, 4, 5, 8], none) (vV n))) (.s (.s .a (.s (.r [(1, .tk [39])]) .a)) .a)) (.s (.r [(3, .cl 59 (CZ n)), (5, .tk [43])]) (.s (.r [(4, .cl 60 (zh n)), (6, .tk [49])]) (.s (.r [(3, .cl 62 (E8 n)), (4, .tk [54])]) (.s (.r [(3, .cl 48 (dB n))]) (.s (.r [(12, .cl 48 (dB n))]) (.s (.s (.r [(0, .tk [9])]) (.u (.p (aA ([4, 8, 10, 72, 73, 74], some 1) (vZ n))))) .a)))))))) Tryd.func46 (by kernel_rfl) rfl rfl rfl (fun _ h => by injection h with h; exact h.symm) (by decide) (by kernel_rfl) (by intro s v w h; unfold zG at h; split at h <;> first | (cases h; exact ⟨Nat.le_of_ble_eq_true rfl, rfl, rfl⟩) | cases h) (fun _ _ _ => by kernel_rfl) (by intros; unfold gq; simp only [aS]) (fun _ => by kernel_rfl) (by kernel_rfl) (by kernel_rfl) (ai (aP [2, 3, 4, 5, 8] (Dp n)) (ai (Gx n) (ai (Bh n) (ai (FU n) (ai (cK n) (ai (cK n) (ai (xZ [4, 8, 10, 72, 73, 74] (Dq n)) trivial)))))))
def oV (n : Nat) (h0 : List Int) (h1 : Bool) (R : Type) (K : (Int × (List Int) × Bool) → Option R) : Option R := (bz n (8 : Int) h0 h1).bind fun o259 => (K (o259.1, o259.2.1, o259.2.2))
def oW (n : Nat) (h0 : List Int) (h1 : Bool) : Option (Int × (List Int) × Bool) := oV n h0 h1 _ some
def Bi : List AV → List AObj → Option ((List Int) × Bool)
  | [.ptr (some (0, 0))], [.cells 88 [.ints false .u8 h0, .bool h1]] => some (h0, h1)
  | _, _ => none
def zH (n : Nat) : FSpec := iQ Bi (fun v => oW n v.1 v.2) (fun o => .int .i64 o.1) (fun o => [.cells 88 [.ints false .u8 o.2.1, .bool o.2.2]])
theorem Fj (n : Nat) : FSound Tryd.prog 49 (zH n) := aG (t := fun v => ⟨[(0, .ptr (some (0, 0)))], [.cells 88 [.ints false .u8 v.1, .bool v.2]]⟩) (b := fun v R K => oV n v.1 v.2 R K) (nt := 5) (n := some 1) (rs := [.tmp 2]) (.s .a (.s (.r [(1, .cl 57 (fF n))]) .a)) Tryd.func49 (by kernel_rfl) rfl rfl rfl (fun _ h => by injection h with h; exact h.symm) (by decide) (by kernel_rfl) (by intro s v w h; unfold Bi at h; split at h <;> first | (cases h; exact ⟨Nat.le_of_ble_eq_true rfl, rfl, rfl⟩) | cases h) (fun _ _ _ => by kernel_rfl) (by intros; unfold oV; simp only [aS]) (fun _ => by kernel_rfl) (by kernel_rfl) (by kernel_rfl) (ai (ic n) trivial)
def jL (n : Nat) (x5 : List Int) (x6 x7 : Int) (h0_0 : List Int) (h0_1 : Bool) (R : Type) (A_ : (List Int) → Int → Int → (List Int) → Bool → Option R) (K : ((List Int) × (List Int) × Bool) → Option R) : Option R := cond (decide (x7 < x6)) ((oW n h0_0 h0_1).bind fun o260 => (cond (decide ((x5.length + ([o260.1] : List Int).length) * 8 ≤ 140737488355328)) (A_ (x5 ++ ([o260.1] : List Int)) x6 (IntKind.i64.wrap (x7 + (1 : Int))) o260.2.1 o260.2.2) none)) (K (x5, h0_0, h0_1))
def gu (n : Nat) : Nat → (List Int) → Int → Int → (List Int) → Bool → Option (((List Int) × (List Int) × Bool))
  | 0, _, _, _, _, _ => none
  | m + 1, x5, x6, x7, h0_0, h0_1 => jL n x5 x6 x7 h0_0 h0_1 _ (gu n m) some
def xc : St → Option (((List Int) × Int × Int × (List Int) × Bool) × (Unit))
  | ⟨[(1, .func (.func 49) [.ptr (some (0, 0))] []), (5, .ints true .i64 x5), (6, .int .i64 x6), (7, .int .i64 x7)], [.cells 88 [.ints false .u8 h0_0, .bool h0_1]]⟩ => some ((x5, x6, x7, h0_0, h0_1), ())
  | _ => none
def F6 (v : (List Int) × Int × Int × (List Int) × Bool) (w : Unit) : St := ⟨[(1, .func (.func 49) [.ptr (some (0, 0))] []), (5, .ints true .i64 v.1), (6, .int .i64 v.2.1), (7, .int .i64 v.2.2.1)], [.cells 88 [.ints false .u8 v.2.2.2.1, .bool v.2.2.2.2]]⟩
def F7 (v : (List Int) × Int × Int × (List Int) × Bool) (o : ((List Int) × (List Int) × Bool)) (w : Unit) (R : Type) (K : AExit → St → Option R) : Option R := K (.exit 0) ⟨[(5, .ints true .i64 o.1)], [.cells 88 [.ints false .u8 o.2.1, .bool o.2.2]]⟩
def xe (n : Nat) : Ex := xOf xc (fun v => gu n n v.1 v.2.1 v.2.2.1 v.2.2.2.1 v.2.2.2.2) F7
theorem Eh (n : Nat) : Snd ⟨Tryd.prog, 1, 16⟩ (xe n) (Tryd.f59.body.getD .skip).a2.a2.a1.a2.a1 := aH (t := F6) (b := fun v R A K => jL n v.1 v.2.1 v.2.2.1 v.2.2.2.1 v.2.2.2.2 R (fun z0 z1 z2 z3 z4 => A (z0, z1, z2, z3, z4)) K) (f := fun m v => gu n m v.1 v.2.1 v.2.2.1 v.2.2.2.1 v.2.2.2.2) (m := (fun e => match e with | .exit 0 => ([5], none) | .normal => ([1, 5, 6, 7], none) | _ => ([], none))) n (.s .a (.s .a (.s (.u (.r [(0, .tk [5]), (2, .cl 49 (zH n)), (4, .tk [9]), (5, .tk [13])])) .a))) (by intro s v w h; unfold xc at h; split at h <;> first | (cases h; rfl) | cases h) (fun _ _ _ _ => by kernel_rfl) (by intros; unfold jL; simp only [aS]) (fun _ => rfl) (fun _ _ => rfl) (fun _ => rfl) (fun _ _ _ _ _ _ => by kernel_rfl) (fun _ _ _ _ _ _ => by kernel_rfl) (by intro e n h; split at h <;> cases h) (by kernel_rfl) (by kernel_rfl) (ai (Fj n) trivial)
def lJ (n : Nat) (a0 : Int) (h0 : List Int) (h1 : Bool) (R : Type) (K : ((List Int) × (List Int) × Bool) → Option R) : Option R := (gu n n ([] : List Int) a0 (0 : Int) h0 h1).bind fun o261 => (K (o261.1, o261.2.1, o261.2.2))
def oZ (n : Nat) (a0 : Int) (h0 : List Int) (h1 : Bool) : Option ((List Int) × (List Int) × Bool) := lJ n a0 h0 h1 _ some
def Bj : List AV → List AObj → Option (Int × (List Int) × Bool)
  | [.int .i64 a0, .func (.func 49) [.ptr (some (0, 0))] []], [.cells 88 [.ints false .u8 h0, .bool h1]] => some (a0, h0, h1)
  | _, _ => none
def zI (n : Nat) : FSpec := iQ Bj (fun v => oZ n v.1 v.2.1 v.2.2) (fun o => .ints true .i64 o.1) (fun o => [.cells 88 [.ints false .u8 o.2.1, .bool o.2.2]])
theorem Fp (n : Nat) : FSound Tryd.prog 59 (zI n) := aG (t := fun v => ⟨[(0, .int .i64 v.1), (1, .func (.func 49) [.ptr (some (0, 0))] [])], [.cells 88 [.ints false .u8 v.2.1, .bool v.2.2]]⟩) (b := fun v R K => lJ n v.1 v.2.1 v.2.2 R K) (nt := 16) (n := some 1) (rs := [.tmp 4]) (.s .a (.s .a (.s (.s .a (.u (.p (aA ([1, 5, 6, 7], none) (xe n))))) (.s (.r [(0, .tk [5]), (1, .tk [15])]) .a)))) Tryd.func59 (by kernel_rfl) rfl rfl rfl (fun _ h => by injection h with h; exact h.symm) (by decide) (by kernel_rfl) (by intro s v w h; unfold Bj at h; split at h <;> first | (cases h; exact ⟨Nat.le_of_ble_eq_true rfl, rfl, rfl⟩) | cases h) (fun _ _ _ => by kernel_rfl) (by intros; unfold lJ; simp only [aS]) (fun _ => by kernel_rfl) (by kernel_rfl) (by kernel_rfl) (ai (aP [1, 5, 6, 7] (Eh n)) trivial)
def cZ (n : Nat) (x2 : Int) (h0_0 : List Int) (h0_1 : Bool) (h2_0 h2_1 h2_2 h2_3 h2_4 h2_5 h2_6 : Int) (h3_0 : List (List AV)) (h3_1 h3_2 : List Int) (h3_3 : Str) (R : Type) (K : (Bool × (List Int) × Bool × Int × Int × Int × Int × Int × Int × Int × (List (List AV)) × (List Int) × (List Int) × Str) → Option R) : Option R := cond h0_1 (K (true, h0_0, h0_1, h2_0, h2_1, h2_2, h2_3, h2_4, h2_5, h2_6, h3_0, h3_1, h3_2, h3_3)) ((eD n h2_0 h2_1 h2_2 h2_3 h2_4 h2_5 h2_6).bind fun o279 => (cond (!o279) (K (true, h0_0, h0_1, h2_0, h2_1, h2_2, h2_3, h2_4, h2_5, h2_6, h3_0, h3_1, h3_2, h3_3)) ((aO n h2_0 h2_1 h2_2 h2_3 h2_4 h2_5 h2_6 x2).bind fun o280 => (K (decide ((h0_0.length : Int) < o280), h0_0, h0_1, h2_0, h2_1, h2_2, h2_3, h2_4, h2_5, h2_6, h3_0, h3_1, h3_2, h3_3)))))
def bA (n : Nat) (x2 : Int) (h0_0 : List Int) (h0_1 : Bool) (h2_0 h2_1 h2_2 h2_3 h2_4 h2_5 h2_6 : Int) (h3_0 : List (List AV)) (h3_1 h3_2 : List Int) (h3_3 : Str) : Option ((Bool × (List Int) × Bool × Int × Int × Int × Int × Int × Int × Int × (List (List AV)) × (List Int) × (List Int) × Str)) := cZ n x2 h0_0 h0_1 h2_0 h2_1 h2_2 h2_3 h2_4 h2_5 h2_6 h3_0 h3_1 h3_2 h3_3 _ some
def tV : St → Option ((Int × (List Int) × Bool × Int × Int × Int × Int × Int × Int × Int × (List (List AV)) × (List Int) × (List Int) × Str) × (AV × AV))
  | ⟨[(2, .int .i64 x2), (3, p3), (4, .ptr (some (1, 0))), (5, .ptr (some (2, 0))), (8, p8)], [.cells 88 [.ints false .u8 h0_0, .bool h0_1], .cells 86 [.ptr (some (0, 0))], .cells 70 [.int .u8 h2_0, .int .i64 h2_1, .int .i64 h2_2, .int .i64 h2_3, .int .i64 h2_4, .int .i64 h2_5, .int .i64 h2_6], .cells 26 [.sl true 3 h3_0, .ints true .i64 h3_1, .ints true .i64 h3_2, .str h3_3]]⟩ => some ((x2, h0_0, h0_1, h2_0, h2_1, h2_2, h2_3, h2_4, h2_5, h2_6, h3_0, h3_1, h3_2, h3_3), (p3, p8))
  | _ => none
def Dr (v : Int × (List Int) × Bool × Int × Int × Int × Int × Int × Int × Int × (List (List AV)) × (List Int) × (List Int) × Str) (w : AV × AV) : St := ⟨[(2, .int .i64 v.1), (3, w.1), (4, .ptr (some (1, 0))), (5, .ptr (some (2, 0))), (8, w.2)], [.cells 88 [.ints false .u8 v.2.1, .bool v.2.2.1], .cells 86 [.ptr (some (0, 0))], .cells 70 [.int .u8 v.2.2.2.1, .int .i64 v.2.2.2.2.1, .int .i64 v.2.2.2.2.2.1, .int .i64 v.2.2.2.2.2.2.1, .int .i64 v.2.2.2.2.2.2.2.1, .int .i64 v.2.2.2.2.2.2.2.2.1, .int .i64 v.2.2.2.2.2.2.2.2.2.1], .cells 26 [.sl true 3 v.2.2.2.2.2.2.2.2.2.2.1, .ints true .i64 v.2.2.2.2.2.2.2.2.2.2.2.1, .ints true .i64 v.2.2.2.2.2.2.2.2.2.2.2.2.1, .str v.2.2.2.2.2.2.2.2.2.2.2.2.2]]⟩
def Dt (v : Int × (List Int) × Bool × Int × Int × Int × Int × Int × Int × Int × (List (List AV)) × (List Int) × (List Int) × Str) (o : (Bool × (List Int) × Bool × Int × Int × Int × Int × Int × Int × Int × (List (List AV)) × (List Int) × (List Int) × Str)) (w : AV × AV) (R : Type) (K : AExit → St → Option R) : Option R := K .normal ⟨[(2, .int .i64 v.1), (3, w.1), (4, .ptr (some (1, 0))), (5, .ptr (some (2, 0))), (8, w.2), (35, .bool o.1)], [.cells 88 [.ints false .u8 o.2.1, .bool o.2.2.1], .cells 86 [.ptr (some (0, 0))], .cells 70 [.int .u8 o.2.2.2.1, .int .i64 o.2.2.2.2.1, .int .i64 o.2.2.2.2.2.1, .int .i64 o.2.2.2.2.2.2.1, .int .i64 o.2.2.2.2.2.2.2.1, .int .i64 o.2.2.2.2.2.2.2.2.1, .int .i64 o.2.2.2.2.2.2.2.2.2.1], .cells 26 [.sl true 3 o.2.2.2.2.2.2.2.2.2.2.1, .ints true .i64 o.2.2.2.2.2.2.2.2.2.2.2.1, .ints true .i64 o.2.2.2.2.2.2.2.2.2.2.2.2.1, .str o.2.2.2.2.2.2.2.2.2.2.2.2.2]]⟩
def tX (n : Nat) : Ex := xOf tV (fun v => bA n v.1 v.2.1 v.2.2.1 v.2.2.2.1 v.2.2.2.2.1 v.2.2.2.2.2.1 v.2.2.2.2.2.2.1 v.2.2.2.2.2.2.2.1 v.2.2.2.2.2.2.2.2.1 v.2.2.2.2.2.2.2.2.2.1 v.2.2.2.2.2.2.2.2.2.2.1 v.2.2.2.2.2.2.2.2.2.2.2.1 v.2.2.2.2.2.2.2.2.2.2.2.2.1 v.2.2.2.2.2.2.2.2.2.2.2.2.2) Dt
def gK (n : Nat) (x15 : Bool) (h0_0 : List Int) (h0_1 : Bool) (h2_0 : List (List AV)) (h2_1 h2_2 : List Int) (h2_3 : Str) (h3_0 h3_1 h3_2 : Int) (R : Type) (K : ((List Int) × Bool × (List (List AV)) × (List Int) × (List Int) × Str × Int × Int × Int) → Option R) : Option R := cond h0_1 (K (h0_0, true, h2_0, h2_1, h2_2, h2_3, h3_0, h3_1, h3_2)) (cond (!x15) (K (h0_0, true, h2_0, h2_1, h2_2, h2_3, h3_0, h3_1, h3_2)) (K (h0_0, decide (h3_1 > (1 : Int)), h2_0, h2_1, h2_2, h2_3, h3_0, h3_1, h3_2)))
def fP (n : Nat) (x15 : Bool) (h0_0 : List Int) (h0_1 : Bool) (h2_0 : List (List AV)) (h2_1 h2_2 : List Int) (h2_3 : Str) (h3_0 h3_1 h3_2 : Int) : Option (((List Int) × Bool × (List (List AV)) × (List Int) × (List Int) × Str × Int × Int × Int)) := gK n x15 h0_0 h0_1 h2_0 h2_1 h2_2 h2_3 h3_0 h3_1 h3_2 _ some
def tY : St → Option ((Bool × (List Int) × Bool × (List (List AV)) × (List Int) × (List Int) × Str × Int × Int × Int) × (AV × AV × AV × AV × AV × AV))
  | ⟨[(4, .ptr (some (1, 0))), (8, p8), (10, p10), (12, .ptr (some (3, 0))), (13, p13), (15, .bool x15), (72, p72), (73, p73), (74, p74)], [.cells 88 [.ints false .u8 h0_0, .bool h0_1], .cells 86 [.ptr (some (0, 0))], .cells 26 [.sl true 3 h2_0, .ints true .i64 h2_1, .ints true .i64 h2_2, .str h2_3], .cells 119 [.int .i64 h3_0, .int .i64 h3_1, .int .i64 h3_2]]⟩ => some ((x15, h0_0, h0_1, h2_0, h2_1, h2_2, h2_3, h3_0, h3_1, h3_2), (p8, p10, p13, p72, p73, p74))
  | _ => none
def Du (v : Bool × (List Int) × Bool × (List (List AV)) × (List Int) × (List Int) × Str × Int × Int × Int) (w : AV × AV × AV × AV × AV × AV) : St := ⟨[(4, .ptr (some (1, 0))), (8, w.1), (10, w.2.1), (12, .ptr (some (3, 0))), (13, w.2.2.1), (15, .bool v.1), (72, w.2.2.2.1), (73, w.2.2.2.2.1), (74, w.2.2.2.2.2)], [.cells 88 [.ints false .u8 v.2.1, .bool v.2.2.1], .cells 86 [.ptr (some (0, 0))], .cells 26 [.sl true 3 v.2.2.2.1, .ints true .i64 v.2.2.2.2.1, .ints true .i64 v.2.2.2.2.2.1, .str v.2.2.2.2.2.2.1], .cells 119 [.int .i64 v.2.2.2.2.2.2.2.1, .int .i64 v.2.2.2.2.2.2.2.2.1, .int .i64 v.2.2.2.2.2.2.2.2.2]]⟩
def Dv (v : Bool × (List Int) × Bool × (List (List AV)) × (List Int) × (List Int) × Str × Int × Int × Int) (o : ((List Int) × Bool × (List (List AV)) × (List Int) × (List Int) × Str × Int × Int × Int)) (w : AV × AV × AV × AV × AV × AV) (R : Type) (K : AExit → St → Option R) : Option R := K .normal ⟨[(4, .ptr (some (1, 0))), (8, w.1), (10, w.2.1), (12, .ptr (some (3, 0))), (13, w.2.2.1), (72, w.2.2.2.1), (73, w.2.2.2.2.1), (74, w.2.2.2.2.2)], [.cells 88 [.ints false .u8 o.1, .bool o.2.1], .cells 86 [.ptr (some (0, 0))], .cells 26 [.sl true 3 o.2.2.1, .ints true .i64 o.2.2.2.1, .ints true .i64 o.2.2.2.2.1, .str o.2.2.2.2.2.1], .cells 119 [.int .i64 o.2.2.2.2.2.2.1, .int .i64 o.2.2.2.2.2.2.2.1, .int .i64 o.2.2.2.2.2.2.2.2]]⟩
def tZ (n : Nat) : Ex := xOf tY (fun v => fP n v.1 v.2.1 v.2.2.1 v.2.2.2.1 v.2.2.2.2.1 v.2.2.2.2.2.1 v.2.2.2.2.2.2.1 v.2.2.2.2.2.2.2.1 v.2.2.2.2.2.2.2.2.1 v.2.2.2.2.2.2.2.2.2) Dv
def dh (n : Nat) (x10 : List Int) (x72 : List (List AV)) (x73 x74 : Int) (h0_0 : List Int) (h0_1 : Bool) (h2_0 : List (List AV)) (h2_1 h2_2 : List Int) (h2_3 : Str) (R : Type) (A_ : (List Int) → (List (List AV)) → Int → Int → (List Int) → Bool → (List (List AV)) → (List Int) → (List Int) → Str → Option R) (K : ((List Int) × Bool × (List (List AV)) × (List Int) × (List Int) × Str) → Option R) : Option R := cond (decide (x74 < x73)) (cond (decide (0 ≤ x74)) ((x72[x74.toNat]?).bind fun e287 => (unc e287 fun c288 r289 => jR .i64 c288 fun x290 => unc r289 fun c291 r292 => jR .i64 c291 fun x293 => unc r292 fun c294 r295 => jR .i64 c294 fun x296 => unn r295 (cond (decide (0 ≤ (if (x10.length : Int) < x296 then (x10.length : Int) else x296))) (cond (decide ((if (x10.length : Int) < x296 then (x10.length : Int) else x296) ≤ (x10.length : Int))) ((Gv n (x10.drop (if (x10.length : Int) < x296 then (x10.length : Int) else x296).toNat) ([(0 : Int)] : List Int)).bind fun o297 => ((fP n o297.2.2 h0_0 h0_1 h2_0 h2_1 h2_2 h2_3 x290 x293 x296).bind fun o298 => (cond (decide ((o298.2.2.1.length + ([[.int .i64 o298.2.2.2.2.2.2.1, .bool (o298.2.2.2.2.2.2.2.1 == (1 : Int)), .str (strOf o297.1)]] : List (List AV)).length) * 32 ≤ 140737488355328)) (A_ x10 x72 x73 (IntKind.i64.wrap (x74 + (1 : Int))) o298.1 o298.2.1 (o298.2.2.1 ++ ([[.int .i64 o298.2.2.2.2.2.2.1, .bool (o298.2.2.2.2.2.2.2.1 == (1 : Int)), .str (strOf o297.1)]] : List (List AV))) o298.2.2.2.1 o298.2.2.2.2.1 o298.2.2.2.2.2.1) none))) none) none))) none) (K (h0_0, h0_1, h2_0, h2_1, h2_2, h2_3))
def bu (n : Nat) : Nat → (List Int) → (List (List AV)) → Int → Int → (List Int) → Bool → (List (List AV)) → (List Int) → (List Int) → Str → Option (((List Int) × Bool × (List (List AV)) × (List Int) × (List Int) × Str))
  | 0, _, _, _, _, _, _, _, _, _, _ => none
  | m + 1, x10, x72, x73, x74, h0_0, h0_1, h2_0, h2_1, h2_2, h2_3 => dh n x10 x72 x73 x74 h0_0 h0_1 h2_0 h2_1 h2_2 h2_3 _ (bu n m) some
def uf : St → Option (((List Int) × (List (List AV)) × Int × Int × (List Int) × Bool × (List (List AV)) × (List Int) × (List Int) × Str) × (Unit))
  | ⟨[(4, .ptr (some (1, 0))), (8, .ptr (some (2, 0))), (10, .ints false .u8 x10), (72, .sl true 3 x72), (73, .int .i64 x73), (74, .int .i64 x74)], [.cells 88 [.ints false .u8 h0_0, .bool h0_1], .cells 86 [.ptr (some (0, 0))], .cells 26 [.sl true 3 h2_0, .ints true .i64 h2_1, .ints true .i64 h2_2, .str h2_3]]⟩ => some ((x10, x72, x73, x74, h0_0, h0_1, h2_0, h2_1, h2_2, h2_3), ())
  | _ => none
def Dw (v : (List Int) × (List (List AV)) × Int × Int × (List Int) × Bool × (List (List AV)) × (List Int) × (List Int) × Str) (w : Unit) : St := ⟨[(4, .ptr (some (1, 0))), (8, .ptr (some (2, 0))), (10, .ints false .u8 v.1), (72, .sl true 3 v.2.1), (73, .int .i64 v.2.2.1), (74, .int .i64 v.2.2.2.1)], [.cells 88 [.ints false .u8 v.2.2.2.2.1, .bool v.2.2.2.2.2.1], .cells 86 [.ptr (some (0, 0))], .cells 26 [.sl true 3 v.2.2.2.2.2.2.1, .ints true .i64 v.2.2.2.2.2.2.2.1, .ints true .i64 v.2.2.2.2.2.2.2.2.1, .str v.2.2.2.2.2.2.2.2.2]]⟩
def Dx (v : (List Int) × (List (List AV)) × Int × Int × (List Int) × Bool × (List (List AV)) × (List Int) × (List Int) × Str) (o : ((List Int) × Bool × (List (List AV)) × (List Int) × (List Int) × Str)) (w : Unit) (R : Type) (K : AExit → St → Option R) : Option R := K (.exit 0) ⟨[(8, .ptr (some (2, 0)))], [.cells 88 [.ints false .u8 o.1, .bool o.2.1], .cells 86 [.ptr (some (0, 0))], .cells 26 [.sl true 3 o.2.2.1, .ints true .i64 o.2.2.2.1, .ints true .i64 o.2.2.2.2.1, .str o.2.2.2.2.2]]⟩
def ug (n : Nat) : Ex := xOf uf (fun v => bu n n v.1 v.2.1 v.2.2.1 v.2.2.2.1 v.2.2.2.2.1 v.2.2.2.2.2.1 v.2.2.2.2.2.2.1 v.2.2.2.2.2.2.2.1 v.2.2.2.2.2.2.2.2.1 v.2.2.2.2.2.2.2.2.2) Dx
theorem Bl (n : Nat) : Snd ⟨Tryd.prog, 1, 122⟩ (tZ n) (Tryd.f46.body.getD .skip).a2.a2.a2.a2.a2.a2.a2.a1.a2.a1.a1.a2.a2.a1.a1.a2.a2.a1 := dA (t := Du) (b := fun v R K => gK n v.1 v.2.1 v.2.2.1 v.2.2.2.1 v.2.2.2.2.1 v.2.2.2.2.2.1 v.2.2.2.2.2.2.1 v.2.2.2.2.2.2.2.1 v.2.2.2.2.2.2.2.2.1 v.2.2.2.2.2.2.2.2.2 R K) (m := (fun e => match e with | .normal => ([4, 8, 10, 12, 13, 72, 73, 74], none) | _ => ([], none))) (.d [] [(0, .part [0, 1]), (1, .part [0, 1]), (2, .part [0]), (3, .part [0]), (4, .part [0]), (10, .look), (14, .part [0]), (15, .part [0]), (16, .part [0])]) (by intro s v w h; unfold tY at h; split at h <;> first | (cases h; rfl) | cases h) (fun _ _ _ _ => by kernel_rfl) (by intros; unfold gK; simp only [aS]) (fun _ => by kernel_rfl) (by intro e n h; split at h <;> cases h) (by kernel_rfl) (by kernel_rfl) trivial
theorem Bn (n : Nat) : Snd ⟨Tryd.prog, 1, 122⟩ (tX n) (Tryd.f46.body.getD .skip).a2.a1.a1 := dA (t := Dr) (b := fun v R K => cZ n v.1 v.2.1 v.2.2.1 v.2.2.2.1 v.2.2.2.2.1 v.2.2.2.2.2.1 v.2.2.2.2.2.2.1 v.2.2.2.2.2.2.2.1 v.2.2.2.2.2.2.2.2.1 v.2.2.2.2.2.2.2.2.2.1 v.2.2.2.2.2.2.2.2.2.2.1 v.2.2.2.2.2.2.2.2.2.2.2.1 v.2.2.2.2.2.2.2.2.2.2.2.2.1 v.2.2.2.2.2.2.2.2.2.2.2.2.2 R K) (m := (fun e => match e with | .normal => ([2, 3, 4, 5, 8, 35], none) | _ => ([], none))) (.d [(6, .cl 58 (xI n)), (17, .cl 28 (mF n))] [(0, .peek [0, 1] [1]), (1, .peek [0] [0]), (2, .peek [0] [0]), (3, .peek [0] [0]), (5, .peek [2] [2]), (10, .peek [0, 1] [1]), (11, .peek [0] [0]), (12, .peek [0] [0]), (13, .peek [0] [0]), (15, .peek [2] [2])]) (by intro s v w h; unfold tV at h; split at h <;> first | (cases h; rfl) | cases h) (fun _ _ _ _ => by kernel_rfl) (by intros; unfold cZ; simp only [aS]) (fun _ => by kernel_rfl) (by intro e n h; split at h <;> cases h) (by kernel_rfl) (by kernel_rfl) (ai (zB n) (ai (mG n) trivial))
theorem Bo (n : Nat) : Snd ⟨Tryd.prog, 1, 122⟩ (ug n) (Tryd.f46.body.getD .skip).a2.a2.a2.a2.a2.a2.a2.a1.a2.a1 := aH (t := Dw) (b := fun v R A K => dh n v.1 v.2.1 v.2.2.1 v.2.2.2.1 v.2.2.2.2.1 v.2.2.2.2.2.1 v.2.2.2.2.2.2.1 v.2.2.2.2.2.2.2.1 v.2.2.2.2.2.2.2.2.1 v.2.2.2.2.2.2.2.2.2 R (fun z0 z1 z2 z3 z4 z5 z6 z7 z8 z9 => A (z0, z1, z2, z3, z4, z5, z6, z7, z8, z9)) K) (f := fun m v => bu n m v.1 v.2.1 v.2.2.1 v.2.2.2.1 v.2.2.2.2.1 v.2.2.2.2.2.1 v.2.2.2.2.2.2.1 v.2.2.2.2.2.2.2.1 v.2.2.2.2.2.2.2.2.1 v.2.2.2.2.2.2.2.2.2) (m := (fun e => match e with | .exit 0 => ([8], none) | .normal => ([4, 8, 10, 72, 73, 74], some 1) | _ => ([], none))) n (.s .a (.s .a (.s (.u (.s .a (.s (.r [(8, .cl 64 (E9 n)), (12, .tk [78])]) (.s (.p (aA ([4, 8, 10, 12, 13, 15, 72, 73, 74], none) (tZ n))) (.r [(1, .lt), (11, .tk [108]), (13, .tk [118])]))))) .a))) (by intro s v w h; unfold uf at h; split at h <;> first | (cases h; rfl) | cases h) (fun _ _ _ _ => by kernel_rfl) (by intros; unfold dh; simp only [aS]) (fun _ => rfl) (fun _ _ => rfl) (fun _ => rfl) (fun _ _ _ _ _ _ => by kernel_rfl) (fun _ _ _ _ _ _ => by kernel_rfl) (by intro e n h; cases e <;> (first | cases h | (split at h <;> cases h)) <;> rfl) (by kernel_rfl) (by kernel_rfl) (ai (FV n) (ai (aP [4, 8, 10, 12, 13, 15, 72, 73, 74] (Bl n)) trivial))
def dz (n : Nat) (a0 a1 a2 a3 a4 a5 a6 a7 : Int) (h0 : List Int) (h1 : Bool) (R : Type) (K : ((List (List AV)) × (List Int) × (List Int) × Str × (List Int) × Bool) → Option R) : Option R := (bA n a7 h0 h1 a0 a1 a2 a3 a4 a5 a6 ([] : List (List AV)) ([] : List Int) ([] : List Int) ([] : Str)).bind fun o281 => (cond o281.1 (K (([] : List (List AV)), ([] : List Int), ([] : List Int), ([] : Str), o281.2.1, true)) ((oZ n o281.2.2.2.2.2.2.2.1 o281.2.1 o281.2.2.1).bind fun o282 => ((lH n o281.2.2.2.2.2.2.2.1 o282.2.1 o282.2.2).bind fun o283 => ((qU n o281.2.2.2.2.2.2.2.2.1 o283.2.1 o283.2.2).bind fun o284 => ((bU n o281.2.2.2.2.2.2.2.2.2.1 o284.2.1 o284.2.2).bind fun o285 => ((bU n (IntKind.i64.wrap ((IntKind.i64.wrap ((IntKind.i64.wrap (o281.2.2.2.2.2.2.1 * (IntKind.i64.wrap (a7 + (4 : Int))))) + o281.2.2.2.2.2.1)) + o281.2.2.2.2.1)) o285.2.1 o285.2.2).bind fun o286 => ((bu n n o285.1 o284.1 (o284.1.length : Int) (0 : Int) o286.2.1 o286.2.2 o281.2.2.2.2.2.2.2.2.2.2.1 o282.1 o283.1 o281.2.2.2.2.2.2.2.2.2.2.2.2.2).bind fun o299 => (K (o299.2.2.1, o299.2.2.2.1, o299.2.2.2.2.1, o299.2.2.2.2.2, o299.1, o299.2.1)))))))))
def aJ (n : Nat) (a0 a1 a2 a3 a4 a5 a6 a7 : Int) (h0 : List Int) (h1 : Bool) : Option ((List (List AV)) × (List Int) × (List Int) × Str × (List Int) × Bool) := dz n a0 a1 a2 a3 a4 a5 a6 a7 h0 h1 _ some
def xg : List AV → List AObj → Option (Int × Int × Int × Int × Int × Int × Int × Int × (List Int) × Bool)
  | [.ptr (some (0, 0)), .agg [.int .u8 a0, .int .i64 a1, .int .i64 a2, .int .i64 a3, .int .i64 a4, .int .i64 a5, .int .i64 a6], .int .i64 a7, .func (.func 49) [.ptr (some (0, 0))] []], [.cells 88 [.ints false .u8 h0, .bool h1]] => some (a0, a1, a2, a3, a4, a5, a6, a7, h0, h1)
  | _, _ => none
def wh (n : Nat) : FSpec := iQ xg (fun v => aJ n v.1 v.2.1 v.2.2.1 v.2.2.2.1 v.2.2.2.2.1 v.2.2.2.2.2.1 v.2.2.2.2.2.2.1 v.2.2.2.2.2.2.2.1 v.2.2.2.2.2.2.2.2.1 v.2.2.2.2.2.2.2.2.2) (fun o => .agg [.sl false 3 o.1, .ints false .i64 o.2.1, .ints false .i64 o.2.2.1, .str o.2.2.2.1]) (fun o => [.cells 88 [.ints false .u8 o.2.2.2.2.1, .bool o.2.2.2.2.2]])
theorem BR (n : Nat) : FSound Tryd.prog 46 (wh n) := aG (t := fun v => ⟨[(0, .ptr (some (0, 0))), (1, .agg [.int .u8 v.1, .int .i64 v.2.1, .int .i64 v.2.2.1, .int .i64 v.2.2.2.1, .int .i64 v.2.2.2.2.1, .int .i64 v.2.2.2.2.2.1, .int .i64 v.2.2.2.2.2.2.1]), (2, .int .i64 v.2.2.2.2.2.2.2.1), (3, .func (.func 49) [.ptr (some (0, 0))] [])], [.cells 88 [.ints false .u8 v.2.2.2.2.2.2.2.2.1, .bool v.2.2.2.2.2.2.2.2.2]]⟩) (b := fun v R K => dz n v.1 v.2.1 v.2.2.1 v.2.2.2.1 v.2.2.2.2.1 v.2.2.2.2.2.1 v.2.2.2.2.2.2.1 v.2.2.2.2.2.2.2.1 v.2.2.2.2.2.2.2.2.1 v.2.2.2.2.2.2.2.2.2 R K) (nt := 122) (n := some 1) (rs := [.cell 8 26 4 true]) (.s .a (.s (.s (.p (aA ([2, 3, 4, 5, 8], none) (tX n))) (.s (.s .a (.s (.r [(1, .tk [39])]) .a)) .a)) (.s (.r [(3, .cl 59 (zI n)), (5, .tk [43])]) (.s (.r [(4, .cl 60 (zh n)), (6, .tk [49])]) (.s (.r [(3, .cl 62 (E8 n)), (4, .tk [54])]) (.s (.r [(3, .cl 48 (dB n))]) (.s (.r [(12, .cl 48 (dB n))]) (.s (.s (.r [(0, .tk [9])]) (.u (.p (aA ([4, 8, 10, 72, 73, 74], some 1) (ug n))))) .a)))))))) Tryd.func46 (by kernel_rfl) rfl rfl rfl (fun _ h => by injection h with h; exact h.symm) (by decide) (by kernel_rfl) (by intro s v w h; unfold xg at h; split at h <;> first | (cases h; exact ⟨Nat.le_of_ble_eq_true rfl, rfl, rfl⟩) | cases h) (fun _ _ _ => by kernel_rfl) (by intros; unfold dz; simp only [aS]) (fun _ => by kernel_rfl) (by kernel_rfl) (by kernel_rfl) (ai (aP [2, 3, 4, 5, 8] (Bn n)) (ai (Fp n) (ai (Bh n) (ai (FU n) (ai (cK n) (ai (cK n) (ai (xZ [4, 8, 10, 72, 73, 74] (Bo n)) trivial)))))))
def jM (n : Nat) (h0_0 : List Int) (h0_1 : Bool) (h1_0 : List (List AV)) (h1_1 h1_2 : List Int) (h1_3 : Str) (h2_0 h2_1 h2_2 h2_3 h2_4 h2_5 h2_6 h3_0 h3_1 h3_2 h3_3 h3_4 h3_5 h3_6 : Int) (h4_0 : List (List AV)) (h4_1 h4_2 : List Int) (h4_3 : Str) (R : Type) (K : ((List Int) × Bool × (List (List AV)) × (List Int) × (List Int) × Str × Int × Int × Int × Int × Int × Int × Int × Int × Int × Int × Int × Int × Int × Int × (List (List AV)) × (List Int) × (List Int) × Str) → Option R) : Option R := cond h0_1 (K (h0_0, true, h1_0, h1_1, h1_2, h1_3, h2_0, h2_1, h2_2, h2_3, h2_4, h2_5, h2_6, h3_0, h3_1, h3_2, h3_3, h3_4, h3_5, h3_6, h4_0, h4_1, h4_2, h4_3)) (cond (h3_0 != h2_0) (K (h0_0, true, h1_0, h1_1, h1_2, h1_3, h2_0, h2_1, h2_2, h2_3, h2_4, h2_5, h2_6, h3_0, h3_1, h3_2, h3_3, h3_4, h3_5, h3_6, h4_0, h4_1, h4_2, h4_3)) (cond (decide ((h0_0.length : Int) < (2 : Int))) (K (h0_0, true, h1_0, h1_1, h1_2, h1_3, h2_0, h2_1, h2_2, h2_3, h2_4, h2_5, h2_6, h3_0, h3_1, h3_2, h3_3, h3_4, h3_5, h3_6, h4_0, h4_1, h4_2, h4_3)) ((h0_0[0]?).bind fun e310 => (cond (e310 != (10 : Int)) (K (h0_0, true, h1_0, h1_1, h1_2, h1_3, h2_0, h2_1, h2_2, h2_3, h2_4, h2_5, h2_6, h3_0, h3_1, h3_2, h3_3, h3_4, h3_5, h3_6, h4_0, h4_1, h4_2, h4_3)) (cond (decide (0 ≤ (IntKind.i64.wrap ((h0_0.length : Int) - (1 : Int))))) ((h0_0[(IntKind.i64.wrap ((h0_0.length : Int) - (1 : Int))).toNat]?).bind fun e311 => (K (h0_0, e311 != (10 : Int), h1_0, h1_1, h1_2, h1_3, h2_0, h2_1, h2_2, h2_3, h2_4, h2_5, h2_6, h3_0, h3_1, h3_2, h3_3, h3_4, h3_5, h3_6, h4_0, h4_1, h4_2, h4_3))) none)))))
def eH (n : Nat) (h0_0 : List Int) (h0_1 : Bool) (h1_0 : List (List AV)) (h1_1 h1_2 : List Int) (h1_3 : Str) (h2_0 h2_1 h2_2 h2_3 h2_4 h2_5 h2_6 h3_0 h3_1 h3_2 h3_3 h3_4 h3_5 h3_6 : Int) (h4_0 : List (List AV)) (h4_1 h4_2 : List Int) (h4_3 : Str) : Option (((List Int) × Bool × (List (List AV)) × (List Int) × (List Int) × Str × Int × Int × Int × Int × Int × Int × Int × Int × Int × Int × Int × Int × Int × Int × (List (List AV)) × (List Int) × (List Int) × Str)) := jM n h0_0 h0_1 h1_0 h1_1 h1_2 h1_3 h2_0 h2_1 h2_2 h2_3 h2_4 h2_5 h2_6 h3_0 h3_1 h3_2 h3_3 h3_4 h3_5 h3_6 h4_0 h4_1 h4_2 h4_3 _ some
def xh : St → Option (((List Int) × Bool × (List (List AV)) × (List Int) × (List Int) × Str × Int × Int × Int × Int × Int × Int × Int × Int × Int × Int × Int × Int × Int × Int × (List (List AV)) × (List Int) × (List Int) × Str) × (AV × AV))
  | ⟨[(0, .ptr (some (0, 0))), (2, p2), (3, .ptr (some (2, 0))), (4, .ptr (some (3, 0))), (5, p5)], [.cells 88 [.ints false .u8 h0_0, .bool h0_1], .cells 26 [.sl true 3 h1_0, .ints true .i64 h1_1, .ints true .i64 h1_2, .str h1_3], .cells 70 [.int .u8 h2_0, .int .i64 h2_1, .int .i64 h2_2, .int .i64 h2_3, .int .i64 h2_4, .int .i64 h2_5, .int .i64 h2_6], .cells 70 [.int .u8 h3_0, .int .i64 h3_1, .int .i64 h3_2, .int .i64 h3_3, .int .i64 h3_4, .int .i64 h3_5, .int .i64 h3_6], .cells 26 [.sl false 3 h4_0, .ints false .i64 h4_1, .ints false .i64 h4_2, .str h4_3]]⟩ => some ((h0_0, h0_1, h1_0, h1_1, h1_2, h1_3, h2_0, h2_1, h2_2, h2_3, h2_4, h2_5, h2_6, h3_0, h3_1, h3_2, h3_3, h3_4, h3_5, h3_6, h4_0, h4_1, h4_2, h4_3), (p2, p5))
  | _ => none
def F8 (v : (List Int) × Bool × (List (List AV)) × (List Int) × (List Int) × Str × Int × Int × Int × Int × Int × Int × Int × Int × Int × Int × Int × Int × Int × Int × (List (List AV)) × (List Int) × (List Int) × Str) (w : AV × AV) : St := ⟨[(0, .ptr (some (0, 0))), (2, w.1), (3, .ptr (some (2, 0))), (4, .ptr (some (3, 0))), (5, w.2)], [.cells 88 [.ints false .u8 v.1, .bool v.2.1], .cells 26 [.sl true 3 v.2.2.1, .ints true .i64 v.2.2.2.1, .ints true .i64 v.2.2.2.2.1, .str v.2.2.2.2.2.1], .cells 70 [.int .u8 v.2.2.2.2.2.2.1, .int .i64 v.2.2.2.2.2.2.2.1, .int .i64 v.2.2.2.2.2.2.2.2.1, .int .i64 v.2.2.2.2.2.2.2.2.2.1, .int .i64 v.2.2.2.2.2.2.2.2.2.2.1, .int .i64 v.2.2.2.2.2.2.2.2.2.2.2.1, .int .i64 v.2.2.2.2.2.2.2.2.2.2.2.2.1], .cells 70 [.int .u8 v.2.2.2.2.2.2.2.2.2.2.2.2.2.1, .int .i64 v.2.2.2.2.2.2.2.2.2.2.2.2.2.2.1, .int .i64 v.2.2.2.2.2.2.2.2.2.2.2.2.2.2.2.1, .int .i64 v.2.2.2.2.2.2.2.2.2.2.2.2.2.2.2.2.1, .int .i64 v.2.2.2.2.2.2.2.2.2.2.2.2.2.2.2.2.2.1, .int .i64 v.2.2.2.2.2.2.2.2.2.2.2.2.2.2.2.2.2.2.1, .int .i64 v.2.2.2.2.2.2.2.2.2.2.2.2.2.2.2.2.2.2.2.1], .cells 26 [.sl false 3 v.2.2.2.2.2.2.2.2.2.2.2.2.2.2.2.2.2.2.2.2.1, .ints false .i64 v.2.2.2.2.2.2.2.2.2.2.2.2.2.2.2.2.2.2.2.2.2.1, .ints false .i64 v.2.2.2.2.2.2.2.2.2.2.2.2.2.2.2.2.2.2.2.2.2.2.1, .str v.2.2.2.2.2.2.2.2.2.2.2.2.2.2.2.2.2.2.2.2.2.2.2]]⟩
def F9 (v : (List Int) × Bool × (List (List AV)) × (List Int) × (List Int) × Str × Int × Int × Int × Int × Int × Int × Int × Int × Int × Int × Int × Int × Int × Int × (List (List AV)) × (List Int) × (List Int) × Str) (o : ((List Int) × Bool × (List (List AV)) × (List Int) × (List Int) × Str × Int × Int × Int × Int × Int × Int × Int × Int × Int × Int × Int × Int × Int × Int × (List (List AV)) × (List Int) × (List Int) × Str)) (w : AV × AV) (R : Type) (K : AExit → St → Option R) : Option R := K .normal ⟨[(0, .ptr (some (0, 0))), (2, w.1), (5, w.2)], [.cells 88 [.ints false .u8 o.1, .bool o.2.1], .cells 26 [.sl true 3 o.2.2.1, .ints true .i64 o.2.2.2.1, .ints true .i64 o.2.2.2.2.1, .str o.2.2.2.2.2.1], .cells 70 [.int .u8 o.2.2.2.2.2.2.1, .int .i64 o.2.2.2.2.2.2.2.1, .int .i64 o.2.2.2.2.2.2.2.2.1, .int .i64 o.2.2.2.2.2.2.2.2.2.1, .int .i64 o.2.2.2.2.2.2.2.2.2.2.1, .int .i64 o.2.2.2.2.2.2.2.2.2.2.2.1, .int .i64 o.2.2.2.2.2.2.2.2.2.2.2.2.1], .cells 70 [.int .u8 o.2.2.2.2.2.2.2.2.2.2.2.2.2.1, .int .i64 o.2.2.2.2.2.2.2.2.2.2.2.2.2.2.1, .int .i64 o.2.2.2.2.2.2.2.2.2.2.2.2.2.2.2.1, .int .i64 o.2.2.2.2.2.2.2.2.2.2.2.2.2.2.2.2.1, .int .i64 o.2.2.2.2.2.2.2.2.2.2.2.2.2.2.2.2.2.1, .int .i64 o.2.2.2.2.2.2.2.2.2.2.2.2.2.2.2.2.2.2.1, .int .i64 o.2.2.2.2.2.2.2.2.2.2.2.2.2.2.2.2.2.2.2.1], .cells 26 [.sl false 3 o.2.2.2.2.2.2.2.2.2.2.2.2.2.2.2.2.2.2.2.2.1, .ints false .i64 o.2.2.2.2.2.2.2.2.2.2.2.2.2.2.2.2.2.2.2.2.2.1, .ints false .i64 o.2.2.2.2.2.2.2.2.2.2.2.2.2.2.2.2.2.2.2.2.2.2.1, .str o.2.2.2.2.2.2.2.2.2.2.2.2.2.2.2.2.2.2.2.2.2.2.2]]⟩
def xk (n : Nat) : Ex := xOf xh (fun v => eH n v.1 v.2.1 v.2.2.1 v.2.2.2.1 v.2.2.2.2.1 v.2.2.2.2.2.1 v.2.2.2.2.2.2.1 v.2.2.2.2.2.2.2.1 v.2.2.2.2.2.2.2.2.1 v.2.2.2.2.2.2.2.2.2.1 v.2.2.2.2.2.2.2.2.2.2.1 v.2.2.2.2.2.2.2.2.2.2.2.1 v.2.2.2.2.2.2.2.2.2.2.2.2.1 v.2.2.2.2.2.2.2.2.2.2.2.2.2.1 v.2.2.2.2.2.2.2.2.2.2.2.2.2.2.1 v.2.2.2.2.2.2.2.2.2.2.2.2.2.2.2.1 v.2.2.2.2.2.2.2.2.2.2.2.2.2.2.2.2.1 v.2.2.2.2.2.2.2.2.2.2.2.2.2.2.2.2.2.1 v.2.2.2.2.2.2.2.2.2.2.2.2.2.2.2.2.2.2.1 v.2.2.2.2.2.2.2.2.2.2.2.2.2.2.2.2.2.2.2.1 v.2.2.2.2.2.2.2.2.2.2.2.2.2.2.2.2.2.2.2.2.1 v.2.2.2.2.2.2.2.2.2.2.2.2.2.2.2.2.2.2.2.2.2.1 v.2.2.2.2.2.2.2.2.2.2.2.2.2.2.2.2.2.2.2.2.2.2.1 v.2.2.2.2.2.2.2.2.2.2.2.2.2.2.2.2.2.2.2.2.2.2.2) F9
theorem Ei (n : Nat) : Snd ⟨Tryd.prog, 1, 95⟩ (xk n) (Tryd.f38.body.getD .skip).a2.a2.a2.a2.a2.a2.a1 := dA (t := F8) (b := fun v R K => jM n v.1 v.2.1 v.2.2.1 v.2.2.2.1 v.2.2.2.2.1 v.2.2.2.2.2.1 v.2.2.2.2.2.2.1 v.2.2.2.2.2.2.2.1 v.2.2.2.2.2.2.2.2.1 v.2.2.2.2.2.2.2.2.2.1 v.2.2.2.2.2.2.2.2.2.2.1 v.2.2.2.2.2.2.2.2.2.2.2.1 v.2.2.2.2.2.2.2.2.2.2.2.2.1 v.2.2.2.2.2.2.2.2.2.2.2.2.2.1 v.2.2.2.2.2.2.2.2.2.2.2.2.2.2.1 v.2.2.2.2.2.2.2.2.2.2.2.2.2.2.2.1 v.2.2.2.2.2.2.2.2.2.2.2.2.2.2.2.2.1 v.2.2.2.2.2.2.2.2.2.2.2.2.2.2.2.2.2.1 v.2.2.2.2.2.2.2.2.2.2.2.2.2.2.2.2.2.2.1 v.2.2.2.2.2.2.2.2.2.2.2.2.2.2.2.2.2.2.2.1 v.2.2.2.2.2.2.2.2.2.2.2.2.2.2.2.2.2.2.2.2.1 v.2.2.2.2.2.2.2.2.2.2.2.2.2.2.2.2.2.2.2.2.2.1 v.2.2.2.2.2.2.2.2.2.2.2.2.2.2.2.2.2.2.2.2.2.2.1 v.2.2.2.2.2.2.2.2.2.2.2.2.2.2.2.2.2.2.2.2.2.2.2 R K) (m := (fun e => match e with | .normal => ([0, 2, 5], none) | _ => ([], none))) (.d [] [(0, .part [0]), (1, .part [0]), (2, .part [0]), (3, .part [0]), (4, .part [0]), (6, .look), (8, .look), (13, .look), (14, .look), (15, .look), (21, .look), (22, .look), (23, .look), (26, .no), (30, .look), (31, .look), (32, .look), (34, .look), (35, .look), (36, .look), (41, .no), (44, .part [0]), (45, .part [0]), (46, .part [0])]) (by intro s v w h; unfold xh at h; split at h <;> first | (cases h; rfl) | cases h) (fun _ _ _ _ => by kernel_rfl) (by intros; unfold jM; simp only [aS]) (fun _ => by kernel_rfl) (by intro e n h; split at h <;> cases h) (by kernel_rfl) (by kernel_rfl) trivial
def fG (n : Nat) (h0 : List Int) (h1 : Bool) (R : Type) (K : ((List (List AV)) × (List Int) × (List Int) × Str × (List Int) × Bool) → Option R) : Option R := (lF n h0 h1).bind fun o304 => (cond (o304.1 == (0 : Int)) ((bI n o304.1 o304.2.1 o304.2.2.1 o304.2.2.2.1 o304.2.2.2.2.1 o304.2.2.2.2.2.1 o304.2.2.2.2.2.2.1 (4 : Int) o304.2.2.2.2.2.2.2.1 o304.2.2.2.2.2.2.2.2).bind fun o305 => (K (o305.1, o305.2.1, o305.2.2.1, o305.2.2.2.1, o305.2.2.2.2.1, o305.2.2.2.2.2))) ((aO n o304.1 o304.2.1 o304.2.2.1 o304.2.2.2.1 o304.2.2.2.2.1 o304.2.2.2.2.2.1 o304.2.2.2.2.2.2.1 (4 : Int)).bind fun o306 => ((bU n o306 o304.2.2.2.2.2.2.2.1 o304.2.2.2.2.2.2.2.2).bind fun o307 => ((lF n o307.2.1 o307.2.2).bind fun o308 => ((aJ n o308.1 o308.2.1 o308.2.2.1 o308.2.2.2.1 o308.2.2.2.2.1 o308.2.2.2.2.2.1 o308.2.2.2.2.2.2.1 (8 : Int) o308.2.2.2.2.2.2.2.1 o308.2.2.2.2.2.2.2.2).bind fun o309 => ((eH n o309.2.2.2.2.1 o309.2.2.2.2.2 ([] : List (List AV)) ([] : List Int) ([] : List Int) ([] : Str) o304.1 o304.2.1 o304.2.2.1 o304.2.2.2.1 o304.2.2.2.2.1 o304.2.2.2.2.2.1 o304.2.2.2.2.2.2.1 o308.1 o308.2.1 o308.2.2.1 o308.2.2.2.1 o308.2.2.2.2.1 o308.2.2.2.2.2.1 o308.2.2.2.2.2.2.1 o309.1 o309.2.1 o309.2.2.1 o309.2.2.2.1).bind fun o312 => (cond (!o312.2.1) (cond (decide (0 ≤ (IntKind.i64.wrap ((o312.1.length : Int) - (1 : Int))))) (cond (decide ((IntKind.i64.wrap ((o312.1.length : Int) - (1 : Int))) ≤ (o312.1.length : Int))) (cond (decide ((1 : Int) ≤ ((IntKind.i64.wrap ((o312.1.length : Int) - (1 : Int))).toNat : Int))) (K (o312.2.2.2.2.2.2.2.2.2.2.2.2.2.2.2.2.2.2.2.2.1, o312.2.2.2.2.2.2.2.2.2.2.2.2.2.2.2.2.2.2.2.2.2.1, o312.2.2.2.2.2.2.2.2.2.2.2.2.2.2.2.2.2.2.2.2.2.2.1, strOf ((o312.1.take (IntKind.i64.wrap ((o312.1.length : Int) - (1 : Int))).toNat).drop 1), ([] : List Int), o312.2.1)) none) none) none) (K (o312.2.2.2.2.2.2.2.2.2.2.2.2.2.2.2.2.2.2.2.2.1, o312.2.2.2.2.2.2.2.2.2.2.2.2.2.2.2.2.2.2.2.2.2.1, o312.2.2.2.2.2.2.2.2.2.2.2.2.2.2.2.2.2.2.2.2.2.2.1, o312.2.2.2.2.2.2.2.2.2.2.2.2.2.2.2.2.2.2.2.2.2.2.2, o312.1, o312.2.1)))))))))
def aL (n : Nat) (h0 : List Int) (h1 : Bool) : Option ((List (List AV)) × (List Int) × (List Int) × Str × (List Int) × Bool) := fG n h0 h1 _ some
def Bp : List AV → List AObj → Option ((List Int) × Bool)
  | [.ptr (some (0, 0))], [.cells 88 [.ints false .u8 h0, .bool h1]] => some (h0, h1)
  | _, _ => none
def zJ (n : Nat) : FSpec := iQ Bp (fun v => aL n v.1 v.2) (fun o => .agg [.sl false 3 o.1, .ints false .i64 o.2.1, .ints false .i64 o.2.2.1, .str o.2.2.2.1]) (fun o => [.cells 88 [.ints false .u8 o.2.2.2.2.1, .bool o.2.2.2.2.2]])
theorem Fq (n : Nat) : FSound Tryd.prog 38 (zJ n) := aG (t := fun v => ⟨[(0, .ptr (some (0, 0)))], [.cells 88 [.ints false .u8 v.1, .bool v.2]]⟩) (b := fun v R K => fG n v.1 v.2 R K) (nt := 95) (n := some 1) (rs := [.cell 2 26 4 true]) (.s .a (.s (.r [(1, .cl 45 (tF n))]) (.s (.s .a (.s (.s (.r [(4, .cl 46 (yD n))]) .a) .a)) (.s (.r [(2, .cl 28 (mF n)), (3, .cl 48 (dB n))]) (.s (.r [(1, .cl 45 (tF n))]) (.s (.r [(4, .cl 46 (wh n))]) (.s (.p (aA ([0, 2, 3, 4, 5], none) (xk n))) (.s (.s .a (.s (.s (.d [] [(0, .part [0]), (1, .part [0]), (2, .part [0]), (3, .part [0]), (4, .part [0]), (5, .part [0]), (6, .part [0]), (7, .part [0]), (12, .part [4]), (13, .part [4])]) (.r [(3, .nn)])) .a)) .a)))))))) Tryd.func38 (by kernel_rfl) rfl rfl rfl (fun _ h => by injection h with h; exact h.symm) (by decide) (by kernel_rfl) (by intro s v w h; unfold Bp at h; split at h <;> first | (cases h; exact ⟨Nat.le_of_ble_eq_true rfl, rfl, rfl⟩) | cases h) (fun _ _ _ => by kernel_rfl) (by intros; unfold fG; simp only [aS]) (fun _ => by kernel_rfl) (by kernel_rfl) (by kernel_rfl) (ai (vS n) (ai (Eg n) (ai (mG n) (ai (cK n) (ai (vS n) (ai (BR n) (ai (aP [0, 2, 3, 4, 5] (Ei n)) trivial)))))))
def o9 (n : Nat) (a0 : List Int) (R : Type) (K : ((List (List AV)) × (List Int) × (List Int) × Str × Int) → Option R) : Option R := (aL n a0 false).bind fun o313 => (cond o313.2.2.2.2.2 (K (([] : List (List AV)), ([] : List Int), ([] : List Int), ([] : Str), (60 : Int))) (cond (decide ((o313.2.2.2.2.1.length : Int) > (0 : Int))) (K (([] : List (List AV)), ([] : List Int), ([] : List Int), ([] : Str), (60 : Int))) ((kT n o313.1 o313.2.1 o313.2.2.1 o313.2.2.2.1).bind fun o314 => (cond (!o314) (K (([] : List (List AV)), ([] : List Int), ([] : List Int), ([] : Str), (60 : Int))) (K (o313.1, o313.2.1, o313.2.2.1, o313.2.2.2.1, (0 : Int)))))))
def bv (n : Nat) (a0 : List Int) : Option ((List (List AV)) × (List Int) × (List Int) × Str × Int) := o9 n a0 _ some
def JB : List AV → List AObj → Option ((List Int))
  | [.ints false .u8 a0], [] => some a0
  | _, _ => none
def ll (n : Nat) : FSpec := iQ JB (fun v => bv n v) (fun o => .tuple [.agg [.sl false 3 o.1, .ints false .i64 o.2.1, .ints false .i64 o.2.2.1, .str o.2.2.2.1], .int .i64 o.2.2.2.2]) (fun o => [])
theorem jQ (n : Nat) : FSound Tryd.prog 19 (ll n) := aG (t := fun v => ⟨[(0, .ints false .u8 v)], []⟩) (b := fun v R K => o9 n v R K) (nt := 30) (n := some 0) (rs := [.cell 2 26 4 true, .tmp 3]) (.s .a (.s .a (.s (.r [(1, .cl 38 (zJ n))]) (.s (.s (.r [(14, .cl 9 (mX n))]) (.s (.s (.r [(1, .tk [28])]) .a) .a)) .a)))) Tryd.func19 (by kernel_rfl) rfl rfl rfl (fun _ h => by injection h with h; exact h.symm) (by decide) (by kernel_rfl) (by intro s v w h; unfold JB at h; split at h <;> first | (cases h; exact ⟨Nat.le_of_ble_eq_true rfl, rfl, rfl⟩) | cases h) (fun _ _ _ => by kernel_rfl) (by intros; unfold o9; simp only [aS]) (fun _ => by kernel_rfl) (by kernel_rfl) (by kernel_rfl) (ai (Fq n) (ai (lm n) trivial))
def Da (n : Nat) (a0 : Int) (h0 : List (List AV)) (h1 h2 : List Int) (h3 : Str) (h4 : Int) (R : Type) (K : (Bool × (List (List AV)) × (List Int) × (List Int) × Str × Int) → Option R) : Option R := cond (decide (0 ≤ a0)) ((h1[a0.toNat]?).bind fun e317 => (K (decide (e317 > h4), h0, h1, h2, h3, h4))) none
def GD (n : Nat) (a0 : Int) (h0 : List (List AV)) (h1 h2 : List Int) (h3 : Str) (h4 : Int) : Option (Bool × (List (List AV)) × (List Int) × (List Int) × Str × Int) := Da n a0 h0 h1 h2 h3 h4 _ some
def KI : List AV → List AObj → Option (Int × (List (List AV)) × (List Int) × (List Int) × Str × Int)
  | [.int .i64 a0, .ptr (some (0, 0)), .ptr (some (1, 0))], [.cells 26 [.sl false 3 h0, .ints false .i64 h1, .ints false .i64 h2, .str h3], .cells 2 [.int .i64 h4]] => some (a0, h0, h1, h2, h3, h4)
  | _, _ => none
def JC (n : Nat) : FSpec := iQ KI (fun v => GD n v.1 v.2.1 v.2.2.1 v.2.2.2.1 v.2.2.2.2.1 v.2.2.2.2.2) (fun o => .bool o.1) (fun o => [.cells 26 [.sl false 3 o.2.1, .ints false .i64 o.2.2.1, .ints false .i64 o.2.2.2.1, .str o.2.2.2.2.1], .cells 2 [.int .i64 o.2.2.2.2.2]])
theorem K9 (n : Nat) : FSound Tryd.prog 23 (JC n) := aG (t := fun v => ⟨[(0, .int .i64 v.1), (1, .ptr (some (0, 0))), (2, .ptr (some (1, 0)))], [.cells 26 [.sl false 3 v.2.1, .ints false .i64 v.2.2.1, .ints false .i64 v.2.2.2.1, .str v.2.2.2.2.1], .cells 2 [.int .i64 v.2.2.2.2.2]]⟩) (b := fun v R K => Da n v.1 v.2.1 v.2.2.1 v.2.2.2.1 v.2.2.2.2.1 v.2.2.2.2.2 R K) (nt := 12) (n := some 2) (rs := [.tmp 4]) (.s .a (.s (.d [] [(0, .look), (4, .no)]) .a)) Tryd.func23 (by kernel_rfl) rfl rfl rfl (fun _ h => by injection h with h; exact h.symm) (by decide) (by kernel_rfl) (by intro s v w h; unfold KI at h; split at h <;> first | (cases h; exact ⟨Nat.le_of_ble_eq_true rfl, rfl, rfl⟩) | cases h) (fun _ _ _ => by kernel_rfl) (by intros; unfold Da; simp only [aS]) (fun _ => by kernel_rfl) (by kernel_rfl) (by kernel_rfl) trivial
def lq (n : Nat) (x5 x6 : Int) (h0_0 : List (List AV)) (h0_1 h0_2 : List Int) (h0_3 : Str) (h1_0 : Int) (R : Type) (A_ : Int → Int → (List (List AV)) → (List Int) → (List Int) → Str → Int → Option R) (K : (Int × (List (List AV)) × (List Int) × (List Int) × Str × Int) → Option R) : Option R := cond (decide (x5 < x6)) ((GD n (IntKind.i64.wrap (Int.fdiv (IntKind.u64.wrap (IntKind.i64.wrap (x5 + x6))) (2 ^ 1))) h0_0 h0_1 h0_2 h0_3 h1_0).bind fun o318 => (cond (!o318.1) (A_ (IntKind.i64.wrap ((IntKind.i64.wrap (Int.fdiv (IntKind.u64.wrap (IntKind.i64.wrap (x5 + x6))) (2 ^ 1))) + (1 : Int))) x6 o318.2.1 o318.2.2.1 o318.2.2.2.1 o318.2.2.2.2.1 o318.2.2.2.2.2) (A_ x5 (IntKind.i64.wrap (Int.fdiv (IntKind.u64.wrap (IntKind.i64.wrap (x5 + x6))) (2 ^ 1))) o318.2.1 o318.2.2.1 o318.2.2.2.1 o318.2.2.2.2.1 o318.2.2.2.2.2))) (K (x5, h0_0, h0_1, h0_2, h0_3, h1_0))
def kg (n : Nat) : Nat → Int → Int → (List (List AV)) → (List Int) → (List Int) → Str → Int → Option ((Int × (List (List AV)) × (List Int) × (List Int) × Str × Int))
  | 0, _, _, _, _, _, _, _ => none
  | m + 1, x5, x6, h0_0, h0_1, h0_2, h0_3, h1_0 => lq n x5 x6 h0_0 h0_1 h0_2 h0_3 h1_0 _ (kg n m) some
def Ej : St → Option ((Int × Int × (List (List AV)) × (List Int) × (List Int) × Str × Int) × (Unit))
  | ⟨[(1, .func (.func 23) [] [.ptr (some (0, 0)), .ptr (some (1, 0))]), (5, .int .i64 x5), (6, .int .i64 x6)], [.cells 26 [.sl false 3 h0_0, .ints false .i64 h0_1, .ints false .i64 h0_2, .str h0_3], .cells 2 [.int .i64 h1_0]]⟩ => some ((x5, x6, h0_0, h0_1, h0_2, h0_3, h1_0), ())
  | _ => none
def J4 (v : Int × Int × (List (List AV)) × (List Int) × (List Int) × Str × Int) (w : Unit) : St := ⟨[(1, .func (.func 23) [] [.ptr (some (0, 0)), .ptr (some (1, 0))]), (5, .int .i64 v.1), (6, .int .i64 v.2.1)], [.cells 26 [.sl false 3 v.2.2.1, .ints false .i64 v.2.2.2.1, .ints false .i64 v.2.2.2.2.1, .str v.2.2.2.2.2.1], .cells 2 [.int .i64 v.2.2.2.2.2.2]]⟩
def J5 (v : Int × Int × (List (List AV)) × (List Int) × (List Int) × Str × Int) (o : (Int × (List (List AV)) × (List Int) × (List Int) × Str × Int)) (w : Unit) (R : Type) (K : AExit → St → Option R) : Option R := K (.exit 0) ⟨[(5, .int .i64 o.1)], [.cells 26 [.sl false 3 o.2.1, .ints false .i64 o.2.2.1, .ints false .i64 o.2.2.2.1, .str o.2.2.2.2.1], .cells 2 [.int .i64 o.2.2.2.2.2]]⟩
def El (n : Nat) : Ex := xOf Ej (fun v => kg n n v.1 v.2.1 v.2.2.1 v.2.2.2.1 v.2.2.2.2.1 v.2.2.2.2.2.1 v.2.2.2.2.2.2) J5
theorem IU (n : Nat) : Snd ⟨Tryd.prog, 2, 26⟩ (El n) (Tryd.f22.body.getD .skip).a2.a2.a1.a1 := aH (t := J4) (b := fun v R A K => lq n v.1 v.2.1 v.2.2.1 v.2.2.2.1 v.2.2.2.2.1 v.2.2.2.2.2.1 v.2.2.2.2.2.2 R (fun z0 z1 z2 z3 z4 z5 z6 => A (z0, z1, z2, z3, z4, z5, z6)) K) (f := fun m v => kg n m v.1 v.2.1 v.2.2.1 v.2.2.2.1 v.2.2.2.2.1 v.2.2.2.2.2.1 v.2.2.2.2.2.2) (m := (fun e => match e with | .exit 0 => ([5], none) | .normal => ([1, 5, 6], none) | _ => ([], none))) n (.s .a (.u (.s .a (.s (.r [(2, .cl 23 (JC n))]) .a)))) (by intro s v w h; unfold Ej at h; split at h <;> first | (cases h; rfl) | cases h) (fun _ _ _ _ => by kernel_rfl) (by intros; unfold lq; simp only [aS]) (fun _ => rfl) (fun _ _ => rfl) (fun _ => rfl) (fun _ _ _ _ _ _ => by kernel_rfl) (fun _ _ _ _ _ _ => by kernel_rfl) (by intro e n h; split at h <;> cases h) (by kernel_rfl) (by kernel_rfl) (ai (K9 n) trivial)
def yj (n : Nat) (a0 : Int) (h0 : List (List AV)) (h1 h2 : List Int) (h3 : Str) (h4 : Int) (R : Type) (K : (Int × (List (List AV)) × (List Int) × (List Int) × Str × Int) → Option R) : Option R := (kg n n (0 : Int) a0 h0 h1 h2 h3 h4).bind fun o319 => (K (o319.1, o319.2.1, o319.2.2.1, o319.2.2.2.1, o319.2.2.2.2.1, o319.2.2.2.2.2))
def Dy (n : Nat) (a0 : Int) (h0 : List (List AV)) (h1 h2 : List Int) (h3 : Str) (h4 : Int) : Option (Int × (List (List AV)) × (List Int) × (List Int) × Str × Int) := yj n a0 h0 h1 h2 h3 h4 _ some
def Iq : List AV → List AObj → Option (Int × (List (List AV)) × (List Int) × (List Int) × Str × Int)
  | [.int .i64 a0, .func (.func 23) [] [.ptr (some (0, 0)), .ptr (some (1, 0))]], [.cells 26 [.sl false 3 h0, .ints false .i64 h1, .ints false .i64 h2, .str h3], .cells 2 [.int .i64 h4]] => some (a0, h0, h1, h2, h3, h4)
  | _, _ => none
def GG (n : Nat) : FSpec := iQ Iq (fun v => Dy n v.1 v.2.1 v.2.2.1 v.2.2.2.1 v.2.2.2.2.1 v.2.2.2.2.2) (fun o => .int .i64 o.1) (fun o => [.cells 26 [.sl false 3 o.2.1, .ints false .i64 o.2.2.1, .ints false .i64 o.2.2.2.1, .str o.2.2.2.2.1], .cells 2 [.int .i64 o.2.2.2.2.2]])
theorem JD (n : Nat) : FSound Tryd.prog 22 (GG n) := aG (t := fun v => ⟨[(0, .int .i64 v.1), (1, .func (.func 23) [] [.ptr (some (0, 0)), .ptr (some (1, 0))])], [.cells 26 [.sl false 3 v.2.1, .ints false .i64 v.2.2.1, .ints false .i64 v.2.2.2.1, .str v.2.2.2.2.1], .cells 2 [.int .i64 v.2.2.2.2.2]]⟩) (b := fun v R K => yj n v.1 v.2.1 v.2.2.1 v.2.2.2.1 v.2.2.2.2.1 v.2.2.2.2.2 R K) (nt := 26) (n := some 2) (rs := [.tmp 4]) (.s .a (.s .a (.s (.u (.p (aA ([1, 5, 6], none) (El n)))) .a))) Tryd.func22 (by kernel_rfl) rfl rfl rfl (fun _ h => by injection h with h; exact h.symm) (by decide) (by kernel_rfl) (by intro s v w h; unfold Iq at h; split at h <;> first | (cases h; exact ⟨Nat.le_of_ble_eq_true rfl, rfl, rfl⟩) | cases h) (fun _ _ _ => by kernel_rfl) (by intros; unfold yj; simp only [aS]) (fun _ => by kernel_rfl) (by kernel_rfl) (by kernel_rfl) (ai (aP [1, 5, 6] (IU n)) trivial)
def Db (n : Nat) (a0 : Int) (a1 : Bool) (a2 : Str) (R : Type) (K : Bool → Option R) : Option R := K (!a1)
def GH (n : Nat) (a0 : Int) (a1 : Bool) (a2 : Str) : Option (Bool) := Db n a0 a1 a2 _ some
def KJ : List AV → List AObj → Option (Int × Bool × Str)
  | [.agg [.int .i64 a0, .bool a1, .str a2]], [] => some (a0, a1, a2)
  | _, _ => none
def JE (n : Nat) : FSpec := iQ KJ (fun v => GH n v.1 v.2.1 v.2.2) (fun o => .bool o) (fun o => [])
theorem La (n : Nat) : FSound Tryd.prog 25 (JE n) := aG (t := fun v => ⟨[(0, .agg [.int .i64 v.1, .bool v.2.1, .str v.2.2])], []⟩) (b := fun v R K => Db n v.1 v.2.1 v.2.2 R K) (nt := 6) (n := some 0) (rs := [.tmp 2]) .a Tryd.func25 (by kernel_rfl) rfl rfl rfl (fun _ h => by injection h with h; exact h.symm) (by decide) (by kernel_rfl) (by intro s v w h; unfold KJ at h; split at h <;> first | (cases h; exact ⟨Nat.le_of_ble_eq_true rfl, rfl, rfl⟩) | cases h) (fun _ _ _ => by kernel_rfl) (by intros; unfold Db; simp only [aS]) (fun _ => by kernel_rfl) (by kernel_rfl) (by kernel_rfl) trivial
def qV (n : Nat) (x0 : List (List AV)) (x7 x8 : Int) (R : Type) (A_ : (List (List AV)) → Int → Int → Option R) (K : ((Int) ⊕ (Unit)) → Option R) : Option R := cond (decide (x8 < x7)) (cond (decide (0 ≤ x8)) ((x0[x8.toNat]?).bind fun e322 => (unc e322 fun c323 r324 => jR .i64 c323 fun x325 => unc r324 fun c326 r327 => l5 c326 fun x328 => unc r327 fun c329 r330 => l6 c329 fun x331 => unn r330 ((GH n x325 x328 x331).bind fun o332 => (cond o332 (K (Sum.inl x8)) (A_ x0 x7 (IntKind.i64.wrap (x8 + (1 : Int)))))))) none) (K (Sum.inr ()))
def pg (n : Nat) : Nat → (List (List AV)) → Int → Int → Option ((Int) ⊕ (Unit))
  | 0, _, _, _ => none
  | m + 1, x0, x7, x8 => qV n x0 x7 x8 _ (pg n m) some
def GI : St → Option (((List (List AV)) × Int × Int) × (Unit))
  | ⟨[(0, .sl false 3 x0), (1, .func (.func 25) [] []), (7, .int .i64 x7), (8, .int .i64 x8)], []⟩ => some ((x0, x7, x8), ())
  | _ => none
def Mt (v : (List (List AV)) × Int × Int) (w : Unit) : St := ⟨[(0, .sl false 3 v.1), (1, .func (.func 25) [] []), (7, .int .i64 v.2.1), (8, .int .i64 v.2.2)], []⟩
def Mv (v : (List (List AV)) × Int × Int) (o : (Int) ⊕ (Unit)) (w : Unit) (R : Type) (K : AExit → St → Option R) : Option R := Sum.elim (fun (u0 : Int) => K .ret ⟨[(4, .int .i64 u0)], []⟩) (fun (v0 : (Unit)) => K (.exit 0) ⟨[], []⟩) o
def GJ (n : Nat) : Ex := xOf GI (fun v => pg n n v.1 v.2.1 v.2.2) Mv
theorem J6 (n : Nat) : Snd ⟨Tryd.prog, 0, 19⟩ (GJ n) (Tryd.f24.body.getD .skip).a2.a1.a2.a1 := aH (t := Mt) (b := fun v R A K => qV n v.1 v.2.1 v.2.2 R (fun z0 z1 z2 => A (z0, z1, z2)) K) (f := fun m v => pg n m v.1 v.2.1 v.2.2) (m := (fun e => match e with | .ret => ([4], none) | .exit 0 => ([], none) | .normal => ([0, 1, 7, 8], none) | _ => ([], none))) n (.s .a (.s .a (.s (.u (.s .a (.s (.r [(5, .cl 25 (JE n))]) .a))) .a))) (by intro s v w h; unfold GI at h; split at h <;> first | (cases h; rfl) | cases h) (fun _ _ _ _ => by kernel_rfl) (by intros; unfold qV; simp only [aS]) (fun _ => rfl) (fun _ _ => rfl) (fun _ => rfl) (fun _ _ _ _ _ _ => by kernel_rfl) (fun _ _ _ _ _ _ => by kernel_rfl) (by intro e n h; split at h <;> cases h) (by kernel_rfl) (by kernel_rfl) (ai (La n) trivial)
def Dc (n : Nat) (a0 : List (List AV)) (R : Type) (K : Int → Option R) : Option R := (pg n n a0 (a0.length : Int) (0 : Int)).bind fun o333 => (Sum.elim (fun o334 => K o334) (fun o335 => K (-1 : Int)) o333)
def GK (n : Nat) (a0 : List (List AV)) : Option (Int) := Dc n a0 _ some
def KL : List AV → List AObj → Option ((List (List AV)))
  | [.sl false 3 a0, .func (.func 25) [] []], [] => some a0
  | _, _ => none
def JF (n : Nat) : FSpec := iQ KL (fun v => GK n v) (fun o => .int .i64 o) (fun o => [])
theorem Lb (n : Nat) : FSound Tryd.prog 24 (JF n) := aG (t := fun v => ⟨[(0, .sl false 3 v), (1, .func (.func 25) [] [])], []⟩) (b := fun v R K => Dc n v R K) (nt := 19) (n := some 0) (rs := [.tmp 4]) (.s .a (.s (.s .a (.u (.p (aA ([0, 1, 7, 8], none) (GJ n))))) .a)) Tryd.func24 (by kernel_rfl) rfl rfl rfl (fun _ h => by injection h with h; exact h.symm) (by decide) (by kernel_rfl) (by intro s v w h; unfold KL at h; split at h <;> first | (cases h; exact ⟨Nat.le_of_ble_eq_true rfl, rfl, rfl⟩) | cases h) (fun _ _ _ => by kernel_rfl) (by intros; unfold Dc; simp only [aS]) (fun _ => by kernel_rfl) (by kernel_rfl) (by kernel_rfl) (ai (aP [0, 1, 7, 8] (J6 n)) trivial)
def Hq (n : Nat) (a0 : List (List AV)) (a1 a2 : List Int) (a3 : Str) (a4 : Int) (R : Type) (K : Int → Option R) : Option R := (kT n a0 a1 a2 a3).bind fun o316 => (cond (!o316) (K (0 : Int)) ((Dy n (a1.length : Int) a0 a1 a2 a3 a4).bind fun o320 => (cond (decide (o320.1 > (0 : Int))) (cond (decide (0 ≤ (IntKind.i64.wrap (o320.1 - (1 : Int))))) ((o320.2.2.2.1[(IntKind.i64.wrap (o320.1 - (1 : Int))).toNat]?).bind fun e321 => (K e321)) none) ((GK n o320.2.1).bind fun o336 => (K (if (0 : Int) < o336 then o336 else (0 : Int)))))))
def Az (n : Nat) (a0 : List (List AV)) (a1 a2 : List Int) (a3 : Str) (a4 : Int) : Option (Int) := Hq n a0 a1 a2 a3 a4 _ some
def NS : List AV → List AObj → Option ((List (List AV)) × (List Int) × (List Int) × Str × Int)
  | [.agg [.sl false 3 a0, .ints false .i64 a1, .ints false .i64 a2, .str a3], .int .i64 a4], [] => some (a0, a1, a2, a3, a4)
  | _, _ => none
def Fs (n : Nat) : FSpec := iQ NS (fun v => Az n v.1 v.2.1 v.2.2.1 v.2.2.2.1 v.2.2.2.2) (fun o => .int .i64 o) (fun o => [])
theorem Dz (n : Nat) : FSound Tryd.prog 11 (Fs n) := aG (t := fun v => ⟨[(0, .agg [.sl false 3 v.1, .ints false .i64 v.2.1, .ints false .i64 v.2.2.1, .str v.2.2.2.1]), (1, .int .i64 v.2.2.2.2)], []⟩) (b := fun v R K => Hq n v.1 v.2.1 v.2.2.1 v.2.2.2.1 v.2.2.2.2 R K) (nt := 26) (n := some 0) (rs := [.tmp 4]) (.s .a (.s (.s (.r [(1, .cl 9 (mX n))]) .a) (.s (.r [(4, .cl 22 (GG n))]) (.s .a (.s (.r [(2, .cl 24 (JF n))]) .a))))) Tryd.func11 (by kernel_rfl) rfl rfl rfl (fun _ h => by injection h with h; exact h.symm) (by decide) (by kernel_rfl) (by intro s v w h; unfold NS at h; split at h <;> first | (cases h; exact ⟨Nat.le_of_ble_eq_true rfl, rfl, rfl⟩) | cases h) (fun _ _ _ => by kernel_rfl) (by intros; unfold Hq; simp only [aS]) (fun _ => by kernel_rfl) (by kernel_rfl) (by kernel_rfl) (ai (lm n) (ai (JD n) (ai (Lb n) trivial)))
def pq (n : Nat) (R : Type) (K : Bool → Option R) : Option R := (mZ n ([[.int .i64 (0 : Int), .bool false, .str ([85, 84, 67] : Str)]] : List (List AV)) ([] : List Int) ([] : List Int) ([] : Str)).bind fun o174 => ((bv n ([(84 : Int), (90 : Int), (105 : Int), (102 : Int)] : List Int)).bind fun o315 => (cond (o174.2 == (0 : Int)) (cond ((o174.1.length : Int) == (107 : Int)) (cond (o315.2.2.2.2 == (60 : Int)) ((Az n ([[.int .i64 (0 : Int), .bool false, .str ([65] : Str)], [.int .i64 (0 : Int), .bool true, .str ([66] : Str)]] : List (List AV)) ([(100 : Int)] : List Int) ([(1 : Int)] : List Int) ([] : Str) (99 : Int)).bind fun o337 => (cond (o337 == (0 : Int)) ((Az n ([[.int .i64 (0 : Int), .bool false, .str ([65] : Str)], [.int .i64 (0 : Int), .bool true, .str ([66] : Str)]] : List (List AV)) ([(100 : Int)] : List Int) ([(1 : Int)] : List Int) ([] : Str) (100 : Int)).bind fun o338 => (K (o338 == (1 : Int)))) (K false))) (K false)) (K false)) (K false)))
def aC (n : Nat) : Option (Bool) := pq n _ some
def wm : List AV → List AObj → Option (Unit)
  | [], [] => some ()
  | _, _ => none
def aU (n : Nat) : FSpec := iQ wm (fun v => aC n) (fun o => .bool o) (fun o => [])
theorem aQ (n : Nat) : FSound Tryd.prog 10 (aU n) := aG (t := fun v => ⟨[], []⟩) (b := fun v R K => pq n R K) (nt := 46) (n := some 0) (rs := [.tmp 0]) (.s .a (.s (.r [(2, .tk [8]), (3, .cl 13 (uQ n)), (6, .tk [6])]) (.s (.r [(1, .tk [14]), (2, .cl 19 (ll n)), (5, .tk [13])]) (.s (.r [(5, .tk [21, 22, 23]), (7, .tk [24])]) (.s (.r [(13, .cl 11 (Fs n)), (18, .cl 11 (Fs n))]) .a))))) Tryd.func10 (by kernel_rfl) rfl rfl rfl (fun _ h => by injection h with h; exact h.symm) (by decide) (by kernel_rfl) (by intro s v w h; unfold wm at h; split at h <;> first | (cases h; exact ⟨Nat.le_of_ble_eq_true rfl, rfl, rfl⟩) | cases h) (fun _ _ _ => by kernel_rfl) (by intros; unfold pq; simp only [aS]) (fun _ => by kernel_rfl) (by kernel_rfl) (by kernel_rfl) (ai (qP n) (ai (jQ n) (ai (Dz n) (ai (Dz n) trivial))))
end Go.Proofs.YtcbgfjghebopoaaDoor.H
namespace Go.Sh
open Go.RowKit
set_option linter.unusedSimpArgs false
theorem aa {α : Type} {p : Prop} [Decidable p] (h : p) (x y : α) : cond (decide p) x y = x := by rw [decide_eq_true h]; rfl
theorem ah {α : Type} {p : Prop} [Decidable p] (h : ¬p) (x y : α) : cond (decide p) x y = y := by rw [decide_eq_false h]; rfl
theorem gz (i : Nat) (h : i < 9223372036854775807) : IntKind.i64.wrap ((i : Int) + 1) = ((i + 1 : Nat) : Int) := by
  rw [IntWalk.i64_in _ (by omega)]
  omega
theorem yE (c : UInt8) (s : Str) : au (c :: s) = (c.toNat : Int) :: au s := rfl
theorem yl (s t : Str) : au (s ++ t) = au s ++ au t := by simp [au]
theorem aM (s : Str) : (au s).length = s.length := by simp [au]
theorem zP (s : Str) : strOf (au s) = s := by
  unfold strOf au
  rw [List.map_map]
  conv => rhs; rw [← List.map_id s]
  exact List.map_congr_left fun b _ => by simp
theorem aI {α : Type} {s r : List α} {i : Nat} {c : α} (h : s.drop i = c :: r) : s[i]? = some c ∧ s.drop (i + 1) = r ∧ i < s.length := by
  have hi : i < s.length := by
    by_cases hi : i < s.length
    · exact hi
    · rw [List.drop_eq_nil_of_le (by omega)] at h; cases h
  rw [List.drop_eq_getElem_cons hi] at h
  injection h with h1 h2
  exact ⟨by rw [List.getElem?_eq_getElem hi, h1], h2, hi⟩
theorem drop_nil {α : Type} {s : List α} {i : Nat} (h : s.drop i = []) : s.length ≤ i := by simpa using h
end Go.Sh
namespace Go.Proofs.YtcbgfjghebopoaaDoor.H
open Go.Sh Go.RowKit
set_option linter.unusedSimpArgs false
set_option linter.unusedVariables false
abbrev Ty := Int × Bool × Str
def cT (t : Ty) : List AV := [.int .i64 t.1, .bool t.2.1, .str t.2.2]
theorem wi (x : Int) (h : -9223372036854775808 ≤ x) (h2 : x ≤ 9223372036854775807) : IntKind.i64.wrap x = x := IntWalk.i64_in _ (by omega)
def okC (low : Int) (c : UInt8) : Bool := !decide ((c.toNat : Int) < low) && !decide ((c.toNat : Int) > 126)
def rQ (s : Str) (many low : Int) : Bool := decide ((s.length : Int) ≤ many) && s.all (okC low)
theorem Qd (s : Str) (i : Nat) : (au s)[i]? = (s[i]?).map fun c => (c.toNat : Int) := by simp [au]
theorem Mw (n : Nat) (low : Int) (s : Str) (hs : s.length < 4000000000000000000) : ∀ (r : Str) (i m : Nat), s.drop i = r → r.length < m →
    (r.all (okC low) = true → aN n m (au s) (s.length : Int) (i : Int) low = some (Sum.inr low)) ∧
    (r.all (okC low) = false → ∃ j : Int, 0 ≤ j ∧ aN n m (au s) (s.length : Int) (i : Int) low = some (Sum.inl (j, low)))
  | [], i, m + 1, h, _ => by
    have hi := drop_nil h
    refine ⟨fun _ => ?_, fun h => by simp at h⟩
    simp only [aN, dw]
    rw [ah (by omega)]
  | c :: r, i, m + 1, h, hm => by
    obtain ⟨h1, h2, h3⟩ := aI h
    obtain ⟨ih1, ih2⟩ := Mw n low s hs r (i + 1) m h2 (by simpa using hm)
    have e : aN n (m + 1) (au s) (s.length : Int) (i : Int) low = cond (!okC low c) (some (Sum.inl ((i : Int), low))) (aN n m (au s) (s.length : Int) ((i + 1 : Nat) : Int) low) := by
      simp only [aN, dw]
      rw [aa (by omega), aa (by omega), Int.toNat_natCast, Qd, h1, gz _ (by omega)]
      simp only [Option.map_some, Option.bind_some, Dj, yc, okC]
      by_cases hl : (c.toNat : Int) < low
      · simp [hl]
      · by_cases hh : (c.toNat : Int) > 126 <;> simp [hl, hh]
    rw [e]
    cases hc : okC low c with
    | true =>
      simp only [List.all_cons, hc, Bool.true_and, Bool.not_true, cond_false]
      exact ⟨ih1, ih2⟩
    | false => simp [hc]
theorem Qe (n : Nat) (s : Str) (many low : Int) (hm : many < 4000000000000000000) (hn : (s.length : Int) ≤ many → s.length < n) : yB n s many low = some (rQ s many low) := by
  unfold yB CW rQ
  by_cases h : (s.length : Int) ≤ many
  · rw [aa h, decide_eq_true h, Bool.true_and]
    have hn' := hn h
    obtain ⟨h1, h2⟩ := Mw n low s (by omega) s 0 n (by simp) hn'
    simp only [jo, fD, kH, gT, aM]
    cases hc : s.all (okC low) with
    | true =>
      have := h1 hc
      simp only [Int.natCast_zero] at this
      rw [this]
      simp
    | false =>
      obtain ⟨j, hj, this⟩ := h2 hc
      simp only [Int.natCast_zero] at this
      rw [this]
      simp [hj]
  · rw [ah h, decide_eq_false h, Bool.false_and]
def okT (t : Ty) : Bool := !decide (t.1 < -89999) && !decide (t.1 > 93599) && !(t.2.2 == []) && rQ t.2.2 15 33
def bG : List Ty → Nat
  | [] => 0
  | t :: r => t.2.2.length + 1 + bG r
theorem U6 (n : Nat) (hn : 16 ≤ n) (h0 : List (List AV)) (h1 h2 : List Int) (h3 : Str) (t : Ty) : yf n h0 h1 h2 h3 t.1 t.2.1 t.2.2 = some (!okT t, h0, h1, h2, h3, t.1, t.2.1, t.2.2) := by
  unfold yf uE okT
  rw [Qe n t.2.2 15 33 (by omega) (fun h => by omega)]
  by_cases c1 : t.1 < -89999
  · simp [c1]
  · by_cases c2 : t.1 > 93599
    · simp [c1, c2]
    · cases c3 : t.2.2 == [] <;> simp [c1, c2, c3]
theorem RL {t : Ty} (h : okT t = true) : t.2.2.length ≤ 15 := by
  simp only [okT, rQ, Bool.and_eq_true, decide_eq_true_eq] at h
  omega
theorem Qf (n : Nat) (hn : 16 ≤ n) (ts : List Ty) (h0 : List (List AV)) (h1 h2 : List Int) (h3 : Str) (hts : ts.length ≤ 255) : ∀ (r : List Ty) (i m x : Nat), ts.drop i = r → r.length < m → x ≤ 16 * i →
    mV n m (x : Int) (ts.map cT) (ts.length : Int) (i : Int) h0 h1 h2 h3 = some (if r.all okT then Sum.inr (((x + bG r : Nat) : Int), h0, h1, h2, h3) else Sum.inl ())
  | [], i, m + 1, x, h, _, _ => by
    have hi := drop_nil h
    simp only [mV, pJ]
    rw [ah (by omega)]
    simp [bG]
  | t :: r, i, m + 1, x, h, hm, hx => by
    obtain ⟨k1, k2, k3⟩ := aI h
    simp only [mV, pJ]
    rw [aa (by omega), aa (by omega), Int.toNat_natCast, List.getElem?_map, k1, gz _ (by omega)]
    simp only [Option.map_some, Option.bind_some, cT, unc, jR, l5, l6, unn, U6 n hn]
    cases hc : okT t with
    | false => simp [hc]
    | true =>
      have hl := RL hc
      simp only [hc, Bool.not_true, cond_false]
      have e : IntKind.i64.wrap ((x : Int) + IntKind.i64.wrap ((t.2.2.length : Int) + 1)) = ((x + (t.2.2.length + 1) : Nat) : Int) := by
        rw [wi ((t.2.2.length : Int) + 1) (by omega) (by omega), wi _ (by omega) (by omega)]; omega
      rw [e, Qf n hn ts h0 h1 h2 h3 hts r (i + 1) m _ k2 (by simpa using hm) (by omega)]
      simp only [List.all_cons, hc, Bool.true_and, bG, Nat.add_assoc, decide_true, cond_true]
def IV (ti ix : List Int) (len k : Nat) : Bool := decide (0 ≤ ix.getD k 0) && decide (ix.getD k 0 < len) && (k == 0 || decide (ti.getD (k - 1) 0 < ti.getD k 0))
theorem Wt {l : List Int} {i : Nat} {v : Int} (h : l[i]? = some v) : l.getD i 0 = v := by rw [List.getD_eq_getElem?_getD, h]; rfl
theorem qW {l : List Int} {i : Nat} (h : i < l.length) : l[i]? = some (l.getD i 0) := by rw [List.getD_eq_getElem?_getD, List.getElem?_eq_getElem h]; rfl
theorem U7 (n : Nat) (h0 : List (List AV)) (ti ix : List Int) (h3 : Str) (i : Nat) (v : Int) (hv : ix[i]? = some v) (hi : i < ti.length) (hb : ti.length ≤ 4000) : yg n (i : Int) v h0 ti ix h3 = some (!IV ti ix h0.length i, h0, ti, ix, h3) := by
  unfold yg uF IV
  rw [Wt hv]
  by_cases c1 : v < 0
  · rw [aa c1]; simp [show ¬ (0 ≤ v) by omega]
  · rw [ah c1, decide_eq_true (show 0 ≤ v by omega)]
    by_cases c2 : v ≥ (h0.length : Int)
    · rw [aa c2]; simp [show ¬ (v < (h0.length : Int)) by omega]
    · rw [ah c2, decide_eq_true (show v < (h0.length : Int) by omega)]
      by_cases c3 : (i : Int) > 0
      · rw [aa c3, aa (by omega), Int.toNat_natCast, qW hi, Option.bind_some, wi _ (by omega) (by omega), aa (by omega), show ((i : Int) - 1).toNat = i - 1 by omega, qW (show i - 1 < ti.length by omega), Option.bind_some]
        have : (i == 0) = false := by simp; omega
        rw [this]
        by_cases c4 : ti.getD i 0 ≤ ti.getD (i - 1) 0
        · rw [decide_eq_true c4, decide_eq_false (show ¬ (ti.getD (i - 1) 0 < ti.getD i 0) by omega)]; rfl
        · rw [decide_eq_false c4, decide_eq_true (show ti.getD (i - 1) 0 < ti.getD i 0 by omega)]; rfl
      · rw [ah c3]
        have : i = 0 := by omega
        subst this
        simp
theorem Qg (n : Nat) (h0 : List (List AV)) (ti ix : List Int) (h3 : Str) (hl : ti.length = ix.length) (hb : ti.length ≤ 4000) : ∀ (k i m : Nat), i + k = ix.length → k < m →
    mW n m ix (ix.length : Int) (i : Int) h0 ti ix h3 = some (if (List.range' i k).all (IV ti ix h0.length) then Sum.inr (h0, ti, ix, h3) else Sum.inl (h0, ti, ix, h3))
  | 0, i, m + 1, h, _ => by
    simp only [mW, pK]
    rw [ah (by omega)]
    simp
  | k + 1, i, m + 1, h, hm => by
    simp only [mW, pK]
    have hi : i < ix.length := by omega
    rw [aa (by omega), aa (by omega), Int.toNat_natCast, qW hi, gz _ (by omega)]
    simp only [Option.bind_some, U7 n h0 ti ix h3 i _ (qW hi) (by omega) hb, List.range'_succ, List.all_cons]
    cases hc : IV ti ix h0.length i with
    | false => simp
    | true =>
      simp only [Bool.not_true, cond_false, Bool.true_and]
      exact Qg n h0 ti ix h3 hl hb k (i + 1) m (by omega) (by omega)
def dx (ts : List Ty) (ti ix : List Int) (foot : Str) : Bool :=
  decide (1 ≤ ts.length) && decide (ts.length ≤ 255) && decide (ti.length ≤ 4000) && decide (ti.length = ix.length) && rQ foot 100 32 && ts.all okT && (List.range' 0 ix.length).all (IV ti ix ts.length) && decide (bG ts ≤ 256)
theorem xJ (n : Nat) (hn : 4001 ≤ n) (ts : List Ty) (ti ix : List Int) (foot : Str) : kT n (ts.map cT) ti ix foot = some (dx ts ti ix foot) := by
  unfold kT zO Dk uD dx
  simp only [List.length_map]
  by_cases c1 : (ts.length : Int) < 1
  · rw [aa c1]; simp [show ¬ (1 ≤ ts.length) by omega]
  rw [ah c1, decide_eq_true (show 1 ≤ ts.length by omega)]
  by_cases c2 : (ts.length : Int) > 255
  · rw [aa c2]; simp [show ¬ (ts.length ≤ 255) by omega]
  rw [ah c2, decide_eq_true (show ts.length ≤ 255 by omega)]
  by_cases c3 : (ti.length : Int) > 4000
  · rw [aa c3]; simp [show ¬ (ti.length ≤ 4000) by omega]
  rw [ah c3, decide_eq_true (show ti.length ≤ 4000 by omega)]
  by_cases c4 : ti.length = ix.length
  case neg =>
    have : ((ti.length : Int) != (ix.length : Int)) = true := by simp; omega
    rw [this]; simp [c4]
  have : ((ti.length : Int) != (ix.length : Int)) = false := by simp; omega
  rw [this, decide_eq_true c4, Qe n foot 100 32 (by omega) (fun h => by omega)]
  simp only [cond_false, Option.bind_some, Bool.true_and]
  cases c5 : rQ foot 100 32 with
  | false => simp
  | true =>
    have e1 := Qf n (by omega) ts (ts.map cT) ti ix foot (by omega) ts 0 n 0 (by simp) (by omega) (by omega)
    simp only [Int.natCast_zero, Nat.zero_add] at e1
    simp only [Bool.not_true, cond_false, List.length_map, e1, Option.bind_some]
    cases c6 : ts.all okT with
    | false => simp
    | true =>
      have e2 := Qg n (ts.map cT) ti ix foot c4 (by omega) ix.length 0 n (by omega) (by omega)
      simp only [Int.natCast_zero, List.length_map] at e2
      simp only [if_true, Sum.elim_inr, e2, Option.bind_some]
      cases c7 : (List.range' 0 ix.length).all (IV ti ix ts.length) with
      | false => simp
      | true =>
        simp only [if_true, Sum.elim_inr, Bool.true_and]
        congr 1
        rw [decide_eq_decide]; omega
end Go.Proofs.YtcbgfjghebopoaaDoor.H
namespace Go.Sh
open Go.RowKit
set_option linter.unusedSimpArgs false
set_option linter.unusedVariables false
def Q7 (W : World) (b : Nat) : Nat := match W.heap[b]? with
  | some (.cells c _ _) => c.size
  | _ => 0
def gW (W : World) : Gh := ⟨[], Q7 W⟩
theorem Tu {W : World} {b : Nat} (h : 0 < Q7 W b) : b < W.heap.size := by
  unfold Q7 at h
  split at h
  · rename_i hb
    obtain ⟨h1, _⟩ := Array.getElem?_eq_some_iff.1 hb
    exact h1
  · omega
inductive LD where
  | int (k : IntKind)
  | bool
  | str
  | ints (k : IntKind)
  | strs
  | sl (es : List LD)
variable {H : Type} {enc : TypeId × Value → H} {P : Program} {W : World}
theorem U8 {f : FuncId} {sp : FSpec} (h : FSound P f sp) {args : List AV} {H0 : List AObj} (vs : List Value) (hvs : VRs (gW W) W args vs) (hown : aF args vs = []) (hgood : Good W.heap)
    (hsp : sp args [] (AV × List AObj) (fun v H => some (v, H)) = some (.bool true, H0)) : Calls P f vs.toArray W fun e W' => e = .returned (.bool true) ∧ Below W.heap.size W W' :=
  Q3 h W vs (gW W) rfl hvs hown (fun b hb => Tu hb) hgood hsp
end Go.Sh
namespace Go.Proofs.YtcbgfjghebopoaaDoor.H
open Go.Sh Go.RowKit
set_option linter.unusedSimpArgs false
set_option linter.unusedVariables false
def come (ti : List Int) (sec : Int) : Nat := ti.countP fun x => decide (x ≤ sec)
theorem Wu (i j : Nat) (hj : i + j ≤ 8000) : IntKind.i64.wrap (Int.fdiv (IntKind.u64.wrap (IntKind.i64.wrap ((i : Int) + (j : Int)))) (2 ^ 1)) = (((i + j) / 2 : Nat) : Int) := by
  rw [wi ((i : Int) + (j : Int)) (by omega) (by omega), IntWalk.u64_in _ (by omega), show ((2 : Int) ^ 1) = 2 from rfl, Int.fdiv_eq_ediv_of_nonneg _ (by omega), wi _ (by omega) (by omega)]
  omega
theorem GL (n : Nat) (h0 : List (List AV)) (ti ix : List Int) (h3 : Str) (sec : Int) (hb : ti.length ≤ 4000) : ∀ (d i j m : Nat), j - i ≤ d → i ≤ j → j ≤ ti.length → d < m → (0 < i → ti.getD (i - 1) 0 ≤ sec) → (j < ti.length → sec < ti.getD j 0) →
    ∃ k : Nat, kg n m (i : Int) (j : Int) h0 ti ix h3 sec = some ((k : Int), h0, ti, ix, h3, sec) ∧ k ≤ ti.length ∧ (0 < k → ti.getD (k - 1) 0 ≤ sec) ∧ (k < ti.length → sec < ti.getD k 0)
  | d, i, j, 0, _, _, _, hm, _, _ => absurd hm (by omega)
  | 0, i, j, m + 1, hd, hij, hj, hm, h1, h2 => by
    refine ⟨i, ?_, by omega, h1, (show j = i by omega) ▸ h2⟩
    simp only [kg, lq]
    rw [ah (by omega)]
  | d + 1, i, j, m + 1, hd, hij, hj, hm, h1, h2 => by
    by_cases hlt : i < j
    · have hh : (i + j) / 2 < ti.length := by omega
      simp only [kg, lq]
      rw [aa (by omega), Wu i j (by omega)]
      simp only [GD, Da]
      rw [aa (by omega), Int.toNat_natCast, qW hh]
      simp only [Option.bind_some]
      by_cases hc : ti.getD ((i + j) / 2) 0 > sec
      · rw [decide_eq_true hc]
        simp only [Bool.not_true, cond_false]
        exact GL n h0 ti ix h3 sec hb d i ((i + j) / 2) m (by omega) (by omega) (by omega) (by omega) h1 (fun _ => hc)
      · rw [decide_eq_false hc]
        simp only [Bool.not_false, cond_true]
        rw [gz _ (by omega)]
        exact GL n h0 ti ix h3 sec hb d ((i + j) / 2 + 1) j m (by omega) (by omega) (by omega) (by omega) (fun _ => by simp only [Nat.add_sub_cancel]; omega) h2
    · refine ⟨i, ?_, by omega, h1, (show j = i by omega) ▸ h2⟩
      simp only [kg, lq]
      rw [ah (by omega)]
theorem OY {ti ix : List Int} {len : Nat} (hl : ti.length = ix.length) (h : (List.range' 0 ix.length).all (IV ti ix len) = true) : ∀ (b a : Nat), a < b → b < ti.length → ti.getD a 0 < ti.getD b 0
  | 0, a, h1, _ => absurd h1 (by omega)
  | b + 1, a, h1, h2 => by
    have h3 := List.all_eq_true.1 h (b + 1) (by rw [List.mem_range'_1]; omega)
    simp only [IV, Bool.and_eq_true, Bool.or_eq_true, decide_eq_true_eq, beq_iff_eq] at h3
    have h4 : ti.getD b 0 < ti.getD (b + 1) 0 := by
      rcases h3.2 with h | h
      · omega
      · simpa using h
    rcases Nat.lt_or_ge a b with h5 | h5
    · have := OY hl h b a h5 (by omega)
      omega
    · have : a = b := by omega
      subst this; exact h4
theorem OZ {ti : List Int} {sec : Int} {k : Nat} (hm : ∀ (b a : Nat), a < b → b < ti.length → ti.getD a 0 < ti.getD b 0) (hk : k ≤ ti.length) (h1 : 0 < k → ti.getD (k - 1) 0 ≤ sec) (h2 : k < ti.length → sec < ti.getD k 0) : come ti sec = k := by
  have e : come ti sec = (ti.take k).countP (fun x => decide (x ≤ sec)) + (ti.drop k).countP (fun x => decide (x ≤ sec)) := by
    unfold come
    conv => lhs; rw [← List.take_append_drop k ti]
    rw [List.countP_append]
  have e1 : (ti.take k).countP (fun x => decide (x ≤ sec)) = (ti.take k).length := by
    rw [List.countP_eq_length]
    intro x hx
    obtain ⟨i, hi, rfl⟩ := List.mem_iff_getElem.1 hx
    rw [List.length_take] at hi
    rw [List.getElem_take]
    have h3 : ti[i] = ti.getD i 0 := by rw [List.getD_eq_getElem?_getD, List.getElem?_eq_getElem (by omega)]; rfl
    rw [h3, decide_eq_true_eq]
    have h4 := h1 (by omega)
    rcases Nat.lt_or_ge i (k - 1) with h5 | h5
    · have := hm (k - 1) i h5 (by omega)
      omega
    · have : i = k - 1 := by omega
      subst this; exact h4
  have e2 : (ti.drop k).countP (fun x => decide (x ≤ sec)) = 0 := by
    rw [List.countP_eq_zero]
    intro x hx
    obtain ⟨i, hi, rfl⟩ := List.mem_iff_getElem.1 hx
    rw [List.length_drop] at hi
    rw [List.getElem_drop]
    have h3 : ti[k + i] = ti.getD (k + i) 0 := by rw [List.getD_eq_getElem?_getD, List.getElem?_eq_getElem (by omega)]; rfl
    rw [h3, decide_eq_true_eq]
    have h4 := h2 (by omega)
    rcases Nat.eq_zero_or_pos i with h5 | h5
    · subst h5; simp only [Nat.add_zero]; omega
    · have := hm (k + i) k (by omega) (by omega)
      omega
  rw [e, e1, e2, List.length_take]
  omega
def Xm (ts : List Ty) : Int := match ts.findIdx? fun t => !t.2.1 with
  | some j => j
  | none => 0
theorem RN (n : Nat) (ts : List Ty) (hts : ts.length ≤ 255) : ∀ (r : List Ty) (i m : Nat), ts.drop i = r → r.length < m →
    pg n m (ts.map cT) (ts.length : Int) (i : Int) = some (match r.findIdx? fun t => !t.2.1 with | some j => Sum.inl ((i + j : Nat) : Int) | none => Sum.inr ())
  | [], i, m + 1, h, _ => by
    have hi := drop_nil h
    simp only [pg, qV]
    rw [ah (by omega)]
    simp
  | t :: r, i, m + 1, h, hm => by
    obtain ⟨k1, k2, k3⟩ := aI h
    simp only [pg, qV]
    rw [aa (by omega), aa (by omega), Int.toNat_natCast, List.getElem?_map, k1, gz _ (by omega)]
    simp only [Option.map_some, Option.bind_some, cT, unc, jR, l5, l6, unn, GH, Db, List.findIdx?_cons]
    cases hd : t.2.1 with
    | false => simp
    | true =>
      simp only [Bool.not_true, cond_false, decide_true, cond_true, Bool.false_eq_true, if_false]
      rw [RN n ts hts r (i + 1) m k2 (by simpa using hm)]
      cases r.findIdx? (fun t => !t.2.1) with
      | none => rfl
      | some j => simp only [Option.map_some]; congr 2; omega
def AtS (ts : List Ty) (ti ix : List Int) (foot : Str) (sec : Int) : Int :=
  if dx ts ti ix foot then (if 0 < come ti sec then ix.getD (come ti sec - 1) 0 else Xm ts) else 0
theorem eO {ts : List Ty} {ti ix : List Int} {foot : Str} (h : dx ts ti ix foot = true) : 1 ≤ ts.length ∧ ts.length ≤ 255 ∧ ti.length ≤ 4000 ∧ ti.length = ix.length ∧ rQ foot 100 32 = true ∧ ts.all okT = true ∧ (List.range' 0 ix.length).all (IV ti ix ts.length) = true ∧ bG ts ≤ 256 := by
  simp only [dx, Bool.and_eq_true, decide_eq_true_eq] at h
  obtain ⟨⟨⟨⟨⟨⟨⟨h1, h2⟩, h3⟩, h4⟩, h5⟩, h6⟩, h7⟩, h8⟩ := h
  exact ⟨h1, h2, h3, h4, h5, h6, h7, h8⟩
theorem Xn (n : Nat) (hn : 4001 ≤ n) (ts : List Ty) (ti ix : List Int) (foot : Str) (sec : Int) : Az n (ts.map cT) ti ix foot sec = some (AtS ts ti ix foot sec) := by
  unfold Az Hq AtS
  rw [xJ n hn]
  simp only [Option.bind_some]
  cases hR : dx ts ti ix foot with
  | false => rfl
  | true =>
    obtain ⟨h1, h2, h3, h4, h5, h6, h7, h8⟩ := eO hR
    obtain ⟨k, e1, e2, e3, e4⟩ := GL n (ts.map cT) ti ix foot sec h3 ti.length 0 ti.length n (by omega) (by omega) (by omega) (by omega) (fun h => absurd h (by omega)) (fun h => absurd h (by omega))
    have hk := OZ (OY h4 h7) e2 e3 e4
    simp only [Int.natCast_zero] at e1
    simp only [Bool.not_true, cond_false, Dy, yj, e1, Option.bind_some, if_true, hk]
    by_cases hp : 0 < k
    · rw [aa (by omega), wi _ (by omega) (by omega), aa (by omega), if_pos hp, show ((k : Int) - 1).toNat = k - 1 by omega, qW (show k - 1 < ix.length by omega)]
      rfl
    · rw [ah (by omega), if_neg hp]
      have e5 := RN n ts h2 ts 0 n (by simp) (by omega)
      simp only [Int.natCast_zero] at e5
      simp only [GK, Dc, List.length_map, e5, Option.bind_some, Xm]
      cases ts.findIdx? (fun t => !t.2.1) with
      | none => rfl
      | some j =>
        simp only [Sum.elim_inl, Option.bind_some, Nat.zero_add]
        congr 1
        split <;> omega
end Go.Proofs.YtcbgfjghebopoaaDoor.H
namespace Go.Proofs.YtcbgfjghebopoaaDoor.H
open Go.Sh Go.RowKit
set_option linter.unusedSimpArgs false
set_option linter.unusedVariables false
def be : Nat → Int → List Int
  | 0, _ => []
  | k + 1, v => IntKind.u8.wrap (Int.fdiv v (2 ^ (8 * k))) :: be k v
theorem fH : ∀ (k : Nat) (v : Int), (be k v).length = k
  | 0, _ => rfl
  | k + 1, v => by simp [be, fH k v]
theorem NT (n : Nat) (v : Int) : ∀ (k m : Nat) (h : List Int), k ≤ 8 → k < m → h.length + k ≤ 100000 → eP n m v ((k : Int) - 1) h = some (h ++ be k v)
  | 0, m + 1, h, _, _, _ => by
    simp only [eP, ib]
    rw [ah (by omega)]
    simp [be]
  | k + 1, m + 1, h, hk, hm, hl => by
    simp only [eP, ib]
    have e : (((k + 1 : Nat) : Int) - 1) = (k : Int) := by omega
    rw [e, aa (by omega), wi ((8 : Int) * (k : Int)) (by omega) (by omega), ah (by omega), aa (by omega), wi _ (by omega) (by omega), show (((8 : Int) * (k : Int)).toNat) = 8 * k by omega, Nat.min_eq_left (by omega), NT n v k m _ (by omega) (by omega) (by simp; omega)]
    simp [be]
theorem Bq (n : Nat) (hn : 9 ≤ n) (v : Int) (k : Nat) (hk : k ≤ 8) (h : List Int) (hl : h.length + k ≤ 100000) : aW n v (k : Int) h = some (h ++ be k v) := by
  unfold aW mE
  rw [wi _ (by omega) (by omega), NT n v k n h hk (by omega) hl]
  rfl
def bJ (cs : List Int) : List Int := [84, 90, 105, 102, 50] ++ List.replicate 15 0 ++ cs.flatMap (be 4)
theorem jN : ∀ (k : Nat) (cs : List Int), (cs.flatMap (be k)).length = k * cs.length
  | k, [] => by simp
  | k, c :: cs => by simp only [List.flatMap_cons, List.length_append, fH, jN k cs, List.length_cons]; rw [Nat.mul_add]; omega
theorem RO (n : Nat) (hn : 9 ≤ n) (cs : List Int) (hcs : cs.length ≤ 6) (a0 a1 a2 a3 a4 a5 a6 : Int) : ∀ (r : List Int) (i m : Nat) (h : List Int), cs.drop i = r → r.length < m → h.length + 4 * r.length ≤ 100000 →
    gp n m cs (cs.length : Int) (i : Int) h a0 a1 a2 a3 a4 a5 a6 = some (h ++ r.flatMap (be 4), a0, a1, a2, a3, a4, a5, a6)
  | [], i, m + 1, h, hd, _, _ => by
    have hi := drop_nil hd
    simp only [gp, jJ]
    rw [ah (by omega)]
    simp
  | c :: r, i, m + 1, h, hd, hm, hl => by
    obtain ⟨k1, k2, k3⟩ := aI hd
    simp only [List.length_cons] at hm hl
    have e4 : aW n c 4 h = some (h ++ be 4 c) := Bq n hn c 4 (by omega) h (by omega)
    simp only [gp, jJ]
    rw [aa (by omega), aa (by omega), Int.toNat_natCast, k1, gz _ (by omega)]
    simp only [Option.bind_some, e4]
    rw [RO n hn cs hcs a0 a1 a2 a3 a4 a5 a6 r (i + 1) m _ k2 (by omega) (by rw [List.length_append, fH]; omega)]
    simp
theorem rG (cs : List Int) : (bJ cs).length = 20 + 4 * cs.length := by
  simp only [bJ, List.length_append, jN, List.length_replicate, List.length_cons, List.length_nil]
theorem Qh (n : Nat) (hn : 9 ≤ n) (a0 a1 a2 a3 a4 a5 a6 : Int) (h : List Int) (hl : h.length ≤ 90000) : lD n a0 a1 a2 a3 a4 a5 a6 h = some (h ++ bJ [a1, a2, a3, a4, a5, a6]) := by
  unfold lD oN
  have e0 : au ([84, 90, 105, 102] : Str) = [84, 90, 105, 102] := rfl
  have c1 : (decide (0 < ([84, 90, 105, 102] : Str).length) && decide (h.length + ([84, 90, 105, 102] : Str).length ≤ 140737488355328)) = true := by
    rw [Bool.and_eq_true, decide_eq_true_eq, decide_eq_true_eq]; simp; omega
  have c3 : (decide (0 < (List.replicate 15 (0 : Nat)).length) && decide (((h ++ au ([84, 90, 105, 102] : Str)) ++ [(50 : Int)]).length + (List.replicate 15 (0 : Nat)).length ≤ 140737488355328)) = true := by
    rw [Bool.and_eq_true, decide_eq_true_eq, decide_eq_true_eq]; simp [e0]; omega
  rw [c1, cond_true, aa (by simp [e0]; omega), c3, cond_true]
  have e := RO n hn [a1, a2, a3, a4, a5, a6] (by simp) a0 a1 a2 a3 a4 a5 a6 [a1, a2, a3, a4, a5, a6] 0 n (((h ++ au ([84, 90, 105, 102] : Str)) ++ [(50 : Int)]) ++ (List.replicate 15 0)) rfl (by simp; omega) (by simp [e0]; omega)
  simp only [Int.natCast_zero] at e
  rw [e]
  simp [bJ, e0]
def ay (ts : List Ty) : List Int := ts.flatMap fun t => au t.2.2 ++ [0]
theorem ik : ∀ (ts : List Ty), (ay ts).length = bG ts
  | [] => rfl
  | t :: r => by
    have := ik r
    simp only [ay] at this
    simp only [ay, List.flatMap_cons, List.length_append, aM, this, bG, List.length_cons, List.length_nil]
def Qi : Nat → List Ty → List Int
  | _, [] => []
  | o, t :: r => (o : Int) :: Qi (o + (t.2.2.length + 1)) r
theorem Qj : ∀ (o : Nat) (ts : List Ty), (Qi o ts).length = ts.length
  | _, [] => rfl
  | o, t :: r => by simp [Qi, Qj _ r]
theorem U9 (n : Nat) (ts : List Ty) (hts : ts.length ≤ 255) (h0 : List (List AV)) (h1 h2 : List Int) (h3 : Str) : ∀ (r : List Ty) (i m : Nat) (x4 x5 : List Int), ts.drop i = r → r.length < m → x4.length + bG r ≤ 100000 → x5.length + r.length ≤ 100000 →
    qL n m x4 x5 (ts.map cT) (ts.length : Int) (i : Int) h0 h1 h2 h3 = some (x4 ++ ay r, x5 ++ Qi x4.length r, h0, h1, h2, h3)
  | [], i, m + 1, x4, x5, hd, _, _, _ => by
    have hi := drop_nil hd
    simp only [qL, tN]
    rw [ah (by omega)]
    simp [ay, Qi]
  | t :: r, i, m + 1, x4, x5, hd, hm, hl, hl5 => by
    obtain ⟨k1, k2, k3⟩ := aI hd
    simp only [List.length_cons, bG] at hm hl hl5
    simp only [qL, tN]
    rw [aa (by omega), aa (by omega), Int.toNat_natCast, List.getElem?_map, k1, gz _ (by omega)]
    simp only [Option.map_some, Option.bind_some, cT, unc, jR, l5, l6, unn, decide_true, cond_true]
    rw [aa (by simp; omega), aa (by omega), aa (by simp [aM]; omega)]
    rw [U9 n ts hts h0 h1 h2 h3 r (i + 1) m _ _ k2 (by omega) (by simp [aM]; omega) (by simp; omega)]
    simp [ay, Qi, aM]
theorem Va (n : Nat) (hn : 9 ≤ n) (ti : List Int) (hti : ti.length ≤ 4000) (h0 : List (List AV)) (h1 h2 : List Int) (h3 : Str) (g : List Int) (a0 a1 a2 a3 a4 a5 a6 : Int) : ∀ (r : List Int) (i m : Nat) (h : List Int), ti.drop i = r → r.length < m → h.length + 8 * r.length ≤ 90000 →
    qM n m ti (ti.length : Int) (i : Int) h0 h1 h2 h3 g h a0 a1 a2 a3 a4 a5 a6 = some (h0, h1, h2, h3, g, h ++ r.flatMap (be 8), a0, a1, a2, a3, a4, a5, a6)
  | [], i, m + 1, h, hd, _, _ => by
    have hi := drop_nil hd
    simp only [qM, tO]
    rw [ah (by omega)]
    simp
  | c :: r, i, m + 1, h, hd, hm, hl => by
    obtain ⟨k1, k2, k3⟩ := aI hd
    simp only [List.length_cons] at hm hl
    have e4 : aW n c 8 h = some (h ++ be 8 c) := Bq n hn c 8 (by omega) h (by omega)
    simp only [qM, tO]
    rw [aa (by omega), aa (by omega), Int.toNat_natCast, k1, gz _ (by omega)]
    simp only [Option.bind_some, e4]
    rw [Va n hn ti hti h0 h1 h2 h3 g a0 a1 a2 a3 a4 a5 a6 r (i + 1) m _ k2 (by omega) (by rw [List.length_append, fH]; omega)]
    simp
theorem Vb (n : Nat) (hn : 9 ≤ n) (ti : List Int) (hti : ti.length ≤ 4000) (h0 : List (List AV)) (h1 h2 : List Int) (h3 : Str) (g : List Int) (a0 a1 a2 a3 a4 a5 a6 : Int) : ∀ (r : List Int) (i m : Nat) (h : List Int), ti.drop i = r → r.length < m → h.length + r.length ≤ 90000 →
    qN n m ti (ti.length : Int) (i : Int) h0 h1 h2 h3 g h a0 a1 a2 a3 a4 a5 a6 = some (h0, h1, h2, h3, g, h ++ r.flatMap (be 1), a0, a1, a2, a3, a4, a5, a6)
  | [], i, m + 1, h, hd, _, _ => by
    have hi := drop_nil hd
    simp only [qN, tQ]
    rw [ah (by omega)]
    simp
  | c :: r, i, m + 1, h, hd, hm, hl => by
    obtain ⟨k1, k2, k3⟩ := aI hd
    simp only [List.length_cons] at hm hl
    have e4 : aW n c 1 h = some (h ++ be 1 c) := Bq n hn c 1 (by omega) h (by omega)
    simp only [qN, tQ]
    rw [aa (by omega), aa (by omega), Int.toNat_natCast, k1, gz _ (by omega)]
    simp only [Option.bind_some, e4]
    rw [Vb n hn ti hti h0 h1 h2 h3 g a0 a1 a2 a3 a4 a5 a6 r (i + 1) m _ k2 (by omega) (by rw [List.length_append, fH]; omega)]
    simp
def dW : Nat → List Ty → List Int
  | _, [] => []
  | o, t :: r => be 4 t.1 ++ be 1 (if t.2.1 then 1 else 0) ++ be 1 (o : Int) ++ dW (o + (t.2.2.length + 1)) r
theorem p9 : ∀ (o : Nat) (ts : List Ty), (dW o ts).length = 6 * ts.length
  | _, [] => rfl
  | o, t :: r => by simp only [dW, List.length_append, fH, p9 _ r, List.length_cons]; omega
theorem Vd (n : Nat) (hn : 9 ≤ n) (ts : List Ty) (hts : ts.length ≤ 255) (x4 x5 : List Int) (hx5 : x5.length = ts.length) (h0 : List (List AV)) (h1 h2 : List Int) (h3 : Str) : ∀ (r : List Ty) (i m o : Nat) (h : List Int), ts.drop i = r → x5.drop i = Qi o r → r.length < m → h.length + 6 * r.length ≤ 90000 →
    qO n m x4 x5 (ts.map cT) (ts.length : Int) (i : Int) h0 h1 h2 h3 h = some (h0, h1, h2, h3, h ++ dW o r)
  | [], i, m + 1, o, h, hd, _, _, _ => by
    have hi := drop_nil hd
    simp only [qO, tT]
    rw [ah (by omega)]
    simp [dW]
  | t :: r, i, m + 1, o, h, hd, hd5, hm, hl => by
    obtain ⟨k1, k2, k3⟩ := aI hd
    obtain ⟨j1, j2, j3⟩ := aI hd5
    simp only [List.length_cons] at hm hl
    have e4 : aW n t.1 4 h = some (h ++ be 4 t.1) := Bq n hn _ 4 (by omega) h (by omega)
    have e1 : ∀ (v : Int) (h' : List Int), h'.length ≤ 99999 → aW n v 1 h' = some (h' ++ be 1 v) := fun v h' hh => Bq n hn v 1 (by omega) h' (by omega)
    simp only [qO, tT]
    rw [aa (by omega), aa (by omega), Int.toNat_natCast, List.getElem?_map, k1, gz _ (by omega)]
    simp only [Option.map_some, Option.bind_some, cT, unc, jR, l5, l6, unn, decide_true, cond_true, e4]
    have ej : CX n 0 h0 h1 h2 h3 (h ++ be 4 t.1) t.1 t.2.1 t.2.2 = some ((if t.2.1 then 1 else 0), h0, h1, h2, h3, h ++ be 4 t.1, t.1, t.2.1, t.2.2) := by
      unfold CX yh
      cases t.2.1 <;> rfl
    simp only [ej, Option.bind_some, j1]
    rw [e1 _ _ (by simp [fH]; omega)]
    simp only [Option.bind_some]
    rw [aa (by omega)]
    rw [e1 _ _ (by simp [fH]; omega)]
    simp only [Option.bind_some]
    rw [Vd n hn ts hts x4 x5 hx5 h0 h1 h2 h3 r (i + 1) m (o + (t.2.2.length + 1)) _ k2 j2 (by omega) (by simp [fH]; omega)]
    simp [dW]
def jl (ts : List Ty) (ti ix : List Int) : List Int := ti.flatMap (be 8) ++ (ix.flatMap (be 1) ++ (dW 0 ts ++ ay ts))
def nM (ts : List Ty) (ti ix : List Int) (foot : Str) : List Int :=
  bJ [0, 0, 0, 0, 1, 1] ++ (List.replicate 7 0 ++ (bJ [0, 0, 0, (ti.length : Int), (ts.length : Int), ((ay ts).length : Int)] ++ (jl ts ti ix ++ (10 :: (au foot ++ [10])))))
theorem Lg (n : Nat) (hn : 4001 ≤ n) (ts : List Ty) (ti ix : List Int) (foot : Str) : mZ n (ts.map cT) ti ix foot = some (if dx ts ti ix foot then (nM ts ti ix foot, 0) else ([], 2)) := by
  unfold mZ EY
  rw [xJ n hn]
  simp only [Option.bind_some]
  cases hR : dx ts ti ix foot with
  | false => rfl
  | true =>
    obtain ⟨h1, h2, h3, h4, h5, h6, h7, h8⟩ := eO hR
    have hf : foot.length ≤ 100 := by
      simp only [rQ, Bool.and_eq_true, decide_eq_true_eq] at h5
      omega
    have e3 := U9 n ts h2 (ts.map cT) ti ix foot ts 0 n [] [] (by simp) (by omega) (by simp; omega) (by simp; omega)
    simp only [Int.natCast_zero, List.nil_append, List.length_nil] at e3
    have hll := ik ts
    have hs : 1 ≤ bG ts := by
      cases ts with
      | nil => simp at h1
      | cons t r => simp only [bG]; omega
    simp only [Bool.not_true, cond_false, List.length_map, e3, Option.bind_some, if_true]
    rw [Qh n (by omega) 0 0 0 0 0 1 1 [] (by simp)]
    have el : aO n 0 0 0 0 0 1 1 4 = some 7 := by unfold aO eG; rfl
    simp only [Option.bind_some, el, List.nil_append]
    have l1 : (bJ [0, 0, 0, 0, 1, 1]).length = 44 := by rw [rG]; rfl
    rw [aa (by omega), aa (by omega), show ((7 : Int).toNat) = 7 from rfl, show (decide (0 < (List.replicate 7 (0 : Nat)).length) && decide ((bJ [0, 0, 0, 0, 1, 1]).length + (List.replicate 7 (0 : Nat)).length ≤ 140737488355328)) = true by rw [l1]; rfl, cond_true]
    rw [Qh n (by omega) 0 0 0 0 _ _ _ _ (by simp only [List.length_append, List.length_replicate, l1]; omega)]
    simp only [Option.bind_some]
    have l2 : (bJ [0, 0, 0, (ti.length : Int), (ts.length : Int), ((ay ts).length : Int)]).length = 44 := by rw [rG]; rfl
    have e2 := Va n (by omega) ti h3 (ts.map cT) ti ix foot [] 0 0 0 0 0 1 1 ti 0 n (bJ [0, 0, 0, 0, 1, 1] ++ List.replicate 7 0 ++ bJ [0, 0, 0, (ti.length : Int), (ts.length : Int), ((ay ts).length : Int)]) (by simp) (by omega) (by simp only [List.length_append, List.length_replicate, List.length_cons, List.length_nil, l1, l2]; omega)
    simp only [Int.natCast_zero] at e2
    simp only [e2, Option.bind_some]
    have e1 := Vb n (by omega) ix (by omega) (ts.map cT) ti ix foot [] 0 0 0 0 0 1 1 ix 0 n (bJ [0, 0, 0, 0, 1, 1] ++ List.replicate 7 0 ++ bJ [0, 0, 0, (ti.length : Int), (ts.length : Int), ((ay ts).length : Int)] ++ ti.flatMap (be 8)) (by simp) (by omega) (by simp only [List.length_append, List.length_replicate, List.length_cons, List.length_nil, l1, l2, jN]; omega)
    simp only [Int.natCast_zero] at e1
    simp only [e1, Option.bind_some, List.length_map]
    have e0 := Vd n (by omega) ts h2 (ay ts) (Qi 0 ts) (Qj 0 ts) (ts.map cT) ti ix foot ts 0 n 0 (bJ [0, 0, 0, 0, 1, 1] ++ List.replicate 7 0 ++ bJ [0, 0, 0, (ti.length : Int), (ts.length : Int), ((ay ts).length : Int)] ++ ti.flatMap (be 8) ++ ix.flatMap (be 1)) (by simp) (by simp) (by omega) (by simp only [List.length_append, List.length_replicate, List.length_cons, List.length_nil, l1, l2, jN]; omega)
    simp only [Int.natCast_zero] at e0
    simp only [e0, Option.bind_some]
    have lA : (bJ [0, 0, 0, 0, 1, 1] ++ List.replicate 7 (0 : Int) ++ bJ [0, 0, 0, (ti.length : Int), (ts.length : Int), ((ay ts).length : Int)] ++ ti.flatMap (be 8) ++ ix.flatMap (be 1) ++ dW 0 ts).length ≤ 90000 := by
      simp only [List.length_append, l1, l2, jN, p9, List.length_replicate]; omega
    have hA : nM ts ti ix foot = (bJ [0, 0, 0, 0, 1, 1] ++ List.replicate 7 (0 : Int) ++ bJ [0, 0, 0, (ti.length : Int), (ts.length : Int), ((ay ts).length : Int)] ++ ti.flatMap (be 8) ++ ix.flatMap (be 1) ++ dW 0 ts) ++ ay ts ++ au (([10] ++ foot) ++ [10]) := by
      simp [nM, jl, yl, au]
    rw [hA]
    generalize bJ [0, 0, 0, 0, 1, 1] ++ List.replicate 7 (0 : Int) ++ bJ [0, 0, 0, (ti.length : Int), (ts.length : Int), ((ay ts).length : Int)] ++ ti.flatMap (be 8) ++ ix.flatMap (be 1) ++ dW 0 ts = A at lA ⊢
    have c1 : (decide (0 < (ay ts).length) && decide (A.length + (ay ts).length ≤ 140737488355328)) = true := by
      rw [Bool.and_eq_true, decide_eq_true_eq, decide_eq_true_eq]; omega
    have c4 : (decide (0 < ((([10] : Str) ++ foot) ++ ([10] : Str)).length) && decide ((A ++ ay ts).length + ((([10] : Str) ++ foot) ++ ([10] : Str)).length ≤ 140737488355328)) = true := by
      rw [Bool.and_eq_true, decide_eq_true_eq, decide_eq_true_eq]
      simp only [List.length_append, List.length_singleton]; omega
    rw [c1, cond_true, aa (by simp only [List.length_singleton]; omega), aa (by simp only [List.length_append, List.length_singleton]; omega), c4, cond_true]
end Go.Proofs.YtcbgfjghebopoaaDoor.H
namespace Go.Proofs.YtcbgfjghebopoaaDoor.H
open Go.Sh Go.RowKit
set_option linter.unusedSimpArgs false
set_option linter.unusedVariables false
def cB (k : Int) (b : List Int) (bad : Bool) : List Int × List Int × Bool := if k < 0 ∨ (b.length : Int) < k then ([], [], true) else (b.take k.toNat, b.drop k.toNat, bad)
theorem uh (n : Nat) (k : Int) (b : List Int) (bad : Bool) : bU n k b bad = some (cB k b bad) := by
  unfold bU oO tC lU cB
  by_cases h : k < 0
  · rw [aa h, if_pos (.inl h)]; rfl
  · rw [ah h]
    by_cases h2 : k > (b.length : Int)
    · rw [decide_eq_true h2, if_pos (.inr h2)]; rfl
    · rw [decide_eq_false h2, if_neg (by omega)]
      simp only [Option.bind_some, cond_false]
      rw [aa (by omega), aa (by omega), aa (by omega), aa (by omega)]
      rfl
theorem il (x r : List Int) (bad : Bool) : cB (x.length : Int) (x ++ r) bad = (x, r, bad) := by
  unfold cB
  rw [if_neg (by rw [List.length_append]; omega)]
  simp
theorem GM {k : Int} {b : List Int} {bad : Bool} (h : (b.length : Int) < k) : cB k b bad = ([], [], true) := by
  unfold cB
  rw [if_pos (.inr h)]
theorem Hr (k : Int) (b : List Int) : (cB k b true).2.2 = true := by
  unfold cB
  split <;> rfl
theorem Em (k : Nat) (b : List Int) (bad : Bool) : (cB (k : Int) b bad).2.1.length = b.length - k := by
  unfold cB
  split
  · rename_i h; simp; omega
  · simp
def Ve (x e : Int) : Int := IntKind.i64.wrap ((BitVec.ofInt 64 (IntKind.i64.wrap (x * 2 ^ 8)) ||| BitVec.ofInt 64 (IntKind.i64.wrap e)).toNat : Int)
def Tv : Int → List Int → Int
  | x, [] => x
  | x, e :: r => Tv (Ve x e) r
theorem O0 (a : Int) : IntKind.i64.wrap a % 18446744073709551616 = a % 18446744073709551616 := by rw [IntKind.wrap_i64]; omega
theorem Vf {a b : Int} (h : a % 18446744073709551616 = b % 18446744073709551616) : IntKind.i64.wrap a = IntKind.i64.wrap b := by rw [IntKind.wrap_i64, IntKind.wrap_i64]; omega
theorem Ht (a : Int) : (BitVec.ofInt 64 a).toNat = (a % 18446744073709551616).toNat := by
  rw [BitVec.toNat_ofInt]
  rfl
theorem Vg (x e : Int) (h0 : 0 ≤ e) (h1 : e < 256) : Ve x e = IntKind.i64.wrap (x * 256 + e) := by
  unfold Ve
  refine Vf ?_
  rw [BitVec.toNat_or, Ht, Ht, O0, O0]
  obtain ⟨e, rfl⟩ := Int.eq_ofNat_of_zero_le h0
  have e1 : ((x * 2 ^ 8) % 18446744073709551616).toNat = (x % 72057594037927936).toNat * 2 ^ 8 := by
    rw [show ((2 : Int) ^ 8) = 256 from rfl]; omega
  have e2 : (((e : Nat) : Int) % 18446744073709551616).toNat = e := by omega
  rw [e1, e2, ← Nat.shiftLeft_eq, ← Nat.shiftLeft_add_eq_or_of_lt (by omega), Nat.shiftLeft_eq]
  omega
theorem Vh : ∀ (k : Nat) (x v : Int), k ≤ 8 → -9223372036854775808 ≤ x → x ≤ 9223372036854775807 → Tv x (be k v) = IntKind.i64.wrap (x * 256 ^ k + v % 256 ^ k)
  | 0, x, v, _, h1, h2 => by
    simp only [be, Tv, Int.pow_zero, Int.mul_one, Int.emod_one, Int.add_zero]
    rw [wi _ h1 h2]
  | k + 1, x, v, hk, h1, h2 => by
    have hb : ∃ q, IntKind.u8.wrap (Int.fdiv v (2 ^ (8 * k))) = q ∧ 0 ≤ q ∧ q < 256 ∧ q = (v / 256 ^ k) % 256 := by
      refine ⟨_, rfl, ?_⟩
      rw [IntKind.wrap_u8, Int.fdiv_eq_ediv_of_nonneg _ (Int.le_of_lt (Int.pow_pos (by omega))), Int.pow_mul, show ((2 : Int) ^ 8) = 256 from rfl]
      omega
    obtain ⟨q, e1, q0, q1, q2⟩ := hb
    have hw : -9223372036854775808 ≤ IntKind.i64.wrap (x * 256 + q) ∧ IntKind.i64.wrap (x * 256 + q) ≤ 9223372036854775807 := by rw [IntKind.wrap_i64]; omega
    simp only [be, Tv, e1]
    rw [Vg x q q0 q1, Vh k _ v (by omega) hw.1 hw.2]
    refine Vf ?_
    have := O0 (x * 256 + q)
    rw [q2] at *
    have hk' : k = 0 ∨ k = 1 ∨ k = 2 ∨ k = 3 ∨ k = 4 ∨ k = 5 ∨ k = 6 ∨ k = 7 := by omega
    rcases hk' with rfl | rfl | rfl | rfl | rfl | rfl | rfl | rfl <;> simp only [Int.reducePow, Nat.reduceAdd] at * <;> omega
def dE (k : Int) (b : List Int) (bad : Bool) : Int × List Int × Bool := (Tv 0 (cB k b bad).1, (cB k b bad).2.1, (cB k b bad).2.2)
theorem Qk (n : Nat) (b : List Int) (hb : b.length ≤ 1000) (h0 : List Int) (h1 : Bool) : ∀ (r : List Int) (i m : Nat) (x : Int), b.drop i = r → r.length < m → fE n m x b (b.length : Int) (i : Int) h0 h1 = some (Tv x r, h0, h1)
  | [], i, m + 1, x, h, _ => by
    have hi := drop_nil h
    simp only [fE, iV]
    rw [ah (by omega)]
    rfl
  | c :: r, i, m + 1, x, h, hm => by
    obtain ⟨k1, k2, k3⟩ := aI h
    simp only [List.length_cons] at hm
    simp only [fE, iV]
    rw [aa (by omega), aa (by omega), Int.toNat_natCast, k1, gz _ (by omega)]
    simp only [Option.bind_some]
    exact Qk n b hb h0 h1 r (i + 1) m _ k2 (by omega)
theorem Vi (k : Int) (b : List Int) (bad : Bool) : (cB k b bad).1.length ≤ k.toNat := by
  unfold cB
  split
  · simp
  · simp; omega
theorem En (n : Nat) (hn : 20 ≤ n) (k : Int) (hk : k ≤ 15) (b : List Int) (bad : Bool) : bz n k b bad = some (dE k b bad) := by
  unfold bz nD dE
  rw [uh]
  have hl := Vi k b bad
  have e := Qk n (cB k b bad).1 (by omega) (cB k b bad).2.1 (cB k b bad).2.2 (cB k b bad).1 0 n 0 (by simp) (by omega)
  simp only [Int.natCast_zero] at e
  simp only [Option.bind_some, e]
theorem xK (k : Nat) (hk : k ≤ 8) (v : Int) (r : List Int) (bad : Bool) : dE (k : Int) (be k v ++ r) bad = (IntKind.i64.wrap (v % 256 ^ k), r, bad) := by
  have h := il (be k v) r bad
  rw [fH] at h
  unfold dE
  rw [h, Vh k 0 v hk (by omega) (by omega)]
  simp
theorem kK (k : Int) (b : List Int) : (dE k b true).2.2 = true := Hr k b
theorem rH {k : Int} {b : List Int} {bad : Bool} (h : (b.length : Int) < k) : dE k b bad = (0, [], true) := by
  unfold dE
  rw [GM h]; rfl
theorem Fu (k : Nat) (b : List Int) (bad : Bool) : (dE (k : Int) b bad).2.1.length = b.length - k := Em k b bad
def mK (b : List Int) (bad : Bool) : Int × Int × Int × Int × Int × Int × Int × List Int × Bool :=
  let t := cB 4 b bad
  let v := dE 1 t.2.1 (!(strOf t.1 == ([84, 90, 105, 102] : Str)) || t.2.2)
  let s := cB 15 v.2.1 v.2.2
  let c1 := dE 4 s.2.1 s.2.2
  let c2 := dE 4 c1.2.1 c1.2.2
  let c3 := dE 4 c2.2.1 c2.2.2
  let c4 := dE 4 c3.2.1 c3.2.2
  let c5 := dE 4 c4.2.1 c4.2.2
  let c6 := dE 4 c5.2.1 c5.2.2
  (IntKind.u8.wrap v.1, c1.1, c2.1, c3.1, c4.1, c5.1, c6.1, c6.2.1, c6.2.2 || (IntKind.u8.wrap v.1 != 0 && (IntKind.u8.wrap v.1 != 50 && IntKind.u8.wrap v.1 != 51)))
theorem Wv {α : Type} (L : Bool) (v : Int) (K : Bool → α) : cond L (K true) (cond (v != 0) (cond (v != 50) (K (v != 51)) (K false)) (K false)) = K (L || (v != 0 && (v != 50 && v != 51))) := by
  cases L <;> cases v != 0 <;> cases v != 50 <;> cases v != 51 <;> rfl
theorem uS (n : Nat) (hn : 20 ≤ n) (b : List Int) (bad : Bool) : lF n b bad = some (mK b bad) := by
  have hj : nE n b bad 0 0 0 0 0 0 0 = some ((cB 4 b bad).2.1, (!(strOf (cB 4 b bad).1 == ([84, 90, 105, 102] : Str)) || (cB 4 b bad).2.2), 0, 0, 0, 0, 0, 0, 0) := by
    unfold nE lV
    rw [uh]
    simp only [Option.bind_some]
    cases strOf (cB 4 b bad).1 == ([84, 90, 105, 102] : Str) <;> rfl
  have q0 : decide ((0 : Int) < 6) = true := by decide
  have w1 : IntKind.i64.wrap ((0 : Int) + 1) = 1 := by decide
  have w2 : IntKind.i64.wrap ((1 : Int) + 1) = 2 := by decide
  have w3 : IntKind.i64.wrap ((2 : Int) + 1) = 3 := by decide
  have w4 : IntKind.i64.wrap ((3 : Int) + 1) = 4 := by decide
  have w5 : IntKind.i64.wrap ((4 : Int) + 1) = 5 := by decide
  have w6 : IntKind.i64.wrap ((5 : Int) + 1) = 6 := by decide
  have q1 : decide ((1 : Int) < 6) = true := by decide
  have q2 : decide ((2 : Int) < 6) = true := by decide
  have q3 : decide ((3 : Int) < 6) = true := by decide
  have q4 : decide ((4 : Int) < 6) = true := by decide
  have q5 : decide ((5 : Int) < 6) = true := by decide
  have q6 : decide ((6 : Int) < 6) = false := by decide
  unfold lF oP mK
  simp only [hj, Option.bind_some, En n hn 1 (by omega), En n hn 4 (by omega), uh, w1, w2, w3, w4, w5, w6, q0, q1, q2, q3, q4, q5, q6, cond_true, cond_false]
  exact Wv _ _ (fun q => some (_, _, _, _, _, _, _, _, q))
theorem XO {x y : Bool} (h : x = true) : (x || y) = true := by rw [h]; rfl
theorem J7 (b : List Int) : (mK b true).2.2.2.2.2.2.2.2 = true := by
  simp only [mK]
  refine XO ?_
  generalize hv : dE 1 (cB 4 b true).2.1 (!(strOf (cB 4 b true).1 == ([84, 90, 105, 102] : Str)) || (cB 4 b true).2.2) = v
  have h0 : v.2.2 = true := by
    rw [← hv, Hr, Bool.or_true]
    exact kK _ _
  rw [h0]
  have h1 := Hr 15 v.2.1
  generalize cB 15 v.2.1 true = s at h1
  rw [h1]
  have h2 := kK 4 s.2.1
  generalize dE 4 s.2.1 true = c1 at h2
  rw [h2]
  have h3 := kK 4 c1.2.1
  generalize dE 4 c1.2.1 true = c2 at h3
  rw [h3]
  have h4 := kK 4 c2.2.1
  generalize dE 4 c2.2.1 true = c3 at h4
  rw [h4]
  have h5 := kK 4 c3.2.1
  generalize dE 4 c3.2.1 true = c4 at h5
  rw [h5]
  have h6 := kK 4 c4.2.1
  generalize dE 4 c4.2.1 true = c5 at h6
  rw [h6]
  exact kK 4 c5.2.1
theorem De {b : List Int} {bad : Bool} (h : b.length < 44) : (mK b bad).2.2.2.2.2.2.2.2 = true := by
  simp only [mK]
  refine XO ?_
  generalize hv : dE 1 (cB 4 b bad).2.1 (!(strOf (cB 4 b bad).1 == ([84, 90, 105, 102] : Str)) || (cB 4 b bad).2.2) = v
  have l1 : v.2.1.length = b.length - 4 - 1 := by
    rw [← hv]
    have h2 : (cB (4 : Int) b bad).2.1.length = b.length - 4 := Em 4 b bad
    rw [← h2]
    exact Fu 1 (cB 4 b bad).2.1 (!(strOf (cB 4 b bad).1 == ([84, 90, 105, 102] : Str)) || (cB 4 b bad).2.2)
  have key4 : ∀ (l : List Int) (q : Bool), (dE 4 l q).2.1.length = l.length - 4 := fun l q => Fu 4 l q
  have l2 : (cB 15 v.2.1 v.2.2).2.1.length = b.length - 4 - 1 - 15 := by
    have := Em 15 v.2.1 v.2.2
    rw [l1] at this
    exact this
  generalize cB 15 v.2.1 v.2.2 = s at l2
  by_cases hb : b.length - 20 < 4
  · rw [rH (k := 4) (b := s.2.1) (by omega)]
    simp only [kK]
  have a1 := key4 s.2.1 s.2.2
  generalize dE 4 s.2.1 s.2.2 = c1 at a1
  by_cases hb1 : c1.2.1.length < 4
  · rw [rH (k := 4) (b := c1.2.1) (by omega)]
    simp only [kK]
  have a2 := key4 c1.2.1 c1.2.2
  generalize dE 4 c1.2.1 c1.2.2 = c2 at a2
  by_cases hb2 : c2.2.1.length < 4
  · rw [rH (k := 4) (b := c2.2.1) (by omega)]
    simp only [kK]
  have a3 := key4 c2.2.1 c2.2.2
  generalize dE 4 c2.2.1 c2.2.2 = c3 at a3
  by_cases hb3 : c3.2.1.length < 4
  · rw [rH (k := 4) (b := c3.2.1) (by omega)]
    simp only [kK]
  have a4 := key4 c3.2.1 c3.2.2
  generalize dE 4 c3.2.1 c3.2.2 = c4 at a4
  by_cases hb4 : c4.2.1.length < 4
  · rw [rH (k := 4) (b := c4.2.1) (by omega)]
    simp only [kK]
  have a5 := key4 c4.2.1 c4.2.2
  generalize dE 4 c4.2.1 c4.2.2 = c5 at a5
  rw [rH (k := 4) (b := c5.2.1) (by omega)]
def Eo (v : Int) (cs : List Int) : List Int := [84, 90, 105, 102] ++ (be 1 v ++ (List.replicate 15 0 ++ cs.flatMap (be 4)))
theorem RP (cs : List Int) : bJ cs = Eo 50 cs := by
  unfold bJ Eo
  simp [be]
  rfl
theorem Mx (v c1 c2 c3 c4 c5 c6 : Int) (hv : v = 0 ∨ v = 50 ∨ v = 51) (h : ∀ c ∈ [c1, c2, c3, c4, c5, c6], 0 ≤ c ∧ c < 4294967296) (r : List Int) : mK (Eo v [c1, c2, c3, c4, c5, c6] ++ r) false = (v, c1, c2, c3, c4, c5, c6, r, false) := by
  have e0 : Eo v [c1, c2, c3, c4, c5, c6] ++ r = [84, 90, 105, 102] ++ (be 1 v ++ (List.replicate 15 0 ++ (be 4 c1 ++ (be 4 c2 ++ (be 4 c3 ++ (be 4 c4 ++ (be 4 c5 ++ (be 4 c6 ++ r)))))))) := by
    simp [Eo]
  have t1 : ∀ r' bad, cB 4 ([84, 90, 105, 102] ++ r') bad = ([84, 90, 105, 102], r', bad) := fun r' bad => il [84, 90, 105, 102] r' bad
  have t2 : ∀ r' bad, dE 1 (be 1 v ++ r') bad = (v, r', bad) := fun r' bad => by
    have this : dE (1 : Int) (be 1 v ++ r') bad = (IntKind.i64.wrap (v % 256 ^ 1), r', bad) := xK 1 (by omega) v r' bad
    rw [this]
    rcases hv with rfl | rfl | rfl <;> rfl
  have t3 : ∀ r' bad, cB 15 (List.replicate 15 0 ++ r') bad = (List.replicate 15 0, r', bad) := fun r' bad => il (List.replicate 15 0) r' bad
  have t4 : ∀ c, 0 ≤ c ∧ c < 4294967296 → ∀ r' bad, dE 4 (be 4 c ++ r') bad = (c, r', bad) := fun c hc r' bad => by
    have this : dE (4 : Int) (be 4 c ++ r') bad = (IntKind.i64.wrap (c % 256 ^ 4), r', bad) := xK 4 (by omega) c r' bad
    rw [this, show ((256 : Int) ^ 4) = 4294967296 from rfl, wi _ (by omega) (by omega)]
    congr 1; omega
  unfold mK
  rw [e0, t1]
  simp only
  have e1 : (!(strOf [84, 90, 105, 102] == ([84, 90, 105, 102] : Str)) || false) = false := by decide
  rw [e1, t2]
  simp only [t3, t4 c1 (h c1 (by simp)), t4 c2 (h c2 (by simp)), t4 c3 (h c3 (by simp)), t4 c4 (h c4 (by simp)), t4 c5 (h c5 (by simp)), t4 c6 (h c6 (by simp))]
  rcases hv with rfl | rfl | rfl <;> rfl
end Go.Proofs.YtcbgfjghebopoaaDoor.H
namespace Go.Proofs.YtcbgfjghebopoaaDoor.H
open Go.Sh Go.RowKit
set_option linter.unusedSimpArgs false
set_option linter.unusedVariables false
theorem J8 (n : Nat) (hn : 20 ≤ n) (v : Int) (h1 : -2147483648 ≤ v) (h2 : v ≤ 2147483647) (r : List Int) (bad : Bool) : kR n (be 4 v ++ r) bad = some (v, r, bad) := by
  unfold kR nG
  have this : dE (4 : Int) (be 4 v ++ r) bad = (IntKind.i64.wrap (v % 256 ^ 4), r, bad) := xK 4 (by omega) v r bad
  rw [En n hn 4 (by omega), this, show ((256 : Int) ^ 4) = 4294967296 from rfl, wi _ (by omega) (by omega)]
  have e : IntKind.i32.wrap (v % 4294967296) = v := by rw [IntKind.wrap_i32]; omega
  simp only [Option.bind_some, e]
  rw [wi _ (by omega) (by omega)]
theorem Vj (n : Nat) (hn : 20 ≤ n) (v : Int) (h1 : -9223372036854775808 ≤ v) (h2 : v ≤ 9223372036854775807) (r : List Int) (bad : Bool) : oW n (be 8 v ++ r) bad = some (v, r, bad) := by
  unfold oW oV
  have this : dE (8 : Int) (be 8 v ++ r) bad = (IntKind.i64.wrap (v % 256 ^ 8), r, bad) := xK 8 (by omega) v r bad
  have e : IntKind.i64.wrap (v % 256 ^ 8) = v := by rw [show ((256 : Int) ^ 8) = 18446744073709551616 from rfl, IntKind.wrap_i64]; omega
  rw [En n hn 8 (by omega), this, e]
  rfl
theorem GN (n : Nat) (hn : 20 ≤ n) (v : Int) (h1 : 0 ≤ v) (h2 : v ≤ 255) (r : List Int) (bad : Bool) : jP n (be 1 v ++ r) bad = some (v, r, bad) := by
  unfold jP oQ
  have this : dE (1 : Int) (be 1 v ++ r) bad = (IntKind.i64.wrap (v % 256 ^ 1), r, bad) := xK 1 (by omega) v r bad
  have e : IntKind.i64.wrap (v % 256 ^ 1) = v := by rw [show ((256 : Int) ^ 1) = 256 from rfl, wi _ (by omega) (by omega)]; omega
  rw [En n hn 1 (by omega), this, e]
  rfl
theorem Xo (n : Nat) (hn : 20 ≤ n) (T : Nat) (hT : T ≤ 4000) : ∀ (xs : List Int) (i m : Nat) (acc r : List Int) (bad : Bool), i + xs.length = T → xs.length < m → (∀ x ∈ xs, -9223372036854775808 ≤ x ∧ x ≤ 9223372036854775807) → acc.length = i →
    gu n m acc (T : Int) (i : Int) (xs.flatMap (be 8) ++ r) bad = some (acc ++ xs, r, bad)
  | [], i, m + 1, acc, r, bad, hi, _, _, _ => by
    simp only [List.length_nil] at hi
    simp only [gu, jL]
    rw [ah (by omega)]
    simp
  | x :: xs, i, m + 1, acc, r, bad, hi, hm, hx, ha => by
    simp only [List.length_cons] at hi hm
    obtain ⟨x1, x2⟩ := hx x (by simp)
    have e : (x :: xs).flatMap (be 8) ++ r = be 8 x ++ (xs.flatMap (be 8) ++ r) := by simp
    simp only [gu, jL]
    rw [aa (by omega), e, Vj n hn x (by omega) (by omega), gz _ (by omega)]
    simp only [Option.bind_some]
    rw [aa (by simp only [List.length_cons, List.length_nil]; omega), Xo n hn T hT xs (i + 1) m _ r bad (by omega) (by omega) (fun y hy => hx y (by simp [hy])) (by simp; omega)]
    simp
theorem Xp (n : Nat) (hn : 20 ≤ n) (T : Nat) (hT : T ≤ 4000) : ∀ (xs : List Int) (i m : Nat) (acc r : List Int) (bad : Bool), i + xs.length = T → xs.length < m → (∀ x ∈ xs, -2147483648 ≤ x ∧ x ≤ 2147483647) → acc.length = i →
    iW n m acc (T : Int) (i : Int) (xs.flatMap (be 4) ++ r) bad = some (acc ++ xs, r, bad)
  | [], i, m + 1, acc, r, bad, hi, _, _, _ => by
    simp only [List.length_nil] at hi
    simp only [iW, kS]
    rw [ah (by omega)]
    simp
  | x :: xs, i, m + 1, acc, r, bad, hi, hm, hx, ha => by
    simp only [List.length_cons] at hi hm
    obtain ⟨x1, x2⟩ := hx x (by simp)
    have e : (x :: xs).flatMap (be 4) ++ r = be 4 x ++ (xs.flatMap (be 4) ++ r) := by simp
    simp only [iW, kS]
    rw [aa (by omega), e, J8 n hn x (by omega) (by omega), gz _ (by omega)]
    simp only [Option.bind_some]
    rw [aa (by simp only [List.length_cons, List.length_nil]; omega), Xp n hn T hT xs (i + 1) m _ r bad (by omega) (by omega) (fun y hy => hx y (by simp [hy])) (by simp; omega)]
    simp
theorem Vk (n : Nat) (hn : 20 ≤ n) (T : Nat) (hT : T ≤ 4000) : ∀ (xs : List Int) (i m : Nat) (acc r : List Int) (bad : Bool), i + xs.length = T → xs.length < m → (∀ x ∈ xs, 0 ≤ x ∧ x ≤ 255) → acc.length = i →
    kJ n m acc (T : Int) (i : Int) (xs.flatMap (be 1) ++ r) bad = some (acc ++ xs, r, bad)
  | [], i, m + 1, acc, r, bad, hi, _, _, _ => by
    simp only [List.length_nil] at hi
    simp only [kJ, mI]
    rw [ah (by omega)]
    simp
  | x :: xs, i, m + 1, acc, r, bad, hi, hm, hx, ha => by
    simp only [List.length_cons] at hi hm
    obtain ⟨x1, x2⟩ := hx x (by simp)
    have e : (x :: xs).flatMap (be 1) ++ r = be 1 x ++ (xs.flatMap (be 1) ++ r) := by simp
    simp only [kJ, mI]
    rw [aa (by omega), e, GN n hn x (by omega) (by omega), gz _ (by omega)]
    simp only [Option.bind_some]
    rw [aa (by simp only [List.length_cons, List.length_nil]; omega), Vk n hn T hT xs (i + 1) m _ r bad (by omega) (by omega) (fun y hy => hx y (by simp [hy])) (by simp; omega)]
    simp
def tH : Nat → List Ty → List (List AV)
  | _, [] => []
  | o, t :: r => [.int .i64 t.1, .int .i64 (if t.2.1 then 1 else 0), .int .i64 (o : Int)] :: tH (o + (t.2.2.length + 1)) r
theorem J9 : ∀ (o : Nat) (ts : List Ty), (tH o ts).length = ts.length
  | _, [] => rfl
  | o, t :: r => by simp [tH, J9 _ r]
theorem MB (n : Nat) (hn : 20 ≤ n) (T : Nat) (hT : T ≤ 255) : ∀ (xs : List Ty) (i m o : Nat) (acc : List (List AV)) (r : List Int) (bad : Bool), i + xs.length = T → xs.length < m → (∀ t ∈ xs, -89999 ≤ t.1 ∧ t.1 ≤ 93599) → o + bG xs ≤ 256 → acc.length = i →
    jT n m acc (T : Int) (i : Int) (dW o xs ++ r) bad = some (acc ++ tH o xs, r, bad)
  | [], i, m + 1, o, acc, r, bad, hi, _, _, _, _ => by
    simp only [List.length_nil] at hi
    simp only [jT, lI]
    rw [ah (by omega)]
    simp [dW, tH]
  | t :: xs, i, m + 1, o, acc, r, bad, hi, hm, hx, ho, ha => by
    simp only [List.length_cons, bG] at hi hm ho
    obtain ⟨x1, x2⟩ := hx t (by simp)
    have e : dW o (t :: xs) ++ r = be 4 t.1 ++ (be 1 (if t.2.1 then 1 else 0) ++ (be 1 (o : Int) ++ (dW (o + (t.2.2.length + 1)) xs ++ r))) := by simp [dW]
    have eb : gH n (dW o (t :: xs) ++ r) bad = some (t.1, (if t.2.1 then 1 else 0), (o : Int), dW (o + (t.2.2.length + 1)) xs ++ r, bad) := by
      unfold gH jK
      rw [e, J8 n hn t.1 (by omega) (by omega)]
      simp only [Option.bind_some]
      rw [GN n hn (if t.2.1 then 1 else 0) (by split <;> omega) (by split <;> omega)]
      simp only [Option.bind_some]
      rw [GN n hn (o : Int) (by omega) (by omega)]
      rfl
    simp only [jT, lI]
    rw [aa (by omega), eb, gz _ (by omega)]
    simp only [Option.bind_some]
    rw [aa (by simp only [List.length_cons, List.length_nil]; omega)]
    refine (MB n hn T hT xs (i + 1) m (o + (t.2.2.length + 1)) _ r bad (by omega) (by omega) (fun y hy => hx y (by simp [hy])) (by omega) (by simp only [List.length_append, List.length_cons, List.length_nil]; omega)).trans ?_
    simp [tH]
theorem MC : ∀ (s : Str) (tl : Str), (∀ c ∈ s, c ≠ 0) → Lib.indexByte (s ++ 0 :: tl) 0 = s.length
  | [], tl, _ => by simp [Lib.indexByte]
  | c :: s, tl, h => by
    have h1 : (c == 0) = false := by simpa using h c (by simp)
    have ih := MC s tl fun c hc => h c (by simp [hc])
    have h2 : ((s.length : Int) == -1) = false := by simp
    simp only [List.cons_append, Lib.indexByte, h1, ih, h2]
    simp
theorem JG (s : Str) : Lib.bytesOf (au s) = s := by
  unfold Lib.bytesOf au
  rw [List.map_map]
  conv => rhs; rw [← List.map_id s]
  exact List.map_congr_left fun b _ => by simp
theorem KM (s : Str) : IQ (au s) = true := by
  unfold IQ au
  rw [List.all_eq_true]
  intro x hx
  obtain ⟨b, _, rfl⟩ := List.mem_map.1 hx
  have := b.toNat_lt
  simp; omega
theorem Ir : ∀ (ts : List Ty), ∃ s : Str, ay ts = au s
  | [] => ⟨[], rfl⟩
  | t :: r => by
    obtain ⟨s, h⟩ := Ir r
    refine ⟨t.2.2 ++ 0 :: s, ?_⟩
    simp only [ay] at h
    simp only [ay, List.flatMap_cons, h, yl, yE, List.append_assoc]
    rfl
theorem RQ (n : Nat) (t : Ty) (r : List Ty) (ht : okT t = true) (hl : bG (t :: r) ≤ 256) : Gv n (au t.2.2 ++ (0 :: ay r)) [0] = some (au t.2.2, ay r, true) := by
  obtain ⟨s, hs⟩ := Ir r
  have e : au t.2.2 ++ (0 :: ay r) = au (t.2.2 ++ 0 :: s) := by rw [hs, yl, yE]; rfl
  have hz : ∀ c ∈ t.2.2, c ≠ 0 := by
    simp only [okT, rQ, Bool.and_eq_true] at ht
    intro c hc h0
    have := List.all_eq_true.1 ht.2.2 c hc
    subst h0
    exact absurd this (by decide)
  have hlen : (au (t.2.2 ++ 0 :: s)).length ≤ 256 := by
    have h1 := ik (t :: r)
    have h2 : ay (t :: r) = au (t.2.2 ++ 0 :: s) := by
      rw [← e]
      simp [ay]
    rw [h2] at h1
    omega
  have hI : MX (au (t.2.2 ++ 0 :: s)) [0] = t.2.2.length := by
    unfold MX
    rw [JG, show Lib.bytesOf [0] = [0] from rfl, Lib.index_one]
    exact MC t.2.2 s hz
  unfold Gv EW
  rw [e, hI, KM, decide_eq_true (show (au (t.2.2 ++ 0 :: s)).length < 4294967281 by omega)]
  rw [show (true && IQ [0] && true && decide (([0] : List Int).length ≤ 9223372036854775807)) = true by decide, cond_true, aa (by omega), Int.toNat_natCast]
  congr 1
  rw [yl, yE]
  have hl2 : t.2.2.length = (au t.2.2).length := (aM _).symm
  refine Prod.ext ?_ (Prod.ext ?_ rfl)
  · simp only; rw [hl2, List.take_left']; rfl
  · simp only
    rw [hl2, ← List.drop_drop, List.drop_left', hs]
    · rfl
    · rfl
theorem ME (n : Nat) (ts : List Ty) (hok : ts.all okT = true) (hs : bG ts ≤ 256) (hts : ts.length ≤ 255) (h1 h2 : List Int) (h3 : Str) : ∀ (r : List Ty) (i m o : Nat) (b : List Int) (acc : List (List AV)), ts.drop i = r → (ay ts).drop o = ay r → (tH 0 ts).drop i = tH o r → o + bG r = bG ts → r.length < m → acc.length = i →
    bu n m (ay ts) (tH 0 ts) (ts.length : Int) (i : Int) b false acc h1 h2 h3 = some (b, false, acc ++ r.map cT, h1, h2, h3)
  | [], i, m + 1, o, b, acc, hd, _, _, _, _, _ => by
    have hi := drop_nil hd
    simp only [bu, dh]
    rw [ah (by omega)]
    simp
  | t :: r, i, m + 1, o, b, acc, hd, hl, hk, ho, hm, ha => by
    obtain ⟨k1, k2, k3⟩ := aI hd
    simp only [List.length_cons, bG] at hm ho
    have ht : okT t = true := List.all_eq_true.1 hok t (List.mem_of_getElem? k1)
    obtain ⟨j1, j2, j3⟩ := aI (show (tH 0 ts).drop i = [.int .i64 t.1, .int .i64 (if t.2.1 then 1 else 0), .int .i64 (o : Int)] :: tH (o + (t.2.2.length + 1)) r from hk)
    have hlen := ik ts
    have e0 : (if ((ay ts).length : Int) < (o : Int) then ((ay ts).length : Int) else (o : Int)) = (o : Int) := if_neg (by omega)
    have el : (ay ts).drop o = au t.2.2 ++ (0 :: ay r) := by rw [hl]; simp [ay]
    have ej : fP n true b false acc h1 h2 h3 t.1 (if t.2.1 then 1 else 0) (o : Int) = some (b, false, acc, h1, h2, h3, t.1, (if t.2.1 then 1 else 0), (o : Int)) := by
      unfold fP gK
      cases t.2.1 <;> rfl
    simp only [bu, dh]
    rw [aa (by omega), aa (by omega), Int.toNat_natCast, j1, gz _ (by omega)]
    simp only [Option.bind_some, unc, jR, unn, decide_true, cond_true, e0]
    rw [aa (by omega), aa (by omega), Int.toNat_natCast, el, RQ n t r ht (by simp only [bG]; omega)]
    simp only [Option.bind_some, ej, zP]
    rw [aa (by simp only [List.length_cons, List.length_nil]; omega)]
    have e5 : ((if t.2.1 = true then (1 : Int) else 0) == 1) = t.2.1 := by cases t.2.1 <;> rfl
    rw [e5]
    refine (ME n ts hok hs hts h1 h2 h3 r (i + 1) m (o + (t.2.2.length + 1)) b _ k2 ?_ j2 (by omega) (by omega) (by simp only [List.length_append, List.length_cons, List.length_nil]; omega)).trans ?_
    · rw [← List.drop_drop, el, show t.2.2.length + 1 = (au t.2.2).length + 1 by rw [aM], ← List.drop_drop, List.drop_left']
      · rfl
      · rfl
    · simp [cT]
theorem MF (n : Nat) (hn : 4001 ≤ n) (v : Int) (ts : List Ty) (ti ix : List Int) (r : List Int) (h1 : 1 ≤ ts.length) (h2 : ts.length ≤ 255) (h3 : ti.length ≤ 4000) (h4 : ti.length = ix.length) (h6 : ts.all okT = true) (h8 : bG ts ≤ 256) (hti : ∀ x ∈ ti, -9223372036854775808 ≤ x ∧ x ≤ 9223372036854775807) (hix : ∀ x ∈ ix, 0 ≤ x ∧ x ≤ 255) :
    aJ n v 0 0 0 (ti.length : Int) (ts.length : Int) (bG ts : Int) 8 (ti.flatMap (be 8) ++ (ix.flatMap (be 1) ++ (dW 0 ts ++ (ay ts ++ r)))) false = some (ts.map cT, ti, ix, [], r, false) := by
  have hs : 2 ≤ bG ts := by
    cases ts with
    | nil => simp at h1
    | cons t r' =>
      have := List.all_eq_true.1 h6 t (by simp)
      have h0 : t.2.2 ≠ [] := fun e => by simp [okT, e] at this
      have := List.length_pos_iff.2 h0
      simp only [bG]; omega
  have hoff : ∀ t ∈ ts, -89999 ≤ t.1 ∧ t.1 ≤ 93599 := fun t ht => by
    have := List.all_eq_true.1 h6 t ht
    simp only [okT, Bool.and_eq_true, Bool.not_eq_true', decide_eq_false_iff_not] at this
    omega
  have hlong : aO n v 0 0 0 (ti.length : Int) (ts.length : Int) (bG ts : Int) 8 = some (((ti.length * 9 + ts.length * 6 + bG ts : Nat)) : Int) := by
    unfold aO eG
    have w1 : IntKind.i64.wrap ((8 : Int) + 1) = 9 := by decide
    have w4 : IntKind.i64.wrap ((0 : Int) * IntKind.i64.wrap ((8 : Int) + 4)) = 0 := by decide
    rw [w1, w4, wi ((ti.length : Int) * 9) (by omega) (by omega), wi ((ts.length : Int) * 6) (by omega) (by omega), wi ((ti.length : Int) * 9 + (ts.length : Int) * 6) (by omega) (by omega)]
    have hX : IntKind.i64.wrap (((ti.length : Int) * 9 + (ts.length : Int) * 6) + (bG ts : Int)) = ((ti.length : Int) * 9 + (ts.length : Int) * 6) + (bG ts : Int) := wi _ (by omega) (by omega)
    simp only [Int.add_zero, hX]
    congr 1
  have hmay : eD n v 0 0 0 (ti.length : Int) (ts.length : Int) (bG ts : Int) = some true := by
    unfold eD kI
    rw [aa (by omega), aa (by omega), aa (by omega), aa (by omega), aa (by omega), aa (by omega)]
    rfl
  have hj : bA n 8 (ti.flatMap (be 8) ++ (ix.flatMap (be 1) ++ (dW 0 ts ++ (ay ts ++ r)))) false v 0 0 0 (ti.length : Int) (ts.length : Int) (bG ts : Int) [] [] [] [] = some (false, ti.flatMap (be 8) ++ (ix.flatMap (be 1) ++ (dW 0 ts ++ (ay ts ++ r))), false, v, 0, 0, 0, (ti.length : Int), (ts.length : Int), (bG ts : Int), [], [], [], []) := by
    unfold bA cZ
    simp only [hmay, hlong, cond_false, Option.bind_some, Bool.not_true]
    rw [decide_eq_false]
    simp only [List.length_append, jN, p9, ik]
    omega
  unfold aJ dz
  simp only [hj, Option.bind_some, cond_false]
  have e1 := Xo n (by omega) ti.length h3 ti 0 n [] (ix.flatMap (be 1) ++ (dW 0 ts ++ (ay ts ++ r))) false (by omega) (by omega) hti rfl
  simp only [Int.natCast_zero, List.nil_append] at e1
  simp only [oZ, lJ, e1, Option.bind_some]
  have e2 := Vk n (by omega) ti.length h3 ix 0 n [] (dW 0 ts ++ (ay ts ++ r)) false (by omega) (by omega) hix rfl
  simp only [Int.natCast_zero, List.nil_append] at e2
  simp only [lH, lG, e2, Option.bind_some]
  have e3 := MB n (by omega) ts.length h2 ts 0 n 0 [] (ay ts ++ r) false (by omega) (by omega) hoff (by omega) rfl
  simp only [Int.natCast_zero, List.nil_append] at e3
  simp only [qU, qR, e3, Option.bind_some, uh]
  have e4 : cB (bG ts : Int) (ay ts ++ r) false = (ay ts, r, false) := by
    rw [← ik]; exact il _ _ _
  have w4 : IntKind.i64.wrap (IntKind.i64.wrap (IntKind.i64.wrap ((0 : Int) * IntKind.i64.wrap ((8 : Int) + 4)) + 0) + 0) = 0 := by decide
  have e5 : cB 0 r false = ([], r, false) := il [] r false
  simp only [e4, w4, e5, J9]
  have e6 := ME n ts h6 h8 h2 ti ix [] ts 0 n 0 r [] (by simp) (by simp) (by simp) (by omega) (by omega) rfl
  simp only [Int.natCast_zero, List.nil_append] at e6
  simp only [e6, Option.bind_some]
theorem Ql (n : Nat) (ts : List Ty) (hok : ts.all okT = true) (hs : bG ts ≤ 256) (hts : ts.length ≤ 255) (h1 h2 : List Int) (h3 : Str) : ∀ (r : List Ty) (i m o : Nat) (b : List Int) (acc : List (List AV)), ts.drop i = r → (ay ts).drop o = ay r → (tH 0 ts).drop i = tH o r → o + bG r = bG ts → r.length < m → acc.length = i →
    dM n m (ay ts) (tH 0 ts) (ts.length : Int) (i : Int) b false acc h1 h2 h3 = some (b, false, acc ++ r.map cT, h1, h2, h3)
  | [], i, m + 1, o, b, acc, hd, _, _, _, _, _ => by
    have hi := drop_nil hd
    simp only [dM, iY]
    rw [ah (by omega)]
    simp
  | t :: r, i, m + 1, o, b, acc, hd, hl, hk, ho, hm, ha => by
    obtain ⟨k1, k2, k3⟩ := aI hd
    simp only [List.length_cons, bG] at hm ho
    have ht : okT t = true := List.all_eq_true.1 hok t (List.mem_of_getElem? k1)
    obtain ⟨j1, j2, j3⟩ := aI (show (tH 0 ts).drop i = [.int .i64 t.1, .int .i64 (if t.2.1 then 1 else 0), .int .i64 (o : Int)] :: tH (o + (t.2.2.length + 1)) r from hk)
    have hlen := ik ts
    have e0 : (if ((ay ts).length : Int) < (o : Int) then ((ay ts).length : Int) else (o : Int)) = (o : Int) := if_neg (by omega)
    have el : (ay ts).drop o = au t.2.2 ++ (0 :: ay r) := by rw [hl]; simp [ay]
    have ej : mJ n true b false acc h1 h2 h3 t.1 (if t.2.1 then 1 else 0) (o : Int) = some (b, false, acc, h1, h2, h3, t.1, (if t.2.1 then 1 else 0), (o : Int)) := by
      unfold mJ kV
      cases t.2.1 <;> rfl
    simp only [dM, iY]
    rw [aa (by omega), aa (by omega), Int.toNat_natCast, j1, gz _ (by omega)]
    simp only [Option.bind_some, unc, jR, unn, decide_true, cond_true, e0]
    rw [aa (by omega), aa (by omega), Int.toNat_natCast, el, RQ n t r ht (by simp only [bG]; omega)]
    simp only [Option.bind_some, ej, zP]
    rw [aa (by simp only [List.length_cons, List.length_nil]; omega)]
    have e5 : ((if t.2.1 = true then (1 : Int) else 0) == 1) = t.2.1 := by cases t.2.1 <;> rfl
    rw [e5]
    refine (Ql n ts hok hs hts h1 h2 h3 r (i + 1) m (o + (t.2.2.length + 1)) b _ k2 ?_ j2 (by omega) (by omega) (by simp only [List.length_append, List.length_cons, List.length_nil]; omega)).trans ?_
    · rw [← List.drop_drop, el, show t.2.2.length + 1 = (au t.2.2).length + 1 by rw [aM], ← List.drop_drop, List.drop_left']
      · rfl
      · rfl
    · simp [cT]
theorem Vl (n : Nat) (hn : 4001 ≤ n) (v : Int) (ts : List Ty) (ti ix : List Int) (r : List Int) (h1 : 1 ≤ ts.length) (h2 : ts.length ≤ 255) (h3 : ti.length ≤ 4000) (h4 : ti.length = ix.length) (h6 : ts.all okT = true) (h8 : bG ts ≤ 256) (hti : ∀ x ∈ ti, -2147483648 ≤ x ∧ x ≤ 2147483647) (hix : ∀ x ∈ ix, 0 ≤ x ∧ x ≤ 255) :
    bI n v 0 0 0 (ti.length : Int) (ts.length : Int) (bG ts : Int) 4 (ti.flatMap (be 4) ++ (ix.flatMap (be 1) ++ (dW 0 ts ++ (ay ts ++ r)))) false = some (ts.map cT, ti, ix, [], r, false) := by
  have hs : 2 ≤ bG ts := by
    cases ts with
    | nil => simp at h1
    | cons t r' =>
      have := List.all_eq_true.1 h6 t (by simp)
      have h0 : t.2.2 ≠ [] := fun e => by simp [okT, e] at this
      have := List.length_pos_iff.2 h0
      simp only [bG]; omega
  have hoff : ∀ t ∈ ts, -89999 ≤ t.1 ∧ t.1 ≤ 93599 := fun t ht => by
    have := List.all_eq_true.1 h6 t ht
    simp only [okT, Bool.and_eq_true, Bool.not_eq_true', decide_eq_false_iff_not] at this
    omega
  have hlong : aO n v 0 0 0 (ti.length : Int) (ts.length : Int) (bG ts : Int) 4 = some (((ti.length * 5 + ts.length * 6 + bG ts : Nat)) : Int) := by
    unfold aO eG
    have w1 : IntKind.i64.wrap ((4 : Int) + 1) = 5 := by decide
    have w4 : IntKind.i64.wrap ((0 : Int) * IntKind.i64.wrap ((4 : Int) + 4)) = 0 := by decide
    rw [w1, w4, wi ((ti.length : Int) * 5) (by omega) (by omega), wi ((ts.length : Int) * 6) (by omega) (by omega), wi ((ti.length : Int) * 5 + (ts.length : Int) * 6) (by omega) (by omega)]
    have hX : IntKind.i64.wrap (((ti.length : Int) * 5 + (ts.length : Int) * 6) + (bG ts : Int)) = ((ti.length : Int) * 5 + (ts.length : Int) * 6) + (bG ts : Int) := wi _ (by omega) (by omega)
    simp only [Int.add_zero, hX]
    congr 1
  have hmay : eD n v 0 0 0 (ti.length : Int) (ts.length : Int) (bG ts : Int) = some true := by
    unfold eD kI
    rw [aa (by omega), aa (by omega), aa (by omega), aa (by omega), aa (by omega), aa (by omega)]
    rfl
  have hj : ig n 4 (ti.flatMap (be 4) ++ (ix.flatMap (be 1) ++ (dW 0 ts ++ (ay ts ++ r)))) false v 0 0 0 (ti.length : Int) (ts.length : Int) (bG ts : Int) [] [] [] [] = some (false, ti.flatMap (be 4) ++ (ix.flatMap (be 1) ++ (dW 0 ts ++ (ay ts ++ r))), false, v, 0, 0, 0, (ti.length : Int), (ts.length : Int), (bG ts : Int), [], [], [], []) := by
    unfold ig iX
    simp only [hmay, hlong, cond_false, Option.bind_some, Bool.not_true]
    rw [decide_eq_false]
    simp only [List.length_append, jN, p9, ik]
    omega
  unfold bI gq
  simp only [hj, Option.bind_some, cond_false]
  have e1 := Xp n (by omega) ti.length h3 ti 0 n [] (ix.flatMap (be 1) ++ (dW 0 ts ++ (ay ts ++ r))) false (by omega) (by omega) hti rfl
  simp only [Int.natCast_zero, List.nil_append] at e1
  simp only [rF, nL, e1, Option.bind_some]
  have e2 := Vk n (by omega) ti.length h3 ix 0 n [] (dW 0 ts ++ (ay ts ++ r)) false (by omega) (by omega) hix rfl
  simp only [Int.natCast_zero, List.nil_append] at e2
  simp only [lH, lG, e2, Option.bind_some]
  have e3 := MB n (by omega) ts.length h2 ts 0 n 0 [] (ay ts ++ r) false (by omega) (by omega) hoff (by omega) rfl
  simp only [Int.natCast_zero, List.nil_append] at e3
  simp only [qU, qR, e3, Option.bind_some, uh]
  have e4 : cB (bG ts : Int) (ay ts ++ r) false = (ay ts, r, false) := by
    rw [← ik]; exact il _ _ _
  have w4 : IntKind.i64.wrap (IntKind.i64.wrap (IntKind.i64.wrap ((0 : Int) * IntKind.i64.wrap ((4 : Int) + 4)) + 0) + 0) = 0 := by decide
  have e5 : cB 0 r false = ([], r, false) := il [] r false
  simp only [e4, w4, e5, J9]
  have e6 := Ql n ts h6 h8 h2 ti ix [] ts 0 n 0 r [] (by simp) (by simp) (by simp) (by omega) (by omega) rfl
  simp only [Int.natCast_zero, List.nil_append] at e6
  simp only [e6, Option.bind_some]
end Go.Proofs.YtcbgfjghebopoaaDoor.H
namespace Go.Proofs.YtcbgfjghebopoaaDoor.H
open Go.Sh Go.RowKit
set_option linter.unusedSimpArgs false
set_option linter.unusedVariables false
theorem xL (n : Nat) (v c1 c2 c3 c4 c5 c6 w : Int) (b : List Int) : aJ n v c1 c2 c3 c4 c5 c6 w b true = some ([], [], [], [], b, true) := by
  unfold aJ dz bA cZ
  rfl
theorem Tw (n : Nat) (v c1 c2 c3 c4 c5 c6 w : Int) (b : List Int) : bI n v c1 c2 c3 c4 c5 c6 w b true = some ([], [], [], [], b, true) := by
  unfold bI gq ig iX
  rfl
theorem Tx (n : Nat) (v : Int) (a b c : Nat) (ha : a ≤ 4000) (hb : b ≤ 255) (hc : c ≤ 256) : aO n v 0 0 0 (a : Int) (b : Int) (c : Int) 8 = some ((a * 9 + b * 6 + c : Nat) : Int) := by
  unfold aO eG
  have w1 : IntKind.i64.wrap ((8 : Int) + 1) = 9 := by decide
  have w4 : IntKind.i64.wrap ((0 : Int) * IntKind.i64.wrap ((8 : Int) + 4)) = 0 := by decide
  rw [w1, w4, wi ((a : Int) * 9) (by omega) (by omega), wi ((b : Int) * 6) (by omega) (by omega), wi ((a : Int) * 9 + (b : Int) * 6) (by omega) (by omega)]
  have hX : IntKind.i64.wrap (((a : Int) * 9 + (b : Int) * 6) + (c : Int)) = ((a : Int) * 9 + (b : Int) * 6) + (c : Int) := wi _ (by omega) (by omega)
  simp only [Int.add_zero, hX]
  congr 1
theorem O1 (n : Nat) (v : Int) (a b c : Nat) (ha : a ≤ 4000) (hb : b ≤ 255) (hb1 : 1 ≤ b) (hc : c ≤ 256) (hc1 : 1 ≤ c) (r : List Int) (hr : r.length < a * 9 + b * 6 + c) : aJ n v 0 0 0 (a : Int) (b : Int) (c : Int) 8 r false = some ([], [], [], [], r, true) := by
  have hmay : eD n v 0 0 0 (a : Int) (b : Int) (c : Int) = some true := by
    unfold eD kI
    rw [aa (by omega), aa (by omega), aa (by omega), aa (by omega), aa (by omega), aa (by omega)]
    rfl
  unfold aJ dz bA cZ
  simp only [hmay, Tx n v a b c ha hb hc, cond_false, Option.bind_some, Bool.not_true]
  rw [decide_eq_true (by omega)]
  rfl
abbrev Zo := List (List AV) × List Int × List Int × Str × List Int × Bool
theorem KN (n : Nat) (b : List Int) (z0 : List (List AV)) (z1 z2 : List Int) (z3 : Str) (a0 a1 a2 a3 a4 a5 a6 b0 b1 b2 b3 b4 b5 b6 : Int) (y0 : List (List AV)) (y1 y2 : List Int) (y3 : Str) :
    eH n b true z0 z1 z2 z3 a0 a1 a2 a3 a4 a5 a6 b0 b1 b2 b3 b4 b5 b6 y0 y1 y2 y3 = some (b, true, z0, z1, z2, z3, a0, a1, a2, a3, a4, a5, a6, b0, b1, b2, b3, b4, b5, b6, y0, y1, y2, y3) := rfl
theorem MG (n : Nat) (hn : 20 ≤ n) (b : List Int) (h : (mK b false).2.2.2.2.2.2.2.2 = true) : ∃ x : Zo, aL n b false = some x ∧ x.2.2.2.2.2 = true := by
  unfold aL fG
  rw [uS n hn]
  generalize mK b false = o at h
  simp only [Option.bind_some, h]
  cases hv : o.1 == 0 with
  | true => rw [cond_true, Tw]; exact ⟨_, rfl, rfl⟩
  | false =>
    simp only [cond_false, aO, eG, Option.bind_some, uh, uS n hn]
    generalize hl : IntKind.i64.wrap _ = l
    have h2 := Hr l o.2.2.2.2.2.2.2.1
    generalize cB l o.2.2.2.2.2.2.2.1 true = t at h2
    have h3 := J7 t.2.1
    rw [h2]
    generalize mK t.2.1 true = p at h3
    simp only [h3, xL, Option.bind_some, KN]
    exact ⟨_, rfl, rfl⟩
theorem NU (n : Nat) (hn : 20 ≤ n) {b r r2 r3 r4 : List Int} {x : List Int} {bad2 bad3 bad4 : Bool} {v2 d1 d2 d3 d4 d5 d6 : Int} {z0 : List (List AV)} {z1 z2 : List Int} {z3 : Str}
    (h1 : mK b false = (50, 0, 0, 0, 0, 1, 1, r, false)) (h2 : cB 7 r false = (x, r2, bad2)) (h3 : mK r2 bad2 = (v2, d1, d2, d3, d4, d5, d6, r3, bad3)) (h4 : aJ n v2 d1 d2 d3 d4 d5 d6 8 r3 bad3 = some (z0, z1, z2, z3, r4, bad4)) :
    aL n b false = (eH n r4 bad4 [] [] [] [] 50 0 0 0 0 1 1 v2 d1 d2 d3 d4 d5 d6 z0 z1 z2 z3).bind fun o312 => (cond (!o312.2.1) (cond (decide (0 ≤ (IntKind.i64.wrap ((o312.1.length : Int) - (1 : Int))))) (cond (decide ((IntKind.i64.wrap ((o312.1.length : Int) - (1 : Int))) ≤ (o312.1.length : Int))) (cond (decide ((1 : Int) ≤ ((IntKind.i64.wrap ((o312.1.length : Int) - (1 : Int))).toNat : Int))) (some (o312.2.2.2.2.2.2.2.2.2.2.2.2.2.2.2.2.2.2.2.2.1, o312.2.2.2.2.2.2.2.2.2.2.2.2.2.2.2.2.2.2.2.2.2.1, o312.2.2.2.2.2.2.2.2.2.2.2.2.2.2.2.2.2.2.2.2.2.2.1, strOf ((o312.1.take (IntKind.i64.wrap ((o312.1.length : Int) - (1 : Int))).toNat).drop 1), ([] : List Int), o312.2.1)) none) none) none) (some (o312.2.2.2.2.2.2.2.2.2.2.2.2.2.2.2.2.2.2.2.2.1, o312.2.2.2.2.2.2.2.2.2.2.2.2.2.2.2.2.2.2.2.2.2.1, o312.2.2.2.2.2.2.2.2.2.2.2.2.2.2.2.2.2.2.2.2.2.2.1, o312.2.2.2.2.2.2.2.2.2.2.2.2.2.2.2.2.2.2.2.2.2.2.2, o312.1, o312.2.1))) := by
  unfold aL fG
  have e7 : aO n 50 0 0 0 0 1 1 4 = some 7 := by unfold aO eG; rfl
  rw [uS n hn, h1]
  simp only [Option.bind_some]
  rw [show ((50 : Int) == 0) = false by decide, cond_false, e7]
  simp only [Option.bind_some, uh, h2, uS n hn, h3, h4]
theorem O3 {b : List Int} {bad : Bool} (h : (mK b bad).2.2.2.2.2.2.2.2 = true) : ∃ v2 d1 d2 d3 d4 d5 d6 r3, mK b bad = (v2, d1, d2, d3, d4, d5, d6, r3, true) := by
  generalize mK b bad = o at h
  obtain ⟨a0, a1, a2, a3, a4, a5, a6, a7, a8⟩ := o
  simp only at h
  subst h
  exact ⟨a0, a1, a2, a3, a4, a5, a6, a7, rfl⟩
theorem DC (n : Nat) (hn : 20 ≤ n) {b r r2 r3 r4 : List Int} {x : List Int} {bad2 bad3 : Bool} {v2 d1 d2 d3 d4 d5 d6 : Int} {z0 : List (List AV)} {z1 z2 : List Int} {z3 : Str}
    (h1 : mK b false = (50, 0, 0, 0, 0, 1, 1, r, false)) (h2 : cB 7 r false = (x, r2, bad2)) (h3 : mK r2 bad2 = (v2, d1, d2, d3, d4, d5, d6, r3, bad3)) (h4 : aJ n v2 d1 d2 d3 d4 d5 d6 8 r3 bad3 = some (z0, z1, z2, z3, r4, true)) : ∃ x : Zo, aL n b false = some x ∧ x.2.2.2.2.2 = true := by
  rw [NU n hn h1 h2 h3 h4, KN]
  exact ⟨_, rfl, rfl⟩
def gB (t : List Int) : Bool := decide (t.length < 2) || t.getD 0 0 != 10 || t.getD (t.length - 1) 0 != 10
theorem NV (n : Nat) (hn : 20 ≤ n) {b r r2 r3 t : List Int} {x : List Int} {d1 d2 d3 d4 d5 d6 : Int} {z0 : List (List AV)} {z1 z2 : List Int} {z3 : Str} (ht : t.length ≤ 100000)
    (h1 : mK b false = (50, 0, 0, 0, 0, 1, 1, r, false)) (h2 : cB 7 r false = (x, r2, false)) (h3 : mK r2 false = (50, d1, d2, d3, d4, d5, d6, r3, false)) (h4 : aJ n 50 d1 d2 d3 d4 d5 d6 8 r3 false = some (z0, z1, z2, z3, t, false)) :
    aL n b false = some (if gB t then (z0, z1, z2, z3, t, true) else (z0, z1, z2, strOf ((t.take (t.length - 1)).drop 1), [], false)) := by
  rw [NU n hn h1 h2 h3 h4]
  have hj : eH n t false [] [] [] [] 50 0 0 0 0 1 1 50 d1 d2 d3 d4 d5 d6 z0 z1 z2 z3 = some (t, gB t, [], [], [], [], 50, 0, 0, 0, 0, 1, 1, 50, d1, d2, d3, d4, d5, d6, z0, z1, z2, z3) := by
    unfold eH jM gB
    rw [cond_false, show ((50 : Int) != 50) = false by decide, cond_false]
    by_cases c1 : t.length < 2
    · rw [aa (by omega), decide_eq_true c1]; rfl
    · rw [ah (by omega), decide_eq_false c1, qW (show 0 < t.length by omega), Option.bind_some]
      cases c2 : t.getD 0 0 != 10 with
      | true => rfl
      | false =>
        rw [cond_false, wi _ (by omega) (by omega), aa (by omega), show ((t.length : Int) - 1).toNat = t.length - 1 by omega, qW (show t.length - 1 < t.length by omega)]
        rfl
  rw [hj]
  simp only [Option.bind_some]
  cases hb : gB t with
  | true => rfl
  | false =>
    have c1 : ¬ t.length < 2 := by
      intro h
      simp [gB, h] at hb
    rw [wi _ (by omega) (by omega), aa (by omega), aa (by omega), show ((t.length : Int) - 1).toNat = t.length - 1 by omega, aa (by omega)]
    rfl
theorem Ka (n : Nat) (b : List Int) (h : ∃ x : Zo, aL n b false = some x ∧ x.2.2.2.2.2 = true) : bv n b = some ([], [], [], [], 60) := by
  obtain ⟨x, h1, h2⟩ := h
  unfold bv o9
  rw [h1]
  simp only [Option.bind_some, h2]
  rfl
theorem GQ (n : Nat) (hn : 4001 ≤ n) (b : List Int) (ts : List Ty) (ti ix : List Int) (foot : Str) (h : aL n b false = some (ts.map cT, ti, ix, foot, [], false)) (hR : dx ts ti ix foot = true) : bv n b = some (ts.map cT, ti, ix, foot, 0) := by
  unfold bv o9
  rw [h]
  simp only [Option.bind_some, cond_false, List.length_nil, Int.natCast_zero]
  rw [ah (by omega), xJ n hn, hR]
  rfl
def xM (ts : List Ty) (ti : List Int) : List Int := bJ [0, 0, 0, 0, 1, 1] ++ (List.replicate 7 0 ++ bJ [0, 0, 0, (ti.length : Int), (ts.length : Int), (bG ts : Int)])
theorem rJ (ts : List Ty) (ti ix : List Int) (foot : Str) : nM ts ti ix foot = xM ts ti ++ (jl ts ti ix ++ (10 :: (au foot ++ [10]))) := by
  simp [nM, xM, ik]
theorem rM (ts : List Ty) (ti : List Int) : (xM ts ti).length = 95 := by
  simp only [xM, List.length_append, rG, List.length_replicate, List.length_cons, List.length_nil]
theorem MH (ts : List Ty) (ti ix : List Int) (h : ti.length = ix.length) : (jl ts ti ix).length = ti.length * 9 + ts.length * 6 + bG ts := by
  simp only [jl, List.length_append, jN, p9, ik]; omega
theorem Qm (r : List Int) : mK (bJ [0, 0, 0, 0, 1, 1] ++ r) false = (50, 0, 0, 0, 0, 1, 1, r, false) := by
  rw [RP]
  exact Mx 50 0 0 0 0 1 1 (.inr (.inl rfl)) (by decide) r
theorem Vm (a b c : Nat) (ha : a ≤ 4000) (hb : b ≤ 255) (hc : c ≤ 256) (r : List Int) : mK (bJ [0, 0, 0, (a : Int), (b : Int), (c : Int)] ++ r) false = (50, 0, 0, 0, (a : Int), (b : Int), (c : Int), r, false) := by
  rw [RP]
  refine Mx 50 0 0 0 _ _ _ (.inr (.inl rfl)) (fun x hx => ?_) r
  simp only [List.mem_cons, List.not_mem_nil, or_false] at hx
  rcases hx with rfl | rfl | rfl | rfl | rfl | rfl <;> omega
theorem MI {ts : List Ty} {ti ix : List Int} {foot : Str} (hR : dx ts ti ix foot = true) : ∀ x ∈ ix, 0 ≤ x ∧ x ≤ 255 := by
  obtain ⟨h1, h2, h3, h4, h5, h6, h7, h8⟩ := eO hR
  intro x hx
  obtain ⟨k, hk, rfl⟩ := List.mem_iff_getElem.1 hx
  have h := List.all_eq_true.1 h7 k (by rw [List.mem_range'_1]; omega)
  simp only [IV, Bool.and_eq_true, decide_eq_true_eq] at h
  have e : ix.getD k 0 = ix[k] := by rw [List.getD_eq_getElem?_getD, List.getElem?_eq_getElem hk]; rfl
  rw [e] at h
  omega
theorem O4 (n : Nat) (hn : 4001 ≤ n) (ts : List Ty) (ti ix : List Int) (foot : Str) (hR : dx ts ti ix foot = true) (hti : ∀ x ∈ ti, -9223372036854775808 ≤ x ∧ x ≤ 9223372036854775807) (t : List Int) (ht : t.length ≤ 100000) :
    aL n (xM ts ti ++ (jl ts ti ix ++ t)) false = some (if gB t then (ts.map cT, ti, ix, [], t, true) else (ts.map cT, ti, ix, strOf ((t.take (t.length - 1)).drop 1), [], false)) := by
  obtain ⟨h1, h2, h3, h4, h5, h6, h7, h8⟩ := eO hR
  have e0 : xM ts ti ++ (jl ts ti ix ++ t) = bJ [0, 0, 0, 0, 1, 1] ++ (List.replicate 7 0 ++ (bJ [0, 0, 0, (ti.length : Int), (ts.length : Int), (bG ts : Int)] ++ (ti.flatMap (be 8) ++ (ix.flatMap (be 1) ++ (dW 0 ts ++ (ay ts ++ t)))))) := by
    simp [xM, jl]
  rw [e0]
  refine NV n (by omega) ht (Qm _) (il (List.replicate 7 0) _ false) (Vm _ _ _ h3 h2 h8 _) ?_
  exact MF n hn 50 ts ti ix t h1 h2 h3 h4 h6 h8 hti (MI hR)
theorem Tz (n : Nat) (hn : 4001 ≤ n) (ts : List Ty) (ti ix : List Int) (foot : Str) (hR : dx ts ti ix foot = true) (hti : ∀ x ∈ ti, -9223372036854775808 ≤ x ∧ x ≤ 9223372036854775807) : bv n (nM ts ti ix foot) = some (ts.map cT, ti, ix, foot, 0) := by
  have h5 := (eO hR).2.2.2.2.1
  have hf : foot.length ≤ 100 := by
    simp only [rQ, Bool.and_eq_true, decide_eq_true_eq] at h5
    omega
  refine GQ n hn _ ts ti ix foot ?_ hR
  have hl : (10 :: (au foot ++ [10])).length = foot.length + 2 := by simp [aM]
  have hb : gB (10 :: (au foot ++ [10])) = false := by
    unfold gB
    rw [decide_eq_false (by omega), hl]
    have e2 : (10 :: (au foot ++ [10])).getD (foot.length + 2 - 1) 0 = 10 := by
      rw [show foot.length + 2 - 1 = foot.length + 1 by omega, List.getD_cons_succ, List.getD_eq_getElem?_getD, List.getElem?_append_right (by rw [aM]; omega), aM]
      simp
    rw [e2]
    rfl
  rw [rJ, O4 n hn ts ti ix foot hR hti _ (by omega), hb]
  have e3 : ((10 :: (au foot ++ [10])).take ((10 :: (au foot ++ [10])).length - 1)).drop 1 = au foot := by
    rw [hl, show foot.length + 2 - 1 = foot.length + 1 by omega, List.take_succ_cons, List.drop_succ_cons, List.drop_zero, ← aM foot, List.take_left']
    rfl
  rw [e3, zP]
  rfl
theorem Q8 (n : Nat) (hn : 4001 ≤ n) (ts : List Ty) (ti ix : List Int) (foot : Str) (hR : dx ts ti ix foot = true) (hti : ∀ x ∈ ti, -9223372036854775808 ≤ x ∧ x ≤ 9223372036854775807) : bv n (nM ts ti ix foot ++ [0]) = some ([], [], [], [], 60) := by
  have h5 := (eO hR).2.2.2.2.1
  have hf : foot.length ≤ 100 := by
    simp only [rQ, Bool.and_eq_true, decide_eq_true_eq] at h5
    omega
  refine Ka n _ ?_
  have e : nM ts ti ix foot ++ [0] = xM ts ti ++ (jl ts ti ix ++ (10 :: (au foot ++ [10, 0]))) := by rw [rJ]; simp
  have hl : (10 :: (au foot ++ [10, 0])).length = foot.length + 3 := by simp [aM]
  have hb : gB (10 :: (au foot ++ [10, 0])) = true := by
    unfold gB
    have e2 : (10 :: (au foot ++ [10, 0])).getD (foot.length + 3 - 1) 0 = 0 := by
      rw [show foot.length + 3 - 1 = foot.length + 1 + 1 by omega, List.getD_cons_succ, List.getD_eq_getElem?_getD, List.getElem?_append_right (by rw [aM]; omega), aM, show foot.length + 1 - foot.length = 1 by omega]
      rfl
    rw [hl, e2]
    simp
  rw [e, O4 n hn ts ti ix foot hR hti _ (by omega), hb]
  exact ⟨_, rfl, rfl⟩
theorem Vn (foot : Str) (hf : foot.all (okC 32) = true) (j : Nat) (hj : j < foot.length + 2) : gB ((10 :: (au foot ++ [10])).take j) = true := by
  unfold gB
  by_cases h2 : j < 2
  · rw [decide_eq_true (by simp; omega)]; rfl
  · have hlen : ((10 :: (au foot ++ [10])).take j).length = j := by rw [List.length_take]; simp [aM]; omega
    obtain ⟨i, rfl⟩ : ∃ i, j = i + 2 := ⟨j - 2, by omega⟩
    have hi : i < foot.length := by omega
    have e2 : ((10 :: (au foot ++ [10])).take (i + 2)).getD (i + 2 - 1) 0 = (foot[i].toNat : Int) := by
      rw [show i + 2 - 1 = i + 1 by omega, List.getD_eq_getElem?_getD, List.getElem?_take, if_pos (by omega), List.getElem?_cons_succ, List.getElem?_append_left (by rw [aM]; omega), Qd, List.getElem?_eq_getElem hi]
      rfl
    have h3 := List.all_eq_true.1 hf foot[i] (List.getElem_mem hi)
    simp only [okC, Bool.and_eq_true, Bool.not_eq_true', decide_eq_false_iff_not] at h3
    rw [hlen, e2]
    have : ((foot[i].toNat : Int) != 10) = true := by simp; omega
    rw [this, Bool.or_true]
theorem TA (n : Nat) (hn : 4001 ≤ n) (ts : List Ty) (ti ix : List Int) (foot : Str) (hR : dx ts ti ix foot = true) (hti : ∀ x ∈ ti, -9223372036854775808 ≤ x ∧ x ≤ 9223372036854775807) (m : Nat) (hm : m < (nM ts ti ix foot).length) : bv n ((nM ts ti ix foot).take m) = some ([], [], [], [], 60) := by
  obtain ⟨h1, h2, h3, h4, h5, h6, h7, h8⟩ := eO hR
  have hf : foot.length ≤ 100 := by
    simp only [rQ, Bool.and_eq_true, decide_eq_true_eq] at h5
    omega
  have hf2 : foot.all (okC 32) = true := by
    simp only [rQ, Bool.and_eq_true] at h5
    exact h5.2
  have hs : 1 ≤ bG ts := by
    cases ts with
    | nil => simp at h1
    | cons t r => simp only [bG]; omega
  have hbl := MH ts ti ix h4
  have hal := rM ts ti
  have htl : (10 :: (au foot ++ [10])).length = foot.length + 2 := by simp [aM]
  have hpl : (nM ts ti ix foot).length = 95 + ((jl ts ti ix).length + (foot.length + 2)) := by rw [rJ, List.length_append, List.length_append, htl, hal]
  have l0 : (bJ [0, 0, 0, 0, 1, 1]).length = 44 := by rw [rG]; rfl
  have l1 : (bJ [0, 0, 0, (ti.length : Int), (ts.length : Int), (bG ts : Int)]).length = 44 := by rw [rG]; rfl
  refine Ka n _ ?_
  by_cases c1 : m < 44
  · exact MG n (by omega) _ (De (by rw [List.length_take]; omega))
  have e1 : (nM ts ti ix foot).take m = bJ [0, 0, 0, 0, 1, 1] ++ ((List.replicate 7 0 ++ (bJ [0, 0, 0, (ti.length : Int), (ts.length : Int), (bG ts : Int)] ++ (jl ts ti ix ++ (10 :: (au foot ++ [10]))))).take (m - 44)) := by
    rw [show nM ts ti ix foot = bJ [0, 0, 0, 0, 1, 1] ++ (List.replicate 7 0 ++ (bJ [0, 0, 0, (ti.length : Int), (ts.length : Int), (bG ts : Int)] ++ (jl ts ti ix ++ (10 :: (au foot ++ [10]))))) by rw [rJ]; simp only [xM, List.append_assoc], List.take_append, l0, List.take_of_length_le (by omega)]
  by_cases c2 : m < 51
  · rw [e1]
    exact DC n (by omega) (Qm _) (GM (by rw [List.length_take]; omega)) (Prod.ext rfl (Prod.ext rfl (Prod.ext rfl (Prod.ext rfl (Prod.ext rfl (Prod.ext rfl (Prod.ext rfl (Prod.ext rfl (J7 [])))))))))  (xL n _ _ _ _ _ _ _ _ _)
  have e2 : (List.replicate 7 0 ++ (bJ [0, 0, 0, (ti.length : Int), (ts.length : Int), (bG ts : Int)] ++ (jl ts ti ix ++ (10 :: (au foot ++ [10]))))).take (m - 44) = List.replicate 7 0 ++ ((bJ [0, 0, 0, (ti.length : Int), (ts.length : Int), (bG ts : Int)] ++ (jl ts ti ix ++ (10 :: (au foot ++ [10])))).take (m - 51)) := by
    rw [List.take_append, List.length_replicate, List.take_of_length_le (by simp; omega), show m - 44 - 7 = m - 51 by omega]
  rw [e2] at e1
  by_cases c3 : m < 95
  · rw [e1]
    obtain ⟨v2, d1, d2, d3, d4, d5, d6, r3, hh⟩ := O3 (b := (bJ [0, 0, 0, (ti.length : Int), (ts.length : Int), (bG ts : Int)] ++ (jl ts ti ix ++ (10 :: (au foot ++ [10])))).take (m - 51)) (bad := false) (De (by rw [List.length_take]; omega))
    exact DC n (by omega) (Qm _) (il (List.replicate 7 0) _ false) hh (xL n _ _ _ _ _ _ _ _ _)
  have e3 : (bJ [0, 0, 0, (ti.length : Int), (ts.length : Int), (bG ts : Int)] ++ (jl ts ti ix ++ (10 :: (au foot ++ [10])))).take (m - 51) = bJ [0, 0, 0, (ti.length : Int), (ts.length : Int), (bG ts : Int)] ++ ((jl ts ti ix ++ (10 :: (au foot ++ [10]))).take (m - 95)) := by
    rw [List.take_append, l1, List.take_of_length_le (by omega), show m - 51 - 44 = m - 95 by omega]
  rw [e3] at e1
  by_cases c4 : m < 95 + (jl ts ti ix).length
  · rw [e1]
    refine DC n (by omega) (Qm _) (il (List.replicate 7 0) _ false) (Vm _ _ _ h3 h2 h8 _) (O1 n 50 _ _ _ h3 h2 h1 h8 hs _ ?_)
    rw [List.length_take]; omega
  have e4 : (jl ts ti ix ++ (10 :: (au foot ++ [10]))).take (m - 95) = jl ts ti ix ++ ((10 :: (au foot ++ [10])).take (m - 95 - (jl ts ti ix).length)) := by
    rw [List.take_append, List.take_of_length_le (by omega)]
  rw [e4] at e1
  have e5 : (nM ts ti ix foot).take m = xM ts ti ++ (jl ts ti ix ++ ((10 :: (au foot ++ [10])).take (m - 95 - (jl ts ti ix).length))) := by
    rw [e1]; simp [xM]
  rw [e5, O4 n hn ts ti ix foot hR hti _ (by rw [List.length_take]; omega), Vn foot hf2 _ (by omega)]
  exact ⟨_, rfl, rfl⟩
end Go.Proofs.YtcbgfjghebopoaaDoor.H
namespace Go.Proofs.YtcbgfjghebopoaaDoor.H
open Go.Sh Go.RowKit
set_option linter.unusedSimpArgs false
set_option linter.unusedVariables false
abbrev BY (l : List Int) : Prop := ∀ x ∈ l, 0 ≤ x ∧ x < 256
theorem BY.drop {l : List Int} (h : BY l) (k : Nat) : BY (l.drop k) := fun x hx => h x (List.mem_of_mem_drop hx)
theorem BY.take {l : List Int} (h : BY l) (k : Nat) : BY (l.take k) := fun x hx => h x (List.mem_of_mem_take hx)
theorem BY.right {l m : List Int} (h : BY (l ++ m)) : BY m := fun x hx => h x (by simp [hx])
theorem XP {l : List Int} (h : l.length = 1) : ∃ a, l = [a] := by
  match l, h with
  | [a], _ => exact ⟨a, rfl⟩
theorem XQ {l : List Int} (h : l.length = 4) : ∃ a b c d, l = [a, b, c, d] := by
  match l, h with
  | [a, b, c, d], _ => exact ⟨a, b, c, d, rfl⟩
theorem XR {l : List Int} (h : l.length = 8) : ∃ a b c d e f g i, l = [a, b, c, d, e, f, g, i] := by
  match l, h with
  | [a, b, c, d, e, f, g, i], _ => exact ⟨a, b, c, d, e, f, g, i, rfl⟩
theorem Q9 (v : Int) : be 1 v = [IntKind.u8.wrap (Int.fdiv v (2 ^ 0))] := by simp [be]
theorem fd0 (v : Int) : Int.fdiv v 1 = v := by rw [Int.fdiv_eq_ediv_of_nonneg _ (by decide), Int.ediv_one]
theorem fd1 (v : Int) : Int.fdiv v 256 = v / 256 := Int.fdiv_eq_ediv_of_nonneg _ (by decide)
theorem fd2 (v : Int) : Int.fdiv v 65536 = v / 65536 := Int.fdiv_eq_ediv_of_nonneg _ (by decide)
theorem fd3 (v : Int) : Int.fdiv v 16777216 = v / 16777216 := Int.fdiv_eq_ediv_of_nonneg _ (by decide)
theorem fd4 (v : Int) : Int.fdiv v 4294967296 = v / 4294967296 := Int.fdiv_eq_ediv_of_nonneg _ (by decide)
theorem fd5 (v : Int) : Int.fdiv v 1099511627776 = v / 1099511627776 := Int.fdiv_eq_ediv_of_nonneg _ (by decide)
theorem fd6 (v : Int) : Int.fdiv v 281474976710656 = v / 281474976710656 := Int.fdiv_eq_ediv_of_nonneg _ (by decide)
theorem fd7 (v : Int) : Int.fdiv v 72057594037927936 = v / 72057594037927936 := Int.fdiv_eq_ediv_of_nonneg _ (by decide)
theorem O5 {l : List Int} (h : l.length = 1) (hb : BY l) : ∃ v, (0 ≤ v ∧ v ≤ 255) ∧ l = be 1 v := by
  obtain ⟨a, rfl⟩ := XP h
  obtain ⟨a0, a1⟩ := hb a (by simp)
  refine ⟨a, ⟨a0, by omega⟩, ?_⟩
  simp only [be, Nat.mul_zero, Int.pow_zero, fd0, IntKind.wrap_u8]
  rw [show a % 256 = a by omega]
theorem RS {l : List Int} (h : l.length = 4) (hb : BY l) : ∃ v, (0 ≤ v ∧ v < 4294967296) ∧ l = be 4 v := by
  obtain ⟨a, b, c, d, rfl⟩ := XQ h
  obtain ⟨a0, a1⟩ := hb a (by simp)
  obtain ⟨b0, b1⟩ := hb b (by simp)
  obtain ⟨c0, c1⟩ := hb c (by simp)
  obtain ⟨d0, d1⟩ := hb d (by simp)
  refine ⟨a * 16777216 + b * 65536 + c * 256 + d, ⟨by omega, by omega⟩, ?_⟩
  simp only [be, Nat.reduceMul, Int.reducePow, Nat.mul_zero, Int.pow_zero, fd0, fd1, fd2, fd3, fd4, fd5, fd6, fd7, IntKind.wrap_u8, List.cons.injEq, and_true]
  refine ⟨by omega, by omega, by omega, by omega⟩
theorem TB (v : Int) : be 4 (v - 4294967296) = be 4 v := by
  simp only [be, Nat.reduceMul, Int.reducePow, Nat.mul_zero, Int.pow_zero, fd0, fd1, fd2, fd3, fd4, fd5, fd6, fd7, IntKind.wrap_u8, List.cons.injEq, and_true]
  refine ⟨by omega, by omega, by omega, by omega⟩
theorem Vo {l : List Int} (h : l.length = 4) (hb : BY l) : ∃ v, (-2147483648 ≤ v ∧ v ≤ 2147483647) ∧ l = be 4 v := by
  obtain ⟨v, hv, rfl⟩ := RS h hb
  by_cases c : v ≤ 2147483647
  · exact ⟨v, ⟨by omega, c⟩, rfl⟩
  · exact ⟨v - 4294967296, ⟨by omega, by omega⟩, (TB v).symm⟩
theorem TC (v : Int) : be 8 (v - 18446744073709551616) = be 8 v := by
  simp only [be, Nat.reduceMul, Int.reducePow, Nat.mul_zero, Int.pow_zero, fd0, fd1, fd2, fd3, fd4, fd5, fd6, fd7, IntKind.wrap_u8, List.cons.injEq, and_true]
  refine ⟨by omega, by omega, by omega, by omega, by omega, by omega, by omega, by omega⟩
theorem Xq {l : List Int} (h : l.length = 8) (hb : BY l) : ∃ v, (-9223372036854775808 ≤ v ∧ v ≤ 9223372036854775807) ∧ l = be 8 v := by
  obtain ⟨a, b, c, d, e, f, g, i, rfl⟩ := XR h
  obtain ⟨a0, a1⟩ := hb a (by simp)
  obtain ⟨b0, b1⟩ := hb b (by simp)
  obtain ⟨c0, c1⟩ := hb c (by simp)
  obtain ⟨d0, d1⟩ := hb d (by simp)
  obtain ⟨e0, e1⟩ := hb e (by simp)
  obtain ⟨f0, f1⟩ := hb f (by simp)
  obtain ⟨g0, g1⟩ := hb g (by simp)
  obtain ⟨i0, i1⟩ := hb i (by simp)
  have key : [a, b, c, d, e, f, g, i] = be 8 (a * 72057594037927936 + b * 281474976710656 + c * 1099511627776 + d * 4294967296 + e * 16777216 + f * 65536 + g * 256 + i) := by
    simp only [be, Nat.reduceMul, Int.reducePow, Nat.mul_zero, Int.pow_zero, fd0, fd1, fd2, fd3, fd4, fd5, fd6, fd7, IntKind.wrap_u8, List.cons.injEq, and_true]
    refine ⟨by omega, by omega, by omega, by omega, by omega, by omega, by omega, by omega⟩
  by_cases q : a * 72057594037927936 + b * 281474976710656 + c * 1099511627776 + d * 4294967296 + e * 16777216 + f * 65536 + g * 256 + i ≤ 9223372036854775807
  · exact ⟨_, ⟨by omega, q⟩, key⟩
  · exact ⟨_ - 18446744073709551616, ⟨by omega, by omega⟩, key.trans (TC _).symm⟩
theorem chunks {α : Type} (f : α → List Int) (k : Nat) (P : α → Prop) (hk : ∀ l : List Int, l.length = k → BY l → ∃ v, P v ∧ l = f v) : ∀ (T : Nat) (l : List Int), l.length = k * T → BY l → ∃ xs : List α, xs.length = T ∧ (∀ x ∈ xs, P x) ∧ l = xs.flatMap f
  | 0, l, hl, _ => ⟨[], rfl, by simp, by simpa using List.eq_nil_of_length_eq_zero (by simpa using hl)⟩
  | T + 1, l, hl, hb => by
    have e : k * (T + 1) = k * T + k := by rw [Nat.mul_add, Nat.mul_one]
    obtain ⟨v, hv, h1⟩ := hk (l.take k) (by rw [List.length_take]; omega) (hb.take k)
    obtain ⟨xs, h2, h3, h4⟩ := chunks f k P hk T (l.drop k) (by rw [List.length_drop]; omega) (hb.drop k)
    refine ⟨v :: xs, by simp [h2], fun x hx => ?_, ?_⟩
    · rcases List.mem_cons.1 hx with rfl | hx
      · exact hv
      · exact h3 x hx
    · rw [List.flatMap_cons, ← h1, ← h4, List.take_append_drop]
abbrev Kd := Int × Int × Int
def kb (k : Kd) : List Int := be 4 k.1 ++ (be 1 k.2.1 ++ be 1 k.2.2)
def kA (k : Kd) : List AV := [.int .i64 k.1, .int .i64 k.2.1, .int .i64 k.2.2]
def KOk (k : Kd) : Prop := (-2147483648 ≤ k.1 ∧ k.1 ≤ 2147483647) ∧ (0 ≤ k.2.1 ∧ k.2.1 ≤ 255) ∧ 0 ≤ k.2.2 ∧ k.2.2 ≤ 255
theorem O6 (k : Kd) : (kb k).length = 6 := by simp [kb, fH]
theorem XT {l : List Int} (h : l.length = 6) (hb : BY l) : ∃ k : Kd, KOk k ∧ l = kb k := by
  obtain ⟨a, ha, h1⟩ := Vo (l := l.take 4) (by rw [List.length_take]; omega) (hb.take 4)
  obtain ⟨b, hb1, h2⟩ := O5 (l := (l.drop 4).take 1) (by rw [List.length_take, List.length_drop]; omega) ((hb.drop 4).take 1)
  obtain ⟨c, hc, h3⟩ := O5 (l := (l.drop 4).drop 1) (by rw [List.length_drop, List.length_drop]; omega) ((hb.drop 4).drop 1)
  refine ⟨(a, b, c), ⟨ha, hb1, hc⟩, ?_⟩
  simp only [kb]
  rw [← h1, ← h2, ← h3, List.take_append_drop, List.take_append_drop]
theorem wo {α : Type} {f : α → List Int} {k : Nat} (hf : ∀ x, (f x).length = k) : ∀ (xs : List α), (xs.flatMap f).length = k * xs.length
  | [] => by simp
  | x :: xs => by rw [List.flatMap_cons, List.length_append, hf, wo hf xs, List.length_cons, Nat.mul_add]; omega
def upZ : List Int → Option (List Int)
  | [] => none
  | c :: r => if c = 0 then some [] else (upZ r).map (c :: ·)
theorem MJ : ∀ {l : List Int}, BY l → ∃ s : Str, l = au s
  | [], _ => ⟨[], rfl⟩
  | c :: l, h => by
    obtain ⟨s, rfl⟩ := MJ (l := l) fun x hx => h x (by simp [hx])
    obtain ⟨c0, c1⟩ := h c (by simp)
    refine ⟨UInt8.ofNat c.toNat :: s, ?_⟩
    rw [yE]
    congr 1
    rw [UInt8.toNat_ofNat_of_lt' (show c.toNat < 256 by omega)]
    omega
theorem Vp : ∀ (s : Str), (∀ p, upZ (au s) = some p → Lib.indexByte s 0 = (p.length : Int) ∧ (au s).take p.length = p) ∧ (upZ (au s) = none → Lib.indexByte s 0 = -1)
  | [] => ⟨fun p h => by simp [upZ, au] at h, fun _ => rfl⟩
  | c :: s => by
    obtain ⟨h1, h2⟩ := Vp s
    rw [yE]
    by_cases hc : c = 0
    · subst hc
      refine ⟨fun p h => ?_, fun h => ?_⟩
      · simp [upZ] at h
        subst h
        simp [Lib.indexByte]
      · simp [upZ] at h
    · have hz : ¬((c.toNat : Int) = 0) := fun h => hc (by
        apply UInt8.toNat_inj.1
        rw [show (0 : UInt8).toNat = 0 from rfl]; omega)
      have hb : (c == 0) = false := by simpa using hc
      cases hu : upZ (au s) with
      | none =>
        have := h2 hu
        refine ⟨fun p h => ?_, fun _ => ?_⟩
        · simp only [upZ, if_neg hz, hu, Option.map_none] at h
          cases h
        · simp [Lib.indexByte, hb, this]
      | some q =>
        obtain ⟨k1, k2⟩ := h1 q hu
        refine ⟨fun p h => ?_, fun h => ?_⟩
        · simp only [upZ, if_neg hz, hu, Option.map_some, Option.some.injEq] at h
          subst h
          have hne : ((q.length : Int) == -1) = false := by simp
          refine ⟨?_, by simp [k2]⟩
          simp only [Lib.indexByte, hb, k1, hne, List.length_cons]
          simp
        · simp only [upZ, if_neg hz, hu, Option.map_some] at h
          cases h
theorem Ww (n : Nat) {l : List Int} (hb : BY l) (hl : l.length ≤ 100000) : ∃ r, Gv n l [0] = some (match upZ l with | some p => (p, r, true) | none => (l, r, false)) := by
  obtain ⟨s, rfl⟩ := MJ hb
  have hI : MX (au s) [0] = Lib.indexByte s 0 := by
    unfold MX
    rw [JG, show Lib.bytesOf [0] = [0] from rfl, Lib.index_one]
  obtain ⟨h1, h2⟩ := Vp s
  unfold Gv EW
  rw [hI, KM, decide_eq_true (show (au s).length < 4294967281 by omega)]
  rw [show (true && IQ [0] && true && decide (([0] : List Int).length ≤ 9223372036854775807)) = true by decide, cond_true]
  cases hu : upZ (au s) with
  | none =>
    rw [h2 hu, ah (by omega)]
    exact ⟨_, rfl⟩
  | some p =>
    obtain ⟨k1, k2⟩ := h1 p hu
    rw [k1, aa (by omega), Int.toNat_natCast, k2]
    exact ⟨_, rfl⟩
def nameAt (nm : List Int) (at_ : Nat) : Option Str := (upZ (nm.drop at_)).map strOf
def mkT (nm : List Int) (k : Kd) : Option Ty := match nameAt nm k.2.2.toNat with
  | none => none
  | some s => if k.2.1 > 1 then none else some (k.1, k.2.1 == 1, s)
def Ep (nm : List Int) : List Kd → Option (List Ty)
  | [] => some []
  | k :: r => match mkT nm k with
    | none => none
    | some t => (Ep nm r).map (t :: ·)
end Go.Proofs.YtcbgfjghebopoaaDoor.H

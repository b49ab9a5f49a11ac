/- Texts of this session, joined and cut to what one statement needs, under short names. -/
import Derived.Test.YtcbgfjghebopoaaDoorK4
import Derived.Test.YtcbgfjghebopoaaDoorRows
import Derived.Shelf.Vars
import Derived.KernelRfl
import Derived.Handed
import Derived.HandedShaped
namespace Go.Proofs.YtcbgfjghebopoaaDoor.H
open Go.Sh Go.RowKit
set_option linter.unusedVariables false
set_option linter.unusedSimpArgs false
set_option maxHeartbeats 4000000
set_option maxRecDepth 100000
def iF (n : Nat) (x0 : List Int) (x1 x2 x7 x8 : Int) (R : Type) (A_ : (List Int) → Int → Int → Int → Int → Option R) (K : (Int) → Option R) : Option R := cond (decide (x8 < x2)) (cond (decide (0 ≤ (IntKind.i64.wrap (x1 + x8)))) ((x0[(IntKind.i64.wrap (x1 + x8)).toNat]?).bind fun e652 => (A_ x0 x1 x2 (IntKind.u64.wrap ((BitVec.ofInt 64 (IntKind.u64.wrap (x7 * 2 ^ 8)) ||| BitVec.ofInt 64 (IntKind.u64.wrap e652)).toNat : Int)) (IntKind.i64.wrap (x8 + (1 : Int))))) none) (K x7)
def fe (n : Nat) : Nat → (List Int) → Int → Int → Int → Int → Option ((Int))
  | 0, _, _, _, _, _ => none
  | m + 1, x0, x1, x2, x7, x8 => iF n x0 x1 x2 x7 x8 _ (fe n m) some
def vz : St → Option (((List Int) × Int × Int × Int × Int) × (Unit))
  | ⟨[(0, .ints false .u8 x0), (1, .int .i64 x1), (2, .int .i64 x2), (7, .int .u64 x7), (8, .int .i64 x8)], []⟩ => some ((x0, x1, x2, x7, x8), ())
  | _ => none
def EI (v : (List Int) × Int × Int × Int × Int) (w : Unit) : St := ⟨[(0, .ints false .u8 v.1), (1, .int .i64 v.2.1), (2, .int .i64 v.2.2.1), (7, .int .u64 v.2.2.2.1), (8, .int .i64 v.2.2.2.2)], []⟩
def EJ (v : (List Int) × Int × Int × Int × Int) (o : (Int)) (w : Unit) (R : Type) (K : AExit → St → Option R) : Option R := K (.exit 0) ⟨[(7, .int .u64 o)], []⟩
def vB (n : Nat) : Ex := xOf vz (fun v => fe n n v.1 v.2.1 v.2.2.1 v.2.2.2.1 v.2.2.2.2) EJ
theorem Cs (n : Nat) : Snd ⟨Tryd.prog, 0, 25⟩ (vB n) (Tryd.f65.body.getD .skip).a2.a2.a1.a2.a1 := aH (t := EI) (b := fun v R A K => iF n v.1 v.2.1 v.2.2.1 v.2.2.2.1 v.2.2.2.2 R (fun z0 z1 z2 z3 z4 => A (z0, z1, z2, z3, z4)) K) (f := fun m v => fe n m v.1 v.2.1 v.2.2.1 v.2.2.2.1 v.2.2.2.2) (m := (fun e => match e with | .exit 0 => ([7], none) | .normal => ([0, 1, 2, 7, 8], none) | _ => ([], none))) n .a (by intro s v w h; unfold vz at h; split at h <;> first | (cases h; rfl) | cases h) (fun _ _ _ _ => by kernel_rfl) (by intros; unfold iF; simp only [aS]) (fun _ => rfl) (fun _ _ => rfl) (fun _ => rfl) (fun _ _ _ _ _ _ => by kernel_rfl) (fun _ _ _ _ _ _ => by kernel_rfl) (by intro e n h; split at h <;> cases h) (by kernel_rfl) (by kernel_rfl) trivial
def mP (n : Nat) (a0 : List Int) (a1 a2 : Int) (R : Type) (K : Int → Option R) : Option R := (fe n n a0 a1 a2 (0 : Int) (0 : Int)).bind fun o653 => (K o653)
def aX (n : Nat) (a0 : List Int) (a1 a2 : Int) : Option (Int) := mP n a0 a1 a2 _ some
def yO : List AV → List AObj → Option ((List Int) × Int × Int)
  | [.ints false .u8 a0, .int .i64 a1, .int .i64 a2], [] => some (a0, a1, a2)
  | _, _ => none
def qb (n : Nat) : FSpec := iQ yO (fun v => aX n v.1 v.2.1 v.2.2) (fun o => .int .u64 o) (fun o => [])
theorem uz (n : Nat) : FSound Tryd.prog 65 (qb n) := aG (t := fun v => ⟨[(0, .ints false .u8 v.1), (1, .int .i64 v.2.1), (2, .int .i64 v.2.2)], []⟩) (b := fun v R K => mP n v.1 v.2.1 v.2.2 R K) (nt := 25) (n := some 0) (rs := [.tmp 6]) (.s .a (.s .a (.s (.s .a (.u (.p (aA ([0, 1, 2, 7, 8], none) (vB n))))) .a))) Tryd.func65 (by kernel_rfl) rfl rfl rfl (fun _ h => by injection h with h; exact h.symm) (by decide) (by kernel_rfl) (by intro s v w h; unfold yO at h; split at h <;> first | (cases h; exact ⟨Nat.le_of_ble_eq_true rfl, rfl, rfl⟩) | cases h) (fun _ _ _ => by kernel_rfl) (by intros; unfold mP; simp only [aS]) (fun _ => by kernel_rfl) (by kernel_rfl) (by kernel_rfl) (ai (aP [0, 1, 2, 7, 8] (Cs n)) trivial)
def fO (n : Nat) (x0 : List Int) (x1 h0_0 h0_1 h0_2 h0_3 h0_4 h0_5 h1_0 h1_1 h1_2 h1_3 h1_4 h1_5 : Int) (R : Type) (K : (Bool × Int × Int × Int × Int × Int × Int × Int × Int × Int × Int × Int × Int) → Option R) : Option R := cond (decide ((IntKind.i64.wrap ((x0.length : Int) - x1)) < (44 : Int))) (K (true, h0_0, h0_1, h0_2, h0_3, h0_4, h0_5, h1_0, h1_1, h1_2, h1_3, h1_4, h1_5)) (cond (decide (0 ≤ (IntKind.i64.wrap (x1 + (4 : Int))))) (cond (decide ((IntKind.i64.wrap (x1 + (4 : Int))) ≤ (x0.length : Int))) (cond (decide (0 ≤ x1)) (cond (decide (x1 ≤ ((IntKind.i64.wrap (x1 + (4 : Int))).toNat : Int))) (cond (!((strOf ((x0.take (IntKind.i64.wrap (x1 + (4 : Int))).toNat).drop x1.toNat)) == ([84, 90, 105, 102] : Str))) (K (true, h0_0, h0_1, h0_2, h0_3, h0_4, h0_5, h1_0, h1_1, h1_2, h1_3, h1_4, h1_5)) (cond (decide (0 ≤ (IntKind.i64.wrap (x1 + (4 : Int))))) ((x0[(IntKind.i64.wrap (x1 + (4 : Int))).toNat]?).bind fun e648 => (cond (e648 != (0 : Int)) (cond (decide (0 ≤ (IntKind.i64.wrap (x1 + (4 : Int))))) ((x0[(IntKind.i64.wrap (x1 + (4 : Int))).toNat]?).bind fun e649 => (cond (e649 != (50 : Int)) (cond (decide (0 ≤ (IntKind.i64.wrap (x1 + (4 : Int))))) ((x0[(IntKind.i64.wrap (x1 + (4 : Int))).toNat]?).bind fun e650 => (K (e650 != (51 : Int), h0_0, h0_1, h0_2, h0_3, h0_4, h0_5, h1_0, h1_1, h1_2, h1_3, h1_4, h1_5))) none) (K (false, h0_0, h0_1, h0_2, h0_3, h0_4, h0_5, h1_0, h1_1, h1_2, h1_3, h1_4, h1_5)))) none) (K (false, h0_0, h0_1, h0_2, h0_3, h0_4, h0_5, h1_0, h1_1, h1_2, h1_3, h1_4, h1_5)))) none)) none) none) none) none)
def gQ (n : Nat) (x0 : List Int) (x1 h0_0 h0_1 h0_2 h0_3 h0_4 h0_5 h1_0 h1_1 h1_2 h1_3 h1_4 h1_5 : Int) : Option ((Bool × Int × Int × Int × Int × Int × Int × Int × Int × Int × Int × Int × Int)) := fO n x0 x1 h0_0 h0_1 h0_2 h0_3 h0_4 h0_5 h1_0 h1_1 h1_2 h1_3 h1_4 h1_5 _ some
def ru : St → Option (((List Int) × Int × Int × Int × Int × Int × Int × Int × Int × Int × Int × Int × Int × Int) × (AV × AV))
  | ⟨[(0, .ints false .u8 x0), (1, .int .i64 x1), (4, p4), (7, p7)], [.cells 103 [.int .i64 h0_0, .int .i64 h0_1, .int .i64 h0_2, .int .i64 h0_3, .int .i64 h0_4, .int .i64 h0_5], .cells 103 [.int .i64 h1_0, .int .i64 h1_1, .int .i64 h1_2, .int .i64 h1_3, .int .i64 h1_4, .int .i64 h1_5]]⟩ => some ((x0, x1, h0_0, h0_1, h0_2, h0_3, h0_4, h0_5, h1_0, h1_1, h1_2, h1_3, h1_4, h1_5), (p4, p7))
  | _ => none
def BJ (v : (List Int) × Int × Int × Int × Int × Int × Int × Int × Int × Int × Int × Int × Int × Int) (w : AV × AV) : St := ⟨[(0, .ints false .u8 v.1), (1, .int .i64 v.2.1), (4, w.1), (7, w.2)], [.cells 103 [.int .i64 v.2.2.1, .int .i64 v.2.2.2.1, .int .i64 v.2.2.2.2.1, .int .i64 v.2.2.2.2.2.1, .int .i64 v.2.2.2.2.2.2.1, .int .i64 v.2.2.2.2.2.2.2.1], .cells 103 [.int .i64 v.2.2.2.2.2.2.2.2.1, .int .i64 v.2.2.2.2.2.2.2.2.2.1, .int .i64 v.2.2.2.2.2.2.2.2.2.2.1, .int .i64 v.2.2.2.2.2.2.2.2.2.2.2.1, .int .i64 v.2.2.2.2.2.2.2.2.2.2.2.2.1, .int .i64 v.2.2.2.2.2.2.2.2.2.2.2.2.2]]⟩
def BK (v : (List Int) × Int × Int × Int × Int × Int × Int × Int × Int × Int × Int × Int × Int × Int) (o : (Bool × Int × Int × Int × Int × Int × Int × Int × Int × Int × Int × Int × Int)) (w : AV × AV) (R : Type) (K : AExit → St → Option R) : Option R := K .normal ⟨[(0, .ints false .u8 v.1), (1, .int .i64 v.2.1), (4, w.1), (7, w.2), (46, .bool o.1)], [.cells 103 [.int .i64 o.2.1, .int .i64 o.2.2.1, .int .i64 o.2.2.2.1, .int .i64 o.2.2.2.2.1, .int .i64 o.2.2.2.2.2.1, .int .i64 o.2.2.2.2.2.2.1], .cells 103 [.int .i64 o.2.2.2.2.2.2.2.1, .int .i64 o.2.2.2.2.2.2.2.2.1, .int .i64 o.2.2.2.2.2.2.2.2.2.1, .int .i64 o.2.2.2.2.2.2.2.2.2.2.1, .int .i64 o.2.2.2.2.2.2.2.2.2.2.2.1, .int .i64 o.2.2.2.2.2.2.2.2.2.2.2.2]]⟩
def ry (n : Nat) : Ex := xOf ru (fun v => gQ n v.1 v.2.1 v.2.2.1 v.2.2.2.1 v.2.2.2.2.1 v.2.2.2.2.2.1 v.2.2.2.2.2.2.1 v.2.2.2.2.2.2.2.1 v.2.2.2.2.2.2.2.2.1 v.2.2.2.2.2.2.2.2.2.1 v.2.2.2.2.2.2.2.2.2.2.1 v.2.2.2.2.2.2.2.2.2.2.2.1 v.2.2.2.2.2.2.2.2.2.2.2.2.1 v.2.2.2.2.2.2.2.2.2.2.2.2.2) BK
def aZ (n : Nat) (x0 : List Int) (x1 x8 h0_0 h0_1 h0_2 h0_3 h0_4 h0_5 h1_0 h1_1 h1_2 h1_3 h1_4 h1_5 : Int) (R : Type) (A_ : (List Int) → Int → Int → Int → Int → Int → Int → Int → Int → Int → Int → Int → Int → Int → Int → Option R) (K : (Int × Int × Int × Int × Int × Int × Int × Int × Int × Int × Int × Int) → Option R) : Option R := cond (decide (x8 < (6 : Int))) ((aX n x0 (IntKind.i64.wrap ((IntKind.i64.wrap (x1 + (20 : Int))) + (IntKind.i64.wrap ((4 : Int) * x8)))) (4 : Int)).bind fun o654 => (cond (decide (0 ≤ x8)) (cond (Nat.beq x8.toNat 5) (A_ x0 x1 (IntKind.i64.wrap (x8 + (1 : Int))) h0_0 h0_1 h0_2 h0_3 h0_4 h0_5 h1_0 h1_1 h1_2 h1_3 h1_4 (IntKind.i64.wrap o654)) (cond (Nat.beq x8.toNat 4) (A_ x0 x1 (IntKind.i64.wrap (x8 + (1 : Int))) h0_0 h0_1 h0_2 h0_3 h0_4 h0_5 h1_0 h1_1 h1_2 h1_3 (IntKind.i64.wrap o654) h1_5) (cond (Nat.beq x8.toNat 3) (A_ x0 x1 (IntKind.i64.wrap (x8 + (1 : Int))) h0_0 h0_1 h0_2 h0_3 h0_4 h0_5 h1_0 h1_1 h1_2 (IntKind.i64.wrap o654) h1_4 h1_5) (cond (Nat.beq x8.toNat 2) (A_ x0 x1 (IntKind.i64.wrap (x8 + (1 : Int))) h0_0 h0_1 h0_2 h0_3 h0_4 h0_5 h1_0 h1_1 (IntKind.i64.wrap o654) h1_3 h1_4 h1_5) (cond (Nat.beq x8.toNat 1) (A_ x0 x1 (IntKind.i64.wrap (x8 + (1 : Int))) h0_0 h0_1 h0_2 h0_3 h0_4 h0_5 h1_0 (IntKind.i64.wrap o654) h1_2 h1_3 h1_4 h1_5) (cond (Nat.beq x8.toNat 0) (A_ x0 x1 (IntKind.i64.wrap (x8 + (1 : Int))) h0_0 h0_1 h0_2 h0_3 h0_4 h0_5 (IntKind.i64.wrap o654) h1_1 h1_2 h1_3 h1_4 h1_5) (none))))))) none)) (K (h0_0, h0_1, h0_2, h0_3, h0_4, h0_5, h1_0, h1_1, h1_2, h1_3, h1_4, h1_5))
def aj (n : Nat) : Nat → (List Int) → Int → Int → Int → Int → Int → Int → Int → Int → Int → Int → Int → Int → Int → Int → Option ((Int × Int × Int × Int × Int × Int × Int × Int × Int × Int × Int × Int))
  | 0, _, _, _, _, _, _, _, _, _, _, _, _, _, _, _ => none
  | m + 1, x0, x1, x8, h0_0, h0_1, h0_2, h0_3, h0_4, h0_5, h1_0, h1_1, h1_2, h1_3, h1_4, h1_5 => aZ n x0 x1 x8 h0_0 h0_1 h0_2 h0_3 h0_4 h0_5 h1_0 h1_1 h1_2 h1_3 h1_4 h1_5 _ (aj n m) some
def rz : St → Option (((List Int) × Int × Int × Int × Int × Int × Int × Int × Int × Int × Int × Int × Int × Int × Int) × (AV))
  | ⟨[(0, .ints false .u8 x0), (1, .int .i64 x1), (4, p4), (7, .ptr (some (1, 0))), (8, .int .i64 x8)], [.cells 103 [.int .i64 h0_0, .int .i64 h0_1, .int .i64 h0_2, .int .i64 h0_3, .int .i64 h0_4, .int .i64 h0_5], .cells 103 [.int .i64 h1_0, .int .i64 h1_1, .int .i64 h1_2, .int .i64 h1_3, .int .i64 h1_4, .int .i64 h1_5]]⟩ => some ((x0, x1, x8, h0_0, h0_1, h0_2, h0_3, h0_4, h0_5, h1_0, h1_1, h1_2, h1_3, h1_4, h1_5), p4)
  | _ => none
def BL (v : (List Int) × Int × Int × Int × Int × Int × Int × Int × Int × Int × Int × Int × Int × Int × Int) (w : AV) : St := ⟨[(0, .ints false .u8 v.1), (1, .int .i64 v.2.1), (4, w), (7, .ptr (some (1, 0))), (8, .int .i64 v.2.2.1)], [.cells 103 [.int .i64 v.2.2.2.1, .int .i64 v.2.2.2.2.1, .int .i64 v.2.2.2.2.2.1, .int .i64 v.2.2.2.2.2.2.1, .int .i64 v.2.2.2.2.2.2.2.1, .int .i64 v.2.2.2.2.2.2.2.2.1], .cells 103 [.int .i64 v.2.2.2.2.2.2.2.2.2.1, .int .i64 v.2.2.2.2.2.2.2.2.2.2.1, .int .i64 v.2.2.2.2.2.2.2.2.2.2.2.1, .int .i64 v.2.2.2.2.2.2.2.2.2.2.2.2.1, .int .i64 v.2.2.2.2.2.2.2.2.2.2.2.2.2.1, .int .i64 v.2.2.2.2.2.2.2.2.2.2.2.2.2.2]]⟩
def BM (v : (List Int) × Int × Int × Int × Int × Int × Int × Int × Int × Int × Int × Int × Int × Int × Int) (o : (Int × Int × Int × Int × Int × Int × Int × Int × Int × Int × Int × Int)) (w : AV) (R : Type) (K : AExit → St → Option R) : Option R := K (.exit 0) ⟨[(0, .ints false .u8 v.1), (1, .int .i64 v.2.1), (4, w), (7, .ptr (some (1, 0)))], [.cells 103 [.int .i64 o.1, .int .i64 o.2.1, .int .i64 o.2.2.1, .int .i64 o.2.2.2.1, .int .i64 o.2.2.2.2.1, .int .i64 o.2.2.2.2.2.1], .cells 103 [.int .i64 o.2.2.2.2.2.2.1, .int .i64 o.2.2.2.2.2.2.2.1, .int .i64 o.2.2.2.2.2.2.2.2.1, .int .i64 o.2.2.2.2.2.2.2.2.2.1, .int .i64 o.2.2.2.2.2.2.2.2.2.2.1, .int .i64 o.2.2.2.2.2.2.2.2.2.2.2]]⟩
def rA (n : Nat) : Ex := xOf rz (fun v => aj n n v.1 v.2.1 v.2.2.1 v.2.2.2.1 v.2.2.2.2.1 v.2.2.2.2.2.1 v.2.2.2.2.2.2.1 v.2.2.2.2.2.2.2.1 v.2.2.2.2.2.2.2.2.1 v.2.2.2.2.2.2.2.2.2.1 v.2.2.2.2.2.2.2.2.2.2.1 v.2.2.2.2.2.2.2.2.2.2.2.1 v.2.2.2.2.2.2.2.2.2.2.2.2.1 v.2.2.2.2.2.2.2.2.2.2.2.2.2.1 v.2.2.2.2.2.2.2.2.2.2.2.2.2.2) BM
theorem zw (n : Nat) : Snd ⟨Tryd.prog, 0, 68⟩ (ry n) (Tryd.f50.body.getD .skip).a2.a2.a1.a1 := dA (t := BJ) (b := fun v R K => fO n v.1 v.2.1 v.2.2.1 v.2.2.2.1 v.2.2.2.2.1 v.2.2.2.2.2.1 v.2.2.2.2.2.2.1 v.2.2.2.2.2.2.2.1 v.2.2.2.2.2.2.2.2.1 v.2.2.2.2.2.2.2.2.2.1 v.2.2.2.2.2.2.2.2.2.2.1 v.2.2.2.2.2.2.2.2.2.2.2.1 v.2.2.2.2.2.2.2.2.2.2.2.2.1 v.2.2.2.2.2.2.2.2.2.2.2.2.2 R K) (m := (fun e => match e with | .normal => ([0, 1, 4, 7, 46], none) | _ => ([], none))) .a (by intro s v w h; unfold ru at h; split at h <;> first | (cases h; rfl) | cases h) (fun _ _ _ _ => by kernel_rfl) (by intros; unfold fO; simp only [aS]) (fun _ => by kernel_rfl) (by intro e n h; split at h <;> cases h) (by kernel_rfl) (by kernel_rfl) trivial
theorem zx (n : Nat) : Snd ⟨Tryd.prog, 0, 68⟩ (rA n) (Tryd.f50.body.getD .skip).a2.a2.a2.a1.a2.a1 := aH (t := BL) (b := fun v R A K => aZ n v.1 v.2.1 v.2.2.1 v.2.2.2.1 v.2.2.2.2.1 v.2.2.2.2.2.1 v.2.2.2.2.2.2.1 v.2.2.2.2.2.2.2.1 v.2.2.2.2.2.2.2.2.1 v.2.2.2.2.2.2.2.2.2.1 v.2.2.2.2.2.2.2.2.2.2.1 v.2.2.2.2.2.2.2.2.2.2.2.1 v.2.2.2.2.2.2.2.2.2.2.2.2.1 v.2.2.2.2.2.2.2.2.2.2.2.2.2.1 v.2.2.2.2.2.2.2.2.2.2.2.2.2.2 R (fun z0 z1 z2 z3 z4 z5 z6 z7 z8 z9 z10 z11 z12 z13 z14 => A (z0, z1, z2, z3, z4, z5, z6, z7, z8, z9, z10, z11, z12, z13, z14)) K) (f := fun m v => aj n m v.1 v.2.1 v.2.2.1 v.2.2.2.1 v.2.2.2.2.1 v.2.2.2.2.2.1 v.2.2.2.2.2.2.1 v.2.2.2.2.2.2.2.1 v.2.2.2.2.2.2.2.2.1 v.2.2.2.2.2.2.2.2.2.1 v.2.2.2.2.2.2.2.2.2.2.1 v.2.2.2.2.2.2.2.2.2.2.2.1 v.2.2.2.2.2.2.2.2.2.2.2.2.1 v.2.2.2.2.2.2.2.2.2.2.2.2.2.1 v.2.2.2.2.2.2.2.2.2.2.2.2.2.2) (m := (fun e => match e with | .exit 0 => ([0, 1, 4, 7], none) | .normal => ([0, 1, 4, 7, 8], none) | _ => ([], none))) n (.s .a (.s (.u (.r [(7, .cl 65 (qb n))])) .a)) (by intro s v w h; unfold rz at h; split at h <;> first | (cases h; rfl) | cases h) (fun _ _ _ _ => by kernel_rfl) (by intros; unfold aZ; simp only [aS]) (fun _ => rfl) (fun _ _ => rfl) (fun _ => rfl) (fun _ _ _ _ _ _ => by kernel_rfl) (fun _ _ _ _ _ _ => by kernel_rfl) (by intro e n h; split at h <;> cases h) (by kernel_rfl) (by kernel_rfl) (ai (uz n) trivial)
def iG (n : Nat) (a0 : List Int) (a1 : Int) (R : Type) (K : (Int × Int × Int × Int × Int × Int × Int × Bool) → Option R) : Option R := (gQ n a0 a1 (0 : Int) (0 : Int) (0 : Int) (0 : Int) (0 : Int) (0 : Int) (0 : Int) (0 : Int) (0 : Int) (0 : Int) (0 : Int) (0 : Int)).bind fun o651 => (cond o651.1 (K (o651.2.2.2.2.2.2.2.1, o651.2.2.2.2.2.2.2.2.1, o651.2.2.2.2.2.2.2.2.2.1, o651.2.2.2.2.2.2.2.2.2.2.1, o651.2.2.2.2.2.2.2.2.2.2.2.1, o651.2.2.2.2.2.2.2.2.2.2.2.2, (0 : Int), false)) ((aj n n a0 a1 (0 : Int) o651.2.1 o651.2.2.1 o651.2.2.2.1 o651.2.2.2.2.1 o651.2.2.2.2.2.1 o651.2.2.2.2.2.2.1 o651.2.2.2.2.2.2.2.1 o651.2.2.2.2.2.2.2.2.1 o651.2.2.2.2.2.2.2.2.2.1 o651.2.2.2.2.2.2.2.2.2.2.1 o651.2.2.2.2.2.2.2.2.2.2.2.1 o651.2.2.2.2.2.2.2.2.2.2.2.2).bind fun o656 => (cond (decide (0 ≤ (IntKind.i64.wrap (a1 + (4 : Int))))) ((a0[(IntKind.i64.wrap (a1 + (4 : Int))).toNat]?).bind fun e657 => (K (o656.2.2.2.2.2.2.1, o656.2.2.2.2.2.2.2.1, o656.2.2.2.2.2.2.2.2.1, o656.2.2.2.2.2.2.2.2.2.1, o656.2.2.2.2.2.2.2.2.2.2.1, o656.2.2.2.2.2.2.2.2.2.2.2, e657, true))) none)))
def aV (n : Nat) (a0 : List Int) (a1 : Int) : Option (Int × Int × Int × Int × Int × Int × Int × Bool) := iG n a0 a1 _ some
def vC : List AV → List AObj → Option ((List Int) × Int)
  | [.ints false .u8 a0, .int .i64 a1], [] => some (a0, a1)
  | _, _ => none
def ni (n : Nat) : FSpec := iQ vC (fun v => aV n v.1 v.2) (fun o => .tuple [.agg [.int .i64 o.1, .int .i64 o.2.1, .int .i64 o.2.2.1, .int .i64 o.2.2.2.1, .int .i64 o.2.2.2.2.1, .int .i64 o.2.2.2.2.2.1], .int .u8 o.2.2.2.2.2.2.1, .bool o.2.2.2.2.2.2.2]) (fun o => [])
theorem qy (n : Nat) : FSound Tryd.prog 50 (ni n) := aG (t := fun v => ⟨[(0, .ints false .u8 v.1), (1, .int .i64 v.2)], []⟩) (b := fun v R K => iG n v.1 v.2 R K) (nt := 68) (n := some 0) (rs := [.cell 4 103 6 true, .tmp 5, .tmp 6]) (.s .a (.s .a (.s (.s (.p (aA ([0, 1, 4, 7], none) (ry n))) .a) (.s (.s .a (.u (.p (aA ([0, 1, 4, 7, 8], none) (rA n))))) (.s (.d [] [(0, .part [1]), (5, .no), (6, .part [0])]) .a))))) Tryd.func50 (by kernel_rfl) rfl rfl rfl (fun _ h => by injection h with h; exact h.symm) (by decide) (by kernel_rfl) (by intro s v w h; unfold vC at h; split at h <;> first | (cases h; exact ⟨Nat.le_of_ble_eq_true rfl, rfl, rfl⟩) | cases h) (fun _ _ _ => by kernel_rfl) (by intros; unfold iG; simp only [aS]) (fun _ => by kernel_rfl) (by kernel_rfl) (by kernel_rfl) (ai (aP [0, 1, 4, 7] (zw n)) (ai (aP [0, 1, 4, 7, 8] (zx n)) trivial))
def lZ (n : Nat) (a0 a1 a2 a3 a4 a5 a6 : Int) (R : Type) (K : Int → Option R) : Option R := K (IntKind.i64.wrap ((IntKind.i64.wrap ((IntKind.i64.wrap ((IntKind.i64.wrap ((IntKind.i64.wrap ((IntKind.i64.wrap (a3 * (IntKind.i64.wrap (a6 + (1 : Int))))) + (IntKind.i64.wrap (a4 * (6 : Int))))) + a5)) + (IntKind.i64.wrap (a2 * (IntKind.i64.wrap (a6 + (4 : Int))))))) + a1)) + a0))
def bn (n : Nat) (a0 a1 a2 a3 a4 a5 a6 : Int) : Option (Int) := lZ n a0 a1 a2 a3 a4 a5 a6 _ some
def xu : List AV → List AObj → Option (Int × Int × Int × Int × Int × Int × Int)
  | [.agg [.int .i64 a0, .int .i64 a1, .int .i64 a2, .int .i64 a3, .int .i64 a4, .int .i64 a5], .int .i64 a6], [] => some (a0, a1, a2, a3, a4, a5, a6)
  | _, _ => none
def lh (n : Nat) : FSpec := iQ xu (fun v => bn n v.1 v.2.1 v.2.2.1 v.2.2.2.1 v.2.2.2.2.1 v.2.2.2.2.2.1 v.2.2.2.2.2.2) (fun o => .int .i64 o) (fun o => [])
theorem mf (n : Nat) : FSound Tryd.prog 51 (lh n) := aG (t := fun v => ⟨[(0, .agg [.int .i64 v.1, .int .i64 v.2.1, .int .i64 v.2.2.1, .int .i64 v.2.2.2.1, .int .i64 v.2.2.2.2.1, .int .i64 v.2.2.2.2.2.1]), (1, .int .i64 v.2.2.2.2.2.2)], []⟩) (b := fun v R K => lZ n v.1 v.2.1 v.2.2.1 v.2.2.2.1 v.2.2.2.2.1 v.2.2.2.2.2.1 v.2.2.2.2.2.2 R K) (nt := 29) (n := some 0) (rs := [.tmp 4]) .a Tryd.func51 (by kernel_rfl) rfl rfl rfl (fun _ h => by injection h with h; exact h.symm) (by decide) (by kernel_rfl) (by intro s v w h; unfold xu at h; split at h <;> first | (cases h; exact ⟨Nat.le_of_ble_eq_true rfl, rfl, rfl⟩) | cases h) (fun _ _ _ => by kernel_rfl) (by intros; unfold lZ; simp only [aS]) (fun _ => by kernel_rfl) (by kernel_rfl) (by kernel_rfl) trivial
def iH (n : Nat) (a0 : List Int) (a1 a2 : Int) (R : Type) (K : Int → Option R) : Option R := (aX n a0 a1 a2).bind fun o687 => (cond (a2 == (4 : Int)) (cond (decide ((IntKind.i64.wrap o687) ≥ (2147483648 : Int))) (K (IntKind.i64.wrap ((IntKind.i64.wrap o687) - (4294967296 : Int)))) (K (IntKind.i64.wrap o687))) (K (IntKind.i64.wrap o687)))
def bF (n : Nat) (a0 : List Int) (a1 a2 : Int) : Option (Int) := iH n a0 a1 a2 _ some
def vD : List AV → List AObj → Option ((List Int) × Int × Int)
  | [.ints false .u8 a0, .int .i64 a1, .int .i64 a2], [] => some (a0, a1, a2)
  | _, _ => none
def nk (n : Nat) : FSpec := iQ vD (fun v => bF n v.1 v.2.1 v.2.2) (fun o => .int .i64 o) (fun o => [])
theorem qz (n : Nat) : FSound Tryd.prog 66 (nk n) := aG (t := fun v => ⟨[(0, .ints false .u8 v.1), (1, .int .i64 v.2.1), (2, .int .i64 v.2.2)], []⟩) (b := fun v R K => iH n v.1 v.2.1 v.2.2 R K) (nt := 22) (n := some 0) (rs := [.tmp 6]) (.s .a (.s (.r [(3, .cl 65 (qb n))]) .a)) Tryd.func66 (by kernel_rfl) rfl rfl rfl (fun _ h => by injection h with h; exact h.symm) (by decide) (by kernel_rfl) (by intro s v w h; unfold vD at h; split at h <;> first | (cases h; exact ⟨Nat.le_of_ble_eq_true rfl, rfl, rfl⟩) | cases h) (fun _ _ _ => by kernel_rfl) (by intros; unfold iH; simp only [aS]) (fun _ => by kernel_rfl) (by kernel_rfl) (by kernel_rfl) (ai (uz n) trivial)
def fu (n : Nat) (x0 : List Int) (x1 x6 : Int) (R : Type) (A_ : (List Int) → Int → Int → Option R) (K : ((Str) ⊕ (Unit)) → Option R) : Option R := cond (decide (x6 < (x0.length : Int))) (cond (decide (0 ≤ x6)) ((x0[x6.toNat]?).bind fun e698 => (cond (e698 == (0 : Int)) (cond (decide (0 ≤ x6)) (cond (decide (x6 ≤ (x0.length : Int))) (cond (decide (0 ≤ x1)) (cond (decide (x1 ≤ (x6.toNat : Int))) (K (Sum.inl (strOf ((x0.take x6.toNat).drop x1.toNat)))) none) none) none) none) (A_ x0 x1 (IntKind.i64.wrap (x6 + (1 : Int)))))) none) (K (Sum.inr ()))
def cu (n : Nat) : Nat → (List Int) → Int → Int → Option ((Str) ⊕ (Unit))
  | 0, _, _, _ => none
  | m + 1, x0, x1, x6 => fu n x0 x1 x6 _ (cu n m) some
def qA : St → Option (((List Int) × Int × Int) × (Unit))
  | ⟨[(0, .ints false .u8 x0), (1, .int .i64 x1), (6, .int .i64 x6)], []⟩ => some ((x0, x1, x6), ())
  | _ => none
def Ai (v : (List Int) × Int × Int) (w : Unit) : St := ⟨[(0, .ints false .u8 v.1), (1, .int .i64 v.2.1), (6, .int .i64 v.2.2)], []⟩
def Aj (v : (List Int) × Int × Int) (o : (Str) ⊕ (Unit)) (w : Unit) (R : Type) (K : AExit → St → Option R) : Option R := Sum.elim (fun (u0 : Str) => K .ret ⟨[(4, .str u0), (5, .bool true)], []⟩) (fun (v0 : (Unit)) => K (.exit 0) ⟨[], []⟩) o
def qB (n : Nat) : Ex := xOf qA (fun v => cu n n v.1 v.2.1 v.2.2) Aj
theorem yP (n : Nat) : Snd ⟨Tryd.prog, 0, 24⟩ (qB n) (Tryd.f67.body.getD .skip).a2.a1.a2.a1 := aH (t := Ai) (b := fun v R A K => fu n v.1 v.2.1 v.2.2 R (fun z0 z1 z2 => A (z0, z1, z2)) K) (f := fun m v => cu n m v.1 v.2.1 v.2.2) (m := (fun e => match e with | .ret => ([4, 5], none) | .exit 0 => ([], none) | .normal => ([0, 1, 6], none) | _ => ([], none))) n .a (by intro s v w h; unfold qA at h; split at h <;> first | (cases h; rfl) | cases h) (fun _ _ _ _ => by kernel_rfl) (by intros; unfold fu; simp only [aS]) (fun _ => rfl) (fun _ _ => rfl) (fun _ => rfl) (fun _ _ _ _ _ _ => by kernel_rfl) (fun _ _ _ _ _ _ => by kernel_rfl) (by intro e n h; split at h <;> cases h) (by kernel_rfl) (by kernel_rfl) trivial
def jY (n : Nat) (a0 : List Int) (a1 : Int) (R : Type) (K : (Str × Bool) → Option R) : Option R := (cu n n a0 a1 a1).bind fun o699 => (Sum.elim (fun o700 => K (o700, true)) (fun o701 => K (([] : Str), false)) o699)
def jZ (n : Nat) (a0 : List Int) (a1 : Int) : Option (Str × Bool) := jY n a0 a1 _ some
def uA : List AV → List AObj → Option ((List Int) × Int)
  | [.ints false .u8 a0, .int .i64 a1], [] => some (a0, a1)
  | _, _ => none
def sJ (n : Nat) : FSpec := iQ uA (fun v => jZ n v.1 v.2) (fun o => .tuple [.str o.1, .bool o.2]) (fun o => [])
theorem zy (n : Nat) : FSound Tryd.prog 67 (sJ n) := aG (t := fun v => ⟨[(0, .ints false .u8 v.1), (1, .int .i64 v.2)], []⟩) (b := fun v R K => jY n v.1 v.2 R K) (nt := 24) (n := some 0) (rs := [.tmp 4, .tmp 5]) (.s .a (.s (.s .a (.u (.p (aA ([0, 1, 6], none) (qB n))))) .a)) Tryd.func67 (by kernel_rfl) rfl rfl rfl (fun _ h => by injection h with h; exact h.symm) (by decide) (by kernel_rfl) (by intro s v w h; unfold uA at h; split at h <;> first | (cases h; exact ⟨Nat.le_of_ble_eq_true rfl, rfl, rfl⟩) | cases h) (fun _ _ _ => by kernel_rfl) (by intros; unfold jY; simp only [aS]) (fun _ => by kernel_rfl) (by kernel_rfl) (by kernel_rfl) (ai (aP [0, 1, 6] (yP n)) trivial)
def jE (n : Nat) (x0 : List Int) (x2 h0_0 h0_1 h0_2 h0_3 h0_4 h0_5 : Int) (h1_0 : List (List AV)) (h1_1 h1_2 : List Int) (h1_3 : Str) (h2_0 : List (List AV)) (h2_1 h2_2 : List Int) (h2_3 : Str) (R : Type) (K : (Bool × Int × Int × Int × Int × Int × Int × (List (List AV)) × (List Int) × (List Int) × Str × (List (List AV)) × (List Int) × (List Int) × Str) → Option R) : Option R := cond (decide (h0_4 < (1 : Int))) (K (true, h0_0, h0_1, h0_2, h0_3, h0_4, h0_5, h1_0, h1_1, h1_2, h1_3, h2_0, h2_1, h2_2, h2_3)) (cond (decide (h0_4 > (255 : Int))) (K (true, h0_0, h0_1, h0_2, h0_3, h0_4, h0_5, h1_0, h1_1, h1_2, h1_3, h2_0, h2_1, h2_2, h2_3)) (cond (decide (h0_3 > (4000 : Int))) (K (true, h0_0, h0_1, h0_2, h0_3, h0_4, h0_5, h1_0, h1_1, h1_2, h1_3, h2_0, h2_1, h2_2, h2_3)) (cond (decide (h0_5 < (1 : Int))) (K (true, h0_0, h0_1, h0_2, h0_3, h0_4, h0_5, h1_0, h1_1, h1_2, h1_3, h2_0, h2_1, h2_2, h2_3)) (cond (decide (h0_5 > (4096 : Int))) (K (true, h0_0, h0_1, h0_2, h0_3, h0_4, h0_5, h1_0, h1_1, h1_2, h1_3, h2_0, h2_1, h2_2, h2_3)) (cond (decide (h0_2 > (1000 : Int))) (K (true, h0_0, h0_1, h0_2, h0_3, h0_4, h0_5, h1_0, h1_1, h1_2, h1_3, h2_0, h2_1, h2_2, h2_3)) (cond (h0_1 != (0 : Int)) (cond (h0_1 != h0_4) (K (true, h0_0, h0_1, h0_2, h0_3, h0_4, h0_5, h1_0, h1_1, h1_2, h1_3, h2_0, h2_1, h2_2, h2_3)) (cond (h0_0 != (0 : Int)) (cond (h0_0 != h0_4) (K (true, h0_0, h0_1, h0_2, h0_3, h0_4, h0_5, h1_0, h1_1, h1_2, h1_3, h2_0, h2_1, h2_2, h2_3)) ((bn n h0_0 h0_1 h0_2 h0_3 h0_4 h0_5 x2).bind fun o678 => (K (decide ((x0.length : Int) < o678), h0_0, h0_1, h0_2, h0_3, h0_4, h0_5, h1_0, h1_1, h1_2, h1_3, h2_0, h2_1, h2_2, h2_3)))) ((bn n h0_0 h0_1 h0_2 h0_3 h0_4 h0_5 x2).bind fun o679 => (K (decide ((x0.length : Int) < o679), h0_0, h0_1, h0_2, h0_3, h0_4, h0_5, h1_0, h1_1, h1_2, h1_3, h2_0, h2_1, h2_2, h2_3))))) (cond (h0_0 != (0 : Int)) (cond (h0_0 != h0_4) (K (true, h0_0, h0_1, h0_2, h0_3, h0_4, h0_5, h1_0, h1_1, h1_2, h1_3, h2_0, h2_1, h2_2, h2_3)) ((bn n h0_0 h0_1 h0_2 h0_3 h0_4 h0_5 x2).bind fun o683 => (K (decide ((x0.length : Int) < o683), h0_0, h0_1, h0_2, h0_3, h0_4, h0_5, h1_0, h1_1, h1_2, h1_3, h2_0, h2_1, h2_2, h2_3)))) ((bn n h0_0 h0_1 h0_2 h0_3 h0_4 h0_5 x2).bind fun o684 => (K (decide ((x0.length : Int) < o684), h0_0, h0_1, h0_2, h0_3, h0_4, h0_5, h1_0, h1_1, h1_2, h1_3, h2_0, h2_1, h2_2, h2_3))))))))))
def kD (n : Nat) (x0 : List Int) (x2 h0_0 h0_1 h0_2 h0_3 h0_4 h0_5 : Int) (h1_0 : List (List AV)) (h1_1 h1_2 : List Int) (h1_3 : Str) (h2_0 : List (List AV)) (h2_1 h2_2 : List Int) (h2_3 : Str) : Option ((Bool × Int × Int × Int × Int × Int × Int × (List (List AV)) × (List Int) × (List Int) × Str × (List (List AV)) × (List Int) × (List Int) × Str)) := jE n x0 x2 h0_0 h0_1 h0_2 h0_3 h0_4 h0_5 h1_0 h1_1 h1_2 h1_3 h2_0 h2_1 h2_2 h2_3 _ some
def sK : St → Option (((List Int) × Int × Int × Int × Int × Int × Int × Int × (List (List AV)) × (List Int) × (List Int) × Str × (List (List AV)) × (List Int) × (List Int) × Str) × (AV × AV))
  | ⟨[(0, .ints false .u8 x0), (2, .int .i64 x2), (4, .ptr (some (0, 0))), (6, p6), (8, p8)], [.cells 103 [.int .i64 h0_0, .int .i64 h0_1, .int .i64 h0_2, .int .i64 h0_3, .int .i64 h0_4, .int .i64 h0_5], .cells 35 [.sl true 3 h1_0, .ints true .i64 h1_1, .ints true .i64 h1_2, .str h1_3], .cells 35 [.sl true 3 h2_0, .ints true .i64 h2_1, .ints true .i64 h2_2, .str h2_3]]⟩ => some ((x0, x2, h0_0, h0_1, h0_2, h0_3, h0_4, h0_5, h1_0, h1_1, h1_2, h1_3, h2_0, h2_1, h2_2, h2_3), (p6, p8))
  | _ => none
def Ct (v : (List Int) × Int × Int × Int × Int × Int × Int × Int × (List (List AV)) × (List Int) × (List Int) × Str × (List (List AV)) × (List Int) × (List Int) × Str) (w : AV × AV) : St := ⟨[(0, .ints false .u8 v.1), (2, .int .i64 v.2.1), (4, .ptr (some (0, 0))), (6, w.1), (8, w.2)], [.cells 103 [.int .i64 v.2.2.1, .int .i64 v.2.2.2.1, .int .i64 v.2.2.2.2.1, .int .i64 v.2.2.2.2.2.1, .int .i64 v.2.2.2.2.2.2.1, .int .i64 v.2.2.2.2.2.2.2.1], .cells 35 [.sl true 3 v.2.2.2.2.2.2.2.2.1, .ints true .i64 v.2.2.2.2.2.2.2.2.2.1, .ints true .i64 v.2.2.2.2.2.2.2.2.2.2.1, .str v.2.2.2.2.2.2.2.2.2.2.2.1], .cells 35 [.sl true 3 v.2.2.2.2.2.2.2.2.2.2.2.2.1, .ints true .i64 v.2.2.2.2.2.2.2.2.2.2.2.2.2.1, .ints true .i64 v.2.2.2.2.2.2.2.2.2.2.2.2.2.2.1, .str v.2.2.2.2.2.2.2.2.2.2.2.2.2.2.2]]⟩
def Cu (v : (List Int) × Int × Int × Int × Int × Int × Int × Int × (List (List AV)) × (List Int) × (List Int) × Str × (List (List AV)) × (List Int) × (List Int) × Str) (o : (Bool × Int × Int × Int × Int × Int × Int × (List (List AV)) × (List Int) × (List Int) × Str × (List (List AV)) × (List Int) × (List Int) × Str)) (w : AV × AV) (R : Type) (K : AExit → St → Option R) : Option R := K .normal ⟨[(0, .ints false .u8 v.1), (2, .int .i64 v.2.1), (4, .ptr (some (0, 0))), (6, w.1), (8, w.2), (75, .bool o.1)], [.cells 103 [.int .i64 o.2.1, .int .i64 o.2.2.1, .int .i64 o.2.2.2.1, .int .i64 o.2.2.2.2.1, .int .i64 o.2.2.2.2.2.1, .int .i64 o.2.2.2.2.2.2.1], .cells 35 [.sl true 3 o.2.2.2.2.2.2.2.1, .ints true .i64 o.2.2.2.2.2.2.2.2.1, .ints true .i64 o.2.2.2.2.2.2.2.2.2.1, .str o.2.2.2.2.2.2.2.2.2.2.1], .cells 35 [.sl true 3 o.2.2.2.2.2.2.2.2.2.2.2.1, .ints true .i64 o.2.2.2.2.2.2.2.2.2.2.2.2.1, .ints true .i64 o.2.2.2.2.2.2.2.2.2.2.2.2.2.1, .str o.2.2.2.2.2.2.2.2.2.2.2.2.2.2]]⟩
def sM (n : Nat) : Ex := xOf sK (fun v => kD n v.1 v.2.1 v.2.2.1 v.2.2.2.1 v.2.2.2.2.1 v.2.2.2.2.2.1 v.2.2.2.2.2.2.1 v.2.2.2.2.2.2.2.1 v.2.2.2.2.2.2.2.2.1 v.2.2.2.2.2.2.2.2.2.1 v.2.2.2.2.2.2.2.2.2.2.1 v.2.2.2.2.2.2.2.2.2.2.2.1 v.2.2.2.2.2.2.2.2.2.2.2.2.1 v.2.2.2.2.2.2.2.2.2.2.2.2.2.1 v.2.2.2.2.2.2.2.2.2.2.2.2.2.2.1 v.2.2.2.2.2.2.2.2.2.2.2.2.2.2.2) Cu
def fZ (n : Nat) (x0 : List Int) (x2 x9 h0_0 h0_1 h0_2 h0_3 h0_4 h0_5 : Int) (h1_0 : List (List AV)) (h1_1 h1_2 : List Int) (h1_3 : Str) (h2_0 : List (List AV)) (h2_1 h2_2 : List Int) (h2_3 : Str) (R : Type) (A_ : (List Int) → Int → Int → Int → Int → Int → Int → Int → Int → (List (List AV)) → (List Int) → (List Int) → Str → (List (List AV)) → (List Int) → (List Int) → Str → Option R) (K : (Int × Int × Int × Int × Int × Int × (List (List AV)) × (List Int) × (List Int) × Str × (List (List AV)) × (List Int) × (List Int) × Str) → Option R) : Option R := cond (decide (x9 < h0_3)) ((bF n x0 (IntKind.i64.wrap (x2 * x9)) x2).bind fun o688 => (cond (decide ((h2_1.length + ([o688] : List Int).length) * 8 ≤ 140737488355328)) (cond (decide (0 ≤ (IntKind.i64.wrap ((IntKind.i64.wrap (x2 * h0_3)) + x9)))) ((x0[(IntKind.i64.wrap ((IntKind.i64.wrap (x2 * h0_3)) + x9)).toNat]?).bind fun e690 => (cond (decide ((h2_2.length + ([IntKind.i64.wrap e690] : List Int).length) * 8 ≤ 140737488355328)) (A_ x0 x2 (IntKind.i64.wrap (x9 + (1 : Int))) h0_0 h0_1 h0_2 h0_3 h0_4 h0_5 h1_0 h1_1 h1_2 h1_3 h2_0 (h2_1 ++ ([o688] : List Int)) (h2_2 ++ ([IntKind.i64.wrap e690] : List Int)) h2_3) none)) none) none)) (K (h0_0, h0_1, h0_2, h0_3, h0_4, h0_5, h1_0, h1_1, h1_2, h1_3, h2_0, h2_1, h2_2, h2_3))
def dI (n : Nat) : Nat → (List Int) → Int → Int → Int → Int → Int → Int → Int → Int → (List (List AV)) → (List Int) → (List Int) → Str → (List (List AV)) → (List Int) → (List Int) → Str → Option ((Int × Int × Int × Int × Int × Int × (List (List AV)) × (List Int) × (List Int) × Str × (List (List AV)) × (List Int) × (List Int) × Str))
  | 0, _, _, _, _, _, _, _, _, _, _, _, _, _, _, _, _, _ => none
  | m + 1, x0, x2, x9, h0_0, h0_1, h0_2, h0_3, h0_4, h0_5, h1_0, h1_1, h1_2, h1_3, h2_0, h2_1, h2_2, h2_3 => fZ n x0 x2 x9 h0_0 h0_1 h0_2 h0_3 h0_4 h0_5 h1_0 h1_1 h1_2 h1_3 h2_0 h2_1 h2_2 h2_3 _ (dI n m) some
def sN : St → Option (((List Int) × Int × Int × Int × Int × Int × Int × Int × Int × (List (List AV)) × (List Int) × (List Int) × Str × (List (List AV)) × (List Int) × (List Int) × Str) × (AV))
  | ⟨[(0, .ints false .u8 x0), (2, .int .i64 x2), (4, .ptr (some (0, 0))), (6, p6), (8, .ptr (some (2, 0))), (9, .int .i64 x9)], [.cells 103 [.int .i64 h0_0, .int .i64 h0_1, .int .i64 h0_2, .int .i64 h0_3, .int .i64 h0_4, .int .i64 h0_5], .cells 35 [.sl true 3 h1_0, .ints true .i64 h1_1, .ints true .i64 h1_2, .str h1_3], .cells 35 [.sl true 3 h2_0, .ints true .i64 h2_1, .ints true .i64 h2_2, .str h2_3]]⟩ => some ((x0, x2, x9, h0_0, h0_1, h0_2, h0_3, h0_4, h0_5, h1_0, h1_1, h1_2, h1_3, h2_0, h2_1, h2_2, h2_3), p6)
  | _ => none
def Cv (v : (List Int) × Int × Int × Int × Int × Int × Int × Int × Int × (List (List AV)) × (List Int) × (List Int) × Str × (List (List AV)) × (List Int) × (List Int) × Str) (w : AV) : St := ⟨[(0, .ints false .u8 v.1), (2, .int .i64 v.2.1), (4, .ptr (some (0, 0))), (6, w), (8, .ptr (some (2, 0))), (9, .int .i64 v.2.2.1)], [.cells 103 [.int .i64 v.2.2.2.1, .int .i64 v.2.2.2.2.1, .int .i64 v.2.2.2.2.2.1, .int .i64 v.2.2.2.2.2.2.1, .int .i64 v.2.2.2.2.2.2.2.1, .int .i64 v.2.2.2.2.2.2.2.2.1], .cells 35 [.sl true 3 v.2.2.2.2.2.2.2.2.2.1, .ints true .i64 v.2.2.2.2.2.2.2.2.2.2.1, .ints true .i64 v.2.2.2.2.2.2.2.2.2.2.2.1, .str v.2.2.2.2.2.2.2.2.2.2.2.2.1], .cells 35 [.sl true 3 v.2.2.2.2.2.2.2.2.2.2.2.2.2.1, .ints true .i64 v.2.2.2.2.2.2.2.2.2.2.2.2.2.2.1, .ints true .i64 v.2.2.2.2.2.2.2.2.2.2.2.2.2.2.2.1, .str v.2.2.2.2.2.2.2.2.2.2.2.2.2.2.2.2]]⟩
def Cw (v : (List Int) × Int × Int × Int × Int × Int × Int × Int × Int × (List (List AV)) × (List Int) × (List Int) × Str × (List (List AV)) × (List Int) × (List Int) × Str) (o : (Int × Int × Int × Int × Int × Int × (List (List AV)) × (List Int) × (List Int) × Str × (List (List AV)) × (List Int) × (List Int) × Str)) (w : AV) (R : Type) (K : AExit → St → Option R) : Option R := K (.exit 0) ⟨[(0, .ints false .u8 v.1), (2, .int .i64 v.2.1), (4, .ptr (some (0, 0))), (6, w), (8, .ptr (some (2, 0)))], [.cells 103 [.int .i64 o.1, .int .i64 o.2.1, .int .i64 o.2.2.1, .int .i64 o.2.2.2.1, .int .i64 o.2.2.2.2.1, .int .i64 o.2.2.2.2.2.1], .cells 35 [.sl true 3 o.2.2.2.2.2.2.1, .ints true .i64 o.2.2.2.2.2.2.2.1, .ints true .i64 o.2.2.2.2.2.2.2.2.1, .str o.2.2.2.2.2.2.2.2.2.1], .cells 35 [.sl true 3 o.2.2.2.2.2.2.2.2.2.2.1, .ints true .i64 o.2.2.2.2.2.2.2.2.2.2.2.1, .ints true .i64 o.2.2.2.2.2.2.2.2.2.2.2.2.1, .str o.2.2.2.2.2.2.2.2.2.2.2.2.2]]⟩
def sO (n : Nat) : Ex := xOf sN (fun v => dI n n v.1 v.2.1 v.2.2.1 v.2.2.2.1 v.2.2.2.2.1 v.2.2.2.2.2.1 v.2.2.2.2.2.2.1 v.2.2.2.2.2.2.2.1 v.2.2.2.2.2.2.2.2.1 v.2.2.2.2.2.2.2.2.2.1 v.2.2.2.2.2.2.2.2.2.2.1 v.2.2.2.2.2.2.2.2.2.2.2.1 v.2.2.2.2.2.2.2.2.2.2.2.2.1 v.2.2.2.2.2.2.2.2.2.2.2.2.2.1 v.2.2.2.2.2.2.2.2.2.2.2.2.2.2.1 v.2.2.2.2.2.2.2.2.2.2.2.2.2.2.2.1 v.2.2.2.2.2.2.2.2.2.2.2.2.2.2.2.2) Cw
def jF (n : Nat) (x0 : List Int) (x13 : Int) (x15 : Bool) (h0_0 h0_1 h0_2 h0_3 h0_4 h0_5 : Int) (h1_0 : List (List AV)) (h1_1 h1_2 : List Int) (h1_3 : Str) (h2_0 : List (List AV)) (h2_1 h2_2 : List Int) (h2_3 : Str) (R : Type) (K : (Bool × Int × Int × Int × Int × Int × Int × (List (List AV)) × (List Int) × (List Int) × Str × (List (List AV)) × (List Int) × (List Int) × Str) → Option R) : Option R := cond (!x15) (K (true, h0_0, h0_1, h0_2, h0_3, h0_4, h0_5, h1_0, h1_1, h1_2, h1_3, h2_0, h2_1, h2_2, h2_3)) (cond (decide (0 ≤ (IntKind.i64.wrap (x13 + (4 : Int))))) ((x0[(IntKind.i64.wrap (x13 + (4 : Int))).toNat]?).bind fun e703 => (K (decide (e703 > (1 : Int)), h0_0, h0_1, h0_2, h0_3, h0_4, h0_5, h1_0, h1_1, h1_2, h1_3, h2_0, h2_1, h2_2, h2_3))) none)
def nQ (n : Nat) (x0 : List Int) (x13 : Int) (x15 : Bool) (h0_0 h0_1 h0_2 h0_3 h0_4 h0_5 : Int) (h1_0 : List (List AV)) (h1_1 h1_2 : List Int) (h1_3 : Str) (h2_0 : List (List AV)) (h2_1 h2_2 : List Int) (h2_3 : Str) : Option ((Bool × Int × Int × Int × Int × Int × Int × (List (List AV)) × (List Int) × (List Int) × Str × (List (List AV)) × (List Int) × (List Int) × Str)) := jF n x0 x13 x15 h0_0 h0_1 h0_2 h0_3 h0_4 h0_5 h1_0 h1_1 h1_2 h1_3 h2_0 h2_1 h2_2 h2_3 _ some
def sP : St → Option (((List Int) × Int × Bool × Int × Int × Int × Int × Int × Int × (List (List AV)) × (List Int) × (List Int) × Str × (List (List AV)) × (List Int) × (List Int) × Str) × (AV × AV × AV × AV × AV × AV × AV))
  | ⟨[(0, .ints false .u8 x0), (4, p4), (6, p6), (8, p8), (10, p10), (11, p11), (12, p12), (13, .int .i64 x13), (14, p14), (15, .bool x15)], [.cells 103 [.int .i64 h0_0, .int .i64 h0_1, .int .i64 h0_2, .int .i64 h0_3, .int .i64 h0_4, .int .i64 h0_5], .cells 35 [.sl true 3 h1_0, .ints true .i64 h1_1, .ints true .i64 h1_2, .str h1_3], .cells 35 [.sl true 3 h2_0, .ints true .i64 h2_1, .ints true .i64 h2_2, .str h2_3]]⟩ => some ((x0, x13, x15, h0_0, h0_1, h0_2, h0_3, h0_4, h0_5, h1_0, h1_1, h1_2, h1_3, h2_0, h2_1, h2_2, h2_3), (p4, p6, p8, p10, p11, p12, p14))
  | _ => none
def Cy (v : (List Int) × Int × Bool × Int × Int × Int × Int × Int × Int × (List (List AV)) × (List Int) × (List Int) × Str × (List (List AV)) × (List Int) × (List Int) × Str) (w : AV × AV × AV × AV × AV × AV × AV) : St := ⟨[(0, .ints false .u8 v.1), (4, w.1), (6, w.2.1), (8, w.2.2.1), (10, w.2.2.2.1), (11, w.2.2.2.2.1), (12, w.2.2.2.2.2.1), (13, .int .i64 v.2.1), (14, w.2.2.2.2.2.2), (15, .bool v.2.2.1)], [.cells 103 [.int .i64 v.2.2.2.1, .int .i64 v.2.2.2.2.1, .int .i64 v.2.2.2.2.2.1, .int .i64 v.2.2.2.2.2.2.1, .int .i64 v.2.2.2.2.2.2.2.1, .int .i64 v.2.2.2.2.2.2.2.2.1], .cells 35 [.sl true 3 v.2.2.2.2.2.2.2.2.2.1, .ints true .i64 v.2.2.2.2.2.2.2.2.2.2.1, .ints true .i64 v.2.2.2.2.2.2.2.2.2.2.2.1, .str v.2.2.2.2.2.2.2.2.2.2.2.2.1], .cells 35 [.sl true 3 v.2.2.2.2.2.2.2.2.2.2.2.2.2.1, .ints true .i64 v.2.2.2.2.2.2.2.2.2.2.2.2.2.2.1, .ints true .i64 v.2.2.2.2.2.2.2.2.2.2.2.2.2.2.2.1, .str v.2.2.2.2.2.2.2.2.2.2.2.2.2.2.2.2]]⟩
def Cz (v : (List Int) × Int × Bool × Int × Int × Int × Int × Int × Int × (List (List AV)) × (List Int) × (List Int) × Str × (List (List AV)) × (List Int) × (List Int) × Str) (o : (Bool × Int × Int × Int × Int × Int × Int × (List (List AV)) × (List Int) × (List Int) × Str × (List (List AV)) × (List Int) × (List Int) × Str)) (w : AV × AV × AV × AV × AV × AV × AV) (R : Type) (K : AExit → St → Option R) : Option R := K .normal ⟨[(0, .ints false .u8 v.1), (4, w.1), (6, w.2.1), (8, w.2.2.1), (10, w.2.2.2.1), (11, w.2.2.2.2.1), (12, w.2.2.2.2.2.1), (13, .int .i64 v.2.1), (14, w.2.2.2.2.2.2), (159, .bool o.1)], [.cells 103 [.int .i64 o.2.1, .int .i64 o.2.2.1, .int .i64 o.2.2.2.1, .int .i64 o.2.2.2.2.1, .int .i64 o.2.2.2.2.2.1, .int .i64 o.2.2.2.2.2.2.1], .cells 35 [.sl true 3 o.2.2.2.2.2.2.2.1, .ints true .i64 o.2.2.2.2.2.2.2.2.1, .ints true .i64 o.2.2.2.2.2.2.2.2.2.1, .str o.2.2.2.2.2.2.2.2.2.2.1], .cells 35 [.sl true 3 o.2.2.2.2.2.2.2.2.2.2.2.1, .ints true .i64 o.2.2.2.2.2.2.2.2.2.2.2.2.1, .ints true .i64 o.2.2.2.2.2.2.2.2.2.2.2.2.2.1, .str o.2.2.2.2.2.2.2.2.2.2.2.2.2.2]]⟩
def sQ (n : Nat) : Ex := xOf sP (fun v => nQ n v.1 v.2.1 v.2.2.1 v.2.2.2.1 v.2.2.2.2.1 v.2.2.2.2.2.1 v.2.2.2.2.2.2.1 v.2.2.2.2.2.2.2.1 v.2.2.2.2.2.2.2.2.1 v.2.2.2.2.2.2.2.2.2.1 v.2.2.2.2.2.2.2.2.2.2.1 v.2.2.2.2.2.2.2.2.2.2.2.1 v.2.2.2.2.2.2.2.2.2.2.2.2.1 v.2.2.2.2.2.2.2.2.2.2.2.2.2.1 v.2.2.2.2.2.2.2.2.2.2.2.2.2.2.1 v.2.2.2.2.2.2.2.2.2.2.2.2.2.2.2.1 v.2.2.2.2.2.2.2.2.2.2.2.2.2.2.2.2) Cz
def gm (n : Nat) (x0 : List Int) (x10 : Int) (x11 : List Int) (x12 h0_0 h0_1 h0_2 h0_3 h0_4 h0_5 : Int) (h1_0 : List (List AV)) (h1_1 h1_2 : List Int) (h1_3 : Str) (h2_0 : List (List AV)) (h2_1 h2_2 : List Int) (h2_3 : Str) (R : Type) (A_ : (List Int) → Int → (List Int) → Int → Int → Int → Int → Int → Int → Int → (List (List AV)) → (List Int) → (List Int) → Str → (List (List AV)) → (List Int) → (List Int) → Str → Option R) (K : ((Int × Int × Int × Int × Int × Int × (List (List AV)) × (List Int) × (List Int) × (List (List AV)) × (List Int) × (List Int) × Str) ⊕ (Int × Int × Int × Int × Int × Int × (List (List AV)) × (List Int) × (List Int) × Str × (List (List AV)) × (List Int) × (List Int) × Str)) → Option R) : Option R := cond (decide (x12 < h0_4)) (cond (decide (0 ≤ (IntKind.i64.wrap ((IntKind.i64.wrap (x10 + (IntKind.i64.wrap ((6 : Int) * x12)))) + (5 : Int))))) ((x0[(IntKind.i64.wrap ((IntKind.i64.wrap (x10 + (IntKind.i64.wrap ((6 : Int) * x12)))) + (5 : Int))).toNat]?).bind fun e697 => ((jZ n x11 (IntKind.i64.wrap e697)).bind fun o702 => ((nQ n x0 (IntKind.i64.wrap (x10 + (IntKind.i64.wrap ((6 : Int) * x12)))) o702.2 h0_0 h0_1 h0_2 h0_3 h0_4 h0_5 h1_0 h1_1 h1_2 h1_3 h2_0 h2_1 h2_2 h2_3).bind fun o704 => (cond o704.1 (K (Sum.inl (o704.2.1, o704.2.2.1, o704.2.2.2.1, o704.2.2.2.2.1, o704.2.2.2.2.2.1, o704.2.2.2.2.2.2.1, ([] : List (List AV)), ([] : List Int), ([] : List Int), o704.2.2.2.2.2.2.2.2.2.2.2.1, o704.2.2.2.2.2.2.2.2.2.2.2.2.1, o704.2.2.2.2.2.2.2.2.2.2.2.2.2.1, o704.2.2.2.2.2.2.2.2.2.2.2.2.2.2))) ((bF n x0 (IntKind.i64.wrap (x10 + (IntKind.i64.wrap ((6 : Int) * x12)))) (4 : Int)).bind fun o705 => (cond (decide (0 ≤ (IntKind.i64.wrap ((IntKind.i64.wrap (x10 + (IntKind.i64.wrap ((6 : Int) * x12)))) + (4 : Int))))) ((x0[(IntKind.i64.wrap ((IntKind.i64.wrap (x10 + (IntKind.i64.wrap ((6 : Int) * x12)))) + (4 : Int))).toNat]?).bind fun e706 => (cond (decide ((o704.2.2.2.2.2.2.2.2.2.2.2.1.length + ([[.int .i64 o705, .bool (e706 == (1 : Int)), .str o702.1]] : List (List AV)).length) * 32 ≤ 140737488355328)) (A_ x0 x10 x11 (IntKind.i64.wrap (x12 + (1 : Int))) o704.2.1 o704.2.2.1 o704.2.2.2.1 o704.2.2.2.2.1 o704.2.2.2.2.2.1 o704.2.2.2.2.2.2.1 o704.2.2.2.2.2.2.2.1 o704.2.2.2.2.2.2.2.2.1 o704.2.2.2.2.2.2.2.2.2.1 o704.2.2.2.2.2.2.2.2.2.2.1 (o704.2.2.2.2.2.2.2.2.2.2.2.1 ++ ([[.int .i64 o705, .bool (e706 == (1 : Int)), .str o702.1]] : List (List AV))) o704.2.2.2.2.2.2.2.2.2.2.2.2.1 o704.2.2.2.2.2.2.2.2.2.2.2.2.2.1 o704.2.2.2.2.2.2.2.2.2.2.2.2.2.2) none)) none)))))) none) (K (Sum.inr (h0_0, h0_1, h0_2, h0_3, h0_4, h0_5, h1_0, h1_1, h1_2, h1_3, h2_0, h2_1, h2_2, h2_3)))
def bY (n : Nat) : Nat → (List Int) → Int → (List Int) → Int → Int → Int → Int → Int → Int → Int → (List (List AV)) → (List Int) → (List Int) → Str → (List (List AV)) → (List Int) → (List Int) → Str → Option ((Int × Int × Int × Int × Int × Int × (List (List AV)) × (List Int) × (List Int) × (List (List AV)) × (List Int) × (List Int) × Str) ⊕ (Int × Int × Int × Int × Int × Int × (List (List AV)) × (List Int) × (List Int) × Str × (List (List AV)) × (List Int) × (List Int) × Str))
  | 0, _, _, _, _, _, _, _, _, _, _, _, _, _, _, _, _, _, _ => none
  | m + 1, x0, x10, x11, x12, h0_0, h0_1, h0_2, h0_3, h0_4, h0_5, h1_0, h1_1, h1_2, h1_3, h2_0, h2_1, h2_2, h2_3 => gm n x0 x10 x11 x12 h0_0 h0_1 h0_2 h0_3 h0_4 h0_5 h1_0 h1_1 h1_2 h1_3 h2_0 h2_1 h2_2 h2_3 _ (bY n m) some
def sS : St → Option (((List Int) × Int × (List Int) × Int × Int × Int × Int × Int × Int × Int × (List (List AV)) × (List Int) × (List Int) × Str × (List (List AV)) × (List Int) × (List Int) × Str) × (Unit))
  | ⟨[(0, .ints false .u8 x0), (4, .ptr (some (0, 0))), (6, .ptr (some (1, 0))), (8, .ptr (some (2, 0))), (10, .int .i64 x10), (11, .ints false .u8 x11), (12, .int .i64 x12)], [.cells 103 [.int .i64 h0_0, .int .i64 h0_1, .int .i64 h0_2, .int .i64 h0_3, .int .i64 h0_4, .int .i64 h0_5], .cells 35 [.sl true 3 h1_0, .ints true .i64 h1_1, .ints true .i64 h1_2, .str h1_3], .cells 35 [.sl true 3 h2_0, .ints true .i64 h2_1, .ints true .i64 h2_2, .str h2_3]]⟩ => some ((x0, x10, x11, x12, h0_0, h0_1, h0_2, h0_3, h0_4, h0_5, h1_0, h1_1, h1_2, h1_3, h2_0, h2_1, h2_2, h2_3), ())
  | _ => none
def CB (v : (List Int) × Int × (List Int) × Int × Int × Int × Int × Int × Int × Int × (List (List AV)) × (List Int) × (List Int) × Str × (List (List AV)) × (List Int) × (List Int) × Str) (w : Unit) : St := ⟨[(0, .ints false .u8 v.1), (4, .ptr (some (0, 0))), (6, .ptr (some (1, 0))), (8, .ptr (some (2, 0))), (10, .int .i64 v.2.1), (11, .ints false .u8 v.2.2.1), (12, .int .i64 v.2.2.2.1)], [.cells 103 [.int .i64 v.2.2.2.2.1, .int .i64 v.2.2.2.2.2.1, .int .i64 v.2.2.2.2.2.2.1, .int .i64 v.2.2.2.2.2.2.2.1, .int .i64 v.2.2.2.2.2.2.2.2.1, .int .i64 v.2.2.2.2.2.2.2.2.2.1], .cells 35 [.sl true 3 v.2.2.2.2.2.2.2.2.2.2.1, .ints true .i64 v.2.2.2.2.2.2.2.2.2.2.2.1, .ints true .i64 v.2.2.2.2.2.2.2.2.2.2.2.2.1, .str v.2.2.2.2.2.2.2.2.2.2.2.2.2.1], .cells 35 [.sl true 3 v.2.2.2.2.2.2.2.2.2.2.2.2.2.2.1, .ints true .i64 v.2.2.2.2.2.2.2.2.2.2.2.2.2.2.2.1, .ints true .i64 v.2.2.2.2.2.2.2.2.2.2.2.2.2.2.2.2.1, .str v.2.2.2.2.2.2.2.2.2.2.2.2.2.2.2.2.2]]⟩
def CE (v : (List Int) × Int × (List Int) × Int × Int × Int × Int × Int × Int × Int × (List (List AV)) × (List Int) × (List Int) × Str × (List (List AV)) × (List Int) × (List Int) × Str) (o : (Int × Int × Int × Int × Int × Int × (List (List AV)) × (List Int) × (List Int) × (List (List AV)) × (List Int) × (List Int) × Str) ⊕ (Int × Int × Int × Int × Int × Int × (List (List AV)) × (List Int) × (List Int) × Str × (List (List AV)) × (List Int) × (List Int) × Str)) (w : Unit) (R : Type) (K : AExit → St → Option R) : Option R := Sum.elim (fun (u0 : Int × Int × Int × Int × Int × Int × (List (List AV)) × (List Int) × (List Int) × (List (List AV)) × (List Int) × (List Int) × Str) => K .ret ⟨[(6, .ptr (some (1, 0))), (7, .bool false)], [.cells 103 [.int .i64 u0.1, .int .i64 u0.2.1, .int .i64 u0.2.2.1, .int .i64 u0.2.2.2.1, .int .i64 u0.2.2.2.2.1, .int .i64 u0.2.2.2.2.2.1], .cells 35 [.sl true 3 u0.2.2.2.2.2.2.1, .ints true .i64 u0.2.2.2.2.2.2.2.1, .ints true .i64 u0.2.2.2.2.2.2.2.2.1, .str ([] : Str)], .cells 35 [.sl true 3 u0.2.2.2.2.2.2.2.2.2.1, .ints true .i64 u0.2.2.2.2.2.2.2.2.2.2.1, .ints true .i64 u0.2.2.2.2.2.2.2.2.2.2.2.1, .str u0.2.2.2.2.2.2.2.2.2.2.2.2]]⟩) (fun (v0 : (Int × Int × Int × Int × Int × Int × (List (List AV)) × (List Int) × (List Int) × Str × (List (List AV)) × (List Int) × (List Int) × Str)) => K (.exit 2) ⟨[(6, .ptr (some (1, 0))), (8, .ptr (some (2, 0)))], [.cells 103 [.int .i64 v0.1, .int .i64 v0.2.1, .int .i64 v0.2.2.1, .int .i64 v0.2.2.2.1, .int .i64 v0.2.2.2.2.1, .int .i64 v0.2.2.2.2.2.1], .cells 35 [.sl true 3 v0.2.2.2.2.2.2.1, .ints true .i64 v0.2.2.2.2.2.2.2.1, .ints true .i64 v0.2.2.2.2.2.2.2.2.1, .str v0.2.2.2.2.2.2.2.2.2.1], .cells 35 [.sl true 3 v0.2.2.2.2.2.2.2.2.2.2.1, .ints true .i64 v0.2.2.2.2.2.2.2.2.2.2.2.1, .ints true .i64 v0.2.2.2.2.2.2.2.2.2.2.2.2.1, .str v0.2.2.2.2.2.2.2.2.2.2.2.2.2]]⟩) o
def sU (n : Nat) : Ex := xOf sS (fun v => bY n n v.1 v.2.1 v.2.2.1 v.2.2.2.1 v.2.2.2.2.1 v.2.2.2.2.2.1 v.2.2.2.2.2.2.1 v.2.2.2.2.2.2.2.1 v.2.2.2.2.2.2.2.2.1 v.2.2.2.2.2.2.2.2.2.1 v.2.2.2.2.2.2.2.2.2.2.1 v.2.2.2.2.2.2.2.2.2.2.2.1 v.2.2.2.2.2.2.2.2.2.2.2.2.1 v.2.2.2.2.2.2.2.2.2.2.2.2.2.1 v.2.2.2.2.2.2.2.2.2.2.2.2.2.2.1 v.2.2.2.2.2.2.2.2.2.2.2.2.2.2.2.1 v.2.2.2.2.2.2.2.2.2.2.2.2.2.2.2.2.1 v.2.2.2.2.2.2.2.2.2.2.2.2.2.2.2.2.2) CE
theorem Ak (n : Nat) : Snd ⟨Tryd.prog, 0, 180⟩ (sQ n) (Tryd.f52.body.getD .skip).a2.a2.a2.a2.a2.a2.a1.a2.a1.a1.a2.a1.a1.a2.a2.a1.a1 := dA (t := Cy) (b := fun v R K => jF n v.1 v.2.1 v.2.2.1 v.2.2.2.1 v.2.2.2.2.1 v.2.2.2.2.2.1 v.2.2.2.2.2.2.1 v.2.2.2.2.2.2.2.1 v.2.2.2.2.2.2.2.2.1 v.2.2.2.2.2.2.2.2.2.1 v.2.2.2.2.2.2.2.2.2.2.1 v.2.2.2.2.2.2.2.2.2.2.2.1 v.2.2.2.2.2.2.2.2.2.2.2.2.1 v.2.2.2.2.2.2.2.2.2.2.2.2.2.1 v.2.2.2.2.2.2.2.2.2.2.2.2.2.2.1 v.2.2.2.2.2.2.2.2.2.2.2.2.2.2.2.1 v.2.2.2.2.2.2.2.2.2.2.2.2.2.2.2.2 R K) (m := (fun e => match e with | .normal => ([0, 4, 6, 8, 10, 11, 12, 13, 14, 159], none) | _ => ([], none))) .a (by intro s v w h; unfold sP at h; split at h <;> first | (cases h; rfl) | cases h) (fun _ _ _ _ => by kernel_rfl) (by intros; unfold jF; simp only [aS]) (fun _ => by kernel_rfl) (by intro e n h; split at h <;> cases h) (by kernel_rfl) (by kernel_rfl) trivial
theorem Al (n : Nat) : Snd ⟨Tryd.prog, 0, 180⟩ (sM n) (Tryd.f52.body.getD .skip).a2.a2.a1.a1 := dA (t := Ct) (b := fun v R K => jE n v.1 v.2.1 v.2.2.1 v.2.2.2.1 v.2.2.2.2.1 v.2.2.2.2.2.1 v.2.2.2.2.2.2.1 v.2.2.2.2.2.2.2.1 v.2.2.2.2.2.2.2.2.1 v.2.2.2.2.2.2.2.2.2.1 v.2.2.2.2.2.2.2.2.2.2.1 v.2.2.2.2.2.2.2.2.2.2.2.1 v.2.2.2.2.2.2.2.2.2.2.2.2.1 v.2.2.2.2.2.2.2.2.2.2.2.2.2.1 v.2.2.2.2.2.2.2.2.2.2.2.2.2.2.1 v.2.2.2.2.2.2.2.2.2.2.2.2.2.2.2 R K) (m := (fun e => match e with | .normal => ([0, 2, 4, 6, 8, 75], none) | _ => ([], none))) (.r [(57, .cl 51 (lh n))]) (by intro s v w h; unfold sK at h; split at h <;> first | (cases h; rfl) | cases h) (fun _ _ _ _ => by kernel_rfl) (by intros; unfold jE; simp only [aS]) (fun _ => by kernel_rfl) (by intro e n h; split at h <;> cases h) (by kernel_rfl) (by kernel_rfl) (ai (mf n) trivial)
theorem Am (n : Nat) : Snd ⟨Tryd.prog, 0, 180⟩ (sO n) (Tryd.f52.body.getD .skip).a2.a2.a2.a1.a2.a1 := aH (t := Cv) (b := fun v R A K => fZ n v.1 v.2.1 v.2.2.1 v.2.2.2.1 v.2.2.2.2.1 v.2.2.2.2.2.1 v.2.2.2.2.2.2.1 v.2.2.2.2.2.2.2.1 v.2.2.2.2.2.2.2.2.1 v.2.2.2.2.2.2.2.2.2.1 v.2.2.2.2.2.2.2.2.2.2.1 v.2.2.2.2.2.2.2.2.2.2.2.1 v.2.2.2.2.2.2.2.2.2.2.2.2.1 v.2.2.2.2.2.2.2.2.2.2.2.2.2.1 v.2.2.2.2.2.2.2.2.2.2.2.2.2.2.1 v.2.2.2.2.2.2.2.2.2.2.2.2.2.2.2.1 v.2.2.2.2.2.2.2.2.2.2.2.2.2.2.2.2 R (fun z0 z1 z2 z3 z4 z5 z6 z7 z8 z9 z10 z11 z12 z13 z14 z15 z16 => A (z0, z1, z2, z3, z4, z5, z6, z7, z8, z9, z10, z11, z12, z13, z14, z15, z16)) K) (f := fun m v => dI n m v.1 v.2.1 v.2.2.1 v.2.2.2.1 v.2.2.2.2.1 v.2.2.2.2.2.1 v.2.2.2.2.2.2.1 v.2.2.2.2.2.2.2.1 v.2.2.2.2.2.2.2.2.1 v.2.2.2.2.2.2.2.2.2.1 v.2.2.2.2.2.2.2.2.2.2.1 v.2.2.2.2.2.2.2.2.2.2.2.1 v.2.2.2.2.2.2.2.2.2.2.2.2.1 v.2.2.2.2.2.2.2.2.2.2.2.2.2.1 v.2.2.2.2.2.2.2.2.2.2.2.2.2.2.1 v.2.2.2.2.2.2.2.2.2.2.2.2.2.2.2.1 v.2.2.2.2.2.2.2.2.2.2.2.2.2.2.2.2) (m := (fun e => match e with | .exit 0 => ([0, 2, 4, 6, 8], none) | .normal => ([0, 2, 4, 6, 8, 9], none) | _ => ([], none))) n (.s .a (.s (.u (.s (.d [(1, .lt), (7, .cl 66 (nk n)), (9, .tk [84]), (11, .tk [92])] [(0, .peek [2] [2]), (1, .part [2]), (7, .part []), (10, .peek [2] [2]), (11, .part [2])]) (.d [(1, .lt), (13, .tk [95]), (15, .tk [107])] [(0, .part [2]), (1, .part [2]), (4, .part [0]), (5, .part [0]), (10, .no), (14, .part [2]), (15, .part [2])]))) .a)) (by intro s v w h; unfold sN at h; split at h <;> first | (cases h; rfl) | cases h) (fun _ _ _ _ => by kernel_rfl) (by intros; unfold fZ; simp only [aS]) (fun _ => rfl) (fun _ _ => rfl) (fun _ => rfl) (fun _ _ _ _ _ _ => by kernel_rfl) (fun _ _ _ _ _ _ => by kernel_rfl) (by intro e n h; split at h <;> cases h) (by kernel_rfl) (by kernel_rfl) (ai (qz n) trivial)
theorem Ao (n : Nat) : Snd ⟨Tryd.prog, 0, 180⟩ (sU n) (Tryd.f52.body.getD .skip).a2.a2.a2.a2.a2.a2.a1.a2.a1 := aH (t := CB) (b := fun v R A K => gm n v.1 v.2.1 v.2.2.1 v.2.2.2.1 v.2.2.2.2.1 v.2.2.2.2.2.1 v.2.2.2.2.2.2.1 v.2.2.2.2.2.2.2.1 v.2.2.2.2.2.2.2.2.1 v.2.2.2.2.2.2.2.2.2.1 v.2.2.2.2.2.2.2.2.2.2.1 v.2.2.2.2.2.2.2.2.2.2.2.1 v.2.2.2.2.2.2.2.2.2.2.2.2.1 v.2.2.2.2.2.2.2.2.2.2.2.2.2.1 v.2.2.2.2.2.2.2.2.2.2.2.2.2.2.1 v.2.2.2.2.2.2.2.2.2.2.2.2.2.2.2.1 v.2.2.2.2.2.2.2.2.2.2.2.2.2.2.2.2.1 v.2.2.2.2.2.2.2.2.2.2.2.2.2.2.2.2.2 R (fun z0 z1 z2 z3 z4 z5 z6 z7 z8 z9 z10 z11 z12 z13 z14 z15 z16 z17 => A (z0, z1, z2, z3, z4, z5, z6, z7, z8, z9, z10, z11, z12, z13, z14, z15, z16, z17)) K) (f := fun m v => bY n m v.1 v.2.1 v.2.2.1 v.2.2.2.1 v.2.2.2.2.1 v.2.2.2.2.2.1 v.2.2.2.2.2.2.1 v.2.2.2.2.2.2.2.1 v.2.2.2.2.2.2.2.2.1 v.2.2.2.2.2.2.2.2.2.1 v.2.2.2.2.2.2.2.2.2.2.1 v.2.2.2.2.2.2.2.2.2.2.2.1 v.2.2.2.2.2.2.2.2.2.2.2.2.1 v.2.2.2.2.2.2.2.2.2.2.2.2.2.1 v.2.2.2.2.2.2.2.2.2.2.2.2.2.2.1 v.2.2.2.2.2.2.2.2.2.2.2.2.2.2.2.1 v.2.2.2.2.2.2.2.2.2.2.2.2.2.2.2.2.1 v.2.2.2.2.2.2.2.2.2.2.2.2.2.2.2.2.2) (m := (fun e => match e with | .ret => ([6, 7], none) | .exit 2 => ([6, 8], none) | .normal => ([0, 4, 6, 8, 10, 11, 12], none) | _ => ([], none))) n (.s .a (.s (.u (.s .a (.s (.r [(7, .cl 67 (sJ n)), (10, .tk [139])]) (.s (.s (.p (aA ([0, 4, 6, 8, 10, 11, 12, 13, 14, 15], none) (sQ n))) (.s (.s (.r [(1, .tk [160])]) .a) .a)) (.d [(1, .lt), (4, .cl 66 (nk n)), (14, .tk [162]), (16, .tk [175])] [(0, .peek [2] [2]), (1, .part [2]), (4, .part []), (9, .no), (15, .peek [2] [2]), (16, .part [2])]))))) .a)) (by intro s v w h; unfold sS at h; split at h <;> first | (cases h; rfl) | cases h) (fun _ _ _ _ => by kernel_rfl) (by intros; unfold gm; simp only [aS]) (fun _ => rfl) (fun _ _ => rfl) (fun _ => rfl) (fun _ _ _ _ _ _ => by kernel_rfl) (fun _ _ _ _ _ _ => by kernel_rfl) (by intro e n h; split at h <;> cases h) (by kernel_rfl) (by kernel_rfl) (ai (zy n) (ai (aP [0, 4, 6, 8, 10, 11, 12, 13, 14, 15] (Ak n)) (ai (qz n) trivial)))
def jh (n : Nat) (a0 : List Int) (a1 a2 a3 a4 a5 a6 a7 : Int) (R : Type) (K : ((List (List AV)) × (List Int) × (List Int) × Str × Bool) → Option R) : Option R := (kD n a0 a7 a1 a2 a3 a4 a5 a6 ([] : List (List AV)) ([] : List Int) ([] : List Int) ([] : Str) ([] : List (List AV)) ([] : List Int) ([] : List Int) ([] : Str)).bind fun o685 => (cond o685.1 (K (o685.2.2.2.2.2.2.2.2.2.2.2.1, o685.2.2.2.2.2.2.2.2.2.2.2.2.1, o685.2.2.2.2.2.2.2.2.2.2.2.2.2.1, o685.2.2.2.2.2.2.2.2.2.2.2.2.2.2, false)) ((dI n n a0 a7 (0 : Int) o685.2.1 o685.2.2.1 o685.2.2.2.1 o685.2.2.2.2.1 o685.2.2.2.2.2.1 o685.2.2.2.2.2.2.1 o685.2.2.2.2.2.2.2.1 o685.2.2.2.2.2.2.2.2.1 o685.2.2.2.2.2.2.2.2.2.1 o685.2.2.2.2.2.2.2.2.2.2.1 o685.2.2.2.2.2.2.2.2.2.2.2.1 o685.2.2.2.2.2.2.2.2.2.2.2.2.1 o685.2.2.2.2.2.2.2.2.2.2.2.2.2.1 o685.2.2.2.2.2.2.2.2.2.2.2.2.2.2).bind fun o691 => (cond (decide (0 ≤ (IntKind.i64.wrap ((IntKind.i64.wrap ((IntKind.i64.wrap ((IntKind.i64.wrap (a7 + (1 : Int))) * o691.2.2.2.1)) + (IntKind.i64.wrap ((6 : Int) * o691.2.2.2.2.1)))) + o691.2.2.2.2.2.1)))) (cond (decide ((IntKind.i64.wrap ((IntKind.i64.wrap ((IntKind.i64.wrap ((IntKind.i64.wrap (a7 + (1 : Int))) * o691.2.2.2.1)) + (IntKind.i64.wrap ((6 : Int) * o691.2.2.2.2.1)))) + o691.2.2.2.2.2.1)) ≤ (a0.length : Int))) (cond (decide (0 ≤ (IntKind.i64.wrap ((IntKind.i64.wrap ((IntKind.i64.wrap (a7 + (1 : Int))) * o691.2.2.2.1)) + (IntKind.i64.wrap ((6 : Int) * o691.2.2.2.2.1)))))) (cond (decide ((IntKind.i64.wrap ((IntKind.i64.wrap ((IntKind.i64.wrap (a7 + (1 : Int))) * o691.2.2.2.1)) + (IntKind.i64.wrap ((6 : Int) * o691.2.2.2.2.1)))) ≤ ((IntKind.i64.wrap ((IntKind.i64.wrap ((IntKind.i64.wrap ((IntKind.i64.wrap (a7 + (1 : Int))) * o691.2.2.2.1)) + (IntKind.i64.wrap ((6 : Int) * o691.2.2.2.2.1)))) + o691.2.2.2.2.2.1)).toNat : Int))) ((bY n n a0 (IntKind.i64.wrap ((IntKind.i64.wrap (a7 + (1 : Int))) * o691.2.2.2.1)) ((a0.take (IntKind.i64.wrap ((IntKind.i64.wrap ((IntKind.i64.wrap ((IntKind.i64.wrap (a7 + (1 : Int))) * o691.2.2.2.1)) + (IntKind.i64.wrap ((6 : Int) * o691.2.2.2.2.1)))) + o691.2.2.2.2.2.1)).toNat).drop (IntKind.i64.wrap ((IntKind.i64.wrap ((IntKind.i64.wrap (a7 + (1 : Int))) * o691.2.2.2.1)) + (IntKind.i64.wrap ((6 : Int) * o691.2.2.2.2.1)))).toNat) (0 : Int) o691.1 o691.2.1 o691.2.2.1 o691.2.2.2.1 o691.2.2.2.2.1 o691.2.2.2.2.2.1 o691.2.2.2.2.2.2.1 o691.2.2.2.2.2.2.2.1 o691.2.2.2.2.2.2.2.2.1 o691.2.2.2.2.2.2.2.2.2.1 o691.2.2.2.2.2.2.2.2.2.2.1 o691.2.2.2.2.2.2.2.2.2.2.2.1 o691.2.2.2.2.2.2.2.2.2.2.2.2.1 o691.2.2.2.2.2.2.2.2.2.2.2.2.2).bind fun o707 => (Sum.elim (fun o708 => K (o708.2.2.2.2.2.2.1, o708.2.2.2.2.2.2.2.1, o708.2.2.2.2.2.2.2.2.1, ([] : Str), false)) (fun o709 => (bM n o709.2.2.2.2.2.2.2.2.2.2.1 o709.2.2.2.2.2.2.2.2.2.2.2.1 o709.2.2.2.2.2.2.2.2.2.2.2.2.1 o709.2.2.2.2.2.2.2.2.2.2.2.2.2).bind fun o710 => (K (o709.2.2.2.2.2.2.2.2.2.2.1, o709.2.2.2.2.2.2.2.2.2.2.2.1, o709.2.2.2.2.2.2.2.2.2.2.2.2.1, o709.2.2.2.2.2.2.2.2.2.2.2.2.2, o710))) o707)) none) none) none) none)))
def aR (n : Nat) (a0 : List Int) (a1 a2 a3 a4 a5 a6 a7 : Int) : Option ((List (List AV)) × (List Int) × (List Int) × Str × Bool) := jh n a0 a1 a2 a3 a4 a5 a6 a7 _ some
def wE : List AV → List AObj → Option ((List Int) × Int × Int × Int × Int × Int × Int × Int)
  | [.ints false .u8 a0, .agg [.int .i64 a1, .int .i64 a2, .int .i64 a3, .int .i64 a4, .int .i64 a5, .int .i64 a6], .int .i64 a7], [] => some (a0, a1, a2, a3, a4, a5, a6, a7)
  | _, _ => none
def nR (n : Nat) : FSpec := iQ wE (fun v => aR n v.1 v.2.1 v.2.2.1 v.2.2.2.1 v.2.2.2.2.1 v.2.2.2.2.2.1 v.2.2.2.2.2.2.1 v.2.2.2.2.2.2.2) (fun o => .tuple [.agg [.sl false 3 o.1, .ints false .i64 o.2.1, .ints false .i64 o.2.2.1, .str o.2.2.2.1], .bool o.2.2.2.2]) (fun o => [])
theorem rC (n : Nat) : FSound Tryd.prog 52 (nR n) := aG (t := fun v => ⟨[(0, .ints false .u8 v.1), (1, .agg [.int .i64 v.2.1, .int .i64 v.2.2.1, .int .i64 v.2.2.2.1, .int .i64 v.2.2.2.2.1, .int .i64 v.2.2.2.2.2.1, .int .i64 v.2.2.2.2.2.2.1]), (2, .int .i64 v.2.2.2.2.2.2.2)], []⟩) (b := fun v R K => jh n v.1 v.2.1 v.2.2.1 v.2.2.2.1 v.2.2.2.2.1 v.2.2.2.2.2.1 v.2.2.2.2.2.2.1 v.2.2.2.2.2.2.2 R K) (nt := 180) (n := some 0) (rs := [.cell 6 35 4 true, .tmp 7]) (.s .a (.s .a (.s (.s (.p (aA ([0, 2, 4, 6, 8], none) (sM n))) .a) (.s (.s .a (.u (.p (aA ([0, 2, 4, 6, 8, 9], none) (sO n))))) (.s .a (.s .a (.s (.s .a (.u (.p (aA ([0, 4, 6, 8, 10, 11, 12], none) (sU n))))) (.s (.d [(2, .cl 14 (iy n))] [(0, .peek [2] [2]), (1, .peek [2] [2]), (2, .part []), (3, .part [1])]) .a)))))))) Tryd.func52 (by kernel_rfl) rfl rfl rfl (fun _ h => by injection h with h; exact h.symm) (by decide) (by kernel_rfl) (by intro s v w h; unfold wE at h; split at h <;> first | (cases h; exact ⟨Nat.le_of_ble_eq_true rfl, rfl, rfl⟩) | cases h) (fun _ _ _ => by kernel_rfl) (by intros; unfold jh; simp only [aS]) (fun _ => by kernel_rfl) (by kernel_rfl) (by kernel_rfl) (ai (aP [0, 2, 4, 6, 8] (Al n)) (ai (aP [0, 2, 4, 6, 8, 9] (Am n)) (ai (aP [0, 4, 6, 8, 10, 11, 12] (Ao n)) (ai (jc n) trivial))))
def dV (n : Nat) (x0 : List Int) (x5 x7 x9 : Int) (x10 : Bool) (R : Type) (K : (Bool) → Option R) : Option R := cond (!x10) (K true) (cond (x9 != x5) (K true) (K (decide ((x0.length : Int) < (IntKind.i64.wrap ((88 : Int) + x7))))))
def iI (n : Nat) (x0 : List Int) (x5 x7 x9 : Int) (x10 : Bool) : Option ((Bool)) := dV n x0 x5 x7 x9 x10 _ some
def sV : St → Option (((List Int) × Int × Int × Int × Bool) × (AV × AV × (List AObj)))
  | ⟨[(0, .ints false .u8 x0), (2, p2), (5, .int .u8 x5), (7, .int .i64 x7), (8, p8), (9, .int .u8 x9), (10, .bool x10)], H⟩ => some ((x0, x5, x7, x9, x10), (p2, p8, H))
  | _ => none
def CF (v : (List Int) × Int × Int × Int × Bool) (w : AV × AV × (List AObj)) : St := ⟨[(0, .ints false .u8 v.1), (2, w.1), (5, .int .u8 v.2.1), (7, .int .i64 v.2.2.1), (8, w.2.1), (9, .int .u8 v.2.2.2.1), (10, .bool v.2.2.2.2)], w.2.2⟩
def CG (v : (List Int) × Int × Int × Int × Bool) (o : (Bool)) (w : AV × AV × (List AObj)) (R : Type) (K : AExit → St → Option R) : Option R := K .normal ⟨[(0, .ints false .u8 v.1), (2, w.1), (7, .int .i64 v.2.2.1), (8, w.2.1), (68, .bool o)], w.2.2⟩
def sW (n : Nat) : Ex := xOf sV (fun v => iI n v.1 v.2.1 v.2.2.1 v.2.2.2.1 v.2.2.2.2) CG
def jG (n : Nat) (x14 : Bool) (x15 : List Int) (h0_0 : List (List AV)) (h0_1 h0_2 : List Int) (h0_3 : Str) (h1_0 h1_1 h1_2 h1_3 h1_4 h1_5 h2_0 h2_1 h2_2 h2_3 h2_4 h2_5 : Int) (h3_0 : List (List AV)) (h3_1 h3_2 : List Int) (h3_3 : Str) (R : Type) (K : (Bool × (List (List AV)) × (List Int) × (List Int) × Str × Int × Int × Int × Int × Int × Int × Int × Int × Int × Int × Int × Int × (List (List AV)) × (List Int) × (List Int) × Str) → Option R) : Option R := cond (!x14) (K (true, h0_0, h0_1, h0_2, h0_3, h1_0, h1_1, h1_2, h1_3, h1_4, h1_5, h2_0, h2_1, h2_2, h2_3, h2_4, h2_5, h3_0, h3_1, h3_2, h3_3)) ((x15[0]?).bind fun e716 => (cond (e716 != (10 : Int)) (K (true, h0_0, h0_1, h0_2, h0_3, h1_0, h1_1, h1_2, h1_3, h1_4, h1_5, h2_0, h2_1, h2_2, h2_3, h2_4, h2_5, h3_0, h3_1, h3_2, h3_3)) (cond (decide (0 ≤ (IntKind.i64.wrap ((x15.length : Int) - (1 : Int))))) ((x15[(IntKind.i64.wrap ((x15.length : Int) - (1 : Int))).toNat]?).bind fun e717 => (K (e717 != (10 : Int), h0_0, h0_1, h0_2, h0_3, h1_0, h1_1, h1_2, h1_3, h1_4, h1_5, h2_0, h2_1, h2_2, h2_3, h2_4, h2_5, h3_0, h3_1, h3_2, h3_3))) none)))
def kE (n : Nat) (x14 : Bool) (x15 : List Int) (h0_0 : List (List AV)) (h0_1 h0_2 : List Int) (h0_3 : Str) (h1_0 h1_1 h1_2 h1_3 h1_4 h1_5 h2_0 h2_1 h2_2 h2_3 h2_4 h2_5 : Int) (h3_0 : List (List AV)) (h3_1 h3_2 : List Int) (h3_3 : Str) : Option ((Bool × (List (List AV)) × (List Int) × (List Int) × Str × Int × Int × Int × Int × Int × Int × Int × Int × Int × Int × Int × Int × (List (List AV)) × (List Int) × (List Int) × Str)) := jG n x14 x15 h0_0 h0_1 h0_2 h0_3 h1_0 h1_1 h1_2 h1_3 h1_4 h1_5 h2_0 h2_1 h2_2 h2_3 h2_4 h2_5 h3_0 h3_1 h3_2 h3_3 _ some
def sZ : St → Option ((Bool × (List Int) × (List (List AV)) × (List Int) × (List Int) × Str × Int × Int × Int × Int × Int × Int × Int × Int × Int × Int × Int × Int × (List (List AV)) × (List Int) × (List Int) × Str) × (AV × AV))
  | ⟨[(2, p2), (13, p13), (14, .bool x14), (15, .ints false .u8 x15)], [.cells 35 [.sl true 3 h0_0, .ints true .i64 h0_1, .ints true .i64 h0_2, .str h0_3], .cells 103 [.int .i64 h1_0, .int .i64 h1_1, .int .i64 h1_2, .int .i64 h1_3, .int .i64 h1_4, .int .i64 h1_5], .cells 103 [.int .i64 h2_0, .int .i64 h2_1, .int .i64 h2_2, .int .i64 h2_3, .int .i64 h2_4, .int .i64 h2_5], .cells 35 [.sl false 3 h3_0, .ints false .i64 h3_1, .ints false .i64 h3_2, .str h3_3]]⟩ => some ((x14, x15, h0_0, h0_1, h0_2, h0_3, h1_0, h1_1, h1_2, h1_3, h1_4, h1_5, h2_0, h2_1, h2_2, h2_3, h2_4, h2_5, h3_0, h3_1, h3_2, h3_3), (p2, p13))
  | _ => none
def CJ (v : Bool × (List Int) × (List (List AV)) × (List Int) × (List Int) × Str × Int × Int × Int × Int × Int × Int × Int × Int × Int × Int × Int × Int × (List (List AV)) × (List Int) × (List Int) × Str) (w : AV × AV) : St := ⟨[(2, w.1), (13, w.2), (14, .bool v.1), (15, .ints false .u8 v.2.1)], [.cells 35 [.sl true 3 v.2.2.1, .ints true .i64 v.2.2.2.1, .ints true .i64 v.2.2.2.2.1, .str v.2.2.2.2.2.1], .cells 103 [.int .i64 v.2.2.2.2.2.2.1, .int .i64 v.2.2.2.2.2.2.2.1, .int .i64 v.2.2.2.2.2.2.2.2.1, .int .i64 v.2.2.2.2.2.2.2.2.2.1, .int .i64 v.2.2.2.2.2.2.2.2.2.2.1, .int .i64 v.2.2.2.2.2.2.2.2.2.2.2.1], .cells 103 [.int .i64 v.2.2.2.2.2.2.2.2.2.2.2.2.1, .int .i64 v.2.2.2.2.2.2.2.2.2.2.2.2.2.1, .int .i64 v.2.2.2.2.2.2.2.2.2.2.2.2.2.2.1, .int .i64 v.2.2.2.2.2.2.2.2.2.2.2.2.2.2.2.1, .int .i64 v.2.2.2.2.2.2.2.2.2.2.2.2.2.2.2.2.1, .int .i64 v.2.2.2.2.2.2.2.2.2.2.2.2.2.2.2.2.2.1], .cells 35 [.sl false 3 v.2.2.2.2.2.2.2.2.2.2.2.2.2.2.2.2.2.2.1, .ints false .i64 v.2.2.2.2.2.2.2.2.2.2.2.2.2.2.2.2.2.2.2.1, .ints false .i64 v.2.2.2.2.2.2.2.2.2.2.2.2.2.2.2.2.2.2.2.2.1, .str v.2.2.2.2.2.2.2.2.2.2.2.2.2.2.2.2.2.2.2.2.2]]⟩
def CK (v : Bool × (List Int) × (List (List AV)) × (List Int) × (List Int) × Str × Int × Int × Int × Int × Int × Int × Int × Int × Int × Int × Int × Int × (List (List AV)) × (List Int) × (List Int) × Str) (o : (Bool × (List (List AV)) × (List Int) × (List Int) × Str × Int × Int × Int × Int × Int × Int × Int × Int × Int × Int × Int × Int × (List (List AV)) × (List Int) × (List Int) × Str)) (w : AV × AV) (R : Type) (K : AExit → St → Option R) : Option R := K .normal ⟨[(2, w.1), (13, w.2), (15, .ints false .u8 v.2.1), (109, .bool o.1)], [.cells 35 [.sl true 3 o.2.1, .ints true .i64 o.2.2.1, .ints true .i64 o.2.2.2.1, .str o.2.2.2.2.1], .cells 103 [.int .i64 o.2.2.2.2.2.1, .int .i64 o.2.2.2.2.2.2.1, .int .i64 o.2.2.2.2.2.2.2.1, .int .i64 o.2.2.2.2.2.2.2.2.1, .int .i64 o.2.2.2.2.2.2.2.2.2.1, .int .i64 o.2.2.2.2.2.2.2.2.2.2.1], .cells 103 [.int .i64 o.2.2.2.2.2.2.2.2.2.2.2.1, .int .i64 o.2.2.2.2.2.2.2.2.2.2.2.2.1, .int .i64 o.2.2.2.2.2.2.2.2.2.2.2.2.2.1, .int .i64 o.2.2.2.2.2.2.2.2.2.2.2.2.2.2.1, .int .i64 o.2.2.2.2.2.2.2.2.2.2.2.2.2.2.2.1, .int .i64 o.2.2.2.2.2.2.2.2.2.2.2.2.2.2.2.2.1], .cells 35 [.sl false 3 o.2.2.2.2.2.2.2.2.2.2.2.2.2.2.2.2.2.1, .ints false .i64 o.2.2.2.2.2.2.2.2.2.2.2.2.2.2.2.2.2.2.1, .ints false .i64 o.2.2.2.2.2.2.2.2.2.2.2.2.2.2.2.2.2.2.2.1, .str o.2.2.2.2.2.2.2.2.2.2.2.2.2.2.2.2.2.2.2.2]]⟩
def tq (n : Nat) : Ex := xOf sZ (fun v => kE n v.1 v.2.1 v.2.2.1 v.2.2.2.1 v.2.2.2.2.1 v.2.2.2.2.2.1 v.2.2.2.2.2.2.1 v.2.2.2.2.2.2.2.1 v.2.2.2.2.2.2.2.2.1 v.2.2.2.2.2.2.2.2.2.1 v.2.2.2.2.2.2.2.2.2.2.1 v.2.2.2.2.2.2.2.2.2.2.2.1 v.2.2.2.2.2.2.2.2.2.2.2.2.1 v.2.2.2.2.2.2.2.2.2.2.2.2.2.1 v.2.2.2.2.2.2.2.2.2.2.2.2.2.2.1 v.2.2.2.2.2.2.2.2.2.2.2.2.2.2.2.1 v.2.2.2.2.2.2.2.2.2.2.2.2.2.2.2.2.1 v.2.2.2.2.2.2.2.2.2.2.2.2.2.2.2.2.2.1 v.2.2.2.2.2.2.2.2.2.2.2.2.2.2.2.2.2.2.1 v.2.2.2.2.2.2.2.2.2.2.2.2.2.2.2.2.2.2.2.1 v.2.2.2.2.2.2.2.2.2.2.2.2.2.2.2.2.2.2.2.2.1 v.2.2.2.2.2.2.2.2.2.2.2.2.2.2.2.2.2.2.2.2.2) CK
theorem Ap (n : Nat) : Snd ⟨Tryd.prog, 0, 123⟩ (sW n) (Tryd.f39.body.getD .skip).a2.a2.a2.a2.a2.a2.a2.a1.a1 := dA (t := CF) (b := fun v R K => dV n v.1 v.2.1 v.2.2.1 v.2.2.2.1 v.2.2.2.2 R K) (m := (fun e => match e with | .normal => ([0, 2, 7, 8, 68], none) | _ => ([], none))) .a (by intro s v w h; unfold sV at h; split at h <;> first | (cases h; rfl) | cases h) (fun _ _ _ _ => by kernel_rfl) (by intros; unfold dV; simp only [aS]) (fun _ => by kernel_rfl) (by intro e n h; split at h <;> cases h) (by kernel_rfl) (by kernel_rfl) trivial
theorem Aq (n : Nat) : Snd ⟨Tryd.prog, 0, 123⟩ (tq n) (Tryd.f39.body.getD .skip).a2.a2.a2.a2.a2.a2.a2.a2.a2.a2.a2.a2.a2.a1.a1 := dA (t := CJ) (b := fun v R K => jG n v.1 v.2.1 v.2.2.1 v.2.2.2.1 v.2.2.2.2.1 v.2.2.2.2.2.1 v.2.2.2.2.2.2.1 v.2.2.2.2.2.2.2.1 v.2.2.2.2.2.2.2.2.1 v.2.2.2.2.2.2.2.2.2.1 v.2.2.2.2.2.2.2.2.2.2.1 v.2.2.2.2.2.2.2.2.2.2.2.1 v.2.2.2.2.2.2.2.2.2.2.2.2.1 v.2.2.2.2.2.2.2.2.2.2.2.2.2.1 v.2.2.2.2.2.2.2.2.2.2.2.2.2.2.1 v.2.2.2.2.2.2.2.2.2.2.2.2.2.2.2.1 v.2.2.2.2.2.2.2.2.2.2.2.2.2.2.2.2.1 v.2.2.2.2.2.2.2.2.2.2.2.2.2.2.2.2.2.1 v.2.2.2.2.2.2.2.2.2.2.2.2.2.2.2.2.2.2.1 v.2.2.2.2.2.2.2.2.2.2.2.2.2.2.2.2.2.2.2.1 v.2.2.2.2.2.2.2.2.2.2.2.2.2.2.2.2.2.2.2.2.1 v.2.2.2.2.2.2.2.2.2.2.2.2.2.2.2.2.2.2.2.2.2 R K) (m := (fun e => match e with | .normal => ([2, 13, 15, 109], none) | _ => ([], none))) .a (by intro s v w h; unfold sZ at h; split at h <;> first | (cases h; rfl) | cases h) (fun _ _ _ _ => by kernel_rfl) (by intros; unfold jG; simp only [aS]) (fun _ => by kernel_rfl) (by intro e n h; split at h <;> cases h) (by kernel_rfl) (by kernel_rfl) trivial
def bN (n : Nat) (a0 : List Int) (R : Type) (K : ((List (List AV)) × (List Int) × (List Int) × Str × Bool) → Option R) : Option R := (aV n a0 (0 : Int)).bind fun o658 => (cond (!o658.2.2.2.2.2.2.2) (K (([] : List (List AV)), ([] : List Int), ([] : List Int), ([] : Str), false)) ((bn n o658.1 o658.2.1 o658.2.2.1 o658.2.2.2.1 o658.2.2.2.2.1 o658.2.2.2.2.2.1 (4 : Int)).bind fun o665 => (cond (o658.2.2.2.2.2.2.1 == (0 : Int)) (cond ((a0.length : Int) != (IntKind.i64.wrap ((44 : Int) + o665))) (K (([] : List (List AV)), ([] : List Int), ([] : List Int), ([] : Str), false)) (cond (decide ((44 : Int) ≤ (a0.length : Int))) ((aR n (a0.drop 44) o658.1 o658.2.1 o658.2.2.1 o658.2.2.2.1 o658.2.2.2.2.1 o658.2.2.2.2.2.1 (4 : Int)).bind fun o711 => (K (o711.1, o711.2.1, o711.2.2.1, o711.2.2.2.1, o711.2.2.2.2))) none)) (cond (decide ((IntKind.i64.wrap ((a0.length : Int) - (44 : Int))) < o665)) (K (([] : List (List AV)), ([] : List Int), ([] : List Int), ([] : Str), false)) ((aV n a0 (IntKind.i64.wrap ((44 : Int) + o665))).bind fun o712 => ((iI n a0 o658.2.2.2.2.2.2.1 o665 o712.2.2.2.2.2.2.1 o712.2.2.2.2.2.2.2).bind fun o713 => (cond o713 (K (([] : List (List AV)), ([] : List Int), ([] : List Int), ([] : Str), false)) (cond (decide (0 ≤ (IntKind.i64.wrap ((88 : Int) + o665)))) (cond (decide ((IntKind.i64.wrap ((88 : Int) + o665)) ≤ (a0.length : Int))) ((bn n o712.1 o712.2.1 o712.2.2.1 o712.2.2.2.1 o712.2.2.2.2.1 o712.2.2.2.2.2.1 (8 : Int)).bind fun o714 => (cond (decide (((a0.drop (IntKind.i64.wrap ((88 : Int) + o665)).toNat).length : Int) < (IntKind.i64.wrap (o714 + (2 : Int))))) (K (([] : List (List AV)), ([] : List Int), ([] : List Int), ([] : Str), false)) (cond (decide (0 ≤ o714)) (cond (decide (o714 ≤ ((a0.drop (IntKind.i64.wrap ((88 : Int) + o665)).toNat).length : Int))) ((aR n (((a0.drop (IntKind.i64.wrap ((88 : Int) + o665)).toNat).take o714.toNat).drop 0) o712.1 o712.2.1 o712.2.2.1 o712.2.2.2.1 o712.2.2.2.2.1 o712.2.2.2.2.2.1 (8 : Int)).bind fun o715 => (cond (decide (0 ≤ o714)) (cond (decide (o714 ≤ ((a0.drop (IntKind.i64.wrap ((88 : Int) + o665)).toNat).length : Int))) ((kE n o715.2.2.2.2 ((a0.drop (IntKind.i64.wrap ((88 : Int) + o665)).toNat).drop o714.toNat) ([] : List (List AV)) ([] : List Int) ([] : List Int) ([] : Str) o658.1 o658.2.1 o658.2.2.1 o658.2.2.2.1 o658.2.2.2.2.1 o658.2.2.2.2.2.1 o712.1 o712.2.1 o712.2.2.1 o712.2.2.2.1 o712.2.2.2.2.1 o712.2.2.2.2.2.1 o715.1 o715.2.1 o715.2.2.1 o715.2.2.2.1).bind fun o718 => (cond o718.1 (K (([] : List (List AV)), ([] : List Int), ([] : List Int), ([] : Str), false)) (cond (decide (0 ≤ (IntKind.i64.wrap ((((a0.drop (IntKind.i64.wrap ((88 : Int) + o665)).toNat).drop o714.toNat).length : Int) - (1 : Int))))) (cond (decide ((IntKind.i64.wrap ((((a0.drop (IntKind.i64.wrap ((88 : Int) + o665)).toNat).drop o714.toNat).length : Int) - (1 : Int))) ≤ (((a0.drop (IntKind.i64.wrap ((88 : Int) + o665)).toNat).drop o714.toNat).length : Int))) (cond (decide ((1 : Int) ≤ ((IntKind.i64.wrap ((((a0.drop (IntKind.i64.wrap ((88 : Int) + o665)).toNat).drop o714.toNat).length : Int) - (1 : Int))).toNat : Int))) ((bM n o718.2.2.2.2.2.2.2.2.2.2.2.2.2.2.2.2.2.1 o718.2.2.2.2.2.2.2.2.2.2.2.2.2.2.2.2.2.2.1 o718.2.2.2.2.2.2.2.2.2.2.2.2.2.2.2.2.2.2.2.1 (strOf ((((a0.drop (IntKind.i64.wrap ((88 : Int) + o665)).toNat).drop o714.toNat).take (IntKind.i64.wrap ((((a0.drop (IntKind.i64.wrap ((88 : Int) + o665)).toNat).drop o714.toNat).length : Int) - (1 : Int))).toNat).drop 1))).bind fun o719 => (cond (!o719) (K (([] : List (List AV)), ([] : List Int), ([] : List Int), ([] : Str), false)) (K (o718.2.2.2.2.2.2.2.2.2.2.2.2.2.2.2.2.2.1, o718.2.2.2.2.2.2.2.2.2.2.2.2.2.2.2.2.2.2.1, o718.2.2.2.2.2.2.2.2.2.2.2.2.2.2.2.2.2.2.2.1, strOf ((((a0.drop (IntKind.i64.wrap ((88 : Int) + o665)).toNat).drop o714.toNat).take (IntKind.i64.wrap ((((a0.drop (IntKind.i64.wrap ((88 : Int) + o665)).toNat).drop o714.toNat).length : Int) - (1 : Int))).toNat).drop 1), true)))) none) none) none))) none) none)) none) none))) none) none))))))))
def aD (n : Nat) (a0 : List Int) : Option ((List (List AV)) × (List Int) × (List Int) × Str × Bool) := bN n a0 _ some
def wF : List AV → List AObj → Option ((List Int))
  | [.ints false .u8 a0], [] => some a0
  | _, _ => none
def vE (n : Nat) : FSpec := iQ wF (fun v => aD n v) (fun o => .tuple [.agg [.sl false 3 o.1, .ints false .i64 o.2.1, .ints false .i64 o.2.2.1, .str o.2.2.2.1], .bool o.2.2.2.2]) (fun o => [])
theorem BN (n : Nat) : FSound Tryd.prog 39 (vE n) := aG (t := fun v => ⟨[(0, .ints false .u8 v)], []⟩) (b := fun v R K => bN n v R K) (nt := 123) (n := some 0) (rs := [.cell 2 35 4 true, .tmp 3]) (.s .a (.s (.r [(1, .cl 50 (ni n)), (5, .tk [16])]) (.s (.s .a (.s (.s (.r [(1, .tk [24])]) .a) .a)) (.s (.r [(1, .cl 51 (lh n))]) (.s (.s .a (.s (.s (.s .a (.s (.s (.r [(1, .tk [34])]) .a) .a)) (.s (.d [(3, .cl 52 (nR n))] [(2, .peek [1] [1]), (3, .part []), (6, .part [0])]) .a)) .a)) (.s (.s .a (.s (.s (.r [(1, .tk [46])]) .a) .a)) (.s (.r [(3, .cl 50 (ni n)), (7, .tk [47])]) (.s (.s (.p (aA ([0, 2, 5, 7, 8, 9, 10], none) (sW n))) (.s (.s (.r [(1, .tk [69])]) .a) .a)) (.s .a (.s (.r [(1, .cl 51 (lh n))]) (.s (.s .a (.s (.s (.r [(1, .tk [81])]) .a) .a)) (.s (.d [(4, .cl 52 (nR n))] [(3, .peek [2] [2]), (4, .part []), (8, .new 3), (9, .part [3])]) (.s .a (.s (.s (.p (aA ([2, 13, 14, 15], none) (tq n))) (.s (.s (.r [(1, .tk [110])]) .a) .a)) (.s .a (.s (.s (.r [(1, .cl 14 (iy n))]) (.s (.s (.r [(1, .tk [121])]) .a) .a)) .a)))))))))))))))) Tryd.func39 (by kernel_rfl) rfl rfl rfl (fun _ h => by injection h with h; exact h.symm) (by decide) (by kernel_rfl) (by intro s v w h; unfold wF at h; split at h <;> first | (cases h; exact ⟨Nat.le_of_ble_eq_true rfl, rfl, rfl⟩) | cases h) (fun _ _ _ => by kernel_rfl) (by intros; unfold bN; simp only [aS]) (fun _ => by kernel_rfl) (by kernel_rfl) (by kernel_rfl) (ai (qy n) (ai (mf n) (ai (rC n) (ai (qy n) (ai (aP [0, 2, 5, 7, 8, 9, 10] (Ap n)) (ai (mf n) (ai (rC n) (ai (aP [2, 13, 14, 15] (Aq n)) (ai (jc n) trivial)))))))))
def dJ (n : Nat) (x4 : Int) (x6 : Bool) (R : Type) (K : (Bool) → Option R) : Option R := cond (!(x6 == (x4 == (0 : Int)))) (K true) (cond (x4 != (0 : Int)) (K (x4 != (60 : Int))) (K false))
def gY (n : Nat) (x4 : Int) (x6 : Bool) : Option ((Bool)) := dJ n x4 x6 _ some
def nS : St → Option ((Int × Bool) × (AV × AV × (List AObj)))
  | ⟨[(3, p3), (4, .int .i64 x4), (5, p5), (6, .bool x6)], H⟩ => some ((x4, x6), (p3, p5, H))
  | _ => none
def xR (v : Int × Bool) (w : AV × AV × (List AObj)) : St := ⟨[(3, w.1), (4, .int .i64 v.1), (5, w.2.1), (6, .bool v.2)], w.2.2⟩
def xS (v : Int × Bool) (o : (Bool)) (w : AV × AV × (List AObj)) (R : Type) (K : AExit → St → Option R) : Option R := K .normal ⟨[(3, w.1), (5, w.2.1), (32, .bool o)], w.2.2⟩
def nT (n : Nat) : Ex := xOf nS (fun v => gY n v.1 v.2) xS
theorem wG (n : Nat) : Snd ⟨Tryd.prog, 0, 40⟩ (nT n) (Tryd.f20.body.getD .skip).a2.a2.a2.a2.a1.a1 := dA (t := xR) (b := fun v R K => dJ n v.1 v.2 R K) (m := (fun e => match e with | .normal => ([3, 5, 32], none) | _ => ([], none))) .a (by intro s v w h; unfold nS at h; split at h <;> first | (cases h; rfl) | cases h) (fun _ _ _ _ => by kernel_rfl) (by intros; unfold dJ; simp only [aS]) (fun _ => by kernel_rfl) (by intro e n h; split at h <;> cases h) (by kernel_rfl) (by kernel_rfl) trivial
def iN (n : Nat) (a0 : List Int) (R : Type) (K : Bool → Option R) : Option R := cond (decide ((a0.length : Int) > (4000 : Int))) ((aC n ).bind fun o646 => (K o646)) ((bv n a0).bind fun o647 => ((aD n a0).bind fun o720 => ((gY n o647.2.2.2.2 o720.2.2.2.2).bind fun o721 => (cond o721 (K false) ((dX n o647.1 o647.2.1 o647.2.2.1 o647.2.2.2.1).bind fun o722 => ((gI n o722.1 o722.2.1 o722.2.2.1 o722.2.2.2 o720.1 o720.2.1 o720.2.2.1 o720.2.2.2.1).bind fun o723 => (cond o723 ((aC n ).bind fun o724 => (K o724)) (K false))))))))
def fA (n : Nat) (a0 : List Int) : Option (Bool) := iN n a0 _ some
def qC : List AV → List AObj → Option ((List Int))
  | [.ints false .u8 a0], [] => some a0
  | _, _ => none
def kM (n : Nat) : FSpec := iQ qC (fun v => fA n v) (fun o => .bool o) (fun o => [])
theorem nA (n : Nat) : FSound Tryd.prog 20 (kM n) := aG (t := fun v => ⟨[(0, .ints false .u8 v)], []⟩) (b := fun v R K => iN n v R K) (nt := 40) (n := some 0) (rs := [.tmp 2]) (.s .a (.s (.s .a (.s (.s (.r [(0, .cl 10 (aU n))]) .a) .a)) (.s (.r [(1, .cl 19 (ll n)), (4, .tk [11])]) (.s (.r [(1, .cl 39 (vE n)), (4, .tk [16])]) (.s (.s (.p (aA ([3, 4, 5, 6], none) (nT n))) .a) (.s (.d [(1, .cl 12 (kr n)), (3, .cl 18 (pE n)), (5, .cl 10 (aU n))] [(0, .peek [0] [0]), (1, .part []), (2, .peek [1] [1]), (3, .part [])]) .a)))))) Tryd.func20 (by kernel_rfl) rfl rfl rfl (fun _ h => by injection h with h; exact h.symm) (by decide) (by kernel_rfl) (by intro s v w h; unfold qC at h; split at h <;> first | (cases h; exact ⟨Nat.le_of_ble_eq_true rfl, rfl, rfl⟩) | cases h) (fun _ _ _ => by kernel_rfl) (by intros; unfold iN; simp only [aS]) (fun _ => by kernel_rfl) (by kernel_rfl) (by kernel_rfl) (ai (aQ n) (ai (jQ n) (ai (BN n) (ai (aP [3, 4, 5, 6] (wG n)) (ai (lL n) (ai (sG n) (ai (aQ n) trivial)))))))
def gD (n : Nat) (x3 : Int) (h0_0 : List (List AV)) (h0_1 h0_2 : List Int) (h0_3 : Str) (R : Type) (K : (Bool × (List (List AV)) × (List Int) × (List Int) × Str) → Option R) : Option R := cond (x3 != (0 : Int)) (K (true, h0_0, h0_1, h0_2, h0_3)) ((aB n h0_0 h0_1 h0_2 h0_3 h0_0 h0_1 h0_2 h0_3 (5 : Int)).bind fun o814 => (cond (!o814) (K (true, h0_0, h0_1, h0_2, h0_3)) ((bZ n h0_0 h0_1 h0_2 h0_3 (3 : Int)).bind fun o815 => (cond (!o815) (K (true, h0_0, h0_1, h0_2, h0_3)) ((bq n h0_0 h0_1 h0_2 h0_3 (1 : Int) (7 : Int)).bind fun o816 => (K (!o816, h0_0, h0_1, h0_2, h0_3)))))))
def fB (n : Nat) (x3 : Int) (h0_0 : List (List AV)) (h0_1 h0_2 : List Int) (h0_3 : Str) : Option ((Bool × (List (List AV)) × (List Int) × (List Int) × Str)) := gD n x3 h0_0 h0_1 h0_2 h0_3 _ some
def ol : St → Option ((Int × (List (List AV)) × (List Int) × (List Int) × Str) × (AV))
  | ⟨[(1, .ptr (some (0, 0))), (2, p2), (3, .int .i64 x3)], [.cells 26 [.sl true 3 h0_0, .ints true .i64 h0_1, .ints true .i64 h0_2, .str h0_3]]⟩ => some ((x3, h0_0, h0_1, h0_2, h0_3), p2)
  | _ => none
def yQ (v : Int × (List (List AV)) × (List Int) × (List Int) × Str) (w : AV) : St := ⟨[(1, .ptr (some (0, 0))), (2, w), (3, .int .i64 v.1)], [.cells 26 [.sl true 3 v.2.1, .ints true .i64 v.2.2.1, .ints true .i64 v.2.2.2.1, .str v.2.2.2.2]]⟩
def yR (v : Int × (List (List AV)) × (List Int) × (List Int) × Str) (o : (Bool × (List (List AV)) × (List Int) × (List Int) × Str)) (w : AV) (R : Type) (K : AExit → St → Option R) : Option R := K .normal ⟨[(1, .ptr (some (0, 0))), (2, w), (46, .bool o.1)], [.cells 26 [.sl true 3 o.2.1, .ints true .i64 o.2.2.1, .ints true .i64 o.2.2.2.1, .str o.2.2.2.2]]⟩
def om (n : Nat) : Ex := xOf ol (fun v => fB n v.1 v.2.1 v.2.2.1 v.2.2.2.1 v.2.2.2.2) yR
def dO (n : Nat) (x2 : List Int) (x4 : Int) (x53 : List Int) (x54 x55 : Int) (h0_0 : List (List AV)) (h0_1 h0_2 : List Int) (h0_3 : Str) (R : Type) (A_ : (List Int) → Int → (List Int) → Int → Int → (List (List AV)) → (List Int) → (List Int) → Str → Option R) (K : ((Unit) ⊕ ((List (List AV)) × (List Int) × (List Int) × Str)) → Option R) : Option R := cond (decide (x55 < x54)) (cond (decide (0 ≤ x55)) ((x53[x55.toNat]?).bind fun e818 => (cond (!x2.isEmpty) (cond (decide (x2.length * 1 ≤ 140737488355328)) (cond (decide (0 ≤ x4)) (cond (decide (x4 < (x2.length : Int))) ((x2[Int.toNat x4 * 1]?).bind fun y820 => (cond (decide (0 ≤ x4)) (cond (decide (x4 < (x2.length : Int))) (cond (decide (Int.toNat x4 * 1 < x2.length)) (cond (decide (x2.length = (x2.set (Int.toNat x4 * 1) (IntKind.u8.wrap ((BitVec.ofInt 8 y820 ^^^ BitVec.ofInt 8 e818).toNat : Int))).length)) ((fA n ((x2.set (Int.toNat x4 * 1) (IntKind.u8.wrap ((BitVec.ofInt 8 y820 ^^^ BitVec.ofInt 8 e818).toNat : Int))).take x2.length)).bind fun o822 => (cond (!o822) (K (Sum.inl ())) (A_ x2 x4 x53 x54 (IntKind.i64.wrap (x55 + (1 : Int))) h0_0 h0_1 h0_2 h0_3))) none) none) none) none)) none) none) none) none)) none) (K (Sum.inr (h0_0, h0_1, h0_2, h0_3)))
def bO (n : Nat) : Nat → (List Int) → Int → (List Int) → Int → Int → (List (List AV)) → (List Int) → (List Int) → Str → Option ((Unit) ⊕ ((List (List AV)) × (List Int) × (List Int) × Str))
  | 0, _, _, _, _, _, _, _, _, _ => none
  | m + 1, x2, x4, x53, x54, x55, h0_0, h0_1, h0_2, h0_3 => dO n x2 x4 x53 x54 x55 h0_0 h0_1 h0_2 h0_3 _ (bO n m) some
def oo : St → Option (((List Int) × Int × (List Int) × Int × Int × (List (List AV)) × (List Int) × (List Int) × Str) × (Unit))
  | ⟨[(1, .ptr (some (0, 0))), (2, .ints false .u8 x2), (4, .int .i64 x4), (53, .ints true .u8 x53), (54, .int .i64 x54), (55, .int .i64 x55)], [.cells 26 [.sl true 3 h0_0, .ints true .i64 h0_1, .ints true .i64 h0_2, .str h0_3]]⟩ => some ((x2, x4, x53, x54, x55, h0_0, h0_1, h0_2, h0_3), ())
  | _ => none
def yS (v : (List Int) × Int × (List Int) × Int × Int × (List (List AV)) × (List Int) × (List Int) × Str) (w : Unit) : St := ⟨[(1, .ptr (some (0, 0))), (2, .ints false .u8 v.1), (4, .int .i64 v.2.1), (53, .ints true .u8 v.2.2.1), (54, .int .i64 v.2.2.2.1), (55, .int .i64 v.2.2.2.2.1)], [.cells 26 [.sl true 3 v.2.2.2.2.2.1, .ints true .i64 v.2.2.2.2.2.2.1, .ints true .i64 v.2.2.2.2.2.2.2.1, .str v.2.2.2.2.2.2.2.2]]⟩
def yT (v : (List Int) × Int × (List Int) × Int × Int × (List (List AV)) × (List Int) × (List Int) × Str) (o : (Unit) ⊕ ((List (List AV)) × (List Int) × (List Int) × Str)) (w : Unit) (R : Type) (K : AExit → St → Option R) : Option R := Sum.elim (fun (u0 : Unit) => K .ret ⟨[(0, .bool false)], []⟩) (fun (v0 : ((List (List AV)) × (List Int) × (List Int) × Str)) => K (.exit 2) ⟨[(1, .ptr (some (0, 0))), (2, .ints false .u8 v.1), (4, .int .i64 v.2.1)], [.cells 26 [.sl true 3 v0.1, .ints true .i64 v0.2.1, .ints true .i64 v0.2.2.1, .str v0.2.2.2]]⟩) o
def oq (n : Nat) : Ex := xOf oo (fun v => bO n n v.1 v.2.1 v.2.2.1 v.2.2.2.1 v.2.2.2.2.1 v.2.2.2.2.2.1 v.2.2.2.2.2.2.1 v.2.2.2.2.2.2.2.1 v.2.2.2.2.2.2.2.2) yT
def gF (n : Nat) (x2 : List Int) (x4 : Int) (h0_0 : List (List AV)) (h0_1 h0_2 : List Int) (h0_3 : Str) (R : Type) (K : (Bool × (List (List AV)) × (List Int) × (List Int) × Str) → Option R) : Option R := cond (decide (0 ≤ x4)) (cond (decide (x4 ≤ (x2.length : Int))) ((fA n ((x2.take x4.toNat).drop 0)).bind fun o826 => (cond (!o826) (K (true, h0_0, h0_1, h0_2, h0_3)) ((bZ n h0_0 h0_1 h0_2 h0_3 (IntKind.u16.wrap x4)).bind fun o827 => (K (!o827, h0_0, h0_1, h0_2, h0_3))))) none) none
def iO (n : Nat) (x2 : List Int) (x4 : Int) (h0_0 : List (List AV)) (h0_1 h0_2 : List Int) (h0_3 : Str) : Option ((Bool × (List (List AV)) × (List Int) × (List Int) × Str)) := gF n x2 x4 h0_0 h0_1 h0_2 h0_3 _ some
def ou : St → Option (((List Int) × Int × (List (List AV)) × (List Int) × (List Int) × Str) × (Unit))
  | ⟨[(1, .ptr (some (0, 0))), (2, .ints false .u8 x2), (4, .int .i64 x4)], [.cells 26 [.sl true 3 h0_0, .ints true .i64 h0_1, .ints true .i64 h0_2, .str h0_3]]⟩ => some ((x2, x4, h0_0, h0_1, h0_2, h0_3), ())
  | _ => none
def yU (v : (List Int) × Int × (List (List AV)) × (List Int) × (List Int) × Str) (w : Unit) : St := ⟨[(1, .ptr (some (0, 0))), (2, .ints false .u8 v.1), (4, .int .i64 v.2.1)], [.cells 26 [.sl true 3 v.2.2.1, .ints true .i64 v.2.2.2.1, .ints true .i64 v.2.2.2.2.1, .str v.2.2.2.2.2]]⟩
def yV (v : (List Int) × Int × (List (List AV)) × (List Int) × (List Int) × Str) (o : (Bool × (List (List AV)) × (List Int) × (List Int) × Str)) (w : Unit) (R : Type) (K : AExit → St → Option R) : Option R := K .normal ⟨[(1, .ptr (some (0, 0))), (2, .ints false .u8 v.1), (4, .int .i64 v.2.1), (86, .bool o.1)], [.cells 26 [.sl true 3 o.2.1, .ints true .i64 o.2.2.1, .ints true .i64 o.2.2.2.1, .str o.2.2.2.2]]⟩
def ow (n : Nat) : Ex := xOf ou (fun v => iO n v.1 v.2.1 v.2.2.1 v.2.2.2.1 v.2.2.2.2.1 v.2.2.2.2.2) yV
def dP (n : Nat) (x2 : List Int) (x4 : Int) (h0_0 : List (List AV)) (h0_1 h0_2 : List Int) (h0_3 : Str) (R : Type) (A_ : (List Int) → Int → (List (List AV)) → (List Int) → (List Int) → Str → Option R) (K : ((Unit) ⊕ ((List (List AV)) × (List Int) × (List Int) × Str)) → Option R) : Option R := cond (decide (x4 < (x2.length : Int))) ((bO n n x2 x4 ([(1 : Int), (128 : Int), (255 : Int)] : List Int) (([(1 : Int), (128 : Int), (255 : Int)] : List Int).length : Int) (0 : Int) h0_0 h0_1 h0_2 h0_3).bind fun o823 => (Sum.elim (fun o824 => K (Sum.inl ())) (fun o825 => (iO n x2 x4 o825.1 o825.2.1 o825.2.2.1 o825.2.2.2).bind fun o828 => (cond o828.1 (K (Sum.inl ())) (A_ x2 (IntKind.i64.wrap (x4 + (1 : Int))) o828.2.1 o828.2.2.1 o828.2.2.2.1 o828.2.2.2.2))) o823)) (K (Sum.inr (h0_0, h0_1, h0_2, h0_3)))
def bg (n : Nat) : Nat → (List Int) → Int → (List (List AV)) → (List Int) → (List Int) → Str → Option ((Unit) ⊕ ((List (List AV)) × (List Int) × (List Int) × Str))
  | 0, _, _, _, _, _, _ => none
  | m + 1, x2, x4, h0_0, h0_1, h0_2, h0_3 => dP n x2 x4 h0_0 h0_1 h0_2 h0_3 _ (bg n m) some
def oz : St → Option (((List Int) × Int × (List (List AV)) × (List Int) × (List Int) × Str) × (Unit))
  | ⟨[(1, .ptr (some (0, 0))), (2, .ints false .u8 x2), (4, .int .i64 x4)], [.cells 26 [.sl true 3 h0_0, .ints true .i64 h0_1, .ints true .i64 h0_2, .str h0_3]]⟩ => some ((x2, x4, h0_0, h0_1, h0_2, h0_3), ())
  | _ => none
def yX (v : (List Int) × Int × (List (List AV)) × (List Int) × (List Int) × Str) (w : Unit) : St := ⟨[(1, .ptr (some (0, 0))), (2, .ints false .u8 v.1), (4, .int .i64 v.2.1)], [.cells 26 [.sl true 3 v.2.2.1, .ints true .i64 v.2.2.2.1, .ints true .i64 v.2.2.2.2.1, .str v.2.2.2.2.2]]⟩
def yY (v : (List Int) × Int × (List (List AV)) × (List Int) × (List Int) × Str) (o : (Unit) ⊕ ((List (List AV)) × (List Int) × (List Int) × Str)) (w : Unit) (R : Type) (K : AExit → St → Option R) : Option R := Sum.elim (fun (u0 : Unit) => K .ret ⟨[(0, .bool false)], []⟩) (fun (v0 : ((List (List AV)) × (List Int) × (List Int) × Str)) => K (.exit 0) ⟨[(1, .ptr (some (0, 0)))], [.cells 26 [.sl true 3 v0.1, .ints true .i64 v0.2.1, .ints true .i64 v0.2.2.1, .str v0.2.2.2]]⟩) o
def oC (n : Nat) : Ex := xOf oz (fun v => bg n n v.1 v.2.1 v.2.2.1 v.2.2.2.1 v.2.2.2.2.1 v.2.2.2.2.2) yY
def dQ (n : Nat) (x12 x14 : Int) (h0_0 : List (List AV)) (h0_1 h0_2 : List Int) (h0_3 : Str) (h1_0 : Int) (h1_1 : Bool) (h1_2 : Str) (h2_0 : List (List AV)) (h2_1 h2_2 : List Int) (h2_3 : Str) (R : Type) (A_ : Int → Int → (List (List AV)) → (List Int) → (List Int) → Str → Int → Bool → Str → (List (List AV)) → (List Int) → (List Int) → Str → Option R) (K : ((List (List AV)) × (List Int) × (List Int) × Str × Int × Bool × Str × (List (List AV)) × (List Int) × (List Int) × Str) → Option R) : Option R := cond (decide (x14 < x12)) (cond (decide ((h2_0.length + ([[.int .i64 h1_0, .bool h1_1, .str h1_2]] : List (List AV)).length) * 32 ≤ 140737488355328)) (A_ x12 (IntKind.i64.wrap (x14 + (1 : Int))) h0_0 h0_1 h0_2 h0_3 h1_0 h1_1 h1_2 (h2_0 ++ ([[.int .i64 h1_0, .bool h1_1, .str h1_2]] : List (List AV))) h2_1 h2_2 h2_3) none) (K (h0_0, h0_1, h0_2, h0_3, h1_0, h1_1, h1_2, h2_0, h2_1, h2_2, h2_3))
def bP (n : Nat) : Nat → Int → Int → (List (List AV)) → (List Int) → (List Int) → Str → Int → Bool → Str → (List (List AV)) → (List Int) → (List Int) → Str → Option (((List (List AV)) × (List Int) × (List Int) × Str × Int × Bool × Str × (List (List AV)) × (List Int) × (List Int) × Str))
  | 0, _, _, _, _, _, _, _, _, _, _, _, _, _ => none
  | m + 1, x12, x14, h0_0, h0_1, h0_2, h0_3, h1_0, h1_1, h1_2, h2_0, h2_1, h2_2, h2_3 => dQ n x12 x14 h0_0 h0_1 h0_2 h0_3 h1_0 h1_1 h1_2 h2_0 h2_1 h2_2 h2_3 _ (bP n m) some
def oD : St → Option ((Int × Int × (List (List AV)) × (List Int) × (List Int) × Str × Int × Bool × Str × (List (List AV)) × (List Int) × (List Int) × Str) × (AV × AV × AV × AV × AV × AV × AV × AV))
  | ⟨[(1, p1), (8, p8), (10, .ptr (some (1, 0))), (12, .int .i64 x12), (13, .ptr (some (2, 0))), (14, .int .i64 x14), (100, p100), (101, p101), (102, p102), (106, p106), (107, p107), (108, p108)], [.cells 26 [.sl true 3 h0_0, .ints true .i64 h0_1, .ints true .i64 h0_2, .str h0_3], .cells 54 [.int .i64 h1_0, .bool h1_1, .str h1_2], .cells 26 [.sl true 3 h2_0, .ints true .i64 h2_1, .ints true .i64 h2_2, .str h2_3]]⟩ => some ((x12, x14, h0_0, h0_1, h0_2, h0_3, h1_0, h1_1, h1_2, h2_0, h2_1, h2_2, h2_3), (p1, p8, p100, p101, p102, p106, p107, p108))
  | _ => none
def yZ (v : Int × Int × (List (List AV)) × (List Int) × (List Int) × Str × Int × Bool × Str × (List (List AV)) × (List Int) × (List Int) × Str) (w : AV × AV × AV × AV × AV × AV × AV × AV) : St := ⟨[(1, w.1), (8, w.2.1), (10, .ptr (some (1, 0))), (12, .int .i64 v.1), (13, .ptr (some (2, 0))), (14, .int .i64 v.2.1), (100, w.2.2.1), (101, w.2.2.2.1), (102, w.2.2.2.2.1), (106, w.2.2.2.2.2.1), (107, w.2.2.2.2.2.2.1), (108, w.2.2.2.2.2.2.2)], [.cells 26 [.sl true 3 v.2.2.1, .ints true .i64 v.2.2.2.1, .ints true .i64 v.2.2.2.2.1, .str v.2.2.2.2.2.1], .cells 54 [.int .i64 v.2.2.2.2.2.2.1, .bool v.2.2.2.2.2.2.2.1, .str v.2.2.2.2.2.2.2.2.1], .cells 26 [.sl true 3 v.2.2.2.2.2.2.2.2.2.1, .ints true .i64 v.2.2.2.2.2.2.2.2.2.2.1, .ints true .i64 v.2.2.2.2.2.2.2.2.2.2.2.1, .str v.2.2.2.2.2.2.2.2.2.2.2.2]]⟩
def y5 (v : Int × Int × (List (List AV)) × (List Int) × (List Int) × Str × Int × Bool × Str × (List (List AV)) × (List Int) × (List Int) × Str) (o : ((List (List AV)) × (List Int) × (List Int) × Str × Int × Bool × Str × (List (List AV)) × (List Int) × (List Int) × Str)) (w : AV × AV × AV × AV × AV × AV × AV × AV) (R : Type) (K : AExit → St → Option R) : Option R := K (.exit 8) ⟨[(1, w.1), (8, w.2.1), (10, .ptr (some (1, 0))), (12, .int .i64 v.1), (13, .ptr (some (2, 0))), (100, w.2.2.1), (101, w.2.2.2.1), (102, w.2.2.2.2.1), (106, w.2.2.2.2.2.1), (107, w.2.2.2.2.2.2.1), (108, w.2.2.2.2.2.2.2)], [.cells 26 [.sl true 3 o.1, .ints true .i64 o.2.1, .ints true .i64 o.2.2.1, .str o.2.2.2.1], .cells 54 [.int .i64 o.2.2.2.2.1, .bool o.2.2.2.2.2.1, .str o.2.2.2.2.2.2.1], .cells 26 [.sl true 3 o.2.2.2.2.2.2.2.1, .ints true .i64 o.2.2.2.2.2.2.2.2.1, .ints true .i64 o.2.2.2.2.2.2.2.2.2.1, .str o.2.2.2.2.2.2.2.2.2.2]]⟩
def oF (n : Nat) : Ex := xOf oD (fun v => bP n n v.1 v.2.1 v.2.2.1 v.2.2.2.1 v.2.2.2.2.1 v.2.2.2.2.2.1 v.2.2.2.2.2.2.1 v.2.2.2.2.2.2.2.1 v.2.2.2.2.2.2.2.2.1 v.2.2.2.2.2.2.2.2.2.1 v.2.2.2.2.2.2.2.2.2.2.1 v.2.2.2.2.2.2.2.2.2.2.2.1 v.2.2.2.2.2.2.2.2.2.2.2.2) y5
def gG (n : Nat) (x12 : Int) (h0_0 : List (List AV)) (h0_1 h0_2 : List Int) (h0_3 : Str) (h1_0 : Int) (h1_1 : Bool) (h1_2 : Str) (h2_0 : List (List AV)) (h2_1 h2_2 : List Int) (h2_3 : Str) (R : Type) (K : (Bool × (List (List AV)) × (List Int) × (List Int) × Str × Int × Bool × Str × (List (List AV)) × (List Int) × (List Int) × Str) → Option R) : Option R := (aB n h2_0 h2_1 h2_2 h2_3 h0_0 h0_1 h0_2 h0_3 (0 : Int)).bind fun o844 => (cond (!o844) (K (true, h0_0, h0_1, h0_2, h0_3, h1_0, h1_1, h1_2, h2_0, h2_1, h2_2, h2_3)) ((bq n h2_0 h2_1 h2_2 h2_3 (IntKind.u16.wrap x12) (IntKind.u8.wrap x12)).bind fun o845 => (K (!o845, h0_0, h0_1, h0_2, h0_3, h1_0, h1_1, h1_2, h2_0, h2_1, h2_2, h2_3))))
def iP (n : Nat) (x12 : Int) (h0_0 : List (List AV)) (h0_1 h0_2 : List Int) (h0_3 : Str) (h1_0 : Int) (h1_1 : Bool) (h1_2 : Str) (h2_0 : List (List AV)) (h2_1 h2_2 : List Int) (h2_3 : Str) : Option ((Bool × (List (List AV)) × (List Int) × (List Int) × Str × Int × Bool × Str × (List (List AV)) × (List Int) × (List Int) × Str)) := gG n x12 h0_0 h0_1 h0_2 h0_3 h1_0 h1_1 h1_2 h2_0 h2_1 h2_2 h2_3 _ some
def oG : St → Option ((Int × (List (List AV)) × (List Int) × (List Int) × Str × Int × Bool × Str × (List (List AV)) × (List Int) × (List Int) × Str) × (AV × AV × AV × AV × AV × AV × AV × AV))
  | ⟨[(1, .ptr (some (0, 0))), (8, p8), (10, p10), (12, .int .i64 x12), (13, .ptr (some (2, 0))), (100, p100), (101, p101), (102, p102), (106, p106), (107, p107), (108, p108)], [.cells 26 [.sl true 3 h0_0, .ints true .i64 h0_1, .ints true .i64 h0_2, .str h0_3], .cells 54 [.int .i64 h1_0, .bool h1_1, .str h1_2], .cells 26 [.sl true 3 h2_0, .ints true .i64 h2_1, .ints true .i64 h2_2, .str h2_3]]⟩ => some ((x12, h0_0, h0_1, h0_2, h0_3, h1_0, h1_1, h1_2, h2_0, h2_1, h2_2, h2_3), (p8, p10, p100, p101, p102, p106, p107, p108))
  | _ => none
def y7 (v : Int × (List (List AV)) × (List Int) × (List Int) × Str × Int × Bool × Str × (List (List AV)) × (List Int) × (List Int) × Str) (w : AV × AV × AV × AV × AV × AV × AV × AV) : St := ⟨[(1, .ptr (some (0, 0))), (8, w.1), (10, w.2.1), (12, .int .i64 v.1), (13, .ptr (some (2, 0))), (100, w.2.2.1), (101, w.2.2.2.1), (102, w.2.2.2.2.1), (106, w.2.2.2.2.2.1), (107, w.2.2.2.2.2.2.1), (108, w.2.2.2.2.2.2.2)], [.cells 26 [.sl true 3 v.2.1, .ints true .i64 v.2.2.1, .ints true .i64 v.2.2.2.1, .str v.2.2.2.2.1], .cells 54 [.int .i64 v.2.2.2.2.2.1, .bool v.2.2.2.2.2.2.1, .str v.2.2.2.2.2.2.2.1], .cells 26 [.sl true 3 v.2.2.2.2.2.2.2.2.1, .ints true .i64 v.2.2.2.2.2.2.2.2.2.1, .ints true .i64 v.2.2.2.2.2.2.2.2.2.2.1, .str v.2.2.2.2.2.2.2.2.2.2.2]]⟩
def y8 (v : Int × (List (List AV)) × (List Int) × (List Int) × Str × Int × Bool × Str × (List (List AV)) × (List Int) × (List Int) × Str) (o : (Bool × (List (List AV)) × (List Int) × (List Int) × Str × Int × Bool × Str × (List (List AV)) × (List Int) × (List Int) × Str)) (w : AV × AV × AV × AV × AV × AV × AV × AV) (R : Type) (K : AExit → St → Option R) : Option R := K .normal ⟨[(1, .ptr (some (0, 0))), (8, w.1), (10, w.2.1), (100, w.2.2.1), (101, w.2.2.2.1), (102, w.2.2.2.2.1), (106, w.2.2.2.2.2.1), (107, w.2.2.2.2.2.2.1), (108, w.2.2.2.2.2.2.2), (140, .bool o.1)], [.cells 26 [.sl true 3 o.2.1, .ints true .i64 o.2.2.1, .ints true .i64 o.2.2.2.1, .str o.2.2.2.2.1], .cells 54 [.int .i64 o.2.2.2.2.2.1, .bool o.2.2.2.2.2.2.1, .str o.2.2.2.2.2.2.2.1], .cells 26 [.sl true 3 o.2.2.2.2.2.2.2.2.1, .ints true .i64 o.2.2.2.2.2.2.2.2.2.1, .ints true .i64 o.2.2.2.2.2.2.2.2.2.2.1, .str o.2.2.2.2.2.2.2.2.2.2.2]]⟩
def oH (n : Nat) : Ex := xOf oG (fun v => iP n v.1 v.2.1 v.2.2.1 v.2.2.2.1 v.2.2.2.2.1 v.2.2.2.2.2.1 v.2.2.2.2.2.2.1 v.2.2.2.2.2.2.2.1 v.2.2.2.2.2.2.2.2.1 v.2.2.2.2.2.2.2.2.2.1 v.2.2.2.2.2.2.2.2.2.2.1 v.2.2.2.2.2.2.2.2.2.2.2) y8
def dR (n : Nat) (x8 : Str) (x100 : List (List AV)) (x101 x102 : Int) (x106 : List Int) (x107 x108 : Int) (h0_0 : List (List AV)) (h0_1 h0_2 : List Int) (h0_3 : Str) (h1_0 : Int) (h1_1 : Bool) (h1_2 : Str) (R : Type) (A_ : Str → (List (List AV)) → Int → Int → (List Int) → Int → Int → (List (List AV)) → (List Int) → (List Int) → Str → Int → Bool → Str → Option R) (K : ((Unit) ⊕ ((List (List AV)) × (List Int) × (List Int) × Str × Int × Bool × Str)) → Option R) : Option R := cond (decide (x108 < x107)) (cond (decide (0 ≤ x108)) ((x106[x108.toNat]?).bind fun e842 => (cond (decide (0 ≤ (Int.tmod e842 (16 : Int)))) (cond (decide ((Int.tmod e842 (16 : Int)) ≤ (x8.length : Int))) ((bP n n e842 (0 : Int) h0_0 h0_1 h0_2 h0_3 h1_0 h1_1 h1_2 ([] : List (List AV)) ([] : List Int) ([] : List Int) ((x8.take (Int.tmod e842 (16 : Int)).toNat).drop 0)).bind fun o843 => ((iP n e842 o843.1 o843.2.1 o843.2.2.1 o843.2.2.2.1 o843.2.2.2.2.1 o843.2.2.2.2.2.1 o843.2.2.2.2.2.2.1 o843.2.2.2.2.2.2.2.1 o843.2.2.2.2.2.2.2.2.1 o843.2.2.2.2.2.2.2.2.2.1 o843.2.2.2.2.2.2.2.2.2.2).bind fun o846 => (cond o846.1 (K (Sum.inl ())) (A_ x8 x100 x101 x102 x106 x107 (IntKind.i64.wrap (x108 + (1 : Int))) o846.2.1 o846.2.2.1 o846.2.2.2.1 o846.2.2.2.2.1 o846.2.2.2.2.2.1 o846.2.2.2.2.2.2.1 o846.2.2.2.2.2.2.2.1)))) none) none)) none) (K (Sum.inr (h0_0, h0_1, h0_2, h0_3, h1_0, h1_1, h1_2)))
def bQ (n : Nat) : Nat → Str → (List (List AV)) → Int → Int → (List Int) → Int → Int → (List (List AV)) → (List Int) → (List Int) → Str → Int → Bool → Str → Option ((Unit) ⊕ ((List (List AV)) × (List Int) × (List Int) × Str × Int × Bool × Str))
  | 0, _, _, _, _, _, _, _, _, _, _, _, _, _, _ => none
  | m + 1, x8, x100, x101, x102, x106, x107, x108, h0_0, h0_1, h0_2, h0_3, h1_0, h1_1, h1_2 => dR n x8 x100 x101 x102 x106 x107 x108 h0_0 h0_1 h0_2 h0_3 h1_0 h1_1 h1_2 _ (bQ n m) some
def oI : St → Option ((Str × (List (List AV)) × Int × Int × (List Int) × Int × Int × (List (List AV)) × (List Int) × (List Int) × Str × Int × Bool × Str) × (Unit))
  | ⟨[(1, .ptr (some (0, 0))), (8, .str x8), (10, .ptr (some (1, 0))), (100, .sl true 3 x100), (101, .int .i64 x101), (102, .int .i64 x102), (106, .ints true .i64 x106), (107, .int .i64 x107), (108, .int .i64 x108)], [.cells 26 [.sl true 3 h0_0, .ints true .i64 h0_1, .ints true .i64 h0_2, .str h0_3], .cells 54 [.int .i64 h1_0, .bool h1_1, .str h1_2]]⟩ => some ((x8, x100, x101, x102, x106, x107, x108, h0_0, h0_1, h0_2, h0_3, h1_0, h1_1, h1_2), ())
  | _ => none
def y9 (v : Str × (List (List AV)) × Int × Int × (List Int) × Int × Int × (List (List AV)) × (List Int) × (List Int) × Str × Int × Bool × Str) (w : Unit) : St := ⟨[(1, .ptr (some (0, 0))), (8, .str v.1), (10, .ptr (some (1, 0))), (100, .sl true 3 v.2.1), (101, .int .i64 v.2.2.1), (102, .int .i64 v.2.2.2.1), (106, .ints true .i64 v.2.2.2.2.1), (107, .int .i64 v.2.2.2.2.2.1), (108, .int .i64 v.2.2.2.2.2.2.1)], [.cells 26 [.sl true 3 v.2.2.2.2.2.2.2.1, .ints true .i64 v.2.2.2.2.2.2.2.2.1, .ints true .i64 v.2.2.2.2.2.2.2.2.2.1, .str v.2.2.2.2.2.2.2.2.2.2.1], .cells 54 [.int .i64 v.2.2.2.2.2.2.2.2.2.2.2.1, .bool v.2.2.2.2.2.2.2.2.2.2.2.2.1, .str v.2.2.2.2.2.2.2.2.2.2.2.2.2]]⟩
def za (v : Str × (List (List AV)) × Int × Int × (List Int) × Int × Int × (List (List AV)) × (List Int) × (List Int) × Str × Int × Bool × Str) (o : (Unit) ⊕ ((List (List AV)) × (List Int) × (List Int) × Str × Int × Bool × Str)) (w : Unit) (R : Type) (K : AExit → St → Option R) : Option R := Sum.elim (fun (u0 : Unit) => K .ret ⟨[(0, .bool false)], []⟩) (fun (v0 : ((List (List AV)) × (List Int) × (List Int) × Str × Int × Bool × Str)) => K (.exit 6) ⟨[(1, .ptr (some (0, 0))), (8, .str v.1), (100, .sl true 3 v.2.1), (101, .int .i64 v.2.2.1), (102, .int .i64 v.2.2.2.1)], [.cells 26 [.sl true 3 v0.1, .ints true .i64 v0.2.1, .ints true .i64 v0.2.2.1, .str v0.2.2.2.1], .cells 54 [.int .i64 v0.2.2.2.2.1, .bool v0.2.2.2.2.2.1, .str v0.2.2.2.2.2.2]]⟩) o
def oJ (n : Nat) : Ex := xOf oI (fun v => bQ n n v.1 v.2.1 v.2.2.1 v.2.2.2.1 v.2.2.2.2.1 v.2.2.2.2.2.1 v.2.2.2.2.2.2.1 v.2.2.2.2.2.2.2.1 v.2.2.2.2.2.2.2.2.1 v.2.2.2.2.2.2.2.2.2.1 v.2.2.2.2.2.2.2.2.2.2.1 v.2.2.2.2.2.2.2.2.2.2.2.1 v.2.2.2.2.2.2.2.2.2.2.2.2.1 v.2.2.2.2.2.2.2.2.2.2.2.2.2) za
def dS (n : Nat) (x8 : Str) (x100 : List (List AV)) (x101 x102 : Int) (h0_0 : List (List AV)) (h0_1 h0_2 : List Int) (h0_3 : Str) (R : Type) (A_ : Str → (List (List AV)) → Int → Int → (List (List AV)) → (List Int) → (List Int) → Str → Option R) (K : ((Unit) ⊕ ((List (List AV)) × (List Int) × (List Int) × Str)) → Option R) : Option R := cond (decide (x102 < x101)) (cond (decide (0 ≤ x102)) ((x100[x102.toNat]?).bind fun e832 => (unc e832 fun c833 r834 => jR .i64 c833 fun x835 => unc r834 fun c836 r837 => l5 c836 fun x838 => unc r837 fun c839 r840 => l6 c839 fun x841 => unn r840 ((bQ n n x8 x100 x101 x102 ([(1 : Int), (16 : Int), (17 : Int), (128 : Int), (255 : Int), (256 : Int)] : List Int) (([(1 : Int), (16 : Int), (17 : Int), (128 : Int), (255 : Int), (256 : Int)] : List Int).length : Int) (0 : Int) h0_0 h0_1 h0_2 h0_3 x835 x838 x841).bind fun o847 => (Sum.elim (fun o848 => K (Sum.inl ())) (fun o849 => A_ x8 x100 x101 (IntKind.i64.wrap (x102 + (1 : Int))) o849.1 o849.2.1 o849.2.2.1 o849.2.2.2.1) o847)))) none) (K (Sum.inr (h0_0, h0_1, h0_2, h0_3)))
def aT (n : Nat) : Nat → Str → (List (List AV)) → Int → Int → (List (List AV)) → (List Int) → (List Int) → Str → Option ((Unit) ⊕ ((List (List AV)) × (List Int) × (List Int) × Str))
  | 0, _, _, _, _, _, _, _, _ => none
  | m + 1, x8, x100, x101, x102, h0_0, h0_1, h0_2, h0_3 => dS n x8 x100 x101 x102 h0_0 h0_1 h0_2 h0_3 _ (aT n m) some
def oK : St → Option ((Str × (List (List AV)) × Int × Int × (List (List AV)) × (List Int) × (List Int) × Str) × (Unit))
  | ⟨[(1, .ptr (some (0, 0))), (8, .str x8), (100, .sl true 3 x100), (101, .int .i64 x101), (102, .int .i64 x102)], [.cells 26 [.sl true 3 h0_0, .ints true .i64 h0_1, .ints true .i64 h0_2, .str h0_3]]⟩ => some ((x8, x100, x101, x102, h0_0, h0_1, h0_2, h0_3), ())
  | _ => none
def zb (v : Str × (List (List AV)) × Int × Int × (List (List AV)) × (List Int) × (List Int) × Str) (w : Unit) : St := ⟨[(1, .ptr (some (0, 0))), (8, .str v.1), (100, .sl true 3 v.2.1), (101, .int .i64 v.2.2.1), (102, .int .i64 v.2.2.2.1)], [.cells 26 [.sl true 3 v.2.2.2.2.1, .ints true .i64 v.2.2.2.2.2.1, .ints true .i64 v.2.2.2.2.2.2.1, .str v.2.2.2.2.2.2.2]]⟩
def ze (v : Str × (List (List AV)) × Int × Int × (List (List AV)) × (List Int) × (List Int) × Str) (o : (Unit) ⊕ ((List (List AV)) × (List Int) × (List Int) × Str)) (w : Unit) (R : Type) (K : AExit → St → Option R) : Option R := Sum.elim (fun (u0 : Unit) => K .ret ⟨[(0, .bool false)], []⟩) (fun (v0 : ((List (List AV)) × (List Int) × (List Int) × Str)) => K (.exit 4) ⟨[(1, .ptr (some (0, 0)))], [.cells 26 [.sl true 3 v0.1, .ints true .i64 v0.2.1, .ints true .i64 v0.2.2.1, .str v0.2.2.2]]⟩) o
def oL (n : Nat) : Ex := xOf oK (fun v => aT n n v.1 v.2.1 v.2.2.1 v.2.2.2.1 v.2.2.2.2.1 v.2.2.2.2.2.1 v.2.2.2.2.2.2.1 v.2.2.2.2.2.2.2) ze
theorem wK (n : Nat) : Snd ⟨Tryd.prog, 0, 183⟩ (oF n) (Tryd.f7.body.getD .skip).a2.a2.a2.a2.a2.a2.a1.a2.a1.a1.a2.a2.a1.a1.a2.a2.a1.a1.a2.a2.a1.a1.a2.a2.a1.a2.a1 := aH (t := yZ) (b := fun v R A K => dQ n v.1 v.2.1 v.2.2.1 v.2.2.2.1 v.2.2.2.2.1 v.2.2.2.2.2.1 v.2.2.2.2.2.2.1 v.2.2.2.2.2.2.2.1 v.2.2.2.2.2.2.2.2.1 v.2.2.2.2.2.2.2.2.2.1 v.2.2.2.2.2.2.2.2.2.2.1 v.2.2.2.2.2.2.2.2.2.2.2.1 v.2.2.2.2.2.2.2.2.2.2.2.2 R (fun z0 z1 z2 z3 z4 z5 z6 z7 z8 z9 z10 z11 z12 => A (z0, z1, z2, z3, z4, z5, z6, z7, z8, z9, z10, z11, z12)) K) (f := fun m v => bP n m v.1 v.2.1 v.2.2.1 v.2.2.2.1 v.2.2.2.2.1 v.2.2.2.2.2.1 v.2.2.2.2.2.2.1 v.2.2.2.2.2.2.2.1 v.2.2.2.2.2.2.2.2.1 v.2.2.2.2.2.2.2.2.2.1 v.2.2.2.2.2.2.2.2.2.2.1 v.2.2.2.2.2.2.2.2.2.2.2.1 v.2.2.2.2.2.2.2.2.2.2.2.2) (m := (fun e => match e with | .exit 8 => ([1, 8, 10, 12, 13, 100, 101, 102, 106, 107, 108], none) | .normal => ([1, 8, 10, 12, 13, 14, 100, 101, 102, 106, 107, 108], none) | _ => ([], none))) n (.s .a (.s (.u (.r [(1, .lt), (4, .tk [123]), (6, .tk [126])])) .a)) (by intro s v w h; unfold oD at h; split at h <;> first | (cases h; rfl) | cases h) (fun _ _ _ _ => by kernel_rfl) (by intros; unfold dQ; simp only [aS]) (fun _ => rfl) (fun _ _ => rfl) (fun _ => rfl) (fun _ _ _ _ _ _ => by kernel_rfl) (fun _ _ _ _ _ _ => by kernel_rfl) (by intro e n h; split at h <;> cases h) (by kernel_rfl) (by kernel_rfl) trivial
theorem wL (n : Nat) : Snd ⟨Tryd.prog, 0, 183⟩ (oH n) (Tryd.f7.body.getD .skip).a2.a2.a2.a2.a2.a2.a1.a2.a1.a1.a2.a2.a1.a1.a2.a2.a1.a1.a2.a2.a1.a1.a2.a2.a2.a1 := dA (t := y7) (b := fun v R K => gG n v.1 v.2.1 v.2.2.1 v.2.2.2.1 v.2.2.2.2.1 v.2.2.2.2.2.1 v.2.2.2.2.2.2.1 v.2.2.2.2.2.2.2.1 v.2.2.2.2.2.2.2.2.1 v.2.2.2.2.2.2.2.2.2.1 v.2.2.2.2.2.2.2.2.2.2.1 v.2.2.2.2.2.2.2.2.2.2.2 R K) (m := (fun e => match e with | .normal => ([1, 8, 10, 100, 101, 102, 106, 107, 108, 140], none) | _ => ([], none))) (.r [(2, .cl 4 (bV n)), (10, .cl 6 (jD n))]) (by intro s v w h; unfold oG at h; split at h <;> first | (cases h; rfl) | cases h) (fun _ _ _ _ => by kernel_rfl) (by intros; unfold gG; simp only [aS]) (fun _ => by kernel_rfl) (by intro e n h; split at h <;> cases h) (by kernel_rfl) (by kernel_rfl) (ai (bX n) (ai (kL n) trivial))
theorem wM (n : Nat) : Snd ⟨Tryd.prog, 0, 183⟩ (oq n) (Tryd.f7.body.getD .skip).a2.a2.a2.a2.a1.a2.a1.a1.a2.a1.a1.a1.a2.a1 := aH (t := yS) (b := fun v R A K => dO n v.1 v.2.1 v.2.2.1 v.2.2.2.1 v.2.2.2.2.1 v.2.2.2.2.2.1 v.2.2.2.2.2.2.1 v.2.2.2.2.2.2.2.1 v.2.2.2.2.2.2.2.2 R (fun z0 z1 z2 z3 z4 z5 z6 z7 z8 => A (z0, z1, z2, z3, z4, z5, z6, z7, z8)) K) (f := fun m v => bO n m v.1 v.2.1 v.2.2.1 v.2.2.2.1 v.2.2.2.2.1 v.2.2.2.2.2.1 v.2.2.2.2.2.2.1 v.2.2.2.2.2.2.2.1 v.2.2.2.2.2.2.2.2) (m := (fun e => match e with | .ret => ([0], some 0) | .exit 2 => ([1, 2, 4], none) | .normal => ([1, 2, 4, 53, 54, 55], some 0) | _ => ([], none))) n (.s .a (.s .a (.s (.u (.s .a (.s (.r [(2, .an [59])]) (.s .a (.s (.z [7] (.r [(0, .tk [7]), (1, .cl 20 (kM n))])) .a))))) .a))) (by intro s v w h; unfold oo at h; split at h <;> first | (cases h; rfl) | cases h) (fun _ _ _ _ => by kernel_rfl) (by intros; unfold dO; simp only [aS]) (fun _ => rfl) (fun _ _ => rfl) (fun _ => rfl) (fun _ _ _ _ _ _ => by kernel_rfl) (fun _ _ _ _ _ _ => by kernel_rfl) (by intro e n h; cases e <;> (first | cases h | (split at h <;> cases h)) <;> rfl) (by kernel_rfl) (by kernel_rfl) (ai (nA n) trivial)
theorem wN (n : Nat) : Snd ⟨Tryd.prog, 0, 183⟩ (ow n) (Tryd.f7.body.getD .skip).a2.a2.a2.a2.a1.a2.a1.a1.a2.a1.a1.a2.a1 := dA (t := yU) (b := fun v R K => gF n v.1 v.2.1 v.2.2.1 v.2.2.2.1 v.2.2.2.2.1 v.2.2.2.2.2 R K) (m := (fun e => match e with | .normal => ([1, 2, 4, 86], none) | _ => ([], none))) (.r [(3, .cl 20 (kM n)), (9, .cl 5 (lN n))]) (by intro s v w h; unfold ou at h; split at h <;> first | (cases h; rfl) | cases h) (fun _ _ _ _ => by kernel_rfl) (by intros; unfold gF; simp only [aS]) (fun _ => by kernel_rfl) (by intro e n h; split at h <;> cases h) (by kernel_rfl) (by kernel_rfl) (ai (nA n) (ai (oh n) trivial))
theorem wO (n : Nat) : Snd ⟨Tryd.prog, 0, 183⟩ (oJ n) (Tryd.f7.body.getD .skip).a2.a2.a2.a2.a2.a2.a1.a2.a1.a1.a2.a2.a1.a1.a2.a2.a1 := aH (t := y9) (b := fun v R A K => dR n v.1 v.2.1 v.2.2.1 v.2.2.2.1 v.2.2.2.2.1 v.2.2.2.2.2.1 v.2.2.2.2.2.2.1 v.2.2.2.2.2.2.2.1 v.2.2.2.2.2.2.2.2.1 v.2.2.2.2.2.2.2.2.2.1 v.2.2.2.2.2.2.2.2.2.2.1 v.2.2.2.2.2.2.2.2.2.2.2.1 v.2.2.2.2.2.2.2.2.2.2.2.2.1 v.2.2.2.2.2.2.2.2.2.2.2.2.2 R (fun z0 z1 z2 z3 z4 z5 z6 z7 z8 z9 z10 z11 z12 z13 => A (z0, z1, z2, z3, z4, z5, z6, z7, z8, z9, z10, z11, z12, z13)) K) (f := fun m v => bQ n m v.1 v.2.1 v.2.2.1 v.2.2.2.1 v.2.2.2.2.1 v.2.2.2.2.2.1 v.2.2.2.2.2.2.1 v.2.2.2.2.2.2.2.1 v.2.2.2.2.2.2.2.2.1 v.2.2.2.2.2.2.2.2.2.1 v.2.2.2.2.2.2.2.2.2.2.1 v.2.2.2.2.2.2.2.2.2.2.2.1 v.2.2.2.2.2.2.2.2.2.2.2.2.1 v.2.2.2.2.2.2.2.2.2.2.2.2.2) (m := (fun e => match e with | .ret => ([0], some 0) | .exit 6 => ([1, 8, 100, 101, 102], none) | .normal => ([1, 8, 10, 100, 101, 102, 106, 107, 108], some 0) | _ => ([], none))) n (.s .a (.s .a (.s (.u (.s .a (.s (.r [(6, .tk [116])]) (.s (.s .a (.u (.p (aA ([1, 8, 10, 12, 13, 14, 100, 101, 102, 106, 107, 108], none) (oF n))))) (.s (.p (aA ([1, 8, 10, 12, 13, 100, 101, 102, 106, 107, 108], none) (oH n))) .a))))) .a))) (by intro s v w h; unfold oI at h; split at h <;> first | (cases h; rfl) | cases h) (fun _ _ _ _ => by kernel_rfl) (by intros; unfold dR; simp only [aS]) (fun _ => rfl) (fun _ _ => rfl) (fun _ => rfl) (fun _ _ _ _ _ _ => by kernel_rfl) (fun _ _ _ _ _ _ => by kernel_rfl) (by intro e n h; cases e <;> (first | cases h | (split at h <;> cases h)) <;> rfl) (by kernel_rfl) (by kernel_rfl) (ai (aP [1, 8, 10, 12, 13, 14, 100, 101, 102, 106, 107, 108] (wK n)) (ai (aP [1, 8, 10, 12, 13, 100, 101, 102, 106, 107, 108] (wL n)) trivial))
theorem wP (n : Nat) : Snd ⟨Tryd.prog, 0, 183⟩ (om n) (Tryd.f7.body.getD .skip).a2.a2.a2.a1.a1 := dA (t := yQ) (b := fun v R K => gD n v.1 v.2.1 v.2.2.1 v.2.2.2.1 v.2.2.2.2 R K) (m := (fun e => match e with | .normal => ([1, 2, 46], none) | _ => ([], none))) (.r [(5, .cl 4 (bV n)), (10, .cl 5 (lN n)), (15, .cl 6 (jD n))]) (by intro s v w h; unfold ol at h; split at h <;> first | (cases h; rfl) | cases h) (fun _ _ _ _ => by kernel_rfl) (by intros; unfold gD; simp only [aS]) (fun _ => by kernel_rfl) (by intro e n h; split at h <;> cases h) (by kernel_rfl) (by kernel_rfl) (ai (bX n) (ai (oh n) (ai (kL n) trivial)))
theorem wQ (n : Nat) : Snd ⟨Tryd.prog, 0, 183⟩ (oC n) (Tryd.f7.body.getD .skip).a2.a2.a2.a2.a1.a2.a1 := aH (t := yX) (b := fun v R A K => dP n v.1 v.2.1 v.2.2.1 v.2.2.2.1 v.2.2.2.2.1 v.2.2.2.2.2 R (fun z0 z1 z2 z3 z4 z5 => A (z0, z1, z2, z3, z4, z5)) K) (f := fun m v => bg n m v.1 v.2.1 v.2.2.1 v.2.2.2.1 v.2.2.2.2.1 v.2.2.2.2.2) (m := (fun e => match e with | .ret => ([0], some 0) | .exit 0 => ([1], none) | .normal => ([1, 2, 4], none) | _ => ([], none))) n (.s .a (.s (.u (.s (.s .a (.u (.p (aA ([1, 2, 4, 53, 54, 55], some 0) (oq n))))) (.s (.p (aA ([1, 2, 4], none) (ow n))) .a))) .a)) (by intro s v w h; unfold oz at h; split at h <;> first | (cases h; rfl) | cases h) (fun _ _ _ _ => by kernel_rfl) (by intros; unfold dP; simp only [aS]) (fun _ => rfl) (fun _ _ => rfl) (fun _ => rfl) (fun _ _ _ _ _ _ => by kernel_rfl) (fun _ _ _ _ _ _ => by kernel_rfl) (by intro e n h; cases e <;> (first | cases h | (split at h <;> cases h)) <;> rfl) (by kernel_rfl) (by kernel_rfl) (ai (xZ [1, 2, 4, 53, 54, 55] (wM n)) (ai (aP [1, 2, 4] (wN n)) trivial))
theorem wR (n : Nat) : Snd ⟨Tryd.prog, 0, 183⟩ (oL n) (Tryd.f7.body.getD .skip).a2.a2.a2.a2.a2.a2.a1.a2.a1 := aH (t := zb) (b := fun v R A K => dS n v.1 v.2.1 v.2.2.1 v.2.2.2.1 v.2.2.2.2.1 v.2.2.2.2.2.1 v.2.2.2.2.2.2.1 v.2.2.2.2.2.2.2 R (fun z0 z1 z2 z3 z4 z5 z6 z7 => A (z0, z1, z2, z3, z4, z5, z6, z7)) K) (f := fun m v => aT n m v.1 v.2.1 v.2.2.1 v.2.2.2.1 v.2.2.2.2.1 v.2.2.2.2.2.1 v.2.2.2.2.2.2.1 v.2.2.2.2.2.2.2) (m := (fun e => match e with | .ret => ([0], some 0) | .exit 4 => ([1], none) | .normal => ([1, 8, 100, 101, 102], some 0) | _ => ([], none))) n (.s .a (.s .a (.s (.u (.s .a (.s .a (.u (.p (aA ([1, 8, 10, 100, 101, 102, 106, 107, 108], some 0) (oJ n))))))) .a))) (by intro s v w h; unfold oK at h; split at h <;> first | (cases h; rfl) | cases h) (fun _ _ _ _ => by kernel_rfl) (by intros; unfold dS; simp only [aS]) (fun _ => rfl) (fun _ _ => rfl) (fun _ => rfl) (fun _ _ _ _ _ _ => by kernel_rfl) (fun _ _ _ _ _ _ => by kernel_rfl) (by intro e n h; cases e <;> (first | cases h | (split at h <;> cases h)) <;> rfl) (by kernel_rfl) (by kernel_rfl) (ai (xZ [1, 8, 10, 100, 101, 102, 106, 107, 108] (wO n)) trivial)
def lQ (n : Nat) (R : Type) (K : Bool → Option R) : Option R := (mZ n ([[.int .i64 (3600 : Int), .bool false, .str ([67, 69, 84] : Str)], [.int .i64 (7200 : Int), .bool true, .str ([67, 69, 83, 84] : Str)]] : List (List AV)) ([(-1099511627776 : Int), (0 : Int), (1099511627776 : Int)] : List Int) ([(0 : Int), (1 : Int), (0 : Int)] : List Int) ([67, 69, 84, 45, 49, 67, 69, 83, 84, 44, 77, 51, 46, 53, 46, 48, 44, 77, 49, 48, 46, 53, 46, 48, 47, 51] : Str)).bind fun o813 => ((fB n o813.2 ([[.int .i64 (3600 : Int), .bool false, .str ([67, 69, 84] : Str)], [.int .i64 (7200 : Int), .bool true, .str ([67, 69, 83, 84] : Str)]] : List (List AV)) ([(-1099511627776 : Int), (0 : Int), (1099511627776 : Int)] : List Int) ([(0 : Int), (1 : Int), (0 : Int)] : List Int) ([67, 69, 84, 45, 49, 67, 69, 83, 84, 44, 77, 51, 46, 53, 46, 48, 44, 77, 49, 48, 46, 53, 46, 48, 47, 51] : Str)).bind fun o817 => (cond o817.1 (K false) ((bg n n o813.1 (0 : Int) o817.2.1 o817.2.2.1 o817.2.2.2.1 o817.2.2.2.2).bind fun o829 => (Sum.elim (fun o830 => K false) (fun o831 => cond (decide ((15 : Int) ≤ (([97, 98, 99, 100, 101, 102, 103, 104, 105, 106, 107, 108, 109, 110, 111, 112] : Str).length : Int))) ((aT n n ([97, 98, 99, 100, 101, 102, 103, 104, 105, 106, 107, 108, 109, 110, 111, 112] : Str) ([[.int .i64 (-89999 : Int), .bool false, .str ([97] : Str)], [.int .i64 (-90000 : Int), .bool false, .str ([97] : Str)], [.int .i64 (93599 : Int), .bool false, .str ([97] : Str)], [.int .i64 (93600 : Int), .bool false, .str ([97] : Str)], [.int .i64 (0 : Int), .bool false, .str ([] : Str)], [.int .i64 (0 : Int), .bool false, .str ((([97, 98, 99, 100, 101, 102, 103, 104, 105, 106, 107, 108, 109, 110, 111, 112] : Str).take 15).drop 0)], [.int .i64 (0 : Int), .bool false, .str ([97, 98, 99, 100, 101, 102, 103, 104, 105, 106, 107, 108, 109, 110, 111, 112] : Str)], [.int .i64 (0 : Int), .bool false, .str ([97, 32, 98] : Str)], [.int .i64 (0 : Int), .bool false, .str ([126, 33] : Str)], [.int .i64 (0 : Int), .bool false, .str ([127] : Str)]] : List (List AV)) (([[.int .i64 (-89999 : Int), .bool false, .str ([97] : Str)], [.int .i64 (-90000 : Int), .bool false, .str ([97] : Str)], [.int .i64 (93599 : Int), .bool false, .str ([97] : Str)], [.int .i64 (93600 : Int), .bool false, .str ([97] : Str)], [.int .i64 (0 : Int), .bool false, .str ([] : Str)], [.int .i64 (0 : Int), .bool false, .str ((([97, 98, 99, 100, 101, 102, 103, 104, 105, 106, 107, 108, 109, 110, 111, 112] : Str).take 15).drop 0)], [.int .i64 (0 : Int), .bool false, .str ([97, 98, 99, 100, 101, 102, 103, 104, 105, 106, 107, 108, 109, 110, 111, 112] : Str)], [.int .i64 (0 : Int), .bool false, .str ([97, 32, 98] : Str)], [.int .i64 (0 : Int), .bool false, .str ([126, 33] : Str)], [.int .i64 (0 : Int), .bool false, .str ([127] : Str)]] : List (List AV)).length : Int) (0 : Int) o831.1 o831.2.1 o831.2.2.1 o831.2.2.2).bind fun o850 => (Sum.elim (fun o851 => K false) (fun o852 => cond (decide ((2 : Int) ≤ (o852.2.1.length : Int))) ((aB n o852.1 o852.2.1 ([(0 : Int), (2 : Int), (0 : Int)] : List Int) o852.2.2.2 o852.1 o852.2.1 o852.2.2.1 o852.2.2.2 (0 : Int)).bind fun o853 => (cond o853 ((aB n o852.1 ([(1 : Int), (1 : Int), (2 : Int)] : List Int) o852.2.2.1 o852.2.2.2 o852.1 o852.2.1 o852.2.2.1 o852.2.2.2 (1 : Int)).bind fun o854 => (cond o854 ((aB n o852.1 ((o852.2.1.take 2).drop 0) o852.2.2.1 o852.2.2.2 o852.1 o852.2.1 o852.2.2.1 o852.2.2.2 (1 : Int)).bind fun o855 => (cond o855 ((aB n ([] : List (List AV)) ([] : List Int) ([] : List Int) ([] : Str) o852.1 o852.2.1 o852.2.2.1 o852.2.2.2 (0 : Int)).bind fun o856 => (cond o856 ((bq n o852.1 ([(-2147483648 : Int), (2147483647 : Int)] : List Int) ([(1 : Int), (0 : Int)] : List Int) ([] : Str) (0 : Int) (0 : Int)).bind fun o857 => (cond o857 ((aC n ).bind fun o858 => (K o858)) (K false))) (K false))) (K false))) (K false))) (K false))) none) o850)) none) o829))))
def ji (n : Nat) : Option (Bool) := lQ n _ some
def lS : List AV → List AObj → Option (Unit)
  | [], [] => some ()
  | _, _ => none
def qD (n : Nat) : FSpec := iQ lS (fun v => ji n) (fun o => .bool o) (fun o => [])
theorem xU (n : Nat) : FSound Tryd.prog 7 (qD n) := aG (t := fun v => ⟨[], []⟩) (b := fun v R K => lQ n R K) (nt := 183) (n := some 0) (rs := [.tmp 0]) (.s .a (.s (.r [(5, .tk [20, 21, 22]), (7, .tk [23])]) (.s (.r [(1, .cl 13 (uQ n)), (4, .tk [24])]) (.s (.s (.p (aA ([1, 2, 3], none) (om n))) .a) (.s (.s .a (.u (.p (aA ([1, 2, 4], some 0) (oC n))))) (.s .a (.s (.s .a (.u (.p (aA ([1, 8, 100, 101, 102], some 0) (oL n))))) (.s .a (.s (.r [(2, .tk [144])]) (.s .a (.s (.r [(2, .tk [147])]) (.s .a (.s .a (.s (.r [(2, .cl 4 (bV n)), (6, .cl 4 (bV n)), (11, .cl 4 (bV n)), (16, .cl 4 (bV n)), (23, .tk [175, 176]), (24, .cl 6 (jD n)), (27, .cl 10 (aU n))]) .a)))))))))))))) Tryd.func7 (by kernel_rfl) rfl rfl rfl (fun _ h => by injection h with h; exact h.symm) (by decide) (by kernel_rfl) (by intro s v w h; unfold lS at h; split at h <;> first | (cases h; exact ⟨Nat.le_of_ble_eq_true rfl, rfl, rfl⟩) | cases h) (fun _ _ _ => by kernel_rfl) (by intros; unfold lQ; simp only [aS]) (fun _ => by kernel_rfl) (by kernel_rfl) (by kernel_rfl) (ai (qP n) (ai (aP [1, 2, 3] (wP n)) (ai (xZ [1, 2, 4] (wQ n)) (ai (xZ [1, 8, 100, 101, 102] (wR n)) (ai (bX n) (ai (bX n) (ai (bX n) (ai (bX n) (ai (kL n) (ai (aQ n) trivial))))))))))
end Go.Proofs.YtcbgfjghebopoaaDoor.H
namespace Go.Proofs.YtcbgfjghebopoaaDoor.H
open Go.Sh Go.RowKit
set_option linter.unusedSimpArgs false
set_option linter.unusedVariables false
def Vt (x e : Int) : Int := IntKind.u64.wrap ((BitVec.ofInt 64 (IntKind.u64.wrap (x * 2 ^ 8)) ||| BitVec.ofInt 64 (IntKind.u64.wrap e)).toNat : Int)
def Vu : Int → List Int → Int
  | x, [] => x
  | x, e :: r => Vu (Vt x e) r
theorem TI (x e : Int) (h0 : 0 ≤ e) (h1 : e < 256) : Vt x e = (x * 256 + e) % 18446744073709551616 := by
  unfold Vt
  rw [IntKind.wrap_u64, IntKind.wrap_u64, IntKind.wrap_u64, BitVec.toNat_or, Ht, Ht]
  obtain ⟨e, rfl⟩ := Int.eq_ofNat_of_zero_le h0
  have e1 : ((x * 2 ^ 8) % 18446744073709551616 % 18446744073709551616).toNat = (x % 72057594037927936).toNat * 2 ^ 8 := by
    rw [show ((2 : Int) ^ 8) = 256 from rfl]; omega
  have e2 : (((e : Nat) : Int) % 18446744073709551616 % 18446744073709551616).toNat = e := by omega
  rw [e1, e2, ← Nat.shiftLeft_eq, ← Nat.shiftLeft_add_eq_or_of_lt (by omega), Nat.shiftLeft_eq]
  omega
theorem R5 : ∀ (k : Nat) (x v : Int), k ≤ 8 → 0 ≤ x → x < 18446744073709551616 → Vu x (be k v) = (x * 256 ^ k + v % 256 ^ k) % 18446744073709551616
  | 0, x, v, _, h1, h2 => by
    simp only [be, Vu, Int.pow_zero, Int.mul_one, Int.emod_one, Int.add_zero]
    omega
  | k + 1, x, v, hk, h1, h2 => by
    have hb : ∃ q, IntKind.u8.wrap (Int.fdiv v (2 ^ (8 * k))) = q ∧ 0 ≤ q ∧ q < 256 ∧ q = (v / 256 ^ k) % 256 := by
      refine ⟨_, rfl, ?_⟩
      rw [IntKind.wrap_u8, Int.fdiv_eq_ediv_of_nonneg _ (Int.le_of_lt (Int.pow_pos (by omega))), Int.pow_mul, show ((2 : Int) ^ 8) = 256 from rfl]
      omega
    obtain ⟨q, e1, q0, q1, q2⟩ := hb
    simp only [be, Vu, e1]
    rw [TI x q q0 q1, R5 k _ v (by omega) (by omega) (by omega)]
    rw [q2] at *
    have hk' : k = 0 ∨ k = 1 ∨ k = 2 ∨ k = 3 ∨ k = 4 ∨ k = 5 ∨ k = 6 ∨ k = 7 := by omega
    rcases hk' with rfl | rfl | rfl | rfl | rfl | rfl | rfl | rfl <;> simp only [Int.reducePow, Nat.reduceAdd] at * <;> omega
theorem Vv (n : Nat) (b : List Int) (a k : Nat) (hk : k ≤ 8) (hab : a + k ≤ 1000000000) : ∀ (r : List Int) (q : List Int) (i m : Nat) (x : Int), i + r.length = k → b.drop (a + i) = r ++ q → r.length < m → fe n m b (a : Int) (k : Int) x (i : Int) = some (Vu x r)
  | [], q, i, m + 1, x, hi, _, _ => by
    simp only [List.length_nil] at hi
    simp only [fe, iF]
    rw [ah (by omega)]
    rfl
  | c :: r, q, i, m + 1, x, hi, hd, hm => by
    simp only [List.length_cons] at hi hm
    obtain ⟨k1, k2, k3⟩ := aI (show b.drop (a + i) = c :: (r ++ q) from hd)
    simp only [fe, iF]
    have ea : IntKind.i64.wrap ((a : Int) + (i : Int)) = ((a + i : Nat) : Int) := by rw [wi _ (by omega) (by omega)]; omega
    rw [aa (by omega), ea, aa (by omega), Int.toNat_natCast, k1, gz _ (by omega)]
    simp only [Option.bind_some]
    exact Vv n b a k hk hab r q (i + 1) m _ (by omega) (by rw [← k2]; rfl) (by omega)
theorem O8 (n : Nat) (hn : 9 ≤ n) (b : List Int) (a k : Nat) (hk : k ≤ 8) (hab : a + k ≤ 1000000000) (v : Int) (q : List Int) (hd : b.drop a = be k v ++ q) : aX n b (a : Int) (k : Int) = some (v % 256 ^ k) := by
  unfold aX mP
  have := Vv n b a k hk hab (be k v) q 0 n 0 (by rw [fH]; omega) (by simpa using hd) (by rw [fH]; omega)
  simp only [Int.natCast_zero] at this
  rw [this, R5 k 0 v hk (by omega) (by omega)]
  simp only [Option.bind_some, Int.zero_mul, Int.zero_add]
  congr 1
  have hk' : k = 0 ∨ k = 1 ∨ k = 2 ∨ k = 3 ∨ k = 4 ∨ k = 5 ∨ k = 6 ∨ k = 7 ∨ k = 8 := by omega
  rcases hk' with rfl | rfl | rfl | rfl | rfl | rfl | rfl | rfl | rfl <;> simp only [Int.reducePow] <;> omega
theorem R6 (n : Nat) (hn : 9 ≤ n) (b : List Int) (a : Nat) (hab : a + 4 ≤ 1000000000) (v : Int) (h1 : -2147483648 ≤ v) (h2 : v ≤ 2147483647) (q : List Int) (hd : b.drop a = be 4 v ++ q) : bF n b (a : Int) 4 = some v := by
  unfold bF iH
  have hg : aX n b (a : Int) (4 : Int) = some (v % 256 ^ 4) := O8 n hn b a 4 (by omega) hab v q hd
  rw [hg, show ((256 : Int) ^ 4) = 4294967296 from rfl]
  simp only [Option.bind_some]
  rw [show ((4 : Int) == 4) = true by decide, cond_true, wi (v % 4294967296) (by omega) (by omega)]
  by_cases c : v % 4294967296 ≥ 2147483648
  · rw [aa c, wi _ (by omega) (by omega)]; congr 1; omega
  · rw [ah c]; congr 1; omega
theorem WA (n : Nat) (hn : 9 ≤ n) (b : List Int) (a : Nat) (hab : a + 8 ≤ 1000000000) (v : Int) (h1 : -9223372036854775808 ≤ v) (h2 : v ≤ 9223372036854775807) (q : List Int) (hd : b.drop a = be 8 v ++ q) : bF n b (a : Int) 8 = some v := by
  unfold bF iH
  have hg : aX n b (a : Int) (8 : Int) = some (v % 256 ^ 8) := O8 n hn b a 8 (by omega) hab v q hd
  rw [hg, show ((256 : Int) ^ 8) = 18446744073709551616 from rfl]
  simp only [Option.bind_some]
  rw [show ((8 : Int) == 4) = false by decide, cond_false]
  congr 1
  rw [IntKind.wrap_i64]; omega
theorem Hz (n : Nat) {w u s l T K N : Nat} (hw : w = 4 ∨ w = 8) (hu : u < 4294967296) (hs : s < 4294967296) (hl : l < 4294967296) (hT : T < 4294967296) (hK : K < 4294967296) (hN : N < 4294967296) :
    bn n (u : Int) (s : Int) (l : Int) (T : Int) (K : Int) (N : Int) (w : Int) = some (gZ w u s l T K N : Int) := by
  unfold bn lZ
  rw [WN hw hu hs hl hT hK hN]
def uB (m4 s15 : List Int) (v : Int) (c1 c2 c3 c4 c5 c6 : Nat) (r : List Int) : List Int :=
  m4 ++ (be 1 v ++ (s15 ++ (be 4 (c1 : Int) ++ (be 4 (c2 : Int) ++ (be 4 (c3 : Int) ++ (be 4 (c4 : Int) ++ (be 4 (c5 : Int) ++ (be 4 (c6 : Int) ++ r))))))))
theorem WB {l : List Int} (h : l.length = 4) (hb : BY l) : ∃ v : Nat, v < 4294967296 ∧ l = be 4 (v : Int) := by
  obtain ⟨v, hv, e⟩ := RS h hb
  exact ⟨v.toNat, by omega, by rw [e, Int.toNat_of_nonneg hv.1]⟩
theorem TJ {b : List Int} (hb : BY b) (hl : 4 ≤ b.length) : ∃ v : Nat, v < 4294967296 ∧ b = be 4 (v : Int) ++ b.drop 4 := by
  obtain ⟨v, hv, e⟩ := WB (l := b.take 4) (by rw [List.length_take]; omega) (hb.take 4)
  exact ⟨v, hv, by rw [← e, List.take_append_drop]⟩
theorem R7 {b : List Int} (hb : BY b) (hl : 44 ≤ b.length) : ∃ m4 s15 v c1 c2 c3 c4 c5 c6 r, b = uB m4 s15 v c1 c2 c3 c4 c5 c6 r ∧ m4.length = 4 ∧ s15.length = 15 ∧ (0 ≤ v ∧ v ≤ 255) ∧ c1 < 4294967296 ∧ c2 < 4294967296 ∧ c3 < 4294967296 ∧ c4 < 4294967296 ∧ c5 < 4294967296 ∧ c6 < 4294967296 ∧ r = b.drop 44 := by
  obtain ⟨v, hv, e1⟩ := O5 (l := (b.drop 4).take 1) (by rw [List.length_take, List.length_drop]; omega) ((hb.drop 4).take 1)
  obtain ⟨c1, h1, f1⟩ := TJ (hb.drop 20) (by rw [List.length_drop]; omega)
  obtain ⟨c2, h2, f2⟩ := TJ (hb.drop 24) (by rw [List.length_drop]; omega)
  obtain ⟨c3, h3, f3⟩ := TJ (hb.drop 28) (by rw [List.length_drop]; omega)
  obtain ⟨c4, h4, f4⟩ := TJ (hb.drop 32) (by rw [List.length_drop]; omega)
  obtain ⟨c5, h5, f5⟩ := TJ (hb.drop 36) (by rw [List.length_drop]; omega)
  obtain ⟨c6, h6, f6⟩ := TJ (hb.drop 40) (by rw [List.length_drop]; omega)
  simp only [List.drop_drop, Nat.reduceAdd] at f1 f2 f3 f4 f5 f6
  refine ⟨b.take 4, (b.drop 5).take 15, v, c1, c2, c3, c4, c5, c6, b.drop 44, ?_, by rw [List.length_take]; omega, by rw [List.length_take, List.length_drop]; omega, hv, h1, h2, h3, h4, h5, h6, rfl⟩
  unfold uB
  rw [← f6, ← f5, ← f4, ← f3, ← f2, ← f1, ← e1]
  have g1 : (b.drop 5).take 15 ++ b.drop 20 = b.drop 5 := by
    have := List.take_append_drop 15 (b.drop 5)
    rw [List.drop_drop] at this
    exact this
  have g2 : (b.drop 4).take 1 ++ b.drop 5 = b.drop 4 := by
    have := List.take_append_drop 1 (b.drop 4)
    rw [List.drop_drop] at this
    exact this
  rw [g1, g2, List.take_append_drop]
def isH (m4 : List Int) (v : Int) : Bool := (strOf m4 == ([84, 90, 105, 102] : Str)) && !(v != 0 && (v != 50 && v != 51))
theorem HV {m4 s15 : List Int} {v : Int} {c1 c2 c3 c4 c5 c6 : Nat} (hm : m4.length = 4) (hs : s15.length = 15) (hv : 0 ≤ v ∧ v ≤ 255) (h1 : c1 < 4294967296) (h2 : c2 < 4294967296) (h3 : c3 < 4294967296) (h4 : c4 < 4294967296) (h5 : c5 < 4294967296) (h6 : c6 < 4294967296) (r : List Int) :
    mK (uB m4 s15 v c1 c2 c3 c4 c5 c6 r) false = (v, (c1 : Int), (c2 : Int), (c3 : Int), (c4 : Int), (c5 : Int), (c6 : Int), r, !isH m4 v) := by
  have t1 : ∀ r' bad, cB 4 (m4 ++ r') bad = (m4, r', bad) := fun r' bad => by
    have := il m4 r' bad
    rw [hm] at this; exact this
  have hv8 : IntKind.u8.wrap v = v := by rw [IntKind.wrap_u8]; omega
  have t2 : ∀ r' bad, dE 1 (be 1 v ++ r') bad = (v, r', bad) := fun r' bad => by
    have this : dE (1 : Int) (be 1 v ++ r') bad = (IntKind.i64.wrap (v % 256 ^ 1), r', bad) := xK 1 (by omega) v r' bad
    rw [this, show ((256 : Int) ^ 1) = 256 from rfl, wi _ (by omega) (by omega)]
    congr 1 <;> omega
  have t3 : ∀ r' bad, cB 15 (s15 ++ r') bad = (s15, r', bad) := fun r' bad => by
    have := il s15 r' bad
    rw [hs] at this; exact this
  have t4 : ∀ (c : Nat), c < 4294967296 → ∀ r' bad, dE 4 (be 4 (c : Int) ++ r') bad = ((c : Int), r', bad) := fun c hc r' bad => by
    have this : dE (4 : Int) (be 4 (c : Int) ++ r') bad = (IntKind.i64.wrap ((c : Int) % 256 ^ 4), r', bad) := xK 4 (by omega) c r' bad
    rw [this, show ((256 : Int) ^ 4) = 4294967296 from rfl, wi _ (by omega) (by omega)]
    congr 1; omega
  unfold mK uB isH
  simp only [t1, t2, t3, t4 c1 h1, t4 c2 h2, t4 c3 h3, t4 c4 h4, t4 c5 h5, t4 c6 h6, hv8, Bool.or_false]
  cases strOf m4 == ([84, 90, 105, 102] : Str) <;> simp
theorem JK (n : Nat) (b : List Int) (a : Nat) (ha : a ≤ b.length) (hb : b.length ≤ 1000000) (hl : b.length < a + 44) : aV n b (a : Int) = some (0, 0, 0, 0, 0, 0, 0, false) := by
  unfold aV iG gQ fO
  rw [wi ((b.length : Int) - (a : Int)) (by omega) (by omega), aa (by omega)]
  rfl
set_option maxRecDepth 4000 in
theorem FC (n : Nat) (hn : 20 ≤ n) {b : List Int} {a : Nat} (hbl : b.length ≤ 1000000) {m4 s15 : List Int} {v : Int} {c1 c2 c3 c4 c5 c6 : Nat} {r : List Int} (hd : b.drop a = uB m4 s15 v c1 c2 c3 c4 c5 c6 r) (hal : a ≤ b.length) (hm : m4.length = 4) (hs : s15.length = 15) (hv : 0 ≤ v ∧ v ≤ 255) (h1 : c1 < 4294967296) (h2 : c2 < 4294967296) (h3 : c3 < 4294967296) (h4 : c4 < 4294967296) (h5 : c5 < 4294967296) (h6 : c6 < 4294967296) :
    aV n b (a : Int) = some (if isH m4 v then ((c1 : Int), (c2 : Int), (c3 : Int), (c4 : Int), (c5 : Int), (c6 : Int), v, true) else (0, 0, 0, 0, 0, 0, 0, false)) := by
  have hlen : b.length = a + (44 + r.length) := by
    have := congrArg List.length hd
    simp only [uB, List.length_drop, List.length_append, fH, hm, hs] at this
    omega
  have hv1 : be 1 v = [v] := by
    rw [Q9, Int.pow_zero, fd0, IntKind.wrap_u8]
    rw [show v % 256 = v by omega]
  have w4 : IntKind.i64.wrap ((a : Int) + 4) = ((a + 4 : Nat) : Int) := by rw [wi _ (by omega) (by omega)]; omega
  have ht4 : (b.take (a + 4)).drop a = m4 := by
    rw [List.drop_take, hd, show a + 4 - a = 4 by omega]
    unfold uB
    rw [← hm, List.take_left']
    rfl
  have hb4 : b[a + 4]? = some v := by
    rw [← List.getElem?_drop, hd]
    unfold uB
    rw [List.getElem?_append_right (by omega), hm, hv1]
    rfl
  have hj : gQ n b (a : Int) 0 0 0 0 0 0 0 0 0 0 0 0 = some (!isH m4 v, 0, 0, 0, 0, 0, 0, 0, 0, 0, 0, 0, 0) := by
    unfold gQ fO isH
    rw [wi ((b.length : Int) - (a : Int)) (by omega) (by omega), ah (by omega), w4, aa (by omega), aa (by omega), aa (by omega), aa (by omega), Int.toNat_natCast, Int.toNat_natCast, ht4]
    cases strOf m4 == ([84, 90, 105, 102] : Str) with
    | false => rfl
    | true =>
      rw [Bool.not_true, cond_false, aa (by omega), hb4]
      simp only [Option.bind_some]
      cases v != 0 with
      | false => rfl
      | true =>
        rw [cond_true, aa (by omega)]
        cases v != 50 with
        | false => rfl
        | true =>
          rw [cond_true, aa (by omega)]
          simp
  unfold aV iG
  rw [hj]
  simp only [Option.bind_some]
  cases isH m4 v with
  | false => rfl
  | true =>
  have w20 : IntKind.i64.wrap ((a : Int) + 20) = ((a + 20 : Nat) : Int) := by rw [wi _ (by omega) (by omega)]; omega
  have gt : ∀ (i c : Nat), i ≤ 5 → c < 4294967296 → (∃ q, (b.drop a).drop (20 + 4 * i) = be 4 (c : Int) ++ q) → aX n b (IntKind.i64.wrap ((IntKind.i64.wrap ((a : Int) + (20 : Int))) + (IntKind.i64.wrap ((4 : Int) * (i : Int))))) (4 : Int) = some (c : Int) := fun i c hi hc ⟨q, hq⟩ => by
    rw [List.drop_drop] at hq
    have := O8 n (by omega) b (a + (20 + 4 * i)) 4 (by omega) (by omega) (c : Int) q hq
    rw [w20, wi ((4 : Int) * (i : Int)) (by omega) (by omega), wi _ (by omega) (by omega)]
    rw [show (((a + 20 : Nat) : Int) + (4 : Int) * (i : Int)) = ((a + (20 + 4 * i) : Nat) : Int) by omega]
    refine Eq.trans this ?_
    rw [show ((256 : Int) ^ 4) = 4294967296 from rfl]
    congr 1; omega
  have step : ∀ {l : List Int} {c d : Nat} {k : Nat} {q : List Int}, l.drop k = be 4 (c : Int) ++ (be 4 (d : Int) ++ q) → l.drop (k + 4) = be 4 (d : Int) ++ q := fun h => by
    rw [← List.drop_drop, h, List.drop_left' (fH 4 _)]
  have hx0 : (uB m4 s15 v c1 c2 c3 c4 c5 c6 r).drop 20 = be 4 (c1 : Int) ++ (be 4 (c2 : Int) ++ (be 4 (c3 : Int) ++ (be 4 (c4 : Int) ++ (be 4 (c5 : Int) ++ (be 4 (c6 : Int) ++ r))))) := by
    unfold uB
    rw [show 20 = m4.length + (1 + 15) by omega, ← List.drop_drop, List.drop_left' rfl, ← List.drop_drop, List.drop_left' (fH 1 v), List.drop_left' hs]
  have hq0 : ∃ q, (uB m4 s15 v c1 c2 c3 c4 c5 c6 r).drop (20 + 4 * 0) = be 4 (c1 : Int) ++ q := ⟨_, hx0⟩
  have hq1 : ∃ q, (uB m4 s15 v c1 c2 c3 c4 c5 c6 r).drop (20 + 4 * 1) = be 4 (c2 : Int) ++ q := ⟨_, step hx0⟩
  have hq2 : ∃ q, (uB m4 s15 v c1 c2 c3 c4 c5 c6 r).drop (20 + 4 * 2) = be 4 (c3 : Int) ++ q := ⟨_, step (step hx0)⟩
  have hq3 : ∃ q, (uB m4 s15 v c1 c2 c3 c4 c5 c6 r).drop (20 + 4 * 3) = be 4 (c4 : Int) ++ q := ⟨_, step (step (step hx0))⟩
  have hq4 : ∃ q, (uB m4 s15 v c1 c2 c3 c4 c5 c6 r).drop (20 + 4 * 4) = be 4 (c5 : Int) ++ q := ⟨_, step (step (step (step hx0)))⟩
  have hq5 : ∃ q, (uB m4 s15 v c1 c2 c3 c4 c5 c6 r).drop (20 + 4 * 5) = be 4 (c6 : Int) ++ q := ⟨_, step (step (step (step (step hx0))))⟩
  have g0 : aX n b (IntKind.i64.wrap ((IntKind.i64.wrap ((a : Int) + (20 : Int))) + (IntKind.i64.wrap ((4 : Int) * (0 : Int))))) (4 : Int) = some (c1 : Int) := gt 0 c1 (by omega) (by omega) (by rw [hd]; exact hq0)
  have g1 : aX n b (IntKind.i64.wrap ((IntKind.i64.wrap ((a : Int) + (20 : Int))) + (IntKind.i64.wrap ((4 : Int) * (1 : Int))))) (4 : Int) = some (c2 : Int) := gt 1 c2 (by omega) (by omega) (by rw [hd]; exact hq1)
  have g2 : aX n b (IntKind.i64.wrap ((IntKind.i64.wrap ((a : Int) + (20 : Int))) + (IntKind.i64.wrap ((4 : Int) * (2 : Int))))) (4 : Int) = some (c3 : Int) := gt 2 c3 (by omega) (by omega) (by rw [hd]; exact hq2)
  have g3 : aX n b (IntKind.i64.wrap ((IntKind.i64.wrap ((a : Int) + (20 : Int))) + (IntKind.i64.wrap ((4 : Int) * (3 : Int))))) (4 : Int) = some (c4 : Int) := gt 3 c4 (by omega) (by omega) (by rw [hd]; exact hq3)
  have g4 : aX n b (IntKind.i64.wrap ((IntKind.i64.wrap ((a : Int) + (20 : Int))) + (IntKind.i64.wrap ((4 : Int) * (4 : Int))))) (4 : Int) = some (c5 : Int) := gt 4 c5 (by omega) (by omega) (by rw [hd]; exact hq4)
  have g5 : aX n b (IntKind.i64.wrap ((IntKind.i64.wrap ((a : Int) + (20 : Int))) + (IntKind.i64.wrap ((4 : Int) * (5 : Int))))) (4 : Int) = some (c6 : Int) := gt 5 c6 (by omega) (by omega) (by rw [hd]; exact hq5)
  have n05 : Nat.beq (Int.toNat (0 : Int)) 5 = false := by decide
  have n04 : Nat.beq (Int.toNat (0 : Int)) 4 = false := by decide
  have n03 : Nat.beq (Int.toNat (0 : Int)) 3 = false := by decide
  have n02 : Nat.beq (Int.toNat (0 : Int)) 2 = false := by decide
  have n01 : Nat.beq (Int.toNat (0 : Int)) 1 = false := by decide
  have n00 : Nat.beq (Int.toNat (0 : Int)) 0 = true := by decide
  have n15 : Nat.beq (Int.toNat (1 : Int)) 5 = false := by decide
  have n14 : Nat.beq (Int.toNat (1 : Int)) 4 = false := by decide
  have n13 : Nat.beq (Int.toNat (1 : Int)) 3 = false := by decide
  have n12 : Nat.beq (Int.toNat (1 : Int)) 2 = false := by decide
  have n11 : Nat.beq (Int.toNat (1 : Int)) 1 = true := by decide
  have n25 : Nat.beq (Int.toNat (2 : Int)) 5 = false := by decide
  have n24 : Nat.beq (Int.toNat (2 : Int)) 4 = false := by decide
  have n23 : Nat.beq (Int.toNat (2 : Int)) 3 = false := by decide
  have n22 : Nat.beq (Int.toNat (2 : Int)) 2 = true := by decide
  have n35 : Nat.beq (Int.toNat (3 : Int)) 5 = false := by decide
  have n34 : Nat.beq (Int.toNat (3 : Int)) 4 = false := by decide
  have n33 : Nat.beq (Int.toNat (3 : Int)) 3 = true := by decide
  have n45 : Nat.beq (Int.toNat (4 : Int)) 5 = false := by decide
  have n44 : Nat.beq (Int.toNat (4 : Int)) 4 = true := by decide
  have n55 : Nat.beq (Int.toNat (5 : Int)) 5 = true := by decide
  have w0 : IntKind.i64.wrap ((0 : Int) + 1) = 1 := by decide
  have w1 : IntKind.i64.wrap ((1 : Int) + 1) = 2 := by decide
  have w2 : IntKind.i64.wrap ((2 : Int) + 1) = 3 := by decide
  have w3 : IntKind.i64.wrap ((3 : Int) + 1) = 4 := by decide
  have w4 : IntKind.i64.wrap ((4 : Int) + 1) = 5 := by decide
  have w5 : IntKind.i64.wrap ((5 : Int) + 1) = 6 := by decide
  have q0 : decide ((0 : Int) < 6) = true := by decide
  have p0 : decide ((0 : Int) ≤ 0) = true := by decide
  have q1 : decide ((1 : Int) < 6) = true := by decide
  have p1 : decide ((0 : Int) ≤ 1) = true := by decide
  have q2 : decide ((2 : Int) < 6) = true := by decide
  have p2 : decide ((0 : Int) ≤ 2) = true := by decide
  have q3 : decide ((3 : Int) < 6) = true := by decide
  have p3 : decide ((0 : Int) ≤ 3) = true := by decide
  have q4 : decide ((4 : Int) < 6) = true := by decide
  have p4 : decide ((0 : Int) ≤ 4) = true := by decide
  have q5 : decide ((5 : Int) < 6) = true := by decide
  have p5 : decide ((0 : Int) ≤ 5) = true := by decide
  have q6 : decide ((6 : Int) < 6) = false := by decide
  have p6 : decide ((0 : Int) ≤ 6) = true := by decide
  obtain ⟨m, rfl⟩ : ∃ m, n = m + 7 := ⟨n - 7, by omega⟩
  have hl : aj (m + 7) (m + 7) b (a : Int) 0 0 0 0 0 0 0 0 0 0 0 0 0 = some (0, 0, 0, 0, 0, 0, (c1 : Int), (c2 : Int), (c3 : Int), (c4 : Int), (c5 : Int), (c6 : Int)) := by
    have wc : ∀ c : Nat, c < 4294967296 → IntKind.i64.wrap (c : Int) = (c : Int) := fun c hc => wi _ (by omega) (by omega)
    have s0 : ∀ (mm : Nat) (x0 x1 x2 x3 x4 x5 : Int), aj (m + 7) (mm + 1) b (a : Int) 0 0 0 0 0 0 0 x0 x1 x2 x3 x4 x5 = aj (m + 7) mm b (a : Int) 1 0 0 0 0 0 0 (c1 : Int) x1 x2 x3 x4 x5 := fun mm x0 x1 x2 x3 x4 x5 => by
      simp only [aj, aZ, g0, w0, q0, p0, n05, n04, n03, n02, n01, n00, Option.bind_some, cond_true, cond_false, wc c1 h1]
    have s1 : ∀ (mm : Nat) (x0 x1 x2 x3 x4 x5 : Int), aj (m + 7) (mm + 1) b (a : Int) 1 0 0 0 0 0 0 x0 x1 x2 x3 x4 x5 = aj (m + 7) mm b (a : Int) 2 0 0 0 0 0 0 x0 (c2 : Int) x2 x3 x4 x5 := fun mm x0 x1 x2 x3 x4 x5 => by
      simp only [aj, aZ, g1, w1, q1, p1, n15, n14, n13, n12, n11, Option.bind_some, cond_true, cond_false, wc c2 h2]
    have s2 : ∀ (mm : Nat) (x0 x1 x2 x3 x4 x5 : Int), aj (m + 7) (mm + 1) b (a : Int) 2 0 0 0 0 0 0 x0 x1 x2 x3 x4 x5 = aj (m + 7) mm b (a : Int) 3 0 0 0 0 0 0 x0 x1 (c3 : Int) x3 x4 x5 := fun mm x0 x1 x2 x3 x4 x5 => by
      simp only [aj, aZ, g2, w2, q2, p2, n25, n24, n23, n22, Option.bind_some, cond_true, cond_false, wc c3 h3]
    have s3 : ∀ (mm : Nat) (x0 x1 x2 x3 x4 x5 : Int), aj (m + 7) (mm + 1) b (a : Int) 3 0 0 0 0 0 0 x0 x1 x2 x3 x4 x5 = aj (m + 7) mm b (a : Int) 4 0 0 0 0 0 0 x0 x1 x2 (c4 : Int) x4 x5 := fun mm x0 x1 x2 x3 x4 x5 => by
      simp only [aj, aZ, g3, w3, q3, p3, n35, n34, n33, Option.bind_some, cond_true, cond_false, wc c4 h4]
    have s4 : ∀ (mm : Nat) (x0 x1 x2 x3 x4 x5 : Int), aj (m + 7) (mm + 1) b (a : Int) 4 0 0 0 0 0 0 x0 x1 x2 x3 x4 x5 = aj (m + 7) mm b (a : Int) 5 0 0 0 0 0 0 x0 x1 x2 x3 (c5 : Int) x5 := fun mm x0 x1 x2 x3 x4 x5 => by
      simp only [aj, aZ, g4, w4, q4, p4, n45, n44, Option.bind_some, cond_true, cond_false, wc c5 h5]
    have s5 : ∀ (mm : Nat) (x0 x1 x2 x3 x4 x5 : Int), aj (m + 7) (mm + 1) b (a : Int) 5 0 0 0 0 0 0 x0 x1 x2 x3 x4 x5 = aj (m + 7) mm b (a : Int) 6 0 0 0 0 0 0 x0 x1 x2 x3 x4 (c6 : Int) := fun mm x0 x1 x2 x3 x4 x5 => by
      simp only [aj, aZ, g5, w5, q5, p5, n55, Option.bind_some, cond_true, cond_false, wc c6 h6]
    rw [s0, s1, s2, s3, s4, s5]
    simp only [aj, aZ, q6, cond_false]
  rw [Bool.not_true, cond_false, hl]
  simp only [Option.bind_some, if_true]
  have w4' : IntKind.i64.wrap ((a : Int) + 4) = ((a + 4 : Nat) : Int) := by rw [wi _ (by omega) (by omega)]; omega
  rw [w4', aa (by omega), Int.toNat_natCast, hb4]
  rfl
end Go.Proofs.YtcbgfjghebopoaaDoor.H
namespace Go.Proofs.YtcbgfjghebopoaaDoor.H
open Go.Sh Go.RowKit
set_option linter.unusedSimpArgs false
set_option linter.unusedVariables false
theorem Km {α : Type} {f : α → List Int} {k : Nat} (hf : ∀ x, (f x).length = k) : ∀ (xs : List α) (i : Nat), (xs.flatMap f).drop (k * i) = (xs.drop i).flatMap f
  | xs, 0 => by simp
  | [], i + 1 => by simp
  | x :: xs, i + 1 => by
    rw [List.flatMap_cons, Nat.mul_add, Nat.mul_one, Nat.add_comm, ← List.drop_drop, List.drop_left' (hf x), Km hf xs i, List.drop_succ_cons]
theorem Vw : ∀ {ix : List Int}, (∀ x ∈ ix, 0 ≤ x ∧ x ≤ 255) → ix.flatMap (be 1) = ix
  | [], _ => rfl
  | x :: ix, h => by
    obtain ⟨h0, h1⟩ := h x (by simp)
    rw [List.flatMap_cons, Vw (ix := ix) fun y hy => h y (by simp [hy]), Q9, Int.pow_zero, fd0, IntKind.wrap_u8, show x % 256 = x by omega]
    rfl
section
variable {w : Nat} {ti ix : List Int} {ks : List Kd} {nm ex : List Int} {T K N : Nat}
theorem XX (h1 : ti.length = T) {i : Nat} {x : Int} {r : List Int} (hx : ti.drop i = x :: r) : ∃ q, (nN w ti ix ks nm ex).drop (w * i) = be w x ++ q := by
  obtain ⟨k1, k2, k3⟩ := aI hx
  unfold nN
  rw [List.drop_append_of_le_length (by rw [wo (fH w)]; exact Nat.mul_le_mul_left _ (by omega)), Km (fH w), hx, List.flatMap_cons]
  exact ⟨_, by rw [List.append_assoc]⟩
theorem WO (h1 : ti.length = T) : (nN w ti ix ks nm ex).drop (w * T) = ix.flatMap (be 1) ++ (ks.flatMap kb ++ (nm ++ ex)) := by
  unfold nN
  rw [← h1, ← wo (fH w) ti, List.drop_left' rfl]
theorem XY (h1 : ti.length = T) (h2 : ix.length = T) (g2 : ∀ x ∈ ix, 0 ≤ x ∧ x ≤ 255) {i : Nat} (hi : i < T) : (nN w ti ix ks nm ex)[w * T + i]? = ix[i]? := by
  rw [← List.getElem?_drop, WO h1, Vw g2, List.getElem?_append_left (by omega)]
theorem WP (h1 : ti.length = T) (h2 : ix.length = T) : (nN w ti ix ks nm ex).drop (w * T + T) = ks.flatMap kb ++ (nm ++ ex) := by
  have e : (ix.flatMap (be 1)).length = T := by rw [wo (fH 1)]; omega
  rw [← List.drop_drop, WO h1, List.drop_left' e]
theorem XZ (h1 : ti.length = T) (h2 : ix.length = T) {i : Nat} {k : Kd} {r : List Kd} (hx : ks.drop i = k :: r) : ∃ q, (nN w ti ix ks nm ex).drop (w * T + T + 6 * i) = kb k ++ q := by
  obtain ⟨k1, k2, k3⟩ := aI hx
  rw [← List.drop_drop, WP h1 h2, List.drop_append_of_le_length (by rw [wo O6]; omega), Km O6, hx, List.flatMap_cons]
  exact ⟨_, by rw [List.append_assoc]⟩
theorem X0 (h1 : ti.length = T) (h2 : ix.length = T) (h3 : ks.length = K) (h4 : nm.length = N) : ((nN w ti ix ks nm ex).take (w * T + T + 6 * K + N)).drop (w * T + T + 6 * K) = nm := by
  have e : (ks.flatMap kb).length = 6 * K := by rw [wo O6]; omega
  rw [List.drop_take, ← List.drop_drop, WP h1 h2, List.drop_left' e, show w * T + T + 6 * K + N - (w * T + T + 6 * K) = nm.length by omega, List.take_left' rfl]
end
theorem O9 : ∀ {l p : List Int}, upZ l = some p → l.take p.length = p ∧ p.length < l.length
  | [], p, h => by simp [upZ] at h
  | c :: r, p, h => by
    simp only [upZ] at h
    by_cases hc : c = 0
    · rw [if_pos hc] at h; injection h with h; subst h; simp
    · rw [if_neg hc] at h
      obtain ⟨q, h1, rfl⟩ := Option.map_eq_some_iff.1 h
      obtain ⟨k1, k2⟩ := O9 h1
      simp [k1]; omega
theorem MO (n : Nat) (nm : List Int) (hl : nm.length ≤ 100000) (a : Nat) : ∀ (r : List Int) (i m : Nat), nm.drop i = r → a ≤ i → r.length < m → cu n m nm (a : Int) (i : Int) = some (match upZ r with | some p => Sum.inl (strOf ((nm.take (i + p.length)).drop a)) | none => Sum.inr ())
  | [], i, m + 1, hd, _, _ => by
    have hi := drop_nil hd
    simp only [cu, fu]
    rw [ah (by omega)]
    rfl
  | c :: r, i, m + 1, hd, ha, hm => by
    obtain ⟨k1, k2, k3⟩ := aI hd
    simp only [List.length_cons] at hm
    simp only [cu, fu]
    rw [aa (by omega), aa (by omega), Int.toNat_natCast, k1]
    simp only [Option.bind_some]
    by_cases hc : c = 0
    · subst hc
      rw [show ((0 : Int) == 0) = true by decide, cond_true, aa (by omega), aa (by omega), aa (by omega), aa (by omega), Int.toNat_natCast]
      simp [upZ]
    · rw [show (c == 0) = false by simpa using hc, cond_false, gz _ (by omega), MO n nm hl a r (i + 1) m k2 (by omega) (by omega)]
      simp only [upZ, if_neg hc]
      cases upZ r with
      | none => rfl
      | some p => simp only [Option.map_some, List.length_cons]; rw [show i + 1 + p.length = i + (p.length + 1) by omega]
theorem Qu (n : Nat) (nm : List Int) (hl : nm.length ≤ 100000) (hn : nm.length < n) (a : Nat) : jZ n nm (a : Int) = some (match nameAt nm a with | some s => (s, true) | none => ([], false)) := by
  unfold jZ jY nameAt
  rw [MO n nm hl a (nm.drop a) a n rfl (Nat.le_refl _) (by rw [List.length_drop]; omega)]
  cases hu : upZ (nm.drop a) with
  | none => rfl
  | some p =>
    have := (O9 hu).1
    simp only [Option.bind_some, Sum.elim_inl, Option.map_some]
    rw [List.drop_take, show a + p.length - a = p.length by omega, this]
theorem rj1 (n : Nat) {w : Nat} (hw : w = 4 ∨ w = 8) (b : List Int) {u s l T K N : Nat} (hu : u < 4294967296) (hs : s < 4294967296) (hl : l < 4294967296) (hT : T < 4294967296) (hK : K < 4294967296) (hN : N < 4294967296) :
    kD n b (w : Int) (u : Int) (s : Int) (l : Int) (T : Int) (K : Int) (N : Int) [] [] [] [] [] [] [] [] = some (!(Fv u s l T K N && decide (gZ w u s l T K N ≤ b.length)), (u : Int), (s : Int), (l : Int), (T : Int), (K : Int), (N : Int), [], [], [], [], [], [], [], []) := by
  unfold kD jE Fv
  have e0 : ∀ x : Nat, ((x : Int) != 0) = !Nat.beq x 0 := fun x => by
    cases h : Nat.beq x 0 with
    | true => have := Nat.eq_of_beq_eq_true h; subst this; rfl
    | false => have := Nat.ne_of_beq_eq_false h; simp; omega
  have e1 : ∀ x : Nat, ((x : Int) != (K : Int)) = !Nat.beq x K := fun x => by
    cases h : Nat.beq x K with
    | true => have := Nat.eq_of_beq_eq_true h; subst this; simp
    | false => have := Nat.ne_of_beq_eq_false h; simp; omega
  have e2 : decide ((b.length : Int) < (gZ w u s l T K N : Int)) = !decide (gZ w u s l T K N ≤ b.length) := by
    by_cases c : gZ w u s l T K N ≤ b.length
    · rw [decide_eq_true c, decide_eq_false (by omega)]; rfl
    · rw [decide_eq_false c, decide_eq_true (by omega)]; rfl
  by_cases c1 : 1 ≤ K
  · rw [ah (by omega), decide_eq_true c1]
    by_cases c2 : K ≤ 255
    · rw [ah (by omega), decide_eq_true c2]
      by_cases c3 : T ≤ 4000
      · rw [ah (by omega), decide_eq_true c3]
        by_cases c4 : 1 ≤ N
        · rw [ah (by omega), decide_eq_true c4]
          by_cases c5 : N ≤ 4096
          · rw [ah (by omega), decide_eq_true c5]
            by_cases c6 : l ≤ 1000
            · rw [ah (by omega), decide_eq_true c6]
              simp only [e0, e1, Hz n hw hu hs hl hT hK hN, Option.bind_some, e2]
              cases Nat.beq s 0 <;> cases Nat.beq s K <;> cases Nat.beq u 0 <;> cases Nat.beq u K <;> rfl
            · rw [aa (by omega), decide_eq_false c6]; rfl
          · rw [aa (by omega), decide_eq_false c5]; rfl
        · rw [aa (by omega), decide_eq_false c4]; rfl
      · rw [aa (by omega), decide_eq_false c3]; rfl
    · rw [aa (by omega), decide_eq_false c2]; rfl
  · rw [aa (by omega), decide_eq_false c1]; rfl
theorem Oa (n : Nat) {w : Nat} (hw : w = 4 ∨ w = 8) (b : List Int) {u s l T K N : Nat} (hu : u < 4294967296) (hs : s < 4294967296) (hl : l < 4294967296) (hT : T < 4294967296) (hK : K < 4294967296) (hN : N < 4294967296) (h : (Fv u s l T K N && decide (gZ w u s l T K N ≤ b.length)) = false) :
    aR n b (u : Int) (s : Int) (l : Int) (T : Int) (K : Int) (N : Int) (w : Int) = some ([], [], [], [], false) := by
  unfold aR jh
  have := rj1 n hw b hu hs hl hT hK hN
  rw [h] at this
  rw [this]
  rfl
theorem WC (n : Nat) (hn : 9 ≤ n) {w : Nat} (hw : w = 4 ∨ w = 8) (b : List Int) (a : Nat) (hab : a + w ≤ 1000000000) (v : Int) (hv : Kb w v) (q : List Int) (hd : b.drop a = be w v ++ q) : bF n b (a : Int) (w : Int) = some v := by
  rcases hw with rfl | rfl
  · simp only [Kb, if_true] at hv
    exact R6 n hn b a hab v hv.1 hv.2 q hd
  · simp only [Kb] at hv
    rw [if_neg (by decide)] at hv
    exact WA n hn b a hab v hv.1 hv.2 q hd
section
variable {w : Nat} {ti ix : List Int} {ks : List Kd} {nm ex : List Int} {T K N : Nat}
theorem Vx (n : Nat) (hn : 9 ≤ n) (hw : w = 4 ∨ w = 8) (hT : T ≤ 4000) (h1 : ti.length = T) (h2 : ix.length = T) (g1 : ∀ x ∈ ti, Kb w x) (g2 : ∀ x ∈ ix, 0 ≤ x ∧ x ≤ 255) (u s l K N : Int) (y0 : List (List AV)) (y1 y2 : List Int) (y3 : Str) (z0 : List (List AV)) (z3 : Str) : ∀ (r r2 : List Int) (i m : Nat) (a1 a2 : List Int), ti.drop i = r → ix.drop i = r2 → r.length < m → a1.length = i → a2.length = i →
    dI n m (nN w ti ix ks nm ex) (w : Int) (i : Int) u s l (T : Int) K N y0 y1 y2 y3 z0 a1 a2 z3 = some (u, s, l, (T : Int), K, N, y0, y1, y2, y3, z0, a1 ++ r, a2 ++ r2, z3)
  | [], r2, i, m + 1, a1, a2, hd, hd2, _, _, _ => by
    have hi := drop_nil hd
    have : r2 = [] := by rw [← hd2]; exact List.drop_of_length_le (by omega)
    subst this
    simp only [dI, fZ]
    rw [ah (by omega)]
    simp
  | x :: r, r2, i, m + 1, a1, a2, hd, hd2, hm, ha1, ha2 => by
    obtain ⟨k1, k2, k3⟩ := aI hd
    simp only [List.length_cons] at hm
    obtain ⟨y, r3, rfl⟩ : ∃ y r3, r2 = y :: r3 := by
      cases r2 with
      | nil => have := drop_nil hd2; omega
      | cons y r3 => exact ⟨y, r3, rfl⟩
    obtain ⟨j1, j2, j3⟩ := aI hd2
    obtain ⟨q, hq⟩ := XX (w := w) (ix := ix) (ks := ks) (nm := nm) (ex := ex) h1 hd
    have hw8 : w ≤ 8 := by omega
    have hwi : w * i ≤ 8 * i := Nat.mul_le_mul_right _ hw8
    have hwT : w * T ≤ 8 * T := Nat.mul_le_mul_right _ hw8
    obtain ⟨y1', y2'⟩ := g2 y (List.mem_of_getElem? j1)
    have e1 : IntKind.i64.wrap ((w : Int) * (i : Int)) = ((w * i : Nat) : Int) := by rw [← Int.natCast_mul, wi _ (by omega) (by omega)]
    have e2 : IntKind.i64.wrap ((IntKind.i64.wrap ((w : Int) * (T : Int))) + (i : Int)) = ((w * T + i : Nat) : Int) := by rw [← Int.natCast_mul, wi ((w * T : Nat) : Int) (by omega) (by omega), wi _ (by omega) (by omega)]; omega
    simp only [dI, fZ]
    rw [aa (by omega), e1, WC n hn hw _ _ (by omega) x (g1 x (List.mem_of_getElem? k1)) q hq]
    simp only [Option.bind_some]
    rw [aa (by simp only [List.length_cons, List.length_nil]; omega), e2, aa (by omega), Int.toNat_natCast, XY h1 h2 g2 (by omega), j1]
    simp only [Option.bind_some]
    rw [aa (by simp only [List.length_cons, List.length_nil]; omega), gz _ (by omega), wi y (by omega) (by omega)]
    rw [Vx n hn hw hT h1 h2 g1 g2 u s l K N y0 y1 y2 y3 z0 z3 r r3 (i + 1) m _ _ k2 j2 (by omega) (by simp; omega) (by simp; omega)]
    simp
theorem Vy (n : Nat) (hn : 5001 ≤ n) (hw : w = 4 ∨ w = 8) (hT : T ≤ 4000) (hK : K ≤ 255) (hN : N ≤ 4096) (h1 : ti.length = T) (h2 : ix.length = T) (h3 : ks.length = K) (h4 : nm.length = N) (g3 : ∀ k ∈ ks, KOk k) (u s l TT NN : Int) (y0 : List (List AV)) (y1 y2 : List Int) (y3 : Str) (z1 z2 : List Int) (z3 : Str) : ∀ (r : List Kd) (i m : Nat) (acc : List (List AV)), ks.drop i = r → r.length < m → acc.length = i →
    (Ep nm r = none ∧ ∃ q1 q2 q3 q4, bY n m (nN w ti ix ks nm ex) ((w * T + T : Nat) : Int) nm (i : Int) u s l TT (K : Int) NN y0 y1 y2 y3 acc z1 z2 z3 = some (Sum.inl (u, s, l, TT, (K : Int), NN, [], [], [], q1, q2, q3, q4))) ∨
    (∃ ts, Ep nm r = some ts ∧ bY n m (nN w ti ix ks nm ex) ((w * T + T : Nat) : Int) nm (i : Int) u s l TT (K : Int) NN y0 y1 y2 y3 acc z1 z2 z3 = some (Sum.inr (u, s, l, TT, (K : Int), NN, y0, y1, y2, y3, acc ++ ts.map cT, z1, z2, z3)))
  | [], i, m + 1, acc, hd, _, _ => by
    have hi := drop_nil hd
    refine .inr ⟨[], rfl, ?_⟩
    simp only [bY, gm]
    rw [ah (by omega)]
    simp
  | k :: r, i, m + 1, acc, hd, hm, ha => by
    obtain ⟨k1, k2, k3⟩ := aI hd
    simp only [List.length_cons] at hm
    obtain ⟨⟨a1, a2⟩, ⟨b1, b2⟩, c1, c2⟩ := g3 k (List.mem_of_getElem? k1)
    obtain ⟨q, hq⟩ := XZ (w := w) (nm := nm) (ex := ex) h1 h2 hd
    have hwT : w * T ≤ 8 * T := Nat.mul_le_mul_right _ (by omega)
    generalize hB : nN w ti ix ks nm ex = B at hq
    have e6 : IntKind.i64.wrap (((w * T + T : Nat) : Int) + IntKind.i64.wrap ((6 : Int) * (i : Int))) = ((w * T + T + 6 * i : Nat) : Int) := by rw [wi ((6 : Int) * (i : Int)) (by omega) (by omega), wi _ (by omega) (by omega)]; omega
    generalize hP : w * T + T + 6 * i = P at hq e6
    have e5 : IntKind.i64.wrap ((P : Int) + 5) = ((P + 5 : Nat) : Int) := by rw [wi _ (by omega) (by omega)]; omega
    have e4 : IntKind.i64.wrap ((P : Int) + 4) = ((P + 4 : Nat) : Int) := by rw [wi _ (by omega) (by omega)]; omega
    have o1 : ∀ v : Int, 0 ≤ v → v ≤ 255 → be 1 v = [v] := fun v h0 h1 => by rw [Q9, Int.pow_zero, fd0, IntKind.wrap_u8, show v % 256 = v by omega]
    have hk : kb k ++ q = be 4 k.1 ++ (k.2.1 :: k.2.2 :: q) := by simp [kb, o1 _ b1 b2, o1 _ c1 c2]
    rw [hk] at hq
    have p5 : B[P + 5]? = some k.2.2 := by rw [← List.getElem?_drop, hq, List.getElem?_append_right (by rw [fH]; omega), fH]; rfl
    have p4 : B[P + 4]? = some k.2.1 := by rw [← List.getElem?_drop, hq, List.getElem?_append_right (by rw [fH]; omega), fH]; rfl
    have hsg : bF n B (P : Int) 4 = some k.1 := R6 n (by omega) B P (by omega) k.1 a1 a2 _ hq
    obtain ⟨t2, ht2⟩ : ∃ t2 : Nat, k.2.2 = (t2 : Int) := ⟨k.2.2.toNat, by omega⟩
    have hlt := Qu n nm (by omega) (by omega) t2
    have hna : nameAt nm k.2.2.toNat = nameAt nm t2 := by rw [ht2, Int.toNat_natCast]
    simp only [bY, gm]
    rw [aa (by omega), e6, e5, aa (by omega), Int.toNat_natCast, p5]
    simp only [Option.bind_some]
    rw [wi k.2.2 (by omega) (by omega), ht2, hlt]
    simp only [Option.bind_some, nQ, jF, Ep, mkT, hna]
    cases hnm : nameAt nm t2 with
    | none => exact .inl ⟨rfl, _, _, _, _, rfl⟩
    | some st =>
      simp only [Bool.not_true, cond_false]
      rw [e4, aa (by omega), Int.toNat_natCast, p4]
      simp only [Option.bind_some]
      by_cases hc : k.2.1 > 1
      · rw [if_pos hc, decide_eq_true hc]
        exact .inl ⟨rfl, _, _, _, _, rfl⟩
      · rw [if_neg hc, decide_eq_false hc, cond_false, hsg]
        simp only [Option.bind_some]
        rw [aa (by omega), aa (by simp only [List.length_cons, List.length_nil]; omega), gz _ (by omega)]
        have ih := Vy n hn hw hT hK hN h1 h2 h3 h4 g3 u s l TT NN y0 y1 y2 y3 z1 z2 z3 r (i + 1) m (acc ++ [[.int .i64 k.1, .bool (k.2.1 == 1), .str st]]) k2 (by omega) (by simp; omega)
        rw [hB] at ih
        rcases ih with ⟨h5, q1, q2, q3, q4, h6⟩ | ⟨ts, h5, h6⟩
        · exact .inl ⟨by rw [h5]; rfl, q1, q2, q3, q4, h6⟩
        · refine .inr ⟨_, by rw [h5]; rfl, h6.trans ?_⟩
          simp [cT]
theorem MP (n : Nat) (hn : 5001 ≤ n) (hw : w = 4 ∨ w = 8) {u s l : Nat} (hm : Fv u s l T K N = true) (h1 : ti.length = T) (h2 : ix.length = T) (h3 : ks.length = K) (h4 : nm.length = N) (h5 : ex.length = l * (w + 4) + s + u)
    (g1 : ∀ x ∈ ti, Kb w x) (g2 : ∀ x ∈ ix, 0 ≤ x ∧ x ≤ 255) (g3 : ∀ k ∈ ks, KOk k) :
    aR n (nN w ti ix ks nm ex) (u : Int) (s : Int) (l : Int) (T : Int) (K : Int) (N : Int) (w : Int) = (match Ep nm ks with
      | none => some ([], [], [], [], false)
      | some ts => (bM n (ts.map cT) ti ix []).bind fun o => some (ts.map cT, ti, ix, [], o)) := by
  obtain ⟨m1, m2, m3, m4, m5, m6, m7, m8⟩ := Br hm
  have hwT : w * T ≤ 8 * T := Nat.mul_le_mul_right _ (by omega)
  have hbl := Kc h1 h2 h3 h4 h5
  have hj := rj1 n hw (nN w ti ix ks nm ex) (u := u) (s := s) (l := l) (T := T) (K := K) (N := N) (by omega) (by omega) (by omega) (by omega) (by omega) (by omega)
  rw [hm, decide_eq_true (by rw [hbl]; exact Nat.le_refl _)] at hj
  unfold aR jh
  rw [hj]
  simp only [Option.bind_some, Bool.and_self, Bool.not_true, cond_false]
  have e1 := Vx (w := w) (ks := ks) (nm := nm) (ex := ex) n (by omega) hw m3 h1 h2 g1 g2 (u : Int) (s : Int) (l : Int) (K : Int) (N : Int) [] [] [] [] [] [] ti ix 0 n [] [] (by simp) (by simp) (by omega) rfl rfl
  simp only [Int.natCast_zero, List.nil_append] at e1
  simp only [e1, Option.bind_some]
  have hT1 : (w + 1) * T = w * T + T := by rw [Nat.add_mul, Nat.one_mul]
  have w1 : IntKind.i64.wrap ((w : Int) + 1) = ((w + 1 : Nat) : Int) := by rw [wi _ (by omega) (by omega)]; omega
  have w2 : IntKind.i64.wrap (((w + 1 : Nat) : Int) * (T : Int)) = ((w * T + T : Nat) : Int) := by rw [← Int.natCast_mul, hT1, wi _ (by omega) (by omega)]
  have w3 : IntKind.i64.wrap ((6 : Int) * (K : Int)) = ((6 * K : Nat) : Int) := by rw [wi _ (by omega) (by omega)]; omega
  have w4 : IntKind.i64.wrap (((w * T + T : Nat) : Int) + ((6 * K : Nat) : Int)) = ((w * T + T + 6 * K : Nat) : Int) := by rw [wi _ (by omega) (by omega)]; omega
  have w5 : IntKind.i64.wrap (((w * T + T + 6 * K : Nat) : Int) + (N : Int)) = ((w * T + T + 6 * K + N : Nat) : Int) := by rw [wi _ (by omega) (by omega)]; omega
  have hTw : T * (w + 1) = w * T + T := by rw [Nat.mul_comm, hT1]
  simp only [w1, w2, w3, w4, w5, Int.toNat_natCast]
  rw [aa (by omega), aa (by rw [hbl]; unfold gZ; rw [hTw]; omega), aa (by omega), aa (by omega), X0 h1 h2 h3 h4]
  have e2 := Vy (w := w) (T := T) (K := K) (N := N) (ex := ex) n hn hw m3 m2 m5 h1 h2 h3 h4 g3 (u : Int) (s : Int) (l : Int) (T : Int) (N : Int) [] [] [] [] ti ix [] ks 0 n [] (by simp) (by omega) rfl
  simp only [Int.natCast_zero] at e2
  rcases e2 with ⟨e3, q1, q2, q3, q4, e4⟩ | ⟨ts, e3, e4⟩
  · rw [e4, e3]; rfl
  · rw [e4, e3]
    simp only [Option.bind_some, Sum.elim_inr, List.nil_append]
end
end Go.Proofs.YtcbgfjghebopoaaDoor.H
namespace Go.Proofs.YtcbgfjghebopoaaDoor.H
open Go.Sh Go.RowKit
set_option linter.unusedSimpArgs false
set_option linter.unusedVariables false
theorem uK (n : Nat) (hn : 20 ≤ n) {b r r2 r3 r4 : List Int} {x : List Int} {bad1 bad2 bad3 bad4 : Bool} {v c1 c2 c3 c4 c5 c6 L v2 d1 d2 d3 d4 d5 d6 : Int} {z0 : List (List AV)} {z1 z2 : List Int} {z3 : Str} (ht : r4.length ≤ 100000) (hv : (v == 0) = false)
    (h1 : mK b false = (v, c1, c2, c3, c4, c5, c6, r, bad1)) (hL : aO n v c1 c2 c3 c4 c5 c6 4 = some L) (h2 : cB L r bad1 = (x, r2, bad2)) (h3 : mK r2 bad2 = (v2, d1, d2, d3, d4, d5, d6, r3, bad3)) (h4 : aJ n v2 d1 d2 d3 d4 d5 d6 8 r3 bad3 = some (z0, z1, z2, z3, r4, bad4)) :
    aL n b false = some (if (bad4 || v2 != v || gB r4) = true then (z0, z1, z2, z3, r4, true) else (z0, z1, z2, strOf ((r4.take (r4.length - 1)).drop 1), [], false)) := by
  unfold aL fG
  rw [uS n hn, h1]
  simp only [Option.bind_some]
  rw [hv, cond_false, hL]
  simp only [Option.bind_some, uh, h2, uS n hn, h3, h4]
  have hj : eH n r4 bad4 [] [] [] [] v c1 c2 c3 c4 c5 c6 v2 d1 d2 d3 d4 d5 d6 z0 z1 z2 z3 = some (r4, bad4 || v2 != v || gB r4, [], [], [], [], v, c1, c2, c3, c4, c5, c6, v2, d1, d2, d3, d4, d5, d6, z0, z1, z2, z3) := by
    unfold eH jM gB
    cases bad4 with
    | true => rfl
    | false =>
      rw [cond_false]
      cases v2 != v with
      | true => rfl
      | false =>
        rw [cond_false]
        by_cases c1 : r4.length < 2
        · rw [aa (by omega), decide_eq_true c1]; rfl
        · rw [ah (by omega), decide_eq_false c1, qW (show 0 < r4.length by omega), Option.bind_some]
          cases c2 : r4.getD 0 0 != 10 with
          | true => rfl
          | false =>
            rw [cond_false, wi _ (by omega) (by omega), aa (by omega), show ((r4.length : Int) - 1).toNat = r4.length - 1 by omega, qW (show r4.length - 1 < r4.length by omega)]
            rfl
  rw [hj]
  simp only [Option.bind_some]
  cases hb : bad4 || v2 != v || gB r4 with
  | true => rfl
  | false =>
    have c1 : ¬ r4.length < 2 := by
      intro h
      simp [gB, h] at hb
    rw [wi _ (by omega) (by omega), aa (by omega), aa (by omega), show ((r4.length : Int) - 1).toNat = r4.length - 1 by omega, aa (by omega)]
    rfl
theorem Ra (n : Nat) (b : List Int) {z0 : List (List AV)} {z1 z2 : List Int} {z3 : Str} {r : List Int} (h : aL n b false = some (z0, z1, z2, z3, r, false)) (hr : 0 < r.length) : bv n b = some ([], [], [], [], 60) := by
  unfold bv o9
  rw [h]
  simp only [Option.bind_some, cond_false]
  rw [aa (by omega)]
theorem Kn (n : Nat) (hn : 4001 ≤ n) (b : List Int) (ts : List Ty) (ti ix : List Int) (foot : Str) (h : aL n b false = some (ts.map cT, ti, ix, foot, [], false)) (hR : dx ts ti ix foot = false) : bv n b = some ([], [], [], [], 60) := by
  unfold bv o9
  rw [h]
  simp only [Option.bind_some, cond_false, List.length_nil, Int.natCast_zero]
  rw [ah (by omega), xJ n hn, hR]
  rfl
theorem MQ (n : Nat) (b : List Int) (h : aV n b ((0 : Nat) : Int) = some (0, 0, 0, 0, 0, 0, 0, false)) : aD n b = some ([], [], [], [], false) := by
  unfold aD bN
  have h' : aV n b (0 : Int) = some (0, 0, 0, 0, 0, 0, 0, false) := h
  rw [h']
  rfl
theorem Ob {nm : List Int} {ks : List Kd} : ∀ {ts : List Ty}, Ep nm ks = some ts → ∀ t ∈ ts, t.2.2.length ≤ nm.length := by
  induction ks with
  | nil => intro ts h t ht; simp only [Ep, Option.some.injEq] at h; subst h; simp at ht
  | cons k ks ih =>
    intro ts h t ht
    simp only [Ep, mkT, nameAt] at h
    cases hu : upZ (nm.drop k.2.2.toNat) with
    | none => rw [hu] at h; simp at h
    | some p =>
      rw [hu] at h
      simp only [Option.map_some] at h
      by_cases hc1 : k.2.1 > 1
      · rw [if_pos hc1] at h; simp at h
      · rw [if_neg hc1] at h
        simp only [Option.map_eq_some_iff] at h
        obtain ⟨ts', h4, rfl⟩ := h
        rcases List.mem_cons.1 ht with rfl | ht
        · have := (O9 hu).2
          rw [List.length_drop] at this
          simp only [strOf, List.length_map]; omega
        · exact ih h4 t ht
theorem TK (l : List Int) : (strOf l).length = l.length := by simp [strOf]
theorem Ko {m4 s15 : List Int} {v : Int} {c1 c2 c3 c4 c5 c6 : Nat} {r : List Int} (hm : m4.length = 4) (hs : s15.length = 15) : (uB m4 s15 v c1 c2 c3 c4 c5 c6 r).length = 44 + r.length := by
  simp only [uB, List.length_append, fH, hm, hs]; omega
def Both (n : Nat) (b : List Int) : Prop :=
  (∃ ts ti ix foot, (∀ t ∈ ts, t.2.2.length ≤ 4096) ∧ dx ts ti ix foot = true ∧ bv n b = some (List.map cT ts, ti, ix, foot, 0) ∧ aD n b = some (List.map cT ts, ti, ix, foot, true)) ∨
  (bv n b = some ([], [], [], [], 60) ∧ ∃ z0 z1 z2 z3, aD n b = some (z0, z1, z2, z3, false) ∧ (b[4]? ≠ some 0 → z0 = [] ∧ z1 = [] ∧ z2 = [] ∧ z3 = []))
theorem qE {n : Nat} {b : List Int} (h1 : ∃ x : Zo, aL n b false = some x ∧ x.2.2.2.2.2 = true) (h2 : aD n b = some ([], [], [], [], false)) : Both n b := .inr ⟨Ka n b h1, _, _, _, _, h2, fun _ => ⟨rfl, rfl, rfl, rfl⟩⟩
theorem Qv (n : Nat) (hn : 5001 ≤ n) {b : List Int} (hb : BY b) (hbl : b.length ≤ 4000) {m4 s15 : List Int} {c1 c2 c3 c4 c5 c6 : Nat} {r : List Int} (he : b = uB m4 s15 0 c1 c2 c3 c4 c5 c6 r) (hm : m4.length = 4) (hs : s15.length = 15) (h1 : c1 < 4294967296) (h2 : c2 < 4294967296) (h3 : c3 < 4294967296) (h4 : c4 < 4294967296) (h5 : c5 < 4294967296) (h6 : c6 < 4294967296) (hr : r = b.drop 44) (hH : isH m4 0 = true) : Both n b := by
  have hlen : b.length = 44 + r.length := by rw [he]; exact Ko hm hs
  have hhead := HV hm hs (v := 0) (by omega) h1 h2 h3 h4 h5 h6 r
  rw [← he, hH] at hhead
  have hcnt := FC n (by omega) (b := b) (a := 0) (by omega) (by rw [List.drop_zero]; exact he) (by omega) hm hs (v := 0) (by omega) h1 h2 h3 h4 h5 h6
  rw [hH, if_pos rfl] at hcnt
  have hcnt : aV n b (0 : Int) = some ((c1 : Int), (c2 : Int), (c3 : Int), (c4 : Int), (c5 : Int), (c6 : Int), 0, true) := hcnt
  have hL : bn n (c1 : Int) (c2 : Int) (c3 : Int) (c4 : Int) (c5 : Int) (c6 : Int) (4 : Int) = some (gZ 4 c1 c2 c3 c4 c5 c6 : Int) := Hz n (w := 4) (.inl rfl) h1 h2 h3 h4 h5 h6
  have hLb : gZ 4 c1 c2 c3 c4 c5 c6 ≤ 1000000000000 := by unfold gZ; omega
  have hfile : ∀ z0 z1 z2 z3 r4 bad4, bI n 0 (c1 : Int) (c2 : Int) (c3 : Int) (c4 : Int) (c5 : Int) (c6 : Int) 4 r false = some (z0, z1, z2, z3, r4, bad4) → aL n b false = some (z0, z1, z2, z3, r4, bad4) := fun z0 z1 z2 z3 r4 bad4 h => by
    unfold aL fG
    rw [uS n (by omega), hhead]
    simp only [Option.bind_some, Bool.not_true]
    rw [show ((0 : Int) == 0) = true by decide, cond_true, h]
    rfl
  have href : aD n b = cond ((b.length : Int) != ((44 + gZ 4 c1 c2 c3 c4 c5 c6 : Nat) : Int)) (some ([], [], [], [], false)) ((aR n r (c1 : Int) (c2 : Int) (c3 : Int) (c4 : Int) (c5 : Int) (c6 : Int) (4 : Int)).bind fun o => some (o.1, o.2.1, o.2.2.1, o.2.2.2.1, o.2.2.2.2)) := by
    unfold aD bN
    rw [hcnt]
    simp only [Option.bind_some, Bool.not_true, cond_false]
    rw [hL]
    simp only [Option.bind_some]
    rw [show ((0 : Int) == 0) = true by decide, cond_true, wi ((44 : Int) + (gZ 4 c1 c2 c3 c4 c5 c6 : Int)) (by omega) (by omega), ← hr, aa (by omega)]
    rfl
  by_cases hlr : b.length = 44 + gZ 4 c1 c2 c3 c4 c5 c6
  · have hne : ((b.length : Int) != ((44 + gZ 4 c1 c2 c3 c4 c5 c6 : Nat) : Int)) = false := by rw [hlr]; simp
    rw [hne, cond_false] at href
    cases hma : Fv c1 c2 c3 c4 c5 c6 with
    | false =>
      have hno := Qo n r 0 h1 h2 h3 h4 h5 h6 (by rw [hma]; rfl)
      have hno2 : aR n r (c1 : Int) (c2 : Int) (c3 : Int) (c4 : Int) (c5 : Int) (c6 : Int) (4 : Int) = some ([], [], [], [], false) := Oa n (w := 4) (.inl rfl) r h1 h2 h3 h4 h5 h6 (by rw [hma]; rfl)
      rw [hno2] at href
      exact qE ⟨_, hfile _ _ _ _ _ _ hno, rfl⟩ href
    | true =>
      obtain ⟨ti, ix, ks, nm, ex, e1, e2, e3, e4, e5, e6, g1, g2, g3, g4⟩ := JH (w := 4) (.inl rfl) (b := r) (by rw [hr]; exact hb.drop 44) (u := c1) (s := c2) (l := c3) (T := c4) (K := c5) (N := c6) (by omega)
      obtain ⟨z, bad, q1, q2, q3⟩ := NY n hn 0 hma e2 e3 e4 e5 e6 g1 g2 g3 g4 []
      rw [List.append_nil, ← e1] at q1
      have q4 := MP n hn (w := 4) (.inl rfl) hma e2 e3 e4 e5 e6 g1 g2 g3
      rw [← e1] at q4
      have q4 : aR n r (c1 : Int) (c2 : Int) (c3 : Int) (c4 : Int) (c5 : Int) (c6 : Int) (4 : Int) = _ := q4
      rw [q4] at href
      obtain ⟨m1, m2, m3, m4', m5, m6, m7, m8⟩ := Br hma
      cases hmk : Ep nm ks with
      | none =>
        rw [hmk] at href
        have := q2 hmk
        subst this
        exact qE ⟨_, hfile _ _ _ _ _ _ q1, rfl⟩ href
      | some ts =>
        obtain ⟨rfl, rfl⟩ := q3 ts hmk
        have hbd := Ob hmk
        rw [hmk] at href
        simp only at href
        rw [BI n (by omega) ts ti ix [] (fun t ht => by have := hbd t ht; omega) (by simp)] at href
        simp only [Option.bind_some] at href
        cases hR : dx ts ti ix [] with
        | true =>
          rw [hR] at href
          exact .inl ⟨ts, ti, ix, [], fun t ht => by have := hbd t ht; omega, hR, GQ n (by omega) b ts ti ix [] (hfile _ _ _ _ _ _ q1) hR, href⟩
        | false =>
          rw [hR] at href
          refine .inr ⟨Kn n (by omega) b ts ti ix [] (hfile _ _ _ _ _ _ q1) hR, _, _, _, _, href, fun h => absurd ?_ h⟩
          rw [he]
          unfold uB
          rw [List.getElem?_append_right (by omega), hm]
          rfl
  · have hne : ((b.length : Int) != ((44 + gZ 4 c1 c2 c3 c4 c5 c6 : Nat) : Int)) = true := by simp; omega
    rw [hne, cond_true] at href
    cases hma : Fv c1 c2 c3 c4 c5 c6 && decide (gZ 4 c1 c2 c3 c4 c5 c6 ≤ r.length) with
    | false => exact qE ⟨_, hfile _ _ _ _ _ _ (Qo n r 0 h1 h2 h3 h4 h5 h6 hma), rfl⟩ href
    | true =>
      simp only [Bool.and_eq_true, decide_eq_true_eq] at hma
      obtain ⟨ti, ix, ks, nm, ex, e1, e2, e3, e4, e5, e6, g1, g2, g3, g4⟩ := JH (w := 4) (.inl rfl) (b := r.take (gZ 4 c1 c2 c3 c4 c5 c6)) (by rw [hr]; exact (hb.drop 44).take _) (u := c1) (s := c2) (l := c3) (T := c4) (K := c5) (N := c6) (by rw [List.length_take]; omega)
      obtain ⟨z, bad, q1, q2, q3⟩ := NY n hn 0 hma.1 e2 e3 e4 e5 e6 g1 g2 g3 g4 (r.drop (gZ 4 c1 c2 c3 c4 c5 c6))
      rw [← e1, List.take_append_drop] at q1
      have hf := hfile _ _ _ _ _ _ q1
      cases bad with
      | true => exact qE ⟨_, hf, rfl⟩ href
      | false => exact .inr ⟨Ra n b hf (by rw [List.length_drop]; omega), _, _, _, _, href, fun _ => ⟨rfl, rfl, rfl, rfl⟩⟩
end Go.Proofs.YtcbgfjghebopoaaDoor.H
namespace Go.Proofs.YtcbgfjghebopoaaDoor.H
open Go.Sh Go.RowKit
set_option linter.unusedSimpArgs false
set_option linter.unusedVariables false
theorem Rb {ts : List Ty} {ti ix : List Int} {foot : Str} (h : dx ts ti ix [] = false) : dx ts ti ix foot = false := by
  cases hR : dx ts ti ix foot with
  | false => rfl
  | true =>
    obtain ⟨h1, h2, h3, h4, h5, h6, h7, h8⟩ := eO hR
    have : dx ts ti ix [] = true := by
      simp only [dx, Bool.and_eq_true, decide_eq_true_eq]
      exact ⟨⟨⟨⟨⟨⟨⟨h1, h2⟩, h3⟩, h4⟩, rfl⟩, h6⟩, h7⟩, h8⟩
    rw [this] at h; cases h
theorem Qw (n : Nat) (hn : 5001 ≤ n) {b : List Int} (hb : BY b) (hbl : b.length ≤ 4000) {m4 s15 : List Int} {v : Int} {c1 c2 c3 c4 c5 c6 : Nat} {r : List Int} (he : b = uB m4 s15 v c1 c2 c3 c4 c5 c6 r) (hm : m4.length = 4) (hs : s15.length = 15) (hv : 0 ≤ v ∧ v ≤ 255) (hv0 : (v == 0) = false) (h1 : c1 < 4294967296) (h2 : c2 < 4294967296) (h3 : c3 < 4294967296) (h4 : c4 < 4294967296) (h5 : c5 < 4294967296) (h6 : c6 < 4294967296) (hr : r = b.drop 44) (hH : isH m4 v = true) : Both n b := by
  have hlen : b.length = 44 + r.length := by rw [he]; exact Ko hm hs
  have hhead := HV hm hs hv h1 h2 h3 h4 h5 h6 r
  rw [← he, hH, Bool.not_true] at hhead
  have hcnt := FC n (by omega) (b := b) (a := 0) (by omega) (by rw [List.drop_zero]; exact he) (by omega) hm hs hv h1 h2 h3 h4 h5 h6
  rw [hH, if_pos rfl] at hcnt
  have hcnt : aV n b (0 : Int) = some ((c1 : Int), (c2 : Int), (c3 : Int), (c4 : Int), (c5 : Int), (c6 : Int), v, true) := hcnt
  generalize hLd : gZ 4 c1 c2 c3 c4 c5 c6 = L
  have hL : bn n (c1 : Int) (c2 : Int) (c3 : Int) (c4 : Int) (c5 : Int) (c6 : Int) (4 : Int) = some (L : Int) := by rw [← hLd]; exact Hz n (w := 4) (.inl rfl) h1 h2 h3 h4 h5 h6
  have hL2 : aO n v (c1 : Int) (c2 : Int) (c3 : Int) (c4 : Int) (c5 : Int) (c6 : Int) (4 : Int) = some (L : Int) := by rw [← hLd]; exact NW n v (w := 4) (.inl rfl) h1 h2 h3 h4 h5 h6
  have hLb : L ≤ 1000000000000 := by rw [← hLd]; unfold gZ; omega
  have href0 : r.length < L → aD n b = some ([], [], [], [], false) := fun hlt => by
    unfold aD bN
    rw [hcnt]
    simp only [Option.bind_some, Bool.not_true, cond_false]
    rw [hL]
    simp only [Option.bind_some]
    rw [hv0, cond_false, wi ((b.length : Int) - 44) (by omega) (by omega), aa (by omega)]
  by_cases hrL : r.length < L
  · have ht := GM (k := (L : Int)) (b := r) (bad := false) (by omega)
    obtain ⟨v2, d1, d2, d3, d4, d5, d6, r3, hh⟩ := O3 (J7 [])
    have hf := uK n (by omega) (r4 := r3) (by
      have : r3.length = 0 := by
        have h0 : mK ([] : List Int) true = (0, 0, 0, 0, 0, 0, 0, [], true) := by kernel_rfl
        rw [h0] at hh; injection hh with _ hh; injection hh with _ hh; injection hh with _ hh; injection hh with _ hh; injection hh with _ hh; injection hh with _ hh; injection hh with _ hh; injection hh with hh _; subst hh; rfl
      omega) hv0 hhead hL2 ht hh (xL n v2 d1 d2 d3 d4 d5 d6 8 r3)
    rw [Bool.true_or, Bool.true_or, if_pos rfl] at hf
    exact qE ⟨_, hf, rfl⟩ (href0 hrL)
  have ht : cB (L : Int) r false = (r.take L, r.drop L, false) := by
    unfold cB
    rw [if_neg (by omega), Int.toNat_natCast]
  have hbL : b.drop (44 + L) = r.drop L := by rw [hr, List.drop_drop]
  have w44 : IntKind.i64.wrap ((44 : Int) + (L : Int)) = ((44 + L : Nat) : Int) := by rw [wi _ (by omega) (by omega)]; omega
  have w88 : IntKind.i64.wrap ((88 : Int) + (L : Int)) = ((88 + L : Nat) : Int) := by rw [wi _ (by omega) (by omega)]; omega
  have href1 : ∀ (e1 e2 e3 e4 e5 e6 v2 : Int) (ok : Bool), aV n b ((44 + L : Nat) : Int) = some (e1, e2, e3, e4, e5, e6, v2, ok) → (ok = false ∨ (v2 != v) = true) → aD n b = some ([], [], [], [], false) := fun e1 e2 e3 e4 e5 e6 v2 ok hc hb2 => by
    unfold aD bN
    rw [hcnt]
    simp only [Option.bind_some, Bool.not_true, cond_false]
    rw [hL]
    simp only [Option.bind_some]
    rw [hv0, cond_false, wi ((b.length : Int) - 44) (by omega) (by omega), ah (by omega), w44, hc]
    simp only [Option.bind_some, iI, dV]
    rcases hb2 with rfl | hb2
    · rfl
    · rw [hb2]; cases ok <;> rfl
  by_cases hl2 : (r.drop L).length < 44
  · have hc := JK n b (44 + L) (by omega) (by omega) (by rw [List.length_drop] at hl2; omega)
    obtain ⟨v2, d1, d2, d3, d4, d5, d6, r3, hh⟩ := O3 (De (b := r.drop L) (bad := false) hl2)
    have hr3 : r3.length ≤ 4000 := by
      have q : (mK (r.drop L) false).2.2.2.2.2.2.2.1.length ≤ (r.drop L).length := by
        simp only [mK]
        have k4 : ∀ (l : List Int) (q : Bool), (dE 4 l q).2.1.length = l.length - 4 := fun l q => Fu 4 l q
        have k1 : ∀ (l : List Int) (q : Bool), (dE 1 l q).2.1.length = l.length - 1 := fun l q => Fu 1 l q
        have k15 : ∀ (l : List Int) (q : Bool), (cB 15 l q).2.1.length = l.length - 15 := fun l q => Em 15 l q
        have kk : ∀ (l : List Int) (q : Bool), (cB 4 l q).2.1.length = l.length - 4 := fun l q => Em 4 l q
        simp only [k4, k1, k15, kk]; omega
      rw [hh] at q
      simp only at q
      rw [List.length_drop] at q; omega
    have hf := uK n (by omega) (r4 := r3) (by omega) hv0 hhead hL2 ht hh (xL n v2 d1 d2 d3 d4 d5 d6 8 r3)
    rw [Bool.true_or, Bool.true_or, if_pos rfl] at hf
    exact qE ⟨_, hf, rfl⟩ (href1 _ _ _ _ _ _ _ _ hc (.inl rfl))
  obtain ⟨m4', s15', v2, d1, d2, d3, d4, d5, d6, r3, he2, hm2, hs2, hv2, g1, g2, g3, g4, g5, g6, hr3⟩ := R7 (b := r.drop L) (by rw [hr]; exact (hb.drop 44).drop L) (by omega)
  have hlen2 : (r.drop L).length = 44 + r3.length := by rw [he2]; exact Ko hm2 hs2
  have hhead2 := HV hm2 hs2 hv2 g1 g2 g3 g4 g5 g6 r3
  rw [← he2] at hhead2
  have hc2 := FC n (by omega) (b := b) (a := 44 + L) (by omega) (by rw [hbL]; exact he2) (by rw [List.length_drop] at hlen2; omega) hm2 hs2 hv2 g1 g2 g3 g4 g5 g6
  have hr3b : r3 = b.drop (88 + L) := by rw [hr3, hr, List.drop_drop, List.drop_drop]; congr 1; omega
  have hr3l : b.length = 88 + L + r3.length := by rw [List.length_drop] at hlen2; omega
  cases hH2 : isH m4' v2 with
  | false =>
    rw [hH2] at hc2 hhead2
    have hf := uK n (by omega) (r4 := r3) (by omega) hv0 hhead hL2 ht hhead2 (xL n v2 d1 d2 d3 d4 d5 d6 8 r3)
    rw [Bool.true_or, Bool.true_or, if_pos rfl] at hf
    exact qE ⟨_, hf, rfl⟩ (href1 _ _ _ _ _ _ _ _ hc2 (.inl rfl))
  | true =>
  rw [hH2, if_pos rfl] at hc2
  rw [hH2, Bool.not_true] at hhead2
  generalize hMd : gZ 8 d1 d2 d3 d4 d5 d6 = M
  have hMb : M ≤ 1000000000000 := by rw [← hMd]; unfold gZ; omega
  have hblk : ∃ z0 z1 z2 z3 r4 bad4, aJ n v2 (d1 : Int) (d2 : Int) (d3 : Int) (d4 : Int) (d5 : Int) (d6 : Int) 8 r3 false = some (z0, z1, z2, z3, r4, bad4) ∧ r4.length ≤ 4000 := by
    cases hma : Fv d1 d2 d3 d4 d5 d6 && decide (gZ 8 d1 d2 d3 d4 d5 d6 ≤ r3.length) with
    | false => exact ⟨_, _, _, _, _, _, Kh n r3 v2 g1 g2 g3 g4 g5 g6 hma, by omega⟩
    | true =>
      simp only [Bool.and_eq_true, decide_eq_true_eq] at hma
      obtain ⟨ti, ix, ks, nm, ex, e1, e2, e3, e4, e5, e6, f1, f2, f3, f4⟩ := JH (w := 8) (.inr rfl) (b := r3.take (gZ 8 d1 d2 d3 d4 d5 d6)) (by rw [hr3b]; exact (hb.drop _).take _) (u := d1) (s := d2) (l := d3) (T := d4) (K := d5) (N := d6) (by rw [List.length_take]; omega)
      obtain ⟨z, bad, q1, q2, q3⟩ := IW n hn v2 hma.1 e2 e3 e4 e5 e6 f1 f2 f3 f4 (r3.drop (gZ 8 d1 d2 d3 d4 d5 d6))
      rw [← e1, List.take_append_drop] at q1
      exact ⟨_, _, _, _, _, _, q1, by rw [List.length_drop]; omega⟩
  cases hvv : v2 != v with
  | true =>
    obtain ⟨z0, z1, z2, z3, r4, bad4, hbk, hr4⟩ := hblk
    have hf := uK n (by omega) (by omega) hv0 hhead hL2 ht hhead2 hbk
    rw [hvv, Bool.or_true, Bool.true_or, if_pos rfl] at hf
    exact qE ⟨_, hf, rfl⟩ (href1 _ _ _ _ _ _ _ _ hc2 (.inr hvv))
  | false =>
  have hM : bn n (d1 : Int) (d2 : Int) (d3 : Int) (d4 : Int) (d5 : Int) (d6 : Int) (8 : Int) = some (M : Int) := by rw [← hMd]; exact Hz n (w := 8) (.inr rfl) g1 g2 g3 g4 g5 g6
  have hM2 : IntKind.i64.wrap ((M : Int) + 2) = ((M + 2 : Nat) : Int) := by rw [wi _ (by omega) (by omega)]; omega
  have href2 : r3.length < M + 2 → aD n b = some ([], [], [], [], false) := fun hlt => by
    unfold aD bN
    rw [hcnt]
    simp only [Option.bind_some, Bool.not_true, cond_false]
    rw [hL]
    simp only [Option.bind_some]
    rw [hv0, cond_false, wi ((b.length : Int) - 44) (by omega) (by omega), ah (by omega), w44, hc2]
    simp only [Option.bind_some, iI, dV, Bool.not_true, cond_false, hvv, w88]
    rw [decide_eq_false (show ¬((b.length : Int) < ((88 + L : Nat) : Int)) by omega), cond_false, aa (by omega), aa (by omega), hM]
    simp only [Option.bind_some]
    rw [Int.toNat_natCast, ← hr3b, hM2, aa (by omega)]
  by_cases hlt : r3.length < M + 2
  ·
    obtain ⟨z0, z1, z2, z3, r4, bad4, hbk, hr4⟩ := hblk
    have hf := uK n (by omega) (by omega) hv0 hhead hL2 ht hhead2 hbk
    have hbad : (bad4 || v2 != v || gB r4) = true := by
      cases hma : Fv d1 d2 d3 d4 d5 d6 && decide (gZ 8 d1 d2 d3 d4 d5 d6 ≤ r3.length) with
      | false =>
        rw [Kh n r3 v2 g1 g2 g3 g4 g5 g6 hma] at hbk
        injection hbk with hbk
        injection hbk with _ hbk; injection hbk with _ hbk; injection hbk with _ hbk; injection hbk with _ hbk; injection hbk with _ hbk
        subst hbk; rfl
      | true =>
        simp only [Bool.and_eq_true, decide_eq_true_eq] at hma
        obtain ⟨ti, ix, ks, nm, ex, e1, e2, e3, e4, e5, e6, f1, f2, f3, f4⟩ := JH (w := 8) (.inr rfl) (b := r3.take (gZ 8 d1 d2 d3 d4 d5 d6)) (by rw [hr3b]; exact (hb.drop _).take _) (u := d1) (s := d2) (l := d3) (T := d4) (K := d5) (N := d6) (by rw [List.length_take]; omega)
        obtain ⟨z, bad, q1, q2, q3⟩ := IW n hn v2 hma.1 e2 e3 e4 e5 e6 f1 f2 f3 f4 (r3.drop (gZ 8 d1 d2 d3 d4 d5 d6))
        rw [← e1, List.take_append_drop, hbk] at q1
        injection q1 with q1
        injection q1 with _ q1; injection q1 with _ q1; injection q1 with _ q1; injection q1 with _ q1; injection q1 with q1 _
        have hl : r4.length < 2 := by rw [q1, List.length_drop]; omega
        simp [gB, hl]
    rw [hbad, if_pos rfl] at hf
    exact qE ⟨_, hf, rfl⟩ (href2 hlt)
  generalize htd : r3.drop M = t at *
  have htl : t.length = r3.length - M := by rw [← htd, List.length_drop]
  have href3 : ∀ (z0 : List (List AV)) (z1 z2 : List Int) (z3 : Str) (may : Bool), aR n (r3.take M) (d1 : Int) (d2 : Int) (d3 : Int) (d4 : Int) (d5 : Int) (d6 : Int) (8 : Int) = some (z0, z1, z2, z3, may) →
      aD n b = cond (!may || gB t) (some ([], [], [], [], false)) ((bM n z0 z1 z2 (strOf ((t.take (t.length - 1)).drop 1))).bind fun o => cond (!o) (some ([], [], [], [], false)) (some (z0, z1, z2, strOf ((t.take (t.length - 1)).drop 1), true))) := fun z0 z1 z2 z3 may hbk => by
    unfold aD bN
    rw [hcnt]
    simp only [Option.bind_some, Bool.not_true, cond_false]
    rw [hL]
    simp only [Option.bind_some]
    rw [hv0, cond_false, wi ((b.length : Int) - 44) (by omega) (by omega), ah (by omega), w44, hc2]
    simp only [Option.bind_some, iI, dV, Bool.not_true, cond_false, hvv, w88]
    rw [decide_eq_false (show ¬((b.length : Int) < ((88 + L : Nat) : Int)) by omega), cond_false, aa (by omega), aa (by omega), hM]
    simp only [Option.bind_some]
    rw [Int.toNat_natCast, ← hr3b, hM2, ah (by omega), aa (by omega), aa (by omega), Int.toNat_natCast, List.drop_zero, hbk]
    simp only [Option.bind_some]
    rw [aa (by omega), aa (by omega), htd]
    have hj : kE n may t [] [] [] [] (c1 : Int) (c2 : Int) (c3 : Int) (c4 : Int) (c5 : Int) (c6 : Int) (d1 : Int) (d2 : Int) (d3 : Int) (d4 : Int) (d5 : Int) (d6 : Int) z0 z1 z2 z3 = some (!may || gB t, [], [], [], [], (c1 : Int), (c2 : Int), (c3 : Int), (c4 : Int), (c5 : Int), (c6 : Int), (d1 : Int), (d2 : Int), (d3 : Int), (d4 : Int), (d5 : Int), (d6 : Int), z0, z1, z2, z3) := by
      unfold kE jG gB
      cases may with
      | false => rfl
      | true =>
        rw [Bool.not_true, cond_false, qW (show 0 < t.length by omega), decide_eq_false (show ¬(t.length < 2) by omega)]
        simp only [Option.bind_some]
        cases t.getD 0 0 != 10 with
        | true => rfl
        | false =>
          rw [cond_false, wi _ (by omega) (by omega), aa (by omega), show ((t.length : Int) - 1).toNat = t.length - 1 by omega, qW (show t.length - 1 < t.length by omega)]
          rfl
    rw [hj]
    simp only [Option.bind_some]
    cases !may || gB t with
    | true => rfl
    | false =>
      rw [cond_false, cond_false, wi ((t.length : Int) - 1) (by omega) (by omega), aa (by omega), aa (by omega), show ((t.length : Int) - 1).toNat = t.length - 1 by omega, aa (by omega)]
  cases hma : Fv d1 d2 d3 d4 d5 d6 with
  | false =>
    have hno := Kh n r3 v2 g1 g2 g3 g4 g5 g6 (by rw [hma]; rfl)
    have hno2 : aR n (r3.take M) (d1 : Int) (d2 : Int) (d3 : Int) (d4 : Int) (d5 : Int) (d6 : Int) (8 : Int) = some ([], [], [], [], false) := Oa n (w := 8) (.inr rfl) _ g1 g2 g3 g4 g5 g6 (by rw [hma]; rfl)
    have hf := uK n (by omega) (by omega) hv0 hhead hL2 ht hhead2 hno
    rw [Bool.true_or, Bool.true_or, if_pos rfl] at hf
    exact qE ⟨_, hf, rfl⟩ (href3 _ _ _ _ _ hno2)
  | true =>
    obtain ⟨ti, ix, ks, nm, ex, e1, e2, e3, e4, e5, e6, f1, f2, f3, f4⟩ := JH (w := 8) (.inr rfl) (b := r3.take M) (by rw [hr3b]; exact (hb.drop _).take _) (u := d1) (s := d2) (l := d3) (T := d4) (K := d5) (N := d6) (by rw [List.length_take]; omega)
    obtain ⟨z, bad, q1, q2, q3⟩ := IW n hn v2 hma e2 e3 e4 e5 e6 f1 f2 f3 f4 t
    rw [← e1, ← htd, List.take_append_drop, htd] at q1
    have q4 := MP n hn (w := 8) (.inr rfl) hma e2 e3 e4 e5 e6 f1 f2 f3
    rw [← e1] at q4
    have q4 : aR n (r3.take M) (d1 : Int) (d2 : Int) (d3 : Int) (d4 : Int) (d5 : Int) (d6 : Int) (8 : Int) = _ := q4
    obtain ⟨m1, m2, m3, m4'', m5, m6, m7, m8⟩ := Br hma
    have hf := uK n (by omega) (by omega) hv0 hhead hL2 ht hhead2 q1
    rw [hvv, Bool.or_false] at hf
    cases hmk : Ep nm ks with
    | none =>
      rw [hmk] at q4
      have := q2 hmk
      subst this
      rw [Bool.true_or, if_pos rfl] at hf
      exact qE ⟨_, hf, rfl⟩ (href3 _ _ _ _ _ q4)
    | some ts =>
      obtain ⟨rfl, rfl⟩ := q3 ts hmk
      have hbd := Ob hmk
      rw [hmk] at q4
      simp only at q4
      rw [BI n (by omega) ts ti ix [] (fun t ht => by have := hbd t ht; omega) (by simp)] at q4
      simp only [Option.bind_some] at q4
      have hrf := href3 _ _ _ _ _ q4
      rw [Bool.false_or] at hf
      have hfl : (strOf ((t.take (t.length - 1)).drop 1)).length ≤ 4000 := by rw [TK, List.length_drop, List.length_take]; omega
      rw [BI n (by omega) ts ti ix _ (fun t ht => by have := hbd t ht; omega) hfl] at hrf
      simp only [Option.bind_some] at hrf
      cases htb : gB t with
      | true =>
        rw [htb, if_pos rfl] at hf
        rw [htb, Bool.or_true, cond_true] at hrf
        exact qE ⟨_, hf, rfl⟩ hrf
      | false =>
        rw [htb] at hf
        rw [if_neg (by decide)] at hf
        rw [htb, Bool.or_false] at hrf
        cases hR0 : dx ts ti ix [] with
        | false =>
          rw [hR0] at hrf
          exact .inr ⟨Kn n (by omega) b ts ti ix _ hf (Rb hR0), _, _, _, _, hrf, fun _ => ⟨rfl, rfl, rfl, rfl⟩⟩
        | true =>
          rw [hR0, Bool.not_true, cond_false] at hrf
          cases hR : dx ts ti ix (strOf ((t.take (t.length - 1)).drop 1)) with
          | false =>
            rw [hR] at hrf
            exact .inr ⟨Kn n (by omega) b ts ti ix _ hf hR, _, _, _, _, hrf, fun _ => ⟨rfl, rfl, rfl, rfl⟩⟩
          | true =>
            rw [hR] at hrf
            exact .inl ⟨ts, ti, ix, _, fun t ht => by have := hbd t ht; omega, hR, GQ n (by omega) b ts ti ix _ hf hR, hrf⟩
theorem Rc (n : Nat) (hn : 5001 ≤ n) {b : List Int} (hb : BY b) (hbl : b.length ≤ 4000) : Both n b := by
  by_cases hl : b.length < 44
  · exact qE (MG n (by omega) b (De hl)) (MQ n b (JK n b 0 (by omega) (by omega) (by omega)))
  obtain ⟨m4, s15, v, c1, c2, c3, c4, c5, c6, r, he, hm, hs, hv, h1, h2, h3, h4, h5, h6, hr⟩ := R7 hb (by omega)
  cases hH : isH m4 v with
  | false =>
    have hhead := HV hm hs hv h1 h2 h3 h4 h5 h6 r
    rw [← he, hH] at hhead
    have hcnt := FC n (by omega) (b := b) (a := 0) (by omega) (by rw [List.drop_zero]; exact he) (by omega) hm hs hv h1 h2 h3 h4 h5 h6
    rw [hH] at hcnt
    exact qE (MG n (by omega) b (by rw [hhead]; rfl)) (MQ n b hcnt)
  | true =>
    by_cases hv0 : v = 0
    · subst hv0
      exact Qv n hn hb hbl he hm hs h1 h2 h3 h4 h5 h6 hr hH
    · exact Qw n hn hb hbl he hm hs hv (by simpa using hv0) h1 h2 h3 h4 h5 h6 hr hH
end Go.Proofs.YtcbgfjghebopoaaDoor.H
namespace Go.Proofs.YtcbgfjghebopoaaDoor.H
open Go.Sh Go.RowKit
set_option linter.unusedSimpArgs false
set_option linter.unusedVariables false
theorem MR {ts : List Ty} {ti ix : List Int} {foot : Str} (hR : dx ts ti ix foot = true) : 105 ≤ (nM ts ti ix foot).length ∧ (nM ts ti ix foot).length ≤ 50000 := by
  obtain ⟨h1, h2, h3, h4, h5, h6, h7, h8⟩ := eO hR
  have hf : foot.length ≤ 100 := by
    simp only [rQ, Bool.and_eq_true, decide_eq_true_eq] at h5
    omega
  have hs : 2 ≤ bG ts := by
    cases ts with
    | nil => simp at h1
    | cons t r' =>
      have := List.all_eq_true.1 h6 t (by simp)
      have h0 : t.2.2 ≠ [] := fun e => by simp [okT, e] at this
      have := List.length_pos_iff.2 h0
      simp only [bG]; omega
  rw [rJ, List.length_append, List.length_append, rM, MH ts ti ix h4]
  have htl : (10 :: (au foot ++ [10])).length = foot.length + 2 := by simp [aM]
  rw [htl]
  omega
theorem Pb (m : Nat) (ts : List Ty) (ti ix : List Int) (foot : Str) (cut : Int) (hti : ∀ x ∈ ti, -9223372036854775808 ≤ x ∧ x ≤ 9223372036854775807) (hc : 0 ≤ cut ∧ cut ≤ 65535) : bZ (m + 5000) (ts.map cT) ti ix foot cut = some true := by
  have hw := EH m
  have hf : bR (m + 5000) (ts.map cT) ti ix foot 500 = some (Lc ts ti ix foot 500) := O7 _ ts ti ix foot 500
  unfold bZ jy
  rw [hf]
  simp only [Option.bind_some]
  cases c0 : Lc ts ti ix foot 500 with
  | false => simp [hw]
  | true =>
  have d0 := c0
  simp only [Lc, Bool.and_eq_true, decide_eq_true_eq] at d0
  simp only [Bool.not_true, cond_false, Lg (m + 5000) (by omega), Option.bind_some]
  cases hR : dx ts ti ix foot with
  | false => simp [hw]
  | true =>
  obtain ⟨l1, l2⟩ := MR hR
  simp only [if_true]
  rw [show ((0 : Int) != 0) = false by decide, cond_false, Tz _ (by omega) ts ti ix foot hR hti]
  simp only [Option.bind_some]
  have hj : jg (m + 5000) (nM ts ti ix foot) 0 (ts.map cT) ti ix foot (ts.map cT) ti ix foot = some (false, ts.map cT, ti, ix, foot, ts.map cT, ti, ix, foot) := by
    unfold jg gX
    rw [show ((0 : Int) != 0) = false by decide, cond_false, GV _ ts ti ix foot ts ti ix foot (by omega) (by omega) (by omega) (by omega) (by omega) (by omega), AA]
    simp only [Option.bind_some, Bool.not_true, cond_false]
    rw [xJ _ (by omega), hR]
    simp only [Option.bind_some, Bool.not_true, cond_false]
    rw [decide_eq_false (by omega)]
  rw [hj]
  simp only [Option.bind_some, cond_false]
  generalize hL : (nM ts ti ix foot).length = L at l1 l2
  obtain ⟨c, hcd⟩ : ∃ c : Int, Int.tmod cut ((L : Int) - 1) = c := ⟨_, rfl⟩
  have hc0 : 0 ≤ c ∧ c < (L : Int) - 1 := by
    rw [← hcd, Int.tmod_eq_emod_of_nonneg hc.1]
    exact ⟨Int.emod_nonneg _ (by omega), Int.emod_lt_of_pos _ (by omega)⟩
  rw [wi ((L : Int) - 1) (by omega) (by omega), wi cut (by omega) (by omega), hcd, wi (1 + c) (by omega) (by omega), wi _ (by omega) (by omega)]
  rw [show ((L : Int) - 1 == 0) = false by simp; omega, cond_false, aa (by omega), aa (by omega), List.drop_zero, TA _ (by omega) ts ti ix foot hR hti _ (by omega)]
  simp only [Option.bind_some, List.nil_append, List.length_nil, List.length_append, List.length_cons, hL]
  rw [aa (by omega), aa (by omega), Q8 _ (by omega) ts ti ix foot hR hti]
  simp [hw]
end Go.Proofs.YtcbgfjghebopoaaDoor.H
namespace Go.Proofs.YtcbgfjghebopoaaDoor.H
open Go.Sh Go.RowKit
set_option linter.unusedSimpArgs false
set_option linter.unusedVariables false
theorem Qx (n : Nat) (hn : 4001 ≤ n) (ts : List Ty) (ti ix : List Int) (foot : Str) (hR : dx ts ti ix foot = true) (hti : ∀ x ∈ ti, -9223372036854775808 ≤ x ∧ x ≤ 9223372036854775807) (y : List Int) (hy : y.length = 7) :
    bv n (bJ [0, 0, 0, 0, 1, 1] ++ (y ++ (bJ [0, 0, 0, (ti.length : Int), (ts.length : Int), (bG ts : Int)] ++ (jl ts ti ix ++ (10 :: (au foot ++ [10])))))) = some (ts.map cT, ti, ix, foot, 0) := by
  obtain ⟨h1, h2, h3, h4, h5, h6, h7, h8⟩ := eO hR
  have hf : foot.length ≤ 100 := by
    simp only [rQ, Bool.and_eq_true, decide_eq_true_eq] at h5
    omega
  refine GQ n hn _ ts ti ix foot ?_ hR
  have hl : (10 :: (au foot ++ [10])).length = foot.length + 2 := by simp [aM]
  have hb : gB (10 :: (au foot ++ [10])) = false := by
    unfold gB
    rw [decide_eq_false (by omega), hl]
    have e2 : (10 :: (au foot ++ [10])).getD (foot.length + 2 - 1) 0 = 10 := by
      rw [show foot.length + 2 - 1 = foot.length + 1 by omega, List.getD_cons_succ, List.getD_eq_getElem?_getD, List.getElem?_append_right (by rw [aM]; omega), aM]
      simp
    rw [e2]
    rfl
  have e3 : ((10 :: (au foot ++ [10])).take ((10 :: (au foot ++ [10])).length - 1)).drop 1 = au foot := by
    rw [hl, show foot.length + 2 - 1 = foot.length + 1 by omega, List.take_succ_cons, List.drop_succ_cons, List.drop_zero, ← aM foot, List.take_left']
    rfl
  have e7 : cB 7 (y ++ (bJ [0, 0, 0, (ti.length : Int), (ts.length : Int), (bG ts : Int)] ++ (jl ts ti ix ++ (10 :: (au foot ++ [10]))))) false = (y, bJ [0, 0, 0, (ti.length : Int), (ts.length : Int), (bG ts : Int)] ++ (jl ts ti ix ++ (10 :: (au foot ++ [10]))), false) := by
    have := il y (bJ [0, 0, 0, (ti.length : Int), (ts.length : Int), (bG ts : Int)] ++ (jl ts ti ix ++ (10 :: (au foot ++ [10])))) false
    rw [hy] at this
    exact this
  have e0 : jl ts ti ix ++ (10 :: (au foot ++ [10])) = ti.flatMap (be 8) ++ (ix.flatMap (be 1) ++ (dW 0 ts ++ (ay ts ++ (10 :: (au foot ++ [10]))))) := by simp [jl]
  have hblk := MF n hn 50 ts ti ix (10 :: (au foot ++ [10])) h1 h2 h3 h4 h6 h8 hti (MI hR)
  rw [← e0] at hblk
  rw [NV n (by omega) (by omega) (Qm _) e7 (Vm _ _ _ h3 h2 h8 _) hblk, hb, e3, zP]
  rfl
theorem TL (n : Nat) (hn : 4001 ≤ n) (ts : List Ty) (ti ix : List Int) (foot : Str) (hR : dx ts ti ix foot = true) (hR0 : dx ts ti ix [] = true) (hti : ∀ x ∈ ti, -2147483648 ≤ x ∧ x ≤ 2147483647) :
    bv n (Eo 0 [0, 0, 0, (ti.length : Int), (ts.length : Int), (bG ts : Int)] ++ (ti.flatMap (be 4) ++ (ix.flatMap (be 1) ++ (dW 0 ts ++ ay ts)))) = some (ts.map cT, ti, ix, [], 0) := by
  obtain ⟨h1, h2, h3, h4, h5, h6, h7, h8⟩ := eO hR
  refine GQ n hn _ ts ti ix [] ?_ hR0
  have hh := Mx 0 0 0 0 (ti.length : Int) (ts.length : Int) (bG ts : Int) (.inl rfl) (fun x hx => by
    simp only [List.mem_cons, List.not_mem_nil, or_false] at hx
    rcases hx with rfl | rfl | rfl | rfl | rfl | rfl <;> omega) (ti.flatMap (be 4) ++ (ix.flatMap (be 1) ++ (dW 0 ts ++ ay ts)))
  have hblk := Vl n hn 0 ts ti ix [] h1 h2 h3 h4 h6 h8 hti (MI hR)
  rw [List.append_nil] at hblk
  unfold aL fG
  rw [uS n (by omega), hh]
  simp only [Option.bind_some]
  rw [show ((0 : Int) == 0) = true by decide, cond_true, hblk]
  rfl
theorem Xu (v : Int) : be 4 v = [IntKind.u8.wrap (Int.fdiv v (2 ^ 24)), IntKind.u8.wrap (Int.fdiv v (2 ^ 16)), IntKind.u8.wrap (Int.fdiv v (2 ^ 8)), IntKind.u8.wrap v] := by
  simp [be]
theorem Qy (n : Nat) (hw : aC n = some true) (b : List Int) (h0 : List (List AV)) (ti ix : List Int) (h3 : Str) (hti : ti.length ≤ 4000) : ∀ (r : List Int) (i m : Nat) (row : List Int), ti.drop i = r → r.length < m → 1 ≤ row.length → row.length + 4 * r.length ≤ 100000 →
    (∃ row', bH n m b row.length row.length (i : Int) h0 ti ix h3 row = some (Sum.inl (true, h0, ti, ix, h3, row'))) ∨
    ((∀ x ∈ r, -2147483648 ≤ x ∧ x ≤ 2147483647) ∧ bH n m b row.length row.length (i : Int) h0 ti ix h3 row = some (Sum.inr (row.length + 4 * r.length, row.length + 4 * r.length, h0, ti, ix, h3, row ++ r.flatMap (be 4))))
  | [], i, m + 1, row, hd, _, _, _ => by
    have hi := drop_nil hd
    right
    refine ⟨by simp, ?_⟩
    simp only [bH, fq]
    rw [ah (by omega)]
    simp
  | c :: r, i, m + 1, row, hd, hm, h1, hl => by
    obtain ⟨k1, k2, k3⟩ := aI hd
    simp only [List.length_cons] at hm hl
    have ej : jC n c h0 ti ix h3 row = some (decide (c < -2147483648) || decide (c ≥ 2147483648), h0, ti, ix, h3, row) := by
      unfold jC iM
      by_cases q : c < -2147483648
      · rw [aa q, decide_eq_true q]; rfl
      · rw [ah q, decide_eq_false q]; rfl
    simp only [bH, fq]
    rw [aa (by omega), aa (by omega), Int.toNat_natCast, k1, gz _ (by omega)]
    simp only [Option.bind_some, ej, hw]
    by_cases hc : c < -2147483648 ∨ c ≥ 2147483648
    · have : (decide (c < -2147483648) || decide (c ≥ 2147483648)) = true := by
        rcases hc with h | h <;> simp [h]
      rw [this]
      exact .inl ⟨_, rfl⟩
    · have e0 : (decide (c < -2147483648) || decide (c ≥ 2147483648)) = false := by
        rw [decide_eq_false (by omega), decide_eq_false (by omega)]; rfl
      rw [e0, cond_false]
      have e1 : (decide True && (decide (0 < row.length + ([IntKind.u8.wrap (Int.fdiv c (2 ^ 24)), IntKind.u8.wrap (Int.fdiv c (2 ^ 16)), IntKind.u8.wrap (Int.fdiv c (2 ^ 8)), IntKind.u8.wrap c] : List Int).length) || Nat.beq row.length 0) && decide ((row.length + ([IntKind.u8.wrap (Int.fdiv c (2 ^ 24)), IntKind.u8.wrap (Int.fdiv c (2 ^ 16)), IntKind.u8.wrap (Int.fdiv c (2 ^ 8)), IntKind.u8.wrap c] : List Int).length) * 1 ≤ 140737488355328)) = true := by
        simp only [decide_true, Bool.true_and, Bool.and_eq_true, Bool.or_eq_true, decide_eq_true_eq, List.length_cons, List.length_nil]; exact ⟨.inl (by omega), by omega⟩
      rw [e1, cond_true, List.take_length, ← Xu]
      have e2 : row.length + (be 4 c).length = (row ++ be 4 c).length := by simp
      rw [e2]
      have hl2 : (row ++ be 4 c).length = row.length + 4 := by rw [List.length_append, fH]
      rcases Qy n hw b h0 ti ix h3 hti r (i + 1) m (row ++ be 4 c) k2 (by omega) (by omega) (by omega) with ⟨row', h⟩ | ⟨hr, h⟩
      · exact .inl ⟨row', h⟩
      · refine .inr ⟨fun x hx => ?_, ?_⟩
        · rcases List.mem_cons.1 hx with rfl | hx
          · omega
          · exact hr x hx
        · rw [h, hl2]
          simp only [List.length_cons, List.flatMap_cons, List.append_assoc]
          rw [show row.length + 4 + 4 * r.length = row.length + 4 * (r.length + 1) by omega]
theorem Pd {ts : List Ty} {ti ix : List Int} {foot : Str} (h : dx ts ti ix foot = true) : dx ts ti ix [] = true := by
  obtain ⟨h1, h2, h3, h4, h5, h6, h7, h8⟩ := eO h
  simp only [dx, Bool.and_eq_true, decide_eq_true_eq]
  exact ⟨⟨⟨⟨⟨⟨⟨h1, h2⟩, h3⟩, h4⟩, rfl⟩, h6⟩, h7⟩, h8⟩
theorem GX (m : Nat) (ts : List Ty) (ti ix : List Int) (foot : Str) (at_ by_ : Int) (hti : ∀ x ∈ ti, -9223372036854775808 ≤ x ∧ x ≤ 9223372036854775807) (hc : 0 ≤ at_ ∧ at_ ≤ 65535) : bq (m + 5000) (ts.map cT) ti ix foot at_ by_ = some true := by
  have hw := EH m
  have hf : bR (m + 5000) (ts.map cT) ti ix foot 300 = some (Lc ts ti ix foot 300) := O7 _ ts ti ix foot 300
  unfold bq jX ma iJ
  rw [hf]
  simp only [Option.bind_some]
  cases c0 : Lc ts ti ix foot 300 with
  | false => simp [hw]
  | true =>
  have d0 := c0
  simp only [Lc, Bool.and_eq_true, decide_eq_true_eq] at d0
  simp only [Bool.not_true, cond_false, xJ (m + 5000) (by omega), Option.bind_some]
  cases hR : dx ts ti ix foot with
  | false => simp [hw]
  | true =>
  obtain ⟨h1, h2, h3, h4, h5, h6, h7, h8⟩ := eO hR
  obtain ⟨l1, l2⟩ := MR hR
  simp only [Bool.not_true, cond_false, Lg (m + 5000) (by omega), hR, if_true, Option.bind_some]
  have hj2 : jA (m + 5000) (nM ts ti ix foot) 0 (ts.map cT) ti ix foot = some (false, ts.map cT, ti, ix, foot) := by
    unfold jA iK
    rw [show ((0 : Int) != 0) = false by decide, cond_false, decide_eq_false (by omega)]
  rw [hj2]
  simp only [Option.bind_some, cond_false]
  obtain ⟨k, hk⟩ : ∃ k : Nat, Int.tmod at_ 7 = (k : Int) ∧ k < 7 := by
    rw [Int.tmod_eq_emod_of_nonneg hc.1]
    exact ⟨(at_ % 7).toNat, by omega, by omega⟩
  have l44 : (bJ [0, 0, 0, 0, 1, 1]).length = 44 := by rw [rG]; rfl
  have lh1 : (bJ [0, 0, 0, (ti.length : Int), (ts.length : Int), (bG ts : Int)]).length = 44 := by rw [rG]; rfl
  have hput : nM ts ti ix foot = bJ [0, 0, 0, 0, 1, 1] ++ (List.replicate 7 0 ++ (bJ [0, 0, 0, (ti.length : Int), (ts.length : Int), (bG ts : Int)] ++ (jl ts ti ix ++ (10 :: (au foot ++ [10]))))) := by rw [rJ]; simp only [xM, List.append_assoc]
  have hset : (nM ts ti ix foot).set (44 + k) by_ = bJ [0, 0, 0, 0, 1, 1] ++ ((List.replicate 7 0).set k by_ ++ (bJ [0, 0, 0, (ti.length : Int), (ts.length : Int), (bG ts : Int)] ++ (jl ts ti ix ++ (10 :: (au foot ++ [10]))))) := by
    rw [hput, List.set_append_right _ _ (by omega), l44, show 44 + k - 44 = k by omega, List.set_append_left _ _ (by simp; omega)]
  have hu : IntKind.u16.wrap ((44 : Int) + Int.tmod at_ 7) = ((44 + k : Nat) : Int) := by rw [hk.1, IntKind.wrap_u16]; omega
  have hne : (!(nM ts ti ix foot).isEmpty) = true := by
    cases hp : nM ts ti ix foot with
    | nil => rw [hp] at l1; simp at l1
    | cons a b => rfl
  have hp1 := Qx (m + 5000) (by omega) ts ti ix foot hR hti ((List.replicate 7 0).set k by_) (by simp)
  rw [← hset] at hp1
  rw [hne, cond_true, aa (by omega), hu, aa (by omega), aa (by omega), Int.toNat_natCast, Nat.mul_one, aa (by omega), aa (by simp), List.take_of_length_le (by simp), hp1]
  simp only [Option.bind_some]
  have hj1 : jB (m + 5000) 0 (ts.map cT) ti ix foot (ts.map cT) ti ix foot = some (false, ts.map cT, ti, ix, foot, ts.map cT, ti, ix, foot) := by
    unfold jB iL
    rw [show ((0 : Int) != 0) = false by decide, cond_false, GV _ ts ti ix foot ts ti ix foot (by omega) (by omega) (by omega) (by omega) (by omega) (by omega), AA]
    rfl
  rw [hj1]
  simp only [Option.bind_some, cond_false]
  have hcut : ((nM ts ti ix foot).take 95).drop 51 = bJ [0, 0, 0, (ti.length : Int), (ts.length : Int), (bG ts : Int)] := by
    rw [rJ, List.take_append, rM, Nat.sub_self, List.take_zero, List.append_nil, List.take_of_length_le (by rw [rM]; omega)]
    unfold xM
    rw [List.drop_append, l44, List.drop_of_length_le (by omega), List.nil_append, show 51 - 44 = 7 from rfl, List.drop_append, List.length_replicate, List.drop_of_length_le (by simp)]
    rfl
  have hold : (bJ [0, 0, 0, (ti.length : Int), (ts.length : Int), (bG ts : Int)]).set 4 0 = Eo 0 [0, 0, 0, (ti.length : Int), (ts.length : Int), (bG ts : Int)] := by
    unfold bJ Eo
    simp [be]
    rfl
  have hl44 : (Eo 0 [0, 0, 0, (ti.length : Int), (ts.length : Int), (bG ts : Int)]).length = 44 := by rw [← hold, List.length_set, lh1]
  have hne2 : (!(bJ [0, 0, 0, (ti.length : Int), (ts.length : Int), (bG ts : Int)]).isEmpty) = true := by
    cases hp : bJ [0, 0, 0, (ti.length : Int), (ts.length : Int), (bG ts : Int)] with
    | nil => rw [hp] at lh1; simp at lh1
    | cons a b => rfl
  rw [hcut, aa (by omega), aa (by omega), hne2, cond_true, aa (by omega), aa (by omega), aa (by rw [lh1]; decide), show Int.toNat 4 * 1 = 4 from rfl, hold]
  have hloop := Qy (m + 5000) hw (nM ts ti ix foot) (ts.map cT) ti ix foot h3 ti 0 (m + 5000) (Eo 0 [0, 0, 0, (ti.length : Int), (ts.length : Int), (bG ts : Int)]) (by simp) (by omega) (by omega) (by omega)
  rw [hl44] at hloop
  simp only [Int.natCast_zero] at hloop
  rw [lh1]
  rcases hloop with ⟨row', h⟩ | ⟨hr, h⟩
  · rw [h]; rfl
  · rw [h]
    have hbl := MH ts ti ix h4
    have hpl : (nM ts ti ix foot).length = 95 + ((jl ts ti ix).length + (foot.length + 2)) := by
      rw [rJ, List.length_append, List.length_append, rM]
      simp [aM]
    have hf : foot.length ≤ 100 := by
      simp only [rQ, Bool.and_eq_true, decide_eq_true_eq] at h5
      omega
    have hbody : ((nM ts ti ix foot).take (95 + (jl ts ti ix).length)).drop (95 + 8 * ti.length) = ix.flatMap (be 1) ++ (dW 0 ts ++ ay ts) := by
      rw [rJ, List.take_append, rM, List.take_of_length_le (by rw [rM]; omega), show 95 + (jl ts ti ix).length - 95 = (jl ts ti ix).length by omega, List.take_append, List.take_of_length_le (Nat.le_refl _), Nat.sub_self, List.take_zero, List.append_nil, List.drop_append, rM, List.drop_of_length_le (by rw [rM]; omega), List.nil_append, show 95 + 8 * ti.length - 95 = 8 * ti.length by omega]
      unfold jl
      rw [List.drop_append, jN, List.drop_of_length_le (by rw [jN]; omega), List.nil_append, Nat.sub_self, List.drop_zero]
    have hB : (ix.flatMap (be 1) ++ (dW 0 ts ++ ay ts)).length ≤ 10000 := by
      simp only [List.length_append, jN, p9, ik]; omega
    simp only [Option.bind_some, Sum.elim_inr]
    have w1 : IntKind.i64.wrap (IntKind.i64.wrap (((nM ts ti ix foot).length : Int) - (foot.length : Int)) - 2) = ((95 + (jl ts ti ix).length : Nat) : Int) := by
      rw [wi (((nM ts ti ix foot).length : Int) - (foot.length : Int)) (by omega) (by omega), wi _ (by omega) (by omega)]; omega
    have w2 : IntKind.i64.wrap ((95 : Int) + IntKind.i64.wrap ((8 : Int) * (ti.length : Int))) = ((95 + 8 * ti.length : Nat) : Int) := by
      rw [wi ((8 : Int) * (ti.length : Int)) (by omega) (by omega), wi _ (by omega) (by omega)]; omega
    simp only [w1, w2, Int.toNat_natCast, hbody]
    have hlr : (Eo 0 [0, 0, 0, (ti.length : Int), (ts.length : Int), (bG ts : Int)] ++ ti.flatMap (be 4)).length = 44 + 4 * ti.length := by rw [List.length_append, hl44, jN]
    have htk : (Eo 0 [0, 0, 0, (ti.length : Int), (ts.length : Int), (bG ts : Int)] ++ ti.flatMap (be 4)).take (44 + 4 * ti.length) = Eo 0 [0, 0, 0, (ti.length : Int), (ts.length : Int), (bG ts : Int)] ++ ti.flatMap (be 4) := List.take_of_length_le (by omega)
    rw [aa (by omega), aa (by omega), aa (by omega), aa (by omega), htk, hlr]
    have e1 : (decide True && (decide (0 < 44 + 4 * ti.length + (ix.flatMap (be 1) ++ (dW 0 ts ++ ay ts)).length) || Nat.beq (44 + 4 * ti.length) 0) && decide ((44 + 4 * ti.length + (ix.flatMap (be 1) ++ (dW 0 ts ++ ay ts)).length) * 1 ≤ 140737488355328)) = true := by
      simp only [decide_true, Bool.true_and, Bool.and_eq_true, Bool.or_eq_true, decide_eq_true_eq]; exact ⟨.inl (by omega), by omega⟩
    simp only [show (44 + 4 * ti.length = 44 + 4 * ti.length) = True from eq_self _]
    rw [e1, cond_true, aa (by have := hlr; simp only [List.length_append] at this ⊢; omega), List.take_of_length_le (by have := hlr; simp only [List.length_append] at this ⊢; omega), List.append_assoc, TL (m + 5000) (by omega) ts ti ix foot hR (Pd hR) hr]
    simp only [Option.bind_some]
    rw [show ((0 : Int) == 0) = true by decide, cond_true, GV _ ts ti ix [] ts ti ix [] (by omega) (by omega) (by omega) (by omega) (by omega) (by omega), AA]
    simp [hw]
end Go.Proofs.YtcbgfjghebopoaaDoor.H
namespace Go.Proofs.YtcbgfjghebopoaaDoor.H
open Go.Sh Go.RowKit
set_option linter.unusedSimpArgs false
set_option linter.unusedVariables false
theorem GY (m : Nat) {b : List Int} (hb : BY b) (hl : b.length ≤ 4000) (h4 : b[4]? ≠ some 0) : fA (m + 5001) b = some true := by
  have hw : aC (m + 5001) = some true := EH (m + 1)
  unfold fA iN
  rw [ah (by omega)]
  rcases Rc (m + 5001) (by omega) hb hl with ⟨ts, ti, ix, foot, hts, hR, h1, h2⟩ | ⟨h1, z0, z1, z2, z3, h2, h3⟩
  · obtain ⟨k1, k2, k3, k4, k5, k6, k7, k8⟩ := eO hR
    have hf : foot.length ≤ 100 := by
      simp only [rQ, Bool.and_eq_true, decide_eq_true_eq] at k5
      omega
    rw [h1, h2]
    simp only [Option.bind_some, gY, dJ]
    rw [show (!(true == ((0 : Int) == 0))) = false by decide, cond_false, show ((0 : Int) != 0) = false by decide, cond_false]
    simp only [Option.bind_some, cond_false]
    rw [Hy _ (by omega) ts ti ix foot (by omega)]
    simp only [Option.bind_some]
    rw [Kl _ ts ti ix foot ts ti ix foot (by omega) (by omega) (by omega) (by omega) (by omega) (by omega), AA]
    simp [hw]
  · obtain ⟨rfl, rfl, rfl, rfl⟩ := h3 h4
    rw [h1, h2]
    simp only [Option.bind_some, gY, dJ]
    rw [show (!(false == ((60 : Int) == 0))) = false by decide, cond_false, show ((60 : Int) != 0) = true by decide, cond_true, show ((60 : Int) != 60) = false by decide]
    simp only [Option.bind_some, cond_false]
    have e1 : dX (m + 5001) [] [] [] [] = some ([], [], [], []) := Hy (m + 5001) (by omega) [] [] [] [] (by simp)
    rw [e1]
    simp only [Option.bind_some]
    have e2 : gI (m + 5001) [] [] [] [] [] [] [] [] = some (JJ [] [] [] [] [] [] [] []) := Kl (m + 5001) [] [] [] [] [] [] [] [] (by simp) (by simp) (by simp) (by simp) (by simp) (by simp)
    rw [e2, AA]
    simp [hw]
def zTs : List Ty := [(3600, false, [67, 69, 84]), (7200, true, [67, 69, 83, 84])]
def zTi : List Int := [-1099511627776, 0, 1099511627776]
def zIx : List Int := [0, 1, 0]
def zFo : Str := [67, 69, 84, 45, 49, 67, 69, 83, 84, 44, 77, 51, 46, 53, 46, 48, 44, 77, 49, 48, 46, 53, 46, 48, 47, 51]
def byB (l : List Int) : Bool := l.all fun x => decide (0 ≤ x) && decide (x < 256)
theorem Xv {l : List Int} (h : byB l = true) : BY l := fun x hx => by
  have := List.all_eq_true.1 h x hx
  simpa using this
theorem Xw : dx zTs zTi zIx zFo = true := by kernel_rfl
theorem XU : byB (nM zTs zTi zIx zFo) = true ∧ Nat.ble (nM zTs zTi zIx zFo).length 4000 = true ∧ (nM zTs zTi zIx zFo)[4]? = some 50 ∧ (nM zTs zTi zIx zFo).isEmpty = false := ⟨by kernel_rfl, by kernel_rfl, by kernel_rfl, by kernel_rfl⟩
theorem Vz : ∀ x ∈ zTi, -9223372036854775808 ≤ x ∧ x ≤ 9223372036854775807 := by decide
theorem VA (b : List Int) (hb : BY b) (hl : b.length ≤ 4000) (h4 : b[4]? = some 50) (he : b.isEmpty = false) (i : Nat) (hi : i < b.length) (h0 : List (List AV)) (h1 h2 : List Int) (h3 : Str) (es : List Int) (hes : ∀ e ∈ es, e = 1 ∨ e = 128 ∨ e = 255) (hel : es.length ≤ 3) : ∀ (r : List Int) (j m : Nat), es.drop j = r → r.length < m →
    bO 5001 m b (i : Int) es (es.length : Int) (j : Int) h0 h1 h2 h3 = some (Sum.inr (h0, h1, h2, h3))
  | [], j, m + 1, hd, _ => by
    have hi := drop_nil hd
    simp only [bO, dO]
    rw [ah (by omega)]
  | e :: r, j, m + 1, hd, hm => by
    obtain ⟨k1, k2, k3⟩ := aI hd
    simp only [List.length_cons] at hm
    have hee := hes e (List.mem_of_getElem? k1)
    simp only [bO, dO]
    obtain ⟨y, hy⟩ : ∃ y, b[i]? = some y := ⟨b[i], List.getElem?_eq_getElem hi⟩
    rw [aa (by omega), aa (by omega), Int.toNat_natCast, k1, gz _ (by omega)]
    simp only [Option.bind_some]
    rw [he, Bool.not_false, cond_true, aa (by omega), aa (by omega), aa (by omega), Int.toNat_natCast, Nat.mul_one, hy]
    simp only [Option.bind_some]
    rw [aa (by omega), aa (by omega), aa (by omega), aa (by simp), List.take_of_length_le (by simp)]
    have hx : 0 ≤ IntKind.u8.wrap ((BitVec.ofInt 8 y ^^^ BitVec.ofInt 8 e).toNat : Int) ∧ IntKind.u8.wrap ((BitVec.ofInt 8 y ^^^ BitVec.ofInt 8 e).toNat : Int) < 256 := by rw [IntKind.wrap_u8]; omega
    have hx4 : i = 4 → IntKind.u8.wrap ((BitVec.ofInt 8 y ^^^ BitVec.ofInt 8 e).toNat : Int) ≠ 0 := fun h => by
      subst h
      rw [h4] at hy
      injection hy with hy
      subst hy
      rcases hee with rfl | rfl | rfl <;> decide
    generalize IntKind.u8.wrap ((BitVec.ofInt 8 y ^^^ BitVec.ofInt 8 e).toNat : Int) = q at hx hx4
    have hp := GY 0 (b := b.set i q) (fun x hx' => by
      rcases List.mem_or_eq_of_mem_set hx' with h | h
      · exact hb x h
      · rw [h]; exact hx) (by rw [List.length_set]; exact hl) (by
      rw [List.getElem?_set]
      by_cases h : i = 4
      · rw [if_pos h, if_pos hi]
        intro hq
        injection hq with hq
        exact hx4 h hq
      · rw [if_neg h, h4]; decide)
    rw [Nat.zero_add] at hp
    rw [hp]
    simp only [Option.bind_some, Bool.not_true, cond_false]
    exact VA b hb hl h4 he i hi h0 h1 h2 h3 es hes hel r (j + 1) m k2 (by omega)
theorem VB (b : List Int) (hb : BY b) (hl : b.length ≤ 4000) (h4 : b[4]? = some 50) (he : b.isEmpty = false) (hB : ∀ c : Int, 0 ≤ c ∧ c ≤ 65535 → bZ 5001 (zTs.map cT) zTi zIx zFo c = some true) : ∀ (k i m : Nat), i + k = b.length → k < m →
    bg 5001 m b (i : Int) (zTs.map cT) zTi zIx zFo = some (Sum.inr (zTs.map cT, zTi, zIx, zFo))
  | 0, i, m + 1, hk, _ => by
    simp only [bg, dP]
    rw [ah (by omega)]
  | k + 1, i, m + 1, hk, hm => by
    simp only [bg, dP]
    have e4 := VA b hb hl h4 he i (by omega) (zTs.map cT) zTi zIx zFo [1, 128, 255] (by simp) (by simp) [1, 128, 255] 0 5001 rfl (by simp)
    simp only [Int.natCast_zero] at e4
    rw [aa (by omega), e4]
    simp only [Option.bind_some, Sum.elim_inr]
    have hp := GY 0 (b := b.take i) (hb.take i) (by rw [List.length_take]; omega) (by
      rw [List.getElem?_take]
      split
      · rw [h4]; decide
      · simp)
    rw [Nat.zero_add] at hp
    have ej : iO 5001 b (i : Int) (zTs.map cT) zTi zIx zFo = some (false, zTs.map cT, zTi, zIx, zFo) := by
      unfold iO gF
      rw [aa (by omega), aa (by omega), Int.toNat_natCast, List.drop_zero, hp]
      simp only [Option.bind_some, Bool.not_true, cond_false]
      rw [hB _ (by rw [IntKind.wrap_u16]; omega)]
      rfl
    rw [ej]
    simp only [Option.bind_some, cond_false]
    rw [gz _ (by omega)]
    exact VB b hb hl h4 he hB k (i + 1) m (by omega) (by omega)
theorem VC (e : Nat) (he : e ≤ 256) (t : Ty) (h0 : List (List AV)) (h1 h2 : List Int) (h3 : Str) (z1 z2 : List Int) (z3 : Str) : ∀ (k i m : Nat) (acc : List Ty), i + k = e → k < m → acc.length = i →
    bP 5001 m (e : Int) (i : Int) h0 h1 h2 h3 t.1 t.2.1 t.2.2 (acc.map cT) z1 z2 z3 = some (h0, h1, h2, h3, t.1, t.2.1, t.2.2, (acc ++ List.replicate k t).map cT, z1, z2, z3)
  | 0, i, m + 1, acc, hk, _, _ => by
    simp only [bP, dQ]
    rw [ah (by omega)]
    simp
  | k + 1, i, m + 1, acc, hk, hm, ha => by
    simp only [bP, dQ]
    have e1 : acc.map cT ++ [[.int .i64 t.1, .bool t.2.1, .str t.2.2]] = (acc ++ [t]).map cT := by simp [cT]
    rw [aa (by omega), aa (by simp only [List.length_map, List.length_cons, List.length_nil]; omega), gz _ (by omega), e1, VC e he t h0 h1 h2 h3 z1 z2 z3 k (i + 1) m (acc ++ [t]) (by omega) (by omega) (by simp; omega)]
    rw [List.append_assoc, List.replicate_succ]
    rfl
theorem VD (long : Str) (hlong : long.length = 16) (xs : List (List AV)) (a b : Int) (t : Ty) (ht : t.2.2.length ≤ 16) (cs : List Int) (hcs : ∀ c ∈ cs, ∃ e : Nat, c = (e : Int) ∧ e ≤ 256) (hcl : cs.length ≤ 6) : ∀ (r : List Int) (i m : Nat), cs.drop i = r → r.length < m →
    bQ 5001 m long xs a b cs (cs.length : Int) (i : Int) (zTs.map cT) zTi zIx zFo t.1 t.2.1 t.2.2 = some (Sum.inr (zTs.map cT, zTi, zIx, zFo, t.1, t.2.1, t.2.2))
  | [], i, m + 1, hd, _ => by
    have hi := drop_nil hd
    simp only [bQ, dR]
    rw [ah (by omega)]
  | c :: r, i, m + 1, hd, hm => by
    obtain ⟨k1, k2, k3⟩ := aI hd
    simp only [List.length_cons] at hm
    obtain ⟨e, rfl, he⟩ := hcs c (List.mem_of_getElem? k1)
    simp only [bQ, dR]
    have em : Int.tmod (e : Int) 16 = ((e % 16 : Nat) : Int) := by rw [Int.tmod_eq_emod_of_nonneg (by omega)]; omega
    rw [aa (by omega), aa (by omega), Int.toNat_natCast, k1, gz _ (by omega)]
    simp only [Option.bind_some, em]
    rw [aa (by omega), aa (by omega), Int.toNat_natCast, List.drop_zero]
    have e2 := VC e he t (zTs.map cT) zTi zIx zFo [] [] (long.take (e % 16)) e 0 5001 [] (by omega) (by omega) rfl
    simp only [Int.natCast_zero, List.map_nil, List.nil_append] at e2
    rw [e2]
    simp only [Option.bind_some]
    have hp := FB 5001 (by omega) (List.replicate e t) [] [] (long.take (e % 16)) zTs zTi zIx zFo 0 (fun u hu => by
      rw [(List.mem_replicate.1 hu).2]; omega)
    have ho : bq 5001 ((List.replicate e t).map cT) [] [] (long.take (e % 16)) (IntKind.u16.wrap (e : Int)) (IntKind.u8.wrap (e : Int)) = some true := GX 1 (List.replicate e t) [] [] (long.take (e % 16)) _ _ (by simp) (by rw [IntKind.wrap_u16]; omega)
    have ej : iP 5001 (e : Int) (zTs.map cT) zTi zIx zFo t.1 t.2.1 t.2.2 ((List.replicate e t).map cT) [] [] (long.take (e % 16)) = some (false, zTs.map cT, zTi, zIx, zFo, t.1, t.2.1, t.2.2, (List.replicate e t).map cT, [], [], long.take (e % 16)) := by
      unfold iP gG
      rw [hp]
      simp only [Option.bind_some, Bool.not_true, cond_false]
      rw [ho]
      rfl
    rw [ej]
    simp only [Option.bind_some, cond_false]
    exact VD long hlong xs a b t ht cs hcs hcl r (i + 1) m k2 (by omega)
theorem VE (long : Str) (hlong : long.length = 16) (ts : List Ty) (hts : ∀ t ∈ ts, t.2.2.length ≤ 16) (htl : ts.length ≤ 10) : ∀ (r : List Ty) (i m : Nat), ts.drop i = r → r.length < m →
    aT 5001 m long (ts.map cT) (ts.length : Int) (i : Int) (zTs.map cT) zTi zIx zFo = some (Sum.inr (zTs.map cT, zTi, zIx, zFo))
  | [], i, m + 1, hd, _ => by
    have hi := drop_nil hd
    simp only [aT, dS]
    rw [ah (by omega)]
  | t :: r, i, m + 1, hd, hm => by
    obtain ⟨k1, k2, k3⟩ := aI hd
    simp only [List.length_cons] at hm
    have j1 : (ts.map cT)[i]? = some (cT t) := by rw [List.getElem?_map, k1]; rfl
    simp only [aT, dS]
    rw [aa (by omega), aa (by omega), Int.toNat_natCast, j1, gz _ (by omega)]
    simp only [cT, Option.bind_some, unc, jR, l5, l6, unn, decide_true, cond_true]
    have e1 := VD long hlong (ts.map fun t => [.int .i64 t.1, .bool t.2.1, .str t.2.2]) (ts.length : Int) (i : Int) t (hts t (List.mem_of_getElem? k1)) [1, 16, 17, 128, 255, 256] (by
      intro c hc
      simp only [List.mem_cons, List.not_mem_nil, or_false] at hc
      rcases hc with rfl | rfl | rfl | rfl | rfl | rfl
      · exact ⟨1, rfl, by decide⟩
      · exact ⟨16, rfl, by decide⟩
      · exact ⟨17, rfl, by decide⟩
      · exact ⟨128, rfl, by decide⟩
      · exact ⟨255, rfl, by decide⟩
      · exact ⟨256, rfl, by decide⟩) (by simp) [1, 16, 17, 128, 255, 256] 0 5001 rfl (by simp)
    simp only [Int.natCast_zero] at e1
    rw [show (fun (t : Ty) => ([.int .i64 t.1, .bool t.2.1, .str t.2.2] : List AV)) = cT from rfl] at e1
    refine (congrArg (fun q => Option.bind q _) e1).trans ?_
    simp only [Option.bind_some, Sum.elim_inr]
    exact VE long hlong ts hts htl r (i + 1) m k2 (by omega)
def Qz : List Ty := [(-89999, false, [97]), (-90000, false, [97]), (93599, false, [97]), (93600, false, [97]), (0, false, []), (0, false, [97, 98, 99, 100, 101, 102, 103, 104, 105, 106, 107, 108, 109, 110, 111]), (0, false, [97, 98, 99, 100, 101, 102, 103, 104, 105, 106, 107, 108, 109, 110, 111, 112]), (0, false, [97, 32, 98]), (0, false, [126, 33]), (0, false, [127])]
def Oc : Str := [97, 98, 99, 100, 101, 102, 103, 104, 105, 106, 107, 108, 109, 110, 111, 112]
theorem VF : ji 5001 = ((mZ 5001 (zTs.map cT) zTi zIx zFo).bind fun o813 => ((fB 5001 o813.2 (zTs.map cT) zTi zIx zFo).bind fun o817 => (cond o817.1 (some false) ((bg 5001 5001 o813.1 (0 : Int) o817.2.1 o817.2.2.1 o817.2.2.2.1 o817.2.2.2.2).bind fun o829 => (Sum.elim (fun o830 => some false) (fun o831 => cond (decide ((15 : Int) ≤ (Oc.length : Int))) ((aT 5001 5001 Oc (Qz.map cT) (Qz.length : Int) (0 : Int) o831.1 o831.2.1 o831.2.2.1 o831.2.2.2).bind fun o850 => (Sum.elim (fun o851 => some false) (fun o852 => cond (decide ((2 : Int) ≤ (o852.2.1.length : Int))) ((aB 5001 o852.1 o852.2.1 ([(0 : Int), (2 : Int), (0 : Int)] : List Int) o852.2.2.2 o852.1 o852.2.1 o852.2.2.1 o852.2.2.2 (0 : Int)).bind fun o853 => (cond o853 ((aB 5001 o852.1 ([(1 : Int), (1 : Int), (2 : Int)] : List Int) o852.2.2.1 o852.2.2.2 o852.1 o852.2.1 o852.2.2.1 o852.2.2.2 (1 : Int)).bind fun o854 => (cond o854 ((aB 5001 o852.1 ((o852.2.1.take 2).drop 0) o852.2.2.1 o852.2.2.2 o852.1 o852.2.1 o852.2.2.1 o852.2.2.2 (1 : Int)).bind fun o855 => (cond o855 ((aB 5001 ([] : List (List AV)) ([] : List Int) ([] : List Int) ([] : Str) o852.1 o852.2.1 o852.2.2.1 o852.2.2.2 (0 : Int)).bind fun o856 => (cond o856 ((bq 5001 o852.1 ([(-2147483648 : Int), (2147483647 : Int)] : List Int) ([(1 : Int), (0 : Int)] : List Int) ([] : Str) (0 : Int) (0 : Int)).bind fun o857 => (cond o857 ((aC 5001 ).bind fun o858 => (some o858)) (some false))) (some false))) (some false))) (some false))) (some false))) none) o850)) none) o829))))) := by kernel_rfl
theorem kP (ti ix : List Int) (foot : Str) (sec : Int) : aB 5001 (zTs.map cT) ti ix foot (zTs.map cT) zTi zIx zFo sec = some true := FB 5001 (by omega) zTs ti ix foot zTs zTi zIx zFo sec (by decide)
theorem kP0 : aB 5001 [] [] [] [] (zTs.map cT) zTi zIx zFo 0 = some true := FB 5001 (by omega) [] [] [] [] zTs zTi zIx zFo 0 (by simp)
theorem kB (c : Int) (hc : 0 ≤ c ∧ c ≤ 65535) : bZ 5001 (zTs.map cT) zTi zIx zFo c = some true := Pb 1 zTs zTi zIx zFo c Vz hc
theorem kO : bq 5001 (zTs.map cT) zTi zIx zFo 1 7 = some true := GX 1 zTs zTi zIx zFo 1 7 Vz (by decide)
theorem kO2 : bq 5001 (zTs.map cT) [-2147483648, 2147483647] [1, 0] [] 0 0 = some true := GX 1 zTs [-2147483648, 2147483647] [1, 0] [] 0 0 (by decide) (by decide)
theorem kw : aC 5001 = some true := EH 1
theorem X3 : mZ 5001 (zTs.map cT) zTi zIx zFo = some (nM zTs zTi zIx zFo, 0) := by rw [Lg 5001 (by omega), Xw]; rfl
theorem kl0 : aT 5001 5001 Oc (Qz.map cT) (Qz.length : Int) ((0 : Nat) : Int) (zTs.map cT) zTi zIx zFo = some (Sum.inr (zTs.map cT, zTi, zIx, zFo)) := VE Oc rfl Qz (by decide) (by decide) Qz 0 5001 rfl (by decide)
theorem kj2 : fB 5001 0 (zTs.map cT) zTi zIx zFo = some (false, zTs.map cT, zTi, zIx, zFo) := by
  unfold fB gD
  rw [show ((0 : Int) != 0) = false by decide, cond_false, kP, Option.bind_some, Bool.not_true, cond_false, kB 3 (by decide), Option.bind_some, Bool.not_true, cond_false, kO, Option.bind_some, Bool.not_true]
theorem Nf : ji 5001 = some true := by
  obtain ⟨f1, f2, f3, f4⟩ := XU
  have hput := X3
  generalize nM zTs zTi zIx zFo = b at hput f1 f2 f3 f4
  have f2 := Nat.le_of_ble_eq_true f2
  have hl3 : bg 5001 5001 b (0 : Int) (zTs.map cT) zTi zIx zFo = some (Sum.inr (zTs.map cT, zTi, zIx, zFo)) := VB b (Xv f1) f2 f3 f4 kB b.length 0 5001 (by omega) (by omega)
  have hl0 : aT 5001 5001 Oc (Qz.map cT) (Qz.length : Int) (0 : Int) (zTs.map cT) zTi zIx zFo = some (Sum.inr (zTs.map cT, zTi, zIx, zFo)) := kl0
  have d15 : decide ((15 : Int) ≤ (Oc.length : Int)) = true := by kernel_rfl
  have d2 : decide ((2 : Int) ≤ (zTi.length : Int)) = true := by kernel_rfl
  rw [VF, hput, Option.bind_some, kj2, Option.bind_some, cond_false, hl3, Option.bind_some, Sum.elim_inr, d15, cond_true, hl0, Option.bind_some, Sum.elim_inr, d2, cond_true, kP, Option.bind_some, cond_true, kP, Option.bind_some, cond_true, kP, Option.bind_some, cond_true, kP0, Option.bind_some, cond_true, kO2, Option.bind_some, cond_true, kw, Option.bind_some]
end Go.Proofs.YtcbgfjghebopoaaDoor.H
namespace Go.Proofs.YtcbgfjghebopoaaDoor.H
open Go.Sh Go
theorem Re {W : World} (h : W.ShapedOpen Tryd.prog) : Go.Sh.Good W.heap := by
  have h0 : ((begin Tryd.prog (fun _ _ => 0) default).world.heap[1]?).bind Obj.row? = some (#[.int .i64 0], 3) := by kernel_rfl
  obtain ⟨m, hm⟩ := cell_of_shapedOpen_int (g := 1) (t := 3) (zero := #[.int .i64 0]) (k := .i64) h (of_decide_eq_true (by kernel_rfl)) h0 rfl (by kernel_rfl) (by kernel_rfl) (by kernel_rfl)
  obtain ⟨cs, h1, h2, _⟩ := h.1 1 _ _ (of_decide_eq_true (by kernel_rfl)) h0
  obtain ⟨c, rfl⟩ : ∃ c, cs = #[c] := by
    obtain ⟨l⟩ := cs
    match l, h2 with
    | [c], _ => exact ⟨c, rfl⟩
  have : c = .int .i64 m := by simpa [World.cell?, h1] using hm
  subst this
  exact ⟨m, _, _, h1⟩
end Go.Proofs.YtcbgfjghebopoaaDoor.H
namespace Go.Sh
open Go
variable {H : Type} {enc : TypeId × Value → H}
theorem Ng {a : Assume} {C : Checked} {os : Os} {f : FuncId} {fn : Func} {s : ChangeSpec} {conds : List PathCond} {apart fresh handsOn again : Bool} {X : World → Array Value → Prop}
    (hX : ∀ (w w' : World) (args : Array Value), w.heap = w'.heap → X w args → X w' args)
    (own : ownKnob C.prog.godebug = none) (started : os.Started) (noInit : C.prog.inits.idxOf? f = none) (hfn : C.prog.funcs[f]? = some fn)
    (witness : ∃ (w : World) (tape : Tape) (i : Input), w.os = os ∧ (w.forCall tape i).Shaped C.prog ∧ i.vars = [] ∧ Input.okWide C.prog (w.forCall tape i) .any w.heap.size f i ∧
      ((s.pre enc C.prog fn conds apart (w.forCall tape i).memory i.args ∧ X (w.forCall tape i).memory i.args) ∧ sizedMet enc C.prog fn (OpenSpec.ofChange s) apart (w.forCall tape i).memory i.args) ∧ a.holds C.prog (lone (Frame.enter C.prog f i.args .normal) [] (w.forCall tape i)))
    (contract : ∀ (W : World) (base : Nat) (args : Array Value) (ds gs : List (DataW H)) (before : List MemPlace),
      (∀ (j : Nat) t v, fn.params[j]? = some t → args[j]? = some v → Value.okWide C.prog W .any base t v) →
      DataW.Whole enc C.prog fn.params.toList s.vars apart W args.toList ds gs before →
      conds.all (PathCond.test C.prog ⟨fn.params.toList, ds, s.plain.varTypes C.prog, gs⟩) = true →
      (DataW.weightsEach C.prog (fn.params.toList ++ s.plain.varTypes C.prog) (ds ++ gs)).all (· ≤ reachBytes) = true → X W args →
      W.ShapedOpen C.prog →
      a.holds C.prog (lone (Frame.enter C.prog f args .normal) [] W) →
      Calls C.prog f args W fun e W' => ∃ v, e = .returned v ∧ s.post enc C.prog fn apart fresh handsOn again W args v W') :
    ReturnsInHanded a C os f .any (fun w args => (s.pre enc C.prog fn conds apart w args ∧ X w args) ∧ sizedMet enc C.prog fn (OpenSpec.ofChange s) apart w args) (s.post enc C.prog fn apart fresh handsOn again) := by
  refine returnsInHanded_of_calls own started noInit witness ?_
  intro w tape i _ hsh _ hok hpre hholds
  obtain ⟨_, _, _, fn', hfn', _, _, _, _, hval⟩ := hok
  have e : fn' = fn := Option.some.inj (hfn'.symm.trans hfn)
  subst e
  obtain ⟨⟨⟨ds, gs, before, hw, hc⟩, hx⟩, hz⟩ := hpre
  have hw' := DataW.Whole.of_heap (w' := w.forCall tape i) (by rfl) hw
  refine (contract (w.forCall tape i) w.heap.size i.args ds gs before hval hw' hc (hz.weights hw) (hX _ _ _ (by rfl) hx) hsh hholds).mono fun e W' ⟨v, he, hp⟩ => ?_
  subst he
  exact ChangeSpec.post_blind hp
end Go.Sh

/- Texts of this session, joined and cut to what one statement needs, under short names. -/
import Derived.Test.YtiegmpnagcdgoaaGreatDoorH3
import Derived.IntWalk
import Derived.ChangeArms
import Derived.OpenShut
import Derived.WideShapes
import Derived.Deep.Slices
import Derived.Lib.SlKeysI
namespace Go.Proofs.YtiegmpnagcdgoaaGreatDoor.H
open Go.Sh Go.RowKit
set_option linter.unusedVariables false
set_option linter.unusedSimpArgs false
set_option maxHeartbeats 4000000
set_option maxRecDepth 100000
def qg (n : Nat) (x1 : Int) (h0_0 : List Int) (h0_1 : Bool) (R : Type) (K : (Bool × (List Int) × Bool) → Option R) : Option R := cond (decide (x1 < (0 : Int))) (K (true, h0_0, h0_1)) (K (decide (x1 > (h0_0.length : Int)), h0_0, h0_1))
def tT n x1 h0_0 h0_1 := qg n x1 h0_0 h0_1 _ some
abbrev wG : PS := ⟨[], [(0, .q 0 0), (1, .n)], some [.c 161 [.l .u8, .b]], [⟨.normal, [0, 1], [(16, .b)], [.c 161 [.l .u8, .b]], none⟩], none, none⟩
theorem J7 (n : Nat) : Snd ⟨Tryz.prog, 1, 39⟩ (wG.x (tT n)) (fb Tryz.f137 9) := iF (S := wG) (b := qg n) .a (by (repeat intro _); unfold qg; simp only [ay]) trivial
def vo (n : Nat) (a0 : Int) (h0 : List Int) (h1 : Bool) (R : Type) (K : ((List Int) × (List Int) × Bool) → Option R) : Option R := (tT n a0 h0 h1).bind fun o904 => (cond o904.1 (K (([] : List Int), ([] : List Int), true)) (cond (decide (0 ≤ a0)) (cond (decide (a0 ≤ (o904.2.1.length : Int))) (cond (decide (0 ≤ a0)) (cond (decide (a0 ≤ (o904.2.1.length : Int))) (K ((o904.2.1.take a0.toNat).drop 0, o904.2.1.drop a0.toNat, o904.2.2)) none) none) none) none))
def bV n a0 h0 h1 := vo n a0 h0 h1 _ some
abbrev Ib : FS := ⟨[.q 0 0, .n], [.c 161 [.l .u8, .b]], [([.l .u8], [.c 161 [.l .u8, .b]])]⟩
def dG (n : Nat) : FSpec := Ib.sp (bV n)
theorem dx (n : Nat) : FSound Tryz.prog 137 (dG n) := fs2 (S := Ib) (b := vo n) Tryz.func137 rfl rfl [.tmp 4] (.s (.r [(0, .nn)]) (.s (.s (.p (wG.x (tT n))) (.s (.s (.r [(7, .nn)]) (.s (.r [(0, .nn)]) .a)) .a)) .a)) (by (repeat intro _); unfold vo; simp only [ay]) (ai (J7 n) trivial)
def jZ (n : Nat) (x4 : Int) (x9 : List Int) (x10 x11 : Int) (h0_0 : List Int) (h0_1 : Bool) (R : Type) (A_ : Int → (List Int) → Int → Int → (List Int) → Bool → Option R) (K : (Int × (List Int) × Bool) → Option R) : Option R := cond (decide (x11 < x10)) (cond (decide (0 ≤ x11)) ((x9[x11.toNat]?).bind fun e908 => (A_ (IntKind.i64.wrap ((BitVec.ofInt 64 (IntKind.i64.wrap (x4 * 2 ^ 8)) ||| BitVec.ofInt 64 (IntKind.i64.wrap e908)).toNat : Int)) x9 x10 (IntKind.i64.wrap (x11 + (1 : Int))) h0_0 h0_1)) none) (K (x4, h0_0, h0_1))
def dR (n : Nat) : Nat → Int → (List Int) → Int → Int → (List Int) → Bool → Option ((Int × (List Int) × Bool))
 | 0, _, _, _, _, _, _ => none
 | m + 1, x4, x9, x10, x11, h0_0, h0_1 => jZ n x4 x9 x10 x11 h0_0 h0_1 _ (dR n m) some
abbrev vv : PS := ⟨[], [(4, .n), (9, .l .u8), (10, .n), (11, .n)], some [.c 161 [.l .u8, .b]], [⟨(.exit 0), [], [(4, .n)], [.c 161 [.l .u8, .b]], none⟩], none, none⟩
theorem JG (n : Nat) : Snd ⟨Tryz.prog, 1, 22⟩ (vv.x (dR n n)) (fb Tryz.f164 21) := kZ (S := vv) (b := jZ n) (f := dR n) n .a (by (repeat intro _); unfold jZ; simp only [ay]) trivial
def tV (n : Nat) (a0 : Int) (h0 : List Int) (h1 : Bool) (R : Type) (K : (Int × (List Int) × Bool) → Option R) : Option R := (bV n a0 h0 h1).bind fun o907 => ((dR n n (0 : Int) o907.1 (o907.1.length : Int) (0 : Int) o907.2.1 o907.2.2).bind fun o909 => (K (o909.1, o909.2.1, o909.2.2)))
def bn n a0 h0 h1 := tV n a0 h0 h1 _ some
abbrev Fw : FS := ⟨[.q 0 0, .n], [.c 161 [.l .u8, .b]], [([.n], [.c 161 [.l .u8, .b]])]⟩
def gp (n : Nat) : FSpec := Fw.sp (bn n)
theorem jh (n : Nat) : FSound Tryz.prog 164 (gp n) := fs2 (S := Fw) (b := tV n) Tryz.func164 rfl rfl [.tmp 4] (.s .a (.s (.s (.r [(2, .cl 137 (dG n))]) (.u (.p (vv.x (dR n n))))) .a)) (by (repeat intro _); unfold tV; simp only [ay]) (ai (dx n) (ai (JG n) trivial))
def qh (n : Nat) (h0_0 : List Int) (h0_1 : Bool) (h1_0 h1_1 h1_2 h1_3 h1_4 h1_5 h1_6 : Int) (R : Type) (K : ((List Int) × Bool × Int × Int × Int × Int × Int × Int × Int) → Option R) : Option R := (bV n (4 : Int) h0_0 h0_1).bind fun o905 => (cond (!((yN o905.1) == ([84, 90, 105, 102] : Str))) (K (o905.2.1, true, h1_0, h1_1, h1_2, h1_3, h1_4, h1_5, h1_6)) (K (o905.2.1, o905.2.2, h1_0, h1_1, h1_2, h1_3, h1_4, h1_5, h1_6)))
def nO n h0_0 h0_1 h1_0 h1_1 h1_2 h1_3 h1_4 h1_5 h1_6 := qh n h0_0 h0_1 h1_0 h1_1 h1_2 h1_3 h1_4 h1_5 h1_6 _ some
abbrev wH : PS := ⟨[2], [(0, .q 0 0)], some [.c 161 [.l .u8, .b], .c 185 [.c, .n, .n, .n, .n, .n, .n]], [⟨.normal, [0, 2], [], [.c 161 [.l .u8, .b], .c 185 [.c, .n, .n, .n, .n, .n, .n]], none⟩], none, none⟩
theorem J8 (n : Nat) : Snd ⟨Tryz.prog, 1, 64⟩ (wH.x (nO n)) (fb Tryz.f134 5) := iF (S := wH) (b := qh n) (.r [(2, .cl 137 (dG n))]) (by (repeat intro _); unfold qh; simp only [ay]) (ai (dx n) trivial)
def vw (n : Nat) (h0 : List Int) (h1 : Bool) (R : Type) (K : (Int × Int × Int × Int × Int × Int × Int × (List Int) × Bool) → Option R) : Option R := (nO n h0 h1 (0 : Int) (0 : Int) (0 : Int) (0 : Int) (0 : Int) (0 : Int) (0 : Int)).bind fun o906 => ((bn n (1 : Int) o906.1 o906.2.1).bind fun o910 => ((bV n (15 : Int) o910.2.1 o910.2.2).bind fun o911 => (cond (decide ((0 : Int) < (6 : Int))) ((bn n (4 : Int) o911.2.1 o911.2.2).bind fun o913 => (cond (decide ((IntKind.i64.wrap ((0 : Int) + (1 : Int))) < (6 : Int))) ((bn n (4 : Int) o913.2.1 o913.2.2).bind fun o915 => (cond (decide ((IntKind.i64.wrap ((IntKind.i64.wrap ((0 : Int) + (1 : Int))) + (1 : Int))) < (6 : Int))) ((bn n (4 : Int) o915.2.1 o915.2.2).bind fun o917 => (cond (decide ((IntKind.i64.wrap ((IntKind.i64.wrap ((IntKind.i64.wrap ((0 : Int) + (1 : Int))) + (1 : Int))) + (1 : Int))) < (6 : Int))) ((bn n (4 : Int) o917.2.1 o917.2.2).bind fun o919 => (cond (decide ((IntKind.i64.wrap ((IntKind.i64.wrap ((IntKind.i64.wrap ((IntKind.i64.wrap ((0 : Int) + (1 : Int))) + (1 : Int))) + (1 : Int))) + (1 : Int))) < (6 : Int))) ((bn n (4 : Int) o919.2.1 o919.2.2).bind fun o921 => (cond (decide ((IntKind.i64.wrap ((IntKind.i64.wrap ((IntKind.i64.wrap ((IntKind.i64.wrap ((IntKind.i64.wrap ((0 : Int) + (1 : Int))) + (1 : Int))) + (1 : Int))) + (1 : Int))) + (1 : Int))) < (6 : Int))) ((bn n (4 : Int) o921.2.1 o921.2.2).bind fun o923 => (cond (decide ((IntKind.i64.wrap ((IntKind.i64.wrap ((IntKind.i64.wrap ((IntKind.i64.wrap ((IntKind.i64.wrap ((IntKind.i64.wrap ((0 : Int) + (1 : Int))) + (1 : Int))) + (1 : Int))) + (1 : Int))) + (1 : Int))) + (1 : Int))) < (6 : Int))) (none) (cond o923.2.2 (K (IntKind.u8.wrap o910.1, o913.1, o915.1, o917.1, o919.1, o921.1, o923.1, o923.2.1, true)) (cond ((IntKind.u8.wrap o910.1) != (0 : Int)) (cond ((IntKind.u8.wrap o910.1) != (50 : Int)) (K (IntKind.u8.wrap o910.1, o913.1, o915.1, o917.1, o919.1, o921.1, o923.1, o923.2.1, (IntKind.u8.wrap o910.1) != (51 : Int))) (K (IntKind.u8.wrap o910.1, o913.1, o915.1, o917.1, o919.1, o921.1, o923.1, o923.2.1, false))) (K (IntKind.u8.wrap o910.1, o913.1, o915.1, o917.1, o919.1, o921.1, o923.1, o923.2.1, false)))))) (cond o921.2.2 (K (IntKind.u8.wrap o910.1, o913.1, o915.1, o917.1, o919.1, o921.1, o906.2.2.2.2.2.2.2.2, o921.2.1, true)) (cond ((IntKind.u8.wrap o910.1) != (0 : Int)) (cond ((IntKind.u8.wrap o910.1) != (50 : Int)) (K (IntKind.u8.wrap o910.1, o913.1, o915.1, o917.1, o919.1, o921.1, o906.2.2.2.2.2.2.2.2, o921.2.1, (IntKind.u8.wrap o910.1) != (51 : Int))) (K (IntKind.u8.wrap o910.1, o913.1, o915.1, o917.1, o919.1, o921.1, o906.2.2.2.2.2.2.2.2, o921.2.1, false))) (K (IntKind.u8.wrap o910.1, o913.1, o915.1, o917.1, o919.1, o921.1, o906.2.2.2.2.2.2.2.2, o921.2.1, false)))))) (cond o919.2.2 (K (IntKind.u8.wrap o910.1, o913.1, o915.1, o917.1, o919.1, o906.2.2.2.2.2.2.2.1, o906.2.2.2.2.2.2.2.2, o919.2.1, true)) (cond ((IntKind.u8.wrap o910.1) != (0 : Int)) (cond ((IntKind.u8.wrap o910.1) != (50 : Int)) (K (IntKind.u8.wrap o910.1, o913.1, o915.1, o917.1, o919.1, o906.2.2.2.2.2.2.2.1, o906.2.2.2.2.2.2.2.2, o919.2.1, (IntKind.u8.wrap o910.1) != (51 : Int))) (K (IntKind.u8.wrap o910.1, o913.1, o915.1, o917.1, o919.1, o906.2.2.2.2.2.2.2.1, o906.2.2.2.2.2.2.2.2, o919.2.1, false))) (K (IntKind.u8.wrap o910.1, o913.1, o915.1, o917.1, o919.1, o906.2.2.2.2.2.2.2.1, o906.2.2.2.2.2.2.2.2, o919.2.1, false)))))) (cond o917.2.2 (K (IntKind.u8.wrap o910.1, o913.1, o915.1, o917.1, o906.2.2.2.2.2.2.1, o906.2.2.2.2.2.2.2.1, o906.2.2.2.2.2.2.2.2, o917.2.1, true)) (cond ((IntKind.u8.wrap o910.1) != (0 : Int)) (cond ((IntKind.u8.wrap o910.1) != (50 : Int)) (K (IntKind.u8.wrap o910.1, o913.1, o915.1, o917.1, o906.2.2.2.2.2.2.1, o906.2.2.2.2.2.2.2.1, o906.2.2.2.2.2.2.2.2, o917.2.1, (IntKind.u8.wrap o910.1) != (51 : Int))) (K (IntKind.u8.wrap o910.1, o913.1, o915.1, o917.1, o906.2.2.2.2.2.2.1, o906.2.2.2.2.2.2.2.1, o906.2.2.2.2.2.2.2.2, o917.2.1, false))) (K (IntKind.u8.wrap o910.1, o913.1, o915.1, o917.1, o906.2.2.2.2.2.2.1, o906.2.2.2.2.2.2.2.1, o906.2.2.2.2.2.2.2.2, o917.2.1, false)))))) (cond o915.2.2 (K (IntKind.u8.wrap o910.1, o913.1, o915.1, o906.2.2.2.2.2.1, o906.2.2.2.2.2.2.1, o906.2.2.2.2.2.2.2.1, o906.2.2.2.2.2.2.2.2, o915.2.1, true)) (cond ((IntKind.u8.wrap o910.1) != (0 : Int)) (cond ((IntKind.u8.wrap o910.1) != (50 : Int)) (K (IntKind.u8.wrap o910.1, o913.1, o915.1, o906.2.2.2.2.2.1, o906.2.2.2.2.2.2.1, o906.2.2.2.2.2.2.2.1, o906.2.2.2.2.2.2.2.2, o915.2.1, (IntKind.u8.wrap o910.1) != (51 : Int))) (K (IntKind.u8.wrap o910.1, o913.1, o915.1, o906.2.2.2.2.2.1, o906.2.2.2.2.2.2.1, o906.2.2.2.2.2.2.2.1, o906.2.2.2.2.2.2.2.2, o915.2.1, false))) (K (IntKind.u8.wrap o910.1, o913.1, o915.1, o906.2.2.2.2.2.1, o906.2.2.2.2.2.2.1, o906.2.2.2.2.2.2.2.1, o906.2.2.2.2.2.2.2.2, o915.2.1, false)))))) (cond o913.2.2 (K (IntKind.u8.wrap o910.1, o913.1, o906.2.2.2.2.1, o906.2.2.2.2.2.1, o906.2.2.2.2.2.2.1, o906.2.2.2.2.2.2.2.1, o906.2.2.2.2.2.2.2.2, o913.2.1, true)) (cond ((IntKind.u8.wrap o910.1) != (0 : Int)) (cond ((IntKind.u8.wrap o910.1) != (50 : Int)) (K (IntKind.u8.wrap o910.1, o913.1, o906.2.2.2.2.1, o906.2.2.2.2.2.1, o906.2.2.2.2.2.2.1, o906.2.2.2.2.2.2.2.1, o906.2.2.2.2.2.2.2.2, o913.2.1, (IntKind.u8.wrap o910.1) != (51 : Int))) (K (IntKind.u8.wrap o910.1, o913.1, o906.2.2.2.2.1, o906.2.2.2.2.2.1, o906.2.2.2.2.2.2.1, o906.2.2.2.2.2.2.2.1, o906.2.2.2.2.2.2.2.2, o913.2.1, false))) (K (IntKind.u8.wrap o910.1, o913.1, o906.2.2.2.2.1, o906.2.2.2.2.2.1, o906.2.2.2.2.2.2.1, o906.2.2.2.2.2.2.2.1, o906.2.2.2.2.2.2.2.2, o913.2.1, false)))))) (cond o911.2.2 (K (IntKind.u8.wrap o910.1, o906.2.2.2.1, o906.2.2.2.2.1, o906.2.2.2.2.2.1, o906.2.2.2.2.2.2.1, o906.2.2.2.2.2.2.2.1, o906.2.2.2.2.2.2.2.2, o911.2.1, true)) (cond ((IntKind.u8.wrap o910.1) != (0 : Int)) (cond ((IntKind.u8.wrap o910.1) != (50 : Int)) (K (IntKind.u8.wrap o910.1, o906.2.2.2.1, o906.2.2.2.2.1, o906.2.2.2.2.2.1, o906.2.2.2.2.2.2.1, o906.2.2.2.2.2.2.2.1, o906.2.2.2.2.2.2.2.2, o911.2.1, (IntKind.u8.wrap o910.1) != (51 : Int))) (K (IntKind.u8.wrap o910.1, o906.2.2.2.1, o906.2.2.2.2.1, o906.2.2.2.2.2.1, o906.2.2.2.2.2.2.1, o906.2.2.2.2.2.2.2.1, o906.2.2.2.2.2.2.2.2, o911.2.1, false))) (K (IntKind.u8.wrap o910.1, o906.2.2.2.1, o906.2.2.2.2.1, o906.2.2.2.2.2.1, o906.2.2.2.2.2.2.1, o906.2.2.2.2.2.2.2.1, o906.2.2.2.2.2.2.2.2, o911.2.1, false)))))))
def pF n h0 h1 := vw n h0 h1 _ some
abbrev Ic : FS := ⟨[.q 0 0], [.c 161 [.l .u8, .b]], [([.a [.c, .n, .n, .n, .n, .n, .n]], [.c 161 [.l .u8, .b]])]⟩
def yT (n : Nat) : FSpec := Ic.sp (pF n)
theorem Cq (n : Nat) : FSound Tryz.prog 134 (yT n) := fs2 (S := Ic) (b := vw n) Tryz.func134 rfl rfl [.cell 2 185 7 true] (.s .a (.s (.p (wH.x (nO n))) (.s (.r [(1, .cl 164 (gp n))]) (.s (.r [(1, .cl 137 (dG n))]) (.s (.s .a (.u (.p (JK (comp Tryz.prog (Tryz.f134.body.getD .skip).a2.a2.a2.a2.a1.a2.a1.a1 (.s .a (.s .a (.s (.u (.s .a (.r [(2, .cl 164 (gp n))]))) .a)))) 24)))) .a))))) (by (repeat intro _); unfold vw; simp only [ay]) (ai (J8 n) (ai (jh n) (ai (dx n) (ai (Yh (c := ⟨Tryz.prog, 1, 64⟩) (cd := (Tryz.f134.body.getD .skip).a2.a2.a2.a2.a1.a2.a1.a1) 24 (.s .a (.s .a (.s (.u (.s .a (.r [(2, .cl 164 (gp n))]))) .a))) (by kernel_rfl) (by kernel_rfl) (ai (jh n) trivial)) trivial))))
def wV (n : Nat) (a0 h0 h1 h2 h3 h4 h5 h6 : Int) (R : Type) (K : W12 → Option R) : Option R := cond (a0 == (0 : Int)) (K (true, h0, h1, h2, h3, h4, h5, h6)) (K (a0 == h5, h0, h1, h2, h3, h4, h5, h6))
def rF n a0 h0 h1 h2 h3 h4 h5 h6 := wV n a0 h0 h1 h2 h3 h4 h5 h6 _ some
abbrev Jk : FS := ⟨[.n, .q 0 0], [.c 185 [.c, .n, .n, .n, .n, .n, .n]], [([.b], [.c 185 [.c, .n, .n, .n, .n, .n, .n]])]⟩
def Ae (n : Nat) : FSpec := Jk.sp (rF n)
theorem CX (n : Nat) : FSound Tryz.prog 181 (Ae n) := fs2 (S := Jk) (b := wV n) Tryz.func181 rfl rfl [.tmp 3] .a (by (repeat intro _); unfold wV; simp only [ay]) trivial
def zQ (n : Nat) (a0 a1 a2 a3 a4 a5 a6 : Int) (R : Type) (K : Bool → Option R) : Option R := cond (decide (a5 ≥ (1 : Int))) (cond (decide (a5 ≤ (255 : Int))) (cond (decide (a4 ≤ (4000 : Int))) (cond (decide (a6 ≥ (1 : Int))) (cond (decide (a6 ≤ (4096 : Int))) (cond (decide (a3 ≤ (1000 : Int))) ((rF n a2 a0 a1 a2 a3 a4 a5 a6).bind fun o926 => (cond o926.1 ((rF n o926.2.2.1 o926.2.1 o926.2.2.1 o926.2.2.2.1 o926.2.2.2.2.1 o926.2.2.2.2.2.1 o926.2.2.2.2.2.2.1 o926.2.2.2.2.2.2.2).bind fun o927 => (K o927.1)) (K false))) (K false)) (K false)) (K false)) (K false)) (K false)) (K false)
def wh n a0 a1 a2 a3 a4 a5 a6 := zQ n a0 a1 a2 a3 a4 a5 a6 _ some
abbrev Lt : FS := ⟨[.a [.c, .n, .n, .n, .n, .n, .n]], [], [([.b], [])]⟩
def Dv (n : Nat) : FSpec := Lt.sp (wh n)
theorem Fx (n : Nat) : FSound Tryz.prog 165 (Dv n) := fs2 (S := Lt) (b := zQ n) Tryz.func165 rfl rfl [.tmp 2] (.s .a (.s .a (.s (.r [(32, .cl 181 (Ae n)), (38, .cl 181 (Ae n))]) .a))) (by (repeat intro _); unfold zQ; simp only [ay]) (ai (CX n) (ai (CX n) trivial))
def uz (n : Nat) (a0 a1 a2 a3 a4 a5 a6 a7 : Int) (R : Type) (K : Int → Option R) : Option R := K (IntKind.i64.wrap ((IntKind.i64.wrap ((IntKind.i64.wrap ((IntKind.i64.wrap ((IntKind.i64.wrap ((IntKind.i64.wrap (a4 * (IntKind.i64.wrap (a7 + (1 : Int))))) + (IntKind.i64.wrap (a5 * (6 : Int))))) + a6)) + (IntKind.i64.wrap (a3 * (IntKind.i64.wrap (a7 + (4 : Int))))))) + a2)) + a1))
def gM n a0 a1 a2 a3 a4 a5 a6 a7 := uz n a0 a1 a2 a3 a4 a5 a6 a7 _ some
abbrev J9 : FS := ⟨[.a [.c, .n, .n, .n, .n, .n, .n], .n], [], [([.n], [])]⟩
def wW (n : Nat) : FSpec := J9.sp (gM n)
theorem xZ (n : Nat) : FSound Tryz.prog 138 (wW n) := fs2 (S := J9) (b := uz n) Tryz.func138 rfl rfl [.tmp 4] .a (by (repeat intro _); unfold uz; simp only [ay]) trivial
def tX (n : Nat) (h0 : List Int) (h1 : Bool) (R : Type) (K : (Int × (List Int) × Bool) → Option R) : Option R := (bn n (4 : Int) h0 h1).bind fun o931 => (K (IntKind.i64.wrap (IntKind.i32.wrap o931.1), o931.2.1, o931.2.2))
def nP n h0 h1 := tX n h0 h1 _ some
abbrev Fy : FS := ⟨[.q 0 0], [.c 161 [.l .u8, .b]], [([.n], [.c 161 [.l .u8, .b]])]⟩
def yc (n : Nat) : FSpec := Fy.sp (nP n)
theorem AO (n : Nat) : FSound Tryz.prog 136 (yc n) := fs2 (S := Fy) (b := tX n) Tryz.func136 rfl rfl [.tmp 2] (.s .a (.s (.r [(1, .cl 164 (gp n))]) .a)) (by (repeat intro _); unfold tX; simp only [ay]) (ai (jh n) trivial)
def nQ (n : Nat) (x5 : List Int) (x6 x7 : Int) (h0_0 : List Int) (h0_1 : Bool) (R : Type) (A_ : (List Int) → Int → Int → (List Int) → Bool → Option R) (K : ((List Int) × (List Int) × Bool) → Option R) : Option R := cond (decide (x7 < x6)) ((nP n h0_0 h0_1).bind fun o932 => (cond (decide ((x5.length + ([o932.1] : List Int).length) * 8 ≤ 140737488355328)) (A_ (x5 ++ ([o932.1] : List Int)) x6 (IntKind.i64.wrap (x7 + (1 : Int))) o932.2.1 o932.2.2) none)) (K (x5, h0_0, h0_1))
def iq (n : Nat) : Nat → (List Int) → Int → Int → (List Int) → Bool → Option (((List Int) × (List Int) × Bool))
 | 0, _, _, _, _, _ => none
 | m + 1, x5, x6, x7, h0_0, h0_1 => nQ n x5 x6 x7 h0_0 h0_1 _ (iq n m) some
abbrev yU : PS := ⟨[], [(1, .f (.func 136) [.q 0 0] []), (5, .I true .i64), (6, .n), (7, .n)], some [.c 161 [.l .u8, .b]], [⟨(.exit 0), [], [(5, .I true .i64)], [.c 161 [.l .u8, .b]], none⟩], none, none⟩
theorem LQ (n : Nat) : Snd ⟨Tryz.prog, 1, 16⟩ (yU.x (iq n n)) (fb Tryz.f166 43) := kZ (S := yU) (b := nQ n) (f := iq n) n (.s .a (.s .a (.s (.u (.r [(0, .tk [5]), (2, .cl 136 (yc n)), (4, .tk [9]), (5, .tk [13])])) .a))) (by (repeat intro _); unfold nQ; simp only [ay]) (ai (AO n) trivial)
def yF (n : Nat) (a0 : Int) (h0 : List Int) (h1 : Bool) (R : Type) (K : ((List Int) × (List Int) × Bool) → Option R) : Option R := (iq n n ([] : List Int) a0 (0 : Int) h0 h1).bind fun o933 => (K (o933.1, o933.2.1, o933.2.2))
def Dw n a0 h0 h1 := yF n a0 h0 h1 _ some
abbrev Ka : FS := ⟨[.n, .f (.func 136) [.q 0 0] []], [.c 161 [.l .u8, .b]], [([.I true .i64], [.c 161 [.l .u8, .b]])]⟩
def Jl (n : Nat) : FSpec := Ka.sp (Dw n)
theorem MH (n : Nat) : FSound Tryz.prog 166 (Jl n) := fs2 (S := Ka) (b := yF n) Tryz.func166 rfl rfl [.tmp 4] (.s .a (.s .a (.s (.s .a (.u (.p (yU.x (iq n n))))) (.s (.r [(0, .tk [5]), (1, .tk [15])]) .a)))) (by (repeat intro _); unfold yF; simp only [ay]) (ai (LQ n) trivial)
def vz (n : Nat) (h0 : List Int) (h1 : Bool) (R : Type) (K : (Int × (List Int) × Bool) → Option R) : Option R := (bn n (1 : Int) h0 h1).bind fun o935 => (K (o935.1, o935.2.1, o935.2.2))
def lF n h0 h1 := vz n h0 h1 _ some
abbrev Ie : FS := ⟨[.q 0 0], [.c 161 [.l .u8, .b]], [([.n], [.c 161 [.l .u8, .b]])]⟩
def tY (n : Nat) : FSpec := Ie.sp (lF n)
theorem vB (n : Nat) : FSound Tryz.prog 168 (tY n) := fs2 (S := Ie) (b := vz n) Tryz.func168 rfl rfl [.tmp 2] (.s .a (.s (.r [(1, .cl 164 (gp n))]) .a)) (by (repeat intro _); unfold vz; simp only [ay]) (ai (jh n) trivial)
def rG (n : Nat) (x5 : List Int) (x6 x7 : Int) (h0_0 : List Int) (h0_1 : Bool) (R : Type) (A_ : (List Int) → Int → Int → (List Int) → Bool → Option R) (K : ((List Int) × (List Int) × Bool) → Option R) : Option R := cond (decide (x7 < x6)) ((lF n h0_0 h0_1).bind fun o936 => (cond (decide ((x5.length + ([o936.1] : List Int).length) * 8 ≤ 140737488355328)) (A_ (x5 ++ ([o936.1] : List Int)) x6 (IntKind.i64.wrap (x7 + (1 : Int))) o936.2.1 o936.2.2) none)) (K (x5, h0_0, h0_1))
def kw (n : Nat) : Nat → (List Int) → Int → Int → (List Int) → Bool → Option (((List Int) × (List Int) × Bool))
 | 0, _, _, _, _, _ => none
 | m + 1, x5, x6, x7, h0_0, h0_1 => rG n x5 x6 x7 h0_0 h0_1 _ (kw n m) some
abbrev Cr : PS := ⟨[], [(1, .f (.func 168) [.q 0 0] []), (5, .I true .i64), (6, .n), (7, .n)], some [.c 161 [.l .u8, .b]], [⟨(.exit 0), [], [(5, .I true .i64)], [.c 161 [.l .u8, .b]], none⟩], none, none⟩
theorem Nr (n : Nat) : Snd ⟨Tryz.prog, 1, 16⟩ (Cr.x (kw n n)) (fb Tryz.f167 43) := kZ (S := Cr) (b := rG n) (f := kw n) n (.s .a (.s .a (.s (.u (.r [(0, .tk [5]), (2, .cl 168 (tY n)), (4, .tk [9]), (5, .tk [13])])) .a))) (by (repeat intro _); unfold rG; simp only [ay]) (ai (vB n) trivial)
def yf (n : Nat) (a0 : Int) (h0 : List Int) (h1 : Bool) (R : Type) (K : ((List Int) × (List Int) × Bool) → Option R) : Option R := (kw n n ([] : List Int) a0 (0 : Int) h0 h1).bind fun o937 => (K (o937.1, o937.2.1, o937.2.2))
def yg n a0 h0 h1 := yf n a0 h0 h1 _ some
abbrev MI : FS := ⟨[.n, .f (.func 168) [.q 0 0] []], [.c 161 [.l .u8, .b]], [([.I true .i64], [.c 161 [.l .u8, .b]])]⟩
def EZ (n : Nat) : FSpec := MI.sp (yg n)
theorem Ig (n : Nat) : FSound Tryz.prog 167 (EZ n) := fs2 (S := MI) (b := yf n) Tryz.func167 rfl rfl [.tmp 4] (.s .a (.s .a (.s (.s .a (.u (.p (Cr.x (kw n n))))) (.s (.r [(0, .tk [5]), (1, .tk [15])]) .a)))) (by (repeat intro _); unfold yf; simp only [ay]) (ai (Nr n) trivial)
def qi (n : Nat) (h0 : List Int) (h1 : Bool) (R : Type) (K : (Int × Int × Int × (List Int) × Bool) → Option R) : Option R := (nP n h0 h1).bind fun o939 => ((lF n o939.2.1 o939.2.2).bind fun o940 => ((lF n o940.2.1 o940.2.2).bind fun o941 => (K (o939.1, o940.1, o941.1, o941.2.1, o941.2.2))))
def qj n h0 h1 := qi n h0 h1 _ some
abbrev CY : FS := ⟨[.q 0 0], [.c 159 [.q 1 0], .c 161 [.l .u8, .b]], [([.a [.n, .n, .n]], [.c 159 [.q 1 0], .c 161 [.l .u8, .b]])]⟩
def Cs (n : Nat) : FSpec := CY.sp (qj n)
theorem IM (n : Nat) : FSound Tryz.prog 170 (Cs n) := fs2 (S := CY) (b := qi n) Tryz.func170 rfl rfl [.cell 1 217 3 true] (.s .a (.s (.d [(1, .cl 136 (yc n)), (3, .cl 168 (tY n)), (5, .cl 168 (tY n))] [(0, .peek [0, 1] [0]), (1, .part [1]), (2, .peek [0, 1] [0]), (3, .part [1]), (4, .peek [0, 1] [0]), (5, .part [1]), (7, .part [2])]) .a)) (by (repeat intro _); unfold qi; simp only [ay]) (ai (AO n) (ai (vB n) (ai (vB n) trivial)))
def yh (n : Nat) (x5 : List (List AV)) (x6 x7 : Int) (h1_0 : List Int) (h1_1 : Bool) (R : Type) (A_ : (List (List AV)) → Int → Int → (List Int) → Bool → Option R) (K : ((List (List AV)) × (List Int) × Bool) → Option R) : Option R := cond (decide (x7 < x6)) ((qj n h1_0 h1_1).bind fun o942 => (cond (decide ((x5.length + ([[.int .i64 o942.1, .int .i64 o942.2.1, .int .i64 o942.2.2.1]] : List (List AV)).length) * 24 ≤ 140737488355328)) (A_ (x5 ++ ([[.int .i64 o942.1, .int .i64 o942.2.1, .int .i64 o942.2.2.1]] : List (List AV))) x6 (IntKind.i64.wrap (x7 + (1 : Int))) o942.2.2.2.1 o942.2.2.2.2) none)) (K (x5, h1_0, h1_1))
def rH (n : Nat) : Nat → (List (List AV)) → Int → Int → (List Int) → Bool → Option (((List (List AV)) × (List Int) × Bool))
 | 0, _, _, _, _, _ => none
 | m + 1, x5, x6, x7, h1_0, h1_1 => yh n x5 x6 x7 h1_0 h1_1 _ (rH n m) some
abbrev Ih : PS := ⟨[], [(1, .f (.func 170) [] [.q 0 0]), (5, .L true 3), (6, .n), (7, .n)], some [.c 159 [.q 1 0], .c 161 [.l .u8, .b]], [⟨(.exit 0), [], [(5, .L true 3)], [.c 159 [.q 1 0], .c 161 [.l .u8, .b]], none⟩], none, none⟩
theorem Ql (n : Nat) : Snd ⟨Tryz.prog, 2, 16⟩ (Ih.x (rH n n)) (fb Tryz.f169 43) := kZ (S := Ih) (b := yh n) (f := rH n) n (.s .a (.s .a (.s (.u (.r [(0, .tk [5]), (2, .cl 170 (Cs n)), (4, .tk [9]), (5, .tk [13])])) .a))) (by (repeat intro _); unfold yh; simp only [ay]) (ai (IM n) trivial)
def Ew (n : Nat) (a0 : Int) (h0 : List Int) (h1 : Bool) (R : Type) (K : ((List (List AV)) × (List Int) × Bool) → Option R) : Option R := (rH n n ([] : List (List AV)) a0 (0 : Int) h0 h1).bind fun o943 => (K (o943.1, o943.2.1, o943.2.2))
def Ey n a0 h0 h1 := Ew n a0 h0 h1 _ some
abbrev QW : FS := ⟨[.n, .f (.func 170) [] [.q 0 0]], [.c 159 [.q 1 0], .c 161 [.l .u8, .b]], [([.L true 3], [.c 159 [.q 1 0], .c 161 [.l .u8, .b]])]⟩
def KS (n : Nat) : FSpec := QW.sp (Ey n)
theorem Lu (n : Nat) : FSound Tryz.prog 169 (KS n) := fs2 (S := QW) (b := Ew n) Tryz.func169 rfl rfl [.tmp 4] (.s .a (.s .a (.s (.s .a (.u (.p (Ih.x (rH n n))))) (.s (.r [(0, .tk [5]), (1, .tk [15])]) .a)))) (by (repeat intro _); unfold Ew; simp only [ay]) (ai (Ql n) trivial)
def KT (n : Nat) : FSpec := Vw n
theorem Lv (n : Nat) : FSound Tryz.prog 171 (KT n) := Ym n (Go.Sh.enters_of Tryz.func171 (by kernel_rfl) rfl) (fun p1 p2 n c1 k c2 xs ys w hg hx hy hr1 hr2 h1 h2 hp1 hcap hs hk => let ⟨m, hm⟩ := aaX hg; Tryz.bytes_Cut_all p1 p2 n c1 k c2 xs ys m w hx hy hr1 hr2 h1 h2 hp1 hcap hs hk hm)
def oG (n : Nat) (x2 : Int) (h0_0 : List Int) (h0_1 : Bool) (h2_0 h2_1 h2_2 h2_3 h2_4 h2_5 h2_6 : Int) (h3_0 : List (List AV)) (h3_1 h3_2 : List Int) (h3_3 : Str) (R : Type) (K : W25 → Option R) : Option R := cond h0_1 (K (true, h0_0, h0_1, h2_0, h2_1, h2_2, h2_3, h2_4, h2_5, h2_6, h3_0, h3_1, h3_2, h3_3)) ((wh n h2_0 h2_1 h2_2 h2_3 h2_4 h2_5 h2_6).bind fun o959 => (cond (!o959) (K (true, h0_0, h0_1, h2_0, h2_1, h2_2, h2_3, h2_4, h2_5, h2_6, h3_0, h3_1, h3_2, h3_3)) ((gM n h2_0 h2_1 h2_2 h2_3 h2_4 h2_5 h2_6 x2).bind fun o960 => (K (decide ((h0_0.length : Int) < o960), h0_0, h0_1, h2_0, h2_1, h2_2, h2_3, h2_4, h2_5, h2_6, h3_0, h3_1, h3_2, h3_3)))))
def mK n x2 h0_0 h0_1 h2_0 h2_1 h2_2 h2_3 h2_4 h2_5 h2_6 h3_0 h3_1 h3_2 h3_3 := oG n x2 h0_0 h0_1 h2_0 h2_1 h2_2 h2_3 h2_4 h2_5 h2_6 h3_0 h3_1 h3_2 h3_3 _ some
abbrev vC : PS := ⟨[3, 8], [(2, .n), (4, .q 1 0), (5, .q 2 0)], some [.c 161 [.l .u8, .b], .c 159 [.q 0 0], .c 185 [.c, .n, .n, .n, .n, .n, .n], .c 26 [.L true 3, .I true .i64, .I true .i64, .s]], [⟨.normal, [2, 3, 4, 5, 8], [(35, .b)], [.c 161 [.l .u8, .b], .c 159 [.q 0 0], .c 185 [.c, .n, .n, .n, .n, .n, .n], .c 26 [.L true 3, .I true .i64, .I true .i64, .s]], none⟩], none, none⟩
def vD (n : Nat) (x15 : Bool) (h0_0 : List Int) (h0_1 : Bool) (h2_0 : List (List AV)) (h2_1 h2_2 : List Int) (h2_3 : Str) (h3_0 h3_1 h3_2 : Int) (R : Type) (K : W26 → Option R) : Option R := cond h0_1 (K (h0_0, true, h2_0, h2_1, h2_2, h2_3, h3_0, h3_1, h3_2)) (cond (!x15) (K (h0_0, true, h2_0, h2_1, h2_2, h2_3, h3_0, h3_1, h3_2)) (K (h0_0, decide (h3_1 > (1 : Int)), h2_0, h2_1, h2_2, h2_3, h3_0, h3_1, h3_2)))
def yj n x15 h0_0 h0_1 h2_0 h2_1 h2_2 h2_3 h3_0 h3_1 h3_2 := vD n x15 h0_0 h0_1 h2_0 h2_1 h2_2 h2_3 h3_0 h3_1 h3_2 _ some
abbrev vE : PS := ⟨[8, 10, 13, 72, 73, 74], [(4, .q 1 0), (12, .q 3 0), (15, .b)], some [.c 161 [.l .u8, .b], .c 159 [.q 0 0], .c 26 [.L true 3, .I true .i64, .I true .i64, .s], .c 217 [.n, .n, .n]], [⟨.normal, [4, 8, 10, 12, 13, 72, 73, 74], [], [.c 161 [.l .u8, .b], .c 159 [.q 0 0], .c 26 [.L true 3, .I true .i64, .I true .i64, .s], .c 217 [.n, .n, .n]], none⟩], none, none⟩
def vF (n : Nat) (x10 : List Int) (x72 : List (List AV)) (x73 x74 : Int) (h0_0 : List Int) (h0_1 : Bool) (h2_0 : List (List AV)) (h2_1 h2_2 : List Int) (h2_3 : Str) (R : Type) (A_ : (List Int) → (List (List AV)) → Int → Int → (List Int) → Bool → (List (List AV)) → (List Int) → (List Int) → Str → Option R) (K : W27 → Option R) : Option R := cond (decide (x74 < x73)) (cond (decide (0 ≤ x74)) ((x72[x74.toNat]?).bind fun e967 => (unc e967 fun c968 r969 => vM .i64 c968 fun x970 => unc r969 fun c971 r972 => vM .i64 c971 fun x973 => unc r972 fun c974 r975 => vM .i64 c974 fun x976 => unn r975 (cond (decide (0 ≤ (if (x10.length : Int) < x976 then (x10.length : Int) else x976))) (cond (decide ((if (x10.length : Int) < x976 then (x10.length : Int) else x976) ≤ (x10.length : Int))) ((Qg n (x10.drop (if (x10.length : Int) < x976 then (x10.length : Int) else x976).toNat) ([(0 : Int)] : List Int)).bind fun o977 => ((yj n o977.2.2 h0_0 h0_1 h2_0 h2_1 h2_2 h2_3 x970 x973 x976).bind fun o978 => (cond (decide ((o978.2.2.1.length + ([[.int .i64 o978.2.2.2.2.2.2.1, .bool (o978.2.2.2.2.2.2.2.1 == (1 : Int)), .str (yN o977.1)]] : List (List AV)).length) * 32 ≤ 140737488355328)) (A_ x10 x72 x73 (IntKind.i64.wrap (x74 + (1 : Int))) o978.1 o978.2.1 (o978.2.2.1 ++ ([[.int .i64 o978.2.2.2.2.2.2.1, .bool (o978.2.2.2.2.2.2.2.1 == (1 : Int)), .str (yN o977.1)]] : List (List AV))) o978.2.2.2.1 o978.2.2.2.2.1 o978.2.2.2.2.2.1) none))) none) none))) none) (K (h0_0, h0_1, h2_0, h2_1, h2_2, h2_3))
def ji (n : Nat) : Nat → (List Int) → (List (List AV)) → Int → Int → (List Int) → Bool → (List (List AV)) → (List Int) → (List Int) → Str → Option (W27)
 | 0, _, _, _, _, _, _, _, _, _, _ => none
 | m + 1, x10, x72, x73, x74, h0_0, h0_1, h2_0, h2_1, h2_2, h2_3 => vF n x10 x72 x73 x74 h0_0 h0_1 h2_0 h2_1 h2_2 h2_3 _ (ji n m) some
abbrev vG : PS := ⟨[], [(4, .q 1 0), (8, .q 2 0), (10, .l .u8), (72, .L true 3), (73, .n), (74, .n)], some [.c 161 [.l .u8, .b], .c 159 [.q 0 0], .c 26 [.L true 3, .I true .i64, .I true .i64, .s]], [⟨(.exit 0), [8], [], [.c 161 [.l .u8, .b], .c 159 [.q 0 0], .c 26 [.L true 3, .I true .i64, .I true .i64, .s]], none⟩], (some 1), (some 1)⟩
theorem JH (n : Nat) : Snd ⟨Tryz.prog, 1, 122⟩ (vE.x (yj n)) (fb Tryz.f135 366975) := iF (S := vE) (b := vD n) (.d [] [(0, .part [0, 1]), (1, .part [0, 1]), (2, .part [0]), (3, .part [0]), (4, .part [0]), (10, .look), (14, .part [0]), (15, .part [0]), (16, .part [0])]) (by (repeat intro _); unfold vD; simp only [ay]) trivial
theorem JI (n : Nat) : Snd ⟨Tryz.prog, 1, 122⟩ (vC.x (mK n)) (fb Tryz.f135 9) := iF (S := vC) (b := oG n) (.d [(6, .cl 165 (Dv n)), (17, .cl 138 (wW n))] [(0, .peek [0, 1] [1]), (1, .peek [0] [0]), (2, .peek [0] [0]), (3, .peek [0] [0]), (5, .peek [2] [2]), (6, .part []), (10, .peek [0, 1] [1]), (11, .peek [0] [0]), (12, .peek [0] [0]), (13, .peek [0] [0]), (15, .peek [2] [2]), (17, .part [])]) (by (repeat intro _); unfold oG; simp only [ay]) (ai (Fx n) (ai (xZ n) trivial))
theorem JJ (n : Nat) : Snd ⟨Tryz.prog, 1, 122⟩ (vG.x (ji n n)) (fb Tryz.f135 1407) := kZ (S := vG) (b := vF n) (f := ji n) n (.s .a (.s .a (.s (.u (.s .a (.s (.r [(8, .cl 171 (KT n)), (12, .tk [78])]) (.s (.p (vE.x (yj n))) (.r [(1, .lt), (11, .tk [108]), (13, .tk [118])]))))) .a))) (by (repeat intro _); unfold vF; simp only [ay]) (ai (Lv n) (ai (JH n) trivial))
def kr (n : Nat) (a0 a1 a2 a3 a4 a5 a6 a7 : Int) (h0 : List Int) (h1 : Bool) (R : Type) (K : W28 → Option R) : Option R := (mK n a7 h0 h1 a0 a1 a2 a3 a4 a5 a6 ([] : List (List AV)) ([] : List Int) ([] : List Int) ([] : Str)).bind fun o961 => (cond o961.1 (K (([] : List (List AV)), ([] : List Int), ([] : List Int), ([] : Str), o961.2.1, true)) ((Dw n o961.2.2.2.2.2.2.2.1 o961.2.1 o961.2.2.1).bind fun o962 => ((yg n o961.2.2.2.2.2.2.2.1 o962.2.1 o962.2.2).bind fun o963 => ((Ey n o961.2.2.2.2.2.2.2.2.1 o963.2.1 o963.2.2).bind fun o964 => ((bV n o961.2.2.2.2.2.2.2.2.2.1 o964.2.1 o964.2.2).bind fun o965 => ((bV n (IntKind.i64.wrap ((IntKind.i64.wrap ((IntKind.i64.wrap (o961.2.2.2.2.2.2.1 * (IntKind.i64.wrap (a7 + (4 : Int))))) + o961.2.2.2.2.2.1)) + o961.2.2.2.2.1)) o965.2.1 o965.2.2).bind fun o966 => ((ji n n o965.1 o964.1 (o964.1.length : Int) (0 : Int) o966.2.1 o966.2.2 o961.2.2.2.2.2.2.2.2.2.2.1 o962.1 o963.1 o961.2.2.2.2.2.2.2.2.2.2.2.2.2).bind fun o979 => (K (o979.2.2.1, o979.2.2.2.1, o979.2.2.2.2.1, o979.2.2.2.2.2, o979.1, o979.2.1)))))))))
def dH n a0 a1 a2 a3 a4 a5 a6 a7 h0 h1 := kr n a0 a1 a2 a3 a4 a5 a6 a7 h0 h1 _ some
abbrev Fz : FS := ⟨[.q 0 0, .a [.c, .n, .n, .n, .n, .n, .n], .n, .f (.func 136) [.q 0 0] []], [.c 161 [.l .u8, .b]], [([.a [.L false 3, .l .i64, .l .i64, .s]], [.c 161 [.l .u8, .b]])]⟩
def Ez (n : Nat) : FSpec := Fz.sp (dH n)
theorem Kb (n : Nat) : FSound Tryz.prog 135 (Ez n) := fs2 (S := Fz) (b := kr n) Tryz.func135 rfl rfl [.cell 8 26 4 true] (.s .a (.s (.s (.p (vC.x (mK n))) (.s (.s .a (.s (.r [(1, .tk [39])]) .a)) .a)) (.s (.r [(3, .cl 166 (Jl n)), (5, .tk [43])]) (.s (.r [(4, .cl 167 (EZ n)), (6, .tk [49])]) (.s (.r [(3, .cl 169 (KS n)), (4, .tk [54])]) (.s (.r [(3, .cl 137 (dG n))]) (.s (.r [(12, .cl 137 (dG n))]) (.s (.s (.r [(0, .tk [9])]) (.u (.p (vG.x (ji n n))))) .a)))))))) (by (repeat intro _); unfold kr; simp only [ay]) (ai (JI n) (ai (MH n) (ai (Ig n) (ai (Lu n) (ai (dx n) (ai (dx n) (ai (JJ n) trivial)))))))
def vH (n : Nat) (h0 : List Int) (h1 : Bool) (R : Type) (K : (Int × (List Int) × Bool) → Option R) : Option R := (bn n (8 : Int) h0 h1).bind fun o987 => (K (o987.1, o987.2.1, o987.2.2))
def vI n h0 h1 := vH n h0 h1 _ some
abbrev Ii : FS := ⟨[.q 0 0], [.c 161 [.l .u8, .b]], [([.n], [.c 161 [.l .u8, .b]])]⟩
def FB (n : Nat) : FSpec := Ii.sp (vI n)
theorem KU (n : Nat) : FSound Tryz.prog 139 (FB n) := fs2 (S := Ii) (b := vH n) Tryz.func139 rfl rfl [.tmp 2] (.s .a (.s (.r [(1, .cl 164 (gp n))]) .a)) (by (repeat intro _); unfold vH; simp only [ay]) (ai (jh n) trivial)
def lg (n : Nat) (x5 : List Int) (x6 x7 : Int) (h0_0 : List Int) (h0_1 : Bool) (R : Type) (A_ : (List Int) → Int → Int → (List Int) → Bool → Option R) (K : ((List Int) × (List Int) × Bool) → Option R) : Option R := cond (decide (x7 < x6)) ((vI n h0_0 h0_1).bind fun o988 => (cond (decide ((x5.length + ([o988.1] : List Int).length) * 8 ≤ 140737488355328)) (A_ (x5 ++ ([o988.1] : List Int)) x6 (IntKind.i64.wrap (x7 + (1 : Int))) o988.2.1 o988.2.2) none)) (K (x5, h0_0, h0_1))
def eU (n : Nat) : Nat → (List Int) → Int → Int → (List Int) → Bool → Option (((List Int) × (List Int) × Bool))
 | 0, _, _, _, _, _ => none
 | m + 1, x5, x6, x7, h0_0, h0_1 => lg n x5 x6 x7 h0_0 h0_1 _ (eU n m) some
abbrev wI : PS := ⟨[], [(1, .f (.func 139) [.q 0 0] []), (5, .I true .i64), (6, .n), (7, .n)], some [.c 161 [.l .u8, .b]], [⟨(.exit 0), [], [(5, .I true .i64)], [.c 161 [.l .u8, .b]], none⟩], none, none⟩
theorem Kc (n : Nat) : Snd ⟨Tryz.prog, 1, 16⟩ (wI.x (eU n n)) (fb Tryz.f166 43) := kZ (S := wI) (b := lg n) (f := eU n) n (.s .a (.s .a (.s (.u (.r [(0, .tk [5]), (2, .cl 139 (FB n)), (4, .tk [9]), (5, .tk [13])])) .a))) (by (repeat intro _); unfold lg; simp only [ay]) (ai (KU n) trivial)
def vJ (n : Nat) (a0 : Int) (h0 : List Int) (h1 : Bool) (R : Type) (K : ((List Int) × (List Int) × Bool) → Option R) : Option R := (eU n n ([] : List Int) a0 (0 : Int) h0 h1).bind fun o989 => (K (o989.1, o989.2.1, o989.2.2))
def Af n a0 h0 h1 := vJ n a0 h0 h1 _ some
abbrev Ij : FS := ⟨[.n, .f (.func 139) [.q 0 0] []], [.c 161 [.l .u8, .b]], [([.I true .i64], [.c 161 [.l .u8, .b]])]⟩
def FC (n : Nat) : FSpec := Ij.sp (Af n)
theorem KV (n : Nat) : FSound Tryz.prog 166 (FC n) := fs2 (S := Ij) (b := vJ n) Tryz.func166 rfl rfl [.tmp 4] (.s .a (.s .a (.s (.s .a (.u (.p (wI.x (eU n n))))) (.s (.r [(0, .tk [5]), (1, .tk [15])]) .a)))) (by (repeat intro _); unfold vJ; simp only [ay]) (ai (Kc n) trivial)
def iL (n : Nat) (x2 : Int) (h0_0 : List Int) (h0_1 : Bool) (h2_0 h2_1 h2_2 h2_3 h2_4 h2_5 h2_6 : Int) (h3_0 : List (List AV)) (h3_1 h3_2 : List Int) (h3_3 : Str) (R : Type) (K : W25 → Option R) : Option R := cond h0_1 (K (true, h0_0, h0_1, h2_0, h2_1, h2_2, h2_3, h2_4, h2_5, h2_6, h3_0, h3_1, h3_2, h3_3)) ((wh n h2_0 h2_1 h2_2 h2_3 h2_4 h2_5 h2_6).bind fun o1007 => (cond (!o1007) (K (true, h0_0, h0_1, h2_0, h2_1, h2_2, h2_3, h2_4, h2_5, h2_6, h3_0, h3_1, h3_2, h3_3)) ((gM n h2_0 h2_1 h2_2 h2_3 h2_4 h2_5 h2_6 x2).bind fun o1008 => (K (decide ((h0_0.length : Int) < o1008), h0_0, h0_1, h2_0, h2_1, h2_2, h2_3, h2_4, h2_5, h2_6, h3_0, h3_1, h3_2, h3_3)))))
def dz n x2 h0_0 h0_1 h2_0 h2_1 h2_2 h2_3 h2_4 h2_5 h2_6 h3_0 h3_1 h3_2 h3_3 := iL n x2 h0_0 h0_1 h2_0 h2_1 h2_2 h2_3 h2_4 h2_5 h2_6 h3_0 h3_1 h3_2 h3_3 _ some
abbrev sM : PS := ⟨[3, 8], [(2, .n), (4, .q 1 0), (5, .q 2 0)], some [.c 161 [.l .u8, .b], .c 159 [.q 0 0], .c 185 [.c, .n, .n, .n, .n, .n, .n], .c 26 [.L true 3, .I true .i64, .I true .i64, .s]], [⟨.normal, [2, 3, 4, 5, 8], [(35, .b)], [.c 161 [.l .u8, .b], .c 159 [.q 0 0], .c 185 [.c, .n, .n, .n, .n, .n, .n], .c 26 [.L true 3, .I true .i64, .I true .i64, .s]], none⟩], none, none⟩
def lX (n : Nat) (x15 : Bool) (h0_0 : List Int) (h0_1 : Bool) (h2_0 : List (List AV)) (h2_1 h2_2 : List Int) (h2_3 : Str) (h3_0 h3_1 h3_2 : Int) (R : Type) (K : W26 → Option R) : Option R := cond h0_1 (K (h0_0, true, h2_0, h2_1, h2_2, h2_3, h3_0, h3_1, h3_2)) (cond (!x15) (K (h0_0, true, h2_0, h2_1, h2_2, h2_3, h3_0, h3_1, h3_2)) (K (h0_0, decide (h3_1 > (1 : Int)), h2_0, h2_1, h2_2, h2_3, h3_0, h3_1, h3_2)))
def kg n x15 h0_0 h0_1 h2_0 h2_1 h2_2 h2_3 h3_0 h3_1 h3_2 := lX n x15 h0_0 h0_1 h2_0 h2_1 h2_2 h2_3 h3_0 h3_1 h3_2 _ some
abbrev sN : PS := ⟨[8, 10, 13, 72, 73, 74], [(4, .q 1 0), (12, .q 3 0), (15, .b)], some [.c 161 [.l .u8, .b], .c 159 [.q 0 0], .c 26 [.L true 3, .I true .i64, .I true .i64, .s], .c 217 [.n, .n, .n]], [⟨.normal, [4, 8, 10, 12, 13, 72, 73, 74], [], [.c 161 [.l .u8, .b], .c 159 [.q 0 0], .c 26 [.L true 3, .I true .i64, .I true .i64, .s], .c 217 [.n, .n, .n]], none⟩], none, none⟩
def iM (n : Nat) (x10 : List Int) (x72 : List (List AV)) (x73 x74 : Int) (h0_0 : List Int) (h0_1 : Bool) (h2_0 : List (List AV)) (h2_1 h2_2 : List Int) (h2_3 : Str) (R : Type) (A_ : (List Int) → (List (List AV)) → Int → Int → (List Int) → Bool → (List (List AV)) → (List Int) → (List Int) → Str → Option R) (K : W27 → Option R) : Option R := cond (decide (x74 < x73)) (cond (decide (0 ≤ x74)) ((x72[x74.toNat]?).bind fun e1015 => (unc e1015 fun c1016 r1017 => vM .i64 c1016 fun x1018 => unc r1017 fun c1019 r1020 => vM .i64 c1019 fun x1021 => unc r1020 fun c1022 r1023 => vM .i64 c1022 fun x1024 => unn r1023 (cond (decide (0 ≤ (if (x10.length : Int) < x1024 then (x10.length : Int) else x1024))) (cond (decide ((if (x10.length : Int) < x1024 then (x10.length : Int) else x1024) ≤ (x10.length : Int))) ((Qg n (x10.drop (if (x10.length : Int) < x1024 then (x10.length : Int) else x1024).toNat) ([(0 : Int)] : List Int)).bind fun o1025 => ((kg n o1025.2.2 h0_0 h0_1 h2_0 h2_1 h2_2 h2_3 x1018 x1021 x1024).bind fun o1026 => (cond (decide ((o1026.2.2.1.length + ([[.int .i64 o1026.2.2.2.2.2.2.1, .bool (o1026.2.2.2.2.2.2.2.1 == (1 : Int)), .str (yN o1025.1)]] : List (List AV)).length) * 32 ≤ 140737488355328)) (A_ x10 x72 x73 (IntKind.i64.wrap (x74 + (1 : Int))) o1026.1 o1026.2.1 (o1026.2.2.1 ++ ([[.int .i64 o1026.2.2.2.2.2.2.1, .bool (o1026.2.2.2.2.2.2.2.1 == (1 : Int)), .str (yN o1025.1)]] : List (List AV))) o1026.2.2.2.1 o1026.2.2.2.2.1 o1026.2.2.2.2.2.1) none))) none) none))) none) (K (h0_0, h0_1, h2_0, h2_1, h2_2, h2_3))
def bQ (n : Nat) : Nat → (List Int) → (List (List AV)) → Int → Int → (List Int) → Bool → (List (List AV)) → (List Int) → (List Int) → Str → Option (W27)
 | 0, _, _, _, _, _, _, _, _, _, _ => none
 | m + 1, x10, x72, x73, x74, h0_0, h0_1, h2_0, h2_1, h2_2, h2_3 => iM n x10 x72 x73 x74 h0_0 h0_1 h2_0 h2_1 h2_2 h2_3 _ (bQ n m) some
abbrev sO : PS := ⟨[], [(4, .q 1 0), (8, .q 2 0), (10, .l .u8), (72, .L true 3), (73, .n), (74, .n)], some [.c 161 [.l .u8, .b], .c 159 [.q 0 0], .c 26 [.L true 3, .I true .i64, .I true .i64, .s]], [⟨(.exit 0), [8], [], [.c 161 [.l .u8, .b], .c 159 [.q 0 0], .c 26 [.L true 3, .I true .i64, .I true .i64, .s]], none⟩], (some 1), (some 1)⟩
theorem Ik (n : Nat) : Snd ⟨Tryz.prog, 1, 122⟩ (sN.x (kg n)) (fb Tryz.f135 366975) := iF (S := sN) (b := lX n) (.d [] [(0, .part [0, 1]), (1, .part [0, 1]), (2, .part [0]), (3, .part [0]), (4, .part [0]), (10, .look), (14, .part [0]), (15, .part [0]), (16, .part [0])]) (by (repeat intro _); unfold lX; simp only [ay]) trivial
theorem Il (n : Nat) : Snd ⟨Tryz.prog, 1, 122⟩ (sM.x (dz n)) (fb Tryz.f135 9) := iF (S := sM) (b := iL n) (.d [(6, .cl 165 (Dv n)), (17, .cl 138 (wW n))] [(0, .peek [0, 1] [1]), (1, .peek [0] [0]), (2, .peek [0] [0]), (3, .peek [0] [0]), (5, .peek [2] [2]), (6, .part []), (10, .peek [0, 1] [1]), (11, .peek [0] [0]), (12, .peek [0] [0]), (13, .peek [0] [0]), (15, .peek [2] [2]), (17, .part [])]) (by (repeat intro _); unfold iL; simp only [ay]) (ai (Fx n) (ai (xZ n) trivial))
theorem Im (n : Nat) : Snd ⟨Tryz.prog, 1, 122⟩ (sO.x (bQ n n)) (fb Tryz.f135 1407) := kZ (S := sO) (b := iM n) (f := bQ n) n (.s .a (.s .a (.s (.u (.s .a (.s (.r [(8, .cl 171 (KT n)), (12, .tk [78])]) (.s (.p (sN.x (kg n))) (.r [(1, .lt), (11, .tk [108]), (13, .tk [118])]))))) .a))) (by (repeat intro _); unfold iM; simp only [ay]) (ai (Lv n) (ai (Ik n) trivial))
def iB (n : Nat) (a0 a1 a2 a3 a4 a5 a6 a7 : Int) (h0 : List Int) (h1 : Bool) (R : Type) (K : W28 → Option R) : Option R := (dz n a7 h0 h1 a0 a1 a2 a3 a4 a5 a6 ([] : List (List AV)) ([] : List Int) ([] : List Int) ([] : Str)).bind fun o1009 => (cond o1009.1 (K (([] : List (List AV)), ([] : List Int), ([] : List Int), ([] : Str), o1009.2.1, true)) ((Af n o1009.2.2.2.2.2.2.2.1 o1009.2.1 o1009.2.2.1).bind fun o1010 => ((yg n o1009.2.2.2.2.2.2.2.1 o1010.2.1 o1010.2.2).bind fun o1011 => ((Ey n o1009.2.2.2.2.2.2.2.2.1 o1011.2.1 o1011.2.2).bind fun o1012 => ((bV n o1009.2.2.2.2.2.2.2.2.2.1 o1012.2.1 o1012.2.2).bind fun o1013 => ((bV n (IntKind.i64.wrap ((IntKind.i64.wrap ((IntKind.i64.wrap (o1009.2.2.2.2.2.2.1 * (IntKind.i64.wrap (a7 + (4 : Int))))) + o1009.2.2.2.2.2.1)) + o1009.2.2.2.2.1)) o1013.2.1 o1013.2.2).bind fun o1014 => ((bQ n n o1013.1 o1012.1 (o1012.1.length : Int) (0 : Int) o1014.2.1 o1014.2.2 o1009.2.2.2.2.2.2.2.2.2.2.1 o1010.1 o1011.1 o1009.2.2.2.2.2.2.2.2.2.2.2.2.2).bind fun o1027 => (K (o1027.2.2.1, o1027.2.2.2.1, o1027.2.2.2.2.1, o1027.2.2.2.2.2, o1027.1, o1027.2.1)))))))))
def bL n a0 a1 a2 a3 a4 a5 a6 a7 h0 h1 := iB n a0 a1 a2 a3 a4 a5 a6 a7 h0 h1 _ some
abbrev CZ : FS := ⟨[.q 0 0, .a [.c, .n, .n, .n, .n, .n, .n], .n, .f (.func 139) [.q 0 0] []], [.c 161 [.l .u8, .b]], [([.a [.L false 3, .l .i64, .l .i64, .s]], [.c 161 [.l .u8, .b]])]⟩
def Ct (n : Nat) : FSpec := CZ.sp (bL n)
theorem IP (n : Nat) : FSound Tryz.prog 135 (Ct n) := fs2 (S := CZ) (b := iB n) Tryz.func135 rfl rfl [.cell 8 26 4 true] (.s .a (.s (.s (.p (sM.x (dz n))) (.s (.s .a (.s (.r [(1, .tk [39])]) .a)) .a)) (.s (.r [(3, .cl 166 (FC n)), (5, .tk [43])]) (.s (.r [(4, .cl 167 (EZ n)), (6, .tk [49])]) (.s (.r [(3, .cl 169 (KS n)), (4, .tk [54])]) (.s (.r [(3, .cl 137 (dG n))]) (.s (.r [(12, .cl 137 (dG n))]) (.s (.s (.r [(0, .tk [9])]) (.u (.p (sO.x (bQ n n))))) .a)))))))) (by (repeat intro _); unfold iB; simp only [ay]) (ai (Il n) (ai (KV n) (ai (Ig n) (ai (Lu n) (ai (dx n) (ai (dx n) (ai (Im n) trivial)))))))
def ql (n : Nat) (h0_0 : List Int) (h0_1 : Bool) (h1_0 : List (List AV)) (h1_1 h1_2 : List Int) (h1_3 : Str) (h2_0 h2_1 h2_2 h2_3 h2_4 h2_5 h2_6 h3_0 h3_1 h3_2 h3_3 h3_4 h3_5 h3_6 : Int) (h4_0 : List (List AV)) (h4_1 h4_2 : List Int) (h4_3 : Str) (R : Type) (K : ((List Int) × Bool × (List (List AV)) × (List Int) × (List Int) × Str × Int × Int × Int × Int × Int × Int × Int × Int × Int × Int × Int × Int × Int × Int × (List (List AV)) × (List Int) × (List Int) × Str) → Option R) : Option R := cond h0_1 (K (h0_0, true, h1_0, h1_1, h1_2, h1_3, h2_0, h2_1, h2_2, h2_3, h2_4, h2_5, h2_6, h3_0, h3_1, h3_2, h3_3, h3_4, h3_5, h3_6, h4_0, h4_1, h4_2, h4_3)) (cond (h3_0 != h2_0) (K (h0_0, true, h1_0, h1_1, h1_2, h1_3, h2_0, h2_1, h2_2, h2_3, h2_4, h2_5, h2_6, h3_0, h3_1, h3_2, h3_3, h3_4, h3_5, h3_6, h4_0, h4_1, h4_2, h4_3)) (cond (decide ((h0_0.length : Int) < (2 : Int))) (K (h0_0, true, h1_0, h1_1, h1_2, h1_3, h2_0, h2_1, h2_2, h2_3, h2_4, h2_5, h2_6, h3_0, h3_1, h3_2, h3_3, h3_4, h3_5, h3_6, h4_0, h4_1, h4_2, h4_3)) ((h0_0[0]?).bind fun e1038 => (cond (e1038 != (10 : Int)) (K (h0_0, true, h1_0, h1_1, h1_2, h1_3, h2_0, h2_1, h2_2, h2_3, h2_4, h2_5, h2_6, h3_0, h3_1, h3_2, h3_3, h3_4, h3_5, h3_6, h4_0, h4_1, h4_2, h4_3)) (cond (decide (0 ≤ (IntKind.i64.wrap ((h0_0.length : Int) - (1 : Int))))) ((h0_0[(IntKind.i64.wrap ((h0_0.length : Int) - (1 : Int))).toNat]?).bind fun e1039 => (K (h0_0, e1039 != (10 : Int), h1_0, h1_1, h1_2, h1_3, h2_0, h2_1, h2_2, h2_3, h2_4, h2_5, h2_6, h3_0, h3_1, h3_2, h3_3, h3_4, h3_5, h3_6, h4_0, h4_1, h4_2, h4_3))) none)))))
def ku n h0_0 h0_1 h1_0 h1_1 h1_2 h1_3 h2_0 h2_1 h2_2 h2_3 h2_4 h2_5 h2_6 h3_0 h3_1 h3_2 h3_3 h3_4 h3_5 h3_6 h4_0 h4_1 h4_2 h4_3 := ql n h0_0 h0_1 h1_0 h1_1 h1_2 h1_3 h2_0 h2_1 h2_2 h2_3 h2_4 h2_5 h2_6 h3_0 h3_1 h3_2 h3_3 h3_4 h3_5 h3_6 h4_0 h4_1 h4_2 h4_3 _ some
abbrev wJ : PS := ⟨[2, 5], [(0, .q 0 0), (3, .q 2 0), (4, .q 3 0)], some [.c 161 [.l .u8, .b], .c 26 [.L true 3, .I true .i64, .I true .i64, .s], .c 185 [.c, .n, .n, .n, .n, .n, .n], .c 185 [.c, .n, .n, .n, .n, .n, .n], .c 26 [.L false 3, .l .i64, .l .i64, .s]], [⟨.normal, [0, 2, 5], [], [.c 161 [.l .u8, .b], .c 26 [.L true 3, .I true .i64, .I true .i64, .s], .c 185 [.c, .n, .n, .n, .n, .n, .n], .c 185 [.c, .n, .n, .n, .n, .n, .n], .c 26 [.L false 3, .l .i64, .l .i64, .s]], none⟩], none, none⟩
theorem Ke (n : Nat) : Snd ⟨Tryz.prog, 1, 95⟩ (wJ.x (ku n)) (fb Tryz.f97 191) := iF (S := wJ) (b := ql n) (.d [] [(0, .part [0]), (1, .part [0]), (2, .part [0]), (3, .part [0]), (4, .part [0]), (6, .look), (8, .look), (13, .look), (14, .look), (15, .look), (21, .look), (22, .look), (23, .look), (26, .no), (30, .look), (31, .look), (32, .look), (34, .look), (35, .look), (36, .look), (41, .no), (44, .part [0]), (45, .part [0]), (46, .part [0])]) (by (repeat intro _); unfold ql; simp only [ay]) trivial
def lG (n : Nat) (h0 : List Int) (h1 : Bool) (R : Type) (K : W28 → Option R) : Option R := (pF n h0 h1).bind fun o1032 => (cond (o1032.1 == (0 : Int)) ((dH n o1032.1 o1032.2.1 o1032.2.2.1 o1032.2.2.2.1 o1032.2.2.2.2.1 o1032.2.2.2.2.2.1 o1032.2.2.2.2.2.2.1 (4 : Int) o1032.2.2.2.2.2.2.2.1 o1032.2.2.2.2.2.2.2.2).bind fun o1033 => (K (o1033.1, o1033.2.1, o1033.2.2.1, o1033.2.2.2.1, o1033.2.2.2.2.1, o1033.2.2.2.2.2))) ((gM n o1032.1 o1032.2.1 o1032.2.2.1 o1032.2.2.2.1 o1032.2.2.2.2.1 o1032.2.2.2.2.2.1 o1032.2.2.2.2.2.2.1 (4 : Int)).bind fun o1034 => ((bV n o1034 o1032.2.2.2.2.2.2.2.1 o1032.2.2.2.2.2.2.2.2).bind fun o1035 => ((pF n o1035.2.1 o1035.2.2).bind fun o1036 => ((bL n o1036.1 o1036.2.1 o1036.2.2.1 o1036.2.2.2.1 o1036.2.2.2.2.1 o1036.2.2.2.2.2.1 o1036.2.2.2.2.2.2.1 (8 : Int) o1036.2.2.2.2.2.2.2.1 o1036.2.2.2.2.2.2.2.2).bind fun o1037 => ((ku n o1037.2.2.2.2.1 o1037.2.2.2.2.2 ([] : List (List AV)) ([] : List Int) ([] : List Int) ([] : Str) o1032.1 o1032.2.1 o1032.2.2.1 o1032.2.2.2.1 o1032.2.2.2.2.1 o1032.2.2.2.2.2.1 o1032.2.2.2.2.2.2.1 o1036.1 o1036.2.1 o1036.2.2.1 o1036.2.2.2.1 o1036.2.2.2.2.1 o1036.2.2.2.2.2.1 o1036.2.2.2.2.2.2.1 o1037.1 o1037.2.1 o1037.2.2.1 o1037.2.2.2.1).bind fun o1040 => (cond (!o1040.2.1) (cond (decide (0 ≤ (IntKind.i64.wrap ((o1040.1.length : Int) - (1 : Int))))) (cond (decide ((IntKind.i64.wrap ((o1040.1.length : Int) - (1 : Int))) ≤ (o1040.1.length : Int))) (cond (decide ((1 : Int) ≤ ((IntKind.i64.wrap ((o1040.1.length : Int) - (1 : Int))).toNat : Int))) (K (o1040.2.2.2.2.2.2.2.2.2.2.2.2.2.2.2.2.2.2.2.2.1, o1040.2.2.2.2.2.2.2.2.2.2.2.2.2.2.2.2.2.2.2.2.2.1, o1040.2.2.2.2.2.2.2.2.2.2.2.2.2.2.2.2.2.2.2.2.2.2.1, yN ((o1040.1.take (IntKind.i64.wrap ((o1040.1.length : Int) - (1 : Int))).toNat).drop 1), ([] : List Int), o1040.2.1)) none) none) none) (K (o1040.2.2.2.2.2.2.2.2.2.2.2.2.2.2.2.2.2.2.2.2.1, o1040.2.2.2.2.2.2.2.2.2.2.2.2.2.2.2.2.2.2.2.2.2.1, o1040.2.2.2.2.2.2.2.2.2.2.2.2.2.2.2.2.2.2.2.2.2.2.1, o1040.2.2.2.2.2.2.2.2.2.2.2.2.2.2.2.2.2.2.2.2.2.2.2, o1040.1, o1040.2.1)))))))))
def bB n h0 h1 := lG n h0 h1 _ some
abbrev Io : FS := ⟨[.q 0 0], [.c 161 [.l .u8, .b]], [([.a [.L false 3, .l .i64, .l .i64, .s]], [.c 161 [.l .u8, .b]])]⟩
def FD (n : Nat) : FSpec := Io.sp (bB n)
theorem KW (n : Nat) : FSound Tryz.prog 97 (FD n) := fs2 (S := Io) (b := lG n) Tryz.func97 rfl rfl [.cell 2 26 4 true] (.s .a (.s (.r [(1, .cl 134 (yT n))]) (.s (.s .a (.s (.s (.r [(4, .cl 135 (Ez n))]) .a) .a)) (.s (.r [(2, .cl 138 (wW n)), (3, .cl 137 (dG n))]) (.s (.r [(1, .cl 134 (yT n))]) (.s (.r [(4, .cl 135 (Ct n))]) (.s (.p (wJ.x (ku n))) (.s (.s .a (.s (.s (.d [] [(0, .part [0]), (1, .part [0]), (2, .part [0]), (3, .part [0]), (4, .part [0]), (5, .part [0]), (6, .part [0]), (7, .part [0]), (12, .part [4]), (13, .part [4])]) (.r [(3, .nn)])) .a)) .a)))))))) (by (repeat intro _); unfold lG; simp only [ay]) (ai (Cq n) (ai (Kb n) (ai (xZ n) (ai (dx n) (ai (Cq n) (ai (IP n) (ai (Ke n) trivial)))))))
def vK (n : Nat) (a0 : List Int) (R : Type) (K : W18 → Option R) : Option R := (bB n a0 false).bind fun o1041 => (cond o1041.2.2.2.2.2 (K (([] : List (List AV)), ([] : List Int), ([] : List Int), ([] : Str), (60 : Int))) (cond (decide ((o1041.2.2.2.2.1.length : Int) > (0 : Int))) (K (([] : List (List AV)), ([] : List Int), ([] : List Int), ([] : Str), (60 : Int))) ((yu n o1041.1 o1041.2.1 o1041.2.2.1 o1041.2.2.2.1).bind fun o1042 => (cond (!o1042) (K (([] : List (List AV)), ([] : List Int), ([] : List Int), ([] : Str), (60 : Int))) (K (o1041.1, o1041.2.1, o1041.2.2.1, o1041.2.2.2.1, (0 : Int)))))))
def iZ n a0 := vK n a0 _ some
abbrev Py : FS := ⟨[.l .u8], [], [([.a [.L false 3, .l .i64, .l .i64, .s], .n], [])]⟩
def NL (n : Nat) : FSpec := Py.sp (iZ n)
theorem Qm (n : Nat) : FSound Tryz.prog 57 (NL n) := fs2 (S := Py) (b := vK n) Tryz.func57 rfl rfl [.cell 2 26 4 true, .tmp 3] (.s .a (.s .a (.s (.r [(1, .cl 97 (FD n))]) (.s (.s (.r [(14, .cl 50 (DN n))]) (.s (.s (.r [(1, .tk [28])]) .a) .a)) .a)))) (by (repeat intro _); unfold vK; simp only [ay]) (ai (KW n) (ai (Dk n) trivial))
def EA (n : Nat) (a0 : List Int) (R : Type) (K : ((Int) ⊕ W5 ⊕ ((List (List AV)) × (List Int) × (List Int) × Str)) → Option R) : Option R := (iZ n a0).bind fun o1043 => (cond (o1043.2.2.2.2 != (0 : Int)) (K (Sum.inl o1043.2.2.2.2)) ((sj n o1043.1 o1043.2.1 o1043.2.2.1 o1043.2.2.2.1).bind fun o1044 => (Sum.elim (fun o1045 => K (Sum.inl o1045)) (fun o1046 => Sum.elim (fun o1047 => K (Sum.inr (Sum.inl (o1047.1, o1047.2.1, o1047.2.2.1, o1047.2.2.2.1, o1047.2.2.2.2.1, o1047.2.2.2.2.2.1, o1047.2.2.2.2.2.2.1, o1047.2.2.2.2.2.2.2.1, o1047.2.2.2.2.2.2.2.2.1, o1047.2.2.2.2.2.2.2.2.2.1, o1047.2.2.2.2.2.2.2.2.2.2.1, o1047.2.2.2.2.2.2.2.2.2.2.2.1, o1047.2.2.2.2.2.2.2.2.2.2.2.2.1, o1047.2.2.2.2.2.2.2.2.2.2.2.2.2.1, o1047.2.2.2.2.2.2.2.2.2.2.2.2.2.2.1, o1047.2.2.2.2.2.2.2.2.2.2.2.2.2.2.2.1, o1047.2.2.2.2.2.2.2.2.2.2.2.2.2.2.2.2.1, o1047.2.2.2.2.2.2.2.2.2.2.2.2.2.2.2.2.2)))) (fun o1048 => K (Sum.inr (Sum.inr (o1048.1, o1048.2.1, o1048.2.2.1, o1048.2.2.2)))) o1046) o1044)))
def rJ n a0 := EA n a0 _ some
abbrev QX : FS := ⟨[.l .u8], [], [([.x (.ptr none), .n], []), ([.q 0 0, .x (.int .i64 (0 : Int))], [.c 82 [.L false 3, .l .i64, .l .i64, .s, .q 1 0], .c 87 [.s, .s, .n, .n, .c, .n, .n, .n, .n, .c, .n, .n, .n, .n]]), ([.q 0 0, .x (.int .i64 (0 : Int))], [.c 82 [.L false 3, .l .i64, .l .i64, .s, .x (.ptr none)]])]⟩
def QY (n : Nat) : FSpec := QX.sp (rJ n)
theorem Vz (n : Nat) : FSound Tryz.prog 30 (QY n) := fs2 (S := QX) (b := EA n) Tryz.func30 rfl rfl [.tmp 2, .tmp 3] (.s .a (.s (.r [(1, .cl 57 (NL n)), (4, .tk [6])]) (.s .a (.s (.r [(1, .cl 27 (I7 n)), (3, .tk [15])]) .a)))) (by (repeat intro _); unfold EA; simp only [ay]) (ai (Qm n) (ai (He n) trivial))
def Pz (n : Nat) : FSpec := aca 2 (QY n)
theorem Rj (n : Nat) : FSound Tryz.prog 30 (Pz n) := QP (Vz n)
def jk (n : Nat) (x0 : List Int) (x1 x2 x7 x8 : Int) (R : Type) (A_ : (List Int) → Int → Int → Int → Int → Option R) (K : (Int) → Option R) : Option R := cond (decide (x8 < x2)) (cond (decide (0 ≤ (IntKind.i64.wrap (x1 + x8)))) ((x0[(IntKind.i64.wrap (x1 + x8)).toNat]?).bind fun e1056 => (A_ x0 x1 x2 (IntKind.u64.wrap ((BitVec.ofInt 64 (IntKind.u64.wrap (x7 * 2 ^ 8)) ||| BitVec.ofInt 64 (IntKind.u64.wrap e1056)).toNat : Int)) (IntKind.i64.wrap (x8 + (1 : Int))))) none) (K x7)
def dE (n : Nat) : Nat → (List Int) → Int → Int → Int → Int → Option ((Int))
 | 0, _, _, _, _, _ => none
 | m + 1, x0, x1, x2, x7, x8 => jk n x0 x1 x2 x7 x8 _ (dE n m) some
abbrev uA : PS := ⟨[], [(0, .l .u8), (1, .n), (2, .n), (7, .i .u64), (8, .n)], some [], [⟨(.exit 0), [], [(7, .i .u64)], [], none⟩], none, none⟩
theorem IQ (n : Nat) : Snd ⟨Tryz.prog, 0, 25⟩ (uA.x (dE n n)) (fb Tryz.f98 43) := kZ (S := uA) (b := jk n) (f := dE n) n .a (by (repeat intro _); unfold jk; simp only [ay]) trivial
def rM (n : Nat) (a0 : List Int) (a1 a2 : Int) (R : Type) (K : Int → Option R) : Option R := (dE n n a0 a1 a2 (0 : Int) (0 : Int)).bind fun o1057 => (K o1057)
def aT n a0 a1 a2 := rM n a0 a1 a2 _ some
abbrev EB : FS := ⟨[.l .u8, .n, .n], [], [([.i .u64], [])]⟩
def wK (n : Nat) : FSpec := EB.sp (aT n)
theorem zw (n : Nat) : FSound Tryz.prog 98 (wK n) := fs2 (S := EB) (b := rM n) Tryz.func98 rfl rfl [.tmp 6] (.s .a (.s .a (.s (.s .a (.u (.p (uA.x (dE n n))))) .a))) (by (repeat intro _); unfold rM; simp only [ay]) (ai (IQ n) trivial)
def gq (n : Nat) (x0 : List Int) (x1 h0_0 h0_1 h0_2 h0_3 h0_4 h0_5 h1_0 h1_1 h1_2 h1_3 h1_4 h1_5 : Int) (R : Type) (K : (Bool × Int × Int × Int × Int × Int × Int × Int × Int × Int × Int × Int × Int) → Option R) : Option R := cond (decide ((IntKind.i64.wrap ((x0.length : Int) - x1)) < (44 : Int))) (K (true, h0_0, h0_1, h0_2, h0_3, h0_4, h0_5, h1_0, h1_1, h1_2, h1_3, h1_4, h1_5)) (cond (decide (0 ≤ (IntKind.i64.wrap (x1 + (4 : Int))))) (cond (decide ((IntKind.i64.wrap (x1 + (4 : Int))) ≤ (x0.length : Int))) (cond (decide (0 ≤ x1)) (cond (decide (x1 ≤ ((IntKind.i64.wrap (x1 + (4 : Int))).toNat : Int))) (cond (!((yN ((x0.take (IntKind.i64.wrap (x1 + (4 : Int))).toNat).drop x1.toNat)) == ([84, 90, 105, 102] : Str))) (K (true, h0_0, h0_1, h0_2, h0_3, h0_4, h0_5, h1_0, h1_1, h1_2, h1_3, h1_4, h1_5)) (cond (decide (0 ≤ (IntKind.i64.wrap (x1 + (4 : Int))))) ((x0[(IntKind.i64.wrap (x1 + (4 : Int))).toNat]?).bind fun e1052 => (cond (e1052 != (0 : Int)) (cond (decide (0 ≤ (IntKind.i64.wrap (x1 + (4 : Int))))) ((x0[(IntKind.i64.wrap (x1 + (4 : Int))).toNat]?).bind fun e1053 => (cond (e1053 != (50 : Int)) (cond (decide (0 ≤ (IntKind.i64.wrap (x1 + (4 : Int))))) ((x0[(IntKind.i64.wrap (x1 + (4 : Int))).toNat]?).bind fun e1054 => (K (e1054 != (51 : Int), h0_0, h0_1, h0_2, h0_3, h0_4, h0_5, h1_0, h1_1, h1_2, h1_3, h1_4, h1_5))) none) (K (false, h0_0, h0_1, h0_2, h0_3, h0_4, h0_5, h1_0, h1_1, h1_2, h1_3, h1_4, h1_5)))) none) (K (false, h0_0, h0_1, h0_2, h0_3, h0_4, h0_5, h1_0, h1_1, h1_2, h1_3, h1_4, h1_5)))) none)) none) none) none) none)
def eT n x0 x1 h0_0 h0_1 h0_2 h0_3 h0_4 h0_5 h1_0 h1_1 h1_2 h1_3 h1_4 h1_5 := gq n x0 x1 h0_0 h0_1 h0_2 h0_3 h0_4 h0_5 h1_0 h1_1 h1_2 h1_3 h1_4 h1_5 _ some
abbrev pG : PS := ⟨[4, 7], [(0, .l .u8), (1, .n)], some [.c 119 [.n, .n, .n, .n, .n, .n], .c 119 [.n, .n, .n, .n, .n, .n]], [⟨.normal, [0, 1, 4, 7], [(46, .b)], [.c 119 [.n, .n, .n, .n, .n, .n], .c 119 [.n, .n, .n, .n, .n, .n]], none⟩], none, none⟩
def aV (n : Nat) (x0 : List Int) (x1 x8 h0_0 h0_1 h0_2 h0_3 h0_4 h0_5 h1_0 h1_1 h1_2 h1_3 h1_4 h1_5 : Int) (R : Type) (A_ : (List Int) → Int → Int → Int → Int → Int → Int → Int → Int → Int → Int → Int → Int → Int → Int → Option R) (K : W29 → Option R) : Option R := cond (decide (x8 < (6 : Int))) ((aT n x0 (IntKind.i64.wrap ((IntKind.i64.wrap (x1 + (20 : Int))) + (IntKind.i64.wrap ((4 : Int) * x8)))) (4 : Int)).bind fun o1058 => (cond (decide (0 ≤ x8)) (cond (Nat.beq x8.toNat 5) (A_ x0 x1 (IntKind.i64.wrap (x8 + (1 : Int))) h0_0 h0_1 h0_2 h0_3 h0_4 h0_5 h1_0 h1_1 h1_2 h1_3 h1_4 (IntKind.i64.wrap o1058)) (cond (Nat.beq x8.toNat 4) (A_ x0 x1 (IntKind.i64.wrap (x8 + (1 : Int))) h0_0 h0_1 h0_2 h0_3 h0_4 h0_5 h1_0 h1_1 h1_2 h1_3 (IntKind.i64.wrap o1058) h1_5) (cond (Nat.beq x8.toNat 3) (A_ x0 x1 (IntKind.i64.wrap (x8 + (1 : Int))) h0_0 h0_1 h0_2 h0_3 h0_4 h0_5 h1_0 h1_1 h1_2 (IntKind.i64.wrap o1058) h1_4 h1_5) (cond (Nat.beq x8.toNat 2) (A_ x0 x1 (IntKind.i64.wrap (x8 + (1 : Int))) h0_0 h0_1 h0_2 h0_3 h0_4 h0_5 h1_0 h1_1 (IntKind.i64.wrap o1058) h1_3 h1_4 h1_5) (cond (Nat.beq x8.toNat 1) (A_ x0 x1 (IntKind.i64.wrap (x8 + (1 : Int))) h0_0 h0_1 h0_2 h0_3 h0_4 h0_5 h1_0 (IntKind.i64.wrap o1058) h1_2 h1_3 h1_4 h1_5) (cond (Nat.beq x8.toNat 0) (A_ x0 x1 (IntKind.i64.wrap (x8 + (1 : Int))) h0_0 h0_1 h0_2 h0_3 h0_4 h0_5 (IntKind.i64.wrap o1058) h1_1 h1_2 h1_3 h1_4 h1_5) (none))))))) none)) (K (h0_0, h0_1, h0_2, h0_3, h0_4, h0_5, h1_0, h1_1, h1_2, h1_3, h1_4, h1_5))
def ak (n : Nat) : Nat → (List Int) → Int → Int → Int → Int → Int → Int → Int → Int → Int → Int → Int → Int → Int → Int → Option (W29)
 | 0, _, _, _, _, _, _, _, _, _, _, _, _, _, _, _ => none
 | m + 1, x0, x1, x8, h0_0, h0_1, h0_2, h0_3, h0_4, h0_5, h1_0, h1_1, h1_2, h1_3, h1_4, h1_5 => aV n x0 x1 x8 h0_0 h0_1 h0_2 h0_3 h0_4 h0_5 h1_0 h1_1 h1_2 h1_3 h1_4 h1_5 _ (ak n m) some
abbrev pJ : PS := ⟨[4], [(0, .l .u8), (1, .n), (7, .q 1 0), (8, .n)], some [.c 119 [.n, .n, .n, .n, .n, .n], .c 119 [.n, .n, .n, .n, .n, .n]], [⟨(.exit 0), [0, 1, 4, 7], [], [.c 119 [.n, .n, .n, .n, .n, .n], .c 119 [.n, .n, .n, .n, .n, .n]], none⟩], none, none⟩
theorem E5 (n : Nat) : Snd ⟨Tryz.prog, 0, 68⟩ (pG.x (eT n)) (fb Tryz.f58 19) := iF (S := pG) (b := gq n) .a (by (repeat intro _); unfold gq; simp only [ay]) trivial
theorem E8 (n : Nat) : Snd ⟨Tryz.prog, 0, 68⟩ (pJ.x (ak n n)) (fb Tryz.f58 87) := kZ (S := pJ) (b := aV n) (f := ak n) n (.s .a (.s (.u (.r [(7, .cl 98 (wK n))])) .a)) (by (repeat intro _); unfold aV; simp only [ay]) (ai (zw n) trivial)
def jl (n : Nat) (a0 : List Int) (a1 : Int) (R : Type) (K : (Int × Int × Int × Int × Int × Int × Int × Bool) → Option R) : Option R := (eT n a0 a1 (0 : Int) (0 : Int) (0 : Int) (0 : Int) (0 : Int) (0 : Int) (0 : Int) (0 : Int) (0 : Int) (0 : Int) (0 : Int) (0 : Int)).bind fun o1055 => (cond o1055.1 (K (o1055.2.2.2.2.2.2.2.1, o1055.2.2.2.2.2.2.2.2.1, o1055.2.2.2.2.2.2.2.2.2.1, o1055.2.2.2.2.2.2.2.2.2.2.1, o1055.2.2.2.2.2.2.2.2.2.2.2.1, o1055.2.2.2.2.2.2.2.2.2.2.2.2, (0 : Int), false)) ((ak n n a0 a1 (0 : Int) o1055.2.1 o1055.2.2.1 o1055.2.2.2.1 o1055.2.2.2.2.1 o1055.2.2.2.2.2.1 o1055.2.2.2.2.2.2.1 o1055.2.2.2.2.2.2.2.1 o1055.2.2.2.2.2.2.2.2.1 o1055.2.2.2.2.2.2.2.2.2.1 o1055.2.2.2.2.2.2.2.2.2.2.1 o1055.2.2.2.2.2.2.2.2.2.2.2.1 o1055.2.2.2.2.2.2.2.2.2.2.2.2).bind fun o1060 => (cond (decide (0 ≤ (IntKind.i64.wrap (a1 + (4 : Int))))) ((a0[(IntKind.i64.wrap (a1 + (4 : Int))).toNat]?).bind fun e1061 => (K (o1060.2.2.2.2.2.2.1, o1060.2.2.2.2.2.2.2.1, o1060.2.2.2.2.2.2.2.2.1, o1060.2.2.2.2.2.2.2.2.2.1, o1060.2.2.2.2.2.2.2.2.2.2.1, o1060.2.2.2.2.2.2.2.2.2.2.2, e1061, true))) none)))
def aS n a0 a1 := jl n a0 a1 _ some
abbrev AP : FS := ⟨[.l .u8, .n], [], [([.a [.n, .n, .n, .n, .n, .n], .c, .b], [])]⟩
def sP (n : Nat) : FSpec := AP.sp (aS n)
theorem wX (n : Nat) : FSound Tryz.prog 58 (sP n) := fs2 (S := AP) (b := jl n) Tryz.func58 rfl rfl [.cell 4 119 6 true, .tmp 5, .tmp 6] (.s .a (.s .a (.s (.s (.p (pG.x (eT n))) .a) (.s (.s .a (.u (.p (pJ.x (ak n n))))) (.s (.d [] [(0, .part [1]), (5, .no), (6, .part [0])]) .a))))) (by (repeat intro _); unfold jl; simp only [ay]) (ai (E5 n) (ai (E8 n) trivial))
def qm (n : Nat) (a0 a1 a2 a3 a4 a5 a6 : Int) (R : Type) (K : Int → Option R) : Option R := K (IntKind.i64.wrap ((IntKind.i64.wrap ((IntKind.i64.wrap ((IntKind.i64.wrap ((IntKind.i64.wrap ((IntKind.i64.wrap (a3 * (IntKind.i64.wrap (a6 + (1 : Int))))) + (IntKind.i64.wrap (a4 * (6 : Int))))) + a5)) + (IntKind.i64.wrap (a2 * (IntKind.i64.wrap (a6 + (4 : Int))))))) + a1)) + a0))
def aZ n a0 a1 a2 a3 a4 a5 a6 := qm n a0 a1 a2 a3 a4 a5 a6 _ some
abbrev C8 : FS := ⟨[.a [.n, .n, .n, .n, .n, .n], .n], [], [([.n], [])]⟩
def oH (n : Nat) : FSpec := C8.sp (aZ n)
theorem qK (n : Nat) : FSound Tryz.prog 59 (oH n) := fs2 (S := C8) (b := qm n) Tryz.func59 rfl rfl [.tmp 4] .a (by (repeat intro _); unfold qm; simp only [ay]) trivial
def jm (n : Nat) (a0 : List Int) (a1 a2 : Int) (R : Type) (K : Int → Option R) : Option R := (aT n a0 a1 a2).bind fun o1091 => (cond (a2 == (4 : Int)) (cond (decide ((IntKind.i64.wrap o1091) ≥ (2147483648 : Int))) (K (IntKind.i64.wrap ((IntKind.i64.wrap o1091) - (4294967296 : Int)))) (K (IntKind.i64.wrap o1091))) (K (IntKind.i64.wrap o1091)))
def bJ n a0 a1 a2 := jm n a0 a1 a2 _ some
abbrev AQ : FS := ⟨[.l .u8, .n, .n], [], [([.n], [])]⟩
def sQ (n : Nat) : FSpec := AQ.sp (bJ n)
theorem wY (n : Nat) : FSound Tryz.prog 99 (sQ n) := fs2 (S := AQ) (b := jm n) Tryz.func99 rfl rfl [.tmp 6] (.s .a (.s (.r [(3, .cl 98 (wK n))]) .a)) (by (repeat intro _); unfold jm; simp only [ay]) (ai (zw n) trivial)
def fC (n : Nat) (x0 : List Int) (x1 x6 : Int) (R : Type) (A_ : (List Int) → Int → Int → Option R) (K : ((Str) ⊕ (Unit)) → Option R) : Option R := cond (decide (x6 < (x0.length : Int))) (cond (decide (0 ≤ x6)) ((x0[x6.toNat]?).bind fun e1102 => (cond (e1102 == (0 : Int)) (cond (decide (0 ≤ x6)) (cond (decide (x6 ≤ (x0.length : Int))) (cond (decide (0 ≤ x1)) (cond (decide (x1 ≤ (x6.toNat : Int))) (K (Sum.inl (yN ((x0.take x6.toNat).drop x1.toNat)))) none) none) none) none) (A_ x0 x1 (IntKind.i64.wrap (x6 + (1 : Int)))))) none) (K (Sum.inr ()))
def bN (n : Nat) : Nat → (List Int) → Int → Int → Option ((Str) ⊕ (Unit))
 | 0, _, _, _ => none
 | m + 1, x0, x1, x6 => fC n x0 x1 x6 _ (bN n m) some
abbrev oI : PS := ⟨[], [(0, .l .u8), (1, .n), (6, .n)], some [], [⟨.ret, [], [(4, .s), (5, .x (.bool true))], [], none⟩, ⟨(.exit 0), [], [], [], none⟩], none, none⟩
theorem EC (n : Nat) : Snd ⟨Tryz.prog, 0, 24⟩ (oI.x (bN n n)) (fb Tryz.f100 21) := kZ (S := oI) (b := fC n) (f := bN n) n .a (by (repeat intro _); unfold fC; simp only [ay]) trivial
def lY (n : Nat) (a0 : List Int) (a1 : Int) (R : Type) (K : (Str × Bool) → Option R) : Option R := (bN n n a0 a1 a1).bind fun o1103 => (Sum.elim (fun o1104 => K (o1104, true)) (fun o1105 => K (([] : Str), false)) o1103)
def lZ n a0 a1 := lY n a0 a1 _ some
abbrev zx : FS := ⟨[.l .u8, .n], [], [([.s, .b], [])]⟩
def yM (n : Nat) : FSpec := zx.sp (lZ n)
theorem E9 (n : Nat) : FSound Tryz.prog 100 (yM n) := fs2 (S := zx) (b := lY n) Tryz.func100 rfl rfl [.tmp 4, .tmp 5] (.s .a (.s (.s .a (.u (.p (oI.x (bN n n))))) .a)) (by (repeat intro _); unfold lY; simp only [ay]) (ai (EC n) trivial)
def kT (n : Nat) (x0 : List Int) (x2 h0_0 h0_1 h0_2 h0_3 h0_4 h0_5 : Int) (h1_0 : List (List AV)) (h1_1 h1_2 : List Int) (h1_3 : Str) (h2_0 : List (List AV)) (h2_1 h2_2 : List Int) (h2_3 : Str) (R : Type) (K : W30 → Option R) : Option R := cond (decide (h0_4 < (1 : Int))) (K (true, h0_0, h0_1, h0_2, h0_3, h0_4, h0_5, h1_0, h1_1, h1_2, h1_3, h2_0, h2_1, h2_2, h2_3)) (cond (decide (h0_4 > (255 : Int))) (K (true, h0_0, h0_1, h0_2, h0_3, h0_4, h0_5, h1_0, h1_1, h1_2, h1_3, h2_0, h2_1, h2_2, h2_3)) (cond (decide (h0_3 > (4000 : Int))) (K (true, h0_0, h0_1, h0_2, h0_3, h0_4, h0_5, h1_0, h1_1, h1_2, h1_3, h2_0, h2_1, h2_2, h2_3)) (cond (decide (h0_5 < (1 : Int))) (K (true, h0_0, h0_1, h0_2, h0_3, h0_4, h0_5, h1_0, h1_1, h1_2, h1_3, h2_0, h2_1, h2_2, h2_3)) (cond (decide (h0_5 > (4096 : Int))) (K (true, h0_0, h0_1, h0_2, h0_3, h0_4, h0_5, h1_0, h1_1, h1_2, h1_3, h2_0, h2_1, h2_2, h2_3)) (cond (decide (h0_2 > (1000 : Int))) (K (true, h0_0, h0_1, h0_2, h0_3, h0_4, h0_5, h1_0, h1_1, h1_2, h1_3, h2_0, h2_1, h2_2, h2_3)) (cond (h0_1 != (0 : Int)) (cond (h0_1 != h0_4) (K (true, h0_0, h0_1, h0_2, h0_3, h0_4, h0_5, h1_0, h1_1, h1_2, h1_3, h2_0, h2_1, h2_2, h2_3)) (cond (h0_0 != (0 : Int)) (cond (h0_0 != h0_4) (K (true, h0_0, h0_1, h0_2, h0_3, h0_4, h0_5, h1_0, h1_1, h1_2, h1_3, h2_0, h2_1, h2_2, h2_3)) ((aZ n h0_0 h0_1 h0_2 h0_3 h0_4 h0_5 x2).bind fun o1082 => (K (decide ((x0.length : Int) < o1082), h0_0, h0_1, h0_2, h0_3, h0_4, h0_5, h1_0, h1_1, h1_2, h1_3, h2_0, h2_1, h2_2, h2_3)))) ((aZ n h0_0 h0_1 h0_2 h0_3 h0_4 h0_5 x2).bind fun o1083 => (K (decide ((x0.length : Int) < o1083), h0_0, h0_1, h0_2, h0_3, h0_4, h0_5, h1_0, h1_1, h1_2, h1_3, h2_0, h2_1, h2_2, h2_3))))) (cond (h0_0 != (0 : Int)) (cond (h0_0 != h0_4) (K (true, h0_0, h0_1, h0_2, h0_3, h0_4, h0_5, h1_0, h1_1, h1_2, h1_3, h2_0, h2_1, h2_2, h2_3)) ((aZ n h0_0 h0_1 h0_2 h0_3 h0_4 h0_5 x2).bind fun o1087 => (K (decide ((x0.length : Int) < o1087), h0_0, h0_1, h0_2, h0_3, h0_4, h0_5, h1_0, h1_1, h1_2, h1_3, h2_0, h2_1, h2_2, h2_3)))) ((aZ n h0_0 h0_1 h0_2 h0_3 h0_4 h0_5 x2).bind fun o1088 => (K (decide ((x0.length : Int) < o1088), h0_0, h0_1, h0_2, h0_3, h0_4, h0_5, h1_0, h1_1, h1_2, h1_3, h2_0, h2_1, h2_2, h2_3))))))))))
def jo n x0 x2 h0_0 h0_1 h0_2 h0_3 h0_4 h0_5 h1_0 h1_1 h1_2 h1_3 h2_0 h2_1 h2_2 h2_3 := kT n x0 x2 h0_0 h0_1 h0_2 h0_3 h0_4 h0_5 h1_0 h1_1 h1_2 h1_3 h2_0 h2_1 h2_2 h2_3 _ some
abbrev qL : PS := ⟨[6, 8], [(0, .l .u8), (2, .n), (4, .q 0 0)], some [.c 119 [.n, .n, .n, .n, .n, .n], .c 30 [.L true 3, .I true .i64, .I true .i64, .s], .c 30 [.L true 3, .I true .i64, .I true .i64, .s]], [⟨.normal, [0, 2, 4, 6, 8], [(75, .b)], [.c 119 [.n, .n, .n, .n, .n, .n], .c 30 [.L true 3, .I true .i64, .I true .i64, .s], .c 30 [.L true 3, .I true .i64, .I true .i64, .s]], none⟩], none, none⟩
def gX (n : Nat) (x0 : List Int) (x2 x9 h0_0 h0_1 h0_2 h0_3 h0_4 h0_5 : Int) (h1_0 : List (List AV)) (h1_1 h1_2 : List Int) (h1_3 : Str) (h2_0 : List (List AV)) (h2_1 h2_2 : List Int) (h2_3 : Str) (R : Type) (A_ : (List Int) → Int → Int → Int → Int → Int → Int → Int → Int → (List (List AV)) → (List Int) → (List Int) → Str → (List (List AV)) → (List Int) → (List Int) → Str → Option R) (K : W31 → Option R) : Option R := cond (decide (x9 < h0_3)) ((bJ n x0 (IntKind.i64.wrap (x2 * x9)) x2).bind fun o1092 => (cond (decide ((h2_1.length + ([o1092] : List Int).length) * 8 ≤ 140737488355328)) (cond (decide (0 ≤ (IntKind.i64.wrap ((IntKind.i64.wrap (x2 * h0_3)) + x9)))) ((x0[(IntKind.i64.wrap ((IntKind.i64.wrap (x2 * h0_3)) + x9)).toNat]?).bind fun e1094 => (cond (decide ((h2_2.length + ([IntKind.i64.wrap e1094] : List Int).length) * 8 ≤ 140737488355328)) (A_ x0 x2 (IntKind.i64.wrap (x9 + (1 : Int))) h0_0 h0_1 h0_2 h0_3 h0_4 h0_5 h1_0 h1_1 h1_2 h1_3 h2_0 (h2_1 ++ ([o1092] : List Int)) (h2_2 ++ ([IntKind.i64.wrap e1094] : List Int)) h2_3) none)) none) none)) (K (h0_0, h0_1, h0_2, h0_3, h0_4, h0_5, h1_0, h1_1, h1_2, h1_3, h2_0, h2_1, h2_2, h2_3))
def cu (n : Nat) : Nat → (List Int) → Int → Int → Int → Int → Int → Int → Int → Int → (List (List AV)) → (List Int) → (List Int) → Str → (List (List AV)) → (List Int) → (List Int) → Str → Option (W31)
 | 0, _, _, _, _, _, _, _, _, _, _, _, _, _, _, _, _, _ => none
 | m + 1, x0, x2, x9, h0_0, h0_1, h0_2, h0_3, h0_4, h0_5, h1_0, h1_1, h1_2, h1_3, h2_0, h2_1, h2_2, h2_3 => gX n x0 x2 x9 h0_0 h0_1 h0_2 h0_3 h0_4 h0_5 h1_0 h1_1 h1_2 h1_3 h2_0 h2_1 h2_2 h2_3 _ (cu n m) some
abbrev qM : PS := ⟨[6], [(0, .l .u8), (2, .n), (4, .q 0 0), (8, .q 2 0), (9, .n)], some [.c 119 [.n, .n, .n, .n, .n, .n], .c 30 [.L true 3, .I true .i64, .I true .i64, .s], .c 30 [.L true 3, .I true .i64, .I true .i64, .s]], [⟨(.exit 0), [0, 2, 4, 6, 8], [], [.c 119 [.n, .n, .n, .n, .n, .n], .c 30 [.L true 3, .I true .i64, .I true .i64, .s], .c 30 [.L true 3, .I true .i64, .I true .i64, .s]], none⟩], none, none⟩
def kU (n : Nat) (x0 : List Int) (x13 : Int) (x15 : Bool) (h0_0 h0_1 h0_2 h0_3 h0_4 h0_5 : Int) (h1_0 : List (List AV)) (h1_1 h1_2 : List Int) (h1_3 : Str) (h2_0 : List (List AV)) (h2_1 h2_2 : List Int) (h2_3 : Str) (R : Type) (K : W30 → Option R) : Option R := cond (!x15) (K (true, h0_0, h0_1, h0_2, h0_3, h0_4, h0_5, h1_0, h1_1, h1_2, h1_3, h2_0, h2_1, h2_2, h2_3)) (cond (decide (0 ≤ (IntKind.i64.wrap (x13 + (4 : Int))))) ((x0[(IntKind.i64.wrap (x13 + (4 : Int))).toNat]?).bind fun e1107 => (K (decide (e1107 > (1 : Int)), h0_0, h0_1, h0_2, h0_3, h0_4, h0_5, h1_0, h1_1, h1_2, h1_3, h2_0, h2_1, h2_2, h2_3))) none)
def nE n x0 x13 x15 h0_0 h0_1 h0_2 h0_3 h0_4 h0_5 h1_0 h1_1 h1_2 h1_3 h2_0 h2_1 h2_2 h2_3 := kU n x0 x13 x15 h0_0 h0_1 h0_2 h0_3 h0_4 h0_5 h1_0 h1_1 h1_2 h1_3 h2_0 h2_1 h2_2 h2_3 _ some
abbrev qN : PS := ⟨[4, 6, 8, 10, 11, 12, 14], [(0, .l .u8), (13, .n), (15, .b)], some [.c 119 [.n, .n, .n, .n, .n, .n], .c 30 [.L true 3, .I true .i64, .I true .i64, .s], .c 30 [.L true 3, .I true .i64, .I true .i64, .s]], [⟨.normal, [0, 4, 6, 8, 10, 11, 12, 13, 14], [(159, .b)], [.c 119 [.n, .n, .n, .n, .n, .n], .c 30 [.L true 3, .I true .i64, .I true .i64, .s], .c 30 [.L true 3, .I true .i64, .I true .i64, .s]], none⟩], none, none⟩
def gY (n : Nat) (x0 : List Int) (x10 : Int) (x11 : List Int) (x12 h0_0 h0_1 h0_2 h0_3 h0_4 h0_5 : Int) (h1_0 : List (List AV)) (h1_1 h1_2 : List Int) (h1_3 : Str) (h2_0 : List (List AV)) (h2_1 h2_2 : List Int) (h2_3 : Str) (R : Type) (A_ : (List Int) → Int → (List Int) → Int → Int → Int → Int → Int → Int → Int → (List (List AV)) → (List Int) → (List Int) → Str → (List (List AV)) → (List Int) → (List Int) → Str → Option R) (K : (W32 ⊕ W31) → Option R) : Option R := cond (decide (x12 < h0_4)) (cond (decide (0 ≤ (IntKind.i64.wrap ((IntKind.i64.wrap (x10 + (IntKind.i64.wrap ((6 : Int) * x12)))) + (5 : Int))))) ((x0[(IntKind.i64.wrap ((IntKind.i64.wrap (x10 + (IntKind.i64.wrap ((6 : Int) * x12)))) + (5 : Int))).toNat]?).bind fun e1101 => ((lZ n x11 (IntKind.i64.wrap e1101)).bind fun o1106 => ((nE n x0 (IntKind.i64.wrap (x10 + (IntKind.i64.wrap ((6 : Int) * x12)))) o1106.2 h0_0 h0_1 h0_2 h0_3 h0_4 h0_5 h1_0 h1_1 h1_2 h1_3 h2_0 h2_1 h2_2 h2_3).bind fun o1108 => (cond o1108.1 (K (Sum.inl (o1108.2.1, o1108.2.2.1, o1108.2.2.2.1, o1108.2.2.2.2.1, o1108.2.2.2.2.2.1, o1108.2.2.2.2.2.2.1, ([] : List (List AV)), ([] : List Int), ([] : List Int), o1108.2.2.2.2.2.2.2.2.2.2.2.1, o1108.2.2.2.2.2.2.2.2.2.2.2.2.1, o1108.2.2.2.2.2.2.2.2.2.2.2.2.2.1, o1108.2.2.2.2.2.2.2.2.2.2.2.2.2.2))) ((bJ n x0 (IntKind.i64.wrap (x10 + (IntKind.i64.wrap ((6 : Int) * x12)))) (4 : Int)).bind fun o1109 => (cond (decide (0 ≤ (IntKind.i64.wrap ((IntKind.i64.wrap (x10 + (IntKind.i64.wrap ((6 : Int) * x12)))) + (4 : Int))))) ((x0[(IntKind.i64.wrap ((IntKind.i64.wrap (x10 + (IntKind.i64.wrap ((6 : Int) * x12)))) + (4 : Int))).toNat]?).bind fun e1110 => (cond (decide ((o1108.2.2.2.2.2.2.2.2.2.2.2.1.length + ([[.int .i64 o1109, .bool (e1110 == (1 : Int)), .str o1106.1]] : List (List AV)).length) * 32 ≤ 140737488355328)) (A_ x0 x10 x11 (IntKind.i64.wrap (x12 + (1 : Int))) o1108.2.1 o1108.2.2.1 o1108.2.2.2.1 o1108.2.2.2.2.1 o1108.2.2.2.2.2.1 o1108.2.2.2.2.2.2.1 o1108.2.2.2.2.2.2.2.1 o1108.2.2.2.2.2.2.2.2.1 o1108.2.2.2.2.2.2.2.2.2.1 o1108.2.2.2.2.2.2.2.2.2.2.1 (o1108.2.2.2.2.2.2.2.2.2.2.2.1 ++ ([[.int .i64 o1109, .bool (e1110 == (1 : Int)), .str o1106.1]] : List (List AV))) o1108.2.2.2.2.2.2.2.2.2.2.2.2.1 o1108.2.2.2.2.2.2.2.2.2.2.2.2.2.1 o1108.2.2.2.2.2.2.2.2.2.2.2.2.2.2) none)) none)))))) none) (K (Sum.inr (h0_0, h0_1, h0_2, h0_3, h0_4, h0_5, h1_0, h1_1, h1_2, h1_3, h2_0, h2_1, h2_2, h2_3)))
def bK (n : Nat) : Nat → (List Int) → Int → (List Int) → Int → Int → Int → Int → Int → Int → Int → (List (List AV)) → (List Int) → (List Int) → Str → (List (List AV)) → (List Int) → (List Int) → Str → Option (W32 ⊕ W31)
 | 0, _, _, _, _, _, _, _, _, _, _, _, _, _, _, _, _, _, _ => none
 | m + 1, x0, x10, x11, x12, h0_0, h0_1, h0_2, h0_3, h0_4, h0_5, h1_0, h1_1, h1_2, h1_3, h2_0, h2_1, h2_2, h2_3 => gY n x0 x10 x11 x12 h0_0 h0_1 h0_2 h0_3 h0_4 h0_5 h1_0 h1_1 h1_2 h1_3 h2_0 h2_1 h2_2 h2_3 _ (bK n m) some
abbrev qO : PS := ⟨[], [(0, .l .u8), (4, .q 0 0), (6, .q 1 0), (8, .q 2 0), (10, .n), (11, .l .u8), (12, .n)], some [.c 119 [.n, .n, .n, .n, .n, .n], .c 30 [.L true 3, .I true .i64, .I true .i64, .s], .c 30 [.L true 3, .I true .i64, .I true .i64, .s]], [⟨.ret, [6], [(7, .x (.bool false))], [.c 119 [.n, .n, .n, .n, .n, .n], .c 30 [.L true 3, .I true .i64, .I true .i64, .x (.str ([] : Str))], .c 30 [.L true 3, .I true .i64, .I true .i64, .s]], none⟩, ⟨(.exit 2), [6, 8], [], [.c 119 [.n, .n, .n, .n, .n, .n], .c 30 [.L true 3, .I true .i64, .I true .i64, .s], .c 30 [.L true 3, .I true .i64, .I true .i64, .s]], none⟩], none, none⟩
theorem F8 (n : Nat) : Snd ⟨Tryz.prog, 0, 180⟩ (qN.x (nE n)) (fb Tryz.f60 156863) := iF (S := qN) (b := kU n) .a (by (repeat intro _); unfold kU; simp only [ay]) trivial
theorem F9 (n : Nat) : Snd ⟨Tryz.prog, 0, 180⟩ (qL.x (jo n)) (fb Tryz.f60 19) := iF (S := qL) (b := kT n) (.r [(57, .cl 59 (oH n))]) (by (repeat intro _); unfold kT; simp only [ay]) (ai (qK n) trivial)
theorem Ga (n : Nat) : Snd ⟨Tryz.prog, 0, 180⟩ (qM.x (cu n n)) (fb Tryz.f60 87) := kZ (S := qM) (b := gX n) (f := cu n) n (.s .a (.s (.u (.s (.d [(1, .lt), (7, .cl 99 (sQ n)), (9, .tk [84]), (11, .tk [92])] [(0, .peek [2] [2]), (1, .part [2]), (7, .part []), (10, .peek [2] [2]), (11, .part [2])]) (.d [(1, .lt), (13, .tk [95]), (15, .tk [107])] [(0, .part [2]), (1, .part [2]), (4, .part [0]), (5, .part [0]), (10, .no), (14, .part [2]), (15, .part [2])]))) .a)) (by (repeat intro _); unfold gX; simp only [ay]) (ai (wY n) trivial)
theorem Gb (n : Nat) : Snd ⟨Tryz.prog, 0, 180⟩ (qO.x (bK n n)) (fb Tryz.f60 703) := kZ (S := qO) (b := gY n) (f := bK n) n (.s .a (.s (.u (.s .a (.s (.r [(7, .cl 100 (yM n)), (10, .tk [139])]) (.s (.s (.p (qN.x (nE n))) (.s (.s (.r [(1, .tk [160])]) .a) .a)) (.d [(1, .lt), (4, .cl 99 (sQ n)), (14, .tk [162]), (16, .tk [175])] [(0, .peek [2] [2]), (1, .part [2]), (4, .part []), (9, .no), (15, .peek [2] [2]), (16, .part [2])]))))) .a)) (by (repeat intro _); unfold gY; simp only [ay]) (ai (E9 n) (ai (F8 n) (ai (wY n) trivial)))
def ko (n : Nat) (a0 : List Int) (a1 a2 a3 a4 a5 a6 a7 : Int) (R : Type) (K : W33 → Option R) : Option R := (jo n a0 a7 a1 a2 a3 a4 a5 a6 ([] : List (List AV)) ([] : List Int) ([] : List Int) ([] : Str) ([] : List (List AV)) ([] : List Int) ([] : List Int) ([] : Str)).bind fun o1089 => (cond o1089.1 (K (o1089.2.2.2.2.2.2.2.2.2.2.2.1, o1089.2.2.2.2.2.2.2.2.2.2.2.2.1, o1089.2.2.2.2.2.2.2.2.2.2.2.2.2.1, o1089.2.2.2.2.2.2.2.2.2.2.2.2.2.2, false)) ((cu n n a0 a7 (0 : Int) o1089.2.1 o1089.2.2.1 o1089.2.2.2.1 o1089.2.2.2.2.1 o1089.2.2.2.2.2.1 o1089.2.2.2.2.2.2.1 o1089.2.2.2.2.2.2.2.1 o1089.2.2.2.2.2.2.2.2.1 o1089.2.2.2.2.2.2.2.2.2.1 o1089.2.2.2.2.2.2.2.2.2.2.1 o1089.2.2.2.2.2.2.2.2.2.2.2.1 o1089.2.2.2.2.2.2.2.2.2.2.2.2.1 o1089.2.2.2.2.2.2.2.2.2.2.2.2.2.1 o1089.2.2.2.2.2.2.2.2.2.2.2.2.2.2).bind fun o1095 => (cond (decide (0 ≤ (IntKind.i64.wrap ((IntKind.i64.wrap ((IntKind.i64.wrap ((IntKind.i64.wrap (a7 + (1 : Int))) * o1095.2.2.2.1)) + (IntKind.i64.wrap ((6 : Int) * o1095.2.2.2.2.1)))) + o1095.2.2.2.2.2.1)))) (cond (decide ((IntKind.i64.wrap ((IntKind.i64.wrap ((IntKind.i64.wrap ((IntKind.i64.wrap (a7 + (1 : Int))) * o1095.2.2.2.1)) + (IntKind.i64.wrap ((6 : Int) * o1095.2.2.2.2.1)))) + o1095.2.2.2.2.2.1)) ≤ (a0.length : Int))) (cond (decide (0 ≤ (IntKind.i64.wrap ((IntKind.i64.wrap ((IntKind.i64.wrap (a7 + (1 : Int))) * o1095.2.2.2.1)) + (IntKind.i64.wrap ((6 : Int) * o1095.2.2.2.2.1)))))) (cond (decide ((IntKind.i64.wrap ((IntKind.i64.wrap ((IntKind.i64.wrap (a7 + (1 : Int))) * o1095.2.2.2.1)) + (IntKind.i64.wrap ((6 : Int) * o1095.2.2.2.2.1)))) ≤ ((IntKind.i64.wrap ((IntKind.i64.wrap ((IntKind.i64.wrap ((IntKind.i64.wrap (a7 + (1 : Int))) * o1095.2.2.2.1)) + (IntKind.i64.wrap ((6 : Int) * o1095.2.2.2.2.1)))) + o1095.2.2.2.2.2.1)).toNat : Int))) ((bK n n a0 (IntKind.i64.wrap ((IntKind.i64.wrap (a7 + (1 : Int))) * o1095.2.2.2.1)) ((a0.take (IntKind.i64.wrap ((IntKind.i64.wrap ((IntKind.i64.wrap ((IntKind.i64.wrap (a7 + (1 : Int))) * o1095.2.2.2.1)) + (IntKind.i64.wrap ((6 : Int) * o1095.2.2.2.2.1)))) + o1095.2.2.2.2.2.1)).toNat).drop (IntKind.i64.wrap ((IntKind.i64.wrap ((IntKind.i64.wrap (a7 + (1 : Int))) * o1095.2.2.2.1)) + (IntKind.i64.wrap ((6 : Int) * o1095.2.2.2.2.1)))).toNat) (0 : Int) o1095.1 o1095.2.1 o1095.2.2.1 o1095.2.2.2.1 o1095.2.2.2.2.1 o1095.2.2.2.2.2.1 o1095.2.2.2.2.2.2.1 o1095.2.2.2.2.2.2.2.1 o1095.2.2.2.2.2.2.2.2.1 o1095.2.2.2.2.2.2.2.2.2.1 o1095.2.2.2.2.2.2.2.2.2.2.1 o1095.2.2.2.2.2.2.2.2.2.2.2.1 o1095.2.2.2.2.2.2.2.2.2.2.2.2.1 o1095.2.2.2.2.2.2.2.2.2.2.2.2.2).bind fun o1111 => (Sum.elim (fun o1112 => K (o1112.2.2.2.2.2.2.1, o1112.2.2.2.2.2.2.2.1, o1112.2.2.2.2.2.2.2.2.1, ([] : Str), false)) (fun o1113 => (bP n o1113.2.2.2.2.2.2.2.2.2.2.1 o1113.2.2.2.2.2.2.2.2.2.2.2.1 o1113.2.2.2.2.2.2.2.2.2.2.2.2.1 o1113.2.2.2.2.2.2.2.2.2.2.2.2.2).bind fun o1114 => (K (o1113.2.2.2.2.2.2.2.2.2.2.1, o1113.2.2.2.2.2.2.2.2.2.2.2.1, o1113.2.2.2.2.2.2.2.2.2.2.2.2.1, o1113.2.2.2.2.2.2.2.2.2.2.2.2.2, o1114))) o1111)) none) none) none) none)))
def aQ n a0 a1 a2 a3 a4 a5 a6 a7 := ko n a0 a1 a2 a3 a4 a5 a6 a7 _ some
abbrev Cu : FS := ⟨[.l .u8, .a [.n, .n, .n, .n, .n, .n], .n], [], [([.a [.L false 3, .l .i64, .l .i64, .s], .b], [])]⟩
def uB (n : Nat) : FSpec := Cu.sp (aQ n)
theorem yl (n : Nat) : FSound Tryz.prog 60 (uB n) := fs2 (S := Cu) (b := ko n) Tryz.func60 rfl rfl [.cell 6 30 4 true, .tmp 7] (.s .a (.s .a (.s (.s (.p (qL.x (jo n))) .a) (.s (.s .a (.u (.p (qM.x (cu n n))))) (.s .a (.s .a (.s (.s .a (.u (.p (qO.x (bK n n))))) (.s (.d [(2, .cl 55 (ng n))] [(0, .peek [2] [2]), (1, .peek [2] [2]), (2, .part []), (3, .part [1])]) .a)))))))) (by (repeat intro _); unfold ko; simp only [ay]) (ai (F9 n) (ai (Ga n) (ai (Gb n) (ai (pg n) trivial))))
def dU (n : Nat) (x0 : List Int) (x5 x7 x9 : Int) (x10 : Bool) (R : Type) (K : (Bool) → Option R) : Option R := cond (!x10) (K true) (cond (x9 != x5) (K true) (K (decide ((x0.length : Int) < (IntKind.i64.wrap ((88 : Int) + x7))))))
def fG n x0 x5 x7 x9 x10 := dU n x0 x5 x7 x9 x10 _ some
abbrev qP : PS := ⟨[2, 8], [(0, .l .u8), (5, .c), (7, .n), (9, .c), (10, .b)], none, [⟨.normal, [0, 2, 7, 8], [(68, .b)], [], none⟩], none, none⟩
def kV (n : Nat) (x14 : Bool) (x15 : List Int) (h0_0 : List (List AV)) (h0_1 h0_2 : List Int) (h0_3 : Str) (h1_0 h1_1 h1_2 h1_3 h1_4 h1_5 h2_0 h2_1 h2_2 h2_3 h2_4 h2_5 : Int) (h3_0 : List (List AV)) (h3_1 h3_2 : List Int) (h3_3 : Str) (R : Type) (K : (Bool × (List (List AV)) × (List Int) × (List Int) × Str × Int × Int × Int × Int × Int × Int × Int × Int × Int × Int × Int × Int × (List (List AV)) × (List Int) × (List Int) × Str) → Option R) : Option R := cond (!x14) (K (true, h0_0, h0_1, h0_2, h0_3, h1_0, h1_1, h1_2, h1_3, h1_4, h1_5, h2_0, h2_1, h2_2, h2_3, h2_4, h2_5, h3_0, h3_1, h3_2, h3_3)) ((x15[0]?).bind fun e1120 => (cond (e1120 != (10 : Int)) (K (true, h0_0, h0_1, h0_2, h0_3, h1_0, h1_1, h1_2, h1_3, h1_4, h1_5, h2_0, h2_1, h2_2, h2_3, h2_4, h2_5, h3_0, h3_1, h3_2, h3_3)) (cond (decide (0 ≤ (IntKind.i64.wrap ((x15.length : Int) - (1 : Int))))) ((x15[(IntKind.i64.wrap ((x15.length : Int) - (1 : Int))).toNat]?).bind fun e1121 => (K (e1121 != (10 : Int), h0_0, h0_1, h0_2, h0_3, h1_0, h1_1, h1_2, h1_3, h1_4, h1_5, h2_0, h2_1, h2_2, h2_3, h2_4, h2_5, h3_0, h3_1, h3_2, h3_3))) none)))
def jq n x14 x15 h0_0 h0_1 h0_2 h0_3 h1_0 h1_1 h1_2 h1_3 h1_4 h1_5 h2_0 h2_1 h2_2 h2_3 h2_4 h2_5 h3_0 h3_1 h3_2 h3_3 := kV n x14 x15 h0_0 h0_1 h0_2 h0_3 h1_0 h1_1 h1_2 h1_3 h1_4 h1_5 h2_0 h2_1 h2_2 h2_3 h2_4 h2_5 h3_0 h3_1 h3_2 h3_3 _ some
abbrev qQ : PS := ⟨[2, 13], [(14, .b), (15, .l .u8)], some [.c 30 [.L true 3, .I true .i64, .I true .i64, .s], .c 119 [.n, .n, .n, .n, .n, .n], .c 119 [.n, .n, .n, .n, .n, .n], .c 30 [.L false 3, .l .i64, .l .i64, .s]], [⟨.normal, [2, 13, 15], [(109, .b)], [.c 30 [.L true 3, .I true .i64, .I true .i64, .s], .c 119 [.n, .n, .n, .n, .n, .n], .c 119 [.n, .n, .n, .n, .n, .n], .c 30 [.L false 3, .l .i64, .l .i64, .s]], none⟩], none, none⟩
theorem Gc (n : Nat) : Snd ⟨Tryz.prog, 0, 123⟩ (qP.x (fG n)) (fb Tryz.f31 639) := iF (S := qP) (b := dU n) .a (by (repeat intro _); unfold dU; simp only [ay]) trivial
theorem Gd (n : Nat) : Snd ⟨Tryz.prog, 0, 123⟩ (qQ.x (jq n)) (fb Tryz.f31 40959) := iF (S := qQ) (b := kV n) .a (by (repeat intro _); unfold kV; simp only [ay]) trivial
def bR (n : Nat) (a0 : List Int) (R : Type) (K : W33 → Option R) : Option R := (aS n a0 (0 : Int)).bind fun o1062 => (cond (!o1062.2.2.2.2.2.2.2) (K (([] : List (List AV)), ([] : List Int), ([] : List Int), ([] : Str), false)) ((aZ n o1062.1 o1062.2.1 o1062.2.2.1 o1062.2.2.2.1 o1062.2.2.2.2.1 o1062.2.2.2.2.2.1 (4 : Int)).bind fun o1069 => (cond (o1062.2.2.2.2.2.2.1 == (0 : Int)) (cond ((a0.length : Int) != (IntKind.i64.wrap ((44 : Int) + o1069))) (K (([] : List (List AV)), ([] : List Int), ([] : List Int), ([] : Str), false)) (cond (decide ((44 : Int) ≤ (a0.length : Int))) ((aQ n (a0.drop 44) o1062.1 o1062.2.1 o1062.2.2.1 o1062.2.2.2.1 o1062.2.2.2.2.1 o1062.2.2.2.2.2.1 (4 : Int)).bind fun o1115 => (K (o1115.1, o1115.2.1, o1115.2.2.1, o1115.2.2.2.1, o1115.2.2.2.2))) none)) (cond (decide ((IntKind.i64.wrap ((a0.length : Int) - (44 : Int))) < o1069)) (K (([] : List (List AV)), ([] : List Int), ([] : List Int), ([] : Str), false)) ((aS n a0 (IntKind.i64.wrap ((44 : Int) + o1069))).bind fun o1116 => ((fG n a0 o1062.2.2.2.2.2.2.1 o1069 o1116.2.2.2.2.2.2.1 o1116.2.2.2.2.2.2.2).bind fun o1117 => (cond o1117 (K (([] : List (List AV)), ([] : List Int), ([] : List Int), ([] : Str), false)) (cond (decide (0 ≤ (IntKind.i64.wrap ((88 : Int) + o1069)))) (cond (decide ((IntKind.i64.wrap ((88 : Int) + o1069)) ≤ (a0.length : Int))) ((aZ n o1116.1 o1116.2.1 o1116.2.2.1 o1116.2.2.2.1 o1116.2.2.2.2.1 o1116.2.2.2.2.2.1 (8 : Int)).bind fun o1118 => (cond (decide (((a0.drop (IntKind.i64.wrap ((88 : Int) + o1069)).toNat).length : Int) < (IntKind.i64.wrap (o1118 + (2 : Int))))) (K (([] : List (List AV)), ([] : List Int), ([] : List Int), ([] : Str), false)) (cond (decide (0 ≤ o1118)) (cond (decide (o1118 ≤ ((a0.drop (IntKind.i64.wrap ((88 : Int) + o1069)).toNat).length : Int))) ((aQ n (((a0.drop (IntKind.i64.wrap ((88 : Int) + o1069)).toNat).take o1118.toNat).drop 0) o1116.1 o1116.2.1 o1116.2.2.1 o1116.2.2.2.1 o1116.2.2.2.2.1 o1116.2.2.2.2.2.1 (8 : Int)).bind fun o1119 => (cond (decide (0 ≤ o1118)) (cond (decide (o1118 ≤ ((a0.drop (IntKind.i64.wrap ((88 : Int) + o1069)).toNat).length : Int))) ((jq n o1119.2.2.2.2 ((a0.drop (IntKind.i64.wrap ((88 : Int) + o1069)).toNat).drop o1118.toNat) ([] : List (List AV)) ([] : List Int) ([] : List Int) ([] : Str) o1062.1 o1062.2.1 o1062.2.2.1 o1062.2.2.2.1 o1062.2.2.2.2.1 o1062.2.2.2.2.2.1 o1116.1 o1116.2.1 o1116.2.2.1 o1116.2.2.2.1 o1116.2.2.2.2.1 o1116.2.2.2.2.2.1 o1119.1 o1119.2.1 o1119.2.2.1 o1119.2.2.2.1).bind fun o1122 => (cond o1122.1 (K (([] : List (List AV)), ([] : List Int), ([] : List Int), ([] : Str), false)) (cond (decide (0 ≤ (IntKind.i64.wrap ((((a0.drop (IntKind.i64.wrap ((88 : Int) + o1069)).toNat).drop o1118.toNat).length : Int) - (1 : Int))))) (cond (decide ((IntKind.i64.wrap ((((a0.drop (IntKind.i64.wrap ((88 : Int) + o1069)).toNat).drop o1118.toNat).length : Int) - (1 : Int))) ≤ (((a0.drop (IntKind.i64.wrap ((88 : Int) + o1069)).toNat).drop o1118.toNat).length : Int))) (cond (decide ((1 : Int) ≤ ((IntKind.i64.wrap ((((a0.drop (IntKind.i64.wrap ((88 : Int) + o1069)).toNat).drop o1118.toNat).length : Int) - (1 : Int))).toNat : Int))) ((bP n o1122.2.2.2.2.2.2.2.2.2.2.2.2.2.2.2.2.2.1 o1122.2.2.2.2.2.2.2.2.2.2.2.2.2.2.2.2.2.2.1 o1122.2.2.2.2.2.2.2.2.2.2.2.2.2.2.2.2.2.2.2.1 (yN ((((a0.drop (IntKind.i64.wrap ((88 : Int) + o1069)).toNat).drop o1118.toNat).take (IntKind.i64.wrap ((((a0.drop (IntKind.i64.wrap ((88 : Int) + o1069)).toNat).drop o1118.toNat).length : Int) - (1 : Int))).toNat).drop 1))).bind fun o1123 => (cond (!o1123) (K (([] : List (List AV)), ([] : List Int), ([] : List Int), ([] : Str), false)) (K (o1122.2.2.2.2.2.2.2.2.2.2.2.2.2.2.2.2.2.1, o1122.2.2.2.2.2.2.2.2.2.2.2.2.2.2.2.2.2.2.1, o1122.2.2.2.2.2.2.2.2.2.2.2.2.2.2.2.2.2.2.2.1, yN ((((a0.drop (IntKind.i64.wrap ((88 : Int) + o1069)).toNat).drop o1118.toNat).take (IntKind.i64.wrap ((((a0.drop (IntKind.i64.wrap ((88 : Int) + o1069)).toNat).drop o1118.toNat).length : Int) - (1 : Int))).toNat).drop 1), true)))) none) none) none))) none) none)) none) none))) none) none))))))))
def aj n a0 := bR n a0 _ some
abbrev Cv : FS := ⟨[.l .u8], [], [([.a [.L false 3, .l .i64, .l .i64, .s], .b], [])]⟩
def AR (n : Nat) : FSpec := Cv.sp (aj n)
theorem Ip (n : Nat) : FSound Tryz.prog 31 (AR n) := fs2 (S := Cv) (b := bR n) Tryz.func31 rfl rfl [.cell 2 30 4 true, .tmp 3] (.s .a (.s (.r [(1, .cl 58 (sP n)), (5, .tk [16])]) (.s (.s .a (.s (.s (.r [(1, .tk [24])]) .a) .a)) (.s (.r [(1, .cl 59 (oH n))]) (.s (.s .a (.s (.s (.s .a (.s (.s (.r [(1, .tk [34])]) .a) .a)) (.s (.d [(3, .cl 60 (uB n))] [(2, .peek [1] [1]), (3, .part []), (6, .part [0])]) .a)) .a)) (.s (.s .a (.s (.s (.r [(1, .tk [46])]) .a) .a)) (.s (.r [(3, .cl 58 (sP n)), (7, .tk [47])]) (.s (.s (.p (qP.x (fG n))) (.s (.s (.r [(1, .tk [69])]) .a) .a)) (.s .a (.s (.r [(1, .cl 59 (oH n))]) (.s (.s .a (.s (.s (.r [(1, .tk [81])]) .a) .a)) (.s (.d [(4, .cl 60 (uB n))] [(3, .peek [2] [2]), (4, .part []), (8, .new 3), (9, .part [3])]) (.s .a (.s (.s (.p (qQ.x (jq n))) (.s (.s (.r [(1, .tk [110])]) .a) .a)) (.s .a (.s (.s (.r [(1, .cl 55 (ng n))]) (.s (.s (.r [(1, .tk [121])]) .a) .a)) .a)))))))))))))))) (by (repeat intro _); unfold bR; simp only [ay]) (ai (wX n) (ai (qK n) (ai (yl n) (ai (wX n) (ai (Gc n) (ai (qK n) (ai (yl n) (ai (Gd n) (ai (pg n) trivial)))))))))
def jA (n : Nat) (x1 : List Int) (h0_0 : List (List AV)) (h0_1 h0_2 : List Int) (h0_3 : Str) (R : Type) (K : W0 → Option R) : Option R := cond (decide ((h0_0.length : Int) > (40 : Int))) (K (true, h0_0, h0_1, h0_2, h0_3)) (cond (decide ((h0_1.length : Int) > (300 : Int))) (K (true, h0_0, h0_1, h0_2, h0_3)) (cond (decide ((h0_2.length : Int) > (300 : Int))) (K (true, h0_0, h0_1, h0_2, h0_3)) (cond (decide ((h0_3.length : Int) > (200 : Int))) (K (true, h0_0, h0_1, h0_2, h0_3)) (K (decide ((x1.length : Int) > (3000 : Int)), h0_0, h0_1, h0_2, h0_3)))))
def gZ n x1 h0_0 h0_1 h0_2 h0_3 := jA n x1 h0_0 h0_1 h0_2 h0_3 _ some
abbrev oJ : PS := ⟨[], [(1, .l .u8), (2, .q 0 0)], some [.c 26 [.L false 3, .l .i64, .l .i64, .s]], [⟨.normal, [1, 2], [(41, .b)], [.c 26 [.L false 3, .l .i64, .l .i64, .s]], none⟩], none, none⟩
def jB (n : Nat) (x6 x8 : Int) (R : Type) (K : (Bool) → Option R) : Option R := cond (x6 != x8) (K true) (K (!(false == (x8 == (0 : Int)))))
def kW n x6 x8 := jB n x6 x8 _ some
abbrev oK : PS := ⟨[1], [(5, .x (.ptr none)), (6, .n), (8, .n)], none, [⟨.normal, [1], [(63, .b)], [], none⟩], none, none⟩
def jC (n : Nat) (x10 : Int) (R : Type) (K : (Bool) → Option R) : Option R := cond (x10 == (60 : Int)) ((aD n ).bind fun o1125 => (K o1125)) (K false)
def cK n x10 := jC n x10 _ some
abbrev oL : PS := ⟨[], [(9, .x (.ptr none)), (10, .n)], none, [⟨.normal, [], [(4, .b)], [], none⟩], none, none⟩
def mM (n : Nat) (x10 : Int) (R : Type) (K : (Unit) → Option R) : Option R := cond (x10 == (60 : Int)) (K ()) (K ())
def aR n x10 := mM n x10 _ some
abbrev mO : PS := ⟨[], [(9, .q 4 0), (10, .n)], none, [⟨.normal, [], [(4, .x (.bool false))], [], none⟩], none, none⟩
def mP (n : Nat) (x6 x8 : Int) (R : Type) (K : (Bool) → Option R) : Option R := cond (x6 != x8) (K true) (K (!(true == (x8 == (0 : Int)))))
def jD n x6 x8 := mP n x6 x8 _ some
abbrev mQ : PS := ⟨[1], [(5, .q 1 0), (6, .n), (8, .n)], none, [⟨.normal, [1], [(63, .b)], [], none⟩], none, none⟩
theorem ED (n : Nat) : Snd ⟨Tryz.prog, 0, 103⟩ (oJ.x (gZ n)) (fb Tryz.f7 9) := iF (S := oJ) (b := jA n) .a (by (repeat intro _); unfold jA; simp only [ay]) trivial
theorem EE (n : Nat) : Snd ⟨Tryz.prog, 0, 103⟩ (oK.x (kW n)) (fb Tryz.f7 79) := iF (S := oK) (b := jB n) .a (by (repeat intro _); unfold jB; simp only [ay]) trivial
theorem EF (n : Nat) : Snd ⟨Tryz.prog, 0, 103⟩ (oL.x (cK n)) (fb Tryz.f7 2431) := iF (S := oL) (b := jC n) (.r [(7, .cl 10 (nA n))]) (by (repeat intro _); unfold jC; simp only [ay]) (ai (pu n) trivial)
theorem CE (n : Nat) : Snd ⟨Tryz.prog, 0, 103⟩ (mO.x (aR n)) (fb Tryz.f7 2431) := iF (S := mO) (b := mM n) .a (by (repeat intro _); unfold mM; simp only [ay]) trivial
theorem CF (n : Nat) : Snd ⟨Tryz.prog, 0, 103⟩ (mQ.x (jD n)) (fb Tryz.f7 79) := iF (S := mQ) (b := mP n) .a (by (repeat intro _); unfold mP; simp only [ay]) trivial
def l5 (n : Nat) (a0 : List (List AV)) (a1 a2 : List Int) (a3 : Str) (a4 : List Int) (R : Type) (K : Bool → Option R) : Option R := (gZ n a4 a0 a1 a2 a3).bind fun o895 => (cond o895.1 ((aD n ).bind fun o896 => (K o896)) ((sj n o895.2.1 o895.2.2.1 o895.2.2.2.1 o895.2.2.2.2).bind fun o897 => (Sum.elim (fun o898 => (gD n o895.2.1 o895.2.2.1 o895.2.2.2.1 o895.2.2.2.2).bind fun o900 => ((aC n o900.1 o900.2.1 o900.2.2.1 o900.2.2.2).bind fun o901 => ((kW n o898 o901.2.2.2.2.2.2.2.2.2.2.2.2.2.2.2.2.2.2.2).bind fun o902 => (cond o902 (K false) ((rJ n a4).bind fun o1049 => (Sum.elim (fun o1050 => (aj n a4).bind fun o1124 => (cond (!o1124.2.2.2.2) ((cK n o1050).bind fun o1126 => (K o1126)) ((aC n o1124.1 o1124.2.1 o1124.2.2.1 o1124.2.2.2.1).bind fun o1127 => (cond (o1050 == o1127.2.2.2.2.2.2.2.2.2.2.2.2.2.2.2.2.2.2.2) (cond (false == (o1127.2.2.2.2.2.2.2.2.2.2.2.2.2.2.2.2.2.2.2 == (0 : Int))) ((aD n ).bind fun o1128 => (K o1128)) (K false)) (K false))))) (fun o1051 => Sum.elim (fun o1129 => (aj n a4).bind fun o1131 => (cond (!o1131.2.2.2.2) ((aR n (0 : Int)).bind fun o1132 => (K false)) ((aC n o1131.1 o1131.2.1 o1131.2.2.1 o1131.2.2.2.1).bind fun o1133 => (cond ((0 : Int) == o1133.2.2.2.2.2.2.2.2.2.2.2.2.2.2.2.2.2.2.2) (cond (true == (o1133.2.2.2.2.2.2.2.2.2.2.2.2.2.2.2.2.2.2.2 == (0 : Int))) ((aD n ).bind fun o1134 => (K o1134)) (K false)) (K false))))) (fun o1130 => (aj n a4).bind fun o1135 => (cond (!o1135.2.2.2.2) ((aR n (0 : Int)).bind fun o1136 => (K false)) ((aC n o1135.1 o1135.2.1 o1135.2.2.1 o1135.2.2.2.1).bind fun o1137 => (cond ((0 : Int) == o1137.2.2.2.2.2.2.2.2.2.2.2.2.2.2.2.2.2.2.2) (cond (true == (o1137.2.2.2.2.2.2.2.2.2.2.2.2.2.2.2.2.2.2.2 == (0 : Int))) ((aD n ).bind fun o1138 => (K o1138)) (K false)) (K false))))) o1051) o1049)))))) (fun o899 => Sum.elim (fun o1139 => (gD n o895.2.1 o895.2.2.1 o895.2.2.2.1 o895.2.2.2.2).bind fun o1141 => ((aC n o1141.1 o1141.2.1 o1141.2.2.1 o1141.2.2.2).bind fun o1142 => ((jD n (0 : Int) o1142.2.2.2.2.2.2.2.2.2.2.2.2.2.2.2.2.2.2.2).bind fun o1143 => (cond o1143 (K false) ((rJ n a4).bind fun o1144 => (Sum.elim (fun o1145 => (aj n a4).bind fun o1147 => (cond (!o1147.2.2.2.2) ((cK n o1145).bind fun o1148 => (K o1148)) ((aC n o1147.1 o1147.2.1 o1147.2.2.1 o1147.2.2.2.1).bind fun o1149 => (cond (o1145 == o1149.2.2.2.2.2.2.2.2.2.2.2.2.2.2.2.2.2.2.2) (cond (false == (o1149.2.2.2.2.2.2.2.2.2.2.2.2.2.2.2.2.2.2.2 == (0 : Int))) ((aD n ).bind fun o1150 => (K o1150)) (K false)) (K false))))) (fun o1146 => Sum.elim (fun o1151 => (aj n a4).bind fun o1153 => (cond (!o1153.2.2.2.2) ((aR n (0 : Int)).bind fun o1154 => (K false)) ((aC n o1153.1 o1153.2.1 o1153.2.2.1 o1153.2.2.2.1).bind fun o1155 => (cond ((0 : Int) == o1155.2.2.2.2.2.2.2.2.2.2.2.2.2.2.2.2.2.2.2) (cond (true == (o1155.2.2.2.2.2.2.2.2.2.2.2.2.2.2.2.2.2.2.2 == (0 : Int))) ((aD n ).bind fun o1156 => (K o1156)) (K false)) (K false))))) (fun o1152 => (aj n a4).bind fun o1157 => (cond (!o1157.2.2.2.2) ((aR n (0 : Int)).bind fun o1158 => (K false)) ((aC n o1157.1 o1157.2.1 o1157.2.2.1 o1157.2.2.2.1).bind fun o1159 => (cond ((0 : Int) == o1159.2.2.2.2.2.2.2.2.2.2.2.2.2.2.2.2.2.2.2) (cond (true == (o1159.2.2.2.2.2.2.2.2.2.2.2.2.2.2.2.2.2.2.2 == (0 : Int))) ((aD n ).bind fun o1160 => (K o1160)) (K false)) (K false))))) o1146) o1144)))))) (fun o1140 => (gD n o895.2.1 o895.2.2.1 o895.2.2.2.1 o895.2.2.2.2).bind fun o1161 => ((aC n o1161.1 o1161.2.1 o1161.2.2.1 o1161.2.2.2).bind fun o1162 => ((jD n (0 : Int) o1162.2.2.2.2.2.2.2.2.2.2.2.2.2.2.2.2.2.2.2).bind fun o1163 => (cond o1163 (K false) ((rJ n a4).bind fun o1164 => (Sum.elim (fun o1165 => (aj n a4).bind fun o1167 => (cond (!o1167.2.2.2.2) ((cK n o1165).bind fun o1168 => (K o1168)) ((aC n o1167.1 o1167.2.1 o1167.2.2.1 o1167.2.2.2.1).bind fun o1169 => (cond (o1165 == o1169.2.2.2.2.2.2.2.2.2.2.2.2.2.2.2.2.2.2.2) (cond (false == (o1169.2.2.2.2.2.2.2.2.2.2.2.2.2.2.2.2.2.2.2 == (0 : Int))) ((aD n ).bind fun o1170 => (K o1170)) (K false)) (K false))))) (fun o1166 => Sum.elim (fun o1171 => (aj n a4).bind fun o1173 => (cond (!o1173.2.2.2.2) ((aR n (0 : Int)).bind fun o1174 => (K false)) ((aC n o1173.1 o1173.2.1 o1173.2.2.1 o1173.2.2.2.1).bind fun o1175 => (cond ((0 : Int) == o1175.2.2.2.2.2.2.2.2.2.2.2.2.2.2.2.2.2.2.2) (cond (true == (o1175.2.2.2.2.2.2.2.2.2.2.2.2.2.2.2.2.2.2.2 == (0 : Int))) ((aD n ).bind fun o1176 => (K o1176)) (K false)) (K false))))) (fun o1172 => (aj n a4).bind fun o1177 => (cond (!o1177.2.2.2.2) ((aR n (0 : Int)).bind fun o1178 => (K false)) ((aC n o1177.1 o1177.2.1 o1177.2.2.1 o1177.2.2.2.1).bind fun o1179 => (cond ((0 : Int) == o1179.2.2.2.2.2.2.2.2.2.2.2.2.2.2.2.2.2.2.2) (cond (true == (o1179.2.2.2.2.2.2.2.2.2.2.2.2.2.2.2.2.2.2.2 == (0 : Int))) ((aD n ).bind fun o1180 => (K o1180)) (K false)) (K false))))) o1166) o1164)))))) o899) o897)))
def iN n a0 a1 a2 a3 a4 := l5 n a0 a1 a2 a3 a4 _ some
abbrev zy : FS := ⟨[.a [.L false 3, .l .i64, .l .i64, .s], .l .u8], [], [([.b], [])]⟩
def IR (n : Nat) : FSpec := zy.sp (iN n)
theorem Fa (n : Nat) : FSound Tryz.prog 7 (IR n) := fs2 (S := zy) (b := l5 n) Tryz.func7 rfl rfl [.tmp 4] (.s .a (.s (.s (.p (oJ.x (gZ n))) (.s (.s (.r [(0, .cl 10 (nA n))]) .a) .a)) (.s (.r [(1, .cl 27 (I7 n)), (4, .tk [43])]) (.s (.r [(1, .cl 29 (Am n)), (2, .cl 28 (wD n)), (5, .tk [48])]) (.s (.s (.p (ac0 (some 5) 11 (oK.x (kW n)) (mQ.x (jD n)))) .a) (.s (.r [(1, .cl 30 (Pz n)), (4, .tk [64])]) (.s (.r [(1, .cl 31 (AR n)), (4, .tk [69])]) (.s (.s .a (.s (.s (.p (ac0 (some 9) 11 (oL.x (cK n)) (mO.x (aR n)))) .a) .a)) (.s (.r [(1, .cl 28 (wD n)), (4, .tk [85])]) (.s (.r [(11, .cl 10 (nA n))]) .a)))))))))) (by (repeat intro _); unfold l5; simp only [ay]) (ai (ED n) (ai (pu n) (ai (He n) (ai (Hf n) (ai (zf n) (ai (YN (i := (some 5)) (n := 11) (EE n) (CF n)) (ai (Rj n) (ai (Ip n) (ai (YN (i := (some 9)) (n := 11) (EF n) (CE n)) (ai (zf n) (ai (pu n) trivial)))))))))))
end Go.Proofs.YtiegmpnagcdgoaaGreatDoor.H
namespace Go.Sh
open Go.RowKit
set_option linter.unusedSimpArgs false
theorem aa {α : Type} {p : Prop} [Decidable p] (h : p) (x y : α) : cond (decide p) x y = x := by rw [decide_eq_true h]; rfl
theorem af {α : Type} {p : Prop} [Decidable p] (h : ¬p) (x y : α) : cond (decide p) x y = y := by rw [decide_eq_false h]; rfl
theorem pK (i : Nat) (h : i < 9223372036854775807) : IntKind.i64.wrap ((i : Int) + 1) = ((i + 1 : Nat) : Int) := by
 rw [IntWalk.i64_in _ (by omega)]
 omega
theorem Iq {p : Nat → Prop} [DecidablePred p] (h : ((List.range 256).all fun x => decide (p x)) = true) (b : UInt8) : p b.toNat :=
 of_decide_eq_true (List.all_eq_true.1 h _ (List.mem_range.2 b.toNat_lt))
theorem acd (c d : UInt8) : ((c.toNat : Int) == (d.toNat : Int)) = (c == d) := by
 rw [Bool.eq_iff_iff, beq_iff_eq, beq_iff_eq]
 constructor
 ·intro h
  exact UInt8.toNat_inj.1 (by omega)
 ·intro h
  rw [h]
theorem MJ (c d : UInt8) : ((c.toNat : Int) != (d.toNat : Int)) = (c != d) := by rw [bne, bne, acd]
theorem QZ (c : UInt8) (s : Str) : dN (c :: s) = (c.toNat : Int) :: dN s := rfl
theorem NM (s : Str) : (dN s).length = s.length := by simp [dN]
theorem dV {α : Type} {s r : List α} {i : Nat} {c : α} (h : s.drop i = c :: r) : s[i]? = some c ∧ s.drop (i + 1) = r ∧ i < s.length := by
 have hi : i < s.length := by
  by_cases hi : i < s.length
  ·exact hi
  ·rw [List.drop_eq_nil_of_le (by omega)] at h; cases h
 rw [List.drop_eq_getElem_cons hi] at h
 injection h with h1 h2
 exact ⟨by rw [List.getElem?_eq_getElem hi, h1], h2, hi⟩
theorem drop_nil {α : Type} {s : List α} {i : Nat} (h : s.drop i = []) : s.length ≤ i := by simpa using h
end Go.Sh
namespace Go.Proofs.YtiegmpnagcdgoaaGreatDoor.H
open Go.Sh Go.RowKit
set_option linter.unusedSimpArgs false
set_option linter.unusedVariables false
def iw (b : UInt8) : Bool := (65 ≤ b && b ≤ 90) || (97 ≤ b && b ≤ 122)
def dM (b : UInt8) : Bool := 48 ≤ b && b ≤ 57
def Lx (b : UInt8) : Bool := iw b || dM b || b == 43 || b == 45
def wZ (b : UInt8) : Bool := b != 62
theorem Yo (n : Nat) (b : UInt8) : vT n (b.toNat : Int) = some (iw b) := by
 have h := Iq (p := fun x => vT 0 (x : Int) = some (iw (UInt8.ofNat x))) (by decide +kernel) b
 rw [UInt8.ofNat_toNat] at h
 exact h
theorem aas (n : Nat) (b : UInt8) : xu n (b.toNat : Int) = some (dM b) := by
 have h := Iq (p := fun x => xu 0 (x : Int) = some (dM (UInt8.ofNat x))) (by decide +kernel) b
 rw [UInt8.ofNat_toNat] at h
 exact h
theorem ace (n : Nat) (b : UInt8) : nR n (b.toNat : Int) = some (wZ b) := by
 have h := Iq (p := fun x => nR 0 (x : Int) = some (wZ (UInt8.ofNat x))) (by decide +kernel) b
 rw [UInt8.ofNat_toNat] at h
 exact h
theorem aat (n : Nat) (b : UInt8) : Bu n (b.toNat : Int) = some (!Lx b) := by
 have h := Iq (p := fun x => Bu 0 (x : Int) = some (!Lx (UInt8.ofNat x))) (by decide +kernel) b
 rw [UInt8.ofNat_toNat] at h
 exact h
theorem adF (b : UInt8) (hb : b.toNat < 128) : (Utf8.encode (IntKind.i32.wrap (b.toNat : Int))).data.toList = [b] := by
 have h := Iq (p := fun x => x < 128 → (Utf8.encode (IntKind.i32.wrap (x : Int))).data.toList = [UInt8.ofNat x]) (by decide +kernel) b hb
 rw [UInt8.ofNat_toNat] at h
 exact h
def aB (c : UInt8) : Str → Bool × Str
 | [] => (false, [])
 | x :: r => if x = c then (true, r) else (false, x :: r)
theorem gu (c : UInt8) (r : Str) : (aB c r).2.length ≤ r.length := by
 cases r with
 | nil => simp [aB]
 | cons x r => by_cases h : x = c <;> simp [aB, h]
theorem Gf (n : Nat) (a : Int) (c : UInt8) (r : Str) (b : Bool) (ha : a = (c.toNat : Int) := by rfl) (hc : c.toNat < 128 := by decide) : bC n a r b = some ((aB c r).1, (aB c r).2, b) := by
 subst ha
 unfold bC tF yO
 rw [adF c hc]
 cases r with
 | nil => rfl
 | cons x r =>
  have hp : Lib.hasPrefix (x :: r) [c] = (c == x) := by simp [Lib.hasPrefix, List.isPrefixOf]
  by_cases h : x = c
  ·subst h; simp [aB, Lib.trimPrefix, hp]
  ·simp [aB, Lib.trimPrefix, hp, h, Ne.symm h]
theorem MK (n : Nat) (a : Int) (c : UInt8) (r : Str) (b : Bool) (ha : a = (c.toNat : Int) := by rfl) (hc : c.toNat < 128 := by decide) : dP n a r b = some ((aB c r).2, b || !(aB c r).1) := by
 unfold dP qZ
 rw [Gf n a c r b ha hc]
 cases h : (aB c r).1 <;> cases b <;> simp [h]
theorem WU (n : Nat) (x1 : Nat) (s : Str) (b : Bool) (hs : s.length < 9223372036854775808) : ∀ (m i : Nat), s.length - i < m → i ≤ s.length →
 fQ n m (x1 : Int) (i : Int) s b = some (((i + (((s.drop i).take (x1 - i)).takeWhile wZ).length : Nat) : Int), s, b)
 | 0, i, hm, _ => by omega
 | m + 1, i, hm, hi => by
  rw [fQ, nT, qY, nS]
  cases hd : s.drop i with
  | nil =>
   have := drop_nil hd
   rw [af (by omega)]
   simp
  | cons c r =>
   obtain ⟨h1, h2, h3⟩ := dV hd
   rw [aa (by omega)]
   by_cases hx : i < x1
   ·rw [aa (by omega), aa (by omega), Int.toNat_natCast, h1]
    simp only [Option.bind_some, ace]
    obtain ⟨k, hk⟩ : ∃ k, x1 - i = k + 1 := ⟨x1 - i - 1, by omega⟩
    rw [hk, List.take_succ_cons]
    cases hc : wZ c with
    | false => rw [List.takeWhile_cons_of_neg (by simp [hc])]; simp
    | true =>
     rw [List.takeWhile_cons_of_pos (by simp [hc]), cond_true, pK i (by omega), WU n x1 s b hs m (i + 1) (by omega) (by omega), h2, show x1 - (i + 1) = k by omega]
     refine congrArg some (Prod.ext (congrArg (fun z : Nat => (z : Int)) ?_) rfl)
     simp only [List.length_cons]
     omega
   ·rw [af (by omega)]
    simp [show x1 - i = 0 by omega]
theorem Uq (n : Nat) (x1 : Nat) (s : Str) (b : Bool) (hs : s.length < 9223372036854775808) : ∀ (m i : Nat), s.length - i < m → i ≤ s.length →
 dW n m (x1 : Int) (i : Int) s b = some (((i + (((s.drop i).take (x1 - i)).takeWhile iw).length : Nat) : Int), s, b)
 | 0, i, hm, _ => by omega
 | m + 1, i, hm, hi => by
  rw [dW, lI, nU, lH]
  cases hd : s.drop i with
  | nil =>
   have := drop_nil hd
   rw [af (by omega)]
   simp
  | cons c r =>
   obtain ⟨h1, h2, h3⟩ := dV hd
   rw [aa (by omega)]
   by_cases hx : i < x1
   ·rw [aa (by omega), aa (by omega), Int.toNat_natCast, h1]
    simp only [Option.bind_some, Yo]
    obtain ⟨k, hk⟩ : ∃ k, x1 - i = k + 1 := ⟨x1 - i - 1, by omega⟩
    rw [hk, List.take_succ_cons]
    cases hc : iw c with
    | false => rw [List.takeWhile_cons_of_neg (by simp [hc])]; simp
    | true =>
     rw [List.takeWhile_cons_of_pos (by simp [hc]), cond_true, pK i (by omega), Uq n x1 s b hs m (i + 1) (by omega) (by omega), h2, show x1 - (i + 1) = k by omega]
     refine congrArg some (Prod.ext (congrArg (fun z : Nat => (z : Int)) ?_) rfl)
     simp only [List.length_cons]
     omega
   ·rw [af (by omega)]
    simp [show x1 - i = 0 by omega]
theorem Ur (n : Nat) (x1 : Nat) (s : Str) (b : Bool) (hs : s.length < 9223372036854775808) : ∀ (m i : Nat), s.length - i < m → i ≤ s.length →
 dX n m (x1 : Int) (i : Int) s b = some (((i + (((s.drop i).take (x1 - i)).takeWhile dM).length : Nat) : Int), s, b)
 | 0, i, hm, _ => by omega
 | m + 1, i, hm, hi => by
  rw [dX, lK, nV, lJ]
  cases hd : s.drop i with
  | nil =>
   have := drop_nil hd
   rw [af (by omega)]
   simp
  | cons c r =>
   obtain ⟨h1, h2, h3⟩ := dV hd
   rw [aa (by omega)]
   by_cases hx : i < x1
   ·rw [aa (by omega), aa (by omega), Int.toNat_natCast, h1]
    simp only [Option.bind_some, aas]
    obtain ⟨k, hk⟩ : ∃ k, x1 - i = k + 1 := ⟨x1 - i - 1, by omega⟩
    rw [hk, List.take_succ_cons]
    cases hc : dM c with
    | false => rw [List.takeWhile_cons_of_neg (by simp [hc])]; simp
    | true =>
     rw [List.takeWhile_cons_of_pos (by simp [hc]), cond_true, pK i (by omega), Ur n x1 s b hs m (i + 1) (by omega) (by omega), h2, show x1 - (i + 1) = k by omega]
     refine congrArg some (Prod.ext (congrArg (fun z : Nat => (z : Int)) ?_) rfl)
     simp only [List.length_cons]
     omega
   ·rw [af (by omega)]
    simp [show x1 - i = 0 by omega]
def jc (p : UInt8 → Bool) (k : Nat) (s : Str) : Str := (s.take k).takeWhile p
theorem M9 (p : UInt8 → Bool) (k : Nat) (s : Str) : s.take (jc p k s).length = jc p k s := by
 have h : jc p k s <+: s := (List.takeWhile_prefix p).trans (List.take_prefix k s)
 exact (List.prefix_iff_eq_take.1 h).symm
theorem ym (p : UInt8 → Bool) (k : Nat) (s : Str) : (jc p k s).length ≤ s.length ∧ (jc p k s).length ≤ k := by
 have h := (List.takeWhile_prefix p (l := s.take k)).length_le
 rw [List.length_take] at h
 unfold jc
 omega
theorem WV (p : UInt8 → Bool) (k : Nat) (s : Str) : (jc p k s).all p = true := by
 exact List.all_takeWhile
theorem adG (n k : Nat) (s : Str) (b : Bool) (hs : s.length < 9223372036854775808) (hn : s.length < n) : tJ n (k : Int) s b = some (jc wZ k s, s.drop (jc wZ k s).length, b) := by
 have hl := ym wZ k s
 unfold tJ tH
 have h := WU n k s b hs n 0 (by omega) (by omega)
 simp only [List.drop_zero, Nat.sub_zero, Nat.zero_add] at h
 rw [show (0 : Int) = ((0 : Nat) : Int) from rfl, h]
 simp only [Option.bind_some]
 change cond (decide ((0 : Int) ≤ ((jc wZ k s).length : Int))) (cond (decide (((jc wZ k s).length : Int) ≤ (s.length : Int))) _ _) _ = _
 rw [aa (by omega), aa (by omega)]
 change cond (decide ((0 : Int) ≤ ((jc wZ k s).length : Int))) (cond (decide (((jc wZ k s).length : Int) ≤ (s.length : Int))) (some ((s.take ((jc wZ k s).length : Int).toNat).drop 0, s.drop ((jc wZ k s).length : Int).toNat, b)) _) _ = _
 rw [aa (by omega), aa (by omega), Int.toNat_natCast, M9, List.drop_zero]
theorem acf (n k : Nat) (s : Str) (b : Bool) (hs : s.length < 9223372036854775808) (hn : s.length < n) : pQ n (k : Int) s b = some (jc iw k s, s.drop (jc iw k s).length, b) := by
 have hl := ym iw k s
 unfold pQ pO
 have h := Uq n k s b hs n 0 (by omega) (by omega)
 simp only [List.drop_zero, Nat.sub_zero, Nat.zero_add] at h
 rw [show (0 : Int) = ((0 : Nat) : Int) from rfl, h]
 simp only [Option.bind_some]
 change cond (decide ((0 : Int) ≤ ((jc iw k s).length : Int))) (cond (decide (((jc iw k s).length : Int) ≤ (s.length : Int))) _ _) _ = _
 rw [aa (by omega), aa (by omega)]
 change cond (decide ((0 : Int) ≤ ((jc iw k s).length : Int))) (cond (decide (((jc iw k s).length : Int) ≤ (s.length : Int))) (some ((s.take ((jc iw k s).length : Int).toNat).drop 0, s.drop ((jc iw k s).length : Int).toNat, b)) _) _ = _
 rw [aa (by omega), aa (by omega), Int.toNat_natCast, M9, List.drop_zero]
theorem acg (n k : Nat) (s : Str) (b : Bool) (hs : s.length < 9223372036854775808) (hn : s.length < n) : pV n (k : Int) s b = some (jc dM k s, s.drop (jc dM k s).length, b) := by
 have hl := ym dM k s
 unfold pV pU
 have h := Ur n k s b hs n 0 (by omega) (by omega)
 simp only [List.drop_zero, Nat.sub_zero, Nat.zero_add] at h
 rw [show (0 : Int) = ((0 : Nat) : Int) from rfl, h]
 simp only [Option.bind_some]
 change cond (decide ((0 : Int) ≤ ((jc dM k s).length : Int))) (cond (decide (((jc dM k s).length : Int) ≤ (s.length : Int))) _ _) _ = _
 rw [aa (by omega), aa (by omega)]
 change cond (decide ((0 : Int) ≤ ((jc dM k s).length : Int))) (cond (decide (((jc dM k s).length : Int) ≤ (s.length : Int))) (some ((s.take ((jc dM k s).length : Int).toNat).drop 0, s.drop ((jc dM k s).length : Int).toNat, b)) _) _ = _
 rw [aa (by omega), aa (by omega), Int.toNat_natCast, M9, List.drop_zero]
theorem SA (n : Nat) (s : Str) (hs : s.length < 9223372036854775808) : ∀ (m i : Nat), s.length - i < m →
 ∃ o, bu n m (dN s) (s.length : Int) (i : Int) = some o ∧ ((s.drop i).all Lx = true → o = Sum.inr ()) ∧ ((s.drop i).all Lx = false → ∃ j : Nat, o = Sum.inl (j : Int))
 | 0, i, hm => by omega
 | m + 1, i, hm => by
  rw [bu, eD]
  cases hd : s.drop i with
  | nil =>
   have := drop_nil hd
   rw [af (by omega)]
   exact ⟨_, rfl, by simp⟩
  | cons c r =>
   obtain ⟨h1, h2, h3⟩ := dV hd
   have h4 : (dN s)[i]? = some (c.toNat : Int) := by simp [dN, h1]
   rw [aa (by omega), aa (by omega), Int.toNat_natCast, h4]
   simp only [Option.bind_some, aat, List.all_cons]
   rcases Bool.eq_false_or_eq_true (Lx c) with hc | hc
   ·rw [hc, Bool.not_true, cond_false, pK i (by omega)]
    obtain ⟨o, h5, h6⟩ := SA n s hs m (i + 1) (by omega)
    rw [h2] at h6
    exact ⟨o, h5, by simpa using h6⟩
   ·rw [hc]
    exact ⟨_, rfl, by simp, fun _ => ⟨i, rfl⟩⟩
def sS (s : Str) : Bool := decide (3 ≤ s.length) && decide (s.length ≤ 10) && s.all Lx
theorem adH (n : Nat) (s : Str) (hs : s.length < 9223372036854775808) (hn : s.length < n) : FJ n s = some (s.all Lx) := by
 unfold FJ FI jF eF ll gz
 obtain ⟨o, h1, h2, h3⟩ := SA n s hs n 0 (by omega)
 rw [NM, show (0 : Int) = ((0 : Nat) : Int) from rfl, h1]
 rw [List.drop_zero] at h2 h3
 rcases Bool.eq_false_or_eq_true (s.all Lx) with h | h
 ·rw [h2 h, h]; rfl
 ·obtain ⟨j, rfl⟩ := h3 h
  rw [h]
  simp
theorem PD (n : Nat) (s : Str) (hs : s.length < 9223372036854775808) (hn : s.length < n) : wu n s = some (sS s) := by
 unfold wu DR sS
 rw [adH n s hs hn]
 by_cases h1 : 3 ≤ s.length
 ·rw [aa (by omega)]
  by_cases h2 : s.length ≤ 10
  ·rw [aa (by omega)]; simp [h1, h2]
  ·rw [af (by omega)]; simp [h1, h2]
 ·rw [af (by omega)]; simp [h1]
def aF (r : Str) : Str × Str × Bool :=
 let e := aB 60 r
 if e.1 = true then
  let w := jc wZ e.2.length e.2
  let f := aB 62 (e.2.drop w.length)
  (w, f.2, !f.1 || !sS w)
 else
  let w := jc iw e.2.length e.2
  (w, e.2.drop w.length, !sS w)
theorem Qn (r : Str) : (aF r).2.1.length ≤ r.length := by
 have h1 := gu 60 r
 unfold aF
 dsimp only
 split
 ·have h2 := gu 62 ((aB 60 r).2.drop (jc wZ (aB 60 r).2.length (aB 60 r).2).length)
  simp only [List.length_drop] at h2
  dsimp only
  omega
 ·simp only [List.length_drop]; omega
theorem Us (n : Nat) (r : Str) (b : Bool) (hs : r.length < 9223372036854775808) (hn : r.length < n) : ma n r b = some ((aF r).1, (aF r).2.1, b || (aF r).2.2) := by
 have hl := gu 60 r
 unfold ma q8 pR mW aF
 rw [Gf n 60 60 r b]
 simp only [Option.bind_some]
 cases he : (aB 60 r).1 with
 | true =>
  have h2 := ym wZ (aB 60 r).2.length (aB 60 r).2
  rw [cond_true, adG n _ _ b (by omega) (by omega)]
  simp only [Option.bind_some]
  rw [MK n 62 62]
  simp only [Option.bind_some, if_true, PD n (jc wZ (aB 60 r).2.length (aB 60 r).2) (by omega) (by omega)]
  cases b <;> cases (aB 62 ((aB 60 r).2.drop (jc wZ (aB 60 r).2.length (aB 60 r).2).length)).1 <;> rfl
 | false =>
  have h2 := ym iw (aB 60 r).2.length (aB 60 r).2
  rw [cond_false, acf n _ _ b (by omega) (by omega)]
  simp only [Option.bind_some, Bool.false_eq_true, if_false, PD n (jc iw (aB 60 r).2.length (aB 60 r).2) (by omega) (by omega)]
  cases b <;> rfl
end Go.Proofs.YtiegmpnagcdgoaaGreatDoor.H
namespace Go.Proofs.YtiegmpnagcdgoaaGreatDoor.H
open Go.Sh Go.RowKit
set_option linter.unusedSimpArgs false
set_option linter.unusedVariables false
def Ns (d : Str) : Nat := d.foldl (fun a c => a * 10 + (c.toNat - 48)) 0
theorem aau (d : Str) (c : UInt8) : Ns (d ++ [c]) = Ns d * 10 + (c.toNat - 48) := by simp [Ns, List.foldl_append]
theorem Ot (c : UInt8) : dM c = true ↔ 48 ≤ c.toNat ∧ c.toNat ≤ 57 := by
 unfold dM
 simp only [Bool.and_eq_true, decide_eq_true_eq, UInt8.le_iff_toNat_le]
 exact Iff.rfl
theorem SB : ∀ (l : Str) (acc k : Nat), acc < 10 ^ k → k + l.length ≤ 18 → l.all dM = true →
 Lib.parseUint10 acc l = .ok (l.foldl (fun a c => a * 10 + (c.toNat - 48)) acc) ∧ l.foldl (fun a c => a * 10 + (c.toNat - 48)) acc < 10 ^ (k + l.length)
 | [], acc, k, h, _, _ => ⟨rfl, h⟩
 | c :: r, acc, k, h, hk, hd => by
  simp only [List.all_cons, Bool.and_eq_true, Ot] at hd
  simp only [List.length_cons] at hk
  have h17 : 10 ^ k ≤ 10 ^ 17 := Nat.pow_le_pow_right (by omega) (by omega)
  have hp : (10 : Nat) ^ (k + 1) = 10 ^ k * 10 := Nat.pow_succ ..
  have h1 : acc * 10 + (c.toNat - 48) < 10 ^ (k + 1) := by omega
  have h2 := SB r (acc * 10 + (c.toNat - 48)) (k + 1) h1 (by omega) hd.2
  rw [Lib.parseUint10, if_pos hd.1, if_neg (by omega), if_neg (by omega)]
  rw [show k + (c :: r).length = k + 1 + r.length by simp only [List.length_cons]; omega]
  exact h2
theorem VA (d : Str) (hl : d.length ≤ 18) (hd : d.all dM = true) : Ns d < 10 ^ d.length := by
 have := (SB d 0 0 (by omega) (by omega) hd).2
 rwa [Nat.zero_add] at this
theorem ach (n : Nat) (d : Str) (hl : d.length ≤ 3) (hd : d.all dM = true) : xw n d = some (Ns d : Int) := by
 unfold xw GZ
 rw [aa (by omega)]
 cases d with
 | nil => rfl
 | cons c r =>
  have h := (SB (c :: r) 0 0 (by omega) (by omega) hd).1
  have h2 := VA (c :: r) (by omega) hd
  have h3 : (10 : Nat) ^ (c :: r).length ≤ 10 ^ 3 := Nat.pow_le_pow_right (by omega) hl
  have hc := hd
  simp only [List.all_cons, Bool.and_eq_true, Ot] at hc
  unfold Lib.atoiAll
  simp only
  rw [if_neg (by omega), Lib.parseMag, if_neg (by simp), h]
  change some (match (if ¬ (c.toNat = 45) ∧ 9223372036854775808 ≤ Ns (c :: r) then Lib.NumEnd.range else if c.toNat = 45 ∧ 9223372036854775808 < Ns (c :: r) then .range else .ok (if c.toNat = 45 then -(Ns (c :: r) : Int) else (Ns (c :: r) : Int))) with | .ok v => v | .range => _ | _ => 0) = _
  rw [if_neg (by omega), if_neg (by omega), if_neg (by omega)]
def cB (least most : Nat) (r : Str) : Nat × Str × Bool :=
 let d := jc dM most r
 (Ns d, r.drop d.length, decide (d.length < least))
theorem wm (a b : Nat) (r : Str) : (cB a b r).2.1.length ≤ r.length := by
 simp [cB, List.length_drop]
theorem Gg (a : Nat) (b : Nat) (r : Str) (hb : b ≤ 3) : (cB a b r).1 < 1000 := by
 have h1 := ym dM b r
 have h2 := VA (jc dM b r) (by omega) (WV _ _ _)
 have h3 : (10 : Nat) ^ (jc dM b r).length ≤ 10 ^ 3 := Nat.pow_le_pow_right (by omega) (by omega)
 exact Nat.lt_of_lt_of_le h2 h3
theorem KX (n a b : Nat) (ha : a ≤ 3) (hb : b ≤ 3) (r : Str) (bad : Bool) (hs : r.length < 9223372036854775808) (hn : r.length < n) :
 bg n (a : Int) (b : Int) r bad = some (((cB a b r).1 : Int), (cB a b r).2.1, bad || (cB a b r).2.2) := by
 have h1 := ym dM b r
 unfold bg nW mX kH cB
 rw [acg n b r bad hs hn]
 simp only [Option.bind_some]
 rw [ach n _ (by omega) (WV _ _ _)]
 have hd : decide (((jc dM b r).length : Int) < (a : Int)) = decide ((jc dM b r).length < a) := by rw [decide_eq_decide]; omega
 rw [hd]
 cases bad <;> rfl
def minS (r : Str) : Int × Str × Bool :=
 let e := aB 58 r
 if e.1 = true then
  let m := cB 2 2 e.2
  let f := aB 58 m.2.1
  if f.1 = true then
   let s := cB 2 2 f.2
   (60 * (m.1 : Int) + s.1, s.2.1, m.2.2 || decide (60 ≤ m.1) || s.2.2 || decide (60 ≤ s.1))
  else (60 * (m.1 : Int), f.2, m.2.2 || decide (60 ≤ m.1))
 else (0, e.2, false)
theorem aci (r : Str) : (minS r).2.1.length ≤ r.length := by
 have h1 := gu 58 r
 have h2 := wm 2 2 (aB 58 r).2
 have h3 := gu 58 (cB 2 2 (aB 58 r).2).2.1
 have h4 := wm 2 2 (aB 58 (cB 2 2 (aB 58 r).2).2.1).2
 unfold minS
 dsimp only
 split
 ·split <;> dsimp only <;> omega
 ·exact h1
theorem Zh (r : Str) : 0 ≤ (minS r).1 ∧ (minS r).1 < 70000 := by
 have h2 := Gg 2 2 (aB 58 r).2 (by omega)
 have h4 := Gg 2 2 (aB 58 (cB 2 2 (aB 58 r).2).2.1).2 (by omega)
 unfold minS
 dsimp only
 split
 ·split <;> dsimp only <;> omega
 ·simp
def uC (r : Str) : Int × Str :=
 let e := aB 45 r
 if e.1 = true then (-1, e.2) else (1, (aB 43 e.2).2)
theorem Ut (r : Str) : (uC r).2.length ≤ r.length := by
 have h1 := gu 45 r
 have h2 := gu 43 (aB 45 r).2
 unfold uC
 dsimp only
 split <;> dsimp only <;> omega
theorem SC (r : Str) : (uC r).1 = -1 ∨ (uC r).1 = 1 := by
 unfold uC
 dsimp only
 split <;> simp
def cO (most : Nat) (r : Str) : Int × Str × Bool :=
 let g := uC r
 let h := cB 1 3 g.2
 let m := minS h.2.1
 (g.1 * (3600 * (h.1 : Int) + m.1), m.2.1, h.2.2 || decide (most < h.1) || m.2.2)
theorem KY (most : Nat) (r : Str) : (cO most r).2.1.length ≤ r.length := by
 have h1 := Ut r
 have h2 := wm 1 3 (uC r).2
 have h3 := aci (cB 1 3 (uC r).2).2.1
 unfold cO
 dsimp only
 omega
theorem Na (most : Nat) (r : Str) : -4000000 < (cO most r).1 ∧ (cO most r).1 < 4000000 := by
 have h1 := Gg 1 3 (uC r).2 (by omega)
 have h2 := Zh (cB 1 3 (uC r).2).2.1
 unfold cO
 dsimp only
 rcases SC r with h | h <;> rw [h] <;> omega
theorem acj (n : Nat) (r : Str) (b : Bool) : jK n 1 r b = some ((uC r).1, (uC r).2, b) := by
 unfold jK lL uC
 rw [Gf n 45 45]
 simp only [Option.bind_some]
 cases he : (aB 45 r).1 with
 | true => rfl
 | false =>
  simp only [cond_false]
  rw [Gf n 43 43]
  rfl
theorem wi (x : Int) (h : -9223372036854775808 ≤ x) (h2 : x ≤ 9223372036854775807) : IntKind.i64.wrap x = x := IntWalk.i64_in _ (by omega)
theorem adI (n : Nat) (x : Int) (r : Str) (b : Bool) (hx : 0 ≤ x) (hx2 : x < 10000000) (hs : r.length < 9223372036854775808) (hn : r.length + 5 < n) :
 bO n n x 60 r b = some (x + (minS r).1, (minS r).2.1, b || (minS r).2.2) := by
 obtain ⟨k, rfl⟩ : ∃ k, n = k + 3 := ⟨n - 3, by omega⟩
 have h1 := gu 58 r
 have h2 := wm 2 2 (aB 58 r).2
 have h2' := Gg 2 2 (aB 58 r).2 (by omega)
 have h3 := gu 58 (cB 2 2 (aB 58 r).2).2.1
 have h4 := wm 2 2 (aB 58 (cB 2 2 (aB 58 r).2).2.1).2
 have h4' := Gg 2 2 (aB 58 (cB 2 2 (aB 58 r).2).2.1).2 (by omega)
 have d60 : ∀ x : Nat, decide ((x : Int) ≥ (60 : Int)) = decide (60 ≤ x) := fun x => by rw [decide_eq_decide]; omega
 unfold minS
 rw [bO, eP, gB, eO]
 rw [aa (by omega), Gf (k + 3) 58 58]
 simp only [Option.bind_some]
 cases he : (aB 58 r).1 with
 | false => simp
 | true =>
  simp only [cond_true, if_true]
  rw [show (2 : Int) = ((2 : Nat) : Int) from rfl, KX (k + 3) 2 2 (by omega) (by omega) _ _ (by omega) (by omega)]
  simp only [Option.bind_some]
  rw [jL, iH]
  rw [show Int.tdiv 60 60 = 1 from rfl, wi 1 (by omega) (by omega), wi (60 * _) (by omega) (by omega), wi (x + _) (by omega) (by omega)]
  generalize hm : cB 2 2 (aB 58 r).2 = m at *
  have hj : ∀ b' : Bool, (cond b' (some (m.2.1, true)) (some (m.2.1, decide ((m.1 : Int) ≥ (60 : Int))))) = some (m.2.1, b' || decide (60 ≤ m.1)) := fun b' => by rw [d60]; cases b' <;> rfl
  rw [hj]
  simp only [Option.bind_some]
  rw [bO, eP, gB, eO]
  rw [aa (by omega), Gf (k + 3) 58 58]
  simp only [Option.bind_some]
  cases hf : (aB 58 m.2.1).1 with
  | false => simp [Bool.or_assoc]
  | true =>
   simp only [cond_true, if_true]
   rw [show (2 : Int) = ((2 : Nat) : Int) from rfl, KX (k + 3) 2 2 (by omega) (by omega) _ _ (by omega) (by omega)]
   simp only [Option.bind_some]
   rw [jL, iH]
   rw [show Int.tdiv 1 60 = 0 from rfl, wi 0 (by omega) (by omega), wi (1 * _) (by omega) (by omega), wi (x + 60 * _ + _) (by omega) (by omega)]
   generalize hs : cB 2 2 (aB 58 m.2.1).2 = s at *
   have hj : ∀ b' : Bool, (cond b' (some (s.2.1, true)) (some (s.2.1, decide ((s.1 : Int) ≥ (60 : Int))))) = some (s.2.1, b' || decide (60 ≤ s.1)) := fun b' => by rw [d60]; cases b' <;> rfl
   rw [hj]
   simp only [Option.bind_some]
   rw [bO, eP, gB, eO]
   rw [af (by omega)]
   simp only [Option.bind_some, cond_false, Bool.or_assoc, Int.one_mul, Int.add_assoc]
theorem Qo (n most : Nat) (r : Str) (b : Bool) (hs : r.length < 9223372036854775808) (hn : r.length + 5 < n) :
 bv n (most : Int) r b = some ((cO most r).1, (cO most r).2.1, b || (cO most r).2.2) := by
 have h1 := Ut r
 have h2 := wm 1 3 (uC r).2
 have h2' := Gg 1 3 (uC r).2 (by omega)
 have h3 := Zh (cB 1 3 (uC r).2).2.1
 unfold bv pW cO
 rw [acj]
 simp only [Option.bind_some]
 rw [show (bg n (1 : Int) (3 : Int) (uC r).2 b) = _ from KX n 1 3 (by omega) (by omega) _ _ (by omega) (by omega)]
 simp only [Option.bind_some]
 rw [nX, lM]
 generalize cB 1 3 (uC r).2 = h at *
 have hd : decide ((h.1 : Int) > (most : Int)) = decide (most < h.1) := by rw [decide_eq_decide]; omega
 have hj : ∀ b' : Bool, (cond b' (some (h.2.1, true)) (some (h.2.1, decide ((h.1 : Int) > (most : Int))))) = some (h.2.1, b' || decide (most < h.1)) := fun b' => by rw [hd]; cases b' <;> rfl
 rw [hj]
 simp only [Option.bind_some]
 rw [wi ((h.1 : Int) * 3600) (by omega) (by omega), adI n _ _ _ (by omega) (by omega) (by omega) (by omega)]
 simp only [Option.bind_some]
 rw [Int.mul_comm (h.1 : Int) 3600]
 rcases SC r with hg | hg <;> rw [hg] <;> rw [wi _ (by omega) (by omega)] <;> simp only [Bool.or_assoc]
end Go.Proofs.YtiegmpnagcdgoaaGreatDoor.H
namespace Go.Proofs.YtiegmpnagcdgoaaGreatDoor.H
open Go.Sh Go.RowKit
set_option linter.unusedSimpArgs false
set_option linter.unusedVariables false
structure DayV where
 k : Int
 m : Int
 w : Int
 d : Int
 t : Int
structure RuleV where
 std : Str
 dst : Str
 off : Int
 doff : Int
 a : DayV
 b : DayV
def DayV.zero : DayV := ⟨0, 0, 0, 0, 0⟩
def RuleV.zero : RuleV := ⟨[], [], 0, 0, .zero, .zero⟩
def kX (k m w : Int) (r : Str) (bad : Bool) : DayV × Str × Bool :=
 let d := cB 1 3 r
 let e := aB 47 d.2.1
 if e.1 = true then
  let h := cO 167 e.2
  (⟨k, m, w, d.1, h.1⟩, h.2.1, bad || d.2.2 || h.2.2)
 else (⟨k, m, w, d.1, 7200⟩, e.2, bad || d.2.2)
def yV (r : Str) : DayV × Str × Bool :=
 let e := aB 74 r
 if e.1 = true then kX 1 0 0 e.2 false
 else
  let f := aB 77 e.2
  if f.1 = true then
   let m := cB 1 3 f.2
   let p := aB 46 m.2.1
   let w := cB 1 3 p.2
   let q := aB 46 w.2.1
   kX 3 m.1 w.1 q.2 (m.2.2 || !p.1 || w.2.2 || !q.1)
  else kX 2 0 0 f.2 false
theorem ML (k m w : Int) (r : Str) (bad : Bool) : (kX k m w r bad).2.1.length ≤ r.length := by
 have h1 := wm 1 3 r
 have h2 := gu 47 (cB 1 3 r).2.1
 have h3 := KY 167 (aB 47 (cB 1 3 r).2.1).2
 unfold kX
 dsimp only
 split <;> dsimp only <;> omega
theorem ack (r : Str) : (yV r).2.1.length ≤ r.length := by
 have h1 := gu 74 r
 have h2 := gu 77 (aB 74 r).2
 have h3 := wm 1 3 (aB 77 (aB 74 r).2).2
 have h4 := gu 46 (cB 1 3 (aB 77 (aB 74 r).2).2).2.1
 have h5 := wm 1 3 (aB 46 (cB 1 3 (aB 77 (aB 74 r).2).2).2.1).2
 have h6 := gu 46 (cB 1 3 (aB 46 (cB 1 3 (aB 77 (aB 74 r).2).2).2.1).2).2.1
 unfold yV
 dsimp only
 split
 ·exact Nat.le_trans (ML ..) h1
 ·split
  ·exact Nat.le_trans (ML ..) (by omega)
  ·exact Nat.le_trans (ML ..) (by omega)
theorem Zi (n : Nat) (r : Str) (b : Bool) (hs : r.length < 9223372036854775808) (hn : r.length + 5 < n) :
 nM n r b = some ((yV r).1.k, (yV r).1.m, (yV r).1.w, (yV r).1.d, (yV r).1.t, (yV r).2.1, b || (yV r).2.2) := by
 have h1 := gu 74 r
 have h2 := gu 77 (aB 74 r).2
 have h3 := wm 1 3 (aB 77 (aB 74 r).2).2
 have h4 := gu 46 (cB 1 3 (aB 77 (aB 74 r).2).2).2.1
 have h5 := wm 1 3 (aB 46 (cB 1 3 (aB 77 (aB 74 r).2).2).2.1).2
 have h6 := gu 46 (cB 1 3 (aB 46 (cB 1 3 (aB 77 (aB 74 r).2).2).2.1).2).2.1
 have num : ∀ (s : Str) (b : Bool), s.length ≤ r.length → bg n (1 : Int) (3 : Int) s b = some (((cB 1 3 s).1 : Int), (cB 1 3 s).2.1, b || (cB 1 3 s).2.2) := fun s b h => KX n 1 3 (by omega) (by omega) s b (by omega) (by omega)
 have tail : ∀ (k m w : Int) (s : Str) (b bad : Bool), s.length ≤ r.length →
  ((bg n (1 : Int) (3 : Int) s (b || bad)).bind fun o59 => (bC n (47 : Int) o59.2.1 o59.2.2).bind fun o60 => cond o60.1 ((bv n (167 : Int) o60.2.1 o60.2.2).bind fun o61 => some (k, m, w, o59.1, o61.1, o61.2.1, o61.2.2)) (some (k, m, w, o59.1, 7200, o60.2.1, o60.2.2)))
  = some ((kX k m w s bad).1.k, (kX k m w s bad).1.m, (kX k m w s bad).1.w, (kX k m w s bad).1.d, (kX k m w s bad).1.t, (kX k m w s bad).2.1, b || (kX k m w s bad).2.2) := by
  intro k m w s b bad hsl
  have g1 := wm 1 3 s
  have g2 := gu 47 (cB 1 3 s).2.1
  rw [num s _ hsl]
  simp only [Option.bind_some]
  rw [Gf n 47 47]
  simp only [Option.bind_some]
  unfold kX
  cases he : (aB 47 (cB 1 3 s).2.1).1 with
  | true =>
   simp only [cond_true, he, if_true]
   rw [show (bv n (167 : Int) (aB 47 (cB 1 3 s).2.1).2 (b || bad || (cB 1 3 s).2.2)) = _ from Qo n 167 _ _ (by omega) (by omega)]
   simp only [Option.bind_some, Bool.or_assoc]
  | false => simp only [cond_false, he, Bool.false_eq_true, if_false, Bool.or_assoc]
 unfold nM tL q9 nZ yV
 rw [Gf n 74 74]
 simp only [Option.bind_some]
 cases he : (aB 74 r).1 with
 | true =>
  simp only [cond_true, if_true, Option.bind_some]
  have := tail 1 0 0 (aB 74 r).2 b false (by omega)
  rw [Bool.or_false] at this
  exact this
 | false =>
  simp only [cond_false, Bool.false_eq_true, if_false]
  rw [Gf n 77 77]
  simp only [Option.bind_some]
  cases hf : (aB 77 (aB 74 r).2).1 with
  | false =>
   simp only [cond_false, Bool.false_eq_true, if_false, Option.bind_some]
   have := tail 2 0 0 (aB 77 (aB 74 r).2).2 b false (by omega)
   rw [Bool.or_false] at this
   exact this
  | true =>
   simp only [cond_true, if_true]
   rw [num _ _ (by omega)]
   simp only [Option.bind_some]
   rw [MK n 46 46]
   simp only [Option.bind_some]
   rw [num _ _ (by omega)]
   simp only [Option.bind_some]
   rw [MK n 46 46]
   simp only [Option.bind_some]
   have := tail 3 (cB 1 3 (aB 77 (aB 74 r).2).2).1 (cB 1 3 (aB 46 (cB 1 3 (aB 77 (aB 74 r).2).2).2.1).2).1 (aB 46 (cB 1 3 (aB 46 (cB 1 3 (aB 77 (aB 74 r).2).2).2.1).2).2.1).2 b ((cB 1 3 (aB 77 (aB 74 r).2).2).2.2 || !(aB 46 (cB 1 3 (aB 77 (aB 74 r).2).2).2.1).1 || (cB 1 3 (aB 46 (cB 1 3 (aB 77 (aB 74 r).2).2).2.1).2).2.2 || !(aB 46 (cB 1 3 (aB 46 (cB 1 3 (aB 77 (aB 74 r).2).2).2.1).2).2.1).1) (by omega)
   simp only [← Bool.or_assoc] at this ⊢
   exact this
def Ir (x far : Int) : Bool := decide (-far ≤ x) && decide (x ≤ far)
def pM (d : DayV) : Bool := Ir d.t 604799 &&
 if d.k = 1 then decide (d.m = 0) && decide (d.w = 0) && decide (1 ≤ d.d) && decide (d.d ≤ 365)
 else if d.k = 2 then decide (d.m = 0) && decide (d.w = 0) && decide (0 ≤ d.d) && decide (d.d ≤ 365)
 else if d.k = 3 then decide (1 ≤ d.m) && decide (d.m ≤ 12) && decide (1 ≤ d.w) && decide (d.w ≤ 5) && decide (0 ≤ d.d) && decide (d.d ≤ 6)
 else false
def SE (d : DayV) : Bool := d.k == 0 && d.m == 0 && d.w == 0 && d.d == 0 && d.t == 0
def gy (r : RuleV) : Bool := sS r.std && Ir r.off 89999 &&
 if r.dst = [] then r.doff == 0 && SE r.a && SE r.b else sS r.dst && Ir r.doff 89999 && pM r.a && pM r.b
theorem Dx (n : Nat) (x : Int) (far : Nat) (hf : far < 1000000000) : iR n x (far : Int) = some (Ir x far) := by
 unfold iR zI Ir
 rw [wi (0 - (far : Int)) (by omega) (by omega)]
 by_cases h : -(far : Int) ≤ x
 ·rw [aa (by omega), decide_eq_true h]; rfl
 ·rw [af (by omega), decide_eq_false h]; rfl
theorem Nt (x y : Int) : (x == y) = decide (x = y) := by by_cases h : x = y <;> simp [h]
theorem PE {p : Prop} [Decidable p] (q : Bool) : cond (decide p) (some q) (some false) = some (decide p && q) := by by_cases h : p <;> simp [h]
theorem Uu (p q : Bool) : cond p (some q) (some false) = some (p && q) := by cases p <;> rfl
theorem PG (n : Nat) (k m w d t : Int) : lm n k m w d t = some (pM ⟨k, m, w, d, t⟩) := by
 unfold lm uS pM
 rw [show iR n t (604799 : Int) = _ from Dx n t 604799 (by omega)]
 simp only [Option.bind_some]
 cases Ir t ((604799 : Nat) : Int) with
 | false => simp
 | true =>
  simp only [Bool.not_true, cond_false, Bool.true_and]
  rw [tN, pX]
  have hz : ∀ (x3 : Int), ((nN n x3 k m w d t).bind fun o75 => some o75.1) = some (decide (m = 0) && decide (w = 0) && decide (x3 ≤ d) && decide (d ≤ 365)) := by
   intro x3
   rw [nN, pY]
   rw [Nt, Nt]
   by_cases h1 : m = 0 <;> by_cases h2 : w = 0 <;> by_cases h3 : x3 ≤ d <;> simp [h1, h2, h3]
  by_cases h1 : k = 1
  ·subst h1
   simpa using hz 1
  ·by_cases h2 : k = 2
   ·subst h2
    simpa using hz 0
   ·by_cases h3 : k = 3
    ·subst h3
     simp only [beq_iff_eq, h1, h2, if_false, if_true, show ((3 : Int) == 1) = false from rfl, show ((3 : Int) == 2) = false from rfl, show ((3 : Int) == 3) = true from rfl, cond_false, cond_true, Option.bind_some, Sum.elim_inl, Sum.elim_inr, PE, ge_iff_le, Bool.and_assoc]
    ·rw [Nt, Nt, Nt, decide_eq_false h1, decide_eq_false h2, decide_eq_false h3]
     simp [h1, h2, h3]
theorem right_val (n : Nat) (std dst : Str) (off doff k m w d t k' m' w' d' t' : Int) (hs : std.length < 9223372036854775808) (hn : std.length < n) (hs' : dst.length < 9223372036854775808) (hn' : dst.length < n) :
 ui n std dst off doff k m w d t k' m' w' d' t' = some (gy ⟨std, dst, off, doff, ⟨k, m, w, d, t⟩, ⟨k', m', w', d', t'⟩⟩) := by
 unfold ui BC zJ wL gy
 rw [PD n std hs hn]
 simp only [Option.bind_some]
 cases sS std with
 | false => simp
 | true =>
  simp only [Bool.not_true, cond_false, Bool.true_and]
  rw [show iR n off (89999 : Int) = _ from Dx n off 89999 (by omega)]
  simp only [Option.bind_some]
  change _ = some (Ir off ((89999 : Nat) : Int) && _)
  cases Ir off ((89999 : Nat) : Int) with
  | false => simp
  | true =>
   simp only [Bool.not_true, cond_false, Bool.true_and]
   by_cases hd : dst = []
   ·subst hd
    simp [SE, Bool.and_assoc]
   ·have : (dst == ([] : Str)) = false := by simpa using hd
    rw [this, cond_false, PD n dst hs' hn', if_neg hd]
    simp only [Option.bind_some]
    rw [show iR n doff (89999 : Int) = _ from Dx n doff 89999 (by omega)]
    simp only [Option.bind_some, PG, Uu, Bool.and_assoc]
    rfl
def zA (off : Int) (r : Str) : Int × Str × Bool :=
 if r.head? = some 44 then (off + 3600, r, false)
 else let x := cO 24 r; (-x.1, x.2.1, x.2.2)
theorem acl (off : Int) (r : Str) : (zA off r).2.1.length ≤ r.length := by
 unfold zA
 split
 ·exact Nat.le_refl _
 ·exact KY 24 r
def LA (std : Str) (off : Int) (r : Str) (bad : Bool) : RuleV × Str × Bool :=
 let d := aF r
 let o := zA off d.2.1
 let p := aB 44 o.2.1
 let a := yV p.2
 let q := aB 44 a.2.1
 let b := yV q.2
 (⟨std, d.1, off, o.1, a.1, b.1⟩, b.2.1, bad || d.2.2 || o.2.2 || !p.1 || a.2.2 || !q.1 || b.2.2)
def PH (s : Str) : RuleV × Str × Bool :=
 let a := aF s
 let h := cO 24 a.2.1
 if h.2.1 = [] then (⟨a.1, [], -h.1, 0, .zero, .zero⟩, [], a.2.2 || h.2.2)
 else LA a.1 (-h.1) h.2.1 (a.2.2 || h.2.2)
def LB (s : Str) : Option RuleV :=
 if 100 < s.length then none
 else let x := PH s; if x.2.2 = false ∧ x.2.1 = [] ∧ gy x.1 = true then some x.1 else none
theorem KZ (r : Str) : (aF r).1.length ≤ r.length := by
 have h1 := gu 60 r
 have h2 := ym wZ (aB 60 r).2.length (aB 60 r).2
 have h3 := ym iw (aB 60 r).2.length (aB 60 r).2
 unfold aF
 dsimp only
 split <;> dsimp only <;> omega
theorem Yp (n : Nat) (r : Str) : tK n r [44] = some (decide (r.head? = some 44)) := by
 unfold tK
 cases r with
 | nil => rfl
 | cons c r =>
  have : Lib.hasPrefix (c :: r) [44] = (44 == c) := by simp [Lib.hasPrefix, List.isPrefixOf]
  rw [this, List.head?_cons]
  by_cases h : c = 44
  ·subst h; rfl
  ·have h' : ¬ (44 : UInt8) = c := fun e => h e.symm
   simp [h, h']
def WW (r : RuleV) (e : Int) : Str × Str × Int × Int × Int × Int × Int × Int × Int × Int × Int × Int × Int × Int × Int := (r.std, r.dst, r.off, r.doff, r.a.k, r.a.m, r.a.w, r.a.d, r.a.t, r.b.k, r.b.m, r.b.w, r.b.d, r.b.t, e)
theorem aav (n : Nat) (s : Str) (hn : 200 < n) : BH n s = some (match LB s with | some r => WW r 0 | none => WW .zero 70) := by
 unfold BH BG LB
 by_cases h100 : 100 < s.length
 ·rw [aa (by omega), if_pos h100]; rfl
 ·rw [af (by omega), if_neg h100]
  have h1 := Qn s
  have h1' := KZ s
  have h2 := KY 24 (aF s).2.1
  have h2' := Na 24 (aF s).2.1
  rw [Us n s false (by omega) (by omega)]
  simp only [Option.bind_some, Bool.false_or]
  rw [show (bv n (24 : Int) (aF s).2.1 (aF s).2.2) = _ from Qo n 24 _ _ (by omega) (by omega)]
  simp only [Option.bind_some]
  rw [wi (0 - (cO 24 (aF s).2.1).1) (by omega) (by omega), Int.zero_sub]
  have fin : ∀ (r : RuleV) (t : Str) (bad : Bool), r.std.length ≤ 200 → r.dst.length ≤ 200 →
   cond bad (some (WW .zero 70)) (cond (!(t == ([] : Str))) (some (WW .zero 70)) ((ui n r.std r.dst r.off r.doff r.a.k r.a.m r.a.w r.a.d r.a.t r.b.k r.b.m r.b.w r.b.d r.b.t).bind fun o80 => cond (!o80) (some (WW .zero 70)) (some (WW r 0))))
   = some (match (if bad = false ∧ t = [] ∧ gy r = true then some r else none) with | some r => WW r 0 | none => WW .zero 70) := by
   intro r t bad g1 g2
   rw [right_val n _ _ _ _ _ _ _ _ _ _ _ _ _ _ (by omega) (by omega) (by omega) (by omega)]
   cases bad with
   | true => simp
   | false =>
    cases t with
    | cons c t => simp
    | nil => cases h : gy r <;> simp [h]
  by_cases he : (cO 24 (aF s).2.1).2.1 = []
  ·have hr : PH s = (⟨(aF s).1, [], -(cO 24 (aF s).2.1).1, 0, .zero, .zero⟩, [], (aF s).2.2 || (cO 24 (aF s).2.1).2.2) := by unfold PH; dsimp only; rw [if_pos he]
   rw [vU, rf, he]
   simp only [beq_self_eq_true, Bool.not_true, cond_false, Option.bind_some]
   rw [hr]
   exact fin ⟨(aF s).1, [], -(cO 24 (aF s).2.1).1, 0, .zero, .zero⟩ [] _ (by show (aF s).1.length ≤ 200; omega) (by simp)
  ·have hr : PH s = LA (aF s).1 (-(cO 24 (aF s).2.1).1) (cO 24 (aF s).2.1).2.1 ((aF s).2.2 || (cO 24 (aF s).2.1).2.2) := by unfold PH; dsimp only; rw [if_neg he]
   have hb : ((cO 24 (aF s).2.1).2.1 == ([] : Str)) = false := by simpa using he
   rw [vU, rf, hb]
   rw [hr]
   have hoff : -5000000 < -(cO 24 (aF s).2.1).1 ∧ -(cO 24 (aF s).2.1).1 < 5000000 := by omega
   generalize ((aF s).2.2 || (cO 24 (aF s).2.1).2.2) = bad
   generalize -(cO 24 (aF s).2.1).1 = off at *
   generalize (cO 24 (aF s).2.1).2.1 = r at *
   have k1 := Qn r
   have k1' := KZ r
   have k2 := acl off (aF r).2.1
   have k3 := gu 44 (zA off (aF r).2.1).2.1
   have k4 := ack (aB 44 (zA off (aF r).2.1).2.1).2
   have k5 := gu 44 (yV (aB 44 (zA off (aF r).2.1).2.1).2).2.1
   simp only [Bool.not_false, cond_true]
   rw [Us n r bad (by omega) (by omega)]
   simp only [Option.bind_some]
   rw [zK, wM, Yp, Option.bind_some]
   have ho : ∀ (K : Int → Str → Bool → Option (Str × Str × Int × Int × Int × Int × Int × Int × Int × Int × Int × Int × Int × Int × Str × Bool × Str × Str × Int × Int × Int × Int × Int × Int × Int × Int × Int × Int × Int × Int)) (b' : Bool), -5000000 < off → off < 5000000 →
    cond (!decide ((aF r).2.1.head? = some 44)) ((bv n (24 : Int) (aF r).2.1 b').bind fun o49 => K (IntKind.i64.wrap (0 - o49.1)) o49.2.1 o49.2.2) (K (IntKind.i64.wrap (off + 3600)) (aF r).2.1 b')
    = K (zA off (aF r).2.1).1 (zA off (aF r).2.1).2.1 (b' || (zA off (aF r).2.1).2.2) := by
    intro K b' hlo hhi
    unfold zA
    have hl := Na 24 (aF r).2.1
    by_cases hc : (aF r).2.1.head? = some 44
    ·rw [decide_eq_true hc, if_pos hc, wi (off + 3600) (by omega) (by omega)]
     simp
    ·rw [decide_eq_false hc, if_neg hc]
     rw [show (bv n (24 : Int) (aF r).2.1 b') = _ from Qo n 24 _ _ (by omega) (by omega)]
     simp only [Option.bind_some, Bool.not_false, cond_true]
     rw [wi _ (by omega) (by omega), Int.zero_sub]
   have ho' := ho (fun x t b => some (([] : Str), ([] : Str), 0, 0, 0, 0, 0, 0, 0, 0, 0, 0, 0, 0, t, b, (aF s).1, (aF r).1, off, x, 0, 0, 0, 0, 0, 0, 0, 0, 0, 0)) (bad || (aF r).2.2) (by omega) (by omega)
   rw [ho']
   simp only [Option.bind_some]
   rw [MK n 44 44]
   simp only [Option.bind_some]
   rw [Zi n _ _ (by omega) (by omega)]
   simp only [Option.bind_some]
   rw [MK n 44 44]
   simp only [Option.bind_some]
   rw [Zi n _ _ (by omega) (by omega)]
   simp only [Option.bind_some]
   exact fin (LA (aF s).1 off r bad).1 (LA (aF s).1 off r bad).2.1 (LA (aF s).1 off r bad).2.2 (by show (aF s).1.length ≤ 200; omega) (by show (aF r).1.length ≤ 200; omega)
theorem Yq : sS [] = false := rfl
theorem aaw (r : Str) (h : (aF r).2.2 = false) : sS (aF r).1 = true := by
 unfold aF at h ⊢
 dsimp only at h ⊢
 split at h
 ·rename_i he; rw [if_pos he]; dsimp only at h ⊢; simp only [Bool.or_eq_false_iff, Bool.not_eq_eq_eq_not, Bool.not_false] at h; exact h.2
 ·rename_i he; rw [if_neg he]; dsimp only at h ⊢; simpa using h
end Go.Proofs.YtiegmpnagcdgoaaGreatDoor.H
namespace Go.Proofs.YtiegmpnagcdgoaaGreatDoor.H
open Go.Sh Go.RowKit
set_option linter.unusedSimpArgs false
set_option linter.unusedVariables false
theorem MM (n : Nat) (b : UInt8) : fF n (b.toNat : Int) = some (iw b) := by
 have h := Iq (p := fun x => fF 0 (x : Int) = some (iw (UInt8.ofNat x))) (by decide +kernel) b
 rw [UInt8.ofNat_toNat] at h
 exact h
theorem Ou (n : Nat) (b : UInt8) : dY n (b.toNat : Int) = some (dM b) := by
 have h := Iq (p := fun x => dY 0 (x : Int) = some (dM (UInt8.ofNat x))) (by decide +kernel) b
 rw [UInt8.ofNat_toNat] at h
 exact h
theorem SF (n : Nat) (s : Str) (hs : s.length < 9223372036854775808) : ∀ (m i : Nat), s.length - i < m →
 dZ n m s (i : Int) = some (if (s.drop i).all Lx = true then Sum.inr () else Sum.inl ())
 | 0, i, hm => by omega
 | m + 1, i, hm => by
  rw [dZ, lQ, ol, lN]
  cases hd : s.drop i with
  | nil =>
   have := drop_nil hd
   rw [af (by omega)]
   simp
  | cons c r =>
   obtain ⟨h1, h2, h3⟩ := dV hd
   rw [aa (by omega)]
   simp only [aa (show (0 : Int) ≤ (i : Int) by omega), Int.toNat_natCast, h1, Option.bind_some, MM, Ou]
   have e43 : ((c.toNat : Int) != 43) = (c != 43) := MJ c 43
   have e45 : ((c.toNat : Int) != 45) = (c != 45) := MJ c 45
   rw [e43, e45, pK i (by omega), SF n s hs m (i + 1) (by omega), h2]
   have hn : Lx c = (iw c || dM c || c == 43 || c == 45) := rfl
   simp only [List.all_cons, hn, bne]
   generalize iw c = v1, dM c = v2, (c == 43) = v3, (c == 45) = v4, r.all Lx = v5
   cases v1 <;> cases v2 <;> cases v3 <;> cases v4 <;> cases v5 <;> rfl
theorem K3 (n : Nat) (s : Str) (hs : s.length < 9223372036854775808) (hn : s.length < n) : eY n s = some (sS s) := by
 unfold eY p8 sS
 rw [show (0 : Int) = ((0 : Nat) : Int) from rfl, SF n s hs n 0 (by omega), List.drop_zero]
 cases h : s.all Lx with
 | false => simp
 | true =>
  simp only [Option.bind_some, if_true, Sum.elim_inr]
  rw [PE, Bool.and_true]
  have e1 : decide ((s.length : Int) ≥ (3 : Int)) = decide (3 ≤ s.length) := by rw [decide_eq_decide]; omega
  have e2 : decide ((s.length : Int) ≤ (10 : Int)) = decide (s.length ≤ 10) := by rw [decide_eq_decide]; omega
  rw [e1, e2]
theorem Qp (n : Nat) (k m w d t : Int) : fV n k m w d t = some (pM ⟨k, m, w, d, t⟩) := by
 unfold fV ru p9 ni pM Ir
 by_cases h1 : t < -604799
 ·rw [aa h1]
  have : ¬ (-604799 ≤ t) := by omega
  simp [this]
 ·rw [af h1]
  by_cases h2 : t > 604799
  ·have : ¬ (t ≤ 604799) := by omega
   simp [h2, this]
  ·have e1 : -604799 ≤ t := by omega
   have e2 : t ≤ 604799 := by omega
   simp only [h2, decide_false, Option.bind_some, cond_false, Nt, PE, e1, e2, decide_true, Bool.true_and, ge_iff_le, Bool.and_assoc]
   by_cases k1 : k = 1
   ·simp [k1]
   ·by_cases k2 : k = 2
    ·simp [k2]
    ·by_cases k3 : k = 3
     ·simp [k3]
     ·rw [decide_eq_false k1, decide_eq_false k2, decide_eq_false k3]
      simp [k1, k2, k3]
theorem WX (n : Nat) (x : Int) : mg n x = some (Ir x 89999) := by
 unfold mg ry Ir
 rw [PE]
theorem rright_val (n : Nat) (std dst : Str) (off doff k m w d t k' m' w' d' t' : Int) (hs : std.length < 9223372036854775808) (hn : std.length < n) (hs' : dst.length < 9223372036854775808) (hn' : dst.length < n) :
 gL n std dst off doff k m w d t k' m' w' d' t' = some (gy ⟨std, dst, off, doff, ⟨k, m, w, d, t⟩, ⟨k', m', w', d', t'⟩⟩) := by
 unfold gL om gy
 rw [nk, kL, K3 n std hs hn]
 simp only [Option.bind_some]
 cases sS std with
 | false => simp
 | true =>
  simp only [Bool.not_true, cond_false, Bool.true_and, WX, Option.bind_some]
  cases Ir off 89999 with
  | false => simp
  | true =>
   simp only [Bool.not_true, cond_false, Bool.true_and]
   by_cases hd : dst = []
   ·subst hd
    rw [nu, kM]
    have z : ∀ k m w d t : Int, ((k == 0) && ((m == 0) && ((w == 0) && ((d == 0) && ((t == 0) && true))))) = SE ⟨k, m, w, d, t⟩ := fun k m w d t => by simp [SE, Bool.and_assoc]
    simp only [beq_self_eq_true, cond_true, if_true, z]
    cases doff == 0 <;> cases SE ⟨k, m, w, d, t⟩ <;> cases SE ⟨k', m', w', d', t'⟩ <;> rfl
   ·have : (dst == ([] : Str)) = false := by simpa using hd
    rw [this, cond_false, K3 n dst hs' hn', if_neg hd]
    simp only [Option.bind_some, WX, Qp, Uu, Bool.and_assoc]
end Go.Proofs.YtiegmpnagcdgoaaGreatDoor.H
namespace Go.Proofs.YtiegmpnagcdgoaaGreatDoor.H
open Go.Sh Go.RowKit
set_option linter.unusedSimpArgs false
set_option linter.unusedVariables false
def At (s r : Str) (i : Int) : Prop := r <:+ s ∧ i = ((s.length - r.length : Nat) : Int)
theorem At.nil {s : Str} {i : Int} (h : At s [] i) : i = (s.length : Int) := by simpa [At] using h.2
theorem At.le {s r : Str} {i : Int} (h : At s r i) : r.length ≤ s.length := h.1.length_le
theorem At.cons {s r : Str} {c : UInt8} {i : Int} (h : At s (c :: r) i) : ∃ k : Nat, i = (k : Int) ∧ k < s.length ∧ s[k]? = some c ∧ At s r ((k + 1 : Nat) : Int) := by
 obtain ⟨⟨p, hp⟩, hi⟩ := h
 subst hp
 refine ⟨p.length, ?_, ?_, ?_, ⟨⟨p ++ [c], by simp⟩, ?_⟩⟩
 ·rw [hi]; simp
 ·simp
 ·simp
 ·simp [List.length_append]; omega
theorem At.start (s : Str) : At s s 0 := ⟨List.suffix_refl s, by simp⟩
theorem At.part {s m r : Str} {i j : Int} (h : At s (m ++ r) i) (h2 : At s r j) : (s.take j.toNat).drop i.toNat = m := by
 obtain ⟨⟨p, hp⟩, hi⟩ := h
 subst hp
 have hj := h2.2
 subst hi hj
 simp only [Int.toNat_natCast]
 have e1 : (p ++ (m ++ r)).length - r.length = (p ++ m).length := by simp only [List.length_append]; omega
 have e2 : (p ++ (m ++ r)).length - (m ++ r).length = p.length := by simp only [List.length_append]; omega
 rw [e1, e2, ← List.append_assoc, List.take_left, List.drop_left]
theorem At.drop {s r : Str} {i : Int} (h : At s r i) (k : Nat) (hk : k ≤ r.length) : At s (r.drop k) (i + k) := by
 obtain ⟨h1, h2⟩ := h
 refine ⟨(List.drop_suffix k r).trans h1, ?_⟩
 have := h1.length_le
 rw [h2, List.length_drop]
 omega
theorem At.le2 {s r : Str} {i : Int} (h : At s r i) : 0 ≤ i ∧ i ≤ (s.length : Int) := by
 have := h.le
 rw [h.2]
 omega
theorem At.num {s r : Str} {i : Int} (h : At s r i) : i = (s.length : Int) - (r.length : Int) := by
 have := h.le
 rw [h.2]
 omega
def PI : Str → Int
 | [] => 0
 | c :: _ => (c.toNat : Int)
theorem PK (n : Nat) {s r : Str} {i : Int} (h : At s r i) (b : Bool) : bM n s i b = some (PI r, s, i, b) := by
 unfold bM iV
 cases r with
 | nil => rw [h.nil, af (by omega)]; rfl
 | cons c r =>
  obtain ⟨k, rfl, h1, h2, h3⟩ := h.cons
  rw [aa (by omega), aa (by omega), Int.toNat_natCast, h2]
  rfl
theorem Cw (n : Nat) (a : Int) (c : UInt8) {s r : Str} {i : Int} (h : At s r i) (b : Bool) (hs : s.length < 9223372036854775808) (ha : a = (c.toNat : Int) := by rfl) :
 ∃ j, aJ n a s i b = some ((aB c r).1, s, j, b) ∧ At s (aB c r).2 j := by
 subst ha
 unfold aJ jv iT gF
 cases r with
 | nil =>
  have := h.nil
  rw [aa (by omega)]
  exact ⟨i, rfl, h⟩
 | cons x r =>
  obtain ⟨k, rfl, h1, h2, h3⟩ := h.cons
  rw [af (by omega), aa (by omega), Int.toNat_natCast, h2]
  simp only [Option.bind_some, MJ]
  by_cases hx : x = c
  ·subst hx
   refine ⟨((k + 1 : Nat) : Int), ?_, by simpa [aB] using h3⟩
   rw [pK k (by omega)]
   simp [aB]
  ·refine ⟨k, ?_, by simpa [aB, hx] using h⟩
   rw [show (x != c) = true by simpa using hx]
   simp [aB, hx]
theorem Kg (n : Nat) (a : Int) (c : UInt8) {s r : Str} {i : Int} (h : At s r i) (b : Bool) (hs : s.length < 9223372036854775808) (ha : a = (c.toNat : Int) := by rfl) :
 ∃ j, bq n a s i b = some (s, j, b || !(aB c r).1) ∧ At s (aB c r).2 j := by
 obtain ⟨j, h1, h2⟩ := Cw n a c h b hs ha
 refine ⟨j, ?_, h2⟩
 unfold bq iU
 rw [h1]
 cases he : (aB c r).1 <;> cases b <;> simp [he]
theorem Uv (p : UInt8 → Bool) (r : Str) : jc p r.length r = r.takeWhile p := by simp [jc]
theorem SG (p : UInt8 → Bool) (k : Nat) (r : Str) : jc p k r ++ r.drop (jc p k r).length = r := by
 conv => rhs; rw [← List.take_append_drop (jc p k r).length r]
 rw [M9]
theorem Uw (n : Nat) (s : Str) (b : Bool) (hs : s.length < 9223372036854775808) : ∀ (m : Nat) (r : Str) (i : Int), r.length < m → At s r i →
 bF n m s i b = some (s, i + ((r.takeWhile wZ).length : Int), b)
 | 0, r, i, hm, _ => by omega
 | m + 1, r, i, hm, h => by
  rw [bF, fJ, ic, fI]
  cases r with
  | nil =>
   have := h.nil
   rw [af (by omega)]
   simp
  | cons c r =>
   obtain ⟨k, rfl, h1, h2, h3⟩ := h.cons
   simp only [List.length_cons] at hm
   rw [aa (by omega), aa (by omega), Int.toNat_natCast, h2]
   have e : ((c.toNat : Int) != 62) = wZ c := MJ c 62
   simp only [Option.bind_some, e]
   cases hc : wZ c with
   | false => rw [List.takeWhile_cons_of_neg (by simp [hc])]; simp
   | true =>
    rw [List.takeWhile_cons_of_pos (by simp [hc]), cond_true, pK k (by omega), Uw n s b hs m r _ (by omega) h3]
    refine congrArg some (Prod.ext rfl (Prod.ext ?_ rfl))
    simp only [List.length_cons]
    omega
theorem Q0 (n : Nat) (s : Str) (b : Bool) (hs : s.length < 9223372036854775808) : ∀ (m : Nat) (r : Str) (i : Int), r.length < m → At s r i →
 bG n m s i b = some (s, i + ((r.takeWhile iw).length : Int), b)
 | 0, r, i, hm, _ => by omega
 | m + 1, r, i, hm, h => by
  rw [bG, fM, PK n h]
  cases r with
  | nil =>
   simp only [Option.bind_some, PI]
   rw [show fF n 0 = some false from MM n 0]
   simp
  | cons c r =>
   obtain ⟨k, rfl, h1, h2, h3⟩ := h.cons
   simp only [List.length_cons] at hm
   simp only [Option.bind_some, PI, MM]
   cases hc : iw c with
   | false => rw [List.takeWhile_cons_of_neg (by simp [hc])]; simp
   | true =>
    rw [List.takeWhile_cons_of_pos (by simp [hc]), cond_true, pK k (by omega), Q0 n s b hs m r _ (by omega) h3]
    refine congrArg some (Prod.ext rfl (Prod.ext ?_ rfl))
    simp only [List.length_cons]
    omega
theorem Kh (n : Nat) {s r : Str} {i : Int} (h : At s r i) (b : Bool) (hs : s.length < 9223372036854775808) (hn : s.length < n) :
 ∃ j, ed n s i b = some ((aF r).1, s, j, b || (aF r).2.2) ∧ At s (aF r).2.1 j := by
 obtain ⟨j, h1, h2⟩ := Cw n 60 60 h b hs
 have hle := h.le
 have hl := gu 60 r
 unfold ed iW aF
 rw [h1]
 simp only [Option.bind_some]
 cases he : (aB 60 r).1 with
 | true =>
  simp only [cond_true, if_true]
  have hr := ym wZ (aB 60 r).2.length (aB 60 r).2
  rw [Uw n s b hs n _ _ (by omega) h2]
  rw [← Uv]
  generalize hw : jc wZ (aB 60 r).2.length (aB 60 r).2 = w at *
  have h3 := h2.drop w.length (by omega)
  have b2 := h2.le2
  have b3 := h3.le2
  simp only [Option.bind_some]
  rw [aa (by omega), aa (by omega), aa (by omega), aa (by omega)]
  obtain ⟨q, h4, h5⟩ := Kg n 62 62 h3 b hs
  rw [h4]
  simp only [Option.bind_some]
  have hsp : w ++ (aB 60 r).2.drop w.length = (aB 60 r).2 := by rw [← hw]; exact SG _ _ _
  rw [At.part (by rw [hsp]; exact h2) h3]
  rw [ig, fK, K3 n w (by omega) (by omega)]
  refine ⟨q, ?_, h5⟩
  cases b <;> cases (aB 62 ((aB 60 r).2.drop w.length)).1 <;> rfl
 | false =>
  have hz : (aB 60 r).2 = r ∧ j = i := by
   have hr : (aB 60 r).2 = r := by
    cases r with
    | nil => rfl
    | cons x r => by_cases hx : x = 60 <;> simp_all [aB]
   rw [hr] at h2
   exact ⟨hr, by rw [h2.2, h.2]⟩
  obtain ⟨hz1, rfl⟩ := hz
  simp only [cond_false, Bool.false_eq_true, if_false, hz1]
  have hr := ym iw r.length r
  rw [Q0 n s b hs n _ _ (by omega) h]
  rw [← Uv]
  generalize hw : jc iw r.length r = w at *
  have h3 := h.drop w.length (by omega)
  have b2 := h.le2
  have b3 := h3.le2
  simp only [Option.bind_some]
  rw [aa (by omega), aa (by omega), aa (by omega), aa (by omega)]
  have hsp : w ++ r.drop w.length = r := by rw [← hw]; exact SG _ _ _
  rw [At.part (by rw [hsp]; exact h) h3, K3 n w (by omega) (by omega)]
  refine ⟨_, ?_, h3⟩
  cases b <;> rfl
end Go.Proofs.YtiegmpnagcdgoaaGreatDoor.H
namespace Go.Proofs.YtiegmpnagcdgoaaGreatDoor.H
open Go.Sh Go.RowKit
set_option linter.unusedSimpArgs false
set_option linter.unusedVariables false
theorem Ux (n : Nat) (s : Str) (b : Bool) (most : Nat) (hm3 : most ≤ 3) (hs : s.length < 9223372036854775808) : ∀ (m : Nat) (r d : Str) (i : Int), most - d.length < m → d.length ≤ most → d.all dM = true → At s r i →
 ∃ j, aW n m (most : Int) (Ns d : Int) (d.length : Int) s i b = some (((Ns (d ++ jc dM (most - d.length) r) : Nat) : Int), (((d ++ jc dM (most - d.length) r).length : Nat) : Int), s, j, b) ∧ At s (r.drop (jc dM (most - d.length) r).length) j
 | 0, r, d, i, hm, _, _, _ => by omega
 | m + 1, r, d, i, hm, hl, hd, h => by
  rw [aW, eH, fO, eG]
  by_cases hx : d.length < most
  ·rw [aa (by omega), PK n h]
   simp only [Option.bind_some]
   obtain ⟨k, hk⟩ : ∃ k, most - d.length = k + 1 := ⟨most - d.length - 1, by omega⟩
   cases r with
   | nil =>
    rw [show dY n (PI []) = some false from Ou n 0]
    refine ⟨i, ?_, by simpa [jc] using h⟩
    simp [jc]
   | cons c r =>
    obtain ⟨q, rfl, h1, h2, h3⟩ := h.cons
    rw [show dY n (PI (c :: r)) = some (dM c) from Ou n c]
    simp only [Option.bind_some]
    cases hc : dM c with
    | false =>
     have hr : jc dM (most - d.length) (c :: r) = [] := by rw [hk, jc, List.take_succ_cons, List.takeWhile_cons_of_neg (by simp [hc])]
     rw [hr]
     refine ⟨_, ?_, by simpa using h⟩
     simp
    | true =>
     have hr : jc dM (most - d.length) (c :: r) = c :: jc dM k r := by rw [hk, jc, List.take_succ_cons, List.takeWhile_cons_of_pos (by simp [hc])]; rfl
     rw [hr, cond_true, PK n h]
     simp only [Option.bind_some, PI]
     have hv := VA d (by omega) hd
     have hv3 : (10 : Nat) ^ d.length ≤ 10 ^ 3 := Nat.pow_le_pow_right (by omega) (by omega)
     have hcd := (Ot c).1 hc
     have e1 : IntKind.i64.wrap (IntKind.i64.wrap (IntKind.i64.wrap (10 * (Ns d : Int)) + IntKind.i64.wrap (c.toNat : Int)) - 48) = ((Ns (d ++ [c]) : Nat) : Int) := by
      rw [wi (10 * _) (by omega) (by omega), wi (c.toNat : Int) (by omega) (by omega), wi (_ + _) (by omega) (by omega), wi (_ - _) (by omega) (by omega), aau]
      omega
     have e2 : IntKind.i64.wrap ((d.length : Int) + 1) = (((d ++ [c]).length : Nat) : Int) := by rw [pK _ (by omega), List.length_append]; rfl
     rw [e1, e2, pK q (by omega)]
     have hl2 : (d ++ [c]).length = d.length + 1 := by simp
     obtain ⟨j, h4, h5⟩ := Ux n s b most hm3 hs m r (d ++ [c]) _ (by omega) (by omega) (by simp [hd, hc]) h3
     rw [hl2, show most - (d.length + 1) = k by omega, ← hl2] at h4
     rw [hl2, show most - (d.length + 1) = k by omega] at h5
     refine ⟨j, ?_, by simpa using h5⟩
     rw [h4]
     simp
  ·rw [af (by omega)]
   have hz : most - d.length = 0 := by omega
   refine ⟨i, ?_, by simpa [hz, jc] using h⟩
   simp [hz, jc]
theorem Jm (n a b : Nat) (ha : a ≤ 3) (hb : b ≤ 3) {s r : Str} {i : Int} (h : At s r i) (bad : Bool) (hs : s.length < 9223372036854775808) (hn : 5 < n) :
 ∃ j, ax n (a : Int) (b : Int) s i bad = some (((cB a b r).1 : Int), s, j, bad || (cB a b r).2.2) ∧ At s (cB a b r).2.1 j := by
 obtain ⟨j, h1, h2⟩ := Ux n s bad b hb hs n r [] i (by simp; omega) (by simp) (by simp) h
 unfold ax gG
 simp only [List.length_nil, Nat.sub_zero, List.nil_append] at h1 h2
 rw [show (0 : Int) = ((Ns [] : Nat) : Int) from rfl]
 change ∃ j, ((aW n n (b : Int) ((Ns [] : Nat) : Int) ((0 : Nat) : Int) s i bad).bind _) = _ ∧ _
 rw [h1]
 refine ⟨j, ?_, h2⟩
 have hd : decide ((((jc dM b r).length : Nat) : Int) < (a : Int)) = decide ((jc dM b r).length < a) := by rw [decide_eq_decide]; omega
 simp only [Option.bind_some, cB, hd]
 cases bad <;> rfl
theorem aax (n : Nat) {s r : Str} {i : Int} (h : At s r i) (b : Bool) (hs : s.length < 9223372036854775808) :
 ∃ j, dI n 1 s i b = some ((uC r).1, s, j, b) ∧ At s (uC r).2 j := by
 unfold dI fq uC
 obtain ⟨j, h1, h2⟩ := Cw n 45 45 h b hs
 rw [h1]
 simp only [Option.bind_some]
 cases he : (aB 45 r).1 with
 | true => exact ⟨j, rfl, h2⟩
 | false =>
  obtain ⟨q, h3, h4⟩ := Cw n 43 43 h2 b hs
  simp only [cond_false]
  rw [h3]
  exact ⟨q, rfl, h4⟩
theorem Ov (n most : Nat) {s r : Str} {i : Int} (h : At s r i) (b : Bool) (hs : s.length < 9223372036854775808) (hn : 5 < n) :
 ∃ j, aL n (most : Int) s i b = some ((cO most r).1, s, j, b || (cO most r).2.2) ∧ At s (cO most r).2.1 j := by
 unfold aL ik cO
 obtain ⟨j1, h1, a1⟩ := aax n h b hs
 rw [h1]
 simp only [Option.bind_some]
 obtain ⟨j2, h2, a2⟩ := Jm n 1 3 (by omega) (by omega) a1 b hs hn
 rw [show ax n (1 : Int) (3 : Int) s j1 b = _ from h2]
 simp only [Option.bind_some]
 have l2 := Gg 1 3 (uC r).2 (by omega)
 generalize cB 1 3 (uC r).2 = hh at *
 rw [gH, fu]
 unfold minS
 obtain ⟨j3, h3, a3⟩ := Cw n 58 58 a2 (b || hh.2.2) hs
 rw [h3]
 simp only [Option.bind_some]
 have sg := SC r
 have fin : ∀ (m sc : Nat) (bad : Bool) (j : Int), m < 1000 → sc < 1000 →
  ((dJ n (most : Int) (hh.1 : Int) (m : Int) (sc : Int) s j bad).bind fun o127 => some (IntKind.i64.wrap ((uC r).1 * (IntKind.i64.wrap ((IntKind.i64.wrap ((IntKind.i64.wrap ((3600 : Int) * (hh.1 : Int))) + (IntKind.i64.wrap ((60 : Int) * (m : Int))))) + (sc : Int)))), o127.1, o127.2.1, o127.2.2))
  = some ((uC r).1 * (3600 * (hh.1 : Int) + (60 * (m : Int) + (sc : Int))), s, j, bad || decide (most < hh.1) || decide (60 ≤ m) || decide (60 ≤ sc)) := by
  intro m sc bad j hm hsc
  rw [dJ, fA]
  have e1 : decide ((hh.1 : Int) > (most : Int)) = decide (most < hh.1) := by rw [decide_eq_decide]; omega
  have e2 : decide ((m : Int) > (59 : Int)) = decide (60 ≤ m) := by rw [decide_eq_decide]; omega
  have e3 : decide ((sc : Int) > (59 : Int)) = decide (60 ≤ sc) := by rw [decide_eq_decide]; omega
  rw [e1, e2, e3, wi (3600 * _) (by omega) (by omega), wi (60 * _) (by omega) (by omega), wi (3600 * (hh.1 : Int) + _) (by omega) (by omega), wi (3600 * (hh.1 : Int) + _ + _) (by omega) (by omega)]
  have e4 : IntKind.i64.wrap ((uC r).1 * (3600 * (hh.1 : Int) + 60 * (m : Int) + (sc : Int))) = (uC r).1 * (3600 * (hh.1 : Int) + (60 * (m : Int) + (sc : Int))) := by
   rcases sg with g | g <;> rw [g, wi _ (by omega) (by omega)] <;> omega
  rw [e4]
  cases bad <;> cases decide (most < hh.1) <;> cases decide (60 ≤ m) <;> cases decide (60 ≤ sc) <;> rfl
 cases he : (aB 58 hh.2.1).1 with
 | false =>
  simp only [cond_false, Bool.false_eq_true, if_false, Option.bind_some]
  refine ⟨j3, ?_, a3⟩
  rw [show (0 : Int) = ((0 : Nat) : Int) from rfl, fin 0 0 _ _ (by omega) (by omega)]
  simp [Bool.or_assoc]
 | true =>
  simp only [cond_true, if_true]
  obtain ⟨j4, h4, a4⟩ := Jm n 2 2 (by omega) (by omega) a3 (b || hh.2.2) hs hn
  rw [show ax n (2 : Int) (2 : Int) s j3 (b || hh.2.2) = _ from h4]
  simp only [Option.bind_some]
  have l4 := Gg 2 2 (aB 58 hh.2.1).2 (by omega)
  generalize cB 2 2 (aB 58 hh.2.1).2 = mm at *
  obtain ⟨j5, h5, a5⟩ := Cw n 58 58 a4 (b || hh.2.2 || mm.2.2) hs
  rw [h5]
  simp only [Option.bind_some]
  cases hf : (aB 58 mm.2.1).1 with
  | false =>
   simp only [cond_false, Bool.false_eq_true, if_false, Option.bind_some]
   refine ⟨j5, ?_, a5⟩
   rw [show (0 : Int) = ((0 : Nat) : Int) from rfl, fin mm.1 0 _ _ l4 (by omega)]
   cases b <;> cases hh.2.2 <;> cases mm.2.2 <;> cases decide (most < hh.1) <;> cases decide (60 ≤ mm.1) <;> simp
  | true =>
   simp only [cond_true, if_true]
   obtain ⟨j6, h6, a6⟩ := Jm n 2 2 (by omega) (by omega) a5 (b || hh.2.2 || mm.2.2) hs hn
   rw [show ax n (2 : Int) (2 : Int) s j5 (b || hh.2.2 || mm.2.2) = _ from h6]
   simp only [Option.bind_some]
   have l6 := Gg 2 2 (aB 58 mm.2.1).2 (by omega)
   generalize cB 2 2 (aB 58 mm.2.1).2 = ss at *
   refine ⟨j6, ?_, a6⟩
   rw [fin mm.1 ss.1 _ _ l4 l6]
   cases b <;> cases hh.2.2 <;> cases mm.2.2 <;> cases ss.2.2 <;> cases decide (most < hh.1) <;> cases decide (60 ≤ mm.1) <;> cases decide (60 ≤ ss.1) <;> rfl
theorem WY (n : Nat) {s r : Str} {i : Int} (h : At s r i) (b : Bool) (hs : s.length < 9223372036854775808) (hn : 5 < n) :
 ∃ j, fB n s i b = some ((yV r).1.k, (yV r).1.m, (yV r).1.w, (yV r).1.d, (yV r).1.t, s, j, b || (yV r).2.2 || !pM (yV r).1) ∧ At s (yV r).2.1 j := by
 have num : ∀ {r : Str} {i : Int} (h : At s r i) (bad : Bool), ∃ j, ax n (1 : Int) (3 : Int) s i bad = some (((cB 1 3 r).1 : Int), s, j, bad || (cB 1 3 r).2.2) ∧ At s (cB 1 3 r).2.1 j := fun h bad => Jm n 1 3 (by omega) (by omega) h bad hs hn
 have tail : ∀ (k m w : Int) (r : Str) (d : Nat) (i : Int) (bad bad0 : Bool) (dd : Nat × Str × Bool), dd = cB 1 3 r → At s dd.2.1 i →
  ∃ j, ((ek n s i (b || bad || dd.2.2) 0 0 0 0 0 k m w dd.1 7200).bind fun o147 => cond o147.2.2.1 (some (o147.2.2.2.2.2.2.2.2.1, o147.2.2.2.2.2.2.2.2.2.1, o147.2.2.2.2.2.2.2.2.2.2.1, o147.2.2.2.2.2.2.2.2.2.2.2.1, o147.2.2.2.2.2.2.2.2.2.2.2.2, o147.1, o147.2.1, true)) ((fV n o147.2.2.2.2.2.2.2.2.1 o147.2.2.2.2.2.2.2.2.2.1 o147.2.2.2.2.2.2.2.2.2.2.1 o147.2.2.2.2.2.2.2.2.2.2.2.1 o147.2.2.2.2.2.2.2.2.2.2.2.2).bind fun o149 => some (o147.2.2.2.2.2.2.2.2.1, o147.2.2.2.2.2.2.2.2.2.1, o147.2.2.2.2.2.2.2.2.2.2.1, o147.2.2.2.2.2.2.2.2.2.2.2.1, o147.2.2.2.2.2.2.2.2.2.2.2.2, o147.1, o147.2.1, !o149)))
  = some ((kX k m w r bad).1.k, (kX k m w r bad).1.m, (kX k m w r bad).1.w, (kX k m w r bad).1.d, (kX k m w r bad).1.t, s, j, b || (kX k m w r bad).2.2 || !pM (kX k m w r bad).1) ∧ At s (kX k m w r bad).2.1 j := by
  intro k m w r d i bad bad0 dd hdd a
  subst hdd
  unfold kX
  rw [ek, gK]
  obtain ⟨j1, h1, a1⟩ := Cw n 47 47 a (b || bad || (cB 1 3 r).2.2) hs
  rw [h1]
  simp only [Option.bind_some]
  cases he : (aB 47 (cB 1 3 r).2.1).1 with
  | true =>
   obtain ⟨j2, h2, a2⟩ := Ov n 167 a1 (b || bad || (cB 1 3 r).2.2) hs hn
   simp only [cond_true, if_true]
   rw [show aL n (167 : Int) s j1 (b || bad || (cB 1 3 r).2.2) = _ from h2]
   simp only [Option.bind_some, Qp]
   refine ⟨j2, ?_, a2⟩
   generalize pM _ = ok
   cases b <;> cases bad <;> cases (cB 1 3 r).2.2 <;> cases (cO 167 (aB 47 (cB 1 3 r).2.1).2).2.2 <;> cases ok <;> rfl
  | false =>
   simp only [cond_false, Bool.false_eq_true, if_false, Option.bind_some, Qp]
   refine ⟨j1, ?_, a1⟩
   generalize pM _ = ok
   cases b <;> cases bad <;> cases (cB 1 3 r).2.2 <;> cases ok <;> rfl
 unfold fB jy yV
 rw [iX, gJ]
 obtain ⟨j1, h1, a1⟩ := Cw n 74 74 h b hs
 rw [h1]
 simp only [Option.bind_some]
 cases he : (aB 74 r).1 with
 | true =>
  obtain ⟨j2, h2, a2⟩ := num a1 b
  simp only [cond_true, if_true]
  rw [h2]
  simp only [Option.bind_some]
  have := tail 1 0 0 _ 0 j2 false false _ rfl a2
  rw [Bool.or_false] at this
  exact this
 | false =>
  simp only [cond_false, Bool.false_eq_true, if_false]
  obtain ⟨j2, h2, a2⟩ := Cw n 77 77 a1 b hs
  rw [h2]
  simp only [Option.bind_some]
  cases hf : (aB 77 (aB 74 r).2).1 with
  | false =>
   obtain ⟨j3, h3, a3⟩ := num a2 b
   simp only [cond_false, Bool.false_eq_true, if_false]
   rw [h3]
   simp only [Option.bind_some]
   have := tail 2 0 0 _ 0 j3 false false _ rfl a3
   rw [Bool.or_false] at this
   exact this
  | true =>
   simp only [cond_true, if_true]
   obtain ⟨j3, h3, a3⟩ := num a2 b
   rw [h3]
   simp only [Option.bind_some]
   obtain ⟨j4, h4, a4⟩ := Kg n 46 46 a3 (b || (cB 1 3 (aB 77 (aB 74 r).2).2).2.2) hs
   rw [h4]
   simp only [Option.bind_some]
   obtain ⟨j5, h5, a5⟩ := num a4 (b || (cB 1 3 (aB 77 (aB 74 r).2).2).2.2 || !(aB 46 (cB 1 3 (aB 77 (aB 74 r).2).2).2.1).1)
   rw [h5]
   simp only [Option.bind_some]
   obtain ⟨j6, h6, a6⟩ := Kg n 46 46 a5 (b || (cB 1 3 (aB 77 (aB 74 r).2).2).2.2 || !(aB 46 (cB 1 3 (aB 77 (aB 74 r).2).2).2.1).1 || (cB 1 3 (aB 46 (cB 1 3 (aB 77 (aB 74 r).2).2).2.1).2).2.2) hs
   rw [h6]
   simp only [Option.bind_some]
   obtain ⟨j7, h7, a7⟩ := num a6 (b || (cB 1 3 (aB 77 (aB 74 r).2).2).2.2 || !(aB 46 (cB 1 3 (aB 77 (aB 74 r).2).2).2.1).1 || (cB 1 3 (aB 46 (cB 1 3 (aB 77 (aB 74 r).2).2).2.1).2).2.2 || !(aB 46 (cB 1 3 (aB 46 (cB 1 3 (aB 77 (aB 74 r).2).2).2.1).2).2.1).1)
   rw [h7]
   simp only [Option.bind_some]
   have := tail 3 (cB 1 3 (aB 77 (aB 74 r).2).2).1 (cB 1 3 (aB 46 (cB 1 3 (aB 77 (aB 74 r).2).2).2.1).2).1 _ 0 j7 ((cB 1 3 (aB 77 (aB 74 r).2).2).2.2 || !(aB 46 (cB 1 3 (aB 77 (aB 74 r).2).2).2.1).1 || (cB 1 3 (aB 46 (cB 1 3 (aB 77 (aB 74 r).2).2).2.1).2).2.2 || !(aB 46 (cB 1 3 (aB 46 (cB 1 3 (aB 77 (aB 74 r).2).2).2.1).2).2.1).1) false _ rfl a7
   simp only [← Bool.or_assoc] at this ⊢
   exact this
end Go.Proofs.YtiegmpnagcdgoaaGreatDoor.H
namespace Go.Proofs.YtiegmpnagcdgoaaGreatDoor.H
open Go.Sh Go.RowKit
set_option linter.unusedSimpArgs false
set_option linter.unusedVariables false
def WZ (r : RuleV) (e : Bool) : Str × Str × Int × Int × Int × Int × Int × Int × Int × Int × Int × Int × Int × Int × Bool := (r.std, r.dst, r.off, r.doff, r.a.k, r.a.m, r.a.w, r.a.d, r.a.t, r.b.k, r.b.m, r.b.w, r.b.d, r.b.t, e)
theorem Yr (n : Nat) (s : Str) (hn : 200 < n) : oq n s = some (match LB s with | some r => WZ r true | none => WZ .zero false) := by
 unfold oq oo LB
 by_cases h100 : 100 < s.length
 ·rw [aa (by omega), if_pos h100]; rfl
 ·rw [af (by omega), if_neg h100]
  have h1 := Qn s
  have h1' := KZ s
  have h2 := KY 24 (aF s).2.1
  have h2' := Na 24 (aF s).2.1
  obtain ⟨j1, k1, a1⟩ := Kh n (At.start s) false (by omega) (by omega)
  rw [k1]
  simp only [Option.bind_some, Bool.false_or]
  obtain ⟨j2, k2, a2⟩ := Ov n 24 a1 (aF s).2.2 (by omega) (by omega)
  rw [show aL n (24 : Int) s j1 (aF s).2.2 = _ from k2]
  simp only [Option.bind_some]
  rw [wi (0 - (cO 24 (aF s).2.1).1) (by omega) (by omega), Int.zero_sub]
  have fin : ∀ (r : RuleV) (t : Str) (i : Int) (bad bad' : Bool), At s t i → r.std.length ≤ 200 → r.dst.length ≤ 200 → (bad = false → bad' = true → gy r = false) → (bad = true → bad' = true) →
   cond bad' (some (WZ .zero false)) (cond (i != (s.length : Int)) (some (WZ .zero false)) ((gL n r.std r.dst r.off r.doff r.a.k r.a.m r.a.w r.a.d r.a.t r.b.k r.b.m r.b.w r.b.d r.b.t).bind fun o80 => cond (!o80) (some (WZ .zero false)) (some (WZ r true))))
   = some (match (if bad = false ∧ t = [] ∧ gy r = true then some r else none) with | some r => WZ r true | none => WZ .zero false) := by
   intro r t i bad bad' a g1 g2 g3 g4
   rw [rright_val n _ _ _ _ _ _ _ _ _ _ _ _ _ _ (by omega) (by omega) (by omega) (by omega)]
   have hi : (i != (s.length : Int)) = !decide (t = []) := by
    have hnum := a.num
    cases t with
    | nil => simp at hnum; simp [hnum]
    | cons c t =>
     have : ¬ i = (s.length : Int) := by simp only [List.length_cons] at hnum; omega
     simp [this]
   rw [hi]
   cases bad with
   | true => rw [g4 rfl]; simp
   | false =>
    cases bad' with
    | true => rw [g3 rfl rfl]; simp
    | false =>
     cases t with
     | cons c t => simp
     | nil => cases h : gy r <;> simp [h]
  by_cases he : (cO 24 (aF s).2.1).2.1 = []
  ·have hr : PH s = (⟨(aF s).1, [], -(cO 24 (aF s).2.1).1, 0, .zero, .zero⟩, [], (aF s).2.2 || (cO 24 (aF s).2.1).2.2) := by unfold PH; dsimp only; rw [if_pos he]
   rw [he] at a2
   have hj := a2.nil
   rw [jg, gU, jf, gT, af (by omega)]
   simp only [Option.bind_some, cond_false]
   rw [hr]
   exact fin ⟨(aF s).1, [], -(cO 24 (aF s).2.1).1, 0, .zero, .zero⟩ [] j2 _ _ a2 (by show (aF s).1.length ≤ 200; omega) (by simp) (fun h h' => by cases h.symm.trans h') (fun h => h)
  ·have hr : PH s = LA (aF s).1 (-(cO 24 (aF s).2.1).1) (cO 24 (aF s).2.1).2.1 ((aF s).2.2 || (cO 24 (aF s).2.1).2.2) := by unfold PH; dsimp only; rw [if_neg he]
   have hlt : j2 < (s.length : Int) := by
    have hnum := a2.num
    have : 0 < (cO 24 (aF s).2.1).2.1.length := List.length_pos_iff.2 he
    omega
   rw [jg, gU, jf, gT, aa hlt]
   simp only [Option.bind_some]
   rw [hr]
   have hoff : -5000000 < -(cO 24 (aF s).2.1).1 ∧ -(cO 24 (aF s).2.1).1 < 5000000 := by omega
   generalize ((aF s).2.2 || (cO 24 (aF s).2.1).2.2) = bad at *
   generalize -(cO 24 (aF s).2.1).1 = off at *
   generalize (cO 24 (aF s).2.1).2.1 = r at *
   cases bad with
   | true =>
    simp only [Bool.not_true, cond_false, Option.bind_some, cond_true]
    unfold LA
    simp
    rfl
   | false =>
    simp only [Bool.not_false, cond_true]
    obtain ⟨j3, k3, a3⟩ := Kh n a2 false (by omega) (by omega)
    have l3 := KZ r
    rw [k3]
    simp only [Option.bind_some, Bool.false_or]
    rw [ny, kN, PK n a3]
    simp only [Option.bind_some]
    have hhd : (PI (aF r).2.1 != 44) = !decide ((aF r).2.1.head? = some 44) := by
     cases (aF r).2.1 with
     | nil => rfl
     | cons c q =>
      rw [show (PI (c :: q) != 44) = (c != 44) from MJ c 44, List.head?_cons]
      by_cases h : c = 44 <;> simp [h]
    have ho : ∀ (K : Int → Str → Int → Bool → Option (Str × Str × Int × Int × Int × Int × Int × Int × Int × Int × Int × Int × Int × Int × Str × Int × Bool × Str × Str × Int × Int × Int × Int × Int × Int × Int × Int × Int × Int × Int × Int)) (b' : Bool),
     ∃ j, cond (PI (aF r).2.1 != 44) ((aL n (24 : Int) s j3 b').bind fun o49 => K (IntKind.i64.wrap (0 - o49.1)) o49.2.1 o49.2.2.1 o49.2.2.2) (K (IntKind.i64.wrap (off + 3600)) s j3 b')
      = K (zA off (aF r).2.1).1 s j (b' || (zA off (aF r).2.1).2.2) ∧ At s (zA off (aF r).2.1).2.1 j := by
     intro K b'
     unfold zA
     rw [hhd]
     have hl := Na 24 (aF r).2.1
     by_cases hc : (aF r).2.1.head? = some 44
     ·rw [decide_eq_true hc, if_pos hc, wi (off + 3600) (by omega) (by omega)]
      exact ⟨j3, by simp, a3⟩
     ·rw [decide_eq_false hc, if_neg hc]
      obtain ⟨q, g1, g2⟩ := Ov n 24 a3 b' (by omega) (by omega)
      refine ⟨q, ?_, g2⟩
      rw [show aL n (24 : Int) s j3 b' = _ from g1]
      simp only [Option.bind_some, Bool.not_false, cond_true]
      rw [wi _ (by omega) (by omega), Int.zero_sub]
    obtain ⟨j4, k4, a4⟩ := ho (fun x t i b => some (([] : Str), ([] : Str), 0, 0, 0, 0, 0, 0, 0, 0, 0, 0, 0, 0, t, i, b, (aF s).1, (aF r).1, off, x, 0, 0, 0, 0, 0, 0, 0, 0, 0, 0)) (aF r).2.2
    rw [k4]
    simp only [Option.bind_some]
    obtain ⟨j5, k5, a5⟩ := Kg n 44 44 a4 ((aF r).2.2 || (zA off (aF r).2.1).2.2) (by omega)
    rw [k5]
    simp only [Option.bind_some]
    obtain ⟨j6, k6, a6⟩ := WY n a5 ((aF r).2.2 || (zA off (aF r).2.1).2.2 || !(aB 44 (zA off (aF r).2.1).2.1).1) (by omega) (by omega)
    rw [k6]
    simp only [Option.bind_some]
    obtain ⟨j7, k7, a7⟩ := Kg n 44 44 a6 ((aF r).2.2 || (zA off (aF r).2.1).2.2 || !(aB 44 (zA off (aF r).2.1).2.1).1 || (yV (aB 44 (zA off (aF r).2.1).2.1).2).2.2 || !pM (yV (aB 44 (zA off (aF r).2.1).2.1).2).1) (by omega)
    rw [k7]
    simp only [Option.bind_some]
    obtain ⟨j8, k8, a8⟩ := WY n a7 ((aF r).2.2 || (zA off (aF r).2.1).2.2 || !(aB 44 (zA off (aF r).2.1).2.1).1 || (yV (aB 44 (zA off (aF r).2.1).2.1).2).2.2 || !pM (yV (aB 44 (zA off (aF r).2.1).2.1).2).1 || !(aB 44 (yV (aB 44 (zA off (aF r).2.1).2.1).2).2.1).1) (by omega) (by omega)
    rw [k8]
    simp only [Option.bind_some]
    refine fin (LA (aF s).1 off r false).1 (LA (aF s).1 off r false).2.1 j8 (LA (aF s).1 off r false).2.2 _ a8 (by show (aF s).1.length ≤ 200; omega) (by show (aF r).1.length ≤ 200; have := a2.le; omega) ?_ ?_
    ·unfold LA
     dsimp only
     intro g1 g2
     unfold gy
     dsimp only
     have hne : ¬ (aF r).1 = [] := by
      intro hz
      simp only [Bool.or_eq_false_iff, Bool.false_or] at g1
      have := aaw r g1.1.1.1.1.1
      rw [hz, Yq] at this
      cases this
     rw [if_neg hne]
     revert g1 g2
     cases pM (yV (aB 44 (zA off (aF r).2.1).2.1).2).1 <;> cases pM (yV (aB 44 (yV (aB 44 (zA off (aF r).2.1).2.1).2).2.1).2).1 <;> simp
     intro q1 q2 q3 q4 q5 q6
     simp_all
    ·unfold LA
     dsimp only
     intro g1
     revert g1
     generalize (aF r).2.2 = v1
     generalize (zA off (aF r).2.1).2.2 = v2
     generalize (aB 44 (zA off (aF r).2.1).2.1).1 = v3
     generalize (aB 44 (yV (aB 44 (zA off (aF r).2.1).2.1).2).2.1).1 = v4
     generalize yV (aB 44 (zA off (aF r).2.1).2.1).2 = v5
     generalize yV (aB 44 v5.2.1).2 = v6
     cases v1 <;> cases v2 <;> cases v3 <;> cases v4 <;> cases v5.2.2 <;> cases v6.2.2 <;> simp
end Go.Proofs.YtiegmpnagcdgoaaGreatDoor.H
namespace Go.Proofs.YtiegmpnagcdgoaaGreatDoor.H
open Go.Sh Go.RowKit
set_option linter.unusedSimpArgs false
set_option linter.unusedVariables false
theorem Nb {d : DayV} (h : pM d = true) : -604799 ≤ d.t ∧ d.t ≤ 604799 ∧ 0 ≤ d.d ∧ d.d ≤ 365 ∧ 0 ≤ d.m ∧ d.m ≤ 12 ∧ 0 ≤ d.w ∧ d.w ≤ 5 ∧ (d.k = 1 ∨ d.k = 2 ∨ d.k = 3 ∧ 1 ≤ d.m ∧ 1 ≤ d.w ∧ d.d ≤ 6) ∧ (d.k = 1 → 1 ≤ d.d) := by
 unfold pM Ir at h
 simp only [Bool.and_eq_true, decide_eq_true_eq] at h
 obtain ⟨⟨h1, h2⟩, h⟩ := h
 split at h
 ·simp only [Bool.and_eq_true, decide_eq_true_eq] at h; omega
 ·split at h
  ·simp only [Bool.and_eq_true, decide_eq_true_eq] at h; omega
  ·split at h
   ·simp only [Bool.and_eq_true, decide_eq_true_eq] at h; omega
   ·cases h
def AU (y : Int) : Bool := decide (y % 4 = 0) && (decide (y % 100 ≠ 0) || decide (y % 400 = 0))
def zB (y m : Int) : Int := if m = 2 then (if AU y = true then 29 else 28) else if m = 4 ∨ m = 6 ∨ m = 9 ∨ m = 11 then 30 else 31
def rO (y m d : Int) : Int :=
 (if m ≤ 2 then y - 1 else y) / 400 * 146097 + ((if m ≤ 2 then y - 1 else y) % 400 * 365 + (if m ≤ 2 then y - 1 else y) % 400 / 4 - (if m ≤ 2 then y - 1 else y) % 400 / 100) + (153 * ((m + 9) % 12) + 2) / 5 + d - 1 - 719468
theorem Uy (y : Int) : AU y = true ↔ y % 4 = 0 ∧ (y % 100 ≠ 0 ∨ y % 400 = 0) := by
 unfold AU
 simp only [Bool.and_eq_true, Bool.or_eq_true, decide_eq_true_eq]
theorem acm (n : Nat) (y : Int) (h : 0 ≤ y) : F4 n y = some (AU y) := by
 unfold F4 F3 AU
 rw [Int.tmod_eq_emod_of_nonneg h, Int.tmod_eq_emod_of_nonneg h, Int.tmod_eq_emod_of_nonneg h, bne, Nt, Nt, Nt]
 by_cases h1 : y % 4 = 0 <;> by_cases h2 : y % 100 = 0 <;> by_cases h3 : y % 400 = 0 <;> simp [h1, h2, h3]
theorem aeI (n : Nat) (y m : Int) (hy : 1 ≤ y ∧ y ≤ 9999) (hm : 1 ≤ m ∧ m ≤ 12) : zi n y m = some false := by
 rw [zi, zM, af (by omega), af (by omega), af (by omega), decide_eq_false (by omega)]
theorem MN (n : Nat) (y m : Int) (hy : 1 ≤ y ∧ y ≤ 9999) (hm : 1 ≤ m ∧ m ≤ 12) : yC n y m = some (zB y m) := by
 unfold yC F5 zB
 rw [aeI n y m hy hm, acm n y (by omega)]
 have : m = 1 ∨ m = 2 ∨ m = 3 ∨ m = 4 ∨ m = 5 ∨ m = 6 ∨ m = 7 ∨ m = 8 ∨ m = 9 ∨ m = 10 ∨ m = 11 ∨ m = 12 := by omega
 rcases this with h | h | h | h | h | h | h | h | h | h | h | h <;> subst h
 case inr.inl => cases AU y <;> rfl
 all_goals rfl
theorem Ki (y m : Int) : 28 ≤ zB y m ∧ zB y m ≤ 31 := by
 unfold zB
 split
 ·split <;> omega
 ·split <;> omega
theorem td0 {a b : Int} (h : 0 ≤ a) : a.tdiv b = a / b := Int.tdiv_eq_ediv_of_nonneg h
theorem tm0 {a b : Int} (h : 0 ≤ a) : a.tmod b = a % b := Int.tmod_eq_emod_of_nonneg h
theorem PL (n : Nat) (y m d : Int) (hy : 1 ≤ y ∧ y ≤ 9999) (hm : 1 ≤ m ∧ m ≤ 12) (hd : 1 ≤ d ∧ d ≤ 31) : uW n y m d = some (rO y m d) := by
 unfold uW FZ Ht BS rO
 rw [DV, zL]
 by_cases h : m ≤ 2
 ·rw [aa h]
  simp only [Option.bind_some, if_pos h]
  simp (disch := omega) only [wi, td0, tm0]
 ·rw [af h]
  simp only [Option.bind_some, if_neg h]
  simp (disch := omega) only [wi, td0, tm0]
theorem SI (n : Nat) (y m : Int) (hy : 1 ≤ y ∧ y ≤ 9999) (hm : 1 ≤ m ∧ m ≤ 12) : zk n y m 1 = some true := by
 unfold zk DY
 have := Ki y m
 rw [aa (by omega), MN n y m hy hm]
 simp only [Option.bind_some]
 rw [decide_eq_true (by omega)]
theorem Xa (n : Nat) (y m : Int) (hy : 1 ≤ y ∧ y ≤ 9999) (hm : 1 ≤ m ∧ m ≤ 12) : yD n y m 1 = some (rO y m 1, 0) := by
 unfold yD F6
 rw [SI n y m hy hm, PL n y m 1 hy hm (by omega)]
 rfl
theorem Uz (n : Nat) (x : Int) (h : -9223372036854775808 ≤ x ∧ x ≤ 9223372036854775807) : BR n x = some (if x < 0 then 1 else 0) := by
 unfold BR FY
 by_cases hx : x < 0
 ·rw [if_pos hx]
  have : IntKind.u64.wrap x = x + 18446744073709551616 := by simp [IntKind.wrap, IntKind.bits, IntKind.signed]; omega
  rw [this, show ((2 : Int) ^ 63) = 9223372036854775808 from rfl, Int.fdiv_eq_ediv_of_nonneg _ (by omega)]
  congr 1
  omega
 ·rw [if_neg hx]
  have : IntKind.u64.wrap x = x := by simp [IntKind.wrap, IntKind.bits, IntKind.signed]; omega
  rw [this, show ((2 : Int) ^ 63) = 9223372036854775808 from rfl, Int.fdiv_eq_ediv_of_nonneg _ (by omega)]
  congr 1
  omega
theorem adJ (n : Nat) (a : Int) (h : -1000000000000 ≤ a ∧ a ≤ 1000000000000) : Hr n a 7 = some (a / 7, a % 7, true) := by
 unfold Hr KN
 rw [I8, DT]
 rw [show ((7 : Int) == 0) = false from rfl, show ((7 : Int) == -1) = false from rfl]
 simp only [cond_false, Option.bind_some]
 have htm : -7 < Int.tmod a 7 ∧ Int.tmod a 7 < 7 := by
  by_cases ha : 0 ≤ a
  ·rw [tm0 ha]; omega
  ·obtain ⟨b, rfl⟩ : ∃ b : Int, a = -b := ⟨-a, by omega⟩
   rw [Int.neg_tmod, tm0 (by omega)]; omega
 rw [I9, DU, Uz n _ (by omega), Uz n 7 (by omega)]
 simp only [Option.bind_some]
 by_cases ha : 0 ≤ a
 ·rw [tm0 ha, td0 ha]
  rw [if_neg (by omega), if_neg (by omega)]
  simp (disch := omega) only [wi]
  rw [show ((0 : Int) != 0) = false from rfl]
  cases (a % 7 != 0) <;> rfl
 ·obtain ⟨b, rfl⟩ : ∃ b : Int, a = -b := ⟨-a, by omega⟩
  rw [Int.neg_tmod, Int.neg_tdiv, tm0 (by omega), td0 (by omega)]
  by_cases hz : b % 7 = 0
  ·rw [show (-(b % 7) != 0) = false by simp [hz]]
   simp only [cond_false, Option.bind_some]
   simp (disch := omega) only [wi]
   congr 2
   ·omega
   ·congr 1
    omega
  ·rw [show (-(b % 7) != 0) = true by simp [hz]]
   rw [if_pos (by omega), if_neg (by omega)]
   rw [show ((1 : Int) != 0) = true from rfl]
   simp only [cond_true, Option.bind_some]
   simp (disch := omega) only [wi]
   congr 2
   ·omega
   ·congr 1
    omega
theorem Iu (y m : Int) (hy : 1 ≤ y ∧ y ≤ 9999) (hm : 1 ≤ m ∧ m ≤ 12) : -800000 ≤ rO y m 1 ∧ rO y m 1 ≤ 3000000 := by
 unfold rO
 by_cases h : m ≤ 2
 ·simp only [if_pos h]; omega
 ·simp only [if_neg h]; omega
theorem Xb (n : Nat) (y m : Int) (hy : 1 ≤ y ∧ y ≤ 9999) (hm : 1 ≤ m ∧ m ≤ 12) : zO n y m 1 = some ((rO y m 1 + 3) % 7 + 1) := by
 have hb := Iu y m hy hm
 unfold zO zN
 rw [SI n y m hy hm, PL n y m 1 hy hm (by omega)]
 simp only [Option.bind_some, Bool.not_true, cond_false]
 rw [wi (rO y m 1 + 3) (by omega) (by omega), adJ n _ (by omega)]
 simp only [Option.bind_some]
 rw [wi _ (by omega) (by omega)]
def SK (y : Int) (d : DayV) : Int :=
 let a := (d.d + 7 - ((rO y d.m 1 + 3) % 7 + 1) % 7) % 7 + 7 * (d.w - 1)
 if zB y d.m ≤ a then a - 7 else a
def NP (d : DayV) (y : Int) : Int :=
 if d.k = 2 then rO y 1 1 + d.d
 else if d.k = 1 then (if AU y = true ∧ 59 < d.d then rO y 1 1 + d.d else rO y 1 1 + d.d - 1)
 else rO y d.m 1 + SK y d
def l7 (d : DayV) (y : Int) : Int := NP d y * 86400 + d.t
theorem Yt (n m : Nat) (a l : Int) (hl : 28 ≤ l) (ha : 0 ≤ a ∧ a < 35) : fZ n (m + 2) a l = some (if l ≤ a then a - 7 else a) := by
 rw [fZ, mr]
 by_cases h : l ≤ a
 ·rw [aa (by omega), if_pos h, wi (a - 7) (by omega) (by omega), fZ, mr, af (by omega)]
 ·rw [af (by omega), if_neg h]
theorem Xc (n : Nat) (d : DayV) (y : Int) (hn : 5 < n) (h : pM d = true) (hy : 1 ≤ y ∧ y ≤ 9999) : wU n d.k d.m d.w d.d d.t y = some (NP d y) := by
 have hb := Iu y 1 hy (by omega)
 unfold wU wT NP
 rw [Xa n y 1 hy (by omega), MN n y 2 hy (by omega)]
 simp only [Option.bind_some, Nt]
 have hok := h
 unfold pM Ir at hok
 simp only [Bool.and_eq_true, decide_eq_true_eq] at hok
 obtain ⟨⟨t1, t2⟩, hok⟩ := hok
 by_cases h2 : d.k = 2
 ·rw [aa h2, if_pos h2]
  rw [if_neg (by omega), if_pos h2] at hok
  simp only [Bool.and_eq_true, decide_eq_true_eq] at hok
  rw [wi _ (by omega) (by omega)]
 ·rw [af h2, if_neg h2]
  by_cases h1 : d.k = 1
  ·rw [aa h1, if_pos h1]
   rw [if_pos h1] at hok
   simp only [Bool.and_eq_true, decide_eq_true_eq] at hok
   rw [uX, rz]
   have hl : decide (zB y 2 = 29) = AU y := by
    unfold zB
    rw [if_pos rfl]
    cases AU y <;> rfl
   rw [hl]
   cases AU y with
   | false =>
    simp only [cond_false, Option.bind_some]
    simp (disch := omega) only [wi]
    simp
   | true =>
    simp only [cond_true, Option.bind_some]
    simp (disch := omega) only [wi]
    by_cases h59 : d.d > 59
    ·rw [aa h59]; simp [h59]
    ·rw [af h59]; simp [h59]
  ·rw [af h1, if_neg h1]
   rw [if_neg h1, if_neg h2] at hok
   split at hok
   ·simp only [Bool.and_eq_true, decide_eq_true_eq] at hok
    have hm : 1 ≤ d.m ∧ d.m ≤ 12 := by omega
    have hlong := Ki y d.m
    have hdb := Iu y d.m hy hm
    rw [Xb n y d.m hy hm, MN n y d.m hy hm]
    simp only [Option.bind_some]
    simp (disch := omega) only [wi, tm0]
    obtain ⟨k, hk⟩ : ∃ k, n = k + 2 := ⟨n - 2, by omega⟩
    have hl := Yt n k ((d.d + 7 - ((rO y d.m 1 + 3) % 7 + 1) % 7) % 7 + 7 * (d.w - 1)) (zB y d.m) (by omega) (by omega)
    rw [← hk] at hl
    rw [hl, Xa n y d.m hy hm]
    simp only [Option.bind_some]
    unfold SK
    dsimp only
    split <;> rw [wi _ (by omega) (by omega)]
   ·cases hok
theorem SL (d : DayV) (y : Int) (h : pM d = true) (hy : 1 ≤ y ∧ y ≤ 9999) : -900000 ≤ NP d y ∧ NP d y ≤ 3100000 := by
 have hb := Iu y 1 hy (by omega)
 have ho := Nb h
 unfold NP
 split
 ·omega
 ·split
  ·split <;> omega
  ·have hdb := Iu y d.m hy (by omega)
   have hlong := Ki y d.m
   unfold SK
   dsimp only
   split <;> omega
theorem SN (n : Nat) (d : DayV) (y : Int) (hn : 5 < n) : vZ n d.k d.m d.w d.d d.t y =
 some (if pM d = true then (if 2 ≤ y ∧ y ≤ 9998 then (l7 d y, 0) else (0, 30)) else (0, 2)) := by
 unfold vZ zP
 rw [PG, show pM ⟨d.k, d.m, d.w, d.d, d.t⟩ = pM d from rfl]
 simp only [Option.bind_some]
 cases h : pM d with
 | false => rfl
 | true =>
  simp only [Bool.not_true, cond_false, if_true]
  rw [yE, uY]
  by_cases h1 : y < 2
  ·rw [aa h1, if_neg (by omega)]; rfl
  ·rw [af h1]
   by_cases h2 : y > 9998
   ·rw [decide_eq_true h2, if_neg (by omega)]; rfl
   ·rw [decide_eq_false h2, if_pos (by omega)]
    simp only [Option.bind_some, cond_false]
    rw [Xc n d y hn h (by omega)]
    have hb := SL d y h (by omega)
    have ho := Nb h
    simp only [Option.bind_some]
    unfold l7
    simp (disch := omega) only [wi]
end Go.Proofs.YtiegmpnagcdgoaaGreatDoor.H
namespace Go.Proofs.YtiegmpnagcdgoaaGreatDoor.H
open Go.Sh Go.RowKit
set_option linter.unusedSimpArgs false
set_option linter.unusedVariables false
def mR (y : Int) : Int := rO y 1 1
theorem Rq (y : Int) : mR y = (y - 1) / 400 * 146097 + ((y - 1) % 400 * 365 + (y - 1) % 400 / 4 - (y - 1) % 400 / 100) + 306 - 719468 := by
 unfold mR rO
 simp only [if_pos (show (1 : Int) ≤ 2 by omega)]
 omega
theorem Nc (y : Int) (hy : 1 ≤ y) : mR (y + 1) = mR y + 365 + (if AU y = true then 1 else 0) := by
 have hl := Uy y
 rw [Rq, Rq]
 by_cases h : AU y = true
 ·rw [if_pos h]
  rw [h] at hl
  have := hl.1 rfl
  omega
 ·rw [if_neg h]
  have h' : ¬ (y % 4 = 0 ∧ (y % 100 ≠ 0 ∨ y % 400 = 0)) := fun q => h (hl.2 q)
  omega
theorem Nf (y : Int) (hy : 1 ≤ y ∧ y ≤ 10001) : -800000 ≤ mR y ∧ mR y ≤ 3000000 := by
 rw [Rq]
 omega
theorem Qq : mR 1970 = 0 := by decide +kernel
theorem Kj : ∀ (k : Nat) (y : Int), 1 ≤ y → mR y + 365 * (k : Int) ≤ mR (y + k) ∧ mR (y + k) ≤ mR y + 366 * (k : Int)
 | 0, y, _ => by simp
 | k + 1, y, h => by
  have h1 := Kj k y h
  have h2 := Nc (y + k) (by omega)
  rw [show y + ((k + 1 : Nat) : Int) = y + (k : Int) + 1 by omega]
  split at h2 <;> omega
theorem K4 {a b : Int} (ha : 1 ≤ a) (h : a ≤ b) : mR a ≤ mR b := by
 obtain ⟨k, hk⟩ : ∃ k : Nat, b = a + k := ⟨(b - a).toNat, by omega⟩
 have := (Kj k a ha).1
 rw [hk]
 omega
def InYear (y n : Int) : Prop := mR y ≤ n ∧ n < mR (y + 1)
theorem InYear.one {a b n : Int} (ha : 1 ≤ a) (hb : 1 ≤ b) (h1 : InYear a n) (h2 : InYear b n) : a = b := by
 by_cases h : a < b
 ·have := K4 (a := a + 1) (b := b) (by omega) (by omega)
  have := h1.2
  have := h2.1
  omega
 ·by_cases h' : b < a
  ·have := K4 (a := b + 1) (b := a) (by omega) (by omega)
   have := h2.2
   have := h1.1
   omega
  ·omega
end Go.Proofs.YtiegmpnagcdgoaaGreatDoor.H
namespace Go.Proofs.YtiegmpnagcdgoaaGreatDoor.H
open Go.Sh Go.RowKit
set_option linter.unusedSimpArgs false
set_option linter.unusedVariables false
theorem Ng (n : Nat) (y : Int) (h : 0 ≤ y) : iA n y = some (AU y) := by
 unfold iA CV AU
 rw [Int.tmod_eq_emod_of_nonneg h, Int.tmod_eq_emod_of_nonneg h, Int.tmod_eq_emod_of_nonneg h, bne, Nt, Nt, Nt]
 by_cases h1 : y % 4 = 0 <;> by_cases h2 : y % 100 = 0 <;> by_cases h3 : y % 400 = 0 <;> simp [h1, h2, h3]
theorem UA (n : Nat) (y : Int) (hy : 1970 ≤ y ∧ y ≤ 10000) : ∀ (m : Nat) (k : Int), (y - k).toNat < m → 1970 ≤ k ∧ k ≤ y → eQ n m y (mR k) k = some (mR y)
 | 0, k, h, _ => by omega
 | m + 1, k, h, hk => by
  rw [eQ, pz]
  by_cases hlt : k < y
  ·have hb := Nf k (by omega)
   have hn := Nc k (by omega)
   rw [aa hlt, zn, xO, Ng n k (by omega)]
   simp only [Option.bind_some]
   have hnext := UA n y hy m (k + 1) (by omega) (by omega)
   cases hl : AU k with
   | true =>
    rw [hl, if_pos rfl] at hn
    simp only [cond_true, Option.bind_some]
    simp (disch := omega) only [wi]
    rw [← hn]
    exact hnext
   | false =>
    rw [hl, if_neg (by simp)] at hn
    simp only [cond_false, Option.bind_some]
    simp (disch := omega) only [wi]
    rw [show mR k + 365 = mR (k + 1) by omega]
    exact hnext
  ·rw [af hlt, show k = y by omega]
theorem Q3 (n : Nat) (y : Int) (hy : 1 ≤ y ∧ y ≤ 1970) : ∀ (m : Nat) (k : Int), (1970 - k).toNat < m → y ≤ k ∧ k ≤ 1970 → iK n m (mR y - mR k) k = some (mR y)
 | 0, k, h, _ => by omega
 | m + 1, k, h, hk => by
  rw [iK, pE]
  by_cases hlt : k < 1970
  ·have hb := Nf k (by omega)
   have hb2 := Nf y (by omega)
   have hn := Nc k (by omega)
   rw [aa hlt, zo, xP, Ng n k (by omega)]
   simp only [Option.bind_some]
   have hnext := Q3 n y hy m (k + 1) (by omega) (by omega)
   cases hl : AU k with
   | true =>
    rw [hl, if_pos rfl] at hn
    simp only [cond_true, Option.bind_some]
    simp (disch := omega) only [wi]
    rw [show mR y - mR k - 365 - 1 = mR y - mR (k + 1) by omega]
    exact hnext
   | false =>
    rw [hl, if_neg (by simp)] at hn
    simp only [cond_false, Option.bind_some]
    simp (disch := omega) only [wi]
    rw [show mR y - mR k - 365 = mR y - mR (k + 1) by omega]
    exact hnext
  ·rw [af hlt, show k = 1970 by omega, Qq, Int.sub_zero]
theorem Ow (n : Nat) (y : Int) (hn : 10000 < n) (hy : 1 ≤ y ∧ y ≤ 10000) : dL n y = some (mR y) := by
 unfold dL AC
 obtain ⟨k, hk⟩ : ∃ k, n = k + 1 := ⟨n - 1, by omega⟩
 by_cases h : 1970 ≤ y
 ·have h1 := UA n y (by omega) n 1970 (by omega) (by omega)
  rw [Qq] at h1
  rw [h1]
  simp only [Option.bind_some]
  conv => lhs; arg 1; arg 2; rw [hk]
  rw [iK, pE, af (by omega)]
  rfl
 ·have h1 : eQ n n y 0 1970 = some 0 := by
   conv => lhs; arg 2; rw [hk]
   rw [eQ, pz, af (by omega)]
  have h2 := Q3 n y (by omega) n y (by omega) (by omega)
  rw [Int.sub_self] at h2
  rw [h1]
  simp only [Option.bind_some]
  rw [h2]
  rfl
theorem Dy (n : Nat) (y m : Int) (hy : 0 ≤ y) (hm : 1 ≤ m ∧ m ≤ 12) : qf n y m = some (zB y m) := by
 unfold qf CW zB
 rw [Ng n y hy]
 have : m = 1 ∨ m = 2 ∨ m = 3 ∨ m = 4 ∨ m = 5 ∨ m = 6 ∨ m = 7 ∨ m = 8 ∨ m = 9 ∨ m = 10 ∨ m = 11 ∨ m = 12 := by omega
 rcases this with h | h | h | h | h | h | h | h | h | h | h | h <;> subst h
 case inr.inl => cases AU y <;> rfl
 all_goals rfl
theorem Yu (y m : Int) (hy : 1 ≤ y) (hm : 1 ≤ m ∧ m ≤ 11) : rO y (m + 1) 1 = rO y m 1 + zB y m := by
 have : m = 1 ∨ m = 2 ∨ m = 3 ∨ m = 4 ∨ m = 5 ∨ m = 6 ∨ m = 7 ∨ m = 8 ∨ m = 9 ∨ m = 10 ∨ m = 11 := by omega
 unfold zB
 have hl := Uy y
 rcases this with h | h | h | h | h | h | h | h | h | h | h <;> subst h
 case inr.inl =>
  rw [if_pos rfl]
  unfold rO
  simp only [if_neg (show ¬ ((2 : Int) + 1 ≤ 2) by omega), if_pos (show (2 : Int) ≤ 2 by omega)]
  by_cases h : AU y = true
  ·rw [if_pos h]
   rw [h] at hl
   have := hl.1 rfl
   omega
  ·rw [if_neg h]
   have h' : ¬ (y % 4 = 0 ∧ (y % 100 ≠ 0 ∨ y % 400 = 0)) := fun q => h (hl.2 q)
   omega
 all_goals (unfold rO; simp; try omega)
theorem SQ (n : Nat) (d : DayV) (y : Int) (hy : 1 ≤ y ∧ y ≤ 9999) (hd : 1 ≤ d.m ∧ d.m ≤ 12) : ∀ (q : Nat) (m : Int), (d.m - m).toNat < q → 1 ≤ m ∧ m ≤ d.m →
 lV n q y (rO y m 1) m d.k d.m d.w d.d d.t = some (rO y d.m 1, d.k, d.m, d.w, d.d, d.t)
 | 0, m, h, _ => by omega
 | q + 1, m, h, hm => by
  rw [lV, xU]
  by_cases hlt : m < d.m
  ·have hb := Iu y m hy (by omega)
   have hl := Ki y m
   rw [aa hlt, Dy n y m (by omega) (by omega)]
   simp only [Option.bind_some]
   simp (disch := omega) only [wi]
   rw [← Yu y m hy.1 (by omega)]
   exact SQ n d y hy hd q (m + 1) (by omega) (by omega)
  ·rw [af hlt, show m = d.m by omega]
def uM (r w k : Int) : Int := if k ≤ r then 0 else if (k - 1 - r) / 7 + 1 ≤ w then (k - 1 - r) / 7 + 1 else w
theorem afr (x : Int) (h : -1000000000 ≤ x ∧ x ≤ 1000000000) : Int.tmod (IntKind.i64.wrap (Int.tmod x 7 + 7)) 7 = x % 7 := by
 by_cases hx : 0 ≤ x
 ·rw [tm0 hx, wi _ (by omega) (by omega), tm0 (by omega)]
  omega
 ·obtain ⟨b, rfl⟩ : ∃ b : Int, x = -b := ⟨-x, by omega⟩
  rw [Int.neg_tmod, tm0 (show (0 : Int) ≤ b by omega), wi _ (by omega) (by omega), tm0 (by omega)]
  omega
theorem UB (n : Nat) (d : DayV) (y f r : Int) (hy : 1 ≤ y ∧ y ≤ 9999) (hm : 1 ≤ d.m ∧ d.m ≤ 12) (hw : 1 ≤ d.w ∧ d.w ≤ 5) (hd : 0 ≤ d.d ∧ d.d ≤ 6) (hf : -800000 ≤ f ∧ f ≤ 3000000) (hr : r = (d.d - (f + 4)) % 7) :
 ∀ (q : Nat) (k : Int), (zB y d.m - k).toNat < q → 0 ≤ k ∧ k ≤ zB y d.m →
 lW n q y f (if uM r d.w k = 0 then -1 else f + r + 7 * (uM r d.w k - 1)) (uM r d.w k) k d.k d.m d.w d.d d.t
  = some (f + r + 7 * (uM r d.w (zB y d.m) - 1), d.k, d.m, d.w, d.d, d.t)
 | 0, k, h, _ => by omega
 | q + 1, k, h, hk => by
  have hl := Ki y d.m
  rw [lW, xX, Dy n y d.m (by omega) hm]
  simp only [Option.bind_some]
  by_cases hlt : k < zB y d.m
  ·rw [aa hlt, zu, xW]
   rw [wi (f + k) (by omega) (by omega), wi (f + k + 4) (by omega) (by omega), afr _ (by omega)]
   rw [zt, xV, Nt]
   have hnext := UB n d y f r hy hm hw hd hf hr q (k + 1) (by omega) (by omega)
   have hs0 : 0 ≤ uM r d.w k ∧ uM r d.w k ≤ 5 := by unfold uM; split <;> (try split) <;> omega
   rw [wi (k + 1) (by omega) (by omega)]
   by_cases hday : (f + k + 4) % 7 = d.d
   ·rw [aa hday]
    simp only [Option.bind_some]
    by_cases hsn : uM r d.w k < d.w
    ·have e1 : uM r d.w (k + 1) = uM r d.w k + 1 := by
      revert hsn
      unfold uM
      split <;> split <;> (try split) <;> (try split) <;> omega
     have e2 : f + k = f + r + 7 * (uM r d.w (k + 1) - 1) := by
      revert hsn
      unfold uM
      split <;> split <;> (try split) <;> (try split) <;> omega
     rw [decide_eq_true hsn]
     simp only [cond_true, Option.bind_some]
     rw [wi (uM r d.w k + 1) (by omega) (by omega), ← e1]
     rw [if_neg (by omega), ← e2] at hnext
     exact hnext
    ·have e1 : uM r d.w (k + 1) = uM r d.w k := by
      revert hsn
      unfold uM
      split <;> split <;> (try split) <;> (try split) <;> omega
     rw [decide_eq_false hsn]
     simp only [cond_false, Option.bind_some]
     rw [e1] at hnext
     exact hnext
   ·have e1 : uM r d.w (k + 1) = uM r d.w k := by
     unfold uM
     split <;> split <;> (try split) <;> (try split) <;> omega
    rw [af hday]
    simp only [Option.bind_some, cond_false]
    rw [e1] at hnext
    exact hnext
  ·rw [af hlt]
   have hkl : k = zB y d.m := by omega
   subst hkl
   have : uM r d.w (zB y d.m) ≠ 0 := by
    unfold uM
    split <;> (try split) <;> omega
   rw [if_neg this]
theorem Q4 (n : Nat) (d : DayV) (y : Int) (hn : 10000 < n) (h : pM d = true) (hy : 1 ≤ y ∧ y ≤ 9999) : nD n d.k d.m d.w d.d d.t y = some (l7 d y) := by
 have ho := Nb h
 have hb := Nf y (by omega)
 have h2b := SL d y h hy
 unfold nD AL l7
 rw [Ow n y hn (by omega)]
 simp only [Option.bind_some, Nt]
 by_cases h1 : d.k = 1
 ·rw [aa h1, zq, xS, Ng n y (by omega)]
  unfold NP
  rw [if_neg (show ¬ d.k = 2 by omega), if_pos h1]
  change _ = some ((if AU y = true ∧ 59 < d.d then mR y + d.d else mR y + d.d - 1) * 86400 + d.t)
  cases hl : AU y with
  | false =>
   simp only [Option.bind_some, cond_false]
   simp (disch := omega) only [wi]
   simp
  | true =>
   simp only [Option.bind_some, cond_true]
   by_cases h59 : d.d > 59
   ·rw [decide_eq_true h59, cond_true, if_pos ⟨trivial, h59⟩]
    simp (disch := omega) only [wi]
    rw [show mR y + d.d - 1 + 1 = mR y + d.d by omega]
   ·rw [decide_eq_false h59, cond_false, if_neg (by rintro ⟨_, q⟩; exact h59 q)]
    simp (disch := omega) only [wi]
 ·rw [af h1]
  by_cases h2 : d.k = 2
  ·rw [aa h2]
   unfold NP
   rw [if_pos h2]
   change _ = some ((mR y + d.d) * 86400 + d.t)
   simp (disch := omega) only [wi]
  ·have h3 : d.k = 3 := by omega
   rw [af h2, aa h3]
   have hm : 1 ≤ d.m ∧ d.m ≤ 12 := by omega
   have hw : 1 ≤ d.w ∧ d.w ≤ 5 := by omega
   have hfb := Iu y d.m hy hm
   have hl := Ki y d.m
   rw [show mR y = rO y 1 1 from rfl, SQ n d y hy hm n 1 (by omega) (by omega)]
   simp only [Option.bind_some]
   have hk := UB n d y (rO y d.m 1) _ hy hm hw (by omega) hfb rfl n 0 (by omega) (by omega)
   generalize hr : (d.d - (rO y d.m 1 + 4)) % 7 = r at hk
   have hr' : 0 ≤ r ∧ r < 7 := by omega
   have hs0 : uM r d.w 0 = 0 := by unfold uM; rw [if_pos (by omega)]
   rw [hs0, if_pos rfl] at hk
   rw [hk]
   have e : NP d y = rO y d.m 1 + r + 7 * (uM r d.w (zB y d.m) - 1) := by
    unfold NP
    rw [if_neg h2, if_neg h1]
    unfold SK uM
    dsimp only
    rw [if_neg (show ¬ zB y d.m ≤ r by omega)]
    have e1 : (d.d + 7 - ((rO y d.m 1 + 3) % 7 + 1) % 7) % 7 = r := by omega
    rw [e1]
    split <;> split <;> omega
   simp only [Option.bind_some]
   rw [← e]
   simp (disch := omega) only [wi]
end Go.Proofs.YtiegmpnagcdgoaaGreatDoor.H
namespace Go.Proofs.YtiegmpnagcdgoaaGreatDoor.H
open Go.Sh Go.RowKit
set_option linter.unusedSimpArgs false
set_option linter.unusedVariables false
theorem aay (n : Nat) (a : Int) (h : -1000000000000 ≤ a ∧ a ≤ 1000000000000) : xG n a 86400 = some (a / 86400) := by
 unfold xG Cf
 rw [show ((86400 : Int) == 0) = false from rfl]
 simp only [cond_false]
 by_cases ha : 0 ≤ a
 ·rw [tm0 ha, td0 ha, af (by omega), wi _ (by omega) (by omega)]
 ·obtain ⟨b, rfl⟩ : ∃ b : Int, a = -b := ⟨-a, by omega⟩
  rw [Int.neg_tmod, Int.neg_tdiv, tm0 (by omega), td0 (by omega)]
  by_cases hz : b % 86400 = 0
  ·rw [af (by omega), wi _ (by omega) (by omega)]
   congr 1
   omega
  ·rw [aa (by omega)]
   simp (disch := omega) only [wi]
   congr 1
   omega
def EG (k : Nat) : Nat := k - k / 1460 + k / 36524 - k / 146096
def yX (y : Nat) : Nat := 365 * y + y / 4 - y / 100
theorem aaz : ((List.range 400).all fun y => decide (365 * y ≤ EG (yX y)) && (y == 0 || decide (EG (yX y - 1) < 365 * y))) = true := by decide +kernel
theorem Zj (y : Nat) (h : y < 400) : 365 * y ≤ EG (yX y) ∧ (1 ≤ y → EG (yX y - 1) < 365 * y) := by
 have := List.all_eq_true.1 aaz y (List.mem_range.2 h)
 simp only [Bool.and_eq_true, Bool.or_eq_true, decide_eq_true_eq, beq_iff_eq] at this
 exact ⟨this.1, fun hy => this.2.resolve_left (by omega)⟩
theorem Xd (a b : Nat) (h : a ≤ b) (hb : b < 146096) : EG a ≤ EG b := by
 unfold EG
 omega
theorem acn (k : Nat) (h : k < 146097) : EG k / 365 ≤ 399 ∧ yX (EG k / 365) ≤ k ∧ (EG k / 365 < 399 → k < yX (EG k / 365 + 1)) := by
 by_cases hk : k = 146096
 ·subst hk
  decide +kernel
 ·have hF : EG k ≤ 145999 := by unfold EG; omega
  have hY : EG k / 365 ≤ 399 := by omega
  refine ⟨hY, ?_, ?_⟩
  ·have hr := Zj (EG k / 365) (by omega)
   by_cases hlt : k < yX (EG k / 365)
   ·have h1 : 1 ≤ EG k / 365 := by
     by_cases h0 : EG k / 365 = 0
     ·rw [h0] at hlt
      simp [yX] at hlt
     ·omega
    have h2 := hr.2 h1
    have hS : yX (EG k / 365) ≤ 146000 := by unfold yX; omega
    have h3 := Xd k (yX (EG k / 365) - 1) (by omega) (by omega)
    omega
   ·omega
  ·intro hlt
   have hr := Zj (EG k / 365 + 1) (by omega)
   by_cases hge : yX (EG k / 365 + 1) ≤ k
   ·have h3 := Xd (yX (EG k / 365 + 1)) k hge (by omega)
    omega
   ·omega
theorem Yv : rO 9999 12 31 = 2932896 := by decide +kernel
theorem Xe : rO 1 1 1 = -719162 := by decide +kernel
theorem aeJ (n : Nat) (a : Int) (h : -700000 ≤ a ∧ a ≤ 2900000) : ∃ y m d, Dm n a = some (y, m, d, 0) ∧ InYear y a ∧ 1 ≤ y := by
 unfold Dm KO
 rw [Ja, DW, PL n 1 1 1 (by omega) (by omega) (by omega), PL n 9999 12 31 (by omega) (by omega) (by omega), Xe, Yv]
 simp only [Option.bind_some]
 rw [af (by omega), decide_eq_false (by omega)]
 simp only [Option.bind_some, cond_false]
 rw [wi (a + 719468) (by omega) (by omega), tm0 (show (0 : Int) ≤ a + 719468 by omega), td0 (show (0 : Int) ≤ a + 719468 by omega)]
 obtain ⟨k, hk⟩ : ∃ k : Nat, (a + 719468) % 146097 = (k : Int) := ⟨((a + 719468) % 146097).toNat, by omega⟩
 obtain ⟨q, hq⟩ : ∃ q : Nat, (a + 719468) / 146097 = (q : Int) := ⟨((a + 719468) / 146097).toNat, by omega⟩
 have hkq : a + 719468 = 146097 * (q : Int) + (k : Int) := by omega
 have hkl : k < 146097 := by omega
 have hql : q < 30 := by omega
 rw [hk, hq]
 obtain ⟨y1, y2, y3⟩ := acn k hkl
 have hY : IntKind.i64.wrap (Int.tdiv (IntKind.i64.wrap (IntKind.i64.wrap (IntKind.i64.wrap ((k : Int) - IntKind.i64.wrap (Int.tdiv (k : Int) 1460)) + IntKind.i64.wrap (Int.tdiv (k : Int) 36524)) - IntKind.i64.wrap (Int.tdiv (k : Int) 146096))) 365) = ((EG k / 365 : Nat) : Int) := by
  simp (disch := omega) only [wi, td0]
  unfold EG
  omega
 rw [hY]
 generalize EG k / 365 = Y at *
 have hR : IntKind.i64.wrap ((k : Int) - IntKind.i64.wrap (IntKind.i64.wrap (IntKind.i64.wrap (365 * (Y : Int)) + IntKind.i64.wrap (Int.tdiv (Y : Int) 4)) - IntKind.i64.wrap (Int.tdiv (Y : Int) 100))) = (k : Int) - ((yX Y : Nat) : Int) := by
  simp (disch := omega) only [wi, td0]
  unfold yX
  omega
 rw [hR]
 have hYS : ∀ Z : Nat, Z ≤ 400 → mR (400 * (q : Int) + (Z : Int) + 1) = 146097 * (q : Int) + ((yX Z : Nat) : Int) + (if Z = 400 then 1 else 0) + 306 - 719468 := by
  intro Z hZ
  rw [Rq]
  unfold yX
  split <;> omega
 have hpos : 1 ≤ 400 * (q : Int) + (Y : Int) := by
  by_cases h0 : Y = 0
  ·by_cases hq0 : q = 0
   ·have h1 := y3 (by omega)
    rw [h0] at h1
    have : yX (0 + 1) = 365 := by decide +kernel
    omega
   ·omega
  ·omega
 have hb0 := hYS Y (by omega)
 rw [if_neg (by omega)] at hb0
 have hmon : IntKind.i64.wrap (Int.tdiv (IntKind.i64.wrap (IntKind.i64.wrap (5 * ((k : Int) - ((yX Y : Nat) : Int))) + 2)) 153) = (5 * ((k : Int) - ((yX Y : Nat) : Int)) + 2) / 153 := by
  have hup : (k : Int) - ((yX Y : Nat) : Int) ≤ 400 := by
   by_cases h9 : Y < 399
   ·have := y3 h9
    have : yX (Y + 1) ≤ yX Y + 366 := by unfold yX; omega
    omega
   ·have : Y = 399 := by omega
    subst this
    have : yX 399 = 145731 := by decide +kernel
    omega
  simp (disch := omega) only [wi, td0]
 rw [hmon]
 have hR0 : 0 ≤ (k : Int) - ((yX Y : Nat) : Int) := by omega
 have hnext : Y < 399 → mR (400 * (q : Int) + (Y : Int) + 2) > a := by
  intro h9
  have h1 := y3 h9
  have h2 := hYS (Y + 1) (by omega)
  rw [if_neg (by omega)] at h2
  rw [show 400 * (q : Int) + (Y : Int) + 2 = 400 * (q : Int) + ((Y + 1 : Nat) : Int) + 1 by omega, h2]
  omega
 have hlast : Y = 399 → mR (400 * (q : Int) + (Y : Int) + 2) > a := by
  intro h9
  subst h9
  have h2 := hYS 400 (by omega)
  rw [if_pos rfl] at h2
  have : yX 400 = 146096 := by decide +kernel
  rw [show 400 * (q : Int) + ((399 : Nat) : Int) + 2 = 400 * (q : Int) + ((400 : Nat) : Int) + 1 by omega, h2]
  omega
 have hR366 : (k : Int) - ((yX Y : Nat) : Int) ≤ 366 := by
  by_cases h9 : Y < 399
  ·have := y3 h9
   have : yX (Y + 1) ≤ yX Y + 366 := by unfold yX; omega
   omega
  ·have : Y = 399 := by omega
   subst this
   have : yX 399 = 145731 := by decide +kernel
   omega
 generalize hRR : (k : Int) - ((yX Y : Nat) : Int) = R at *
 have hyear : IntKind.i64.wrap (IntKind.i64.wrap ((q : Int) * 400) + (Y : Int)) = 400 * (q : Int) + (Y : Int) := by
  simp (disch := omega) only [wi]
  omega
 rw [wi (q : Int) (by omega) (by omega), hyear]
 rw [wi ((5 * R + 2) / 153 + 2) (by omega) (by omega), tm0 (show (0 : Int) ≤ (5 * R + 2) / 153 + 2 by omega), wi (((5 * R + 2) / 153 + 2) % 12 + 1) (by omega) (by omega)]
 have hM : 0 ≤ (5 * R + 2) / 153 ∧ (5 * R + 2) / 153 ≤ 11 ∧ (R ≤ 305 → (5 * R + 2) / 153 ≤ 9) ∧ (306 ≤ R → 10 ≤ (5 * R + 2) / 153) := by omega
 generalize (5 * R + 2) / 153 = M at *
 by_cases h306 : 306 ≤ R
 ·have hMM : M = 10 ∨ M = 11 := by omega
  have hm : (M + 2) % 12 + 1 ≤ 2 := by rcases hMM with h | h <;> rw [h] <;> decide
  rw [aa hm, wi (400 * (q : Int) + (Y : Int) + 1) (by omega) (by omega)]
  refine ⟨_, _, _, rfl, ⟨?_, ?_⟩, by omega⟩
  ·rw [hb0]; omega
  ·rw [show 400 * (q : Int) + (Y : Int) + 1 + 1 = 400 * (q : Int) + (Y : Int) + 2 by omega]
   by_cases h9 : Y < 399
   ·exact hnext h9
   ·exact hlast (by omega)
 ·have hm : ¬ ((M + 2) % 12 + 1 ≤ 2) := by rw [Int.emod_eq_of_lt (by omega) (by omega)]; omega
  rw [af hm]
  have hprev : mR (400 * (q : Int) + (Y : Int)) ≤ mR (400 * (q : Int) + (Y : Int) + 1) - 365 := by
   have := Nc (400 * (q : Int) + (Y : Int)) hpos
   split at this <;> omega
  refine ⟨_, _, _, rfl, ⟨?_, ?_⟩, by omega⟩
  ·omega
  ·rw [hb0]; omega
end Go.Proofs.YtiegmpnagcdgoaaGreatDoor.H
namespace Go.Proofs.YtiegmpnagcdgoaaGreatDoor.H
open Go.Sh Go.RowKit
set_option linter.unusedSimpArgs false
set_option linter.unusedVariables false
def SS (t at' : Int) (is : Bool) (s : Bool × Int × Bool) : Bool × Int × Bool := if at' ≤ t ∧ (s.1 = false ∨ s.2.1 < at' ∨ at' = s.2.1 ∧ is = false) then (true, at', is) else s
def jr (r : RuleV) (t y : Int) (s : Bool × Int × Bool) : Bool × Int × Bool := SS t (l7 r.b y - r.doff) false (SS t (l7 r.a y - r.off) true s)
def Yw (r : RuleV) (t y : Int) : Bool × Int × Bool := jr r t (y + 1) (jr r t y (jr r t (y - 1) (jr r t (y - 2) (false, 0, false))))
theorem Zk (n : Nat) (t at' : Int) (is : Bool) (s : Bool × Int × Bool) : zm n at' is t s.1 s.2.1 s.2.2 = some (t, SS t at' is s) := by
 obtain ⟨met, latest, summer⟩ := s
 unfold zm D5 SS
 dsimp only
 rw [Nt]
 by_cases h1 : at' ≤ t
 ·rw [aa h1]
  cases met with
  | false => simp [h1]
  | true =>
   simp only [Bool.not_true, cond_false]
   by_cases h2 : at' > latest
   ·rw [aa h2, if_pos ⟨h1, .inr (.inl h2)⟩]
   ·rw [af h2]
    by_cases h3 : at' = latest
    ·rw [aa h3]
     cases is with
     | false => rw [if_pos ⟨h1, .inr (.inr ⟨h3, rfl⟩)⟩]; rfl
     | true =>
      rw [if_neg (by rintro ⟨_, h | h | h⟩; · cases h
                     ·exact h2 h
                     ·cases h.2)]
      rfl
    ·rw [af h3, if_neg (by rintro ⟨_, h | h | h⟩; · cases h
                           ·exact h2 h
                           ·exact h3 h.1)]
 ·rw [af h1, if_neg (by rintro ⟨h, _⟩; exact h1 h)]
theorem K5 (d : DayV) (y : Int) (h : pM d = true) (hy : 1 ≤ y ∧ y ≤ 9999) : -100000000000 ≤ l7 d y ∧ l7 d y ≤ 300000000000 := by
 have h1 := SL d y h hy
 have h2 := Nb h
 unfold l7
 omega
theorem adK (n m : Nat) (hn : 5 < n) (r : RuleV) (ha : pM r.a = true) (hb : pM r.b = true) (h1 : -89999 ≤ r.off ∧ r.off ≤ 89999) (h2 : -89999 ≤ r.doff ∧ r.doff ≤ 89999)
 (t y Y mm dd : Int) (hy : 2 ≤ y ∧ y ≤ 9998) (hY : 2 ≤ Y ∧ Y ≤ 9996) (hlt : y < Y + 2) (s : Bool × Int × Bool) :
 lS n (m + 1) y r.std r.dst r.off r.doff r.a.k r.a.m r.a.w r.a.d r.a.t r.b.k r.b.m r.b.w r.b.d r.b.t t Y mm dd s.2.1 s.2.2 s.1
 = lS n m (y + 1) r.std r.dst r.off r.doff r.a.k r.a.m r.a.w r.a.d r.a.t r.b.k r.b.m r.b.w r.b.d r.b.t t Y mm dd (jr r t y s).2.1 (jr r t y s).2.2 (jr r t y s).1 := by
 have b1 := K5 r.a y ha (by omega)
 have b2 := K5 r.b y hb (by omega)
 rw [lS, xJ, wi (Y + 2) (by omega) (by omega), aa hlt, SN n r.a y hn, SN n r.b y hn]
 simp only [Option.bind_some]
 rw [if_pos ha, if_pos hb, if_pos hy, if_pos hy]
 simp only
 rw [wi (l7 r.a y - r.off) (by omega) (by omega), wi (l7 r.b y - r.doff) (by omega) (by omega), Zk]
 simp only [Option.bind_some]
 rw [Zk]
 simp only [Option.bind_some]
 rw [wi (y + 1) (by omega) (by omega)]
 rfl
def iO (s : Int) : Int := if (-10000000000 : Int) < (if s < (100000000000 : Int) then s else (100000000000 : Int)) then (if s < (100000000000 : Int) then s else (100000000000 : Int)) else (-10000000000 : Int)
theorem UC (s : Int) : -10000000000 ≤ iO s ∧ iO s ≤ 100000000000 := by
 unfold iO
 split <;> (try split) <;> omega
theorem UD : mR 1600 = -135140 := by decide +kernel
theorem Qr : mR 5200 = 1179733 := by decide +kernel
theorem Zl {y n : Int} (hy : 1 ≤ y) (h : InYear y n) (hn : -130000 ≤ n ∧ n ≤ 1170000) : 1600 ≤ y ∧ y ≤ 5200 := by
 have e1 := UD
 have e2 := Qr
 constructor
 ·by_cases hlt : y < 1600
  ·have := K4 (a := y + 1) (b := 1600) (by omega) (by omega)
   have := h.2
   omega
  ·omega
 ·by_cases hgt : 5200 < y
  ·have := K4 (a := 5200) (b := y) (by omega) (by omega)
   have := h.1
   omega
  ·omega
theorem Gq {r : RuleV} (h : gy r = true) : sS r.std = true ∧ -89999 ≤ r.off ∧ r.off ≤ 89999 ∧
 (r.dst = [] ∧ r.doff = 0 ∨ sS r.dst = true ∧ r.dst ≠ [] ∧ -89999 ≤ r.doff ∧ r.doff ≤ 89999 ∧ pM r.a = true ∧ pM r.b = true) := by
 unfold gy at h
 simp only [Bool.and_eq_true, Ir, decide_eq_true_eq] at h
 obtain ⟨⟨h1, h2⟩, h⟩ := h
 refine ⟨h1, h2.1, h2.2, ?_⟩
 split at h
 ·rename_i hd
  simp only [Bool.and_eq_true, beq_iff_eq] at h
  exact .inl ⟨hd, h.1.1⟩
 ·rename_i hd
  simp only [Bool.and_eq_true, decide_eq_true_eq] at h
  exact .inr ⟨h.1.1.1, hd, h.1.1.2.1, h.1.1.2.2, h.1.2, h.2⟩
def Qs (r : RuleV) (t y : Int) : Int × Bool := if (Yw r t y).2.2 = true then (r.doff, true) else (r.off, false)
theorem at_val (n : Nat) (r : RuleV) (s : Int) (hn : 200 < n) (h : gy r = true) (hd : r.dst ≠ []) :
 ∃ y, InYear y ((iO s + r.off) / 86400) ∧ 1600 ≤ y ∧ y ≤ 5200 ∧ rA n r.std r.dst r.off r.doff r.a.k r.a.m r.a.w r.a.d r.a.t r.b.k r.b.m r.b.w r.b.d r.b.t s = some (Qs r (iO s) y) := by
 obtain ⟨h1, h2, h3, h4⟩ := Gq h
 obtain ⟨h4, _, h5, h6, h7, h8⟩ := h4.resolve_left (fun q => hd q.1)
 have l1 : r.std.length ≤ 10 := by unfold sS at h1; simp only [Bool.and_eq_true, decide_eq_true_eq] at h1; exact h1.1.2
 have l2 : r.dst.length ≤ 10 := by unfold sS at h4; simp only [Bool.and_eq_true, decide_eq_true_eq] at h4; exact h4.1.2
 have hc := UC s
 obtain ⟨y, mm, dd, k1, k2, k3⟩ := aeJ n ((iO s + r.off) / 86400) (by omega)
 have hy := Zl k3 k2 (by omega)
 refine ⟨y, k2, hy.1, hy.2, ?_⟩
 unfold rA Az
 rw [right_val n _ _ _ _ _ _ _ _ _ _ _ _ _ _ (by omega) (by omega) (by omega) (by omega)]
 rw [show gy ⟨r.std, r.dst, r.off, r.doff, ⟨r.a.k, r.a.m, r.a.w, r.a.d, r.a.t⟩, ⟨r.b.k, r.b.m, r.b.w, r.b.d, r.b.t⟩⟩ = true from h]
 simp only [Option.bind_some, Bool.not_true, cond_false]
 rw [show (r.dst == ([] : Str)) = false by simpa using hd, cond_false]
 change ((xG n (IntKind.i64.wrap (iO s + r.off)) 86400).bind fun o304 => (Dm n o304).bind fun o308 => (lS n n (IntKind.i64.wrap (o308.1 - 2)) r.std r.dst r.off r.doff r.a.k r.a.m r.a.w r.a.d r.a.t r.b.k r.b.m r.b.w r.b.d r.b.t (iO s) o308.1 o308.2.1 o308.2.2.1 0 false false).bind _) = _
 rw [wi (iO s + r.off) (by omega) (by omega), aay n _ (by omega)]
 simp only [Option.bind_some]
 rw [k1]
 simp only [Option.bind_some]
 rw [wi (y - 2) (by omega) (by omega)]
 obtain ⟨k, hk⟩ : ∃ k, n = k + 1 + 1 + 1 + 1 + 1 := ⟨n - 5, by omega⟩
 have st := fun m (z : Int) (hz : y - 2 ≤ z ∧ z < y + 2) s' => adK n m (by omega) r h7 h8 (by omega) (by omega) (iO s) z y mm dd (by omega) (by omega) hz.2 s'
 conv => lhs; arg 1; arg 2; rw [hk]
 rw [st _ (y - 2) (by omega) (false, 0, false), st _ (y - 2 + 1) (by omega), st _ (y - 2 + 1 + 1) (by omega), st _ (y - 2 + 1 + 1 + 1) (by omega)]
 rw [lS, xJ, wi (y + 2) (by omega) (by omega), af (by omega)]
 simp only [Option.bind_some]
 unfold Qs Yw
 rw [show y - 2 + 1 = y - 1 by omega, show y - 1 + 1 = y by omega]
 cases (jr r (iO s) (y + 1) (jr r (iO s) y (jr r (iO s) (y - 1) (jr r (iO s) (y - 2) (false, 0, false))))).2.2 <;> rfl
theorem aco (n : Nat) (r : RuleV) (s : Int) (hn : 200 < n) (h : gy r = true) (hd : r.dst = []) :
 rA n r.std r.dst r.off r.doff r.a.k r.a.m r.a.w r.a.d r.a.t r.b.k r.b.m r.b.w r.b.d r.b.t s = some (r.off, false) := by
 obtain ⟨h1, _⟩ := Gq h
 have l1 : r.std.length ≤ 10 := by unfold sS at h1; simp only [Bool.and_eq_true, decide_eq_true_eq] at h1; exact h1.1.2
 unfold rA Az
 rw [right_val n _ _ _ _ _ _ _ _ _ _ _ _ _ _ (by omega) (by omega) (by rw [hd]; simp) (by rw [hd]; simp; omega)]
 rw [show gy ⟨r.std, r.dst, r.off, r.doff, ⟨r.a.k, r.a.m, r.a.w, r.a.d, r.a.t⟩, ⟨r.b.k, r.b.m, r.b.w, r.b.d, r.b.t⟩⟩ = true from h, hd]
 rfl
theorem aeK (n : Nat) (r : RuleV) (s : Int) (h : gy r = false) (hs : r.std.length < 9223372036854775808) (hn : r.std.length < n) (hs' : r.dst.length < 9223372036854775808) (hn' : r.dst.length < n) :
 rA n r.std r.dst r.off r.doff r.a.k r.a.m r.a.w r.a.d r.a.t r.b.k r.b.m r.b.w r.b.d r.b.t s = some (0, false) := by
 unfold rA Az
 rw [right_val n _ _ _ _ _ _ _ _ _ _ _ _ _ _ hs hn hs' hn']
 rw [show gy ⟨r.std, r.dst, r.off, r.doff, ⟨r.a.k, r.a.m, r.a.w, r.a.d, r.a.t⟩, ⟨r.b.k, r.b.m, r.b.w, r.b.d, r.b.t⟩⟩ = false from h]
 rfl
end Go.Proofs.YtiegmpnagcdgoaaGreatDoor.H
namespace Go.Proofs.YtiegmpnagcdgoaaGreatDoor.H
open Go.Sh Go.RowKit
set_option linter.unusedSimpArgs false
set_option linter.unusedVariables false
theorem Yx (n : Nat) (a : Int) (h : -1000000000000 ≤ a ∧ a ≤ 1000000000000) : oF n a 86400 = some (a / 86400) := by
 unfold oF Cj
 rw [show ((86400 : Int) == 0) = false from rfl]
 simp only [cond_false]
 by_cases ha : 0 ≤ a
 ·rw [tm0 ha, td0 ha, af (by omega), wi _ (by omega) (by omega)]
 ·obtain ⟨b, rfl⟩ : ∃ b : Int, a = -b := ⟨-a, by omega⟩
  rw [Int.neg_tmod, Int.neg_tdiv, tm0 (by omega), td0 (by omega)]
  by_cases hz : b % 86400 = 0
  ·rw [af (by omega), wi _ (by omega) (by omega)]
   congr 1
   omega
  ·rw [aa (by omega)]
   simp (disch := omega) only [wi]
   congr 1
   omega
theorem UE (n : Nat) (hn : 10000 < n) (d : Int) (hd : -130000 ≤ d ∧ d ≤ 1170000) : ∀ (m : Nat) (y : Int), y.toNat < m → 1600 ≤ y ∧ y ≤ 1970 → ∃ y', lT n m d y = some y' ∧ mR y' ≤ d ∧ 1600 ≤ y' ∧ y' ≤ 1970
 | 0, y, h, _ => by omega
 | m + 1, y, h, hy => by
  have hb := Nf y (by omega)
  rw [lT, xQ, Ow n y hn (by omega)]
  simp only [Option.bind_some]
  by_cases hlt : d < mR y
  ·rw [aa hlt]
   simp (disch := omega) only [wi, td0]
   have e1 := UD
   have h0 := K4 (a := y) (b := 1970) (by omega) (by omega)
   rw [Qq] at h0
   obtain ⟨k, hk⟩ : ∃ k : Nat, (mR y - d) / 366 = (k : Int) := ⟨((mR y - d) / 366).toNat, by omega⟩
   rw [hk]
   have hm := (Kj (k + 1) (y - 1 - k) (by omega)).2
   rw [show y - 1 - (k : Int) + ((k + 1 : Nat) : Int) = y by omega] at hm
   have hlow : 1600 ≤ y - 1 - (k : Int) := by
    by_cases hq : y - 1 - (k : Int) < 1600
    ·have hm2 := (Kj (1600 - (y - 1 - (k : Int))).toNat (y - 1 - k) (by omega)).1
     rw [show y - 1 - (k : Int) + (((1600 - (y - 1 - (k : Int))).toNat : Nat) : Int) = 1600 by omega] at hm2
     omega
    ·omega
   exact UE n hn d hd m (y - 1 - k) (by omega) (by omega)
  ·rw [af hlt]
   exact ⟨y, rfl, by omega, hy.1, hy.2⟩
theorem Zm (n : Nat) (hn : 10000 < n) (d : Int) (hd : -130000 ≤ d ∧ d ≤ 1170000) : ∀ (m : Nat) (y : Int), (6000 - y).toNat < m → 1600 ≤ y → mR y ≤ d → ∃ y', lU n m d y = some y' ∧ InYear y' d ∧ 1600 ≤ y'
 | 0, y, h, hy, hb => by
  have h1 := Qr
  by_cases hq : 5200 < y
  ·have := K4 (a := 5200) (b := y) (by omega) (by omega)
   omega
  ·omega
 | m + 1, y, h, hy, hb => by
  have h1 := Qr
  have hyu : y ≤ 5200 := by
   by_cases hq : 5200 < y
   ·have := K4 (a := 5200) (b := y) (by omega) (by omega)
    omega
   ·omega
  have hbb := Nf (y + 1) (by omega)
  rw [lU, xR, wi (y + 1) (by omega) (by omega), Ow n (y + 1) hn (by omega)]
  simp only [Option.bind_some]
  by_cases hge : d ≥ mR (y + 1)
  ·rw [aa hge]
   simp (disch := omega) only [wi, td0]
   obtain ⟨k, hk⟩ : ∃ k : Nat, (d - mR (y + 1)) / 366 = (k : Int) := ⟨((d - mR (y + 1)) / 366).toNat, by omega⟩
   rw [hk]
   have hm := (Kj k (y + 1) (by omega)).2
   exact Zm n hn d hd m (y + 1 + k) (by omega) (by omega) (by omega)
  ·rw [af hge]
   exact ⟨y, rfl, ⟨hb, by omega⟩, hy⟩
theorem Yy (n : Nat) (hn : 20000 < n) (d : Int) (hd : -130000 ≤ d ∧ d ≤ 1170000) : ∃ y, nC n d = some y ∧ InYear y d ∧ 1600 ≤ y := by
 obtain ⟨y1, h1, h2, h3, _⟩ := UE n (by omega) d hd n 1970 (by omega) (by omega)
 obtain ⟨y2, h4, h5, h6⟩ := Zm n (by omega) d hd n y1 (by omega) h3 h2
 refine ⟨y2, ?_, h5, h6⟩
 unfold nC AJ
 rw [h1]
 simp only [Option.bind_some]
 rw [h4]
 rfl
theorem acp (n m : Nat) (hn : 10000 < n) (r : RuleV) (ha : pM r.a = true) (hb : pM r.b = true) (h1 : -89999 ≤ r.off ∧ r.off ≤ 89999) (h2 : -89999 ≤ r.doff ∧ r.doff ≤ 89999)
 (t y Y : Int) (hy : 2 ≤ y ∧ y ≤ 9998) (hY : 2 ≤ Y ∧ Y ≤ 9996) (hle : y ≤ Y + 1) (s : Bool × Int × Bool) :
 gm n (m + 1) t Y s.2.1 s.2.2 s.1 y r.std r.dst r.off r.doff r.a.k r.a.m r.a.w r.a.d r.a.t r.b.k r.b.m r.b.w r.b.d r.b.t
 = gm n m t Y (jr r t y s).2.1 (jr r t y s).2.2 (jr r t y s).1 (y + 1) r.std r.dst r.off r.doff r.a.k r.a.m r.a.w r.a.d r.a.t r.b.k r.b.m r.b.w r.b.d r.b.t := by
 have b1 := K5 r.a y ha (by omega)
 have b2 := K5 r.b y hb (by omega)
 obtain ⟨met, latest, summer⟩ := s
 rw [gm, ve, wi (Y + 1) (by omega) (by omega), aa hle, Ev, Co, Q4 n r.a y hn ha (by omega), Q4 n r.b y hn hb (by omega)]
 simp only [Option.bind_some]
 rw [wi (l7 r.a y - r.off) (by omega) (by omega), wi (l7 r.b y - r.doff) (by omega) (by omega)]
 have hj2 : xY n t latest summer met (l7 r.a y - r.off) = some ((SS t (l7 r.a y - r.off) true (met, latest, summer)).2.1, (SS t (l7 r.a y - r.off) true (met, latest, summer)).2.2, (SS t (l7 r.a y - r.off) true (met, latest, summer)).1) := by
  rw [xY, Cm, Et, Ck]
  unfold SS
  dsimp only
  generalize l7 r.a y - r.off = u
  by_cases q1 : u ≤ t
  ·rw [aa q1]
   cases met with
   | false => simp [q1]
   | true =>
    by_cases q2 : latest < u
    ·simp [q1, q2]
    ·simp [q1, q2]
  ·rw [af q1]
   simp [q1]
 rw [hj2]
 simp only [Option.bind_some]
 generalize hs2 : SS t (l7 r.a y - r.off) true (met, latest, summer) = s2
 obtain ⟨met2, latest2, summer2⟩ := s2
 have hstep : jr r t y (met, latest, summer) = SS t (l7 r.b y - r.doff) false (met2, latest2, summer2) := by unfold jr; rw [hs2]
 rw [hstep]
 rw [Eu, Cn]
 unfold SS
 dsimp only
 rw [wi (y + 1) (by omega) (by omega)]
 generalize l7 r.b y - r.doff = u
 by_cases q1 : u ≤ t
 ·rw [aa q1]
  cases met2 with
  | false => simp [q1]
  | true =>
   by_cases q2 : latest2 ≤ u
   ·have q3 : latest2 < u ∨ u = latest2 := by omega
    simp [q1, q2, q3]
   ·have q3 : ¬ (latest2 < u ∨ u = latest2) := by omega
    simp [q1, q2, q3]
 ·rw [af q1]
  simp [q1]
theorem rat_val (n : Nat) (r : RuleV) (s : Int) (hn : 20000 < n) (h : gy r = true) (hd : r.dst ≠ []) :
 ∃ y, InYear y ((iO s + r.off) / 86400) ∧ 1600 ≤ y ∧ y ≤ 5200 ∧ dF n r.std r.dst r.off r.doff r.a.k r.a.m r.a.w r.a.d r.a.t r.b.k r.b.m r.b.w r.b.d r.b.t s = some (Qs r (iO s) y) := by
 obtain ⟨h1, h2, h3, h4⟩ := Gq h
 obtain ⟨h4, _, h5, h6, h7, h8⟩ := h4.resolve_left (fun q => hd q.1)
 have l1 : r.std.length ≤ 10 := by unfold sS at h1; simp only [Bool.and_eq_true, decide_eq_true_eq] at h1; exact h1.1.2
 have l2 : r.dst.length ≤ 10 := by unfold sS at h4; simp only [Bool.and_eq_true, decide_eq_true_eq] at h4; exact h4.1.2
 have hc := UC s
 obtain ⟨y, k1, k2, k3⟩ := Yy n hn ((iO s + r.off) / 86400) (by omega)
 have hy := Zl (by omega) k2 (by omega)
 refine ⟨y, k2, hy.1, hy.2, ?_⟩
 unfold dF tQ
 rw [rright_val n _ _ _ _ _ _ _ _ _ _ _ _ _ _ (by omega) (by omega) (by omega) (by omega)]
 rw [show gy ⟨r.std, r.dst, r.off, r.doff, ⟨r.a.k, r.a.m, r.a.w, r.a.d, r.a.t⟩, ⟨r.b.k, r.b.m, r.b.w, r.b.d, r.b.t⟩⟩ = true from h]
 simp only [Option.bind_some, Bool.not_true, cond_false]
 rw [show (r.dst == ([] : Str)) = false by simpa using hd, cond_false]
 change ((oF n (IntKind.i64.wrap (iO s + r.off)) 86400).bind fun o316 => (nC n o316).bind fun o329 => (gm n n (iO s) o329 0 false false (IntKind.i64.wrap (o329 - 2)) r.std r.dst r.off r.doff r.a.k r.a.m r.a.w r.a.d r.a.t r.b.k r.b.m r.b.w r.b.d r.b.t).bind _) = _
 rw [wi (iO s + r.off) (by omega) (by omega), Yx n _ (by omega)]
 simp only [Option.bind_some]
 rw [k1]
 simp only [Option.bind_some]
 rw [wi (y - 2) (by omega) (by omega)]
 obtain ⟨k, hk⟩ : ∃ k, n = k + 1 + 1 + 1 + 1 + 1 := ⟨n - 5, by omega⟩
 have st := fun m (z : Int) (hz : y - 2 ≤ z ∧ z ≤ y + 1) s' => acp n m (by omega) r h7 h8 (by omega) (by omega) (iO s) z y (by omega) (by omega) hz.2 s'
 conv => lhs; arg 1; arg 2; rw [hk]
 rw [st _ (y - 2) (by omega) (false, 0, false), st _ (y - 2 + 1) (by omega), st _ (y - 2 + 1 + 1) (by omega), st _ (y - 2 + 1 + 1 + 1) (by omega)]
 rw [gm, ve, wi (y + 1) (by omega) (by omega), af (by omega)]
 simp only [Option.bind_some]
 unfold Qs Yw
 rw [show y - 2 + 1 = y - 1 by omega, show y - 1 + 1 = y by omega]
 cases (jr r (iO s) (y + 1) (jr r (iO s) y (jr r (iO s) (y - 1) (jr r (iO s) (y - 2) (false, 0, false))))).2.2 <;> rfl
theorem aaA (n : Nat) (r : RuleV) (s : Int) (h : gy r = true) (hd : r.dst = []) (hs : r.std.length < 9223372036854775808) (hn : r.std.length < n) :
 dF n r.std r.dst r.off r.doff r.a.k r.a.m r.a.w r.a.d r.a.t r.b.k r.b.m r.b.w r.b.d r.b.t s = some (r.off, false) := by
 unfold dF tQ
 rw [rright_val n _ _ _ _ _ _ _ _ _ _ _ _ _ _ hs hn (by rw [hd]; simp) (by rw [hd]; simp; omega)]
 rw [show gy ⟨r.std, r.dst, r.off, r.doff, ⟨r.a.k, r.a.m, r.a.w, r.a.d, r.a.t⟩, ⟨r.b.k, r.b.m, r.b.w, r.b.d, r.b.t⟩⟩ = true from h, hd]
 rfl
theorem adL (n : Nat) (r : RuleV) (s : Int) (h : gy r = false) (hs : r.std.length < 9223372036854775808) (hn : r.std.length < n) (hs' : r.dst.length < 9223372036854775808) (hn' : r.dst.length < n) :
 dF n r.std r.dst r.off r.doff r.a.k r.a.m r.a.w r.a.d r.a.t r.b.k r.b.m r.b.w r.b.d r.b.t s = some (0, false) := by
 unfold dF tQ
 rw [rright_val n _ _ _ _ _ _ _ _ _ _ _ _ _ _ hs hn hs' hn']
 rw [show gy ⟨r.std, r.dst, r.off, r.doff, ⟨r.a.k, r.a.m, r.a.w, r.a.d, r.a.t⟩, ⟨r.b.k, r.b.m, r.b.w, r.b.d, r.b.t⟩⟩ = false from h]
 rfl
theorem adM (n : Nat) (r : RuleV) (s : Int) (hn : 20000 < n) (hs : r.std.length < 9223372036854775808) (h1 : r.std.length < n) (hs' : r.dst.length < 9223372036854775808) (h1' : r.dst.length < n) :
 ∃ o, rA n r.std r.dst r.off r.doff r.a.k r.a.m r.a.w r.a.d r.a.t r.b.k r.b.m r.b.w r.b.d r.b.t s = some o ∧ dF n r.std r.dst r.off r.doff r.a.k r.a.m r.a.w r.a.d r.a.t r.b.k r.b.m r.b.w r.b.d r.b.t s = some o := by
 cases h : gy r with
 | false => exact ⟨_, aeK n r s h hs h1 hs' h1', adL n r s h hs h1 hs' h1'⟩
 | true =>
  by_cases hd : r.dst = []
  ·exact ⟨_, aco n r s (by omega) h hd, aaA n r s h hd hs h1⟩
  ·obtain ⟨y, a1, a2, a3, a4⟩ := at_val n r s (by omega) h hd
   obtain ⟨z, b1, b2, b3, b4⟩ := rat_val n r s hn h hd
   have := InYear.one (by omega) (by omega) a1 b1
   subst this
   exact ⟨_, a4, b4⟩
end Go.Proofs.YtiegmpnagcdgoaaGreatDoor.H
namespace Go.Proofs.YtiegmpnagcdgoaaGreatDoor.H.Z
open Go.Sh Go.RowKit
set_option linter.unusedSimpArgs false
set_option linter.unusedVariables false
abbrev Ty := Int × Bool × Str
def cT (t : Ty) : List AV := [.int .i64 t.1, .bool t.2.1, .str t.2.2]
theorem wi (x : Int) (h : -9223372036854775808 ≤ x) (h2 : x ≤ 9223372036854775807) : IntKind.i64.wrap x = x := IntWalk.i64_in _ (by omega)
def okC (low : Int) (c : UInt8) : Bool := !decide ((c.toNat : Int) < low) && !decide ((c.toNat : Int) > 126)
def textS (s : Str) (many low : Int) : Bool := decide ((s.length : Int) ≤ many) && s.all (okC low)
theorem acr (s : Str) (i : Nat) : (dN s)[i]? = (s[i]?).map fun c => (c.toNat : Int) := by simp [dN]
theorem SV (n : Nat) (low : Int) (s : Str) (hs : s.length < 4000000000000000000) : ∀ (r : Str) (i m : Nat), s.drop i = r → r.length < m →
 (r.all (okC low) = true → aK n m (dN s) (s.length : Int) (i : Int) low = some (Sum.inr low)) ∧
 (r.all (okC low) = false → ∃ j : Int, 0 ≤ j ∧ aK n m (dN s) (s.length : Int) (i : Int) low = some (Sum.inl (j, low)))
 | [], i, m + 1, h, _ => by
  have hi := drop_nil h
  refine ⟨fun _ => ?_, fun h => by simp at h⟩
  simp only [aK, dC]
  rw [af (by omega)]
 | c :: r, i, m + 1, h, hm => by
  obtain ⟨h1, h2, h3⟩ := dV h
  obtain ⟨ih1, ih2⟩ := SV n low s hs r (i + 1) m h2 (by simpa using hm)
  have e : aK n (m + 1) (dN s) (s.length : Int) (i : Int) low = cond (!okC low c) (some (Sum.inl ((i : Int), low))) (aK n m (dN s) (s.length : Int) ((i + 1 : Nat) : Int) low) := by
   simp only [aK, dC]
   rw [aa (by omega), aa (by omega), Int.toNat_natCast, acr, h1, pK _ (by omega)]
   simp only [Option.map_some, Option.bind_some, Jr, DK, okC]
   by_cases hl : (c.toNat : Int) < low
   ·simp [hl]
   ·by_cases hh : (c.toNat : Int) > 126 <;> simp [hl, hh]
  rw [e]
  cases hc : okC low c with
  | true =>
   simp only [List.all_cons, hc, Bool.true_and, Bool.not_true, cond_false]
   exact ⟨ih1, ih2⟩
  | false => simp [hc]
theorem Xf (n : Nat) (s : Str) (many low : Int) (hm : many < 4000000000000000000) (hn : (s.length : Int) ≤ many → s.length < n) : Ee n s many low = some (textS s many low) := by
 unfold Ee I6 textS
 by_cases h : (s.length : Int) ≤ many
 ·rw [aa h, decide_eq_true h, Bool.true_and]
  have hn' := hn h
  obtain ⟨h1, h2⟩ := SV n low s (by omega) s 0 n (by simp) hn'
  simp only [kz, fH, nI, iQ, NM]
  cases hc : s.all (okC low) with
  | true =>
   have := h1 hc
   simp only [Int.natCast_zero] at this
   rw [this]
   simp
  | false =>
   obtain ⟨j, hj, this⟩ := h2 hc
   simp only [Int.natCast_zero] at this
   rw [this]
   simp [hj]
 ·rw [af h, decide_eq_false h, Bool.false_and]
def okT (t : Ty) : Bool := !decide (t.1 < -89999) && !decide (t.1 > 93599) && !(t.2.2 == []) && textS t.2.2 15 33
def Rk : List Ty → Nat
 | [] => 0
 | t :: r => t.2.2.length + 1 + Rk r
theorem acs (n : Nat) (hn : 16 ≤ n) (h0 : List (List AV)) (h1 h2 : List Int) (h3 : Str) (t : Ty) : y5 n h0 h1 h2 h3 t.1 t.2.1 t.2.2 = some (!okT t, h0, h1, h2, h3, t.1, t.2.1, t.2.2) := by
 unfold y5 zG okT
 rw [Xf n t.2.2 15 33 (by omega) (fun h => by omega)]
 by_cases c1 : t.1 < -89999
 ·simp [c1]
 ·by_cases c2 : t.1 > 93599
  ·simp [c1, c2]
  ·cases c3 : t.2.2 == [] <;> simp [c1, c2, c3]
theorem okT_len {t : Ty} (h : okT t = true) : t.2.2.length ≤ 15 := by
 simp only [okT, textS, Bool.and_eq_true, decide_eq_true_eq] at h
 omega
theorem Xg (n : Nat) (hn : 16 ≤ n) (ts : List Ty) (h0 : List (List AV)) (h1 h2 : List Int) (h3 : Str) (hts : ts.length ≤ 255) : ∀ (r : List Ty) (i m x : Nat), ts.drop i = r → r.length < m → x ≤ 16 * i →
 oM n m (x : Int) (ts.map cT) (ts.length : Int) (i : Int) h0 h1 h2 h3 = some (if r.all okT then Sum.inr (((x + Rk r : Nat) : Int), h0, h1, h2, h3) else Sum.inl ())
 | [], i, m + 1, x, h, _, _ => by
  have hi := drop_nil h
  simp only [oM, vR]
  rw [af (by omega)]
  simp [Rk]
 | t :: r, i, m + 1, x, h, hm, hx => by
  obtain ⟨k1, k2, k3⟩ := dV h
  simp only [oM, vR]
  rw [aa (by omega), aa (by omega), Int.toNat_natCast, List.getElem?_map, k1, pK _ (by omega)]
  simp only [Option.map_some, Option.bind_some, cT, unc, vM, Bd, Be, unn, acs n hn]
  cases hc : okT t with
  | false => simp [hc]
  | true =>
   have hl := okT_len hc
   simp only [hc, Bool.not_true, cond_false]
   have e : IntKind.i64.wrap ((x : Int) + IntKind.i64.wrap ((t.2.2.length : Int) + 1)) = ((x + (t.2.2.length + 1) : Nat) : Int) := by
    rw [wi ((t.2.2.length : Int) + 1) (by omega) (by omega), wi _ (by omega) (by omega)]; omega
   rw [e, Xg n hn ts h0 h1 h2 h3 hts r (i + 1) m _ k2 (by simpa using hm) (by omega)]
   simp only [List.all_cons, hc, Bool.true_and, Rk, Nat.add_assoc, decide_true, cond_true]
def okAt (ti ix : List Int) (len k : Nat) : Bool := decide (0 ≤ ix.getD k 0) && decide (ix.getD k 0 < len) && (k == 0 || decide (ti.getD (k - 1) 0 < ti.getD k 0))
theorem adN {l : List Int} {i : Nat} {v : Int} (h : l[i]? = some v) : l.getD i 0 = v := by rw [List.getD_eq_getElem?_getD, h]; rfl
theorem get_of {l : List Int} {i : Nat} (h : i < l.length) : l[i]? = some (l.getD i 0) := by rw [List.getD_eq_getElem?_getD, List.getElem?_eq_getElem h]; rfl
theorem acu (n : Nat) (h0 : List (List AV)) (ti ix : List Int) (h3 : Str) (i : Nat) (v : Int) (hv : ix[i]? = some v) (hi : i < ti.length) (hb : ti.length ≤ 4000) : y7 n (i : Int) v h0 ti ix h3 = some (!okAt ti ix h0.length i, h0, ti, ix, h3) := by
 unfold y7 zH okAt
 rw [adN hv]
 by_cases c1 : v < 0
 ·rw [aa c1]; simp [show ¬ (0 ≤ v) by omega]
 ·rw [af c1, decide_eq_true (show 0 ≤ v by omega)]
  by_cases c2 : v ≥ (h0.length : Int)
  ·rw [aa c2]; simp [show ¬ (v < (h0.length : Int)) by omega]
  ·rw [af c2, decide_eq_true (show v < (h0.length : Int) by omega)]
   by_cases c3 : (i : Int) > 0
   ·rw [aa c3, aa (by omega), Int.toNat_natCast, get_of hi, Option.bind_some, wi _ (by omega) (by omega), aa (by omega), show ((i : Int) - 1).toNat = i - 1 by omega, get_of (show i - 1 < ti.length by omega), Option.bind_some]
    have : (i == 0) = false := by simp; omega
    rw [this]
    by_cases c4 : ti.getD i 0 ≤ ti.getD (i - 1) 0
    ·rw [decide_eq_true c4, decide_eq_false (show ¬ (ti.getD (i - 1) 0 < ti.getD i 0) by omega)]; rfl
    ·rw [decide_eq_false c4, decide_eq_true (show ti.getD (i - 1) 0 < ti.getD i 0 by omega)]; rfl
   ·rw [af c3]
    have : i = 0 := by omega
    subst this
    simp
theorem Xh (n : Nat) (h0 : List (List AV)) (ti ix : List Int) (h3 : Str) (hl : ti.length = ix.length) (hb : ti.length ≤ 4000) : ∀ (k i m : Nat), i + k = ix.length → k < m →
 oN n m ix (ix.length : Int) (i : Int) h0 ti ix h3 = some (if (List.range' i k).all (okAt ti ix h0.length) then Sum.inr (h0, ti, ix, h3) else Sum.inl (h0, ti, ix, h3))
 | 0, i, m + 1, h, _ => by
  simp only [oN, vS]
  rw [af (by omega)]
  simp
 | k + 1, i, m + 1, h, hm => by
  simp only [oN, vS]
  have hi : i < ix.length := by omega
  rw [aa (by omega), aa (by omega), Int.toNat_natCast, get_of hi, pK _ (by omega)]
  simp only [Option.bind_some, acu n h0 ti ix h3 i _ (get_of hi) (by omega) hb, List.range'_succ, List.all_cons]
  cases hc : okAt ti ix h0.length i with
  | false => simp
  | true =>
   simp only [Bool.not_true, cond_false, Bool.true_and]
   exact Xh n h0 ti ix h3 hl hb k (i + 1) m (by omega) (by omega)
def RightS (ts : List Ty) (ti ix : List Int) (foot : Str) : Bool :=
 decide (1 ≤ ts.length) && decide (ts.length ≤ 255) && decide (ti.length ≤ 4000) && decide (ti.length = ix.length) && textS foot 100 32 && ts.all okT && (List.range' 0 ix.length).all (okAt ti ix ts.length) && decide (Rk ts ≤ 256)
theorem right_val (n : Nat) (hn : 4001 ≤ n) (ts : List Ty) (ti ix : List Int) (foot : Str) : yu n (ts.map cT) ti ix foot = some (RightS ts ti ix foot) := by
 unfold yu FH DL zF RightS
 simp only [List.length_map]
 by_cases c1 : (ts.length : Int) < 1
 ·rw [aa c1]; simp [show ¬ (1 ≤ ts.length) by omega]
 rw [af c1, decide_eq_true (show 1 ≤ ts.length by omega)]
 by_cases c2 : (ts.length : Int) > 255
 ·rw [aa c2]; simp [show ¬ (ts.length ≤ 255) by omega]
 rw [af c2, decide_eq_true (show ts.length ≤ 255 by omega)]
 by_cases c3 : (ti.length : Int) > 4000
 ·rw [aa c3]; simp [show ¬ (ti.length ≤ 4000) by omega]
 rw [af c3, decide_eq_true (show ti.length ≤ 4000 by omega)]
 by_cases c4 : ti.length = ix.length
 case neg =>
  have : ((ti.length : Int) != (ix.length : Int)) = true := by simp; omega
  rw [this]; simp [c4]
 have : ((ti.length : Int) != (ix.length : Int)) = false := by simp; omega
 rw [this, decide_eq_true c4, Xf n foot 100 32 (by omega) (fun h => by omega)]
 simp only [cond_false, Option.bind_some, Bool.true_and]
 cases c5 : textS foot 100 32 with
 | false => simp
 | true =>
  have e1 := Xg n (by omega) ts (ts.map cT) ti ix foot (by omega) ts 0 n 0 (by simp) (by omega) (by omega)
  simp only [Int.natCast_zero, Nat.zero_add] at e1
  simp only [Bool.not_true, cond_false, List.length_map, e1, Option.bind_some]
  cases c6 : ts.all okT with
  | false => simp
  | true =>
   have e2 := Xh n (ts.map cT) ti ix foot c4 (by omega) ix.length 0 n (by omega) (by omega)
   simp only [Int.natCast_zero, List.length_map] at e2
   simp only [if_true, Sum.elim_inr, e2, Option.bind_some]
   cases c7 : (List.range' 0 ix.length).all (okAt ti ix ts.length) with
   | false => simp
   | true =>
    simp only [if_true, Sum.elim_inr, Bool.true_and]
    congr 1
    rw [decide_eq_decide]; omega
end Go.Proofs.YtiegmpnagcdgoaaGreatDoor.H.Z
namespace Go.Sh
open Go.RowKit
set_option linter.unusedSimpArgs false
set_option linter.unusedVariables false
def Ox (W : World) (b : Nat) : Nat := match W.heap[b]? with
 | some (.cells c _ _) => c.size
 | _ => 0
def gW (W : World) : Gh := ⟨[], Ox W⟩
theorem UF {W : World} {a : Addr} {v : Value} (h : W.cell? a = some v) : a.spot = none ∧ a.off < Ox W a.block := by
 unfold World.cell? at h
 unfold Ox
 split at h
 ·rename_i c t f hb
  simp only [hb]
  split at h
  ·cases h
  ·rename_i hs
   refine ⟨by simpa using hs, ?_⟩
   obtain ⟨h1, _⟩ := Array.getElem?_eq_some_iff.1 h
   exact h1
 ·cases h
theorem aaB {W : World} {b : Nat} (h : 0 < Ox W b) : b < W.heap.size := by
 unfold Ox at h
 split at h
 ·rename_i hb
  obtain ⟨h1, _⟩ := Array.getElem?_eq_some_iff.1 hb
  exact h1
 ·omega
inductive LD where
 | int (k : IntKind)
 | bool
 | str
 | ints (k : IntKind)
 | strs
 | sl (es : List LD)
mutual
def LD.sat : LD → AV → Prop
 | .int k, a => ∃ n, a = .int k n ∧ (Lit.int k n).wf = true
 | .bool, a => ∃ b, a = .bool b
 | .str, a => ∃ s, a = .str s ∧ s.length ≤ 9223372036854775807
 | .ints k, a => ∃ l, a = .ints false k l ∧ ∀ n ∈ l, (Lit.int k n).wf = true
 | .strs, a => ∃ l, a = .strs false l
 | .sl es, a => ∃ els, a = .sl false es.length els ∧ ∀ e ∈ els, LD.qR es e
def LD.qR : List LD → List AV → Prop
 | [], az => az = []
 | d :: ds, az => ∃ a bs, az = a :: bs ∧ LD.sat d a ∧ LD.qR ds bs
end
theorem MO : ∀ {ds es : List LD} {az bs : List AV}, LD.qR ds az → LD.qR es bs → LD.qR (ds ++ es) (az ++ bs)
 | [], _, _, _, h, k => by simp only [LD.qR] at h; subst h; exact k
 | d :: ds, _, _, _, h, k => by
  simp only [LD.qR] at h
  obtain ⟨a, bs, rfl, h1, h2⟩ := h
  simp only [List.cons_append, LD.qR]
  exact ⟨a, _, rfl, h1, MO h2 k⟩
theorem Q5 : ∀ {ds : List LD} {az : List AV}, LD.qR ds az → az.length = ds.length
 | [], _, h => by simp only [LD.qR] at h; subst h; rfl
 | d :: ds, _, h => by
  simp only [LD.qR] at h
  obtain ⟨a, bs, rfl, h1, h2⟩ := h
  simp [Q5 h2]
theorem Oy {g : Gh} {w : World} : ∀ {az bs : List AV} {vs us : List Value}, VRs g w az vs → VRs g w bs us → VRs g w (az ++ bs) (vs ++ us)
 | [], _, _, _, h, k => by simp only [VRs] at h; subst h; exact k
 | a :: az, _, _, _, h, k => by
  simp only [VRs] at h
  obtain ⟨v, us, rfl, h1, h2⟩ := h
  simp only [List.cons_append, VRs]
  exact ⟨v, _, rfl, h1, Oy h2 k⟩
theorem Xi {d : LD} {a : AV} {v : Value} (h : LD.sat d a) : owns a v = [] := by
 cases d <;> simp only [LD.sat] at h
 ·obtain ⟨n, rfl, _⟩ := h; cases v <;> rfl
 ·obtain ⟨n, rfl⟩ := h; cases v <;> rfl
 ·obtain ⟨n, rfl, _⟩ := h; cases v <;> rfl
 ·obtain ⟨n, rfl, _⟩ := h; cases v <;> rfl
 ·obtain ⟨n, rfl⟩ := h; cases v <;> rfl
 ·obtain ⟨n, rfl, _⟩ := h; cases v <;> rfl
theorem UG : ∀ {ds : List LD} {az : List AV} (vs : List Value), LD.qR ds az → aH az vs = []
 | [], _, vs, h => by simp only [LD.qR] at h; subst h; cases vs <;> rfl
 | d :: ds, _, vs, h => by
  simp only [LD.qR] at h
  obtain ⟨a, bs, rfl, h1, h2⟩ := h
  cases vs with
  | nil => rfl
  | cons v vs => simp only [aH, Xi h1, UG vs h2, List.nil_append]
theorem aaC {d : LD} {a : AV} (h : LD.sat d a) : xc a = true := by
 cases d <;> simp only [LD.sat] at h
 ·obtain ⟨n, rfl, _⟩ := h; rfl
 ·obtain ⟨n, rfl⟩ := h; rfl
 ·obtain ⟨n, rfl, _⟩ := h; rfl
 ·obtain ⟨n, rfl, _⟩ := h; rfl
 ·obtain ⟨n, rfl⟩ := h; rfl
 ·obtain ⟨n, rfl, _⟩ := h; rfl
theorem SX : ∀ {ds : List LD} {az : List AV}, LD.qR ds az → lh az = true
 | [], _, h => by simp only [LD.qR] at h; subst h; rfl
 | d :: ds, _, h => by
  simp only [LD.qR] at h
  obtain ⟨a, bs, rfl, h1, h2⟩ := h
  simp only [lh, aaC h1, SX h2, Bool.and_self]
theorem Xj {g : Gh} {w : World} {d : LD} {a : AV} {v : Value} (h : LD.sat d a) (hv : VR g w a v) : v.oneCell' = true := by
 cases d <;> simp only [LD.sat] at h
 ·obtain ⟨n, rfl, _⟩ := h; simp only [VR] at hv; subst hv; rfl
 ·obtain ⟨n, rfl⟩ := h; simp only [VR] at hv; subst hv; rfl
 ·obtain ⟨n, rfl, _⟩ := h; simp only [VR] at hv; obtain ⟨s, rfl, _⟩ := hv; rfl
 ·obtain ⟨n, rfl, _⟩ := h; simp only [VR] at hv; obtain ⟨a, n, c, rfl, _⟩ := hv; rfl
 ·obtain ⟨n, rfl⟩ := h; simp only [VR] at hv; obtain ⟨a, n, c, rfl, _⟩ := hv; rfl
 ·obtain ⟨n, rfl, _⟩ := h; simp only [VR] at hv; obtain ⟨a, n, c, vs, rfl, _⟩ := hv; rfl
theorem PM {g : Gh} {w : World} : ∀ {ds : List LD} {az : List AV} {vs : List Value}, LD.qR ds az → VRs g w az vs → ∀ u ∈ vs, u.oneCell' = true
 | [], _, _, h, k => by simp only [LD.qR] at h; subst h; simp only [VRs] at k; subst k; intro u hu; cases hu
 | d :: ds, _, _, h, k => by
  simp only [LD.qR] at h
  obtain ⟨a, bs, rfl, h1, h2⟩ := h
  simp only [VRs] at k
  obtain ⟨v, us, rfl, k1, k2⟩ := k
  intro u hu
  rcases List.mem_cons.1 hu with rfl | hu
  ·exact Xj h1 k1
  ·exact PM h2 k2 u hu
def VB : List LD → LD
 | [.int k] => .ints k
 | [.str] => .strs
 | es => .sl es
def acv (P : Program) (g : TypeId → Option (List LD)) : Nat → List Field → Option (List LD)
 | _, [] => some []
 | off, f :: fs => match g f.type with
  | some l => if f.offset = off ∧ l.length = P.cellsOf f.type then (acv P g (off + l.length) fs).map (l ++ ·) else none
  | none => none
def Xk (P : Program) : Nat → TypeId → Option (List LD)
 | 0, _ => none
 | n + 1, t => match P.underlying t with
  | some .bool => some [.bool]
  | some (.int k) => some [.int k]
  | some .string => some [.str]
  | some (.slice e) => match Xk P n e with
   | some es => if es.length = P.cellsOf e ∧ 0 < es.length then some [VB es] else none
   | none => none
  | some (.struct fs) => match acv P (Xk P n) 0 fs.toList with
   | some l => if l.length = P.cellsOf t then some l else none
   | none => none
  | some (.array k e) => match Xk P n e with
   | some es => if es.length = P.cellsOf e ∧ k * es.length = P.cellsOf t then some (List.replicate k es).flatten else none
   | none => none
  | _ => none
variable {H : Type} {enc : TypeId × Value → H} {P : Program} {W : World}
theorem aaD {a : Addr} {n : Nat} {cs : List Value} (h : W.cells? 0 a n = some cs) : cs.length = n ∧ ∀ i, i < n → W.cell? (a.add i) = cs[i]? := by
 unfold World.cells? at h
 rw [if_pos (Nat.zero_le _)] at h
 have h1 := mapM_some_length h
 simp only [List.length_range] at h1
 exact ⟨h1, fun i hi => mapM_some_get h i i (by simp [hi])⟩
theorem add_add (a : Addr) (i j : Nat) : (a.add i).add j = a.add (i + j) := by
 unfold Addr.add
 by_cases hi : i = 0
 ·subst hi; simp
 ·by_cases hj : j = 0
  ·subst hj; simp [hi]
  ·simp only [if_neg hi, if_neg hj, if_neg (show ¬ i + j = 0 by omega)]
   simp [Nat.add_assoc]
theorem Xl {a : Addr} {q : Nat} {v : Value} (h : W.cell? (a.add q) = some v) (hs : a.spot = none) : a.off + q < Ox W a.block ∧ W.cell? ⟨a.block, a.off + q, none⟩ = some v := by
 have h2 : a.add q = ⟨a.block, a.off + q, none⟩ := by
  unfold Addr.add
  split
  ·rename_i h0
   subst h0
   cases a
   simp only at hs
   subst hs
   simp
  ·rfl
 rw [h2] at h
 exact ⟨(UF h).2, h⟩
theorem elems {n : Nat} {e : TypeId} {es : List LD} (hsz : es.length = P.cellsOf e) (hpos : 0 < es.length) (a : Addr) (len : Nat)
 (hel : ∀ i, i < len → ∃ az cs', W.cells? 0 (a.add (i * P.cellsOf e)) (P.cellsOf e) = some cs' ∧ VRs (gW W) W az cs' ∧ LD.qR es az) :
 ∃ els vs, els.length = len ∧ vs.length = len * es.length ∧ VRss (gW W) W els vs ∧ (∀ x ∈ els, LD.qR es x) ∧ (∀ q, q < vs.length → W.cell? (a.add q) = vs[q]?) ∧ ∀ u ∈ vs, u.oneCell' = true := by
 induction len with
 | zero => exact ⟨[], [], rfl, by simp, by simp [VRss], by simp, by simp, by simp⟩
 | succ len ih =>
  obtain ⟨els, vs, h1, h2, h3, h4, h5, h6⟩ := ih fun i hi => hel i (by omega)
  obtain ⟨az, cs', k1, k2, k3⟩ := hel len (by omega)
  obtain ⟨c1, c2⟩ := aaD k1
  refine ⟨els ++ [az], vs ++ cs', by simp [h1], by simp [h2, c1, hsz, Nat.add_mul], VRss.append h3 (by simp only [VRss]; exact ⟨cs', [], by simp, k2, rfl⟩), ?_, ?_, ?_⟩
  ·intro x hx
   rcases List.mem_append.1 hx with hx | hx
   ·exact h4 x hx
   ·simp at hx; subst hx; exact k3
  ·intro q hq
   by_cases hlt : q < vs.length
   ·rw [List.getElem?_append_left hlt]; exact h5 q hlt
   ·rw [List.getElem?_append_right (by omega)]
    have hq' : q - vs.length < P.cellsOf e := by simp only [List.length_append] at hq; omega
    have := c2 (q - vs.length) hq'
    rw [add_add] at this
    rw [← this, ← hsz, ← h2]
    congr 2
    omega
  ·intro u hu
   rcases List.mem_append.1 hu with hu | hu
   ·exact h6 u hu
   ·exact PM k3 k2 u hu
theorem Zn {k : IntKind} : ∀ {els : List (List AV)} {vs : List Value}, VRss (gW W) W els vs → (∀ x ∈ els, LD.qR [.int k] x) → ∃ l : List Int, vs = l.map (Value.int k) ∧ l.length = els.length ∧ ∀ n ∈ l, (Lit.int k n).wf = true
 | [], vs, h, _ => by simp only [VRss] at h; subst h; exact ⟨[], rfl, rfl, by simp⟩
 | e :: els, vs, h, hs => by
  simp only [VRss] at h
  obtain ⟨p, q, rfl, h1, h2⟩ := h
  obtain ⟨l, rfl, hl, hw⟩ := Zn h2 fun x hx => hs x (by simp [hx])
  have he := hs e (by simp)
  simp only [LD.qR] at he
  obtain ⟨a, bs, rfl, ha, rfl⟩ := he
  simp only [LD.sat] at ha
  obtain ⟨n, rfl, hn⟩ := ha
  simp only [VRs, VR] at h1
  obtain ⟨v, us, rfl, rfl, rfl⟩ := h1
  exact ⟨n :: l, rfl, by simp [hl], by intro m hm; rcases List.mem_cons.1 hm with rfl | hm; exact hn; exact hw m hm⟩
theorem Zp : ∀ {els : List (List AV)} {vs : List Value}, VRss (gW W) W els vs → (∀ x ∈ els, LD.qR [.str] x) → ∃ l : List Str, vs = l.map (fun s => Value.string ⟨s.toArray⟩) ∧ l.length = els.length
 | [], vs, h, _ => by simp only [VRss] at h; subst h; exact ⟨[], rfl, rfl⟩
 | e :: els, vs, h, hs => by
  simp only [VRss] at h
  obtain ⟨p, q, rfl, h1, h2⟩ := h
  obtain ⟨l, rfl, hl⟩ := Zp h2 fun x hx => hs x (by simp [hx])
  have he := hs e (by simp)
  simp only [LD.qR] at he
  obtain ⟨a, bs, rfl, ha, rfl⟩ := he
  simp only [LD.sat] at ha
  obtain ⟨s, rfl, _⟩ := ha
  simp only [VRs, VR] at h1
  obtain ⟨v, us, rfl, ⟨z, rfl, rfl⟩, rfl⟩ := h1
  exact ⟨z.data.toList :: l, by simp, by simp [hl]⟩
theorem UH {es : List LD} (hpos : 0 < es.length) {a : Option Addr} {len cap : Nat} {els : List (List AV)} {vs : List Value} (hlc : len ≤ cap) (h1 : els.length = len) (h2 : vs.length = len * es.length) (h3 : VRss (gW W) W els vs) (h4 : ∀ x ∈ els, LD.qR es x)
 (h5 : 0 < vs.length → ∃ ad, a = some ad ∧ ∀ q, q < vs.length → W.cell? (ad.add q) = vs[q]?) (h6 : ∀ u ∈ vs, u.oneCell' = true) (h7 : a = none → len = 0 ∧ cap = 0) :
 ∃ av, VR (gW W) W av (.slice a len cap) ∧ LD.sat (VB es) av := by
 have hrow : Row (gW W) W false a len cap es.length vs := by
  refine ⟨h2, hlc, Nat.zero_le _, fun hp => ?_, (fun h => by cases h), h7, h6⟩
  obtain ⟨ad, rfl, k5⟩ := h5 hp
  refine ⟨ad, rfl, ?_⟩
  have hs : ad.spot = none := by
   have h0 := k5 0 hp
   rw [List.getElem?_eq_getElem hp] at h0
   exact (UF (a := ad.add 0) h0).1
  have hl := k5 (vs.length - 1) (by omega)
  rw [List.getElem?_eq_getElem (by omega)] at hl
  refine ⟨hs, ?_, fun j hj => ?_⟩
  ·have := (Xl hl hs).1
   show ad.off + vs.length ≤ Ox W ad.block
   omega
  ·have hj' := k5 j hj
   rw [List.getElem?_eq_getElem hj] at hj' ⊢
   exact (Xl hj' hs).2
 have gen : ∃ av, VR (gW W) W av (.slice a len cap) ∧ LD.sat (.sl es) av := by
  refine ⟨.sl false es.length els, ?_, ?_⟩
  ·simp only [VR]
   exact ⟨a, len, cap, vs, rfl, hrow, h1, fun e he => ⟨Q5 (h4 e he), SX (h4 e he)⟩, h3⟩
  ·simp only [LD.sat]
   exact ⟨els, rfl, h4⟩
 unfold VB
 split
 ·rename_i k
  obtain ⟨l, rfl, hl, hw⟩ := Zn h3 h4
  refine ⟨.ints false k l, ?_, ?_⟩
  ·simp only [VR]
   exact ⟨a, len, cap, rfl, hrow⟩
  ·simp only [LD.sat]
   exact ⟨l, rfl, hw⟩
 ·obtain ⟨l, rfl, hl⟩ := Zp h3 h4
  refine ⟨.strs false l, ?_, ?_⟩
  ·simp only [VR]
   exact ⟨a, len, cap, rfl, hrow⟩
  ·simp only [LD.sat]
   exact ⟨l, rfl⟩
 ·exact gen
theorem Q6 {sp : Nat → Bool} {held : Bool} {g : TypeId → Option (List LD)} {m : Nat} (hg : ∀ t lds, g t = some lds → ∀ (cs : List Value) x, DataW.trod enc P W 0 sp held m t cs = some x → ∃ az, VRs (gW W) W az cs ∧ LD.qR lds az) :
 ∀ (fs : List Field) (off : Nat) (l : List LD) (cs : List Value), acv P g off fs = some l → off + l.length = cs.length → (∀ f ∈ fs, ∃ x, DataW.trod enc P W 0 sp held m f.type ((cs.drop f.offset).take (P.cellsOf f.type)) = some x) → ∃ az, VRs (gW W) W az (cs.drop off) ∧ LD.qR l az
 | [], off, l, cs, h, hl, _ => by
  simp only [acv, Option.some.injEq] at h
  subst h
  simp only [List.length_nil, Nat.add_zero] at hl
  exact ⟨[], by simp [VRs]; omega, by simp [LD.qR]⟩
 | f :: fs, off, l, cs, h, hl, hf => by
  simp only [acv] at h
  split at h
  ·rename_i d hd
   split at h
   ·rename_i hc
    obtain ⟨h1, h2⟩ := hc
    obtain ⟨l', h3, rfl⟩ := Option.map_eq_some_iff.1 h
    simp only [List.length_append] at hl
    obtain ⟨az', k1, k2⟩ := Q6 hg fs _ l' cs h3 (by omega) fun f' hf' => hf f' (by simp [hf'])
    obtain ⟨x, hx⟩ := hf f (by simp)
    obtain ⟨az, k3, k4⟩ := hg _ _ hd _ x hx
    refine ⟨az ++ az', ?_, MO k4 k2⟩
    have e : cs.drop off = (cs.drop off).take d.length ++ cs.drop (off + d.length) := by
     rw [← List.drop_drop, List.take_append_drop]
    rw [e]
    rw [h1, ← h2] at k3
    exact Oy k3 k1
   ·cases h
  ·cases h
theorem opened {sp : Nat → Bool} {held : Bool} : ∀ (n : Nat) (t : TypeId) (lds : List LD), Xk P n t = some lds → ∀ (m : Nat) (cs : List Value) (x : DataW H × List MemPlace), DataW.trod enc P W 0 sp held m t cs = some x → ∃ az, VRs (gW W) W az cs ∧ LD.qR lds az := by
 intro n
 induction n with
 | zero => intro t lds h; cases h
 | succ n ih =>
  intro t lds h m cs x hx
  unfold Xk at h
  split at h
  ·rename_i hu
   injection h with h; subst h
   obtain ⟨b, rfl, _⟩ := DataW.trod_bool hu hx
   exact ⟨[.bool b], by simp [VRs, VR], by simp [LD.qR, LD.sat]⟩
  ·rename_i k hu
   injection h with h; subst h
   obtain ⟨b, rfl, _, hw⟩ := DataW.trod_int hu hx
   exact ⟨[.int k b], by simp [VRs, VR], by simp [LD.qR, LD.sat, hw]⟩
  ·rename_i hu
   injection h with h; subst h
   obtain ⟨s, rfl, _, hsz⟩ := DataW.trod_string hu hx
   exact ⟨[.str s.data.toList], by simp only [VRs, VR]; exact ⟨_, _, rfl, ⟨s, rfl, rfl⟩, rfl⟩, by simp only [LD.qR, LD.sat]; exact ⟨_, _, rfl, ⟨_, rfl, by simpa [maxLen] using hsz⟩, rfl⟩⟩
  ·rename_i e hu
   split at h
   ·rename_i es hes
    split at h
    ·rename_i hc
     injection h with h; subst h
     rcases Deep.open_slice hu hx with ⟨rfl, _⟩ | ⟨a, len, cap, m', n', D, Pl, rfl, _, hl, _, hm, _, hel⟩
     ·obtain ⟨av, h1, h2⟩ := UH (W := W) (es := es) hc.2 (a := none) (len := 0) (cap := 0) (els := []) (vs := []) (Nat.le_refl _) rfl (by simp) (by simp [VRss]) (by simp) (by simp) (by simp) (fun _ => ⟨rfl, rfl⟩)
      exact ⟨[av], by simp only [VRs]; exact ⟨_, _, rfl, h1, rfl⟩, by simp [LD.qR, h2]⟩
     ·have hlm : len ≤ m' := by rw [hm]; split <;> omega
      obtain ⟨els, vs, h1, h2, h3, h4, h5, h6⟩ := elems (n := n') (W := W) hc.1 hc.2 a len (fun i hi => by
       obtain ⟨cs', k1, k2⟩ := hel i (by omega)
       obtain ⟨az, k3, k4⟩ := ih e es hes _ _ _ k2
       exact ⟨az, cs', k1, k3, k4⟩)
      obtain ⟨av, k1, k2⟩ := UH (W := W) (es := es) hc.2 (a := some a) (cap := cap) hl h1 h2 h3 h4 (fun _ => ⟨a, rfl, h5⟩) h6 (fun h => by cases h)
      exact ⟨[av], by simp only [VRs]; exact ⟨_, _, rfl, k1, rfl⟩, by simp [LD.qR, k2]⟩
    ·cases h
   ·cases h
  ·rename_i fs hu
   split at h
   ·rename_i l hl
    split at h
    ·rename_i hc
     injection h with h; subst h
     obtain ⟨xs, m', rfl, _, hlen, hxl, hf⟩ := DataW.trod_struct hu hx
     obtain ⟨az, h1, h2⟩ := Q6 (sp := sp) (held := held) (enc := enc) (g := Xk P n) (m := m') (fun t lds h cs x hx => ih t lds h m' cs x hx) fs.toList 0 l cs hl (by omega) (fun f hfm => by
      obtain ⟨i, hi, he⟩ := List.mem_iff_getElem.1 hfm
      have hi' : i < fs.size := by simpa using hi
      have := hf i f (by rw [Array.getElem?_eq_getElem hi']; congr)
      rw [this, List.getElem?_eq_getElem (by omega)]
      exact ⟨_, rfl⟩)
     exact ⟨az, by simpa using h1, h2⟩
    ·cases h
   ·cases h
  ·rename_i k e hu
   split at h
   ·rename_i es hes
    split at h
    ·rename_i hc
     injection h with h; subst h
     obtain ⟨xs, m', rfl, _, hlen, hxl, hf⟩ := DataW.trod_array hu hx
     have hk : ∀ j, j ≤ k → ∃ az, VRs (gW W) W az (cs.take (j * es.length)) ∧ LD.qR (List.replicate j es).flatten az := by
      intro j
      induction j with
      | zero => intro _; exact ⟨[], by simp [VRs], by simp [LD.qR]⟩
      | succ j ihj =>
       intro hj
       obtain ⟨az, h1, h2⟩ := ihj (by omega)
       have h3 := hf j (by omega)
       rw [List.getElem?_eq_getElem (by omega)] at h3
       obtain ⟨bs, h4, h5⟩ := ih e es hes _ _ _ h3
       refine ⟨az ++ bs, ?_, ?_⟩
       ·have e1 : cs.take ((j + 1) * es.length) = cs.take (j * es.length) ++ (cs.drop (j * es.length)).take es.length := by
         rw [Nat.add_mul, Nat.one_mul, List.take_add]
        rw [e1]
        rw [← hc.1] at h4
        exact Oy h1 h4
       ·rw [List.replicate_succ', List.flatten_append]
        simpa using MO h2 h5
     obtain ⟨az, h1, h2⟩ := hk k (Nat.le_refl _)
     rw [List.take_of_length_le (by omega)] at h1
     exact ⟨az, h1, h2⟩
    ·cases h
   ·cases h
  ·cases h
theorem acw {sp : Nat → Bool} {held : Bool} {n : Nat} {t : TypeId} {d : LD} {v : Value} {x : DataW H} {ps : List MemPlace} (hl : Xk P n t = some [d]) (hv : v.cells = #[v]) (h : DataW.Trod enc P W 0 sp held t v x ps) : ∃ a, VR (gW W) W a v ∧ LD.sat d a := by
 obtain ⟨fuel, hf⟩ := h
 obtain ⟨az, h1, h2⟩ := opened n t _ hl _ _ _ hf
 simp only [LD.qR] at h2
 obtain ⟨a, bs, rfl, h3, rfl⟩ := h2
 rw [hv] at h1
 simp only [VRs] at h1
 obtain ⟨u, us, he, h4, h5⟩ := h1
 simp only [List.cons.injEq] at he
 obtain ⟨rfl, rfl⟩ := he
 exact ⟨a, h4, h3⟩
theorem acx {sp : Nat → Bool} {held : Bool} {n : Nat} {t : TypeId} {ds : List LD} {vs : Array Value} {x : DataW H} {ps : List MemPlace} (hl : Xk P n t = some ds) (h : DataW.Trod enc P W 0 sp held t (.agg vs) x ps) : ∃ az, VR (gW W) W (.agg az) (.agg vs) ∧ LD.qR ds az := by
 obtain ⟨fuel, hf⟩ := h
 obtain ⟨az, h1, h2⟩ := opened n t _ hl _ _ _ hf
 refine ⟨az, ?_, h2⟩
 simp only [VR]
 exact ⟨vs, rfl, h1⟩
theorem acy {ds : List LD} {az : List AV} {vs : Array Value} (h : LD.qR ds az) : owns (.agg az) (.agg vs) = [] := by simp only [owns, UG _ h]
theorem acz {f : FuncId} {sp : FSpec} (h : FSound P f sp) {args : List AV} {H0 : List AObj} (vs : List Value) (hvs : VRs (gW W) W args vs) (hown : aH args vs = []) (hgood : GdH W.heap)
 (hsp : sp args [] (AV × List AObj) (fun v H => some (v, H)) = some (.bool true, H0)) : Calls P f vs.toArray W fun e W' => e = .returned (.bool true) ∧ Below W.heap.size W W' :=
 Yf h W vs (gW W) rfl hvs hown (fun b hb => aaB hb) hgood hsp
theorem wf_i64 {n : Int} (h : (Lit.int .i64 n).wf = true) : -9223372036854775808 ≤ n ∧ n ≤ 9223372036854775807 := by
 simp only [Lit.wf, Bool.and_eq_true, decide_eq_true_eq] at h
 exact h
theorem wf_u8 {n : Int} (h : (Lit.int .u8 n).wf = true) : 0 ≤ n ∧ n ≤ 255 := by
 simp only [Lit.wf, Bool.and_eq_true, decide_eq_true_eq] at h
 exact h
end Go.Sh
namespace Go.Proofs.YtiegmpnagcdgoaaGreatDoor.H.Z
open Go.Sh Go.RowKit
set_option linter.unusedSimpArgs false
set_option linter.unusedVariables false
def come (ti : List Int) (sec : Int) : Nat := ti.countP fun x => decide (x ≤ sec)
theorem adO (i j : Nat) (hj : i + j ≤ 8000) : IntKind.i64.wrap (Int.fdiv (IntKind.u64.wrap (IntKind.i64.wrap ((i : Int) + (j : Int)))) (2 ^ 1)) = (((i + j) / 2 : Nat) : Int) := by
 rw [wi ((i : Int) + (j : Int)) (by omega) (by omega), IntWalk.u64_in _ (by omega), show ((2 : Int) ^ 1) = 2 from rfl, Int.fdiv_eq_ediv_of_nonneg _ (by omega), wi _ (by omega) (by omega)]
 omega
theorem MP (n : Nat) (h0 : List (List AV)) (ti ix : List Int) (h3 : Str) (sec : Int) (hb : ti.length ≤ 4000) : ∀ (d i j m : Nat), j - i ≤ d → i ≤ j → j ≤ ti.length → d < m → (0 < i → ti.getD (i - 1) 0 ≤ sec) → (j < ti.length → sec < ti.getD j 0) →
 ∃ k : Nat, jT n m (i : Int) (j : Int) h0 ti ix h3 sec = some ((k : Int), h0, ti, ix, h3, sec) ∧ k ≤ ti.length ∧ (0 < k → ti.getD (k - 1) 0 ≤ sec) ∧ (k < ti.length → sec < ti.getD k 0)
 | d, i, j, 0, _, _, _, hm, _, _ => absurd hm (by omega)
 | 0, i, j, m + 1, hd, hij, hj, hm, h1, h2 => by
  refine ⟨i, ?_, by omega, h1, (show j = i by omega) ▸ h2⟩
  simp only [jT, oP]
  rw [af (by omega)]
 | d + 1, i, j, m + 1, hd, hij, hj, hm, h1, h2 => by
  by_cases hlt : i < j
  ·have hh : (i + j) / 2 < ti.length := by omega
   simp only [jT, oP]
   rw [aa (by omega), adO i j (by omega)]
   simp only [MC, Jh]
   rw [aa (by omega), Int.toNat_natCast, get_of hh]
   simp only [Option.bind_some]
   by_cases hc : ti.getD ((i + j) / 2) 0 > sec
   ·rw [decide_eq_true hc]
    simp only [Bool.not_true, cond_false]
    exact MP n h0 ti ix h3 sec hb d i ((i + j) / 2) m (by omega) (by omega) (by omega) (by omega) h1 (fun _ => hc)
   ·rw [decide_eq_false hc]
    simp only [Bool.not_false, cond_true]
    rw [pK _ (by omega)]
    exact MP n h0 ti ix h3 sec hb d ((i + j) / 2 + 1) j m (by omega) (by omega) (by omega) (by omega) (fun _ => by simp only [Nat.add_sub_cancel]; omega) h2
  ·refine ⟨i, ?_, by omega, h1, (show j = i by omega) ▸ h2⟩
   simp only [jT, oP]
   rw [af (by omega)]
theorem VC {ti ix : List Int} {len : Nat} (hl : ti.length = ix.length) (h : (List.range' 0 ix.length).all (okAt ti ix len) = true) : ∀ (b a : Nat), a < b → b < ti.length → ti.getD a 0 < ti.getD b 0
 | 0, a, h1, _ => absurd h1 (by omega)
 | b + 1, a, h1, h2 => by
  have h3 := List.all_eq_true.1 h (b + 1) (by rw [List.mem_range'_1]; omega)
  simp only [okAt, Bool.and_eq_true, Bool.or_eq_true, decide_eq_true_eq, beq_iff_eq] at h3
  have h4 : ti.getD b 0 < ti.getD (b + 1) 0 := by
   rcases h3.2 with h | h
   ·omega
   ·simpa using h
  rcases Nat.lt_or_ge a b with h5 | h5
  ·have := VC hl h b a h5 (by omega)
   omega
  ·have : a = b := by omega
   subst this; exact h4
theorem VD {ti : List Int} {sec : Int} {k : Nat} (hm : ∀ (b a : Nat), a < b → b < ti.length → ti.getD a 0 < ti.getD b 0) (hk : k ≤ ti.length) (h1 : 0 < k → ti.getD (k - 1) 0 ≤ sec) (h2 : k < ti.length → sec < ti.getD k 0) : come ti sec = k := by
 have e : come ti sec = (ti.take k).countP (fun x => decide (x ≤ sec)) + (ti.drop k).countP (fun x => decide (x ≤ sec)) := by
  unfold come
  conv => lhs; rw [← List.take_append_drop k ti]
  rw [List.countP_append]
 have e1 : (ti.take k).countP (fun x => decide (x ≤ sec)) = (ti.take k).length := by
  rw [List.countP_eq_length]
  intro x hx
  obtain ⟨i, hi, rfl⟩ := List.mem_iff_getElem.1 hx
  rw [List.length_take] at hi
  rw [List.getElem_take]
  have h3 : ti[i] = ti.getD i 0 := by rw [List.getD_eq_getElem?_getD, List.getElem?_eq_getElem (by omega)]; rfl
  rw [h3, decide_eq_true_eq]
  have h4 := h1 (by omega)
  rcases Nat.lt_or_ge i (k - 1) with h5 | h5
  ·have := hm (k - 1) i h5 (by omega)
   omega
  ·have : i = k - 1 := by omega
   subst this; exact h4
 have e2 : (ti.drop k).countP (fun x => decide (x ≤ sec)) = 0 := by
  rw [List.countP_eq_zero]
  intro x hx
  obtain ⟨i, hi, rfl⟩ := List.mem_iff_getElem.1 hx
  rw [List.length_drop] at hi
  rw [List.getElem_drop]
  have h3 : ti[k + i] = ti.getD (k + i) 0 := by rw [List.getD_eq_getElem?_getD, List.getElem?_eq_getElem (by omega)]; rfl
  rw [h3, decide_eq_true_eq]
  have h4 := h2 (by omega)
  rcases Nat.eq_zero_or_pos i with h5 | h5
  ·subst h5; simp only [Nat.add_zero]; omega
  ·have := hm (k + i) k (by omega) (by omega)
   omega
 rw [e, e1, e2, List.length_take]
 omega
def stdS (ts : List Ty) : Int := match ts.findIdx? fun t => !t.2.1 with
 | some j => j
 | none => 0
theorem Zq (n : Nat) (ts : List Ty) (hts : ts.length ≤ 255) : ∀ (r : List Ty) (i m : Nat), ts.drop i = r → r.length < m →
 rD n m (ts.map cT) (ts.length : Int) (i : Int) = some (match r.findIdx? fun t => !t.2.1 with | some j => Sum.inl ((i + j : Nat) : Int) | none => Sum.inr ())
 | [], i, m + 1, h, _ => by
  have hi := drop_nil h
  simp only [rD, xK]
  rw [af (by omega)]
  simp
 | t :: r, i, m + 1, h, hm => by
  obtain ⟨k1, k2, k3⟩ := dV h
  simp only [rD, xK]
  rw [aa (by omega), aa (by omega), Int.toNat_natCast, List.getElem?_map, k1, pK _ (by omega)]
  simp only [Option.map_some, Option.bind_some, cT, unc, vM, Bd, Be, unn, MF, Ji, List.findIdx?_cons]
  cases hd : t.2.1 with
  | false => simp
  | true =>
   simp only [Bool.not_true, cond_false, decide_true, cond_true, Bool.false_eq_true, if_false]
   rw [Zq n ts hts r (i + 1) m k2 (by simpa using hm)]
   cases r.findIdx? (fun t => !t.2.1) with
   | none => rfl
   | some j => simp only [Option.map_some]; congr 2; omega
def AtS (ts : List Ty) (ti ix : List Int) (foot : Str) (sec : Int) : Int :=
 if RightS ts ti ix foot then (if 0 < come ti sec then ix.getD (come ti sec - 1) 0 else stdS ts) else 0
theorem right_parts {ts : List Ty} {ti ix : List Int} {foot : Str} (h : RightS ts ti ix foot = true) : 1 ≤ ts.length ∧ ts.length ≤ 255 ∧ ti.length ≤ 4000 ∧ ti.length = ix.length ∧ textS foot 100 32 = true ∧ ts.all okT = true ∧ (List.range' 0 ix.length).all (okAt ti ix ts.length) = true ∧ Rk ts ≤ 256 := by
 simp only [RightS, Bool.and_eq_true, decide_eq_true_eq] at h
 obtain ⟨⟨⟨⟨⟨⟨⟨h1, h2⟩, h3⟩, h4⟩, h5⟩, h6⟩, h7⟩, h8⟩ := h
 exact ⟨h1, h2, h3, h4, h5, h6, h7, h8⟩
theorem come_le (ti : List Int) (sec : Int) : come ti sec ≤ ti.length := List.countP_le_length
theorem at_val (n : Nat) (hn : 4001 ≤ n) (ts : List Ty) (ti ix : List Int) (foot : Str) (sec : Int) : J6 n (ts.map cT) ti ix foot sec = some (AtS ts ti ix foot sec) := by
 unfold J6 M8 AtS
 rw [right_val n hn]
 simp only [Option.bind_some]
 cases hR : RightS ts ti ix foot with
 | false => rfl
 | true =>
  obtain ⟨h1, h2, h3, h4, h5, h6, h7, h8⟩ := right_parts hR
  obtain ⟨k, e1, e2, e3, e4⟩ := MP n (ts.map cT) ti ix foot sec h3 ti.length 0 ti.length n (by omega) (by omega) (by omega) (by omega) (fun h => absurd h (by omega)) (fun h => absurd h (by omega))
  have hk := VD (VC h4 h7) e2 e3 e4
  simp only [Int.natCast_zero] at e1
  simp only [Bool.not_true, cond_false, JC, D6, e1, Option.bind_some, if_true, hk]
  by_cases hp : 0 < k
  ·rw [aa (by omega), wi _ (by omega) (by omega), aa (by omega), if_pos hp, show ((k : Int) - 1).toNat = k - 1 by omega, get_of (show k - 1 < ix.length by omega)]
   rfl
  ·rw [af (by omega), if_neg hp]
   have e5 := Zq n ts h2 ts 0 n (by simp) (by omega)
   simp only [Int.natCast_zero] at e5
   simp only [MG, Jj, List.length_map, e5, Option.bind_some, stdS]
   cases ts.findIdx? (fun t => !t.2.1) with
   | none => rfl
   | some j =>
    simp only [Sum.elim_inl, Option.bind_some, Nat.zero_add]
    congr 1
    split <;> omega
theorem open_types : ∀ {els : List (List AV)}, (∀ e ∈ els, LD.qR [.int .i64, .bool, .str] e) → ∃ ts : List Ty, els = ts.map cT ∧ ∀ t ∈ ts, -9223372036854775808 ≤ t.1 ∧ t.1 ≤ 9223372036854775807 ∧ t.2.2.length ≤ 9223372036854775807
 | [], _ => ⟨[], rfl, by simp⟩
 | e :: els, h => by
  obtain ⟨ts, rfl, h1⟩ := open_types (els := els) fun e he => h e (by simp [he])
  have h2 := h e (by simp)
  simp only [LD.qR, LD.sat] at h2
  obtain ⟨a, l1, rfl, ⟨n, rfl, hn⟩, b, l2, rfl, ⟨d, rfl⟩, c, l3, rfl, ⟨s, rfl, hs⟩, rfl⟩ := h2
  refine ⟨(n, d, s) :: ts, rfl, fun t ht => ?_⟩
  rcases List.mem_cons.1 ht with rfl | ht
  ·have := wf_i64 hn
   exact ⟨this.1, this.2, hs⟩
  ·exact h1 t ht
end Go.Proofs.YtiegmpnagcdgoaaGreatDoor.H.Z
namespace Go.Proofs.YtiegmpnagcdgoaaGreatDoor.H.Z
open Go.Sh Go.RowKit
set_option linter.unusedSimpArgs false
set_option linter.unusedVariables false
def be : Nat → Int → List Int
 | 0, _ => []
 | k + 1, v => IntKind.u8.wrap (Int.fdiv v (2 ^ (8 * k))) :: be k v
theorem vL : ∀ (k : Nat) (v : Int), (be k v).length = k
 | 0, _ => rfl
 | k + 1, v => by simp [be, vL k v]
def aed (cs : List Int) : List Int := [84, 90, 105, 102, 50] ++ List.replicate 15 0 ++ cs.flatMap (be 4)
end Go.Proofs.YtiegmpnagcdgoaaGreatDoor.H.Z
namespace Go.Proofs.YtiegmpnagcdgoaaGreatDoor.H.Z
open Go.Sh Go.RowKit
set_option linter.unusedSimpArgs false
set_option linter.unusedVariables false
theorem aaE (n : Nat) (s : Str) (lo : Int) (i : Nat) (c : UInt8) (h : s[i]? = some c) : iI n s lo 126 (i : Int) = some (!okC lo c) := by
 unfold iI jM okC
 rw [aa (by omega), Int.toNat_natCast, h]
 simp only [Option.bind_some]
 by_cases hl : (c.toNat : Int) < lo
 ·rw [aa hl]; simp [hl]
 ·rw [af hl, aa (by omega)]
  simp [hl]
theorem UI (n : Nat) (s : Str) (lo : Int) (hs : s.length ≤ 9223372036854775807) : ∀ (r : Str) (i m : Nat), s.drop i = r → r.length < m →
 bS n m s lo 126 (i : Int) = some (if r.all (okC lo) then Sum.inr () else Sum.inl ())
 | [], i, m + 1, hd, _ => by
  have hi := drop_nil hd
  simp only [bS, fU]
  rw [af (by omega)]
  rfl
 | c :: r, i, m + 1, hd, hm => by
  obtain ⟨k1, k2, k3⟩ := dV hd
  simp only [List.length_cons] at hm
  simp only [bS, fU]
  rw [aa (by omega), aaE n s lo i c k1, pK _ (by omega)]
  simp only [Option.bind_some, List.all_cons]
  by_cases hc : okC lo c = true
  ·simp only [hc, Bool.not_true, cond_false, Bool.true_and]
   exact UI n s lo hs r (i + 1) m k2 (by omega)
  ·simp [hc]
theorem Dx (n : Nat) (s : Str) (a b lo : Int) (hs : s.length ≤ 9223372036854775807) (hn : s.length < n) : jd n s a b lo 126 = some (s.all (okC lo) && (decide ((s.length : Int) ≥ a) && decide ((s.length : Int) ≤ b))) := by
 unfold jd mY
 have e := UI n s lo hs s 0 n (by simp) hn
 simp only [Int.natCast_zero] at e
 rw [e]
 simp only [Option.bind_some]
 cases hc : s.all (okC lo) with
 | false => rfl
 | true =>
  simp only [if_true, Sum.elim_inr, Bool.true_and]
  by_cases h : (s.length : Int) ≥ a
  ·rw [aa h, decide_eq_true h, Bool.true_and]
  ·rw [af h, decide_eq_false h, Bool.false_and]
theorem aeL (t : Ty) : okT t = (!decide (t.1 < -89999) && !decide (t.1 > 93599) && (t.2.2.all (okC 33) && (decide ((t.2.2.length : Int) ≥ 1) && decide ((t.2.2.length : Int) ≤ 15)))) := by
 unfold okT textS
 have e : (!(t.2.2 == [])) = decide ((t.2.2.length : Int) ≥ 1) := by
  cases t.2.2 with
  | nil => rfl
  | cons c s => simp; omega
 rw [e]
 cases decide (t.1 < -89999) <;> cases decide (t.1 > 93599) <;> cases decide ((t.2.2.length : Int) ≥ 1) <;> cases decide ((t.2.2.length : Int) ≤ 15) <;> cases t.2.2.all (okC 33) <;> rfl
theorem aaF (n : Nat) (ts : List Ty) (h1 h2 : List Int) (h3 : Str) (i : Nat) (t : Ty) (ht : ts[i]? = some t) (hl : t.2.2.length ≤ 9223372036854775807) (hn : t.2.2.length < n) : je n (i : Int) (ts.map cT) h1 h2 h3 = some (!okT t, ts.map cT, h1, h2, h3) := by
 unfold je kJ
 rw [aeL, aa (by omega), Int.toNat_natCast, List.getElem?_map, ht]
 simp only [Option.map_some, Option.bind_some, cT, unc, vM, Bd, Be, unn, decide_true, cond_true]
 by_cases c1 : t.1 < -89999
 ·rw [aa c1]; simp [c1]
 rw [af c1, aa (by omega)]
 by_cases c2 : t.1 > 93599
 ·rw [aa c2]; simp [c1, c2]
 rw [af c2, aa (by omega), Dx n _ _ _ _ hl hn, decide_eq_false c1, decide_eq_false c2]
 rfl
theorem UJ (n : Nat) (ts : List Ty) (h1 h2 : List Int) (h3 : Str) (hts : ts.length ≤ 255) (hall : ∀ t ∈ ts, t.2.2.length ≤ 9223372036854775807 ∧ t.2.2.length < n) : ∀ (r : List Ty) (i m x : Nat), ts.drop i = r → r.length < m → x ≤ 16 * i →
 bY n m (x : Int) (i : Int) (ts.map cT) h1 h2 h3 = some (if r.all okT then Sum.inr (((x + Rk r : Nat) : Int), ts.map cT, h1, h2, h3) else Sum.inl (ts.map cT, h1, h2, h3))
 | [], i, m + 1, x, h, _, _ => by
  have hi := drop_nil h
  simp only [bY, gP]
  rw [af (by rw [List.length_map]; omega)]
  simp [Rk]
 | t :: r, i, m + 1, x, h, hm, hx => by
  obtain ⟨k1, k2, k3⟩ := dV h
  obtain ⟨q1, q2⟩ := hall t (List.mem_of_getElem? k1)
  simp only [List.length_cons] at hm
  simp only [bY, gP]
  rw [aa (by rw [List.length_map]; omega), aa (by omega), aaF n ts h1 h2 h3 i t k1 q1 q2, Int.toNat_natCast, List.getElem?_map, k1, pK _ (by omega)]
  simp only [Option.map_some, Option.bind_some, cT, unc, vM, Bd, Be, unn, decide_true, cond_true]
  cases hc : okT t with
  | false => simp [hc]
  | true =>
   have hl := okT_len hc
   simp only [hc, Bool.not_true, cond_false]
   have e : IntKind.i64.wrap (IntKind.i64.wrap ((x : Int) + (t.2.2.length : Int)) + 1) = ((x + (t.2.2.length + 1) : Nat) : Int) := by
    rw [wi ((x : Int) + (t.2.2.length : Int)) (by omega) (by omega), wi _ (by omega) (by omega)]; omega
   rw [e]
   have := UJ n ts h1 h2 h3 hts hall r (i + 1) m _ k2 (by omega) (show x + (t.2.2.length + 1) ≤ 16 * (i + 1) by omega)
   refine this.trans ?_
   simp only [List.all_cons, hc, Bool.true_and, Rk, Nat.add_assoc]
theorem aaG (n : Nat) (x : Int) (hx : ¬ x > 256) (h0 : List (List AV)) (ti ix : List Int) (h3 : Str) (i : Nat) (hi : i < ti.length) (hl : ti.length = ix.length) (hb : ti.length ≤ 4000) : fE n x (i : Int) h0 ti ix h3 = some (!okAt ti ix h0.length i, h0, ti, ix, h3) := by
 unfold fE gQ okAt
 rw [af hx, aa (by omega), Int.toNat_natCast, get_of (show i < ix.length by omega), Option.bind_some]
 by_cases c1 : ix.getD i 0 < 0
 ·rw [aa c1]; simp only [decide_eq_false (show ¬ (0 ≤ ix.getD i 0) by omega)]; rfl
 ·rw [af c1, decide_eq_true (show 0 ≤ ix.getD i 0 by omega), aa (by omega), Option.bind_some]
  by_cases c2 : ix.getD i 0 ≥ (h0.length : Int)
  ·rw [aa c2]; simp only [decide_eq_false (show ¬ (ix.getD i 0 < (h0.length : Int)) by omega)]; rfl
  ·rw [af c2, decide_eq_true (show ix.getD i 0 < (h0.length : Int) by omega)]
   by_cases c3 : (i : Int) > 0
   ·rw [aa c3, aa (by omega), get_of hi, Option.bind_some, wi _ (by omega) (by omega), aa (by omega), show ((i : Int) - 1).toNat = i - 1 by omega, get_of (show i - 1 < ti.length by omega), Option.bind_some]
    have : (i == 0) = false := by simp; omega
    rw [this]
    by_cases c4 : ti.getD i 0 ≤ ti.getD (i - 1) 0
    ·rw [decide_eq_true c4, decide_eq_false (show ¬ (ti.getD (i - 1) 0 < ti.getD i 0) by omega)]; rfl
    ·rw [decide_eq_false c4, decide_eq_true (show ti.getD (i - 1) 0 < ti.getD i 0 by omega)]; rfl
   ·rw [af c3]
    have : i = 0 := by omega
    subst this
    rfl
theorem UK (n : Nat) (x : Int) (hx : ¬ x > 256) (h0 : List (List AV)) (ti ix : List Int) (h3 : Str) (hl : ti.length = ix.length) (hb : ti.length ≤ 4000) : ∀ (k i m : Nat), i + k = ix.length → k < m →
 bI n m x (i : Int) h0 ti ix h3 = some (if (List.range' i k).all (okAt ti ix h0.length) then Sum.inr (h0, ti, ix, h3) else Sum.inl (h0, ti, ix, h3))
 | 0, i, m + 1, h, _ => by
  simp only [bI, dS]
  rw [af (by omega)]
  simp
 | k + 1, i, m + 1, h, hm => by
  simp only [bI, dS]
  have hi : i < ix.length := by omega
  rw [aa (by omega), pK _ (by omega)]
  simp only [aaG n x hx h0 ti ix h3 i (by omega) hl hb, Option.bind_some, List.range'_succ, List.all_cons]
  cases hc : okAt ti ix h0.length i with
  | false => simp
  | true =>
   simp only [Bool.not_true, cond_false, Bool.true_and]
   exact UK n x hx h0 ti ix h3 hl hb k (i + 1) m (by omega) (by omega)
theorem rright_val (n : Nat) (hn : 4001 ≤ n) (ts : List Ty) (ti ix : List Int) (foot : Str) (hall : ∀ t ∈ ts, t.2.2.length ≤ 9223372036854775807 ∧ t.2.2.length < n) (hf : foot.length ≤ 9223372036854775807 ∧ foot.length < n) : bP n (ts.map cT) ti ix foot = some (RightS ts ti ix foot) := by
 unfold bP oh mZ kI RightS
 simp only [List.length_map]
 by_cases c1 : (ts.length : Int) < 1
 ·rw [aa c1]; simp [show ¬ (1 ≤ ts.length) by omega]
 rw [af c1, decide_eq_true (show 1 ≤ ts.length by omega)]
 by_cases c2 : (ts.length : Int) > 255
 ·rw [aa c2]; simp [show ¬ (ts.length ≤ 255) by omega]
 rw [af c2, decide_eq_true (show ts.length ≤ 255 by omega)]
 by_cases c3 : (ti.length : Int) > 4000
 ·rw [aa c3]; simp [show ¬ (ti.length ≤ 4000) by omega]
 rw [af c3, decide_eq_true (show ti.length ≤ 4000 by omega)]
 by_cases c4 : ti.length = ix.length
 case neg =>
  have : ((ti.length : Int) != (ix.length : Int)) = true := by simp; omega
  rw [this]; simp [c4]
 have : ((ti.length : Int) != (ix.length : Int)) = false := by simp; omega
 rw [this, decide_eq_true c4, Dx n foot 0 100 32 (by omega) (by omega)]
 have e0 : (foot.all (okC 32) && (decide ((foot.length : Int) ≥ 0) && decide ((foot.length : Int) ≤ 100))) = textS foot 100 32 := by
  unfold textS
  rw [decide_eq_true (show (foot.length : Int) ≥ 0 by omega), Bool.true_and, Bool.and_comm]
 simp only [e0, cond_false, Option.bind_some, Bool.true_and]
 cases c5 : textS foot 100 32 with
 | false => simp
 | true =>
  have e1 := UJ n ts ti ix foot (by omega) hall ts 0 n 0 (by simp) (by omega) (by omega)
  simp only [Int.natCast_zero, Nat.zero_add] at e1
  simp only [Bool.not_true, cond_false, e1, Option.bind_some]
  cases c6 : ts.all okT with
  | false => simp
  | true =>
   simp only [if_true, Sum.elim_inr]
   by_cases c8 : Rk ts ≤ 256
   ·have e2 := UK n (Rk ts : Int) (by omega) (ts.map cT) ti ix foot c4 (by omega) ix.length 0 n (by omega) (by omega)
    simp only [Int.natCast_zero, List.length_map] at e2
    simp only [e2, Option.bind_some]
    cases c7 : (List.range' 0 ix.length).all (okAt ti ix ts.length) with
    | false => simp
    | true =>
     simp only [if_true, Sum.elim_inr, Bool.true_and]
     congr 1
     rw [decide_eq_decide]; omega
   ·rw [decide_eq_false c8, Bool.and_false]
    obtain ⟨m, rfl⟩ : ∃ m, n = m + 1 := ⟨n - 1, by omega⟩
    simp only [bI, dS, fE, gQ]
    by_cases c9 : (0 : Int) < (ti.length : Int)
    ·rw [aa c9, aa (by omega)]
     rfl
    ·rw [af c9]
     simp only [Option.bind_some, Sum.elim_inr]
     rw [decide_eq_false (by omega)]
end Go.Proofs.YtiegmpnagcdgoaaGreatDoor.H.Z
namespace Go.Proofs.YtiegmpnagcdgoaaGreatDoor.H.Z
open Go.Sh Go.RowKit
set_option linter.unusedSimpArgs false
set_option linter.unusedVariables false
theorem acA (n : Nat) (h0 : List (List AV)) (ti ix : List Int) (h3 : Str) (sec : Int) (hb : ti.length ≤ 4000) (hl : ti.length = ix.length) (hm0 : ∀ (b a : Nat), a < b → b < ti.length → ti.getD a 0 < ti.getD b 0) : ∀ (k m : Nat), k ≤ ti.length → k < m → (k < ti.length → sec < ti.getD k 0) →
 mG n m sec ((k : Int) - 1) h0 ti ix h3 = some (if 0 < come ti sec then Sum.inl (ix.getD (come ti sec - 1) 0, h0, ti, ix, h3) else Sum.inr (h0, ti, ix, h3))
 | 0, m + 1, _, _, h2 => by
  simp only [mG, vg]
  have hc : come ti sec = 0 := VD hm0 (by omega) (fun h => absurd h (by omega)) h2
  rw [af (by omega), if_neg (by omega)]
 | k + 1, m + 1, hk, hm, h2 => by
  simp only [mG, vg]
  rw [show (((k + 1 : Nat) : Int) - 1) = (k : Int) by omega, aa (by omega), aa (by omega), Int.toNat_natCast, get_of (show k < ti.length by omega), Option.bind_some]
  by_cases hc : ti.getD k 0 ≤ sec
  ·have he : come ti sec = k + 1 := VD hm0 hk (fun _ => by simpa using hc) h2
   rw [aa hc, aa (by omega), get_of (show k < ix.length by omega), Option.bind_some, he, if_pos (by omega), Nat.add_sub_cancel]
  ·rw [af hc, wi _ (by omega) (by omega)]
   exact acA n h0 ti ix h3 sec hb hl hm0 k m (by omega) (by omega) (fun _ => by omega)
theorem acB (n : Nat) (ts : List Ty) (h1 h2 : List Int) (h3 : Str) (hts : ts.length ≤ 255) : ∀ (r : List Ty) (i m : Nat), ts.drop i = r → r.length < m →
 mH n m (i : Int) (ts.map cT) h1 h2 h3 = some (match r.findIdx? fun t => !t.2.1 with | some j => Sum.inl (((i + j : Nat) : Int), ts.map cT, h1, h2, h3) | none => Sum.inr (ts.map cT, h1, h2, h3))
 | [], i, m + 1, h, _ => by
  have hi := drop_nil h
  simp only [mH, vk]
  rw [af (by rw [List.length_map]; omega)]
  simp
 | t :: r, i, m + 1, h, hm => by
  obtain ⟨k1, k2, k3⟩ := dV h
  simp only [List.length_cons] at hm
  simp only [mH, vk]
  rw [aa (by rw [List.length_map]; omega), aa (by omega), Int.toNat_natCast, List.getElem?_map, k1, pK _ (by omega)]
  simp only [Option.map_some, Option.bind_some, cT, unc, vM, Bd, Be, unn, List.findIdx?_cons, decide_true, cond_true]
  cases hd : t.2.1 with
  | false => simp
  | true =>
   simp only [Bool.not_true, cond_false, Bool.false_eq_true, if_false]
   refine (acB n ts h1 h2 h3 hts r (i + 1) m k2 (by omega)).trans ?_
   cases r.findIdx? (fun t => !t.2.1) with
   | none => rfl
   | some j => simp only [Option.map_some]; congr 3; omega
theorem rat_val (n : Nat) (hn : 4001 ≤ n) (ts : List Ty) (ti ix : List Int) (foot : Str) (sec : Int) (hall : ∀ t ∈ ts, t.2.2.length ≤ 9223372036854775807 ∧ t.2.2.length < n) (hf : foot.length ≤ 9223372036854775807 ∧ foot.length < n) : yS n (ts.map cT) ti ix foot sec = some (AtS ts ti ix foot sec) := by
 unfold yS Fv AtS
 rw [rright_val n hn ts ti ix foot hall hf]
 simp only [Option.bind_some]
 cases hR : RightS ts ti ix foot with
 | false => rfl
 | true =>
  obtain ⟨h1, h2, h3, h4, h5, h6, h7, h8⟩ := right_parts hR
  have e1 := acA n (ts.map cT) ti ix foot sec h3 h4 (VC h4 h7) ti.length n (by omega) (by omega) (fun h => absurd h (by omega))
  simp only [Bool.not_true, cond_false, if_true]
  rw [wi _ (by omega) (by omega), e1]
  by_cases hp : 0 < come ti sec
  ·rw [if_pos hp, if_pos hp]; rfl
  ·rw [if_neg hp, if_neg hp]
   have e5 := acB n ts ti ix foot h2 ts 0 n (by simp) (by omega)
   simp only [Int.natCast_zero] at e5
   simp only [Option.bind_some, Sum.elim_inr, e5, stdS]
   cases ts.findIdx? (fun t => !t.2.1) with
   | none => rfl
   | some j => simp only [Sum.elim_inl, Option.bind_some, Nat.zero_add]
theorem Xm (n : Nat) (ts : List Ty) (ti ix : List Int) (foot : Str) (g0 : List (List AV)) (g1 g2 : List Int) (g3 : Str) (hts : ts.length ≤ 300) : ∀ (r : List Ty) (i m : Nat) (acc : List (List AV)) (h1 h2 : List Int) (h3 : Str), ts.drop i = r → r.length < m → acc.length + r.length ≤ 300 →
 bX n m (i : Int) (ts.map cT) ti ix foot g0 g1 g2 g3 acc h1 h2 h3 = some (ts.map cT, ti, ix, foot, g0, g1, g2, g3, acc ++ r.map cT, h1, h2, h3)
 | [], i, m + 1, acc, h1, h2, h3, h, _, _ => by
  have hi := drop_nil h
  simp only [bX, gN]
  rw [af (by rw [List.length_map]; omega)]
  simp
 | t :: r, i, m + 1, acc, h1, h2, h3, h, hm, ha => by
  obtain ⟨k1, k2, k3⟩ := dV h
  simp only [List.length_cons] at hm ha
  simp only [bX, gN]
  rw [aa (by rw [List.length_map]; omega), aa (by omega), Int.toNat_natCast, List.getElem?_map, k1, pK _ (by omega)]
  simp only [Option.map_some, Option.bind_some, cT, unc, vM, Bd, Be, unn, decide_true, cond_true]
  rw [aa (by simp only [List.length_cons, List.length_nil]; omega)]
  refine (Xm n ts ti ix foot g0 g1 g2 g3 hts r (i + 1) m _ h1 h2 h3 k2 (by omega) (by simp only [List.length_append, List.length_cons, List.length_nil]; omega)).trans ?_
  simp [cT]
theorem plain_val (n : Nat) (hn : 301 ≤ n) (ts : List Ty) (ti ix : List Int) (foot : Str) (hts : ts.length ≤ 300) : gD n (ts.map cT) ti ix foot = some (ts.map cT, ti, ix, foot) := by
 unfold gD og
 have e := Xm n ts ti ix foot [] [] [] [] hts ts 0 n [] ti ix foot (by simp) (by omega) (by simp; omega)
 simp only [Int.natCast_zero] at e
 rw [e]
 rfl
theorem lens_bound : ∀ (ts : List Ty), ∃ n, ∀ t ∈ ts, t.2.2.length < n
 | [] => ⟨0, by simp⟩
 | t :: r => by
  obtain ⟨n, h⟩ := lens_bound r
  refine ⟨n + (t.2.2.length + 1), fun u hu => ?_⟩
  rcases List.mem_cons.1 hu with rfl | hu
  ·omega
  ·have := h u hu; omega
end Go.Proofs.YtiegmpnagcdgoaaGreatDoor.H.Z
namespace Go.Proofs.YtiegmpnagcdgoaaGreatDoor.H
open Go.Sh Go.RowKit
set_option linter.unusedSimpArgs false
set_option linter.unusedVariables false
def Oz : List Int → Int → List Int
 | [], a => [a]
 | b :: l, a => if a < b then a :: b :: l else if a = b then b :: l else b :: Oz l a
def VE (l : List Int) : Prop := l.Pairwise (· < ·)
theorem SY : ∀ (l : List Int) (a x : Int), x ∈ Oz l a ↔ x = a ∨ x ∈ l
 | [], a, x => by simp [Oz]
 | b :: l, a, x => by
  unfold Oz
  split
  ·simp
  ·split
   ·rename_i h
    subst h
    simp
   ·rw [List.mem_cons, SY l a x, List.mem_cons]
    constructor
    ·rintro (h | h | h) <;> simp [h]
    ·rintro (h | h | h) <;> simp [h]
theorem UL : ∀ (l : List Int) (a : Int), VE l → VE (Oz l a)
 | [], a, _ => by simp [Oz, VE]
 | b :: l, a, h => by
  obtain ⟨h1, h2⟩ := List.pairwise_cons.1 h
  unfold Oz
  split
  ·rename_i hab
   refine List.pairwise_cons.2 ⟨fun x hx => ?_, h⟩
   rcases List.mem_cons.1 hx with rfl | hx
   ·exact hab
   ·exact Int.lt_trans hab (h1 x hx)
  ·split
   ·exact h
   ·rename_i h3 h4
    refine List.pairwise_cons.2 ⟨fun x hx => ?_, UL l a h2⟩
    rcases (SY l a x).1 hx with rfl | hx
    ·omega
    ·exact h1 x hx
def Jn (l all : List Int) : List Int := all.foldl Oz l
theorem S9 : ∀ (all l : List Int), VE l → VE (Jn l all)
 | [], l, h => h
 | a :: all, l, h => S9 all (Oz l a) (UL l a h)
theorem Qt : ∀ (all l : List Int) (x : Int), x ∈ Jn l all ↔ x ∈ l ∨ x ∈ all
 | [], l, x => by simp [Jn]
 | a :: all, l, x => by
  have := Qt all (Oz l a) x
  unfold Jn at this ⊢
  rw [List.foldl_cons, this, SY]
  simp only [List.mem_cons]
  constructor
  ·rintro ((h | h) | h) <;> simp [h]
  ·rintro (h | h | h) <;> simp [h]
theorem Ta {l : List Int} (h : VE l) : l.Nodup := h.imp fun {a b} h e => by omega
theorem acC {l l' : List Int} (h : VE l) (h' : VE l') (hm : ∀ x, x ∈ l ↔ x ∈ l') : l = l' := by
 refine List.Perm.eq_of_pairwise (le := fun a b => a < b) (fun a b _ _ h1 h2 => by omega) h h' ?_
 exact (List.perm_ext_iff_of_nodup (Ta h) (Ta h')).2 hm
theorem PN : ∀ (es : List (Int × Int)) (a b : Int), (zS es a b).map (·.1) = if a ∈ es.map (·.1) then es.map (·.1) else es.map (·.1) ++ [a]
 | [], a, b => by simp [zS]
 | (x, y) :: es, a, b => by
  unfold zS
  by_cases h : x = a
  ·subst h
   simp
  ·have hb : (x == a) = false := by simpa using h
   rw [hb, cond_false, List.map_cons, PN es a b]
   simp only [List.map_cons, List.mem_cons]
   by_cases h2 : a ∈ es.map (·.1)
   ·rw [if_pos h2, if_pos (.inr h2)]
   ·rw [if_neg h2, if_neg (fun h3 => h3.elim (fun h3 => h h3.symm) h2)]
    rfl
theorem acD (es : List (Int × Int)) (a b x : Int) : x ∈ (zS es a b).map (·.1) ↔ x = a ∨ x ∈ es.map (·.1) := by
 rw [PN]
 split
 ·rename_i h
  constructor
  ·exact .inr
  ·rintro (rfl | h2)
   ·exact h
   ·exact h2
 ·simp [or_comm]
theorem Yz {es : List (Int × Int)} (a b : Int) (h : (es.map (·.1)).Nodup) : ((zS es a b).map (·.1)).Nodup := by
 rw [PN]
 split
 ·exact h
 ·rename_i h2
  refine List.nodup_append.2 ⟨h, by simp, fun x hx y hy e => ?_⟩
  simp at hy
  subst hy; subst e
  exact h2 hx
def K6 (es : List (Int × Int)) (all : List Int) : List (Int × Int) := all.foldl (fun es a => zS es a 1) es
theorem Tc : ∀ (all : List Int) (es : List (Int × Int)) (x : Int), x ∈ (K6 es all).map (·.1) ↔ x ∈ es.map (·.1) ∨ x ∈ all
 | [], es, x => by simp [K6]
 | a :: all, es, x => by
  have := Tc all (zS es a 1) x
  unfold K6 at this ⊢
  rw [List.foldl_cons, this, acD]
  simp only [List.mem_cons]
  constructor
  ·rintro ((h | h) | h)
   ·exact .inr (.inl h)
   ·exact .inl h
   ·exact .inr (.inr h)
  ·rintro (h | h | h)
   ·exact .inl (.inr h)
   ·exact .inl (.inl h)
   ·exact .inr h
theorem Td : ∀ (all : List Int) (es : List (Int × Int)), (es.map (·.1)).Nodup → ((K6 es all).map (·.1)).Nodup
 | [], es, h => h
 | a :: all, es, h => Td all (zS es a 1) (Yz a 1 h)
theorem Xn {l : List Int} (h : l.Nodup) : VE (l.mergeSort leI) := by
 have tr : ∀ a b c : Int, leI a b = true → leI b c = true → leI a c = true := fun a b c h1 h2 => by simp only [leI, decide_eq_true_eq] at *; exact Int.le_trans h1 h2
 have to : ∀ a b : Int, (leI a b || leI b a) = true := fun a b => by simp only [leI, Bool.or_eq_true, decide_eq_true_eq]; exact Int.le_total a b
 have h1 := List.pairwise_mergeSort tr to l
 have h2 : (l.mergeSort leI).Nodup := (List.mergeSort_perm l leI).nodup_iff.2 h
 have h3 := List.Pairwise.and h1 h2
 exact h3.imp fun {a b} hh => by
  have h4 := hh.1
  have h5 := hh.2
  simp only [leI, decide_eq_true_eq] at h4
  omega
theorem Q7 (all : List Int) : ((K6 [] all).map (·.1)).mergeSort leI = Jn [] all := by
 refine acC (Xn (Td all [] (by simp))) (S9 all [] List.Pairwise.nil) fun x => ?_
 rw [(List.mergeSort_perm _ leI).mem_iff, Tc, Qt]
 simp
theorem Te : ∀ (all : List Int) (es : List (Int × Int)), (K6 es all).length ≤ es.length + all.length
 | [], es => by simp [K6]
 | a :: all, es => by
  have h1 := Te all (zS es a 1)
  have h2 : (zS es a 1).length ≤ es.length + 1 := by
   have := congrArg List.length (PN es a 1)
   split at this <;> simp at this <;> omega
  unfold K6 at h1 ⊢
  rw [List.foldl_cons, List.length_cons]
  omega
end Go.Proofs.YtiegmpnagcdgoaaGreatDoor.H
namespace Go.Proofs.YtiegmpnagcdgoaaGreatDoor.H
open Go.Sh Go.RowKit
set_option linter.unusedSimpArgs false
set_option linter.unusedVariables false
theorem YA (n : Nat) (a : Int) (h : -9223372036854775808 ≤ a ∧ a ≤ 9223372036854775807) : uV n a 1000000 = some (a / 1000000) := by
 unfold uV FX
 rw [show ((1000000 : Int) == 0) = false from rfl]
 simp only [cond_false]
 by_cases ha : 0 ≤ a
 ·rw [tm0 ha, td0 ha, af (by omega), wi _ (by omega) (by omega)]
 ·obtain ⟨b, rfl⟩ : ∃ b : Int, a = -b := ⟨-a, by omega⟩
  rw [Int.neg_tmod, Int.neg_tdiv, tm0 (by omega), td0 (by omega)]
  by_cases hz : b % 1000000 = 0
  ·rw [af (by omega), wi _ (by omega) (by omega)]
   congr 1
   omega
  ·rw [aa (by omega)]
   simp (disch := omega) only [wi]
   congr 1
   omega
theorem aeM {ts : List Z.Ty} {ti ix : List Int} {foot : Str} (h : Z.RightS ts ti ix foot = true) (t : Int) : 0 ≤ Z.AtS ts ti ix foot t ∧ Z.AtS ts ti ix foot t < ts.length := by
 obtain ⟨h1, h2, h3, h4, h5, h6, h7, h8⟩ := Z.right_parts h
 unfold Z.AtS
 rw [if_pos h]
 by_cases hc : 0 < Z.come ti t
 ·rw [if_pos hc]
  have hle := Z.come_le ti t
  have hk := List.all_eq_true.1 h7 (Z.come ti t - 1) (List.mem_range'_1.2 ⟨by omega, by omega⟩)
  unfold Z.okAt at hk
  simp only [Bool.and_eq_true, decide_eq_true_eq] at hk
  exact hk.1
 ·rw [if_neg hc]
  unfold Z.stdS
  cases hf : ts.findIdx? fun t => !t.2.1 with
  | none => simp only; omega
  | some j =>
   obtain ⟨hj, _⟩ := List.findIdx?_eq_some_iff_getElem.1 hf
   simp only
   omega
def UM (ti : List Int) (t : Int) : Bool := ti.length == 0 || decide (ti.getD (ti.length - 1) 0 ≤ t)
theorem Xo {ti : List Int} (hz : ti.length ≠ 0) (hb : ti.length ≤ 4000) : ti[(IntKind.i64.wrap ((ti.length : Int) - 1)).toNat]? = some (ti.getD (ti.length - 1) 0) := by
 rw [wi _ (by omega) (by omega), show ((ti.length : Int) - 1).toNat = ti.length - 1 by omega]
 exact Z.get_of (by omega)
theorem acE (n : Nat) (t : Int) (h1 : List (List AV)) (ti h3 : List Int) (h4 h5 h6 : Str) (h7 h8 h9 h10 h11 h12 h13 h14 h15 h16 h17 h18 : Int) (hb : ti.length ≤ 4000) :
 oz n t h1 ti h3 h4 h5 h6 h7 h8 h9 h10 h11 h12 h13 h14 h15 h16 h17 h18 = some (UM ti t, t, h1, ti, h3, h4, h5, h6, h7, h8, h9, h10, h11, h12, h13, h14, h15, h16, h17, h18) := by
 unfold oz ow UM
 by_cases hz : ti.length = 0
 ·rw [hz]; rfl
 ·rw [show ((ti.length : Int) == (0 : Int)) = false by simpa using hz, cond_false, aa (by rw [wi _ (by omega) (by omega)]; omega), Xo hz hb, show (ti.length == 0) = false by simpa using hz]
  simp only [Option.bind_some, Bool.false_or]
theorem Xp {ts : List Z.Ty} {a : Int} (h0 : 0 ≤ a) (h1 : a < ts.length) {R : Type} (K : Int → Option R) :
 ((ts.map Z.cT)[a.toNat]?).bind (fun e => unc e fun c r => vM .i64 c fun x => unc r fun c r => Bd c fun y => unc r fun c r => Be c fun z => unn r (K x)) = K (ts.getD a.toNat (0, false, [])).1 := by
 have h2 : a.toNat < ts.length := by omega
 rw [List.getElem?_map, List.getElem?_eq_getElem h2, List.getD_eq_getElem?_getD, List.getElem?_eq_getElem h2]
 rfl
end Go.Proofs.YtiegmpnagcdgoaaGreatDoor.H
namespace Go.Proofs.YtiegmpnagcdgoaaGreatDoor.H
open Go.Sh Go.RowKit
set_option linter.unusedSimpArgs false
set_option linter.unusedVariables false
theorem YB {ts : List Z.Ty} {ti ix : List Int} {foot : Str} (h : Z.RightS ts ti ix foot = true) {n : Nat} (hn : 4001 ≤ n) : ∀ t ∈ ts, t.2.2.length ≤ 9223372036854775807 ∧ t.2.2.length < n := by
 obtain ⟨_, _, _, _, _, h6, _, _⟩ := Z.right_parts h
 intro t ht
 have := Z.okT_len (List.all_eq_true.1 h6 t ht)
 omega
theorem K7 {ts : List Z.Ty} {ti ix : List Int} {foot : Str} (h : Z.RightS ts ti ix foot = true) : foot.length ≤ 100 := by
 obtain ⟨_, _, _, _, h5, _, _, _⟩ := Z.right_parts h
 unfold Z.textS at h5
 simp only [Bool.and_eq_true, decide_eq_true_eq] at h5
 omega
theorem UN (n : Nat) (t : Int) (h0 : List (List AV)) (ti h2 : List Int) (h3 h4 h5 : Str) (h6 h7 h8 h9 h10 h11 h12 h13 h14 h15 h16 h17 : Int) (b : Bool) (hb : ti.length ≤ 4000) :
 mJ n t (ti.length : Int) h0 ti h2 h3 h4 h5 h6 h7 h8 h9 h10 h11 h12 h13 h14 h15 h16 h17 true b = some (UM ti t, h0, ti, h2, h3, h4, h5, h6, h7, h8, h9, h10, h11, h12, h13, h14, h15, h16, h17, true, b) := by
 unfold mJ tq UM
 by_cases hz : ti.length = 0
 ·rw [hz]; rfl
 ·rw [cond_true, show ((ti.length : Int) == (0 : Int)) = false by simpa using hz, cond_false, aa (by rw [wi _ (by omega) (by omega)]; omega), Xo hz hb, show (ti.length == 0) = false by simpa using hz]
  simp only [Option.bind_some, Bool.false_or]
theorem VF (n : Nat) (hn : 20000 < n) (ts : List Z.Ty) (ti ix : List Int) (foot : Str) (r : RuleV) (hR : Z.RightS ts ti ix foot = true) (hs : r.std.length ≤ 200) (hd : r.dst.length ≤ 200) (sec : Int) :
 ∃ o, mD n sec (ts.map Z.cT) ti ix foot r.std r.dst r.off r.doff r.a.k r.a.m r.a.w r.a.d r.a.t r.b.k r.b.m r.b.w r.b.d r.b.t = some (o, ts.map Z.cT, ti, ix, foot, r.std, r.dst, r.off, r.doff, r.a.k, r.a.m, r.a.w, r.a.d, r.a.t, r.b.k, r.b.m, r.b.w, r.b.d, r.b.t) ∧
  iY n (ts.map Z.cT) ti ix foot r.std r.dst r.off r.doff r.a.k r.a.m r.a.w r.a.d r.a.t r.b.k r.b.m r.b.w r.b.d r.b.t true false sec = some o := by
 obtain ⟨_, _, hb, _, _, _, _, _⟩ := Z.right_parts hR
 unfold mD rE qd nz iY nK
 rw [acE n _ _ ti _ _ _ _ _ _ _ _ _ _ _ _ _ _ _ _ hb, cond_false, UN n _ _ ti _ _ _ _ _ _ _ _ _ _ _ _ _ _ _ _ _ hb]
 simp only [Option.bind_some]
 cases UM ti (if (-10000000000 : Int) < (if sec < (100000000000 : Int) then sec else (100000000000 : Int)) then (if sec < (100000000000 : Int) then sec else (100000000000 : Int)) else (-10000000000 : Int)) with
 | true =>
  obtain ⟨o, h1, h2⟩ := adM n r (if (-10000000000 : Int) < (if sec < (100000000000 : Int) then sec else (100000000000 : Int)) then (if sec < (100000000000 : Int) then sec else (100000000000 : Int)) else (-10000000000 : Int)) hn (by omega) (by omega) (by omega) (by omega)
  simp only [cond_true]
  rw [h1, h2]
  exact ⟨o.1, rfl, rfl⟩
 | false =>
  simp only [cond_false]
  rw [Z.at_val n (by omega), Z.rat_val n (by omega) ts ti ix foot _ (YB hR (by omega)) (by have := K7 hR; omega)]
  obtain ⟨k1, k2⟩ := aeM hR (if (-10000000000 : Int) < (if sec < (100000000000 : Int) then sec else (100000000000 : Int)) then (if sec < (100000000000 : Int) then sec else (100000000000 : Int)) else (-10000000000 : Int))
  simp only [Option.bind_some]
  rw [aa k1, aa k1, Xp k1 k2, Xp k1 k2]
  exact ⟨_, rfl, rfl⟩
end Go.Proofs.YtiegmpnagcdgoaaGreatDoor.H
namespace Go.Proofs.YtiegmpnagcdgoaaGreatDoor.H
open Go.Sh Go.RowKit
set_option linter.unusedSimpArgs false
set_option linter.unusedVariables false
end Go.Proofs.YtiegmpnagcdgoaaGreatDoor.H
namespace Go.Proofs.YtiegmpnagcdgoaaGreatDoor.H
open Go.Sh Go.RowKit
set_option linter.unusedSimpArgs false
set_option linter.unusedVariables false
theorem Xq {s : Str} (h : sS s = true) : s.length ≤ 10 := by
 unfold sS at h
 simp only [Bool.and_eq_true, decide_eq_true_eq] at h
 exact h.1.2
theorem Xr {r : RuleV} (h : gy r = true) : r.std.length ≤ 200 ∧ r.dst.length ≤ 200 := by
 obtain ⟨h1, _, _, h2⟩ := Gq h
 have := Xq h1
 rcases h2 with ⟨h2, _⟩ | ⟨h2, _⟩
 ·rw [h2]; simp; omega
 ·have := Xq h2; omega
theorem Zr (n : Nat) (hn : 4001 ≤ n) (ts : List Z.Ty) (ti ix : List Int) (foot : Str) :
 sj n (ts.map Z.cT) ti ix foot = some (if Z.RightS ts ti ix foot = true then (if foot = [] then Sum.inr (Sum.inr (ts.map Z.cT, ti, ix, foot)) else match LB foot with
  | some r => Sum.inr (Sum.inl (ts.map Z.cT, ti, ix, foot, r.std, r.dst, r.off, r.doff, r.a.k, r.a.m, r.a.w, r.a.d, r.a.t, r.b.k, r.b.m, r.b.w, r.b.d, r.b.t))
  | none => Sum.inl (70 : Int)) else Sum.inl (2 : Int)) := by
 unfold sj KM
 rw [Z.right_val n hn]
 simp only [Option.bind_some]
 by_cases hR : Z.RightS ts ti ix foot = true
 ·obtain ⟨_, h2, h3, h4, _, _, _, _⟩ := Z.right_parts hR
  rw [hR, if_pos rfl, Bool.not_true, cond_false, aa (by rw [List.length_map]; omega), aa (by omega), aa (by omega)]
  by_cases hf : foot = []
  ·subst hf; rfl
  ·rw [show (foot == ([] : Str)) = false by simpa using hf, Bool.not_false, cond_true, aav n foot (by omega), if_neg hf]
   simp only [Option.bind_some]
   cases LB foot with
   | none => rfl
   | some r => rfl
 ·rw [if_neg hR]
  rw [Bool.not_eq_true] at hR
  rw [hR]; rfl
theorem acF (n : Nat) (hn : 4001 ≤ n) (ts : List Z.Ty) (ti ix : List Int) (foot : Str) (hall : ∀ t ∈ ts, t.2.2.length ≤ 9223372036854775807 ∧ t.2.2.length < n) (hf : foot.length ≤ 9223372036854775807 ∧ foot.length < n) (hR : Z.RightS ts ti ix foot = true) :
 aC n (ts.map Z.cT) ti ix foot = some (if foot = [] then (ts.map Z.cT, ti, ix, foot, [], [], (0 : Int), (0 : Int), (0 : Int), (0 : Int), (0 : Int), (0 : Int), (0 : Int), (0 : Int), (0 : Int), (0 : Int), (0 : Int), (0 : Int), false, (0 : Int)) else match LB foot with
  | some r => (ts.map Z.cT, ti, ix, foot, r.std, r.dst, r.off, r.doff, r.a.k, r.a.m, r.a.w, r.a.d, r.a.t, r.b.k, r.b.m, r.b.w, r.b.d, r.b.t, true, (0 : Int))
  | none => ([], [], [], [], [], [], (0 : Int), (0 : Int), (0 : Int), (0 : Int), (0 : Int), (0 : Int), (0 : Int), (0 : Int), (0 : Int), (0 : Int), (0 : Int), (0 : Int), false, (70 : Int))) := by
 unfold aC mh
 rw [Z.rright_val n hn ts ti ix foot hall hf, hR]
 simp only [Option.bind_some, Bool.not_true, cond_false]
 by_cases hf : foot = []
 ·subst hf; rfl
 ·rw [show (foot == ([] : Str)) = false by simpa using hf, cond_false, Yr n foot (by omega), if_neg hf]
  simp only [Option.bind_some]
  cases LB foot with
  | none => rfl
  | some r => rfl
end Go.Proofs.YtiegmpnagcdgoaaGreatDoor.H
namespace Go.Proofs.YtiegmpnagcdgoaaGreatDoor.H
open Go.Sh Go.RowKit
set_option linter.unusedSimpArgs false
set_option linter.unusedVariables false
theorem Xt : ∀ (es : List (Int × Int)) (a : Int), (∀ p ∈ es, p.2 = 1) → ∀ p ∈ zS es a 1, p.2 = 1
 | [], a, _, p, hp => by
  simp [zS] at hp
  rw [hp]
 | (x, y) :: es, a, h, p, hp => by
  unfold zS at hp
  by_cases hx : (x == a) = true
  ·rw [hx, cond_true] at hp
   rcases List.mem_cons.1 hp with rfl | hp
   ·rfl
   ·exact h p (List.mem_cons_of_mem _ hp)
  ·rw [Bool.not_eq_true] at hx
   rw [hx, cond_false] at hp
   rcases List.mem_cons.1 hp with rfl | hp
   ·exact h _ (List.mem_cons_self ..)
   ·exact Xt es a (fun q hq => h q (List.mem_cons_of_mem _ hq)) p hp
theorem UO : ∀ (all : List Int) (es : List (Int × Int)), (∀ p ∈ es, p.2 = 1) → ∀ p ∈ K6 es all, p.2 = 1
 | [], es, h => h
 | a :: all, es, h => UO all (zS es a 1) (Xt es a h)
theorem Zt (all : List Int) (h : ∀ a ∈ all, tZ a = true) : ((K6 [] all).all fun p => tZ p.1 && tZ p.2) = true := by
 rw [List.all_eq_true]
 intro p hp
 have h1 : p.1 ∈ (K6 [] all).map (·.1) := List.mem_map_of_mem hp
 rw [Tc] at h1
 have h2 := UO all [] (by simp) p hp
 rw [h2, h p.1 (by simpa using h1)]
 rfl
theorem UQ (n : Nat) (ts : List Z.Ty) (hts : ts.length ≤ 255) (h64 : ∀ t ∈ ts, tZ t.1 = true) (h0 : List (List AV)) (h1 h2 : List Int) (h3 s1 s2 : Str) (b2 b3 b4 b5 b6 b7 b8 b9 b10 b11 b12 b13 : Int) : ∀ (q : List Z.Ty) (i m : Nat) (es : List (Int × Int)), ts.drop i = q → q.length < m →
 dm n m (ts.map Z.cT) ((ts.map Z.cT).length : Int) (i : Int) h0 h1 h2 h3 s1 s2 b2 b3 b4 b5 b6 b7 b8 b9 b10 b11 b12 b13 es = some (h0, h1, h2, h3, s1, s2, b2, b3, b4, b5, b6, b7, b8, b9, b10, b11, b12, b13, K6 es (q.map (·.1)))
 | [], i, m + 1, es, h, _ => by
  have hi := drop_nil h
  simp only [dm, iJ]
  rw [af (by rw [List.length_map]; omega)]
  rfl
 | t :: q, i, m + 1, es, h, hm => by
  obtain ⟨k1, k2, k3⟩ := dV h
  simp only [List.length_cons] at hm
  have ht : t ∈ ts := List.mem_of_getElem? k1
  simp only [dm, iJ]
  rw [aa (by rw [List.length_map]; omega), aa (by omega), Int.toNat_natCast, List.getElem?_map, k1, pK _ (by omega)]
  simp only [Option.map_some, Option.bind_some, Z.cT, unc, vM, Bd, Be, unn, decide_true, cond_true]
  rw [h64 t ht, show tZ 1 = true from rfl]
  simp only [Bool.and_self, cond_true]
  exact UQ n ts hts h64 h0 h1 h2 h3 s1 s2 b2 b3 b4 b5 b6 b7 b8 b9 b10 b11 b12 b13 q (i + 1) m _ k2 (by omega)
def IU (ts : List Z.Ty) (o : Option RuleV) : List Int := ts.map (·.1) ++ (match o with
 | some r => r.off :: (if r.dst = [] then [] else [r.doff])
 | none => [])
theorem aeN {t : Z.Ty} (h : Z.okT t = true) : tZ t.1 = true := by
 unfold Z.okT at h
 simp only [Bool.and_eq_true, Bool.not_eq_true', decide_eq_false_iff_not] at h
 simp only [tZ, Bool.and_eq_true, decide_eq_true_eq]
 omega
theorem adP {r : RuleV} (h : gy r = true) : tZ r.off = true ∧ (r.dst ≠ [] → tZ r.doff = true) := by
 obtain ⟨_, h1, h2, h3⟩ := Gq h
 simp only [tZ, Bool.and_eq_true, decide_eq_true_eq]
 refine ⟨by omega, fun hd => ?_⟩
 rcases h3 with ⟨h3, _⟩ | ⟨_, _, h4, h5, _⟩
 ·exact absurd h3 hd
 ·omega
theorem Xu (es : List (Int × Int)) (l l' : List Int) : K6 es (l ++ l') = K6 (K6 es l) l' := List.foldl_append
theorem YC (n : Nat) (hn : 4001 ≤ n) (ts : List Z.Ty) (ti ix : List Int) (foot : Str) (r : RuleV) (hR : Z.RightS ts ti ix foot = true) (hr : gy r = true) :
 qc n (ts.map Z.cT) ti ix foot r.std r.dst r.off r.doff r.a.k r.a.m r.a.w r.a.d r.a.t r.b.k r.b.m r.b.w r.b.d r.b.t = some (Jn [] (IU ts (some r)), ts.map Z.cT, ti, ix, foot, r.std, r.dst, r.off, r.doff, r.a.k, r.a.m, r.a.w, r.a.d, r.a.t, r.b.k, r.b.m, r.b.w, r.b.d, r.b.t) := by
 obtain ⟨_, h2, _, _, _, h6, _, _⟩ := Z.right_parts hR
 obtain ⟨i1, i2⟩ := adP hr
 have h64 : ∀ t ∈ ts, tZ t.1 = true := fun t ht => aeN (List.all_eq_true.1 h6 t ht)
 have hts : ∀ a ∈ ts.map (·.1), tZ a = true := by intro a ha; obtain ⟨t, ht, rfl⟩ := List.mem_map.1 ha; exact h64 t ht
 unfold qc qb
 have e := UQ n ts h2 h64 (ts.map Z.cT) ti ix foot r.std r.dst r.off r.doff r.a.k r.a.m r.a.w r.a.d r.a.t r.b.k r.b.m r.b.w r.b.d r.b.t ts 0 n [] (by simp) (by omega)
 simp only [Int.natCast_zero] at e
 rw [e]
 simp only [Option.bind_some, dD, fP]
 rw [i1, show tZ 1 = true from rfl, Bool.and_self, cond_true]
 by_cases hd : r.dst = []
 ·rw [show (r.dst == ([] : Str)) = true by simpa using hd, Bool.not_true, cond_false]
  have ea : zS (K6 [] (ts.map (·.1))) r.off 1 = K6 [] (IU ts (some r)) := by
   simp only [IU, if_pos hd]
   rw [Xu]
   rfl
  have hl := Te (IU ts (some r)) []
  have hl2 : (IU ts (some r)).length = ts.length + 1 := by simp [IU, hd]
  simp only [List.length_nil] at hl
  rw [ea, Zt _ (by
   intro a ha
   simp only [IU, if_pos hd] at ha
   rcases List.mem_append.1 ha with ha | ha
   ·exact hts a ha
   ·rw [List.mem_singleton.1 ha]; exact i1), Bool.and_true, aa (by omega), Q7]
 ·rw [show (r.dst == ([] : Str)) = false by simpa using hd, Bool.not_false, cond_true, i2 hd, Bool.and_true, cond_true]
  have ea : zS (zS (K6 [] (ts.map (·.1))) r.off 1) r.doff 1 = K6 [] (IU ts (some r)) := by
   simp only [IU, if_neg hd]
   rw [Xu]
   rfl
  have hl := Te (IU ts (some r)) []
  have hl2 : (IU ts (some r)).length = ts.length + 2 := by simp [IU, hd]
  simp only [List.length_nil] at hl
  rw [ea, Zt _ (by
   intro a ha
   simp only [IU, if_neg hd] at ha
   rcases List.mem_append.1 ha with ha | ha
   ·exact hts a ha
   ·rcases List.mem_cons.1 ha with rfl | ha
    ·exact i1
    ·rw [List.mem_singleton.1 ha]; exact i2 hd), Bool.and_true, aa (by omega), Q7]
end Go.Proofs.YtiegmpnagcdgoaaGreatDoor.H
namespace Go.Proofs.YtiegmpnagcdgoaaGreatDoor.H
open Go.Sh Go.RowKit
set_option linter.unusedSimpArgs false
set_option linter.unusedVariables false
def upto (l : List Int) (v : Int) : List Int := l.takeWhile fun x => decide (x ≤ v)
theorem acG : ∀ (l : List Int) (v : Int), Oz l v = if v ∈ upto l v then l else upto l v ++ v :: l.drop (upto l v).length
 | [], v => by simp [upto, Oz]
 | b :: l, v => by
  unfold Oz upto
  by_cases h1 : b ≤ v
  ·rw [List.takeWhile_cons_of_pos (by simpa using h1), if_neg (by omega)]
   by_cases h2 : v = b
   ·subst h2
    simp
   ·rw [if_neg h2, acG l v]
    unfold upto
    by_cases h3 : v ∈ l.takeWhile fun x => decide (x ≤ v)
    ·rw [if_pos h3, if_pos (List.mem_cons_of_mem _ h3)]
    ·rw [if_neg h3, if_neg (by rw [List.mem_cons]; exact fun h => h.elim h2 h3)]
     simp
  ·rw [List.takeWhile_cons_of_neg (by simpa using h1), if_pos (by omega)]
   simp
theorem adQ (l : List Int) (v : Int) : (upto l v).length ≤ l.length := (List.takeWhile_prefix _).length_le
theorem adR (l : List Int) (v : Int) : (Oz l v).length ≤ l.length + 1 := by
 have hp := adQ l v
 rw [acG]
 split
 ·omega
 ·simp only [List.length_append, List.length_cons, List.length_drop]
  omega
end Go.Proofs.YtiegmpnagcdgoaaGreatDoor.H
namespace Go.Proofs.YtiegmpnagcdgoaaGreatDoor.H
open Go.Sh Go.RowKit
set_option linter.unusedVariables false
set_option linter.unusedSimpArgs false
set_option maxHeartbeats 4000000
set_option maxRecDepth 100000
end Go.Proofs.YtiegmpnagcdgoaaGreatDoor.H
namespace Go.Proofs.YtiegmpnagcdgoaaGreatDoor.H
open Go.Sh Go.RowKit
set_option linter.unusedVariables false
set_option linter.unusedSimpArgs false
set_option maxHeartbeats 4000000
set_option maxRecDepth 100000
end Go.Proofs.YtiegmpnagcdgoaaGreatDoor.H
namespace Go.Proofs.YtiegmpnagcdgoaaGreatDoor.H
open Go.Sh Go.RowKit
set_option linter.unusedSimpArgs false
set_option linter.unusedVariables false
theorem UR : ∀ (all l : List Int), (Jn l all).length ≤ l.length + all.length
 | [], l => by simp [Jn]
 | a :: all, l => by
  have h1 := UR all (Oz l a)
  have h2 := adR l a
  unfold Jn at h1 ⊢
  rw [List.foldl_cons, List.length_cons]
  omega
end Go.Proofs.YtiegmpnagcdgoaaGreatDoor.H
namespace Go.Proofs.YtiegmpnagcdgoaaGreatDoor.H
open Go.Sh Go.RowKit
set_option linter.unusedSimpArgs false
set_option linter.unusedVariables false
end Go.Proofs.YtiegmpnagcdgoaaGreatDoor.H

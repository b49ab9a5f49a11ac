/- Texts of this session, joined and cut to what one statement needs, under short names. -/
import Derived.Test.YtiegmpnagcdgoaaGreatDoorJ2
import Derived.Test.YtiegmpnagcdgoaaGreatDoorProg
import Derived.KernelRfl
import Derived.Lib.AtoiErrMem
import Derived.Lib.SliceRun
import Derived.WalkKit
import Derived.IntWalk
namespace Go.Proofs.YtiegmpnagcdgoaaGreatDoor.H
open Go.Sh Go.RowKit
set_option linter.unusedVariables false
set_option linter.unusedSimpArgs false
set_option maxHeartbeats 4000000
set_option maxRecDepth 100000
def yH (n : Nat) (a0 h0 : Int) (R : Type) (K : (Bool × Int) → Option R) : Option R := cond (decide (a0 < h0)) (K (true, h0)) (K (decide (a0 > (126 : Int)), h0))
def He n a0 h0 := yH n a0 h0 _ some
def Lf : FS := ⟨[.c, .q 0 0], [.c 5 [.c]], [([.b], [.c 5 [.c]])]⟩
def J5 (n : Nat) : FSpec := Lf.sp (He n)
theorem MS (n : Nat) : FSound Tryz.prog 123 (J5 n) := fs2 (S := Lf) (b := yH n) Tryz.func123 rfl rfl [.tmp 3] .a (nt2 (yH n) (by intros; unfold yH; simp only [ax])) trivial
def bV (n : Nat) (x0 : List Int) (x7 x8 h0_0 : Int) (R : Type) (A_ : (List Int) → Int → Int → Int → Option R) (K : ((Int × Int) ⊕ (Int)) → Option R) : Option R := cond (decide (x8 < x7)) (cond (decide (0 ≤ x8)) ((x0[x8.toNat]?).bind fun e2 => ((He n e2 h0_0).bind fun o3 => (cond o3.1 (K (Sum.inl (x8, o3.2))) (A_ x0 x7 (IntKind.i64.wrap (x8 + (1 : Int))) o3.2)))) none) (K (Sum.inr h0_0))
def aH (n : Nat) : Nat → (List Int) → Int → Int → Int → Option ((Int × Int) ⊕ (Int))
 | 0, _, _, _, _ => none
 | m + 1, x0, x7, x8, h0_0 => bV n x0 x7 x8 h0_0 _ (aH n m) some
def mQ : PS := ⟨[], [(0, .l .u8), (1, .f (.func 123) [] [.q 0 0]), (7, .n), (8, .n)], some [.c 5 [.c]], [⟨.ret, [], [(4, .n)], [.c 5 [.c]], none⟩, ⟨(.exit 0), [], [], [.c 5 [.c]], none⟩], none, none⟩
theorem Ak (n : Nat) : Snd ⟨Tryz.prog, 1, 19⟩ (mQ.x (aH n n)) (fb Tryz.f161 21) := lC (S := mQ) (b := bV n) (f := aH n) n (.s .a (.s .a (.s (.u (.s .a (.s (.r [(5, .cl 123 (J5 n))]) .a))) .a))) (nl4 (bV n) (by intros; unfold bV; simp only [ax])) (ai (MS n) trivial)
def gN (n : Nat) (a0 : List Int) (h0 : Int) (R : Type) (K : (Int × Int) → Option R) : Option R := (aH n n a0 (a0.length : Int) (0 : Int) h0).bind fun o4 => (Sum.elim (fun o5 => K (o5.1, o5.2)) (fun o6 => K ((-1 : Int), o6)) o4)
def pM n a0 h0 := gN n a0 h0 _ some
def vV : FS := ⟨[.l .u8, .f (.func 123) [] [.q 0 0]], [.c 5 [.c]], [([.n], [.c 5 [.c]])]⟩
def uZ (n : Nat) : FSpec := vV.sp (pM n)
theorem AP (n : Nat) : FSound Tryz.prog 161 (uZ n) := fs2 (S := vV) (b := gN n) Tryz.func161 rfl rfl [.tmp 4] (.s .a (.s (.s .a (.u (.p (mQ.x (aH n n))))) .a)) (nt2 (gN n) (by intros; unfold gN; simp only [ax])) (ai (Ak n) trivial)
def eT (n : Nat) (a0 : List Int) (h0 : Int) (R : Type) (K : (Bool × Int) → Option R) : Option R := (pM n a0 h0).bind fun o7 => (K (decide (o7.1 ≥ (0 : Int)), o7.2))
def mR n a0 h0 := eT n a0 h0 _ some
def uk : FS := ⟨[.l .u8, .f (.func 123) [] [.q 0 0]], [.c 5 [.c]], [([.b], [.c 5 [.c]])]⟩
def sw (n : Nat) : FSpec := uk.sp (mR n)
theorem yI (n : Nat) : FSound Tryz.prog 124 (sw n) := fs2 (S := uk) (b := eT n) Tryz.func124 rfl rfl [.tmp 4] (.s .a (.s (.r [(2, .cl 161 (uZ n))]) .a)) (nt2 (eT n) (by intros; unfold eT; simp only [ax])) (ai (AP n) trivial)
def Di (n : Nat) (a0 : Str) (a1 a2 : Int) (R : Type) (K : Bool → Option R) : Option R := cond (decide ((a0.length : Int) ≤ a1)) ((mR n (pJ a0) a2).bind fun o8 => (K (!o8.1))) (K false)
def Dj n a0 a1 a2 := Di n a0 a1 a2 _ some
def OC : FS := ⟨[.s, .n, .c], [], [([.b], [])]⟩
def I8 (n : Nat) : FSpec := OC.sp (Dj n)
theorem Jp (n : Nat) : FSound Tryz.prog 85 (I8 n) := fs2 (S := OC) (b := Di n) Tryz.func85 rfl rfl [.tmp 6] (.s .a (.s .a (.s (.r [(8, .cl 124 (sw n))]) .a))) (nt3 (Di n) (by intros; unfold Di; simp only [ax])) (ai (yI n) trivial)
def vW (n : Nat) (h0_0 : List (List AV)) (h0_1 h0_2 : List Int) (h0_3 : Str) (R : Type) (K : W0 → Option R) : Option R := cond (decide ((h0_0.length : Int) < (1 : Int))) (K (true, h0_0, h0_1, h0_2, h0_3)) (cond (decide ((h0_0.length : Int) > (255 : Int))) (K (true, h0_0, h0_1, h0_2, h0_3)) (cond (decide ((h0_1.length : Int) > (4000 : Int))) (K (true, h0_0, h0_1, h0_2, h0_3)) (cond ((h0_1.length : Int) != (h0_2.length : Int)) (K (true, h0_0, h0_1, h0_2, h0_3)) ((Dj n h0_3 (100 : Int) (32 : Int)).bind fun o23 => (K (!o23, h0_0, h0_1, h0_2, h0_3))))))
def CX n h0_0 h0_1 h0_2 h0_3 := vW n h0_0 h0_1 h0_2 h0_3 _ some
def DL : PS := ⟨[], [(1, .q 0 0)], some [.c 26 [.L false 3, .l .i64, .l .i64, .s]], [⟨.normal, [1], [(38, .b)], [.c 26 [.L false 3, .l .i64, .l .i64, .s]], none⟩], none, none⟩
def vX (n : Nat) (h0_0 : List (List AV)) (h0_1 h0_2 : List Int) (h0_3 : Str) (h1_0 : Int) (h1_1 : Bool) (h1_2 : Str) (R : Type) (K : (Bool × (List (List AV)) × (List Int) × (List Int) × Str × Int × Bool × Str) → Option R) : Option R := cond (decide (h1_0 < (-89999 : Int))) (K (true, h0_0, h0_1, h0_2, h0_3, h1_0, h1_1, h1_2)) (cond (decide (h1_0 > (93599 : Int))) (K (true, h0_0, h0_1, h0_2, h0_3, h1_0, h1_1, h1_2)) (cond (h1_2 == ([] : Str)) (K (true, h0_0, h0_1, h0_2, h0_3, h1_0, h1_1, h1_2)) ((Dj n h1_2 (15 : Int) (33 : Int)).bind fun o35 => (K (!o35, h0_0, h0_1, h0_2, h0_3, h1_0, h1_1, h1_2)))))
def yJ n h0_0 h0_1 h0_2 h0_3 h1_0 h1_1 h1_2 := vX n h0_0 h0_1 h0_2 h0_3 h1_0 h1_1 h1_2 _ some
def DN : PS := ⟨[1, 3, 40, 41, 42], [(5, .q 1 0)], some [.c 26 [.L false 3, .l .i64, .l .i64, .s], .c 76 [.n, .b, .s]], [⟨.normal, [1, 3, 40, 41, 42], [(70, .b)], [.c 26 [.L false 3, .l .i64, .l .i64, .s], .c 76 [.n, .b, .s]], none⟩], none, none⟩
def rZ (n : Nat) (x3 : Int) (x40 : List (List AV)) (x41 x42 : Int) (h0_0 : List (List AV)) (h0_1 h0_2 : List Int) (h0_3 : Str) (R : Type) (A_ : Int → (List (List AV)) → Int → Int → (List (List AV)) → (List Int) → (List Int) → Str → Option R) (K : ((Unit) ⊕ W1) → Option R) : Option R := cond (decide (x42 < x41)) (cond (decide (0 ≤ x42)) ((x40[x42.toNat]?).bind fun e25 => (unc e25 fun c26 r27 => xS .i64 c26 fun x28 => unc r27 fun c29 r30 => yC c29 fun x31 => unc r30 fun c32 r33 => yD c32 fun x34 => unn r33 ((yJ n h0_0 h0_1 h0_2 h0_3 x28 x31 x34).bind fun o36 => (cond o36.1 (K (Sum.inl ())) (A_ (IntKind.i64.wrap (x3 + (IntKind.i64.wrap ((x34.length : Int) + (1 : Int))))) x40 x41 (IntKind.i64.wrap (x42 + (1 : Int))) o36.2.1 o36.2.2.1 o36.2.2.2.1 o36.2.2.2.2.1))))) none) (K (Sum.inr (x3, h0_0, h0_1, h0_2, h0_3)))
def qw (n : Nat) : Nat → Int → (List (List AV)) → Int → Int → (List (List AV)) → (List Int) → (List Int) → Str → Option ((Unit) ⊕ W1)
 | 0, _, _, _, _, _, _, _, _ => none
 | m + 1, x3, x40, x41, x42, h0_0, h0_1, h0_2, h0_3 => rZ n x3 x40 x41 x42 h0_0 h0_1 h0_2 h0_3 _ (qw n m) some
def DR : PS := ⟨[], [(1, .q 0 0), (3, .n), (40, .L false 3), (41, .n), (42, .n)], some [.c 26 [.L false 3, .l .i64, .l .i64, .s]], [⟨.ret, [], [(2, .x (.bool false))], [], (some 0)⟩, ⟨(.exit 0), [1], [(3, .n)], [.c 26 [.L false 3, .l .i64, .l .i64, .s]], none⟩], (some 0), (some 0)⟩
def vY (n : Nat) (x6 x7 : Int) (h0_0 : List (List AV)) (h0_1 h0_2 : List Int) (h0_3 : Str) (R : Type) (K : W0 → Option R) : Option R := cond (decide (x7 < (0 : Int))) (K (true, h0_0, h0_1, h0_2, h0_3)) (cond (decide (x7 ≥ (h0_0.length : Int))) (K (true, h0_0, h0_1, h0_2, h0_3)) (cond (decide (x6 > (0 : Int))) (cond (decide (0 ≤ x6)) ((h0_1[x6.toNat]?).bind fun e41 => (cond (decide (0 ≤ (IntKind.i64.wrap (x6 - (1 : Int))))) ((h0_1[(IntKind.i64.wrap (x6 - (1 : Int))).toNat]?).bind fun e42 => (K (decide (e41 ≤ e42), h0_0, h0_1, h0_2, h0_3))) none)) none) (K (false, h0_0, h0_1, h0_2, h0_3))))
def yK n x6 x7 h0_0 h0_1 h0_2 h0_3 := vY n x6 x7 h0_0 h0_1 h0_2 h0_3 _ some
def DT : PS := ⟨[3, 73, 74, 75], [(1, .q 0 0), (6, .n), (7, .n)], some [.c 26 [.L false 3, .l .i64, .l .i64, .s]], [⟨.normal, [1, 3, 73, 74, 75], [(106, .b)], [.c 26 [.L false 3, .l .i64, .l .i64, .s]], none⟩], none, none⟩
def r9 (n : Nat) (x73 : List Int) (x74 x75 : Int) (h0_0 : List (List AV)) (h0_1 h0_2 : List Int) (h0_3 : Str) (R : Type) (A_ : (List Int) → Int → Int → (List (List AV)) → (List Int) → (List Int) → Str → Option R) (K : (((List (List AV)) × (List Int) × (List Int) × Str) ⊕ ((List (List AV)) × (List Int) × (List Int) × Str)) → Option R) : Option R := cond (decide (x75 < x74)) (cond (decide (0 ≤ x75)) ((x73[x75.toNat]?).bind fun e40 => ((yK n x75 e40 h0_0 h0_1 h0_2 h0_3).bind fun o43 => (cond o43.1 (K (Sum.inl (o43.2.1, o43.2.2.1, o43.2.2.2.1, o43.2.2.2.2))) (A_ x73 x74 (IntKind.i64.wrap (x75 + (1 : Int))) o43.2.1 o43.2.2.1 o43.2.2.2.1 o43.2.2.2.2)))) none) (K (Sum.inr (h0_0, h0_1, h0_2, h0_3)))
def qx (n : Nat) : Nat → (List Int) → Int → Int → (List (List AV)) → (List Int) → (List Int) → Str → Option (((List (List AV)) × (List Int) × (List Int) × Str) ⊕ ((List (List AV)) × (List Int) × (List Int) × Str))
 | 0, _, _, _, _, _, _, _ => none
 | m + 1, x73, x74, x75, h0_0, h0_1, h0_2, h0_3 => r9 n x73 x74 x75 h0_0 h0_1 h0_2 h0_3 _ (qx n m) some
def DU : PS := ⟨[3], [(1, .q 0 0), (73, .l .i64), (74, .n), (75, .n)], some [.c 26 [.L false 3, .l .i64, .l .i64, .s]], [⟨.ret, [], [(2, .x (.bool false))], [.c 26 [.L false 3, .l .i64, .l .i64, .s]], none⟩, ⟨(.exit 2), [3], [], [.c 26 [.L false 3, .l .i64, .l .i64, .s]], none⟩], none, none⟩
theorem MU (n : Nat) : Snd ⟨Tryz.prog, 0, 110⟩ (DN.x (yJ n)) (fb Tryz.f50 22935) := jC (S := DN) (b := vX n) (.r [(16, .cl 85 (I8 n))]) (nt7 (vX n) (by intros; unfold vX; simp only [ax])) (ai (Jp n) trivial)
theorem MV (n : Nat) : Snd ⟨Tryz.prog, 0, 110⟩ (DT.x (yK n)) (fb Tryz.f50 21295) := jC (S := DT) (b := vY n) (.d [] [(4, .look), (13, .look), (17, .no), (18, .look), (23, .no)]) (nt6 (vY n) (by intros; unfold vY; simp only [ax])) trivial
theorem MW (n : Nat) : Snd ⟨Tryz.prog, 0, 110⟩ (DL.x (CX n)) (fb Tryz.f50 9) := jC (S := DL) (b := vW n) (.r [(28, .cl 85 (I8 n))]) (nt4 (vW n) (by intros; unfold vW; simp only [ax])) (ai (Jp n) trivial)
theorem MX (n : Nat) : Snd ⟨Tryz.prog, 0, 110⟩ (DR.x (qw n n)) (fb Tryz.f50 87) := lC (S := DR) (b := rZ n) (f := qw n) n (.s .a (.s .a (.s (.u (.s .a (.s .a (.s (.p (DN.x (yJ n))) .a)))) .a))) (nl8 (rZ n) (by intros; unfold rZ; simp only [ax])) (ai (MU n) trivial)
theorem MZ (n : Nat) : Snd ⟨Tryz.prog, 0, 110⟩ (DU.x (qx n n)) (fb Tryz.f50 175) := lC (S := DU) (b := r9 n) (f := qx n) n (.s .a (.s .a (.s (.u (.s .a (.s (.p (DT.x (yK n))) .a))) .a))) (nl7 (r9 n) (by intros; unfold r9; simp only [ax])) (ai (MV n) trivial)
def AQ (n : Nat) (a0 : List (List AV)) (a1 a2 : List Int) (a3 : Str) (R : Type) (K : Bool → Option R) : Option R := (CX n a0 a1 a2 a3).bind fun o24 => (cond o24.1 (K false) ((qw n n (0 : Int) o24.2.1 (o24.2.1.length : Int) (0 : Int) o24.2.1 o24.2.2.1 o24.2.2.2.1 o24.2.2.2.2).bind fun o37 => (Sum.elim (fun o38 => K false) (fun o39 => (qx n n o39.2.2.2.1 (o39.2.2.2.1.length : Int) (0 : Int) o39.2.1 o39.2.2.1 o39.2.2.2.1 o39.2.2.2.2).bind fun o44 => (Sum.elim (fun o45 => K false) (fun o46 => K (decide (o39.1 ≤ (256 : Int)))) o44)) o37)))
def AR n a0 a1 a2 a3 := AQ n a0 a1 a2 a3 _ some
def M0 : FS := ⟨[.a [.L false 3, .l .i64, .l .i64, .s]], [], [([.b], [])]⟩
def Hf (n : Nat) : FSpec := M0.sp (AR n)
theorem Il (n : Nat) : FSound Tryz.prog 50 (Hf n) := fs2 (S := M0) (b := AQ n) Tryz.func50 rfl rfl [.tmp 2] (.s .a (.s (.s (.p (DL.x (CX n))) .a) (.s .a (.s (.s .a (.u (.p (DR.x (qw n n))))) (.s (.s .a (.u (.p (DU.x (qx n n))))) .a))))) (nt4 (AQ n) (by intros; unfold AQ; simp only [ax])) (ai (MW n) (ai (MX n) (ai (MZ n) trivial)))
theorem JE : Clones Tryz.prog 51 22 76 3 32 := by
 refine ⟨Go.Sh.enters_of Tryz.func51 (by kernel_rfl) rfl, fun n c w => ?_, fun a n c w v2 w2 ha => ?_, Tryz.underlying22, ?_, by decide⟩
 ·have q := Lib.run_eql_slice_nil (P := Tryz.prog) w 22 _ none n c 0 0 Tryz.underlying22
  go_enter Tryz.func51, Tryz.ntmps51
  go_wp2
  go_ret
  exact ⟨rfl, rfl⟩
 ·have q := Lib.run_eql_slice_nil (P := Tryz.prog) w 22 _ (some a) n c 0 0 Tryz.underlying22
  go_enter Tryz.func51, Tryz.ntmps51
  go_wp2_with (at_builtin; refine wpList_append_run rfl _ _ 22 22 rfl _ _ _ rfl rfl ha ?_)
  go_ret
  exact ⟨rfl, rfl⟩
 ·obtain ⟨i, h1, h2⟩ := Option.map_eq_some_iff.1 (by kernel_rfl : (Tryz.prog.info? 76).map (fun i => (i.size, i.bytes, i.zero.map fun z => z.cells.size)) = some (3, 32, some 3))
  injection h2 with h3 h2
  injection h2 with h4 h5
  obtain ⟨z, h6, h7⟩ := Option.map_eq_some_iff.1 h5
  exact ⟨i, z, h1, h6, h3, h4, h7⟩
def Ei (n : Nat) : FSpec := Ik 3 32
theorem I9 (n : Nat) : FSound Tryz.prog 51 (Ei n) := I7 JE
theorem JF : Clones Tryz.prog 52 23 2 1 8 := by
 refine ⟨Go.Sh.enters_of Tryz.func52 (by kernel_rfl) rfl, fun n c w => ?_, fun a n c w v2 w2 ha => ?_, Tryz.underlying23, ?_, by decide⟩
 ·have q := Lib.run_eql_slice_nil (P := Tryz.prog) w 23 _ none n c 0 0 Tryz.underlying23
  go_enter Tryz.func52, Tryz.ntmps52
  go_wp2
  go_ret
  exact ⟨rfl, rfl⟩
 ·have q := Lib.run_eql_slice_nil (P := Tryz.prog) w 23 _ (some a) n c 0 0 Tryz.underlying23
  go_enter Tryz.func52, Tryz.ntmps52
  go_wp2_with (at_builtin; refine wpList_append_run rfl _ _ 23 23 rfl _ _ _ rfl rfl ha ?_)
  go_ret
  exact ⟨rfl, rfl⟩
 ·obtain ⟨i, h1, h2⟩ := Option.map_eq_some_iff.1 (by kernel_rfl : (Tryz.prog.info? 2).map (fun i => (i.size, i.bytes, i.zero.map fun z => z.cells.size)) = some (1, 8, some 1))
  injection h2 with h3 h2
  injection h2 with h4 h5
  obtain ⟨z, h6, h7⟩ := Option.map_eq_some_iff.1 h5
  exact ⟨i, z, h1, h6, h3, h4, h7⟩
def Ej (n : Nat) : FSpec := Ik 1 8
theorem Ja (n : Nat) : FSound Tryz.prog 52 (Ej n) := I7 JF
theorem JG : Clones Tryz.prog 53 24 3 1 8 := by
 refine ⟨Go.Sh.enters_of Tryz.func53 (by kernel_rfl) rfl, fun n c w => ?_, fun a n c w v2 w2 ha => ?_, Tryz.underlying24, ?_, by decide⟩
 ·have q := Lib.run_eql_slice_nil (P := Tryz.prog) w 24 _ none n c 0 0 Tryz.underlying24
  go_enter Tryz.func53, Tryz.ntmps53
  go_wp2
  go_ret
  exact ⟨rfl, rfl⟩
 ·have q := Lib.run_eql_slice_nil (P := Tryz.prog) w 24 _ (some a) n c 0 0 Tryz.underlying24
  go_enter Tryz.func53, Tryz.ntmps53
  go_wp2_with (at_builtin; refine wpList_append_run rfl _ _ 24 24 rfl _ _ _ rfl rfl ha ?_)
  go_ret
  exact ⟨rfl, rfl⟩
 ·obtain ⟨i, h1, h2⟩ := Option.map_eq_some_iff.1 (by kernel_rfl : (Tryz.prog.info? 3).map (fun i => (i.size, i.bytes, i.zero.map fun z => z.cells.size)) = some (1, 8, some 1))
  injection h2 with h3 h2
  injection h2 with h4 h5
  obtain ⟨z, h6, h7⟩ := Option.map_eq_some_iff.1 h5
  exact ⟨i, z, h1, h6, h3, h4, h7⟩
def El (n : Nat) : FSpec := Ik 1 8
theorem Jb (n : Nat) : FSound Tryz.prog 53 (El n) := I7 JG
def yt (n : Nat) (a0 a1 : Str) : Option (Str × Bool) := some (Lib.trimPrefix a0 a1, Lib.hasPrefix a0 a1)
def xq (n : Nat) : FSpec := fun vs hs R K => match vs with
 | [.str a0, .str a1] => (yt n a0 a1).bind fun o => K (.tuple [.str o.1, .bool o.2]) hs
 | _ => none
theorem Im (n : Nat) : FSound Tryz.prog 162 (xq n) := MO (Go.Sh.enters_of Tryz.func162 (by kernel_rfl) rfl) fun args H R k r h => by
 unfold xq at h
 split at h
 ·rename_i a0 a1
  refine ⟨_, h, fun g w vs hl hv => ?_⟩
  obtain ⟨v0, _, rfl, h0, hv⟩ := yF hv
  obtain ⟨v1, _, rfl, h1, hv⟩ := yF hv
  obtain rfl := Ew hv
  obtain ⟨s, rfl, rfl⟩ := PL h0
  obtain ⟨u, rfl, rfl⟩ := PL h1
  refine ⟨.tuple #[.string ⟨(Lib.trimPrefix s.data.toList u.data.toList).toArray⟩, .bool (Lib.hasPrefix s.data.toList u.data.toList)], rfl, fun g w => ?_, (Tryz.strings_CutPrefix s u w).mono ?_⟩
  ·simp only [VR]
   exact ⟨_, rfl, by simp only [VRs]; exact ⟨_, _, rfl, (Xf _).2 _ _, _, _, rfl, by simp only [VR], rfl⟩⟩
  ·rintro e w' ⟨rfl, rfl⟩
   exact ⟨rfl, Below.refl _ _⟩
 ·cases h
def pQ (n : Nat) (a0 : Int) (h0 : Str) (h1 : Bool) (R : Type) (K : (Bool × Str × Bool) → Option R) : Option R := (yt n h0 ((Utf8.encode (IntKind.i32.wrap a0)).data.toList)).bind fun o48 => (K (o48.2, o48.1, h1))
def bB n a0 h0 h1 := pQ n a0 h0 h1 _ some
def Em : FS := ⟨[.q 0 0, .c], [.c 147 [.s, .b]], [([.b], [.c 147 [.s, .b]])]⟩
def dQ (n : Nat) : FSpec := Em.sp (bB n)
theorem dw (n : Nat) : FSound Tryz.prog 125 (dQ n) := fs2 (S := Em) (b := pQ n) Tryz.func125 rfl rfl [.tmp 4] (.s .a (.s (.r [(7, .cl 162 (xq n)), (10, .tk [7])]) .a)) (nt3 (pQ n) (by intros; unfold pQ; simp only [ax])) (ai (Im n) trivial)
def qa (n : Nat) (a0 : Int) (R : Type) (K : Bool → Option R) : Option R := K (a0 != (62 : Int))
def qb n a0 := qa n a0 _ some
def AU : FS := ⟨[.c], [], [([.b], [])]⟩
def zS (n : Nat) : FSpec := AU.sp (qb n)
theorem Fw (n : Nat) : FSound Tryz.prog 127 (zS n) := fs2 (S := AU) (b := qa n) Tryz.func127 rfl rfl [.tmp 2] .a (nt1 (qa n) (by intros; unfold qa; simp only [ax])) trivial
def lD (n : Nat) (x1 x7 : Int) (h0_0 : Str) (h0_1 : Bool) (R : Type) (K : (Bool × Str × Bool) → Option R) : Option R := cond (decide (x7 < (h0_0.length : Int))) (cond (decide (x7 < x1)) (cond (decide (0 ≤ x7)) ((h0_0[x7.toNat]?).bind fun b50 => ((qb n (b50.toNat : Int)).bind fun o51 => (K (o51, h0_0, h0_1)))) none) (K (false, h0_0, h0_1))) (K (false, h0_0, h0_1))
def sD n x1 x7 h0_0 h0_1 := lD n x1 x7 h0_0 h0_1 _ some
def vz : PS := ⟨[], [(0, .q 0 0), (1, .n), (2, .f (.func 127) [] []), (7, .n)], some [.c 147 [.s, .b]], [⟨.normal, [0, 1, 2, 7], [(30, .b)], [.c 147 [.s, .b]], none⟩], none, none⟩
def lF (n : Nat) (x1 x7 : Int) (h0_0 : Str) (h0_1 : Bool) (R : Type) (A_ : Int → Int → Str → Bool → Option R) (K : (Int × Str × Bool) → Option R) : Option R := (sD n x1 x7 h0_0 h0_1).bind fun o52 => (cond o52.1 (A_ x1 (IntKind.i64.wrap (x7 + (1 : Int))) o52.2.1 o52.2.2) (K (x7, o52.2.1, o52.2.2)))
def iJ (n : Nat) : Nat → Int → Int → Str → Bool → Option ((Int × Str × Bool))
 | 0, _, _, _, _ => none
 | m + 1, x1, x7, h0_0, h0_1 => lF n x1 x7 h0_0 h0_1 _ (iJ n m) some
def vB : PS := ⟨[], [(0, .q 0 0), (1, .n), (2, .f (.func 127) [] []), (7, .n)], some [.c 147 [.s, .b]], [⟨(.exit 0), [0], [(7, .n)], [.c 147 [.s, .b]], none⟩], none, none⟩
theorem Hg (n : Nat) : Snd ⟨Tryz.prog, 1, 49⟩ (vz.x (sD n)) (fb Tryz.f126 131) := jC (S := vz) (b := lD n) (.r [(20, .cl 127 (zS n))]) (nt4 (lD n) (by intros; unfold lD; simp only [ax])) (ai (Fw n) trivial)
theorem Hl (n : Nat) : Snd ⟨Tryz.prog, 1, 49⟩ (vB.x (iJ n n)) (fb Tryz.f126 19) := lC (S := vB) (b := lF n) (f := iJ n) n (.s (.s (.p (vz.x (sD n))) .a) .a) (nl4 (lF n) (by intros; unfold lF; simp only [ax])) (ai (Hg n) trivial)
def pR (n : Nat) (a0 : Int) (h0 : Str) (h1 : Bool) (R : Type) (K : (Str × Str × Bool) → Option R) : Option R := (iJ n n a0 (0 : Int) h0 h1).bind fun o53 => (cond (decide (0 ≤ o53.1)) (cond (decide (o53.1 ≤ (o53.2.1.length : Int))) (cond (decide (0 ≤ o53.1)) (cond (decide (o53.1 ≤ (o53.2.1.length : Int))) (K ((o53.2.1.take o53.1.toNat).drop 0, o53.2.1.drop o53.1.toNat, o53.2.2)) none) none) none) none)
def uw n a0 h0 h1 := pR n a0 h0 h1 _ some
def En : FS := ⟨[.q 0 0, .n, .f (.func 127) [] []], [.c 147 [.s, .b]], [([.s], [.c 147 [.s, .b]])]⟩
def Dk (n : Nat) : FSpec := En.sp (uw n)
theorem Io (n : Nat) : FSound Tryz.prog 126 (Dk n) := fs2 (S := En) (b := pR n) Tryz.func126 rfl rfl [.tmp 6] (.s .a (.s .a (.s (.u (.p (vB.x (iJ n n)))) .a))) (nt3 (pR n) (by intros; unfold pR; simp only [ax])) (ai (Hl n) trivial)
def ou (n : Nat) (a0 : Int) (h0 : Str) (h1 : Bool) (R : Type) (K : (Str × Bool) → Option R) : Option R := (bB n a0 h0 h1).bind fun o55 => (cond (!o55.1) (K (o55.2.1, true)) (K (o55.2.1, o55.2.2)))
def fP n a0 h0 h1 := ou n a0 h0 h1 _ some
def Dl : FS := ⟨[.q 0 0, .c], [.c 147 [.s, .b]], [([], [.c 147 [.s, .b]])]⟩
def jI (n : Nat) : FSpec := Dl.sp (fP n)
theorem jN (n : Nat) : FSound Tryz.prog 89 (jI n) := fs2 (S := Dl) (b := ou n) Tryz.func89 rfl rfl [] (.r [(3, .cl 125 (dQ n))]) (nt3 (ou n) (by intros; unfold ou; simp only [ax])) (ai (dw n) trivial)
def zi (n : Nat) (a0 : Int) (R : Type) (K : Bool → Option R) : Option R := cond (decide (a0 ≥ (65 : Int))) (cond (decide (a0 ≤ (90 : Int))) (K true) (cond (decide (a0 ≥ (97 : Int))) (K (decide (a0 ≤ (122 : Int)))) (K false))) (cond (decide (a0 ≥ (97 : Int))) (K (decide (a0 ≤ (122 : Int)))) (K false))
def vZ n a0 := zi n a0 _ some
def Jq : FS := ⟨[.c], [], [([.b], [])]⟩
def Cz (n : Nat) : FSpec := Jq.sp (vZ n)
theorem Eo (n : Nat) : FSound Tryz.prog 128 (Cz n) := fs2 (S := Jq) (b := zi n) Tryz.func128 rfl rfl [.tmp 2] .a (nt1 (zi n) (by intros; unfold zi; simp only [ax])) trivial
def jO (n : Nat) (x1 x7 : Int) (h0_0 : Str) (h0_1 : Bool) (R : Type) (K : (Bool × Str × Bool) → Option R) : Option R := cond (decide (x7 < (h0_0.length : Int))) (cond (decide (x7 < x1)) (cond (decide (0 ≤ x7)) ((h0_0[x7.toNat]?).bind fun b57 => ((vZ n (b57.toNat : Int)).bind fun o58 => (K (o58, h0_0, h0_1)))) none) (K (false, h0_0, h0_1))) (K (false, h0_0, h0_1))
def qc n x1 x7 h0_0 h0_1 := jO n x1 x7 h0_0 h0_1 _ some
def sW : PS := ⟨[], [(0, .q 0 0), (1, .n), (2, .f (.func 128) [] []), (7, .n)], some [.c 147 [.s, .b]], [⟨.normal, [0, 1, 2, 7], [(30, .b)], [.c 147 [.s, .b]], none⟩], none, none⟩
def jP (n : Nat) (x1 x7 : Int) (h0_0 : Str) (h0_1 : Bool) (R : Type) (A_ : Int → Int → Str → Bool → Option R) (K : (Int × Str × Bool) → Option R) : Option R := (qc n x1 x7 h0_0 h0_1).bind fun o59 => (cond o59.1 (A_ x1 (IntKind.i64.wrap (x7 + (1 : Int))) o59.2.1 o59.2.2) (K (x7, o59.2.1, o59.2.2)))
def gH (n : Nat) : Nat → Int → Int → Str → Bool → Option ((Int × Str × Bool))
 | 0, _, _, _, _ => none
 | m + 1, x1, x7, h0_0, h0_1 => jP n x1 x7 h0_0 h0_1 _ (gH n m) some
def sZ : PS := ⟨[], [(0, .q 0 0), (1, .n), (2, .f (.func 128) [] []), (7, .n)], some [.c 147 [.s, .b]], [⟨(.exit 0), [0], [(7, .n)], [.c 147 [.s, .b]], none⟩], none, none⟩
theorem Fx (n : Nat) : Snd ⟨Tryz.prog, 1, 49⟩ (sW.x (qc n)) (fb Tryz.f126 131) := jC (S := sW) (b := jO n) (.r [(20, .cl 128 (Cz n))]) (nt4 (jO n) (by intros; unfold jO; simp only [ax])) (ai (Eo n) trivial)
theorem Fy (n : Nat) : Snd ⟨Tryz.prog, 1, 49⟩ (sZ.x (gH n n)) (fb Tryz.f126 19) := lC (S := sZ) (b := jP n) (f := gH n) n (.s (.s (.p (sW.x (qc n))) .a) .a) (nl4 (jP n) (by intros; unfold jP; simp only [ax])) (ai (Fx n) trivial)
def nz (n : Nat) (a0 : Int) (h0 : Str) (h1 : Bool) (R : Type) (K : (Str × Str × Bool) → Option R) : Option R := (gH n n a0 (0 : Int) h0 h1).bind fun o60 => (cond (decide (0 ≤ o60.1)) (cond (decide (o60.1 ≤ (o60.2.1.length : Int))) (cond (decide (0 ≤ o60.1)) (cond (decide (o60.1 ≤ (o60.2.1.length : Int))) (K ((o60.2.1.take o60.1.toNat).drop 0, o60.2.1.drop o60.1.toNat, o60.2.2)) none) none) none) none)
def qX n a0 h0 h1 := nz n a0 h0 h1 _ some
def BX : FS := ⟨[.q 0 0, .n, .f (.func 128) [] []], [.c 147 [.s, .b]], [([.s], [.c 147 [.s, .b]])]⟩
def AY (n : Nat) : FSpec := BX.sp (qX n)
theorem Gr (n : Nat) : FSound Tryz.prog 126 (AY n) := fs2 (S := BX) (b := nz n) Tryz.func126 rfl rfl [.tmp 6] (.s .a (.s .a (.s (.u (.p (sZ.x (gH n n)))) .a))) (nt3 (nz n) (by intros; unfold nz; simp only [ax])) (ai (Fy n) trivial)
def AZ (n : Nat) (a0 : Int) (R : Type) (K : Bool → Option R) : Option R := cond (decide (a0 ≥ (48 : Int))) (K (decide (a0 ≤ (57 : Int)))) (K false)
def xu n a0 := AZ n a0 _ some
def J6 : FS := ⟨[.c], [], [([.b], [])]⟩
def DV (n : Nat) : FSpec := J6.sp (xu n)
theorem Fz (n : Nat) : FSound Tryz.prog 142 (DV n) := fs2 (S := J6) (b := AZ n) Tryz.func142 rfl rfl [.tmp 2] .a (nt1 (AZ n) (by intros; unfold AZ; simp only [ax])) trivial
def zk (n : Nat) (a0 : Int) (R : Type) (K : Bool → Option R) : Option R := (vZ n a0).bind fun o64 => (cond o64 (K true) ((xu n a0).bind fun o65 => (cond o65 (K true) (cond (a0 == (43 : Int)) (K true) (K (a0 == (45 : Int)))))))
def Jr n a0 := zk n a0 _ some
def Js : FS := ⟨[.c], [], [([.b], [])]⟩
def Ip (n : Nat) : FSpec := Js.sp (Jr n)
theorem KY (n : Nat) : FSound Tryz.prog 141 (Ip n) := fs2 (S := Js) (b := zk n) Tryz.func141 rfl rfl [.tmp 2] (.s .a (.s (.r [(1, .cl 128 (Cz n)), (4, .cl 142 (DV n))]) .a)) (nt1 (zk n) (by intros; unfold zk; simp only [ax])) (ai (Eo n) (ai (Fz n) trivial))
def Ba (n : Nat) (a0 : Int) (R : Type) (K : Bool → Option R) : Option R := (Jr n a0).bind fun o66 => (K (!o66))
def Bb n a0 := Ba n a0 _ some
def J7 : FS := ⟨[.c, .q 0 0], [.c 181 [.f (.func 141) [] []]], [([.b], [.c 181 [.f (.func 141) [] []]])]⟩
def Jt (n : Nat) : FSpec := J7.sp (Bb n)
theorem LX (n : Nat) : FSound Tryz.prog 172 (Jt n) := fs2 (S := J7) (b := Ba n) Tryz.func172 rfl rfl [.tmp 3] (.s .a (.s (.r [(2, .cl 141 (Ip n))]) .a)) (nt1 (Ba n) (by intros; unfold Ba; simp only [ax])) (ai (KY n) trivial)
def dF (n : Nat) (x0 : List Int) (x7 x8 : Int) (R : Type) (A_ : (List Int) → Int → Int → Option R) (K : ((Int) ⊕ (Unit)) → Option R) : Option R := cond (decide (x8 < x7)) (cond (decide (0 ≤ x8)) ((x0[x8.toNat]?).bind fun e63 => ((Bb n e63).bind fun o67 => (cond o67 (K (Sum.inl x8)) (A_ x0 x7 (IntKind.i64.wrap (x8 + (1 : Int))))))) none) (K (Sum.inr ()))
def bn (n : Nat) : Nat → (List Int) → Int → Int → Option ((Int) ⊕ (Unit))
 | 0, _, _, _ => none
 | m + 1, x0, x7, x8 => dF n x0 x7 x8 _ (bn n m) some
def kY : PS := ⟨[], [(0, .l .u8), (1, .f (.func 172) [] [.q 0 0]), (7, .n), (8, .n)], some [.c 181 [.f (.func 141) [] []]], [⟨.ret, [], [(4, .n)], [.c 181 [.f (.func 141) [] []]], none⟩, ⟨(.exit 0), [], [], [.c 181 [.f (.func 141) [] []]], none⟩], none, none⟩
theorem yL (n : Nat) : Snd ⟨Tryz.prog, 1, 19⟩ (kY.x (bn n n)) (fb Tryz.f161 21) := lC (S := kY) (b := dF n) (f := bn n) n (.s .a (.s .a (.s (.u (.s .a (.s (.r [(5, .cl 172 (Jt n))]) .a))) .a))) (nl3 (dF n) (by intros; unfold dF; simp only [ax])) (ai (LX n) trivial)
def fo (n : Nat) (a0 : List Int) (R : Type) (K : Int → Option R) : Option R := (bn n n a0 (a0.length : Int) (0 : Int)).bind fun o68 => (Sum.elim (fun o69 => K o69) (fun o70 => K (-1 : Int)) o68)
def nP n a0 := fo n a0 _ some
def uE : FS := ⟨[.l .u8, .f (.func 172) [] [.q 0 0]], [.c 181 [.f (.func 141) [] []]], [([.n], [.c 181 [.f (.func 141) [] []]])]⟩
def ul (n : Nat) : FSpec := uE.sp (nP n)
theorem zw (n : Nat) : FSound Tryz.prog 161 (ul n) := fs2 (S := uE) (b := fo n) Tryz.func161 rfl rfl [.tmp 4] (.s .a (.s (.s .a (.u (.p (kY.x (bn n n))))) .a)) (nt1 (fo n) (by intros; unfold fo; simp only [ax])) (ai (yL n) trivial)
def dG (n : Nat) (a0 : List Int) (R : Type) (K : Bool → Option R) : Option R := (nP n a0).bind fun o71 => (K (decide (o71 ≥ (0 : Int))))
def kZ n a0 := dG n a0 _ some
def rA : FS := ⟨[.l .u8, .f (.func 172) [] [.q 0 0]], [.c 181 [.f (.func 141) [] []]], [([.b], [.c 181 [.f (.func 141) [] []]])]⟩
def qC (n : Nat) : FSpec := rA.sp (kZ n)
theorem xX (n : Nat) : FSound Tryz.prog 124 (qC n) := fs2 (S := rA) (b := dG n) Tryz.func124 rfl rfl [.tmp 4] (.s .a (.s (.r [(2, .cl 161 (ul n))]) .a)) (nt1 (dG n) (by intros; unfold dG; simp only [ax])) (ai (zw n) trivial)
def Bc (n : Nat) (a0 : Str) (R : Type) (K : Bool → Option R) : Option R := (kZ n (pJ a0)).bind fun o72 => (K (!o72))
def Ey n a0 := Bc n a0 _ some
def M3 : FS := ⟨[.s, .f (.func 141) [] []], [], [([.b], [])]⟩
def Lg (n : Nat) : FSpec := M3.sp (Ey n)
theorem NS (n : Nat) : FSound Tryz.prog 140 (Lg n) := fs2 (S := M3) (b := Bc n) Tryz.func140 rfl rfl [.tmp 4] (.s .a (.s (.r [(3, .cl 124 (qC n))]) .a)) (nt1 (Bc n) (by intros; unfold Bc; simp only [ax])) (ai (xX n) trivial)
def yM (n : Nat) (a0 : Str) (R : Type) (K : Bool → Option R) : Option R := cond (decide ((a0.length : Int) ≥ (3 : Int))) (cond (decide ((a0.length : Int) ≤ (10 : Int))) ((Ey n a0).bind fun o73 => (K o73)) (K false)) (K false)
def wJ n a0 := yM n a0 _ some
def Lh : FS := ⟨[.s], [], [([.b], [])]⟩
def Bd (n : Nat) : FSpec := Lh.sp (wJ n)
theorem Be (n : Nat) : FSound Tryz.prog 101 (Bd n) := fs2 (S := Lh) (b := yM n) Tryz.func101 rfl rfl [.tmp 2] (.s .a (.s (.r [(10, .cl 140 (Lg n))]) .a)) (nt1 (yM n) (by intros; unfold yM; simp only [ax])) (ai (NS n) trivial)
def ky (n : Nat) (h0_0 : Str) (h0_1 : Bool) (R : Type) (K : (Str × Str × Bool) → Option R) : Option R := (bB n (60 : Int) h0_0 h0_1).bind fun o49 => (cond o49.1 ((uw n (o49.2.1.length : Int) o49.2.1 o49.2.2).bind fun o54 => ((fP n (62 : Int) o54.2.1 o54.2.2).bind fun o56 => (K (o54.1, o56.1, o56.2)))) ((qX n (o49.2.1.length : Int) o49.2.1 o49.2.2).bind fun o61 => (K (o61.1, o61.2.1, o61.2.2))))
def qY n h0_0 h0_1 := ky n h0_0 h0_1 _ some
def uF : PS := ⟨[], [(0, .q 0 0)], some [.c 147 [.s, .b]], [⟨.normal, [0], [(3, .s)], [.c 147 [.s, .b]], none⟩], none, none⟩
theorem Gs (n : Nat) : Snd ⟨Tryz.prog, 1, 35⟩ (uF.x (qY n)) (fb Tryz.f86 11) := jC (S := uF) (b := ky n) (.s (.r [(1, .cl 125 (dQ n))]) (.s (.s (.r [(6, .cl 126 (Dk n))]) (.r [(1, .cl 89 (jI n))])) (.r [(6, .cl 126 (AY n))]))) (nt2 (ky n) (by intros; unfold ky; simp only [ax])) (ai (dw n) (ai (Io n) (ai (jN n) (ai (Gr n) trivial))))
def ow (n : Nat) (h0 : Str) (h1 : Bool) (R : Type) (K : (Str × Str × Bool) → Option R) : Option R := (qY n h0 h1).bind fun o62 => (cond o62.2.2 (K (o62.1, o62.2.1, true)) ((wJ n o62.1).bind fun o74 => (K (o62.1, o62.2.1, !o74))))
def oz n h0 h1 := ow n h0 h1 _ some
def Dm : FS := ⟨[.q 0 0], [.c 147 [.s, .b]], [([.s], [.c 147 [.s, .b]])]⟩
def wM (n : Nat) : FSpec := Dm.sp (oz n)
theorem yN (n : Nat) : FSound Tryz.prog 86 (wM n) := fs2 (S := Dm) (b := ow n) Tryz.func86 rfl rfl [.tmp 2] (.s .a (.s .a (.s (.p (uF.x (qY n))) (.s (.r [(7, .cl 101 (Bd n))]) .a)))) (nt2 (ow n) (by intros; unfold ow; simp only [ax])) (ai (Gs n) (ai (Be n) trivial))
def jQ (n : Nat) (x1 x7 : Int) (h0_0 : Str) (h0_1 : Bool) (R : Type) (K : (Bool × Str × Bool) → Option R) : Option R := cond (decide (x7 < (h0_0.length : Int))) (cond (decide (x7 < x1)) (cond (decide (0 ≤ x7)) ((h0_0[x7.toNat]?).bind fun b79 => ((xu n (b79.toNat : Int)).bind fun o80 => (K (o80, h0_0, h0_1)))) none) (K (false, h0_0, h0_1))) (K (false, h0_0, h0_1))
def qd n x1 x7 h0_0 h0_1 := jQ n x1 x7 h0_0 h0_1 _ some
def tq : PS := ⟨[], [(0, .q 0 0), (1, .n), (2, .f (.func 142) [] []), (7, .n)], some [.c 147 [.s, .b]], [⟨.normal, [0, 1, 2, 7], [(30, .b)], [.c 147 [.s, .b]], none⟩], none, none⟩
def jR (n : Nat) (x1 x7 : Int) (h0_0 : Str) (h0_1 : Bool) (R : Type) (A_ : Int → Int → Str → Bool → Option R) (K : (Int × Str × Bool) → Option R) : Option R := (qd n x1 x7 h0_0 h0_1).bind fun o81 => (cond o81.1 (A_ x1 (IntKind.i64.wrap (x7 + (1 : Int))) o81.2.1 o81.2.2) (K (x7, o81.2.1, o81.2.2)))
def gI (n : Nat) : Nat → Int → Int → Str → Bool → Option ((Int × Str × Bool))
 | 0, _, _, _, _ => none
 | m + 1, x1, x7, h0_0, h0_1 => jR n x1 x7 h0_0 h0_1 _ (gI n m) some
def tu : PS := ⟨[], [(0, .q 0 0), (1, .n), (2, .f (.func 142) [] []), (7, .n)], some [.c 147 [.s, .b]], [⟨(.exit 0), [0], [(7, .n)], [.c 147 [.s, .b]], none⟩], none, none⟩
theorem FB (n : Nat) : Snd ⟨Tryz.prog, 1, 49⟩ (tq.x (qd n)) (fb Tryz.f126 131) := jC (S := tq) (b := jQ n) (.r [(20, .cl 142 (DV n))]) (nt4 (jQ n) (by intros; unfold jQ; simp only [ax])) (ai (Fz n) trivial)
theorem FC (n : Nat) : Snd ⟨Tryz.prog, 1, 49⟩ (tu.x (gI n n)) (fb Tryz.f126 19) := lC (S := tu) (b := jR n) (f := gI n) n (.s (.s (.p (tq.x (qd n))) .a) .a) (nl4 (jR n) (by intros; unfold jR; simp only [ax])) (ai (FB n) trivial)
def nA (n : Nat) (a0 : Int) (h0 : Str) (h1 : Bool) (R : Type) (K : (Str × Str × Bool) → Option R) : Option R := (gI n n a0 (0 : Int) h0 h1).bind fun o82 => (cond (decide (0 ≤ o82.1)) (cond (decide (o82.1 ≤ (o82.2.1.length : Int))) (cond (decide (0 ≤ o82.1)) (cond (decide (o82.1 ≤ (o82.2.1.length : Int))) (K ((o82.2.1.take o82.1.toNat).drop 0, o82.2.1.drop o82.1.toNat, o82.2.2)) none) none) none) none)
def qZ n a0 h0 h1 := nA n a0 h0 h1 _ some
def BZ : FS := ⟨[.q 0 0, .n, .f (.func 142) [] []], [.c 147 [.s, .b]], [([.s], [.c 147 [.s, .b]])]⟩
def Bf (n : Nat) : FSpec := BZ.sp (qZ n)
theorem Gt (n : Nat) : FSound Tryz.prog 126 (Bf n) := fs2 (S := BZ) (b := nA n) Tryz.func126 rfl rfl [.tmp 6] (.s .a (.s .a (.s (.u (.p (tu.x (gI n n)))) .a))) (nt3 (nA n) (by intros; unfold nA; simp only [ax])) (ai (FC n) trivial)
def FD (a0 : Str) : Int := match Lib.atoiAll a0 with
 | .ok v => v
 | .range => Lib.atoiSat a0
 | _ => 0
def xw (n : Nat) (a0 : Str) : Option Int := cond (decide (a0.length ≤ 281474976710656)) (some (FD a0)) none
def DW (n : Nat) : FSpec := fun vs hs R K => match vs with
 | [.str a0] => (xw n a0).bind fun o => K (.tuple [.int .i64 o, .undef]) hs
 | _ => none
theorem LY (n : Nat) : FSound Tryz.prog 163 (DW n) := QD (Go.Sh.enters_of Tryz.func163 (by kernel_rfl) rfl) fun args H R k r h => by
 unfold DW at h
 split at h
 ·rename_i a0
  obtain ⟨o, h2, h⟩ := Option.bind_eq_some_iff.1 h
  unfold xw at h2
  obtain ⟨h3, h2⟩ | ⟨_, h2⟩ := ae h2
  ·injection h2 with h2
   subst h2
   simp only [decide_eq_true_eq] at h3
   refine ⟨_, h, fun g w vs hg hl hv => ?_⟩
   obtain ⟨v0, _, rfl, h0, hv⟩ := yF hv
   obtain rfl := Ew hv
   obtain ⟨s, rfl, rfl⟩ := PL h0
   rw [Array.length_toList] at h3
   have plain : ∀ (n : Int) (x : Value), owns (.tuple [.int .i64 n, .undef]) (.tuple #[.int .i64 n, x]) = [] ∧ ∀ (g : Gh) (w : World), VR g w (.tuple [.int .i64 n, .undef]) (.tuple #[.int .i64 n, x]) := fun n x => ⟨by cases x <;> rfl, fun g w => by simp only [VR]; exact ⟨_, rfl, by simp only [VRs, VR]; exact ⟨_, _, rfl, rfl, _, _, rfl, trivial, rfl⟩⟩⟩
   unfold FD
   have h3' : s.size ≤ 281474976710656 := h3
   cases hx : Lib.atoiAll s.data.toList with
   | ok v =>
    refine (Tryz.strconv_Atoi_ok s (by omega) v hx w).mono ?_
    rintro e w' ⟨rfl, hw⟩
    refine ⟨_, rfl, (plain _ _).1, (plain _ _).2, ?_⟩
    rcases hw with rfl | ⟨t, rfl⟩
    ·exact Below.refl _ _
    ·exact Lib.bytesWorld_below _ _ _
   | range =>
    obtain ⟨u, x, hc⟩ := UX hg
    refine (Tryz.strconv_Atoi_range s h3' hx _ w hc (.inr ⟨_, _, rfl⟩)).mono ?_
    rintro e w' ⟨N, rfl, _, _, hb⟩
    exact ⟨_, rfl, (plain _ _).1, (plain _ _).2, hb⟩
   | _ =>
    obtain ⟨u, x, hc⟩ := Tf hg
    refine (Any.strconv_Atoi_syntax Tryz.P7 s h3' hx _ w hc (.inr ⟨_, _, rfl⟩)).mono ?_
    rintro e w' ⟨N, rfl, _, _, hb⟩
    exact ⟨_, rfl, (plain _ _).1, (plain _ _).2, hb⟩
  ·cases h2
 ·cases h
def jm (n : Nat) (x1 : Int) (x7 h0_0 : Str) (h0_1 : Bool) (R : Type) (K : (Str × Bool) → Option R) : Option R := cond h0_1 (K (h0_0, true)) (K (h0_0, decide ((x7.length : Int) < x1)))
def oZ n x1 x7 h0_0 h0_1 := jm n x1 x7 h0_0 h0_1 _ some
def rE : PS := ⟨[], [(0, .q 0 0), (1, .n), (7, .s)], some [.c 147 [.s, .b]], [⟨.normal, [7], [], [.c 147 [.s, .b]], none⟩], none, none⟩
theorem Ez (n : Nat) : Snd ⟨Tryz.prog, 1, 32⟩ (rE.x (oZ n)) (fb Tryz.f129 11) := jC (S := rE) (b := jm n) .a (nt4 (jm n) (by intros; unfold jm; simp only [ax])) trivial
def lG (n : Nat) (a0 a1 : Int) (h0 : Str) (h1 : Bool) (R : Type) (K : (Int × Str × Bool) → Option R) : Option R := (qZ n a1 h0 h1).bind fun o83 => ((oZ n a0 o83.1 o83.2.1 o83.2.2).bind fun o84 => ((xw n o83.1).bind fun o85 => (K (o85, o84.1, o84.2))))
def aZ n a0 a1 h0 h1 := lG n a0 a1 h0 h1 _ some
def Bg : FS := ⟨[.q 0 0, .n, .n], [.c 147 [.s, .b]], [([.n], [.c 147 [.s, .b]])]⟩
def iE (n : Nat) : FSpec := Bg.sp (aZ n)
theorem iK (n : Nat) : FSound Tryz.prog 129 (iE n) := fs2 (S := Bg) (b := lG n) Tryz.func129 rfl rfl [.tmp 6] (.s .a (.s (.r [(2, .cl 126 (Bf n))]) (.s (.p (rE.x (oZ n))) (.s (.r [(1, .cl 163 (DW n)), (4, .tk [26])]) .a)))) (nt4 (lG n) (by intros; unfold lG; simp only [ax])) (ai (Gt n) (ai (Ez n) (ai (LY n) trivial)))
def jS (n : Nat) (x5 : Int) (h0_0 : Str) (h0_1 : Bool) (R : Type) (K : (Int × Str × Bool) → Option R) : Option R := (bB n (45 : Int) h0_0 h0_1).bind fun o76 => (cond o76.1 (K ((-1 : Int), o76.2.1, o76.2.2)) ((bB n (43 : Int) o76.2.1 o76.2.2).bind fun o77 => (K (x5, o77.2.1, o77.2.2))))
def lH n x5 h0_0 h0_1 := jS n x5 h0_0 h0_1 _ some
def tC : PS := ⟨[1], [(0, .q 0 0), (5, .n)], some [.c 147 [.s, .b]], [⟨.normal, [0, 1], [(5, .n)], [.c 147 [.s, .b]], none⟩], none, none⟩
def jT (n : Nat) (x1 x6 : Int) (h0_0 : Str) (h0_1 : Bool) (R : Type) (K : (Str × Bool) → Option R) : Option R := cond h0_1 (K (h0_0, true)) (K (h0_0, decide (x6 > x1)))
def qf n x1 x6 h0_0 h0_1 := jT n x1 x6 h0_0 h0_1 _ some
def tF : PS := ⟨[5], [(0, .q 0 0), (1, .n), (6, .n)], some [.c 147 [.s, .b]], [⟨.normal, [0, 5, 6], [], [.c 147 [.s, .b]], none⟩], none, none⟩
def eF (n : Nat) (x7 : Int) (h0_0 : Str) (h0_1 : Bool) (R : Type) (K : (Bool × Str × Bool) → Option R) : Option R := cond (decide (x7 > (0 : Int))) ((bB n (58 : Int) h0_0 h0_1).bind fun o88 => (K (o88.1, o88.2.1, o88.2.2))) (K (false, h0_0, h0_1))
def iZ n x7 h0_0 h0_1 := eF n x7 h0_0 h0_1 _ some
def tH : PS := ⟨[5, 6], [(0, .q 0 0), (7, .n)], some [.c 147 [.s, .b]], [⟨.normal, [0, 5, 6, 7], [(34, .b)], [.c 147 [.s, .b]], none⟩], none, none⟩
def gX (n : Nat) (x8 : Int) (h0_0 : Str) (h0_1 : Bool) (R : Type) (K : (Str × Bool) → Option R) : Option R := cond h0_1 (K (h0_0, true)) (K (h0_0, decide (x8 ≥ (60 : Int))))
def lI n x8 h0_0 h0_1 := gX n x8 h0_0 h0_1 _ some
def tJ : PS := ⟨[5, 6, 7], [(0, .q 0 0), (8, .n)], some [.c 147 [.s, .b]], [⟨.normal, [0, 5, 6, 7, 8], [], [.c 147 [.s, .b]], none⟩], none, none⟩
def eG (n : Nat) (x6 x7 : Int) (h0_0 : Str) (h0_1 : Bool) (R : Type) (A_ : Int → Int → Str → Bool → Option R) (K : (Int × Str × Bool) → Option R) : Option R := (iZ n x7 h0_0 h0_1).bind fun o89 => (cond o89.1 ((aZ n (2 : Int) (2 : Int) o89.2.1 o89.2.2).bind fun o90 => ((lI n o90.1 o90.2.1 o90.2.2).bind fun o91 => (A_ (IntKind.i64.wrap (x6 + (IntKind.i64.wrap (x7 * o90.1)))) (IntKind.i64.wrap (Int.tdiv x7 (60 : Int))) o91.1 o91.2))) (K (x6, o89.2.1, o89.2.2)))
def bY (n : Nat) : Nat → Int → Int → Str → Bool → Option ((Int × Str × Bool))
 | 0, _, _, _, _ => none
 | m + 1, x6, x7, h0_0, h0_1 => eG n x6 x7 h0_0 h0_1 _ (bY n m) some
def tK : PS := ⟨[5], [(0, .q 0 0), (6, .n), (7, .n)], some [.c 147 [.s, .b]], [⟨(.exit 0), [5], [(6, .n)], [.c 147 [.s, .b]], none⟩], none, none⟩
theorem FE (n : Nat) : Snd ⟨Tryz.prog, 1, 58⟩ (tH.x (iZ n)) (fb Tryz.f87 4287) := jC (S := tH) (b := eF n) (.r [(4, .cl 125 (dQ n))]) (nt3 (eF n) (by intros; unfold eF; simp only [ax])) (ai (dw n) trivial)
theorem FH (n : Nat) : Snd ⟨Tryz.prog, 1, 58⟩ (tJ.x (lI n)) (fb Tryz.f87 42175) := jC (S := tJ) (b := gX n) .a (nt3 (gX n) (by intros; unfold gX; simp only [ax])) trivial
theorem FI (n : Nat) : Snd ⟨Tryz.prog, 1, 58⟩ (tC.x (lH n)) (fb Tryz.f87 11) := jC (S := tC) (b := jS n) (.s (.r [(1, .cl 125 (dQ n))]) (.s .a (.r [(1, .cl 125 (dQ n))]))) (nt3 (jS n) (by intros; unfold jS; simp only [ax])) (ai (dw n) (ai (dw n) trivial))
theorem FJ (n : Nat) : Snd ⟨Tryz.prog, 1, 58⟩ (tF.x (qf n)) (fb Tryz.f87 47) := jC (S := tF) (b := jT n) .a (nt4 (jT n) (by intros; unfold jT; simp only [ax])) trivial
theorem FK (n : Nat) : Snd ⟨Tryz.prog, 1, 58⟩ (tK.x (bY n n)) (fb Tryz.f87 703) := lC (S := tK) (b := eG n) (f := bY n) n (.s (.s (.p (tH.x (iZ n))) .a) (.s (.u (.s (.r [(1, .cl 129 (iE n))]) (.s (.p (tJ.x (lI n))) .a))) .a)) (nl4 (eG n) (by intros; unfold eG; simp only [ax])) (ai (FE n) (ai (iK n) (ai (FH n) trivial)))
def nC (n : Nat) (a0 : Int) (h0 : Str) (h1 : Bool) (R : Type) (K : (Int × Str × Bool) → Option R) : Option R := (lH n (1 : Int) h0 h1).bind fun o78 => ((aZ n (1 : Int) (3 : Int) o78.2.1 o78.2.2).bind fun o86 => ((qf n a0 o86.1 o86.2.1 o86.2.2).bind fun o87 => ((bY n n (IntKind.i64.wrap (o86.1 * (3600 : Int))) (60 : Int) o87.1 o87.2).bind fun o92 => (K (IntKind.i64.wrap (o78.1 * o92.1), o92.2.1, o92.2.2)))))
def bu n a0 h0 h1 := nC n a0 h0 h1 _ some
def Ca : FS := ⟨[.q 0 0, .n], [.c 147 [.s, .b]], [([.n], [.c 147 [.s, .b]])]⟩
def qg (n : Nat) : FSpec := Ca.sp (bu n)
theorem rF (n : Nat) : FSound Tryz.prog 87 (qg n) := fs2 (S := Ca) (b := nC n) Tryz.func87 rfl rfl [.tmp 4] (.s .a (.s .a (.s (.p (tC.x (lH n))) (.s (.r [(1, .cl 129 (iE n))]) (.s (.p (tF.x (qf n))) (.s .a (.s (.s .a (.u (.p (tK.x (bY n n))))) .a))))))) (nt3 (nC n) (by intros; unfold nC; simp only [ax])) (ai (FI n) (ai (iK n) (ai (FJ n) (ai (FK n) trivial))))
def uy (n : Nat) (a0 a1 : Str) : Option Bool := some (Lib.hasPrefix a0 a1)
def xx (n : Nat) : FSpec := fun vs hs R K => match vs with
 | [.str a0, .str a1] => (uy n a0 a1).bind fun o => K (.bool o) hs
 | _ => none
theorem Iq (n : Nat) : FSound Tryz.prog 88 (xx n) := MO (Go.Sh.enters_of Tryz.func88 (by kernel_rfl) rfl) fun args H R k r h => by
 unfold xx at h
 split at h
 ·rename_i a0 a1
  refine ⟨_, h, fun g w vs hl hv => ?_⟩
  obtain ⟨v0, _, rfl, h0, hv⟩ := yF hv
  obtain ⟨v1, _, rfl, h1, hv⟩ := yF hv
  obtain rfl := Ew hv
  obtain ⟨s, rfl, rfl⟩ := PL h0
  obtain ⟨u, rfl, rfl⟩ := PL h1
  refine ⟨.bool (Lib.hasPrefix s.data.toList u.data.toList), rfl, fun g w => by simp only [VR], (Tryz.strings_HasPrefix s u w).mono ?_⟩
  rintro e w' ⟨rfl, rfl⟩
  exact ⟨rfl, Below.refl _ _⟩
 ·cases h
def lJ (n : Nat) (h0_0 : Str) (h0_1 : Bool) (h1_0 h1_1 h1_2 h1_3 h1_4 h2_0 h2_1 h2_2 h2_3 h2_4 : Int) (R : Type) (K : (Str × Bool × Int × Int × Int × Int × Int × Int × Int × Int × Int × Int) → Option R) : Option R := (bB n (74 : Int) h0_0 h0_1).bind fun o99 => (cond o99.1 (K (o99.2.1, o99.2.2, h1_0, h1_1, h1_2, h1_3, h1_4, (1 : Int), h2_1, h2_2, h2_3, h2_4)) ((bB n (77 : Int) o99.2.1 o99.2.2).bind fun o100 => (cond o100.1 ((aZ n (1 : Int) (3 : Int) o100.2.1 o100.2.2).bind fun o101 => ((fP n (46 : Int) o101.2.1 o101.2.2).bind fun o102 => ((aZ n (1 : Int) (3 : Int) o102.1 o102.2).bind fun o103 => ((fP n (46 : Int) o103.2.1 o103.2.2).bind fun o104 => (K (o104.1, o104.2, h1_0, h1_1, h1_2, h1_3, h1_4, (3 : Int), o101.1, o103.1, h2_3, h2_4)))))) (K (o100.2.1, o100.2.2, h1_0, h1_1, h1_2, h1_3, h1_4, h2_0, h2_1, h2_2, h2_3, h2_4)))))
def sF n h0_0 h0_1 h1_0 h1_1 h1_2 h1_3 h1_4 h2_0 h2_1 h2_2 h2_3 h2_4 := lJ n h0_0 h0_1 h1_0 h1_1 h1_2 h1_3 h1_4 h2_0 h2_1 h2_2 h2_3 h2_4 _ some
def vC : PS := ⟨[2], [(0, .q 0 0), (3, .q 2 0)], some [.c 147 [.s, .b], .c 85 [.c, .n, .n, .n, .n], .c 85 [.c, .n, .n, .n, .n]], [⟨.normal, [0, 2, 3], [], [.c 147 [.s, .b], .c 85 [.c, .n, .n, .n, .n], .c 85 [.c, .n, .n, .n, .n]], none⟩], none, none⟩
theorem Hm (n : Nat) : Snd ⟨Tryz.prog, 1, 32⟩ (vC.x (sF n)) (fb Tryz.f90 11) := jC (S := vC) (b := lJ n) (.u (.s (.r [(1, .cl 125 (dQ n))]) (.s .a (.s (.r [(1, .cl 125 (dQ n))]) (.s (.s (.r [(1, .cl 129 (iE n))]) (.s (.r [(1, .cl 89 (jI n))]) (.s (.r [(1, .cl 129 (iE n))]) (.r [(1, .cl 89 (jI n))])))) .a))))) (ab7 (lJ n) (by intros; unfold lJ; simp only [ax])) (ai (dw n) (ai (dw n) (ai (iK n) (ai (jN n) (ai (iK n) (ai (jN n) trivial))))))
def pU (n : Nat) (h0 : Str) (h1 : Bool) (R : Type) (K : (Int × Int × Int × Int × Int × Str × Bool) → Option R) : Option R := (sF n h0 h1 (0 : Int) (0 : Int) (0 : Int) (0 : Int) (0 : Int) (2 : Int) (0 : Int) (0 : Int) (0 : Int) (7200 : Int)).bind fun o105 => ((aZ n (1 : Int) (3 : Int) o105.1 o105.2.1).bind fun o106 => ((bB n (47 : Int) o106.2.1 o106.2.2).bind fun o107 => (cond o107.1 ((bu n (167 : Int) o107.2.1 o107.2.2).bind fun o108 => (K (o105.2.2.2.2.2.2.2.1, o105.2.2.2.2.2.2.2.2.1, o105.2.2.2.2.2.2.2.2.2.1, o106.1, o108.1, o108.2.1, o108.2.2))) (K (o105.2.2.2.2.2.2.2.1, o105.2.2.2.2.2.2.2.2.1, o105.2.2.2.2.2.2.2.2.2.1, o106.1, o105.2.2.2.2.2.2.2.2.2.2.2, o107.2.1, o107.2.2)))))
def pV n h0 h1 := pU n h0 h1 _ some
def Ep : FS := ⟨[.q 0 0], [.c 147 [.s, .b]], [([.a [.c, .n, .n, .n, .n]], [.c 147 [.s, .b]])]⟩
def xz (n : Nat) : FSpec := Ep.sp (pV n)
theorem zT (n : Nat) : FSound Tryz.prog 90 (xz n) := fs2 (S := Ep) (b := pU n) Tryz.func90 rfl rfl [.cell 2 85 5 true] (.s .a (.s .a (.s (.p (vC.x (sF n))) (.s (.r [(1, .cl 129 (iE n))]) (.s (.s (.r [(1, .cl 125 (dQ n))]) (.s (.r [(1, .cl 87 (qg n))]) .a)) .a))))) (nt2 (pU n) (by intros; unfold pU; simp only [ax])) (ai (Hm n) (ai (iK n) (ai (dw n) (ai (rF n) trivial))))
def wh (n : Nat) (a0 a1 : Int) (R : Type) (K : Bool → Option R) : Option R := cond (decide (a0 ≥ (IntKind.i64.wrap (0 - a1)))) (K (decide (a0 ≤ a1))) (K false)
def kg n a0 a1 := wh n a0 a1 _ some
def Ju : FS := ⟨[.n, .n], [], [([.b], [])]⟩
def xY (n : Nat) : FSpec := Ju.sp (kg n)
theorem yu (n : Nat) : FSound Tryz.prog 102 (xY n) := fs2 (S := Ju) (b := wh n) Tryz.func102 rfl rfl [.tmp 4] .a (nt2 (wh n) (by intros; unfold wh; simp only [ax])) trivial
def nD (n : Nat) (x3 x9 : Int) (R : Type) (K : ((Int) ⊕ (Unit) ⊕ (Unit)) → Option R) : Option R := cond (x9 == (1 : Int)) (K (Sum.inl (1 : Int))) (cond (x9 == (2 : Int)) (K (Sum.inl x3)) (cond (x9 == (3 : Int)) (K (Sum.inr (Sum.inl ()))) (K (Sum.inr (Sum.inr ())))))
def uz n x3 x9 := nD n x3 x9 _ some
def wN : PS := ⟨[1], [(3, .n), (9, .c)], none, [⟨.normal, [1], [(3, .n)], [], none⟩, ⟨(.exit 3), [1], [], [], none⟩, ⟨(.exit 0), [], [], [], none⟩], none, none⟩
def nE (n : Nat) (x3 h0_0 h0_1 h0_2 h0_3 h0_4 : Int) (R : Type) (K : W2 → Option R) : Option R := cond (h0_1 == (0 : Int)) (cond (h0_2 == (0 : Int)) (cond (decide (h0_3 ≥ x3)) (K (decide (h0_3 ≤ (365 : Int)), h0_0, h0_1, h0_2, h0_3, h0_4)) (K (false, h0_0, h0_1, h0_2, h0_3, h0_4))) (K (false, h0_0, h0_1, h0_2, h0_3, h0_4))) (K (false, h0_0, h0_1, h0_2, h0_3, h0_4))
def pW n x3 h0_0 h0_1 h0_2 h0_3 h0_4 := nE n x3 h0_0 h0_1 h0_2 h0_3 h0_4 _ some
def wO : PS := ⟨[], [(1, .q 0 0), (3, .n)], some [.c 85 [.c, .n, .n, .n, .n]], [⟨.normal, [], [(2, .b)], [.c 85 [.c, .n, .n, .n, .n]], none⟩], none, none⟩
theorem Ir (n : Nat) : Snd ⟨Tryz.prog, 0, 63⟩ (wN.x (uz n)) (fb Tryz.f103 535) := jC (S := wN) (b := nD n) .a (nt2 (nD n) (by intros; unfold nD; simp only [ax])) trivial
theorem Iu (n : Nat) : Snd ⟨Tryz.prog, 0, 63⟩ (wO.x (pW n)) (fb Tryz.f103 2327) := jC (S := wO) (b := nE n) .a (nt6 (nE n) (by intros; unfold nE; simp only [ax])) trivial
def qD (n : Nat) (a0 a1 a2 a3 a4 : Int) (R : Type) (K : Bool → Option R) : Option R := (kg n a4 (604799 : Int)).bind fun o118 => (cond (!o118) (K false) ((uz n (0 : Int) a0).bind fun o119 => (Sum.elim (fun o120 => (pW n o120 a0 a1 a2 a3 a4).bind fun o122 => (K o122.1)) (fun o121 => Sum.elim (fun o123 => cond (decide (a1 ≥ (1 : Int))) (cond (decide (a1 ≤ (12 : Int))) (cond (decide (a2 ≥ (1 : Int))) (cond (decide (a2 ≤ (5 : Int))) (cond (decide (a3 ≥ (0 : Int))) (K (decide (a3 ≤ (6 : Int)))) (K false)) (K false)) (K false)) (K false)) (K false)) (fun o124 => K false) o121) o119)))
def nQ n a0 a1 a2 a3 a4 := qD n a0 a1 a2 a3 a4 _ some
def FL : FS := ⟨[.a [.c, .n, .n, .n, .n]], [], [([.b], [])]⟩
def uA (n : Nat) : FSpec := FL.sp (nQ n)
theorem vD (n : Nat) : FSound Tryz.prog 103 (uA n) := fs2 (S := FL) (b := qD n) Tryz.func103 rfl rfl [.tmp 2] (.s .a (.s (.s (.r [(2, .cl 102 (xY n))]) .a) (.s .a (.s (.s .a (.u (.s (.u (.s (.p (wN.x (uz n))) (.s (.s (.p (wO.x (pW n))) .a) .a))) .a))) .a)))) (nt5 (qD n) (by intros; unfold qD; simp only [ax])) (ai (yu n) (ai (Ir n) (ai (Iu n) trivial)))
def sG (n : Nat) (h0_0 h0_1 : Str) (h0_2 h0_3 h0_4 h0_5 h0_6 h0_7 h0_8 h0_9 h0_10 h0_11 h0_12 h0_13 : Int) (R : Type) (K : W3 → Option R) : Option R := (wJ n h0_0).bind fun o113 => (cond (!o113) (K (true, h0_0, h0_1, h0_2, h0_3, h0_4, h0_5, h0_6, h0_7, h0_8, h0_9, h0_10, h0_11, h0_12, h0_13)) ((kg n h0_2 (89999 : Int)).bind fun o114 => (K (!o114, h0_0, h0_1, h0_2, h0_3, h0_4, h0_5, h0_6, h0_7, h0_8, h0_9, h0_10, h0_11, h0_12, h0_13))))
def zl n h0_0 h0_1 h0_2 h0_3 h0_4 h0_5 h0_6 h0_7 h0_8 h0_9 h0_10 h0_11 h0_12 h0_13 := sG n h0_0 h0_1 h0_2 h0_3 h0_4 h0_5 h0_6 h0_7 h0_8 h0_9 h0_10 h0_11 h0_12 h0_13 _ some
def Bh : PS := ⟨[], [(1, .q 0 0)], some [.c 87 [.s, .s, .n, .n, .c, .n, .n, .n, .n, .c, .n, .n, .n, .n]], [⟨.normal, [1], [(3, .b)], [.c 87 [.s, .s, .n, .n, .c, .n, .n, .n, .n, .c, .n, .n, .n, .n]], none⟩], none, none⟩
theorem KZ (n : Nat) : Snd ⟨Tryz.prog, 0, 43⟩ (Bh.x (zl n)) (fb Tryz.f61 17) := jC (S := Bh) (b := sG n) (.r [(2, .cl 101 (Bd n)), (7, .cl 102 (xY n))]) (Zw (sG n) (by intros; unfold sG; simp only [ax])) (ai (Be n) (ai (yu n) trivial))
def xA (n : Nat) (a0 a1 : Str) (a2 a3 a4 a5 a6 a7 a8 a9 a10 a11 a12 a13 : Int) (R : Type) (K : Bool → Option R) : Option R := (zl n a0 a1 a2 a3 a4 a5 a6 a7 a8 a9 a10 a11 a12 a13).bind fun o115 => (cond o115.1 (K false) (cond (o115.2.2.1 == ([] : Str)) (K ((o115.2.1 == o115.2.1) && ((o115.2.2.1 == ([] : Str)) && ((o115.2.2.2.1 == o115.2.2.2.1) && ((o115.2.2.2.2.1 == (0 : Int)) && ((o115.2.2.2.2.2.1 == (0 : Int)) && ((o115.2.2.2.2.2.2.1 == (0 : Int)) && ((o115.2.2.2.2.2.2.2.1 == (0 : Int)) && ((o115.2.2.2.2.2.2.2.2.1 == (0 : Int)) && ((o115.2.2.2.2.2.2.2.2.2.1 == (0 : Int)) && ((o115.2.2.2.2.2.2.2.2.2.2.1 == (0 : Int)) && ((o115.2.2.2.2.2.2.2.2.2.2.2.1 == (0 : Int)) && ((o115.2.2.2.2.2.2.2.2.2.2.2.2.1 == (0 : Int)) && ((o115.2.2.2.2.2.2.2.2.2.2.2.2.2.1 == (0 : Int)) && ((o115.2.2.2.2.2.2.2.2.2.2.2.2.2.2 == (0 : Int)) && true))))))))))))))) ((wJ n o115.2.2.1).bind fun o116 => (cond o116 ((kg n o115.2.2.2.2.1 (89999 : Int)).bind fun o117 => (cond o117 ((nQ n o115.2.2.2.2.2.1 o115.2.2.2.2.2.2.1 o115.2.2.2.2.2.2.2.1 o115.2.2.2.2.2.2.2.2.1 o115.2.2.2.2.2.2.2.2.2.1).bind fun o125 => (cond o125 ((nQ n o115.2.2.2.2.2.2.2.2.2.2.1 o115.2.2.2.2.2.2.2.2.2.2.2.1 o115.2.2.2.2.2.2.2.2.2.2.2.2.1 o115.2.2.2.2.2.2.2.2.2.2.2.2.2.1 o115.2.2.2.2.2.2.2.2.2.2.2.2.2.2).bind fun o126 => (K o126)) (K false))) (K false))) (K false)))))
def uG n a0 a1 a2 a3 a4 a5 a6 a7 a8 a9 a10 a11 a12 a13 := xA n a0 a1 a2 a3 a4 a5 a6 a7 a8 a9 a10 a11 a12 a13 _ some
def J8 : FS := ⟨[.a [.s, .s, .n, .n, .c, .n, .n, .n, .n, .c, .n, .n, .n, .n]], [], [([.b], [])]⟩
def DX (n : Nat) : FSpec := J8.sp (uG n)
theorem FM (n : Nat) : FSound Tryz.prog 61 (DX n) := fs2 (S := J8) (b := xA n) Tryz.func61 rfl rfl [.tmp 2] (.s .a (.s (.u (.s (.p (Bh.x (zl n))) .a)) (.s (.r [(2, .cl 101 (Bd n)), (6, .cl 102 (xY n)), (11, .cl 103 (uA n)), (16, .cl 103 (uA n))]) .a))) (Zw (xA n) (by intros; unfold xA; simp only [ax])) (ai (KZ n) (ai (Be n) (ai (yu n) (ai (vD n) (ai (vD n) trivial)))))
def sH (n : Nat) (h0_0 h0_1 : Str) (h0_2 h0_3 h0_4 h0_5 h0_6 h0_7 h0_8 h0_9 h0_10 h0_11 h0_12 h0_13 : Int) (h1_0 : Str) (h1_1 : Bool) (h2_0 h2_1 : Str) (h2_2 h2_3 h2_4 h2_5 h2_6 h2_7 h2_8 h2_9 h2_10 h2_11 h2_12 h2_13 : Int) (R : Type) (K : W4 → Option R) : Option R := (uy n h1_0 ([44] : Str)).bind fun o95 => (cond (!o95) ((bu n (24 : Int) h1_0 h1_1).bind fun o96 => (K (h0_0, h0_1, h0_2, h0_3, h0_4, h0_5, h0_6, h0_7, h0_8, h0_9, h0_10, h0_11, h0_12, h0_13, o96.2.1, o96.2.2, h2_0, h2_1, h2_2, IntKind.i64.wrap (0 - o96.1), h2_4, h2_5, h2_6, h2_7, h2_8, h2_9, h2_10, h2_11, h2_12, h2_13))) (K (h0_0, h0_1, h0_2, h0_3, h0_4, h0_5, h0_6, h0_7, h0_8, h0_9, h0_10, h0_11, h0_12, h0_13, h1_0, h1_1, h2_0, h2_1, h2_2, h2_3, h2_4, h2_5, h2_6, h2_7, h2_8, h2_9, h2_10, h2_11, h2_12, h2_13)))
def zm n h0_0 h0_1 h0_2 h0_3 h0_4 h0_5 h0_6 h0_7 h0_8 h0_9 h0_10 h0_11 h0_12 h0_13 h1_0 h1_1 h2_0 h2_1 h2_2 h2_3 h2_4 h2_5 h2_6 h2_7 h2_8 h2_9 h2_10 h2_11 h2_12 h2_13 := sH n h0_0 h0_1 h0_2 h0_3 h0_4 h0_5 h0_6 h0_7 h0_8 h0_9 h0_10 h0_11 h0_12 h0_13 h1_0 h1_1 h2_0 h2_1 h2_2 h2_3 h2_4 h2_5 h2_6 h2_7 h2_8 h2_9 h2_10 h2_11 h2_12 h2_13 _ some
def Bi : PS := ⟨[2], [(4, .q 1 0), (5, .q 2 0)], some [.c 87 [.s, .s, .n, .n, .c, .n, .n, .n, .n, .c, .n, .n, .n, .n], .c 147 [.s, .b], .c 87 [.s, .s, .n, .n, .c, .n, .n, .n, .n, .c, .n, .n, .n, .n]], [⟨.normal, [2, 4, 5], [], [.c 87 [.s, .s, .n, .n, .c, .n, .n, .n, .n, .c, .n, .n, .n, .n], .c 147 [.s, .b], .c 87 [.s, .s, .n, .n, .c, .n, .n, .n, .n, .c, .n, .n, .n, .n]], none⟩], none, none⟩
def o9 (n : Nat) (h0_0 h0_1 : Str) (h0_2 h0_3 h0_4 h0_5 h0_6 h0_7 h0_8 h0_9 h0_10 h0_11 h0_12 h0_13 : Int) (h1_0 : Str) (h1_1 : Bool) (h2_0 h2_1 : Str) (h2_2 h2_3 h2_4 h2_5 h2_6 h2_7 h2_8 h2_9 h2_10 h2_11 h2_12 h2_13 : Int) (R : Type) (K : W4 → Option R) : Option R := cond (!(h1_0 == ([] : Str))) ((oz n h1_0 h1_1).bind fun o94 => ((zm n h0_0 h0_1 h0_2 h0_3 h0_4 h0_5 h0_6 h0_7 h0_8 h0_9 h0_10 h0_11 h0_12 h0_13 o94.2.1 o94.2.2 h2_0 o94.1 h2_2 (IntKind.i64.wrap (h2_2 + (3600 : Int))) h2_4 h2_5 h2_6 h2_7 h2_8 h2_9 h2_10 h2_11 h2_12 h2_13).bind fun o97 => ((fP n (44 : Int) o97.2.2.2.2.2.2.2.2.2.2.2.2.2.2.1 o97.2.2.2.2.2.2.2.2.2.2.2.2.2.2.2.1).bind fun o98 => ((pV n o98.1 o98.2).bind fun o109 => ((fP n (44 : Int) o109.2.2.2.2.2.1 o109.2.2.2.2.2.2).bind fun o110 => ((pV n o110.1 o110.2).bind fun o111 => (K (o97.1, o97.2.1, o97.2.2.1, o97.2.2.2.1, o97.2.2.2.2.1, o97.2.2.2.2.2.1, o97.2.2.2.2.2.2.1, o97.2.2.2.2.2.2.2.1, o97.2.2.2.2.2.2.2.2.1, o97.2.2.2.2.2.2.2.2.2.1, o97.2.2.2.2.2.2.2.2.2.2.1, o97.2.2.2.2.2.2.2.2.2.2.2.1, o97.2.2.2.2.2.2.2.2.2.2.2.2.1, o97.2.2.2.2.2.2.2.2.2.2.2.2.2.1, o111.2.2.2.2.2.1, o111.2.2.2.2.2.2, o97.2.2.2.2.2.2.2.2.2.2.2.2.2.2.2.2.1, o97.2.2.2.2.2.2.2.2.2.2.2.2.2.2.2.2.2.1, o97.2.2.2.2.2.2.2.2.2.2.2.2.2.2.2.2.2.2.1, o97.2.2.2.2.2.2.2.2.2.2.2.2.2.2.2.2.2.2.2.1, o109.1, o109.2.1, o109.2.2.1, o109.2.2.2.1, o109.2.2.2.2.1, o111.1, o111.2.1, o111.2.2.1, o111.2.2.2.1, o111.2.2.2.2.1)))))))) (K (h0_0, h0_1, h0_2, h0_3, h0_4, h0_5, h0_6, h0_7, h0_8, h0_9, h0_10, h0_11, h0_12, h0_13, h1_0, h1_1, h2_0, h2_1, h2_2, h2_3, h2_4, h2_5, h2_6, h2_7, h2_8, h2_9, h2_10, h2_11, h2_12, h2_13))
def wm n h0_0 h0_1 h0_2 h0_3 h0_4 h0_5 h0_6 h0_7 h0_8 h0_9 h0_10 h0_11 h0_12 h0_13 h1_0 h1_1 h2_0 h2_1 h2_2 h2_3 h2_4 h2_5 h2_6 h2_7 h2_8 h2_9 h2_10 h2_11 h2_12 h2_13 := o9 n h0_0 h0_1 h0_2 h0_3 h0_4 h0_5 h0_6 h0_7 h0_8 h0_9 h0_10 h0_11 h0_12 h0_13 h1_0 h1_1 h2_0 h2_1 h2_2 h2_3 h2_4 h2_5 h2_6 h2_7 h2_8 h2_9 h2_10 h2_11 h2_12 h2_13 _ some
def Bj : PS := ⟨[2], [(4, .q 1 0), (5, .q 2 0)], some [.c 87 [.s, .s, .n, .n, .c, .n, .n, .n, .n, .c, .n, .n, .n, .n], .c 147 [.s, .b], .c 87 [.s, .s, .n, .n, .c, .n, .n, .n, .n, .c, .n, .n, .n, .n]], [⟨.normal, [2, 4, 5], [], [.c 87 [.s, .s, .n, .n, .c, .n, .n, .n, .n, .c, .n, .n, .n, .n], .c 147 [.s, .b], .c 87 [.s, .s, .n, .n, .c, .n, .n, .n, .n, .c, .n, .n, .n, .n]], none⟩], none, none⟩
theorem K3 (n : Nat) : Snd ⟨Tryz.prog, 0, 70⟩ (Bi.x (zm n)) (fb Tryz.f54 2911) := jC (S := Bi) (b := sH n) (.s (.r [(4, .cl 88 (xx n))]) (.s (.r [(1, .cl 87 (qg n))]) .a)) (acb (sH n) (by intros; unfold sH; simp only [ax])) (ai (Iq n) (ai (rF n) trivial))
theorem K4 (n : Nat) : Snd ⟨Tryz.prog, 0, 70⟩ (Bj.x (wm n)) (fb Tryz.f54 95) := jC (S := Bj) (b := o9 n) (.s .a (.s (.s (.r [(1, .cl 86 (wM n))]) (.s .a (.s (.p (Bi.x (zm n))) (.s (.r [(1, .cl 89 (jI n))]) (.s (.r [(1, .cl 90 (xz n))]) (.s (.r [(1, .cl 89 (jI n))]) (.r [(1, .cl 90 (xz n))]))))))) .a)) (acb (o9 n) (by intros; unfold o9; simp only [ax])) (ai (yN n) (ai (K3 n) (ai (jN n) (ai (zT n) (ai (jN n) (ai (zT n) trivial))))))
def xB (n : Nat) (a0 : Str) (R : Type) (K : (Str × Str × Int × Int × Int × Int × Int × Int × Int × Int × Int × Int × Int × Int × Int) → Option R) : Option R := cond (decide ((a0.length : Int) > (100 : Int))) (K (([] : Str), ([] : Str), (0 : Int), (0 : Int), (0 : Int), (0 : Int), (0 : Int), (0 : Int), (0 : Int), (0 : Int), (0 : Int), (0 : Int), (0 : Int), (0 : Int), (70 : Int))) ((oz n a0 false).bind fun o75 => ((bu n (24 : Int) o75.2.1 o75.2.2).bind fun o93 => ((wm n ([] : Str) ([] : Str) (0 : Int) (0 : Int) (0 : Int) (0 : Int) (0 : Int) (0 : Int) (0 : Int) (0 : Int) (0 : Int) (0 : Int) (0 : Int) (0 : Int) o93.2.1 o93.2.2 o75.1 ([] : Str) (IntKind.i64.wrap (0 - o93.1)) (0 : Int) (0 : Int) (0 : Int) (0 : Int) (0 : Int) (0 : Int) (0 : Int) (0 : Int) (0 : Int) (0 : Int) (0 : Int)).bind fun o112 => (cond o112.2.2.2.2.2.2.2.2.2.2.2.2.2.2.2.1 (K (([] : Str), ([] : Str), (0 : Int), (0 : Int), (0 : Int), (0 : Int), (0 : Int), (0 : Int), (0 : Int), (0 : Int), (0 : Int), (0 : Int), (0 : Int), (0 : Int), (70 : Int))) (cond (!(o112.2.2.2.2.2.2.2.2.2.2.2.2.2.2.1 == ([] : Str))) (K (([] : Str), ([] : Str), (0 : Int), (0 : Int), (0 : Int), (0 : Int), (0 : Int), (0 : Int), (0 : Int), (0 : Int), (0 : Int), (0 : Int), (0 : Int), (0 : Int), (70 : Int))) ((uG n o112.2.2.2.2.2.2.2.2.2.2.2.2.2.2.2.2.1 o112.2.2.2.2.2.2.2.2.2.2.2.2.2.2.2.2.2.1 o112.2.2.2.2.2.2.2.2.2.2.2.2.2.2.2.2.2.2.1 o112.2.2.2.2.2.2.2.2.2.2.2.2.2.2.2.2.2.2.2.1 o112.2.2.2.2.2.2.2.2.2.2.2.2.2.2.2.2.2.2.2.2.1 o112.2.2.2.2.2.2.2.2.2.2.2.2.2.2.2.2.2.2.2.2.2.1 o112.2.2.2.2.2.2.2.2.2.2.2.2.2.2.2.2.2.2.2.2.2.2.1 o112.2.2.2.2.2.2.2.2.2.2.2.2.2.2.2.2.2.2.2.2.2.2.2.1 o112.2.2.2.2.2.2.2.2.2.2.2.2.2.2.2.2.2.2.2.2.2.2.2.2.1 o112.2.2.2.2.2.2.2.2.2.2.2.2.2.2.2.2.2.2.2.2.2.2.2.2.2.1 o112.2.2.2.2.2.2.2.2.2.2.2.2.2.2.2.2.2.2.2.2.2.2.2.2.2.2.1 o112.2.2.2.2.2.2.2.2.2.2.2.2.2.2.2.2.2.2.2.2.2.2.2.2.2.2.2.1 o112.2.2.2.2.2.2.2.2.2.2.2.2.2.2.2.2.2.2.2.2.2.2.2.2.2.2.2.2.1 o112.2.2.2.2.2.2.2.2.2.2.2.2.2.2.2.2.2.2.2.2.2.2.2.2.2.2.2.2.2).bind fun o127 => (cond (!o127) (K (([] : Str), ([] : Str), (0 : Int), (0 : Int), (0 : Int), (0 : Int), (0 : Int), (0 : Int), (0 : Int), (0 : Int), (0 : Int), (0 : Int), (0 : Int), (0 : Int), (70 : Int))) (K (o112.2.2.2.2.2.2.2.2.2.2.2.2.2.2.2.2.1, o112.2.2.2.2.2.2.2.2.2.2.2.2.2.2.2.2.2.1, o112.2.2.2.2.2.2.2.2.2.2.2.2.2.2.2.2.2.2.1, o112.2.2.2.2.2.2.2.2.2.2.2.2.2.2.2.2.2.2.2.1, o112.2.2.2.2.2.2.2.2.2.2.2.2.2.2.2.2.2.2.2.2.1, o112.2.2.2.2.2.2.2.2.2.2.2.2.2.2.2.2.2.2.2.2.2.1, o112.2.2.2.2.2.2.2.2.2.2.2.2.2.2.2.2.2.2.2.2.2.2.1, o112.2.2.2.2.2.2.2.2.2.2.2.2.2.2.2.2.2.2.2.2.2.2.2.1, o112.2.2.2.2.2.2.2.2.2.2.2.2.2.2.2.2.2.2.2.2.2.2.2.2.1, o112.2.2.2.2.2.2.2.2.2.2.2.2.2.2.2.2.2.2.2.2.2.2.2.2.2.1, o112.2.2.2.2.2.2.2.2.2.2.2.2.2.2.2.2.2.2.2.2.2.2.2.2.2.2.1, o112.2.2.2.2.2.2.2.2.2.2.2.2.2.2.2.2.2.2.2.2.2.2.2.2.2.2.2.1, o112.2.2.2.2.2.2.2.2.2.2.2.2.2.2.2.2.2.2.2.2.2.2.2.2.2.2.2.2.1, o112.2.2.2.2.2.2.2.2.2.2.2.2.2.2.2.2.2.2.2.2.2.2.2.2.2.2.2.2.2, (0 : Int))))))))))
def Bl n a0 := xB n a0 _ some
def J9 : FS := ⟨[.s], [], [([.a [.s, .s, .n, .n, .c, .n, .n, .n, .n, .c, .n, .n, .n, .n], .n], [])]⟩
def Jv (n : Nat) : FSpec := J9.sp (Bl n)
theorem LZ (n : Nat) : FSound Tryz.prog 54 (Jv n) := fs2 (S := J9) (b := xB n) Tryz.func54 rfl rfl [.cell 2 87 14 true, .tmp 3] (.s .a (.s .a (.s .a (.s (.r [(1, .cl 86 (wM n))]) (.s (.r [(1, .cl 87 (qg n))]) (.s (.p (Bj.x (wm n))) (.s (.s (.r [(13, .cl 61 (DX n))]) .a) .a))))))) (nt1 (xB n) (by intros; unfold xB; simp only [ax])) (ai (yN n) (ai (rF n) (ai (K4 n) (ai (FM n) trivial))))
def FN (n : Nat) (a0 : List (List AV)) (a1 a2 : List Int) (a3 : Str) (R : Type) (K : ((Int) ⊕ W5 ⊕ ((List (List AV)) × (List Int) × (List Int) × Str)) → Option R) : Option R := (AR n a0 a1 a2 a3).bind fun o47 => (cond (!o47) (K (Sum.inl (2 : Int))) (cond (decide (a0.length * 32 ≤ 140737488355328)) (cond (decide (a1.length * 8 ≤ 140737488355328)) (cond (decide (a2.length * 8 ≤ 140737488355328)) (cond (!(a3 == ([] : Str))) ((Bl n a3).bind fun o128 => (cond (o128.2.2.2.2.2.2.2.2.2.2.2.2.2.2 != (0 : Int)) (K (Sum.inl o128.2.2.2.2.2.2.2.2.2.2.2.2.2.2)) (K (Sum.inr (Sum.inl (a0, a1, a2, a3, o128.1, o128.2.1, o128.2.2.1, o128.2.2.2.1, o128.2.2.2.2.1, o128.2.2.2.2.2.1, o128.2.2.2.2.2.2.1, o128.2.2.2.2.2.2.2.1, o128.2.2.2.2.2.2.2.2.1, o128.2.2.2.2.2.2.2.2.2.1, o128.2.2.2.2.2.2.2.2.2.2.1, o128.2.2.2.2.2.2.2.2.2.2.2.1, o128.2.2.2.2.2.2.2.2.2.2.2.2.1, o128.2.2.2.2.2.2.2.2.2.2.2.2.2.1)))))) (K (Sum.inr (Sum.inr (a0, a1, a2, a3))))) none) none) none))
def CB n a0 a1 a2 a3 := FN n a0 a1 a2 a3 _ some
def P8 : FS := ⟨[.a [.L false 3, .l .i64, .l .i64, .s]], [], [([.x (.ptr none), .n], []), ([.q 0 0, .x (.int .i64 (0 : Int))], [.c 82 [.L false 3, .l .i64, .l .i64, .s, .q 1 0], .c 87 [.s, .s, .n, .n, .c, .n, .n, .n, .n, .c, .n, .n, .n, .n]]), ([.q 0 0, .x (.int .i64 (0 : Int))], [.c 82 [.L false 3, .l .i64, .l .i64, .s, .x (.ptr none)]])]⟩
def P9 (n : Nat) : FSpec := P8.sp (CB n)
theorem Uk (n : Nat) : FSound Tryz.prog 27 (P9 n) := fs2 (S := P8) (b := FN n) Tryz.func27 rfl rfl [.tmp 2, .tmp 3] (.s .a (.s (.s (.r [(1, .cl 50 (Hf n))]) .a) (.s (.d [(2, .cl 51 (Ei n)), (5, .cl 52 (Ej n)), (8, .cl 53 (El n)), (10, .tk [12]), (12, .tk [15]), (14, .tk [18])] [(0, .part [0]), (1, .part [0]), (3, .part [0]), (4, .part [0]), (6, .part [0]), (7, .part [0]), (9, .part [0]), (10, .part [0]), (11, .part [0]), (12, .part [0]), (13, .part [0]), (14, .part [0])]) (.s .a (.s (.s .a (.s (.s (.r [(2, .cl 54 (Jv n)), (5, .tk [29])]) .a) .a)) .a))))) (nt4 (FN n) (by intros; unfold FN; simp only [ax])) (ai (Il n) (ai (I9 n) (ai (Ja n) (ai (Jb n) (ai (LZ n) trivial)))))
def Ka (n : Nat) : FSpec := Zy 2 (P9 n)
theorem Kb (n : Nat) : FSound Tryz.prog 27 (Ka n) := Oz (Uk n)
def gz (n : Nat) (x4 : Int) (h0_0 : List (List AV)) (h0_1 h0_2 : List Int) (h0_3 : Str) (h1_0 : List (List AV)) (h1_1 h1_2 : List Int) (h1_3 : Str) (h2_0 : List (List AV)) (h2_1 h2_2 : List Int) (h2_3 : Str) (R : Type) (A_ : Int → (List (List AV)) → (List Int) → (List Int) → Str → (List (List AV)) → (List Int) → (List Int) → Str → (List (List AV)) → (List Int) → (List Int) → Str → Option R) (K : W6 → Option R) : Option R := cond (decide (x4 < (h0_0.length : Int))) (cond (decide (0 ≤ x4)) ((h0_0[x4.toNat]?).bind fun e132 => (unc e132 fun c133 r134 => xS .i64 c133 fun x135 => unc r134 fun c136 r137 => yC c136 fun x138 => unc r137 fun c139 r140 => yD c139 fun x141 => unn r140 (cond (decide ((h2_0.length + ([[.int .i64 x135, .bool x138, .str x141]] : List (List AV)).length) * 32 ≤ 140737488355328)) (A_ (IntKind.i64.wrap (x4 + (1 : Int))) h0_0 h0_1 h0_2 h0_3 h1_0 h1_1 h1_2 h1_3 (h2_0 ++ ([[.int .i64 x135, .bool x138, .str x141]] : List (List AV))) h2_1 h2_2 h2_3) none))) none) (K (h0_0, h0_1, h0_2, h0_3, h1_0, h1_1, h1_2, h1_3, h2_0, h2_1, h2_2, h2_3))
def dx (n : Nat) : Nat → Int → (List (List AV)) → (List Int) → (List Int) → Str → (List (List AV)) → (List Int) → (List Int) → Str → (List (List AV)) → (List Int) → (List Int) → Str → Option (W6)
 | 0, _, _, _, _, _, _, _, _, _, _, _, _, _ => none
 | m + 1, x4, h0_0, h0_1, h0_2, h0_3, h1_0, h1_1, h1_2, h1_3, h2_0, h2_1, h2_2, h2_3 => gz n x4 h0_0 h0_1 h0_2 h0_3 h1_0 h1_1 h1_2 h1_3 h2_0 h2_1 h2_2 h2_3 _ (dx n m) some
def rG : PS := ⟨[2], [(1, .q 0 0), (3, .q 2 0), (4, .n)], some [.c 26 [.L false 3, .l .i64, .l .i64, .s], .c 30 [.L true 3, .I true .i64, .I true .i64, .s], .c 30 [.L true 3, .l .i64, .l .i64, .s]], [⟨(.exit 0), [2, 3], [], [.c 26 [.L false 3, .l .i64, .l .i64, .s], .c 30 [.L true 3, .I true .i64, .I true .i64, .s], .c 30 [.L true 3, .l .i64, .l .i64, .s]], none⟩], none, none⟩
theorem EA (n : Nat) : Snd ⟨Tryz.prog, 0, 30⟩ (rG.x (dx n n)) (fb Tryz.f29 43) := lC (S := rG) (b := gz n) (f := dx n) n (.s .a (.s (.u (.d [(1, .lt), (8, .tk [20]), (10, .tk [27])] [(0, .part [2]), (1, .part [2]), (2, .part [0]), (3, .part [0]), (6, .no), (9, .part [2]), (10, .part [2])])) .a)) (acp (gz n) (by intros; unfold gz; simp only [ax])) trivial
def lK (n : Nat) (a0 : List (List AV)) (a1 a2 : List Int) (a3 : Str) (R : Type) (K : ((List (List AV)) × (List Int) × (List Int) × Str) → Option R) : Option R := (dx n n (0 : Int) a0 a1 a2 a3 ([] : List (List AV)) ([] : List Int) ([] : List Int) ([] : Str) ([] : List (List AV)) a1 a2 a3).bind fun o142 => (K (o142.2.2.2.2.2.2.2.2.1, o142.2.2.2.2.2.2.2.2.2.1, o142.2.2.2.2.2.2.2.2.2.2.1, o142.2.2.2.2.2.2.2.2.2.2.2))
def ja n a0 a1 a2 a3 := lK n a0 a1 a2 a3 _ some
def Bn : FS := ⟨[.a [.L false 3, .l .i64, .l .i64, .s]], [], [([.a [.L false 3, .l .i64, .l .i64, .s]], [])]⟩
def zU (n : Nat) : FSpec := Bn.sp (ja n)
theorem FO (n : Nat) : FSound Tryz.prog 29 (zU n) := fs2 (S := Bn) (b := lK n) Tryz.func29 rfl rfl [.cell 2 30 4 true] (.s .a (.s (.r [(8, .tk [11])]) (.s (.s .a (.u (.p (rG.x (dx n n))))) .a))) (nt4 (lK n) (by intros; unfold lK; simp only [ax])) (ai (EA n) trivial)
def iL (n : Nat) (x0 : Str) (x3 x4 x11 : Int) (R : Type) (K : (Bool) → Option R) : Option R := cond (decide (0 ≤ x11)) ((x0[x11.toNat]?).bind fun b144 => (cond (decide ((b144.toNat : Int) < x3)) (K true) (cond (decide (0 ≤ x11)) ((x0[x11.toNat]?).bind fun b145 => (K (decide ((b145.toNat : Int) > x4)))) none))) none
def jU n x0 x3 x4 x11 := iL n x0 x3 x4 x11 _ some
def qE : PS := ⟨[1, 2], [(0, .s), (3, .c), (4, .c), (11, .n)], none, [⟨.normal, [0, 1, 2, 3, 4, 11], [(29, .b)], [], none⟩], none, none⟩
def fq (n : Nat) (x0 : Str) (x3 x4 x11 : Int) (R : Type) (A_ : Str → Int → Int → Int → Option R) (K : ((Unit) ⊕ (Unit)) → Option R) : Option R := cond (decide (x11 < (x0.length : Int))) ((jU n x0 x3 x4 x11).bind fun o146 => (cond o146 (K (Sum.inl ())) (A_ x0 x3 x4 (IntKind.i64.wrap (x11 + (1 : Int)))))) (K (Sum.inr ()))
def cB (n : Nat) : Nat → Str → Int → Int → Int → Option ((Unit) ⊕ (Unit))
 | 0, _, _, _, _ => none
 | m + 1, x0, x3, x4, x11 => fq n x0 x3 x4 x11 _ (cB n m) some
def qF : PS := ⟨[1, 2], [(0, .s), (3, .c), (4, .c), (11, .n)], none, [⟨.ret, [], [(10, .x (.bool false))], [], none⟩, ⟨(.exit 0), [0, 1, 2], [], [], none⟩], none, none⟩
theorem DY (n : Nat) : Snd ⟨Tryz.prog, 0, 40⟩ (qE.x (jU n)) (fb Tryz.f91 549) := jC (S := qE) (b := iL n) .a (nt4 (iL n) (by intros; unfold iL; simp only [ax])) trivial
theorem DZ (n : Nat) : Snd ⟨Tryz.prog, 0, 40⟩ (qF.x (cB n n)) (fb Tryz.f91 21) := lC (S := qF) (b := fq n) (f := cB n) n (.s .a (.s (.u (.s (.p (qE.x (jU n))) .a)) .a)) (nl4 (fq n) (by intros; unfold fq; simp only [ax])) (ai (DY n) trivial)
def kz (n : Nat) (a0 : Str) (a1 a2 a3 a4 : Int) (R : Type) (K : Bool → Option R) : Option R := (cB n n a0 a3 a4 (0 : Int)).bind fun o147 => (Sum.elim (fun o148 => K false) (fun o149 => cond (decide ((a0.length : Int) ≥ a1)) (K (decide ((a0.length : Int) ≤ a2))) (K false)) o147)
def kC n a0 a1 a2 a3 a4 := kz n a0 a1 a2 a3 a4 _ some
def zV : FS := ⟨[.s, .n, .n, .c, .c], [], [([.b], [])]⟩
def tL (n : Nat) : FSpec := zV.sp (kC n)
theorem wQ (n : Nat) : FSound Tryz.prog 91 (tL n) := fs2 (S := zV) (b := kz n) Tryz.func91 rfl rfl [.tmp 10] (.s .a (.s (.s .a (.u (.p (qF.x (cB n n))))) .a)) (nt5 (kz n) (by intros; unfold kz; simp only [ax])) (ai (DZ n) trivial)
def jo (n : Nat) (h0_0 : List (List AV)) (h0_1 h0_2 : List Int) (h0_3 : Str) (R : Type) (K : W0 → Option R) : Option R := cond (decide ((h0_0.length : Int) < (1 : Int))) (K (true, h0_0, h0_1, h0_2, h0_3)) (cond (decide ((h0_0.length : Int) > (255 : Int))) (K (true, h0_0, h0_1, h0_2, h0_3)) (cond (decide ((h0_1.length : Int) > (4000 : Int))) (K (true, h0_0, h0_1, h0_2, h0_3)) (cond ((h0_1.length : Int) != (h0_2.length : Int)) (K (true, h0_0, h0_1, h0_2, h0_3)) ((kC n h0_3 (0 : Int) (100 : Int) (32 : Int) (126 : Int)).bind fun o150 => (K (!o150, h0_0, h0_1, h0_2, h0_3))))))
def pg n h0_0 h0_1 h0_2 h0_3 := jo n h0_0 h0_1 h0_2 h0_3 _ some
def rH : PS := ⟨[], [(1, .q 0 0)], some [.c 30 [.L false 3, .l .i64, .l .i64, .s]], [⟨.normal, [1], [(36, .b)], [.c 30 [.L false 3, .l .i64, .l .i64, .s]], none⟩], none, none⟩
def jq (n : Nat) (x4 : Int) (h0_0 : List (List AV)) (h0_1 h0_2 : List Int) (h0_3 : Str) (R : Type) (K : W0 → Option R) : Option R := cond (decide (0 ≤ x4)) ((h0_0[x4.toNat]?).bind fun e162 => (unc e162 fun c163 r164 => xS .i64 c163 fun x165 => unc r164 fun c166 r167 => yC c166 fun x168 => unc r167 fun c169 r170 => yD c169 fun x171 => unn r170 (cond (decide (x165 < (-89999 : Int))) (K (true, h0_0, h0_1, h0_2, h0_3)) (cond (decide (0 ≤ x4)) ((h0_0[x4.toNat]?).bind fun e172 => (unc e172 fun c173 r174 => xS .i64 c173 fun x175 => unc r174 fun c176 r177 => yC c176 fun x178 => unc r177 fun c179 r180 => yD c179 fun x181 => unn r180 (cond (decide (x175 > (93599 : Int))) (K (true, h0_0, h0_1, h0_2, h0_3)) (cond (decide (0 ≤ x4)) ((h0_0[x4.toNat]?).bind fun e182 => (unc e182 fun c183 r184 => xS .i64 c183 fun x185 => unc r184 fun c186 r187 => yC c186 fun x188 => unc r187 fun c189 r190 => yD c189 fun x191 => unn r190 ((kC n x191 (1 : Int) (15 : Int) (33 : Int) (126 : Int)).bind fun o192 => (K (!o192, h0_0, h0_1, h0_2, h0_3))))) none)))) none)))) none
def kD n x4 h0_0 h0_1 h0_2 h0_3 := jq n x4 h0_0 h0_1 h0_2 h0_3 _ some
def rJ : PS := ⟨[3], [(1, .q 0 0), (4, .n)], some [.c 30 [.L false 3, .l .i64, .l .i64, .s]], [⟨.normal, [1, 3, 4], [(79, .b)], [.c 30 [.L false 3, .l .i64, .l .i64, .s]], none⟩], none, none⟩
def gB (n : Nat) (x3 x4 : Int) (h0_0 : List (List AV)) (h0_1 h0_2 : List Int) (h0_3 : Str) (R : Type) (A_ : Int → Int → (List (List AV)) → (List Int) → (List Int) → Str → Option R) (K : (((List (List AV)) × (List Int) × (List Int) × Str) ⊕ W1) → Option R) : Option R := cond (decide (x4 < (h0_0.length : Int))) (cond (decide (0 ≤ x4)) ((h0_0[x4.toNat]?).bind fun e152 => (unc e152 fun c153 r154 => xS .i64 c153 fun x155 => unc r154 fun c156 r157 => yC c156 fun x158 => unc r157 fun c159 r160 => yD c159 fun x161 => unn r160 ((kD n x4 h0_0 h0_1 h0_2 h0_3).bind fun o193 => (cond o193.1 (K (Sum.inl (o193.2.1, o193.2.2.1, o193.2.2.2.1, o193.2.2.2.2))) (A_ (IntKind.i64.wrap ((IntKind.i64.wrap (x3 + (x161.length : Int))) + (1 : Int))) (IntKind.i64.wrap (x4 + (1 : Int))) o193.2.1 o193.2.2.1 o193.2.2.2.1 o193.2.2.2.2))))) none) (K (Sum.inr (x3, h0_0, h0_1, h0_2, h0_3)))
def dz (n : Nat) : Nat → Int → Int → (List (List AV)) → (List Int) → (List Int) → Str → Option (((List (List AV)) × (List Int) × (List Int) × Str) ⊕ W1)
 | 0, _, _, _, _, _, _ => none
 | m + 1, x3, x4, h0_0, h0_1, h0_2, h0_3 => gB n x3 x4 h0_0 h0_1 h0_2 h0_3 _ (dz n m) some
def rM : PS := ⟨[], [(1, .q 0 0), (3, .n), (4, .n)], some [.c 30 [.L false 3, .l .i64, .l .i64, .s]], [⟨.ret, [], [(2, .x (.bool false))], [.c 30 [.L false 3, .l .i64, .l .i64, .s]], none⟩, ⟨(.exit 0), [1], [(3, .n)], [.c 30 [.L false 3, .l .i64, .l .i64, .s]], none⟩], none, none⟩
def gD (n : Nat) (x3 x5 : Int) (h0_0 : List (List AV)) (h0_1 h0_2 : List Int) (h0_3 : Str) (R : Type) (K : W0 → Option R) : Option R := cond (decide (x3 > (256 : Int))) (K (true, h0_0, h0_1, h0_2, h0_3)) (cond (decide (0 ≤ x5)) ((h0_2[x5.toNat]?).bind fun e197 => (cond (decide (e197 < (0 : Int))) (K (true, h0_0, h0_1, h0_2, h0_3)) (cond (decide (0 ≤ x5)) ((h0_2[x5.toNat]?).bind fun e198 => (cond (decide (e198 ≥ (h0_0.length : Int))) (K (true, h0_0, h0_1, h0_2, h0_3)) (cond (decide (x5 > (0 : Int))) (cond (decide (0 ≤ x5)) ((h0_1[x5.toNat]?).bind fun e199 => (cond (decide (0 ≤ (IntKind.i64.wrap (x5 - (1 : Int))))) ((h0_1[(IntKind.i64.wrap (x5 - (1 : Int))).toNat]?).bind fun e200 => (K (decide (e199 ≤ e200), h0_0, h0_1, h0_2, h0_3))) none)) none) (K (false, h0_0, h0_1, h0_2, h0_3))))) none))) none)
def iF n x3 x5 h0_0 h0_1 h0_2 h0_3 := gD n x3 x5 h0_0 h0_1 h0_2 h0_3 _ some
def rO : PS := ⟨[], [(1, .q 0 0), (3, .n), (5, .n)], some [.c 30 [.L false 3, .l .i64, .l .i64, .s]], [⟨.normal, [1, 3, 5], [(125, .b)], [.c 30 [.L false 3, .l .i64, .l .i64, .s]], none⟩], none, none⟩
def dL (n : Nat) (x3 x5 : Int) (h0_0 : List (List AV)) (h0_1 h0_2 : List Int) (h0_3 : Str) (R : Type) (A_ : Int → Int → (List (List AV)) → (List Int) → (List Int) → Str → Option R) (K : (((List (List AV)) × (List Int) × (List Int) × Str) ⊕ ((List (List AV)) × (List Int) × (List Int) × Str)) → Option R) : Option R := cond (decide (x5 < (h0_1.length : Int))) ((iF n x3 x5 h0_0 h0_1 h0_2 h0_3).bind fun o201 => (cond o201.1 (K (Sum.inl (o201.2.1, o201.2.2.1, o201.2.2.2.1, o201.2.2.2.2))) (A_ x3 (IntKind.i64.wrap (x5 + (1 : Int))) o201.2.1 o201.2.2.1 o201.2.2.2.1 o201.2.2.2.2))) (K (Sum.inr (h0_0, h0_1, h0_2, h0_3)))
def bL (n : Nat) : Nat → Int → Int → (List (List AV)) → (List Int) → (List Int) → Str → Option (((List (List AV)) × (List Int) × (List Int) × Str) ⊕ ((List (List AV)) × (List Int) × (List Int) × Str))
 | 0, _, _, _, _, _, _ => none
 | m + 1, x3, x5, h0_0, h0_1, h0_2, h0_3 => dL n x3 x5 h0_0 h0_1 h0_2 h0_3 _ (bL n m) some
def rP : PS := ⟨[], [(1, .q 0 0), (3, .n), (5, .n)], some [.c 30 [.L false 3, .l .i64, .l .i64, .s]], [⟨.ret, [], [(2, .x (.bool false))], [.c 30 [.L false 3, .l .i64, .l .i64, .s]], none⟩, ⟨(.exit 2), [3], [], [.c 30 [.L false 3, .l .i64, .l .i64, .s]], none⟩], none, none⟩
theorem EB (n : Nat) : Snd ⟨Tryz.prog, 0, 128⟩ (rJ.x (kD n)) (fb Tryz.f55 5271) := jC (S := rJ) (b := jq n) (.r [(23, .cl 91 (tL n))]) (nt5 (jq n) (by intros; unfold jq; simp only [ax])) (ai (wQ n) trivial)
theorem EC (n : Nat) : Snd ⟨Tryz.prog, 0, 128⟩ (rO.x (iF n)) (fb Tryz.f55 4399) := jC (S := rO) (b := gD n) (.d [] [(3, .look), (7, .no), (11, .look), (15, .no), (16, .look), (25, .look), (29, .no), (30, .look), (35, .no)]) (nt6 (gD n) (by intros; unfold gD; simp only [ax])) trivial
theorem ED (n : Nat) : Snd ⟨Tryz.prog, 0, 128⟩ (rH.x (pg n)) (fb Tryz.f55 9) := jC (S := rH) (b := jo n) (.r [(28, .cl 91 (tL n))]) (nt4 (jo n) (by intros; unfold jo; simp only [ax])) (ai (wQ n) trivial)
theorem EE (n : Nat) : Snd ⟨Tryz.prog, 0, 128⟩ (rM.x (dz n n)) (fb Tryz.f55 87) := lC (S := rM) (b := gB n) (f := dz n) n (.s .a (.s (.u (.s .a (.s (.p (rJ.x (kD n))) .a))) .a)) (nl6 (gB n) (by intros; unfold gB; simp only [ax])) (ai (EB n) trivial)
theorem EF (n : Nat) : Snd ⟨Tryz.prog, 0, 128⟩ (rP.x (bL n n)) (fb Tryz.f55 175) := lC (S := rP) (b := dL n) (f := bL n) n (.s .a (.s (.u (.s (.p (rO.x (iF n))) .a)) .a)) (nl6 (dL n) (by intros; unfold dL; simp only [ax])) (ai (EC n) trivial)
def lL (n : Nat) (a0 : List (List AV)) (a1 a2 : List Int) (a3 : Str) (R : Type) (K : Bool → Option R) : Option R := (pg n a0 a1 a2 a3).bind fun o151 => (cond o151.1 (K false) ((dz n n (0 : Int) (0 : Int) o151.2.1 o151.2.2.1 o151.2.2.2.1 o151.2.2.2.2).bind fun o194 => (Sum.elim (fun o195 => K false) (fun o196 => (bL n n o196.1 (0 : Int) o196.2.1 o196.2.2.1 o196.2.2.2.1 o196.2.2.2.2).bind fun o202 => (Sum.elim (fun o203 => K false) (fun o204 => K (decide (o196.1 ≤ (256 : Int)))) o202)) o194)))
def lM n a0 a1 a2 a3 := lL n a0 a1 a2 a3 _ some
def Bo : FS := ⟨[.a [.L false 3, .l .i64, .l .i64, .s]], [], [([.b], [])]⟩
def uH (n : Nat) : FSpec := Bo.sp (lM n)
theorem xC (n : Nat) : FSound Tryz.prog 55 (uH n) := fs2 (S := Bo) (b := lL n) Tryz.func55 rfl rfl [.tmp 2] (.s .a (.s (.s (.p (rH.x (pg n))) .a) (.s .a (.s (.s .a (.u (.p (rM.x (dz n n))))) (.s (.s .a (.u (.p (rP.x (bL n n))))) .a))))) (nt4 (lL n) (by intros; unfold lL; simp only [ax])) (ai (ED n) (ai (EE n) (ai (EF n) trivial)))
def fu (n : Nat) (x1 : Int) (h0_0 : Str) (h0_1 : Int) (h0_2 : Bool) (R : Type) (K : (Bool × Str × Int × Bool) → Option R) : Option R := cond (decide (h0_1 ≥ (h0_0.length : Int))) (K (true, h0_0, h0_1, h0_2)) (cond (decide (0 ≤ h0_1)) ((h0_0[h0_1.toNat]?).bind fun b206 => (K ((b206.toNat : Int) != x1, h0_0, h0_1, h0_2))) none)
def ko n x1 h0_0 h0_1 h0_2 := fu n x1 h0_0 h0_1 h0_2 _ some
def nR : PS := ⟨[], [(0, .q 0 0), (1, .c)], some [.c 156 [.s, .n, .b]], [⟨.normal, [0], [(27, .b)], [.c 156 [.s, .n, .b]], none⟩], none, none⟩
theorem Bp (n : Nat) : Snd ⟨Tryz.prog, 1, 35⟩ (nR.x (ko n)) (fb Tryz.f131 9) := jC (S := nR) (b := fu n) (.d [] [(0, .look), (1, .look), (2, .look), (4, .look), (5, .look), (6, .look), (11, .look), (12, .look), (13, .look), (15, .look), (16, .look), (17, .look)]) (nt4 (fu n) (by intros; unfold fu; simp only [ax])) trivial
def iw (n : Nat) (a0 : Int) (h0 : Str) (h1 : Int) (h2 : Bool) (R : Type) (K : (Bool × Str × Int × Bool) → Option R) : Option R := (ko n a0 h0 h1 h2).bind fun o207 => (cond o207.1 (K (false, o207.2.1, o207.2.2.1, o207.2.2.2)) (K (true, o207.2.1, IntKind.i64.wrap (o207.2.2.1 + (1 : Int)), o207.2.2.2)))
def aG n a0 h0 h1 h2 := iw n a0 h0 h1 h2 _ some
def wR : FS := ⟨[.q 0 0, .c], [.c 156 [.s, .n, .b]], [([.b], [.c 156 [.s, .n, .b]])]⟩
def aN (n : Nat) : FSpec := wR.sp (aG n)
theorem aK (n : Nat) : FSound Tryz.prog 131 (aN n) := fs2 (S := wR) (b := iw n) Tryz.func131 rfl rfl [.tmp 4] (.s .a (.s (.s (.p (nR.x (ko n))) .a) .a)) (nt4 (iw n) (by intros; unfold iw; simp only [ax])) (ai (Bp n) trivial)
def gP (n : Nat) (a0 : Int) (h0 : Str) (h1 : Int) (h2 : Bool) (R : Type) (K : (Str × Int × Bool) → Option R) : Option R := (aG n a0 h0 h1 h2).bind fun o212 => (cond (!o212.1) (K (o212.2.1, o212.2.2.1, true)) (K (o212.2.1, o212.2.2.1, o212.2.2.2)))
def bi n a0 h0 h1 h2 := gP n a0 h0 h1 h2 _ some
def wo : FS := ⟨[.q 0 0, .c], [.c 156 [.s, .n, .b]], [([], [.c 156 [.s, .n, .b]])]⟩
def dA (n : Nat) : FSpec := wo.sp (bi n)
theorem dR (n : Nat) : FSound Tryz.prog 95 (dA n) := fs2 (S := wo) (b := gP n) Tryz.func95 rfl rfl [] (.s (.r [(2, .cl 131 (aN n))]) .a) (nt4 (gP n) (by intros; unfold gP; simp only [ax])) (ai (aK n) trivial)
def pq (n : Nat) (a0 : Int) (R : Type) (K : Bool → Option R) : Option R := cond (decide (a0 ≥ (65 : Int))) (cond (decide (a0 ≤ (90 : Int))) (K true) (cond (decide (a0 ≥ (97 : Int))) (K (decide (a0 ≤ (122 : Int)))) (K false))) (cond (decide (a0 ≥ (97 : Int))) (K (decide (a0 ≤ (122 : Int)))) (K false))
def iG n a0 := pq n a0 _ some
def zW : FS := ⟨[.c], [], [([.b], [])]⟩
def tN (n : Nat) : FSpec := zW.sp (iG n)
theorem wS (n : Nat) : FSound Tryz.prog 132 (tN n) := fs2 (S := zW) (b := pq n) Tryz.func132 rfl rfl [.tmp 2] .a (nt1 (pq n) (by intros; unfold pq; simp only [ax])) trivial
def qh (n : Nat) (a0 : Int) (R : Type) (K : Bool → Option R) : Option R := cond (decide (a0 ≥ (48 : Int))) (K (decide (a0 ≤ (57 : Int)))) (K false)
def gJ n a0 := qh n a0 _ some
def Bq : FS := ⟨[.c], [], [([.b], [])]⟩
def uI (n : Nat) : FSpec := Bq.sp (gJ n)
theorem xD (n : Nat) : FSound Tryz.prog 144 (uI n) := fs2 (S := Bq) (b := qh n) Tryz.func144 rfl rfl [.tmp 2] .a (nt1 (qh n) (by intros; unfold qh; simp only [ax])) trivial
def jV (n : Nat) (x0 : Str) (x3 : Int) (R : Type) (K : (Bool) → Option R) : Option R := cond (decide (0 ≤ x3)) ((x0[x3.toNat]?).bind fun b214 => ((iG n (b214.toNat : Int)).bind fun o215 => (cond (!o215) (cond (decide (0 ≤ x3)) ((x0[x3.toNat]?).bind fun b216 => ((gJ n (b216.toNat : Int)).bind fun o217 => (cond (!o217) (cond (decide (0 ≤ x3)) ((x0[x3.toNat]?).bind fun b218 => (cond ((b218.toNat : Int) != (43 : Int)) (cond (decide (0 ≤ x3)) ((x0[x3.toNat]?).bind fun b219 => (K ((b219.toNat : Int) != (45 : Int)))) none) (K false))) none) (K false)))) none) (K false)))) none
def qi n x0 x3 := jV n x0 x3 _ some
def tO : PS := ⟨[], [(0, .s), (3, .n)], none, [⟨.normal, [0, 3], [(33, .b)], [], none⟩], none, none⟩
def jW (n : Nat) (x0 : Str) (x3 : Int) (R : Type) (A_ : Str → Int → Option R) (K : ((Unit) ⊕ (Unit)) → Option R) : Option R := cond (decide (x3 < (x0.length : Int))) ((qi n x0 x3).bind fun o220 => (cond o220 (K (Sum.inl ())) (A_ x0 (IntKind.i64.wrap (x3 + (1 : Int)))))) (K (Sum.inr ()))
def gK (n : Nat) : Nat → Str → Int → Option ((Unit) ⊕ (Unit))
 | 0, _, _ => none
 | m + 1, x0, x3 => jW n x0 x3 _ (gK n m) some
def tQ : PS := ⟨[], [(0, .s), (3, .n)], none, [⟨.ret, [], [(2, .x (.bool false))], [], none⟩, ⟨(.exit 0), [0], [], [], none⟩], none, none⟩
theorem FP (n : Nat) : Snd ⟨Tryz.prog, 0, 42⟩ (tO.x (qi n)) (fb Tryz.f105 549) := jC (S := tO) (b := jV n) (.r [(3, .cl 132 (tN n)), (9, .cl 144 (uI n))]) (nt2 (jV n) (by intros; unfold jV; simp only [ax])) (ai (wS n) (ai (xD n) trivial))
theorem FQ (n : Nat) : Snd ⟨Tryz.prog, 0, 42⟩ (tQ.x (gK n n)) (fb Tryz.f105 21) := lC (S := tQ) (b := jW n) (f := gK n) n (.s .a (.s (.u (.s (.p (tO.x (qi n))) .a)) .a)) (nl2 (jW n) (by intros; unfold jW; simp only [ax])) (ai (FP n) trivial)
def nG (n : Nat) (a0 : Str) (R : Type) (K : Bool → Option R) : Option R := (gK n n a0 (0 : Int)).bind fun o221 => (Sum.elim (fun o222 => K false) (fun o223 => cond (decide ((a0.length : Int) ≥ (3 : Int))) (K (decide ((a0.length : Int) ≤ (10 : Int)))) (K false)) o221)
def ig n a0 := nG n a0 _ some
def Cb : FS := ⟨[.s], [], [([.b], [])]⟩
def lN (n : Nat) : FSpec := Cb.sp (ig n)
theorem mZ (n : Nat) : FSound Tryz.prog 105 (lN n) := fs2 (S := Cb) (b := nG n) Tryz.func105 rfl rfl [.tmp 2] (.s .a (.s (.s .a (.u (.p (tQ.x (gK n n))))) .a)) (nt1 (nG n) (by intros; unfold nG; simp only [ax])) (ai (FQ n) trivial)
def gQ (n : Nat) (h0 : Str) (h1 : Int) (h2 : Bool) (R : Type) (K : (Int × Str × Int × Bool) → Option R) : Option R := cond (decide (h1 < (h0.length : Int))) (cond (decide (0 ≤ h1)) ((h0[h1.toNat]?).bind fun b226 => (K ((b226.toNat : Int), h0, h1, h2))) none) (K ((0 : Int), h0, h1, h2))
def bT n h0 h1 h2 := gQ n h0 h1 h2 _ some
def wu : FS := ⟨[.q 0 0], [.c 156 [.s, .n, .b]], [([.c], [.c 156 [.s, .n, .b]])]⟩
def fQ (n : Nat) : FSpec := wu.sp (bT n)
theorem iy (n : Nat) : FSound Tryz.prog 94 (fQ n) := fs2 (S := wu) (b := gQ n) Tryz.func94 rfl rfl [.tmp 2] (.s .a (.s (.s (.d [] [(0, .look), (1, .look), (2, .look), (4, .look), (5, .look), (6, .look)]) (.s (.s (.d [] [(0, .look), (1, .look), (2, .look), (4, .look), (5, .look), (6, .look)]) .a) .a)) .a)) (nt3 (gQ n) (by intros; unfold gQ; simp only [ax])) trivial
def eU (n : Nat) (h0_0 : Str) (h0_1 : Int) (h0_2 : Bool) (R : Type) (K : (Bool × Str × Int × Bool) → Option R) : Option R := cond (decide (h0_1 < (h0_0.length : Int))) (cond (decide (0 ≤ h0_1)) ((h0_0[h0_1.toNat]?).bind fun b209 => (K ((b209.toNat : Int) != (62 : Int), h0_0, h0_1, h0_2))) none) (K (false, h0_0, h0_1, h0_2))
def jF n h0_0 h0_1 h0_2 := eU n h0_0 h0_1 h0_2 _ some
def mU : PS := ⟨[3], [(0, .q 0 0)], some [.c 156 [.s, .n, .b]], [⟨.normal, [0, 3], [(37, .b)], [.c 156 [.s, .n, .b]], none⟩], none, none⟩
def eX (n : Nat) (h0_0 : Str) (h0_1 : Int) (h0_2 : Bool) (R : Type) (A_ : Str → Int → Bool → Option R) (K : (Str × Int × Bool) → Option R) : Option R := (jF n h0_0 h0_1 h0_2).bind fun o210 => (cond o210.1 (A_ o210.2.1 (IntKind.i64.wrap (o210.2.2.1 + (1 : Int))) o210.2.2.2) (K (o210.2.1, o210.2.2.1, o210.2.2.2)))
def bG (n : Nat) : Nat → Str → Int → Bool → Option ((Str × Int × Bool))
 | 0, _, _, _ => none
 | m + 1, h0_0, h0_1, h0_2 => eX n h0_0 h0_1 h0_2 _ (bG n m) some
def mV : PS := ⟨[3], [(0, .q 0 0)], some [.c 156 [.s, .n, .b]], [⟨(.exit 0), [0, 3], [], [.c 156 [.s, .n, .b]], none⟩], none, none⟩
def eY (n : Nat) (x4 h0_0 : Str) (h0_1 : Int) (h0_2 : Bool) (R : Type) (K : (Str × Int × Bool) → Option R) : Option R := cond h0_2 (K (h0_0, h0_1, true)) ((ig n x4).bind fun o224 => (K (h0_0, h0_1, !o224)))
def jG n x4 h0_0 h0_1 h0_2 := eY n x4 h0_0 h0_1 h0_2 _ some
def mW : PS := ⟨[], [(0, .q 0 0), (4, .s)], some [.c 156 [.s, .n, .b]], [⟨.normal, [4], [], [.c 156 [.s, .n, .b]], none⟩], none, none⟩
def eZ (n : Nat) (h0_0 : Str) (h0_1 : Int) (h0_2 : Bool) (R : Type) (A_ : Str → Int → Bool → Option R) (K : (Str × Int × Bool) → Option R) : Option R := (bT n h0_0 h0_1 h0_2).bind fun o227 => ((iG n o227.1).bind fun o228 => (cond o228 (A_ o227.2.1 (IntKind.i64.wrap (o227.2.2.1 + (1 : Int))) o227.2.2.2) (K (o227.2.1, o227.2.2.1, o227.2.2.2))))
def bH (n : Nat) : Nat → Str → Int → Bool → Option ((Str × Int × Bool))
 | 0, _, _, _ => none
 | m + 1, h0_0, h0_1, h0_2 => eZ n h0_0 h0_1 h0_2 _ (bH n m) some
def mX : PS := ⟨[3], [(0, .q 0 0)], some [.c 156 [.s, .n, .b]], [⟨(.exit 2), [0, 3], [], [.c 156 [.s, .n, .b]], none⟩], none, none⟩
theorem Al (n : Nat) : Snd ⟨Tryz.prog, 1, 103⟩ (mU.x (jF n)) (fb Tryz.f92 2091) := jC (S := mU) (b := eU n) (.d [] [(0, .look), (1, .look), (2, .look), (4, .look), (5, .look), (6, .look), (11, .look), (12, .look), (13, .look), (15, .look), (16, .look), (17, .look)]) (nt3 (eU n) (by intros; unfold eU; simp only [ax])) trivial
theorem Am (n : Nat) : Snd ⟨Tryz.prog, 1, 103⟩ (mV.x (bG n n)) (fb Tryz.f92 299) := lC (S := mV) (b := eX n) (f := bG n) n (.s (.s (.p (mU.x (jF n))) .a) .a) (nl3 (eX n) (by intros; unfold eX; simp only [ax])) (ai (Al n) trivial)
theorem Ao (n : Nat) : Snd ⟨Tryz.prog, 1, 103⟩ (mW.x (jG n)) (fb Tryz.f92 1515) := jC (S := mW) (b := eY n) (.r [(7, .cl 105 (lN n))]) (nt4 (eY n) (by intros; unfold eY; simp only [ax])) (ai (mZ n) trivial)
theorem Ap (n : Nat) : Snd ⟨Tryz.prog, 1, 103⟩ (mX.x (bH n n)) (fb Tryz.f92 39) := lC (S := mX) (b := eZ n) (f := bH n) n (.s (.s (.r [(1, .cl 94 (fQ n)), (2, .cl 132 (tN n))]) .a) .a) (nl3 (eZ n) (by intros; unfold eZ; simp only [ax])) (ai (iy n) (ai (wS n) trivial))
def gT (n : Nat) (h0 : Str) (h1 : Int) (h2 : Bool) (R : Type) (K : (Str × Str × Int × Bool) → Option R) : Option R := (aG n (60 : Int) h0 h1 h2).bind fun o208 => (cond o208.1 ((bG n n o208.2.1 o208.2.2.1 o208.2.2.2).bind fun o211 => (cond (decide (0 ≤ o211.2.1)) (cond (decide (o211.2.1 ≤ (o211.1.length : Int))) (cond (decide (0 ≤ o208.2.2.1)) (cond (decide (o208.2.2.1 ≤ (o211.2.1.toNat : Int))) ((bi n (62 : Int) o211.1 o211.2.1 o211.2.2).bind fun o213 => ((jG n ((o211.1.take o211.2.1.toNat).drop o208.2.2.1.toNat) o213.1 o213.2.1 o213.2.2).bind fun o225 => (K ((o211.1.take o211.2.1.toNat).drop o208.2.2.1.toNat, o225.1, o225.2.1, o225.2.2)))) none) none) none) none)) ((bH n n o208.2.1 o208.2.2.1 o208.2.2.2).bind fun o229 => (cond (decide (0 ≤ o229.2.1)) (cond (decide (o229.2.1 ≤ (o229.1.length : Int))) (cond (decide (0 ≤ h1)) (cond (decide (h1 ≤ (o229.2.1.toNat : Int))) (cond o229.2.2 (K ((o229.1.take o229.2.1.toNat).drop h1.toNat, o229.1, o229.2.1, true)) ((ig n ((o229.1.take o229.2.1.toNat).drop h1.toNat)).bind fun o230 => (K ((o229.1.take o229.2.1.toNat).drop h1.toNat, o229.1, o229.2.1, !o230)))) none) none) none) none)))
def gU n h0 h1 h2 := gT n h0 h1 h2 _ some
def ww : FS := ⟨[.q 0 0], [.c 156 [.s, .n, .b]], [([.s], [.c 156 [.s, .n, .b]])]⟩
def oC (n : Nat) : FSpec := ww.sp (gU n)
theorem sI (n : Nat) : FSound Tryz.prog 92 (oC n) := fs2 (S := ww) (b := gT n) Tryz.func92 rfl rfl [.tmp 2] (.s .a (.s .a (.s (.s (.r [(1, .cl 131 (aN n))]) (.s (.s .a (.s (.u (.p (mV.x (bG n n)))) (.s (.d [] [(0, .look), (1, .look), (2, .look), (5, .look), (6, .look), (7, .look)]) (.s (.r [(1, .cl 95 (dA n))]) (.s (.p (mW.x (jG n))) .a))))) .a)) (.s (.u (.p (mX.x (bH n n)))) (.s (.d [] [(0, .look), (1, .look), (2, .look), (5, .look), (6, .look), (7, .look)]) (.s (.r [(7, .cl 105 (lN n))]) .a)))))) (nt3 (gT n) (by intros; unfold gT; simp only [ax])) (ai (aK n) (ai (Am n) (ai (dR n) (ai (Ao n) (ai (Ap n) (ai (mZ n) trivial))))))
def dH (n : Nat) (x2 x8 : Int) (h0_0 : Str) (h0_1 : Int) (h0_2 : Bool) (R : Type) (K : (Bool × Str × Int × Bool) → Option R) : Option R := cond (decide (x8 < x2)) ((bT n h0_0 h0_1 h0_2).bind fun o235 => ((gJ n o235.1).bind fun o236 => (K (o236, o235.2.1, o235.2.2.1, o235.2.2.2)))) (K (false, h0_0, h0_1, h0_2))
def iH n x2 x8 h0_0 h0_1 h0_2 := dH n x2 x8 h0_0 h0_1 h0_2 _ some
def lg : PS := ⟨[1, 7], [(0, .q 0 0), (2, .n), (8, .n)], some [.c 156 [.s, .n, .b]], [⟨.normal, [0, 1, 2, 7, 8], [(16, .b)], [.c 156 [.s, .n, .b]], none⟩], none, none⟩
def dI (n : Nat) (x2 x7 x8 : Int) (h0_0 : Str) (h0_1 : Int) (h0_2 : Bool) (R : Type) (A_ : Int → Int → Int → Str → Int → Bool → Option R) (K : W7 → Option R) : Option R := (iH n x2 x8 h0_0 h0_1 h0_2).bind fun o237 => (cond o237.1 ((bT n o237.2.1 o237.2.2.1 o237.2.2.2).bind fun o238 => (A_ x2 (IntKind.i64.wrap ((IntKind.i64.wrap ((IntKind.i64.wrap ((10 : Int) * x7)) + (IntKind.i64.wrap o238.1))) - (48 : Int))) (IntKind.i64.wrap (x8 + (1 : Int))) o238.2.1 (IntKind.i64.wrap (o238.2.2.1 + (1 : Int))) o238.2.2.2)) (K (x7, x8, o237.2.1, o237.2.2.1, o237.2.2.2)))
def aQ (n : Nat) : Nat → Int → Int → Int → Str → Int → Bool → Option (W7)
 | 0, _, _, _, _, _, _ => none
 | m + 1, x2, x7, x8, h0_0, h0_1, h0_2 => dI n x2 x7 x8 h0_0 h0_1 h0_2 _ (aQ n m) some
def lh : PS := ⟨[1], [(0, .q 0 0), (2, .n), (7, .n), (8, .n)], some [.c 156 [.s, .n, .b]], [⟨(.exit 0), [0, 1], [(7, .n), (8, .n)], [.c 156 [.s, .n, .b]], none⟩], none, none⟩
theorem yO (n : Nat) : Snd ⟨Tryz.prog, 1, 46⟩ (lg.x (iH n)) (fb Tryz.f133 131) := jC (S := lg) (b := dH n) (.r [(5, .cl 94 (fQ n)), (6, .cl 144 (uI n))]) (nt5 (dH n) (by intros; unfold dH; simp only [ax])) (ai (iy n) (ai (xD n) trivial))
theorem yP (n : Nat) : Snd ⟨Tryz.prog, 1, 46⟩ (lh.x (aQ n n)) (fb Tryz.f133 19) := lC (S := lh) (b := dI n) (f := aQ n) n (.s (.s (.p (lg.x (iH n))) .a) (.u (.s (.r [(3, .cl 94 (fQ n))]) .a))) (nl6 (dI n) (by intros; unfold dI; simp only [ax])) (ai (yO n) (ai (iy n) trivial))
def fA (n : Nat) (a0 a1 : Int) (h0 : Str) (h1 : Int) (h2 : Bool) (R : Type) (K : (Int × Str × Int × Bool) → Option R) : Option R := (aQ n n a1 (0 : Int) (0 : Int) h0 h1 h2).bind fun o239 => (cond o239.2.2.2.2 (K (o239.1, o239.2.2.1, o239.2.2.2.1, true)) (K (o239.1, o239.2.2.1, o239.2.2.2.1, decide (o239.2.1 < a0))))
def ak n a0 a1 h0 h1 h2 := fA n a0 a1 h0 h1 h2 _ some
def uJ : FS := ⟨[.q 0 0, .n, .n], [.c 156 [.s, .n, .b]], [([.n], [.c 156 [.s, .n, .b]])]⟩
def aL (n : Nat) : FSpec := uJ.sp (ak n)
theorem aM (n : Nat) : FSound Tryz.prog 133 (aL n) := fs2 (S := uJ) (b := fA n) Tryz.func133 rfl rfl [.tmp 6] (.s .a (.s .a (.s (.u (.p (lh.x (aQ n n)))) .a))) (nt5 (fA n) (by intros; unfold fA; simp only [ax])) (ai (yP n) trivial)
def dS (n : Nat) (x5 : Int) (h0_0 : Str) (h0_1 : Int) (h0_2 : Bool) (R : Type) (K : (Int × Str × Int × Bool) → Option R) : Option R := (aG n (45 : Int) h0_0 h0_1 h0_2).bind fun o232 => (cond o232.1 (K ((-1 : Int), o232.2.1, o232.2.2.1, o232.2.2.2)) ((aG n (43 : Int) o232.2.1 o232.2.2.1 o232.2.2.2).bind fun o233 => (K (x5, o233.2.1, o233.2.2.1, o233.2.2.2))))
def fB n x5 h0_0 h0_1 h0_2 := dS n x5 h0_0 h0_1 h0_2 _ some
def lQ : PS := ⟨[1], [(0, .q 0 0), (5, .n)], some [.c 156 [.s, .n, .b]], [⟨.normal, [0, 1], [(5, .n)], [.c 156 [.s, .n, .b]], none⟩], none, none⟩
def dU (n : Nat) (x7 x8 : Int) (h0_0 : Str) (h0_1 : Int) (h0_2 : Bool) (R : Type) (K : W7 → Option R) : Option R := (aG n (58 : Int) h0_0 h0_1 h0_2).bind fun o241 => (cond o241.1 ((ak n (2 : Int) (2 : Int) o241.2.1 o241.2.2.1 o241.2.2.2).bind fun o242 => ((aG n (58 : Int) o242.2.1 o242.2.2.1 o242.2.2.2).bind fun o243 => (cond o243.1 ((ak n (2 : Int) (2 : Int) o243.2.1 o243.2.2.1 o243.2.2.2).bind fun o244 => (K (o242.1, o244.1, o244.2.1, o244.2.2.1, o244.2.2.2))) (K (o242.1, x8, o243.2.1, o243.2.2.1, o243.2.2.2))))) (K (x7, x8, o241.2.1, o241.2.2.1, o241.2.2.2)))
def jb n x7 x8 h0_0 h0_1 h0_2 := dU n x7 x8 h0_0 h0_1 h0_2 _ some
def lS : PS := ⟨[1, 5, 6], [(0, .q 0 0), (7, .n), (8, .n)], some [.c 156 [.s, .n, .b]], [⟨.normal, [0, 1, 5, 6], [(7, .n), (8, .n)], [.c 156 [.s, .n, .b]], none⟩], none, none⟩
def dV (n : Nat) (x1 x6 x7 x8 : Int) (h0_0 : Str) (h0_1 : Int) (h0_2 : Bool) (R : Type) (K : (Str × Int × Bool) → Option R) : Option R := cond h0_2 (K (h0_0, h0_1, true)) (cond (decide (x6 > x1)) (K (h0_0, h0_1, true)) (cond (decide (x7 > (59 : Int))) (K (h0_0, h0_1, true)) (K (h0_0, h0_1, decide (x8 > (59 : Int))))))
def fC n x1 x6 x7 x8 h0_0 h0_1 h0_2 := dV n x1 x6 x7 x8 h0_0 h0_1 h0_2 _ some
def lT : PS := ⟨[5], [(0, .q 0 0), (1, .n), (6, .n), (7, .n), (8, .n)], some [.c 156 [.s, .n, .b]], [⟨.normal, [5, 6, 7, 8], [], [.c 156 [.s, .n, .b]], none⟩], none, none⟩
theorem zx (n : Nat) : Snd ⟨Tryz.prog, 1, 52⟩ (lQ.x (fB n)) (fb Tryz.f93 11) := jC (S := lQ) (b := dS n) (.s (.r [(1, .cl 131 (aN n))]) (.s .a (.r [(1, .cl 131 (aN n))]))) (nt4 (dS n) (by intros; unfold dS; simp only [ax])) (ai (aK n) (ai (aK n) trivial))
theorem zy (n : Nat) : Snd ⟨Tryz.prog, 1, 52⟩ (lS.x (jb n)) (fb Tryz.f93 47) := jC (S := lS) (b := dU n) (.s (.r [(1, .cl 131 (aN n))]) (.s (.s (.r [(1, .cl 133 (aL n))]) (.s (.r [(1, .cl 131 (aN n))]) (.s (.r [(1, .cl 133 (aL n))]) .a))) .a)) (nt5 (dU n) (by intros; unfold dU; simp only [ax])) (ai (aK n) (ai (aM n) (ai (aK n) (ai (aM n) trivial))))
theorem zA (n : Nat) : Snd ⟨Tryz.prog, 1, 52⟩ (lT.x (fC n)) (fb Tryz.f93 95) := jC (S := lT) (b := dV n) .a (nt7 (dV n) (by intros; unfold dV; simp only [ax])) trivial
def fT (n : Nat) (a0 : Int) (h0 : Str) (h1 : Int) (h2 : Bool) (R : Type) (K : (Int × Str × Int × Bool) → Option R) : Option R := (fB n (1 : Int) h0 h1 h2).bind fun o234 => ((ak n (1 : Int) (3 : Int) o234.2.1 o234.2.2.1 o234.2.2.2).bind fun o240 => ((jb n (0 : Int) (0 : Int) o240.2.1 o240.2.2.1 o240.2.2.2).bind fun o245 => ((fC n a0 o240.1 o245.1 o245.2.1 o245.2.2.1 o245.2.2.2.1 o245.2.2.2.2).bind fun o246 => (K (IntKind.i64.wrap (o234.1 * (IntKind.i64.wrap ((IntKind.i64.wrap ((IntKind.i64.wrap ((3600 : Int) * o240.1)) + (IntKind.i64.wrap ((60 : Int) * o245.1)))) + o245.2.1))), o246.1, o246.2.1, o246.2.2)))))
def aJ n a0 h0 h1 h2 := fT n a0 h0 h1 h2 _ some
def u6 : FS := ⟨[.q 0 0, .n], [.c 156 [.s, .n, .b]], [([.n], [.c 156 [.s, .n, .b]])]⟩
def jc (n : Nat) : FSpec := u6.sp (aJ n)
theorem ll (n : Nat) : FSound Tryz.prog 93 (jc n) := fs2 (S := u6) (b := fT n) Tryz.func93 rfl rfl [.tmp 4] (.s .a (.s .a (.s (.p (lQ.x (fB n))) (.s (.r [(1, .cl 133 (aL n))]) (.s (.p (lS.x (jb n))) (.s (.p (lT.x (fC n))) .a)))))) (nt4 (fT n) (by intros; unfold fT; simp only [ax])) (ai (zx n) (ai (aM n) (ai (zy n) (ai (zA n) trivial))))
def kE (n : Nat) (h0_0 h0_1 h0_2 h0_3 h0_4 : Int) (R : Type) (K : W2 → Option R) : Option R := cond (decide (h0_4 < (-604799 : Int))) (K (true, h0_0, h0_1, h0_2, h0_3, h0_4)) (K (decide (h0_4 > (604799 : Int)), h0_0, h0_1, h0_2, h0_3, h0_4))
def q8 n h0_0 h0_1 h0_2 h0_3 h0_4 := kE n h0_0 h0_1 h0_2 h0_3 h0_4 _ some
def uK : PS := ⟨[], [(1, .q 0 0)], some [.c 32 [.c, .n, .n, .n, .n]], [⟨.normal, [1], [(10, .b)], [.c 32 [.c, .n, .n, .n, .n]], none⟩], none, none⟩
theorem Gu (n : Nat) : Snd ⟨Tryz.prog, 0, 83⟩ (uK.x (q8 n)) (fb Tryz.f107 9) := jC (S := uK) (b := kE n) .a (nt5 (kE n) (by intros; unfold kE; simp only [ax])) trivial
def oD (n : Nat) (a0 a1 a2 a3 a4 : Int) (R : Type) (K : Bool → Option R) : Option R := (q8 n a0 a1 a2 a3 a4).bind fun o267 => (cond o267.1 (K false) (cond (o267.2.1 == (1 : Int)) (cond (o267.2.2.1 == (0 : Int)) (cond (o267.2.2.2.1 == (0 : Int)) (cond (decide (o267.2.2.2.2.1 ≥ (1 : Int))) (K (decide (o267.2.2.2.2.1 ≤ (365 : Int)))) (K false)) (K false)) (K false)) (cond (o267.2.1 == (2 : Int)) (cond (o267.2.2.1 == (0 : Int)) (cond (o267.2.2.2.1 == (0 : Int)) (cond (decide (o267.2.2.2.2.1 ≥ (0 : Int))) (K (decide (o267.2.2.2.2.1 ≤ (365 : Int)))) (K false)) (K false)) (K false)) (cond (o267.2.1 == (3 : Int)) (cond (decide (o267.2.2.1 ≥ (1 : Int))) (cond (decide (o267.2.2.1 ≤ (12 : Int))) (cond (decide (o267.2.2.2.1 ≥ (1 : Int))) (cond (decide (o267.2.2.2.1 ≤ (5 : Int))) (cond (decide (o267.2.2.2.2.1 ≥ (0 : Int))) (K (decide (o267.2.2.2.2.1 ≤ (6 : Int)))) (K false)) (K false)) (K false)) (K false)) (K false)) (K false)))))
def iM n a0 a1 a2 a3 a4 := oD n a0 a1 a2 a3 a4 _ some
def Dn : FS := ⟨[.a [.c, .n, .n, .n, .n]], [], [([.b], [])]⟩
def q9 (n : Nat) : FSpec := Dn.sp (iM n)
theorem tT (n : Nat) : FSound Tryz.prog 107 (q9 n) := fs2 (S := Dn) (b := oD n) Tryz.func107 rfl rfl [.tmp 2] (.s .a (.s (.s (.p (uK.x (q8 n))) .a) .a)) (nt5 (oD n) (by intros; unfold oD; simp only [ax])) (ai (Gu n) trivial)
def fD (n : Nat) (h0_0 : Str) (h0_1 : Int) (h0_2 : Bool) (h1_0 h1_1 h1_2 h1_3 h1_4 h2_0 h2_1 h2_2 h2_3 h2_4 : Int) (R : Type) (K : W8 → Option R) : Option R := (aG n (74 : Int) h0_0 h0_1 h0_2).bind fun o254 => (cond o254.1 ((ak n (1 : Int) (3 : Int) o254.2.1 o254.2.2.1 o254.2.2.2).bind fun o255 => (K (o255.2.1, o255.2.2.1, o255.2.2.2, h1_0, h1_1, h1_2, h1_3, h1_4, (1 : Int), h2_1, h2_2, o255.1, h2_4))) ((aG n (77 : Int) o254.2.1 o254.2.2.1 o254.2.2.2).bind fun o256 => (cond o256.1 ((ak n (1 : Int) (3 : Int) o256.2.1 o256.2.2.1 o256.2.2.2).bind fun o257 => ((bi n (46 : Int) o257.2.1 o257.2.2.1 o257.2.2.2).bind fun o258 => ((ak n (1 : Int) (3 : Int) o258.1 o258.2.1 o258.2.2).bind fun o259 => ((bi n (46 : Int) o259.2.1 o259.2.2.1 o259.2.2.2).bind fun o260 => ((ak n (1 : Int) (3 : Int) o260.1 o260.2.1 o260.2.2).bind fun o261 => (K (o261.2.1, o261.2.2.1, o261.2.2.2, h1_0, h1_1, h1_2, h1_3, h1_4, (3 : Int), o257.1, o259.1, o261.1, h2_4))))))) ((ak n (1 : Int) (3 : Int) o256.2.1 o256.2.2.1 o256.2.2.2).bind fun o262 => (K (o262.2.1, o262.2.2.1, o262.2.2.2, h1_0, h1_1, h1_2, h1_3, h1_4, (2 : Int), h2_1, h2_2, o262.1, h2_4))))))
def kr n h0_0 h0_1 h0_2 h1_0 h1_1 h1_2 h1_3 h1_4 h2_0 h2_1 h2_2 h2_3 h2_4 := fD n h0_0 h0_1 h0_2 h1_0 h1_1 h1_2 h1_3 h1_4 h2_0 h2_1 h2_2 h2_3 h2_4 _ some
def nS : PS := ⟨[2], [(0, .q 0 0), (3, .q 2 0)], some [.c 156 [.s, .n, .b], .c 32 [.c, .n, .n, .n, .n], .c 32 [.c, .n, .n, .n, .n]], [⟨.normal, [0, 2, 3], [], [.c 156 [.s, .n, .b], .c 32 [.c, .n, .n, .n, .n], .c 32 [.c, .n, .n, .n, .n]], none⟩], none, none⟩
def fE (n : Nat) (h0_0 : Str) (h0_1 : Int) (h0_2 : Bool) (h1_0 h1_1 h1_2 h1_3 h1_4 h2_0 h2_1 h2_2 h2_3 h2_4 : Int) (R : Type) (K : W8 → Option R) : Option R := (aG n (47 : Int) h0_0 h0_1 h0_2).bind fun o264 => (cond o264.1 ((aJ n (167 : Int) o264.2.1 o264.2.2.1 o264.2.2.2).bind fun o265 => (K (o265.2.1, o265.2.2.1, o265.2.2.2, h1_0, h1_1, h1_2, h1_3, h1_4, h2_0, h2_1, h2_2, h2_3, o265.1))) (K (o264.2.1, o264.2.2.1, o264.2.2.2, h1_0, h1_1, h1_2, h1_3, h1_4, h2_0, h2_1, h2_2, h2_3, h2_4)))
def gV n h0_0 h0_1 h0_2 h1_0 h1_1 h1_2 h1_3 h1_4 h2_0 h2_1 h2_2 h2_3 h2_4 := fE n h0_0 h0_1 h0_2 h1_0 h1_1 h1_2 h1_3 h1_4 h2_0 h2_1 h2_2 h2_3 h2_4 _ some
def nT : PS := ⟨[2], [(0, .q 0 0), (3, .q 2 0)], some [.c 156 [.s, .n, .b], .c 32 [.c, .n, .n, .n, .n], .c 32 [.c, .n, .n, .n, .n]], [⟨.normal, [0, 2, 3], [], [.c 156 [.s, .n, .b], .c 32 [.c, .n, .n, .n, .n], .c 32 [.c, .n, .n, .n, .n]], none⟩], none, none⟩
theorem Br (n : Nat) : Snd ⟨Tryz.prog, 1, 51⟩ (nS.x (kr n)) (fb Tryz.f96 11) := jC (S := nS) (b := fD n) (.u (.s (.r [(1, .cl 131 (aN n))]) (.s (.s .a (.r [(1, .cl 133 (aL n))])) (.s (.r [(1, .cl 131 (aN n))]) (.s (.s .a (.s (.r [(1, .cl 133 (aL n))]) (.s (.r [(1, .cl 95 (dA n))]) (.s (.r [(1, .cl 133 (aL n))]) (.s (.r [(1, .cl 95 (dA n))]) (.r [(1, .cl 133 (aL n))])))))) (.s .a (.r [(1, .cl 133 (aL n))]))))))) (ab8 (fD n) (by intros; unfold fD; simp only [ax])) (ai (aK n) (ai (aM n) (ai (aK n) (ai (aM n) (ai (dR n) (ai (aM n) (ai (dR n) (ai (aM n) (ai (aM n) trivial)))))))))
theorem Bt (n : Nat) : Snd ⟨Tryz.prog, 1, 51⟩ (nT.x (gV n)) (fb Tryz.f96 23) := jC (S := nT) (b := fE n) (.s (.r [(1, .cl 131 (aN n))]) (.s (.r [(1, .cl 93 (jc n))]) .a)) (ab8 (fE n) (by intros; unfold fE; simp only [ax])) (ai (aK n) (ai (ll n) trivial))
def iA (n : Nat) (h0 : Str) (h1 : Int) (h2 : Bool) (R : Type) (K : (Int × Int × Int × Int × Int × Str × Int × Bool) → Option R) : Option R := (kr n h0 h1 h2 (0 : Int) (0 : Int) (0 : Int) (0 : Int) (0 : Int) (0 : Int) (0 : Int) (0 : Int) (0 : Int) (7200 : Int)).bind fun o263 => ((gV n o263.1 o263.2.1 o263.2.2.1 o263.2.2.2.1 o263.2.2.2.2.1 o263.2.2.2.2.2.1 o263.2.2.2.2.2.2.1 o263.2.2.2.2.2.2.2.1 o263.2.2.2.2.2.2.2.2.1 o263.2.2.2.2.2.2.2.2.2.1 o263.2.2.2.2.2.2.2.2.2.2.1 o263.2.2.2.2.2.2.2.2.2.2.2.1 o263.2.2.2.2.2.2.2.2.2.2.2.2).bind fun o266 => (cond o266.2.2.1 (K (o266.2.2.2.2.2.2.2.2.1, o266.2.2.2.2.2.2.2.2.2.1, o266.2.2.2.2.2.2.2.2.2.2.1, o266.2.2.2.2.2.2.2.2.2.2.2.1, o266.2.2.2.2.2.2.2.2.2.2.2.2, o266.1, o266.2.1, true)) ((iM n o266.2.2.2.2.2.2.2.2.1 o266.2.2.2.2.2.2.2.2.2.1 o266.2.2.2.2.2.2.2.2.2.2.1 o266.2.2.2.2.2.2.2.2.2.2.2.1 o266.2.2.2.2.2.2.2.2.2.2.2.2).bind fun o268 => (K (o266.2.2.2.2.2.2.2.2.1, o266.2.2.2.2.2.2.2.2.2.1, o266.2.2.2.2.2.2.2.2.2.2.1, o266.2.2.2.2.2.2.2.2.2.2.2.1, o266.2.2.2.2.2.2.2.2.2.2.2.2, o266.1, o266.2.1, !o268)))))
def iB n h0 h1 h2 := iA n h0 h1 h2 _ some
def wT : FS := ⟨[.q 0 0], [.c 156 [.s, .n, .b]], [([.a [.c, .n, .n, .n, .n]], [.c 156 [.s, .n, .b]])]⟩
def pO (n : Nat) : FSpec := wT.sp (iB n)
theorem um (n : Nat) : FSound Tryz.prog 96 (pO n) := fs2 (S := wT) (b := iA n) Tryz.func96 rfl rfl [.cell 2 32 5 true] (.s .a (.s .a (.s (.p (nS.x (kr n))) (.s (.p (nT.x (gV n))) (.s (.r [(7, .cl 107 (q9 n))]) .a))))) (nt3 (iA n) (by intros; unfold iA; simp only [ax])) (ai (Br n) (ai (Bt n) (ai (tT n) trivial)))
def oF (n : Nat) (a0 : Int) (R : Type) (K : Bool → Option R) : Option R := cond (decide (a0 ≥ (-89999 : Int))) (K (decide (a0 ≤ (89999 : Int)))) (K false)
def oG n a0 := oF n a0 _ some
def Dp : FS := ⟨[.n], [], [([.b], [])]⟩
def wP (n : Nat) : FSpec := Dp.sp (oG n)
theorem yQ (n : Nat) : FSound Tryz.prog 106 (wP n) := fs2 (S := Dp) (b := oF n) Tryz.func106 rfl rfl [.tmp 2] .a (nt1 (oF n) (by intros; unfold oF; simp only [ax])) trivial
def jr (n : Nat) (h0_0 h0_1 : Str) (h0_2 h0_3 h0_4 h0_5 h0_6 h0_7 h0_8 h0_9 h0_10 h0_11 h0_12 h0_13 : Int) (R : Type) (K : W3 → Option R) : Option R := (ig n h0_0).bind fun o273 => (cond (!o273) (K (true, h0_0, h0_1, h0_2, h0_3, h0_4, h0_5, h0_6, h0_7, h0_8, h0_9, h0_10, h0_11, h0_12, h0_13)) ((oG n h0_2).bind fun o274 => (K (!o274, h0_0, h0_1, h0_2, h0_3, h0_4, h0_5, h0_6, h0_7, h0_8, h0_9, h0_10, h0_11, h0_12, h0_13))))
def pu n h0_0 h0_1 h0_2 h0_3 h0_4 h0_5 h0_6 h0_7 h0_8 h0_9 h0_10 h0_11 h0_12 h0_13 := jr n h0_0 h0_1 h0_2 h0_3 h0_4 h0_5 h0_6 h0_7 h0_8 h0_9 h0_10 h0_11 h0_12 h0_13 _ some
def rQ : PS := ⟨[], [(1, .q 0 0)], some [.c 34 [.s, .s, .n, .n, .c, .n, .n, .n, .n, .c, .n, .n, .n, .n]], [⟨.normal, [1], [(12, .b)], [.c 34 [.s, .s, .n, .n, .c, .n, .n, .n, .n, .c, .n, .n, .n, .n]], none⟩], none, none⟩
def jv (n : Nat) (h0_0 h0_1 : Str) (h0_2 h0_3 h0_4 h0_5 h0_6 h0_7 h0_8 h0_9 h0_10 h0_11 h0_12 h0_13 : Int) (R : Type) (K : W3 → Option R) : Option R := cond (h0_3 == (0 : Int)) (cond ((h0_4 == (0 : Int)) && ((h0_5 == (0 : Int)) && ((h0_6 == (0 : Int)) && ((h0_7 == (0 : Int)) && ((h0_8 == (0 : Int)) && true))))) (K (((h0_9 == (0 : Int)) && ((h0_10 == (0 : Int)) && ((h0_11 == (0 : Int)) && ((h0_12 == (0 : Int)) && ((h0_13 == (0 : Int)) && true))))), h0_0, h0_1, h0_2, h0_3, h0_4, h0_5, h0_6, h0_7, h0_8, h0_9, h0_10, h0_11, h0_12, h0_13)) (K (false, h0_0, h0_1, h0_2, h0_3, h0_4, h0_5, h0_6, h0_7, h0_8, h0_9, h0_10, h0_11, h0_12, h0_13))) (K (false, h0_0, h0_1, h0_2, h0_3, h0_4, h0_5, h0_6, h0_7, h0_8, h0_9, h0_10, h0_11, h0_12, h0_13))
def pz n h0_0 h0_1 h0_2 h0_3 h0_4 h0_5 h0_6 h0_7 h0_8 h0_9 h0_10 h0_11 h0_12 h0_13 := jv n h0_0 h0_1 h0_2 h0_3 h0_4 h0_5 h0_6 h0_7 h0_8 h0_9 h0_10 h0_11 h0_12 h0_13 _ some
def rR : PS := ⟨[], [(1, .q 0 0)], some [.c 34 [.s, .s, .n, .n, .c, .n, .n, .n, .n, .c, .n, .n, .n, .n]], [⟨.normal, [], [(2, .b)], [.c 34 [.s, .s, .n, .n, .c, .n, .n, .n, .n, .c, .n, .n, .n, .n]], none⟩], none, none⟩
theorem EG (n : Nat) : Snd ⟨Tryz.prog, 0, 49⟩ (rQ.x (pu n)) (fb Tryz.f69 9) := jC (S := rQ) (b := jr n) (.r [(2, .cl 105 (lN n)), (7, .cl 106 (wP n))]) (Zw (jr n) (by intros; unfold jr; simp only [ax])) (ai (mZ n) (ai (yQ n) trivial))
theorem EH (n : Nat) : Snd ⟨Tryz.prog, 0, 49⟩ (rR.x (pz n)) (fb Tryz.f69 75) := jC (S := rR) (b := jv n) .a (Zw (jv n) (by intros; unfold jv; simp only [ax])) trivial
def lU (n : Nat) (a0 a1 : Str) (a2 a3 a4 a5 a6 a7 a8 a9 a10 a11 a12 a13 : Int) (R : Type) (K : Bool → Option R) : Option R := (pu n a0 a1 a2 a3 a4 a5 a6 a7 a8 a9 a10 a11 a12 a13).bind fun o275 => (cond o275.1 (K false) (cond (o275.2.2.1 == ([] : Str)) ((pz n o275.2.1 o275.2.2.1 o275.2.2.2.1 o275.2.2.2.2.1 o275.2.2.2.2.2.1 o275.2.2.2.2.2.2.1 o275.2.2.2.2.2.2.2.1 o275.2.2.2.2.2.2.2.2.1 o275.2.2.2.2.2.2.2.2.2.1 o275.2.2.2.2.2.2.2.2.2.2.1 o275.2.2.2.2.2.2.2.2.2.2.2.1 o275.2.2.2.2.2.2.2.2.2.2.2.2.1 o275.2.2.2.2.2.2.2.2.2.2.2.2.2.1 o275.2.2.2.2.2.2.2.2.2.2.2.2.2.2).bind fun o276 => (K o276.1)) ((ig n o275.2.2.1).bind fun o277 => (cond o277 ((oG n o275.2.2.2.2.1).bind fun o278 => (cond o278 ((iM n o275.2.2.2.2.2.1 o275.2.2.2.2.2.2.1 o275.2.2.2.2.2.2.2.1 o275.2.2.2.2.2.2.2.2.1 o275.2.2.2.2.2.2.2.2.2.1).bind fun o279 => (cond o279 ((iM n o275.2.2.2.2.2.2.2.2.2.2.1 o275.2.2.2.2.2.2.2.2.2.2.2.1 o275.2.2.2.2.2.2.2.2.2.2.2.2.1 o275.2.2.2.2.2.2.2.2.2.2.2.2.2.1 o275.2.2.2.2.2.2.2.2.2.2.2.2.2.2).bind fun o280 => (K o280)) (K false))) (K false))) (K false)))))
def jd n a0 a1 a2 a3 a4 a5 a6 a7 a8 a9 a10 a11 a12 a13 := lU n a0 a1 a2 a3 a4 a5 a6 a7 a8 a9 a10 a11 a12 a13 _ some
def Bu : FS := ⟨[.a [.s, .s, .n, .n, .c, .n, .n, .n, .n, .c, .n, .n, .n, .n]], [], [([.b], [])]⟩
def uL (n : Nat) : FSpec := Bu.sp (jd n)
theorem xE (n : Nat) : FSound Tryz.prog 69 (uL n) := fs2 (S := Bu) (b := lU n) Tryz.func69 rfl rfl [.tmp 2] (.s .a (.s (.s (.p (rQ.x (pu n))) .a) (.s (.s .a (.s (.s (.p (rR.x (pz n))) .a) .a)) (.s (.r [(2, .cl 105 (lN n)), (6, .cl 106 (wP n)), (11, .cl 107 (q9 n)), (16, .cl 107 (q9 n))]) .a)))) (Zw (lU n) (by intros; unfold lU; simp only [ax])) (ai (EG n) (ai (EH n) (ai (mZ n) (ai (yQ n) (ai (tT n) (ai (tT n) trivial))))))
def gF (n : Nat) (x0 h0_0 h0_1 : Str) (h0_2 h0_3 h0_4 h0_5 h0_6 h0_7 h0_8 h0_9 h0_10 h0_11 h0_12 h0_13 : Int) (h1_0 : Str) (h1_1 : Int) (h1_2 : Bool) (h2_0 h2_1 : Str) (h2_2 h2_3 h2_4 h2_5 h2_6 h2_7 h2_8 h2_9 h2_10 h2_11 h2_12 h2_13 : Int) (R : Type) (K : (Bool × Str × Str × Int × Int × Int × Int × Int × Int × Int × Int × Int × Int × Int × Int × Str × Int × Bool × Str × Str × Int × Int × Int × Int × Int × Int × Int × Int × Int × Int × Int × Int) → Option R) : Option R := cond (decide (h1_1 < (x0.length : Int))) (K (!h1_2, h0_0, h0_1, h0_2, h0_3, h0_4, h0_5, h0_6, h0_7, h0_8, h0_9, h0_10, h0_11, h0_12, h0_13, h1_0, h1_1, h1_2, h2_0, h2_1, h2_2, h2_3, h2_4, h2_5, h2_6, h2_7, h2_8, h2_9, h2_10, h2_11, h2_12, h2_13)) (K (false, h0_0, h0_1, h0_2, h0_3, h0_4, h0_5, h0_6, h0_7, h0_8, h0_9, h0_10, h0_11, h0_12, h0_13, h1_0, h1_1, h1_2, h2_0, h2_1, h2_2, h2_3, h2_4, h2_5, h2_6, h2_7, h2_8, h2_9, h2_10, h2_11, h2_12, h2_13))
def kG n x0 h0_0 h0_1 h0_2 h0_3 h0_4 h0_5 h0_6 h0_7 h0_8 h0_9 h0_10 h0_11 h0_12 h0_13 h1_0 h1_1 h1_2 h2_0 h2_1 h2_2 h2_3 h2_4 h2_5 h2_6 h2_7 h2_8 h2_9 h2_10 h2_11 h2_12 h2_13 := gF n x0 h0_0 h0_1 h0_2 h0_3 h0_4 h0_5 h0_6 h0_7 h0_8 h0_9 h0_10 h0_11 h0_12 h0_13 h1_0 h1_1 h1_2 h2_0 h2_1 h2_2 h2_3 h2_4 h2_5 h2_6 h2_7 h2_8 h2_9 h2_10 h2_11 h2_12 h2_13 _ some
def rT : PS := ⟨[2, 5], [(0, .s), (4, .q 1 0)], some [.c 34 [.s, .s, .n, .n, .c, .n, .n, .n, .n, .c, .n, .n, .n, .n], .c 156 [.s, .n, .b], .c 34 [.s, .s, .n, .n, .c, .n, .n, .n, .n, .c, .n, .n, .n, .n]], [⟨.normal, [0, 2, 4, 5], [(33, .b)], [.c 34 [.s, .s, .n, .n, .c, .n, .n, .n, .n, .c, .n, .n, .n, .n], .c 156 [.s, .n, .b], .c 34 [.s, .s, .n, .n, .c, .n, .n, .n, .n, .c, .n, .n, .n, .n]], none⟩], none, none⟩
def jy (n : Nat) (h0_0 h0_1 : Str) (h0_2 h0_3 h0_4 h0_5 h0_6 h0_7 h0_8 h0_9 h0_10 h0_11 h0_12 h0_13 : Int) (h1_0 : Str) (h1_1 : Int) (h1_2 : Bool) (h2_0 h2_1 : Str) (h2_2 h2_3 h2_4 h2_5 h2_6 h2_7 h2_8 h2_9 h2_10 h2_11 h2_12 h2_13 : Int) (R : Type) (K : W9 → Option R) : Option R := (bT n h1_0 h1_1 h1_2).bind fun o250 => (cond (o250.1 != (44 : Int)) ((aJ n (24 : Int) o250.2.1 o250.2.2.1 o250.2.2.2).bind fun o251 => (K (h0_0, h0_1, h0_2, h0_3, h0_4, h0_5, h0_6, h0_7, h0_8, h0_9, h0_10, h0_11, h0_12, h0_13, o251.2.1, o251.2.2.1, o251.2.2.2, h2_0, h2_1, h2_2, IntKind.i64.wrap (0 - o251.1), h2_4, h2_5, h2_6, h2_7, h2_8, h2_9, h2_10, h2_11, h2_12, h2_13))) (K (h0_0, h0_1, h0_2, h0_3, h0_4, h0_5, h0_6, h0_7, h0_8, h0_9, h0_10, h0_11, h0_12, h0_13, o250.2.1, o250.2.2.1, o250.2.2.2, h2_0, h2_1, h2_2, h2_3, h2_4, h2_5, h2_6, h2_7, h2_8, h2_9, h2_10, h2_11, h2_12, h2_13)))
def pE n h0_0 h0_1 h0_2 h0_3 h0_4 h0_5 h0_6 h0_7 h0_8 h0_9 h0_10 h0_11 h0_12 h0_13 h1_0 h1_1 h1_2 h2_0 h2_1 h2_2 h2_3 h2_4 h2_5 h2_6 h2_7 h2_8 h2_9 h2_10 h2_11 h2_12 h2_13 := jy n h0_0 h0_1 h0_2 h0_3 h0_4 h0_5 h0_6 h0_7 h0_8 h0_9 h0_10 h0_11 h0_12 h0_13 h1_0 h1_1 h1_2 h2_0 h2_1 h2_2 h2_3 h2_4 h2_5 h2_6 h2_7 h2_8 h2_9 h2_10 h2_11 h2_12 h2_13 _ some
def rU : PS := ⟨[0, 2], [(4, .q 1 0), (5, .q 2 0)], some [.c 34 [.s, .s, .n, .n, .c, .n, .n, .n, .n, .c, .n, .n, .n, .n], .c 156 [.s, .n, .b], .c 34 [.s, .s, .n, .n, .c, .n, .n, .n, .n, .c, .n, .n, .n, .n]], [⟨.normal, [0, 2, 4, 5], [], [.c 34 [.s, .s, .n, .n, .c, .n, .n, .n, .n, .c, .n, .n, .n, .n], .c 156 [.s, .n, .b], .c 34 [.s, .s, .n, .n, .c, .n, .n, .n, .n, .c, .n, .n, .n, .n]], none⟩], none, none⟩
def gG (n : Nat) (x0 h0_0 h0_1 : Str) (h0_2 h0_3 h0_4 h0_5 h0_6 h0_7 h0_8 h0_9 h0_10 h0_11 h0_12 h0_13 : Int) (h1_0 : Str) (h1_1 : Int) (h1_2 : Bool) (h2_0 h2_1 : Str) (h2_2 h2_3 h2_4 h2_5 h2_6 h2_7 h2_8 h2_9 h2_10 h2_11 h2_12 h2_13 : Int) (R : Type) (K : W9 → Option R) : Option R := (kG n x0 h0_0 h0_1 h0_2 h0_3 h0_4 h0_5 h0_6 h0_7 h0_8 h0_9 h0_10 h0_11 h0_12 h0_13 h1_0 h1_1 h1_2 h2_0 h2_1 h2_2 h2_3 h2_4 h2_5 h2_6 h2_7 h2_8 h2_9 h2_10 h2_11 h2_12 h2_13).bind fun o248 => (cond o248.1 ((gU n o248.2.2.2.2.2.2.2.2.2.2.2.2.2.2.2.1 o248.2.2.2.2.2.2.2.2.2.2.2.2.2.2.2.2.1 o248.2.2.2.2.2.2.2.2.2.2.2.2.2.2.2.2.2.1).bind fun o249 => ((pE n o248.2.1 o248.2.2.1 o248.2.2.2.1 o248.2.2.2.2.1 o248.2.2.2.2.2.1 o248.2.2.2.2.2.2.1 o248.2.2.2.2.2.2.2.1 o248.2.2.2.2.2.2.2.2.1 o248.2.2.2.2.2.2.2.2.2.1 o248.2.2.2.2.2.2.2.2.2.2.1 o248.2.2.2.2.2.2.2.2.2.2.2.1 o248.2.2.2.2.2.2.2.2.2.2.2.2.1 o248.2.2.2.2.2.2.2.2.2.2.2.2.2.1 o248.2.2.2.2.2.2.2.2.2.2.2.2.2.2.1 o249.2.1 o249.2.2.1 o249.2.2.2 o248.2.2.2.2.2.2.2.2.2.2.2.2.2.2.2.2.2.2.1 o249.1 o248.2.2.2.2.2.2.2.2.2.2.2.2.2.2.2.2.2.2.2.2.1 (IntKind.i64.wrap (o248.2.2.2.2.2.2.2.2.2.2.2.2.2.2.2.2.2.2.2.2.1 + (3600 : Int))) o248.2.2.2.2.2.2.2.2.2.2.2.2.2.2.2.2.2.2.2.2.2.2.1 o248.2.2.2.2.2.2.2.2.2.2.2.2.2.2.2.2.2.2.2.2.2.2.2.1 o248.2.2.2.2.2.2.2.2.2.2.2.2.2.2.2.2.2.2.2.2.2.2.2.2.1 o248.2.2.2.2.2.2.2.2.2.2.2.2.2.2.2.2.2.2.2.2.2.2.2.2.2.1 o248.2.2.2.2.2.2.2.2.2.2.2.2.2.2.2.2.2.2.2.2.2.2.2.2.2.2.1 o248.2.2.2.2.2.2.2.2.2.2.2.2.2.2.2.2.2.2.2.2.2.2.2.2.2.2.2.1 o248.2.2.2.2.2.2.2.2.2.2.2.2.2.2.2.2.2.2.2.2.2.2.2.2.2.2.2.2.1 o248.2.2.2.2.2.2.2.2.2.2.2.2.2.2.2.2.2.2.2.2.2.2.2.2.2.2.2.2.2.1 o248.2.2.2.2.2.2.2.2.2.2.2.2.2.2.2.2.2.2.2.2.2.2.2.2.2.2.2.2.2.2.1 o248.2.2.2.2.2.2.2.2.2.2.2.2.2.2.2.2.2.2.2.2.2.2.2.2.2.2.2.2.2.2.2).bind fun o252 => ((bi n (44 : Int) o252.2.2.2.2.2.2.2.2.2.2.2.2.2.2.1 o252.2.2.2.2.2.2.2.2.2.2.2.2.2.2.2.1 o252.2.2.2.2.2.2.2.2.2.2.2.2.2.2.2.2.1).bind fun o253 => ((iB n o253.1 o253.2.1 o253.2.2).bind fun o269 => ((bi n (44 : Int) o269.2.2.2.2.2.1 o269.2.2.2.2.2.2.1 o269.2.2.2.2.2.2.2).bind fun o270 => ((iB n o270.1 o270.2.1 o270.2.2).bind fun o271 => (K (o252.1, o252.2.1, o252.2.2.1, o252.2.2.2.1, o252.2.2.2.2.1, o252.2.2.2.2.2.1, o252.2.2.2.2.2.2.1, o252.2.2.2.2.2.2.2.1, o252.2.2.2.2.2.2.2.2.1, o252.2.2.2.2.2.2.2.2.2.1, o252.2.2.2.2.2.2.2.2.2.2.1, o252.2.2.2.2.2.2.2.2.2.2.2.1, o252.2.2.2.2.2.2.2.2.2.2.2.2.1, o252.2.2.2.2.2.2.2.2.2.2.2.2.2.1, o271.2.2.2.2.2.1, o271.2.2.2.2.2.2.1, o271.2.2.2.2.2.2.2, o252.2.2.2.2.2.2.2.2.2.2.2.2.2.2.2.2.2.1, o252.2.2.2.2.2.2.2.2.2.2.2.2.2.2.2.2.2.2.1, o252.2.2.2.2.2.2.2.2.2.2.2.2.2.2.2.2.2.2.2.1, o252.2.2.2.2.2.2.2.2.2.2.2.2.2.2.2.2.2.2.2.2.1, o269.1, o269.2.1, o269.2.2.1, o269.2.2.2.1, o269.2.2.2.2.1, o271.1, o271.2.1, o271.2.2.1, o271.2.2.2.1, o271.2.2.2.2.1)))))))) (K (o248.2.1, o248.2.2.1, o248.2.2.2.1, o248.2.2.2.2.1, o248.2.2.2.2.2.1, o248.2.2.2.2.2.2.1, o248.2.2.2.2.2.2.2.1, o248.2.2.2.2.2.2.2.2.1, o248.2.2.2.2.2.2.2.2.2.1, o248.2.2.2.2.2.2.2.2.2.2.1, o248.2.2.2.2.2.2.2.2.2.2.2.1, o248.2.2.2.2.2.2.2.2.2.2.2.2.1, o248.2.2.2.2.2.2.2.2.2.2.2.2.2.1, o248.2.2.2.2.2.2.2.2.2.2.2.2.2.2.1, o248.2.2.2.2.2.2.2.2.2.2.2.2.2.2.2.1, o248.2.2.2.2.2.2.2.2.2.2.2.2.2.2.2.2.1, o248.2.2.2.2.2.2.2.2.2.2.2.2.2.2.2.2.2.1, o248.2.2.2.2.2.2.2.2.2.2.2.2.2.2.2.2.2.2.1, o248.2.2.2.2.2.2.2.2.2.2.2.2.2.2.2.2.2.2.2.1, o248.2.2.2.2.2.2.2.2.2.2.2.2.2.2.2.2.2.2.2.2.1, o248.2.2.2.2.2.2.2.2.2.2.2.2.2.2.2.2.2.2.2.2.2.1, o248.2.2.2.2.2.2.2.2.2.2.2.2.2.2.2.2.2.2.2.2.2.2.1, o248.2.2.2.2.2.2.2.2.2.2.2.2.2.2.2.2.2.2.2.2.2.2.2.1, o248.2.2.2.2.2.2.2.2.2.2.2.2.2.2.2.2.2.2.2.2.2.2.2.2.1, o248.2.2.2.2.2.2.2.2.2.2.2.2.2.2.2.2.2.2.2.2.2.2.2.2.2.1, o248.2.2.2.2.2.2.2.2.2.2.2.2.2.2.2.2.2.2.2.2.2.2.2.2.2.2.1, o248.2.2.2.2.2.2.2.2.2.2.2.2.2.2.2.2.2.2.2.2.2.2.2.2.2.2.2.1, o248.2.2.2.2.2.2.2.2.2.2.2.2.2.2.2.2.2.2.2.2.2.2.2.2.2.2.2.2.1, o248.2.2.2.2.2.2.2.2.2.2.2.2.2.2.2.2.2.2.2.2.2.2.2.2.2.2.2.2.2.1, o248.2.2.2.2.2.2.2.2.2.2.2.2.2.2.2.2.2.2.2.2.2.2.2.2.2.2.2.2.2.2.1, o248.2.2.2.2.2.2.2.2.2.2.2.2.2.2.2.2.2.2.2.2.2.2.2.2.2.2.2.2.2.2.2)))
def kH n x0 h0_0 h0_1 h0_2 h0_3 h0_4 h0_5 h0_6 h0_7 h0_8 h0_9 h0_10 h0_11 h0_12 h0_13 h1_0 h1_1 h1_2 h2_0 h2_1 h2_2 h2_3 h2_4 h2_5 h2_6 h2_7 h2_8 h2_9 h2_10 h2_11 h2_12 h2_13 := gG n x0 h0_0 h0_1 h0_2 h0_3 h0_4 h0_5 h0_6 h0_7 h0_8 h0_9 h0_10 h0_11 h0_12 h0_13 h1_0 h1_1 h1_2 h2_0 h2_1 h2_2 h2_3 h2_4 h2_5 h2_6 h2_7 h2_8 h2_9 h2_10 h2_11 h2_12 h2_13 _ some
def rV : PS := ⟨[2], [(0, .s), (4, .q 1 0), (5, .q 2 0)], some [.c 34 [.s, .s, .n, .n, .c, .n, .n, .n, .n, .c, .n, .n, .n, .n], .c 156 [.s, .n, .b], .c 34 [.s, .s, .n, .n, .c, .n, .n, .n, .n, .c, .n, .n, .n, .n]], [⟨.normal, [0, 2, 4, 5], [], [.c 34 [.s, .s, .n, .n, .c, .n, .n, .n, .n, .c, .n, .n, .n, .n], .c 156 [.s, .n, .b], .c 34 [.s, .s, .n, .n, .c, .n, .n, .n, .n, .c, .n, .n, .n, .n]], none⟩], none, none⟩
theorem EI (n : Nat) : Snd ⟨Tryz.prog, 0, 78⟩ (rT.x (kG n)) (fb Tryz.f56 159) := jC (S := rT) (b := gF n) .a (acd (gF n) (by intros; unfold gF; simp only [ax])) trivial
theorem EJ (n : Nat) : Snd ⟨Tryz.prog, 0, 78⟩ (rU.x (pE n)) (fb Tryz.f56 2911) := jC (S := rU) (b := jy n) (.s (.r [(1, .cl 94 (fQ n))]) (.s (.r [(1, .cl 93 (jc n))]) .a)) (acy (jy n) (by intros; unfold jy; simp only [ax])) (ai (iy n) (ai (ll n) trivial))
theorem EK (n : Nat) : Snd ⟨Tryz.prog, 0, 78⟩ (rV.x (kH n)) (fb Tryz.f56 95) := jC (S := rV) (b := gG n) (.s (.p (rT.x (kG n))) (.s (.s (.r [(1, .cl 92 (oC n))]) (.s .a (.s (.p (rU.x (pE n))) (.s (.r [(1, .cl 95 (dA n))]) (.s (.r [(1, .cl 96 (pO n))]) (.s (.r [(1, .cl 95 (dA n))]) (.r [(1, .cl 96 (pO n))]))))))) .a)) (acd (gG n) (by intros; unfold gG; simp only [ax])) (ai (EI n) (ai (sI n) (ai (EJ n) (ai (dR n) (ai (um n) (ai (dR n) (ai (um n) trivial)))))))
def lV (n : Nat) (a0 : Str) (R : Type) (K : (Str × Str × Int × Int × Int × Int × Int × Int × Int × Int × Int × Int × Int × Int × Bool) → Option R) : Option R := cond (decide ((a0.length : Int) > (100 : Int))) (K (([] : Str), ([] : Str), (0 : Int), (0 : Int), (0 : Int), (0 : Int), (0 : Int), (0 : Int), (0 : Int), (0 : Int), (0 : Int), (0 : Int), (0 : Int), (0 : Int), false)) ((gU n a0 (0 : Int) false).bind fun o231 => ((aJ n (24 : Int) o231.2.1 o231.2.2.1 o231.2.2.2).bind fun o247 => ((kH n a0 ([] : Str) ([] : Str) (0 : Int) (0 : Int) (0 : Int) (0 : Int) (0 : Int) (0 : Int) (0 : Int) (0 : Int) (0 : Int) (0 : Int) (0 : Int) (0 : Int) o247.2.1 o247.2.2.1 o247.2.2.2 o231.1 ([] : Str) (IntKind.i64.wrap (0 - o247.1)) (0 : Int) (0 : Int) (0 : Int) (0 : Int) (0 : Int) (0 : Int) (0 : Int) (0 : Int) (0 : Int) (0 : Int) (0 : Int)).bind fun o272 => (cond o272.2.2.2.2.2.2.2.2.2.2.2.2.2.2.2.2.1 (K (([] : Str), ([] : Str), (0 : Int), (0 : Int), (0 : Int), (0 : Int), (0 : Int), (0 : Int), (0 : Int), (0 : Int), (0 : Int), (0 : Int), (0 : Int), (0 : Int), false)) (cond (o272.2.2.2.2.2.2.2.2.2.2.2.2.2.2.2.1 != (a0.length : Int)) (K (([] : Str), ([] : Str), (0 : Int), (0 : Int), (0 : Int), (0 : Int), (0 : Int), (0 : Int), (0 : Int), (0 : Int), (0 : Int), (0 : Int), (0 : Int), (0 : Int), false)) ((jd n o272.2.2.2.2.2.2.2.2.2.2.2.2.2.2.2.2.2.1 o272.2.2.2.2.2.2.2.2.2.2.2.2.2.2.2.2.2.2.1 o272.2.2.2.2.2.2.2.2.2.2.2.2.2.2.2.2.2.2.2.1 o272.2.2.2.2.2.2.2.2.2.2.2.2.2.2.2.2.2.2.2.2.1 o272.2.2.2.2.2.2.2.2.2.2.2.2.2.2.2.2.2.2.2.2.2.1 o272.2.2.2.2.2.2.2.2.2.2.2.2.2.2.2.2.2.2.2.2.2.2.1 o272.2.2.2.2.2.2.2.2.2.2.2.2.2.2.2.2.2.2.2.2.2.2.2.1 o272.2.2.2.2.2.2.2.2.2.2.2.2.2.2.2.2.2.2.2.2.2.2.2.2.1 o272.2.2.2.2.2.2.2.2.2.2.2.2.2.2.2.2.2.2.2.2.2.2.2.2.2.1 o272.2.2.2.2.2.2.2.2.2.2.2.2.2.2.2.2.2.2.2.2.2.2.2.2.2.2.1 o272.2.2.2.2.2.2.2.2.2.2.2.2.2.2.2.2.2.2.2.2.2.2.2.2.2.2.2.1 o272.2.2.2.2.2.2.2.2.2.2.2.2.2.2.2.2.2.2.2.2.2.2.2.2.2.2.2.2.1 o272.2.2.2.2.2.2.2.2.2.2.2.2.2.2.2.2.2.2.2.2.2.2.2.2.2.2.2.2.2.1 o272.2.2.2.2.2.2.2.2.2.2.2.2.2.2.2.2.2.2.2.2.2.2.2.2.2.2.2.2.2.2).bind fun o281 => (cond (!o281) (K (([] : Str), ([] : Str), (0 : Int), (0 : Int), (0 : Int), (0 : Int), (0 : Int), (0 : Int), (0 : Int), (0 : Int), (0 : Int), (0 : Int), (0 : Int), (0 : Int), false)) (K (o272.2.2.2.2.2.2.2.2.2.2.2.2.2.2.2.2.2.1, o272.2.2.2.2.2.2.2.2.2.2.2.2.2.2.2.2.2.2.1, o272.2.2.2.2.2.2.2.2.2.2.2.2.2.2.2.2.2.2.2.1, o272.2.2.2.2.2.2.2.2.2.2.2.2.2.2.2.2.2.2.2.2.1, o272.2.2.2.2.2.2.2.2.2.2.2.2.2.2.2.2.2.2.2.2.2.1, o272.2.2.2.2.2.2.2.2.2.2.2.2.2.2.2.2.2.2.2.2.2.2.1, o272.2.2.2.2.2.2.2.2.2.2.2.2.2.2.2.2.2.2.2.2.2.2.2.1, o272.2.2.2.2.2.2.2.2.2.2.2.2.2.2.2.2.2.2.2.2.2.2.2.2.1, o272.2.2.2.2.2.2.2.2.2.2.2.2.2.2.2.2.2.2.2.2.2.2.2.2.2.1, o272.2.2.2.2.2.2.2.2.2.2.2.2.2.2.2.2.2.2.2.2.2.2.2.2.2.2.1, o272.2.2.2.2.2.2.2.2.2.2.2.2.2.2.2.2.2.2.2.2.2.2.2.2.2.2.2.1, o272.2.2.2.2.2.2.2.2.2.2.2.2.2.2.2.2.2.2.2.2.2.2.2.2.2.2.2.2.1, o272.2.2.2.2.2.2.2.2.2.2.2.2.2.2.2.2.2.2.2.2.2.2.2.2.2.2.2.2.2.1, o272.2.2.2.2.2.2.2.2.2.2.2.2.2.2.2.2.2.2.2.2.2.2.2.2.2.2.2.2.2.2, true)))))))))
def qj n a0 := lV n a0 _ some
def Bv : FS := ⟨[.s], [], [([.a [.s, .s, .n, .n, .c, .n, .n, .n, .n, .c, .n, .n, .n, .n], .b], [])]⟩
def zX (n : Nat) : FSpec := Bv.sp (qj n)
theorem FR (n : Nat) : FSound Tryz.prog 56 (zX n) := fs2 (S := Bv) (b := lV n) Tryz.func56 rfl rfl [.cell 2 34 14 true, .tmp 3] (.s .a (.s .a (.s .a (.s (.r [(1, .cl 92 (oC n))]) (.s (.r [(1, .cl 93 (jc n))]) (.s (.p (rV.x (kH n))) (.s (.s (.r [(15, .cl 69 (uL n))]) .a) .a))))))) (nt1 (lV n) (by intros; unfold lV; simp only [ax])) (ai (sI n) (ai (ll n) (ai (EK n) (ai (xE n) trivial))))
def kI (n : Nat) (a0 : List (List AV)) (a1 a2 : List Int) (a3 : Str) (R : Type) (K : ((List (List AV)) × (List Int) × (List Int) × Str × Str × Str × Int × Int × Int × Int × Int × Int × Int × Int × Int × Int × Int × Int × Bool × Int) → Option R) : Option R := (lM n a0 a1 a2 a3).bind fun o205 => (cond (!o205) (K (([] : List (List AV)), ([] : List Int), ([] : List Int), ([] : Str), ([] : Str), ([] : Str), (0 : Int), (0 : Int), (0 : Int), (0 : Int), (0 : Int), (0 : Int), (0 : Int), (0 : Int), (0 : Int), (0 : Int), (0 : Int), (0 : Int), false, (2 : Int))) (cond (a3 == ([] : Str)) (K (a0, a1, a2, a3, ([] : Str), ([] : Str), (0 : Int), (0 : Int), (0 : Int), (0 : Int), (0 : Int), (0 : Int), (0 : Int), (0 : Int), (0 : Int), (0 : Int), (0 : Int), (0 : Int), false, (0 : Int))) ((qj n a3).bind fun o282 => (cond (!o282.2.2.2.2.2.2.2.2.2.2.2.2.2.2) (K (([] : List (List AV)), ([] : List Int), ([] : List Int), ([] : Str), ([] : Str), ([] : Str), (0 : Int), (0 : Int), (0 : Int), (0 : Int), (0 : Int), (0 : Int), (0 : Int), (0 : Int), (0 : Int), (0 : Int), (0 : Int), (0 : Int), false, (70 : Int))) (K (a0, a1, a2, a3, o282.1, o282.2.1, o282.2.2.1, o282.2.2.2.1, o282.2.2.2.2.1, o282.2.2.2.2.2.1, o282.2.2.2.2.2.2.1, o282.2.2.2.2.2.2.2.1, o282.2.2.2.2.2.2.2.2.1, o282.2.2.2.2.2.2.2.2.2.1, o282.2.2.2.2.2.2.2.2.2.2.1, o282.2.2.2.2.2.2.2.2.2.2.2.1, o282.2.2.2.2.2.2.2.2.2.2.2.2.1, o282.2.2.2.2.2.2.2.2.2.2.2.2.2.1, true, (0 : Int)))))))
def fU n a0 a1 a2 a3 := kI n a0 a1 a2 a3 _ some
def Dq : FS := ⟨[.a [.L false 3, .l .i64, .l .i64, .s]], [], [([.a [.L false 3, .l .i64, .l .i64, .s, .s, .s, .n, .n, .c, .n, .n, .n, .n, .c, .n, .n, .n, .n, .b, .x (.bool false)], .n], [])]⟩
def Cc (n : Nat) : FSpec := Dq.sp (fU n)
theorem Ho (n : Nat) : FSound Tryz.prog 28 (Cc n) := fs2 (S := Dq) (b := kI n) Tryz.func28 rfl rfl [.cell 2 36 20 true, .tmp 3] (.s .a (.s (.s (.r [(1, .cl 55 (uH n))]) (.s (.s (.r [(1, .tk [9])]) .a) .a)) (.s .a (.s (.r [(2, .cl 56 (zX n)), (5, .tk [15])]) (.s (.s .a (.s (.s (.r [(1, .tk [23])]) .a) .a)) .a))))) (nt4 (kI n) (by intros; unfold kI; simp only [ax])) (ai (xC n) (ai (FR n) trivial))
def Bw (n : Nat) (a0 a1 : Int) (R : Type) (K : Int → Option R) : Option R := cond (a1 == 0) none (cond (decide ((Int.tmod a0 a1) < (0 : Int))) (cond (a1 == 0) none (K (IntKind.i64.wrap ((IntKind.i64.wrap (Int.tdiv a0 a1)) - (1 : Int))))) (cond (a1 == 0) none (K (IntKind.i64.wrap (Int.tdiv a0 a1)))))
def vE n a0 a1 := Bw n a0 a1 _ some
def M4 : FS := ⟨[.n, .n], [], [([.n], [])]⟩
def yR (n : Nat) : FSpec := M4.sp (vE n)
theorem xZ (n : Nat) : FSound Tryz.prog 39 (yR n) := fs2 (S := M4) (b := Bw n) Tryz.func39 rfl rfl [.tmp 4] .a (nt2 (Bw n) (by intros; unfold Bw; simp only [ax])) trivial
def vF (n : Nat) (a0 : Int) (R : Type) (K : Unit → Option R) : Option R := K ()
def zB n a0 := vF n a0 _ some
def FT : FS := ⟨[.x (.ptr none), .n], [], [([.x (.int .i64 (0 : Int))], [])]⟩
def yw (n : Nat) : FSpec := FT.sp (zB n)
theorem Bz (n : Nat) : FSound Tryz.prog 12 (yw n) := fs2 (S := FT) (b := vF n) Tryz.func12 rfl rfl [.tmp 4] (.s .a (.s .a (.s .a (.s .a (.s (.s (.p Ha) (.s (.s (.d [] [(0, .no), (3, .no), (5, .no), (6, .no)]) .a) .a)) (.s (.d [] [(0, .no), (5, .no), (6, .no), (10, .no), (11, .no), (15, .no)]) .a)))))) (nt1 (vF n) (by intros; unfold vF; simp only [ax])) (ai (xW (c := ⟨Tryz.prog, 0, 52⟩) (cd := (Tryz.f12.body.getD .skip).a2.a2.a2.a2.a1.a1)) trivial)
def BA (n : Nat) (a0 : Int) (R : Type) (K : Int → Option R) : Option R := K (Int.fdiv (IntKind.u64.wrap a0) (2 ^ 63))
def BB n a0 := BA n a0 _ some
def M5 : FS := ⟨[.n], [], [([.i .u64], [])]⟩
def Hq (n : Nat) : FSpec := M5.sp (BB n)
theorem Iw (n : Nat) : FSound Tryz.prog 75 (Hq n) := fs2 (S := M5) (b := BA n) Tryz.func75 rfl rfl [.tmp 2] .a (nt1 (BA n) (by intros; unfold BA; simp only [ax])) trivial
def yS (n : Nat) (x0 x1 : Int) (R : Type) (K : (Bool) → Option R) : Option R := cond (x1 == (0 : Int)) (K true) (cond (x1 == (-1 : Int)) (K (x0 == (-9223372036854775808 : Int))) (K false))
def GN n x0 x1 := yS n x0 x1 _ some
def Hr : PS := ⟨[], [(0, .n), (1, .n)], none, [⟨.normal, [0, 1], [(16, .b)], [], none⟩], none, none⟩
def yT (n : Nat) (x1 x5 : Int) (R : Type) (K : (Bool) → Option R) : Option R := cond (x5 != (0 : Int)) ((BB n x5).bind fun o296 => ((BB n x1).bind fun o297 => (K (o296 != o297)))) (K false)
def GQ n x1 x5 := yT n x1 x5 _ some
def Ht : PS := ⟨[4], [(1, .n), (5, .n)], none, [⟨.normal, [1, 4, 5], [(31, .b)], [], none⟩], none, none⟩
theorem OP (n : Nat) : Snd ⟨Tryz.prog, 0, 39⟩ (Hr.x (GN n)) (fb Tryz.f40 9) := jC (S := Hr) (b := yS n) .a (nt2 (yS n) (by intros; unfold yS; simp only [ax])) trivial
theorem OQ (n : Nat) : Snd ⟨Tryz.prog, 0, 39⟩ (Ht.x (GQ n)) (fb Tryz.f40 39) := jC (S := Ht) (b := yT n) (.r [(4, .cl 75 (Hq n)), (6, .cl 75 (Hq n))]) (nt2 (yT n) (by intros; unfold yT; simp only [ax])) (ai (Iw n) (ai (Iw n) trivial))
def FU (n : Nat) (a0 a1 : Int) (R : Type) (K : (Int × Int × Bool) → Option R) : Option R := (GN n a0 a1).bind fun o295 => (cond o295 (K ((0 : Int), (0 : Int), false)) (cond (a1 == 0) none (cond (a1 == 0) none ((GQ n a1 (Int.tmod a0 a1)).bind fun o298 => (cond o298 (K (IntKind.i64.wrap ((IntKind.i64.wrap (Int.tdiv a0 a1)) - (1 : Int)), IntKind.i64.wrap ((Int.tmod a0 a1) + a1), true)) (K (IntKind.i64.wrap (Int.tdiv a0 a1), Int.tmod a0 a1, true)))))))
def FV n a0 a1 := FU n a0 a1 _ some
def Qc : FS := ⟨[.n, .n], [], [([.n, .n, .b], [])]⟩
def Kc (n : Nat) : FSpec := Qc.sp (FV n)
theorem Ke (n : Nat) : FSound Tryz.prog 40 (Kc n) := fs2 (S := Qc) (b := FU n) Tryz.func40 rfl rfl [.tmp 4, .tmp 5, .tmp 6] (.s .a (.s (.s (.p (Hr.x (GN n))) .a) (.s .a (.s (.s (.p (Ht.x (GQ n))) .a) .a)))) (nt2 (FU n) (by intros; unfold FU; simp only [ax])) (ai (OP n) (ai (OQ n) trivial))
def xG (n : Nat) (a0 : Int) (R : Type) (K : Int → Option R) : Option R := K (IntKind.i64.wrap (Int.tdiv (IntKind.i64.wrap ((IntKind.i64.wrap ((153 : Int) * (Int.tmod (IntKind.i64.wrap (a0 + (9 : Int))) (12 : Int)))) + (2 : Int))) (5 : Int)))
def FW n a0 := xG n a0 _ some
def Kg : FS := ⟨[.n], [], [([.n], [])]⟩
def Jw (n : Nat) : FSpec := Kg.sp (FW n)
theorem L6 (n : Nat) : FSound Tryz.prog 110 (Jw n) := fs2 (S := Kg) (b := xG n) Tryz.func110 rfl rfl [.tmp 2] .a (nt1 (xG n) (by intros; unfold xG; simp only [ax])) trivial
def wy (n : Nat) (x3 h0_0 h0_1 h0_2 : Int) (R : Type) (K : (Int × Int × Int × Int) → Option R) : Option R := cond (decide (h0_1 ≤ (2 : Int))) (K (IntKind.i64.wrap (x3 - (1 : Int)), h0_0, h0_1, h0_2)) (K (x3, h0_0, h0_1, h0_2))
def CY n x3 h0_0 h0_1 h0_2 := wy n x3 h0_0 h0_1 h0_2 _ some
def D5 : PS := ⟨[], [(1, .q 0 0), (3, .n)], some [.c 45 [.n, .n, .n]], [⟨.normal, [1], [(3, .n)], [.c 45 [.n, .n, .n]], none⟩], none, none⟩
theorem M6 (n : Nat) : Snd ⟨Tryz.prog, 0, 37⟩ (D5.x (CY n)) (fb Tryz.f76 11) := jC (S := D5) (b := wy n) .a (nt4 (wy n) (by intros; unfold wy; simp only [ax])) trivial
def BC (n : Nat) (a0 a1 a2 : Int) (R : Type) (K : Int → Option R) : Option R := (CY n a0 a0 a1 a2).bind fun o300 => ((FW n o300.2.2.1).bind fun o301 => (K (IntKind.i64.wrap ((IntKind.i64.wrap ((IntKind.i64.wrap ((IntKind.i64.wrap ((IntKind.i64.wrap ((IntKind.i64.wrap ((IntKind.i64.wrap (Int.tdiv o300.1 (400 : Int))) * (146097 : Int))) + (IntKind.i64.wrap ((IntKind.i64.wrap ((IntKind.i64.wrap ((Int.tmod o300.1 (400 : Int)) * (365 : Int))) + (IntKind.i64.wrap (Int.tdiv (Int.tmod o300.1 (400 : Int)) (4 : Int))))) - (IntKind.i64.wrap (Int.tdiv (Int.tmod o300.1 (400 : Int)) (100 : Int))))))) + o301)) + o300.2.2.2)) - (1 : Int))) - (719468 : Int)))))
def vG n a0 a1 a2 := BC n a0 a1 a2 _ some
def M7 : FS := ⟨[.a [.n, .n, .n]], [], [([.n], [])]⟩
def yU (n : Nat) : FSpec := M7.sp (vG n)
theorem yc (n : Nat) : FSound Tryz.prog 76 (yU n) := fs2 (S := M7) (b := BC n) Tryz.func76 rfl rfl [.tmp 2] (.s .a (.s .a (.s (.p (D5.x (CY n))) (.s .a (.s (.d [(7, .cl 110 (Jw n))] [(5, .peek [0] [0]), (6, .peek [0] [0]), (7, .part []), (9, .peek [0] [0]), (10, .peek [0] [0])]) .a))))) (nt3 (BC n) (by intros; unfold BC; simp only [ax])) (ai (M6 n) (ai (L6 n) trivial))
def yV (n : Nat) (x0 : Int) (R : Type) (K : (Bool) → Option R) : Option R := (vG n (1 : Int) (1 : Int) (1 : Int)).bind fun o302 => (cond (decide (x0 < o302)) (K true) ((vG n (9999 : Int) (12 : Int) (31 : Int)).bind fun o303 => (K (decide (x0 > o303)))))
def GR n x0 := yV n x0 _ some
def Hu : PS := ⟨[2], [(0, .n)], none, [⟨.normal, [0, 2], [(18, .b)], [], none⟩], none, none⟩
theorem OU (n : Nat) : Snd ⟨Tryz.prog, 0, 74⟩ (Hu.x (GR n)) (fb Tryz.f41 9) := jC (S := Hu) (b := yV n) (.r [(2, .cl 76 (yU n)), (7, .cl 76 (yU n))]) (nt1 (yV n) (by intros; unfold yV; simp only [ax])) (ai (yc n) (ai (yc n) trivial))
def FX (n : Nat) (a0 : Int) (R : Type) (K : (Int × Int × Int × Int) → Option R) : Option R := (GR n a0).bind fun o304 => (cond o304 (K ((0 : Int), (0 : Int), (0 : Int), (6 : Int))) (cond (decide ((IntKind.i64.wrap ((Int.tmod (IntKind.i64.wrap ((IntKind.i64.wrap (Int.tdiv (IntKind.i64.wrap ((IntKind.i64.wrap ((5 : Int) * (IntKind.i64.wrap ((Int.tmod (IntKind.i64.wrap (a0 + (719468 : Int))) (146097 : Int)) - (IntKind.i64.wrap ((IntKind.i64.wrap ((IntKind.i64.wrap ((365 : Int) * (IntKind.i64.wrap (Int.tdiv (IntKind.i64.wrap ((IntKind.i64.wrap ((IntKind.i64.wrap ((Int.tmod (IntKind.i64.wrap (a0 + (719468 : Int))) (146097 : Int)) - (IntKind.i64.wrap (Int.tdiv (Int.tmod (IntKind.i64.wrap (a0 + (719468 : Int))) (146097 : Int)) (1460 : Int))))) + (IntKind.i64.wrap (Int.tdiv (Int.tmod (IntKind.i64.wrap (a0 + (719468 : Int))) (146097 : Int)) (36524 : Int))))) - (IntKind.i64.wrap (Int.tdiv (Int.tmod (IntKind.i64.wrap (a0 + (719468 : Int))) (146097 : Int)) (146096 : Int))))) (365 : Int))))) + (IntKind.i64.wrap (Int.tdiv (IntKind.i64.wrap (Int.tdiv (IntKind.i64.wrap ((IntKind.i64.wrap ((IntKind.i64.wrap ((Int.tmod (IntKind.i64.wrap (a0 + (719468 : Int))) (146097 : Int)) - (IntKind.i64.wrap (Int.tdiv (Int.tmod (IntKind.i64.wrap (a0 + (719468 : Int))) (146097 : Int)) (1460 : Int))))) + (IntKind.i64.wrap (Int.tdiv (Int.tmod (IntKind.i64.wrap (a0 + (719468 : Int))) (146097 : Int)) (36524 : Int))))) - (IntKind.i64.wrap (Int.tdiv (Int.tmod (IntKind.i64.wrap (a0 + (719468 : Int))) (146097 : Int)) (146096 : Int))))) (365 : Int))) (4 : Int))))) - (IntKind.i64.wrap (Int.tdiv (IntKind.i64.wrap (Int.tdiv (IntKind.i64.wrap ((IntKind.i64.wrap ((IntKind.i64.wrap ((Int.tmod (IntKind.i64.wrap (a0 + (719468 : Int))) (146097 : Int)) - (IntKind.i64.wrap (Int.tdiv (Int.tmod (IntKind.i64.wrap (a0 + (719468 : Int))) (146097 : Int)) (1460 : Int))))) + (IntKind.i64.wrap (Int.tdiv (Int.tmod (IntKind.i64.wrap (a0 + (719468 : Int))) (146097 : Int)) (36524 : Int))))) - (IntKind.i64.wrap (Int.tdiv (Int.tmod (IntKind.i64.wrap (a0 + (719468 : Int))) (146097 : Int)) (146096 : Int))))) (365 : Int))) (100 : Int))))))))) + (2 : Int))) (153 : Int))) + (2 : Int))) (12 : Int)) + (1 : Int))) ≤ (2 : Int))) (K (IntKind.i64.wrap ((IntKind.i64.wrap ((IntKind.i64.wrap ((IntKind.i64.wrap (Int.tdiv (IntKind.i64.wrap (a0 + (719468 : Int))) (146097 : Int))) * (400 : Int))) + (IntKind.i64.wrap (Int.tdiv (IntKind.i64.wrap ((IntKind.i64.wrap ((IntKind.i64.wrap ((Int.tmod (IntKind.i64.wrap (a0 + (719468 : Int))) (146097 : Int)) - (IntKind.i64.wrap (Int.tdiv (Int.tmod (IntKind.i64.wrap (a0 + (719468 : Int))) (146097 : Int)) (1460 : Int))))) + (IntKind.i64.wrap (Int.tdiv (Int.tmod (IntKind.i64.wrap (a0 + (719468 : Int))) (146097 : Int)) (36524 : Int))))) - (IntKind.i64.wrap (Int.tdiv (Int.tmod (IntKind.i64.wrap (a0 + (719468 : Int))) (146097 : Int)) (146096 : Int))))) (365 : Int))))) + (1 : Int)), IntKind.i64.wrap ((Int.tmod (IntKind.i64.wrap ((IntKind.i64.wrap (Int.tdiv (IntKind.i64.wrap ((IntKind.i64.wrap ((5 : Int) * (IntKind.i64.wrap ((Int.tmod (IntKind.i64.wrap (a0 + (719468 : Int))) (146097 : Int)) - (IntKind.i64.wrap ((IntKind.i64.wrap ((IntKind.i64.wrap ((365 : Int) * (IntKind.i64.wrap (Int.tdiv (IntKind.i64.wrap ((IntKind.i64.wrap ((IntKind.i64.wrap ((Int.tmod (IntKind.i64.wrap (a0 + (719468 : Int))) (146097 : Int)) - (IntKind.i64.wrap (Int.tdiv (Int.tmod (IntKind.i64.wrap (a0 + (719468 : Int))) (146097 : Int)) (1460 : Int))))) + (IntKind.i64.wrap (Int.tdiv (Int.tmod (IntKind.i64.wrap (a0 + (719468 : Int))) (146097 : Int)) (36524 : Int))))) - (IntKind.i64.wrap (Int.tdiv (Int.tmod (IntKind.i64.wrap (a0 + (719468 : Int))) (146097 : Int)) (146096 : Int))))) (365 : Int))))) + (IntKind.i64.wrap (Int.tdiv (IntKind.i64.wrap (Int.tdiv (IntKind.i64.wrap ((IntKind.i64.wrap ((IntKind.i64.wrap ((Int.tmod (IntKind.i64.wrap (a0 + (719468 : Int))) (146097 : Int)) - (IntKind.i64.wrap (Int.tdiv (Int.tmod (IntKind.i64.wrap (a0 + (719468 : Int))) (146097 : Int)) (1460 : Int))))) + (IntKind.i64.wrap (Int.tdiv (Int.tmod (IntKind.i64.wrap (a0 + (719468 : Int))) (146097 : Int)) (36524 : Int))))) - (IntKind.i64.wrap (Int.tdiv (Int.tmod (IntKind.i64.wrap (a0 + (719468 : Int))) (146097 : Int)) (146096 : Int))))) (365 : Int))) (4 : Int))))) - (IntKind.i64.wrap (Int.tdiv (IntKind.i64.wrap (Int.tdiv (IntKind.i64.wrap ((IntKind.i64.wrap ((IntKind.i64.wrap ((Int.tmod (IntKind.i64.wrap (a0 + (719468 : Int))) (146097 : Int)) - (IntKind.i64.wrap (Int.tdiv (Int.tmod (IntKind.i64.wrap (a0 + (719468 : Int))) (146097 : Int)) (1460 : Int))))) + (IntKind.i64.wrap (Int.tdiv (Int.tmod (IntKind.i64.wrap (a0 + (719468 : Int))) (146097 : Int)) (36524 : Int))))) - (IntKind.i64.wrap (Int.tdiv (Int.tmod (IntKind.i64.wrap (a0 + (719468 : Int))) (146097 : Int)) (146096 : Int))))) (365 : Int))) (100 : Int))))))))) + (2 : Int))) (153 : Int))) + (2 : Int))) (12 : Int)) + (1 : Int)), IntKind.i64.wrap ((IntKind.i64.wrap ((IntKind.i64.wrap ((Int.tmod (IntKind.i64.wrap (a0 + (719468 : Int))) (146097 : Int)) - (IntKind.i64.wrap ((IntKind.i64.wrap ((IntKind.i64.wrap ((365 : Int) * (IntKind.i64.wrap (Int.tdiv (IntKind.i64.wrap ((IntKind.i64.wrap ((IntKind.i64.wrap ((Int.tmod (IntKind.i64.wrap (a0 + (719468 : Int))) (146097 : Int)) - (IntKind.i64.wrap (Int.tdiv (Int.tmod (IntKind.i64.wrap (a0 + (719468 : Int))) (146097 : Int)) (1460 : Int))))) + (IntKind.i64.wrap (Int.tdiv (Int.tmod (IntKind.i64.wrap (a0 + (719468 : Int))) (146097 : Int)) (36524 : Int))))) - (IntKind.i64.wrap (Int.tdiv (Int.tmod (IntKind.i64.wrap (a0 + (719468 : Int))) (146097 : Int)) (146096 : Int))))) (365 : Int))))) + (IntKind.i64.wrap (Int.tdiv (IntKind.i64.wrap (Int.tdiv (IntKind.i64.wrap ((IntKind.i64.wrap ((IntKind.i64.wrap ((Int.tmod (IntKind.i64.wrap (a0 + (719468 : Int))) (146097 : Int)) - (IntKind.i64.wrap (Int.tdiv (Int.tmod (IntKind.i64.wrap (a0 + (719468 : Int))) (146097 : Int)) (1460 : Int))))) + (IntKind.i64.wrap (Int.tdiv (Int.tmod (IntKind.i64.wrap (a0 + (719468 : Int))) (146097 : Int)) (36524 : Int))))) - (IntKind.i64.wrap (Int.tdiv (Int.tmod (IntKind.i64.wrap (a0 + (719468 : Int))) (146097 : Int)) (146096 : Int))))) (365 : Int))) (4 : Int))))) - (IntKind.i64.wrap (Int.tdiv (IntKind.i64.wrap (Int.tdiv (IntKind.i64.wrap ((IntKind.i64.wrap ((IntKind.i64.wrap ((Int.tmod (IntKind.i64.wrap (a0 + (719468 : Int))) (146097 : Int)) - (IntKind.i64.wrap (Int.tdiv (Int.tmod (IntKind.i64.wrap (a0 + (719468 : Int))) (146097 : Int)) (1460 : Int))))) + (IntKind.i64.wrap (Int.tdiv (Int.tmod (IntKind.i64.wrap (a0 + (719468 : Int))) (146097 : Int)) (36524 : Int))))) - (IntKind.i64.wrap (Int.tdiv (Int.tmod (IntKind.i64.wrap (a0 + (719468 : Int))) (146097 : Int)) (146096 : Int))))) (365 : Int))) (100 : Int))))))) - (IntKind.i64.wrap (Int.tdiv (IntKind.i64.wrap ((IntKind.i64.wrap ((153 : Int) * (IntKind.i64.wrap (Int.tdiv (IntKind.i64.wrap ((IntKind.i64.wrap ((5 : Int) * (IntKind.i64.wrap ((Int.tmod (IntKind.i64.wrap (a0 + (719468 : Int))) (146097 : Int)) - (IntKind.i64.wrap ((IntKind.i64.wrap ((IntKind.i64.wrap ((365 : Int) * (IntKind.i64.wrap (Int.tdiv (IntKind.i64.wrap ((IntKind.i64.wrap ((IntKind.i64.wrap ((Int.tmod (IntKind.i64.wrap (a0 + (719468 : Int))) (146097 : Int)) - (IntKind.i64.wrap (Int.tdiv (Int.tmod (IntKind.i64.wrap (a0 + (719468 : Int))) (146097 : Int)) (1460 : Int))))) + (IntKind.i64.wrap (Int.tdiv (Int.tmod (IntKind.i64.wrap (a0 + (719468 : Int))) (146097 : Int)) (36524 : Int))))) - (IntKind.i64.wrap (Int.tdiv (Int.tmod (IntKind.i64.wrap (a0 + (719468 : Int))) (146097 : Int)) (146096 : Int))))) (365 : Int))))) + (IntKind.i64.wrap (Int.tdiv (IntKind.i64.wrap (Int.tdiv (IntKind.i64.wrap ((IntKind.i64.wrap ((IntKind.i64.wrap ((Int.tmod (IntKind.i64.wrap (a0 + (719468 : Int))) (146097 : Int)) - (IntKind.i64.wrap (Int.tdiv (Int.tmod (IntKind.i64.wrap (a0 + (719468 : Int))) (146097 : Int)) (1460 : Int))))) + (IntKind.i64.wrap (Int.tdiv (Int.tmod (IntKind.i64.wrap (a0 + (719468 : Int))) (146097 : Int)) (36524 : Int))))) - (IntKind.i64.wrap (Int.tdiv (Int.tmod (IntKind.i64.wrap (a0 + (719468 : Int))) (146097 : Int)) (146096 : Int))))) (365 : Int))) (4 : Int))))) - (IntKind.i64.wrap (Int.tdiv (IntKind.i64.wrap (Int.tdiv (IntKind.i64.wrap ((IntKind.i64.wrap ((IntKind.i64.wrap ((Int.tmod (IntKind.i64.wrap (a0 + (719468 : Int))) (146097 : Int)) - (IntKind.i64.wrap (Int.tdiv (Int.tmod (IntKind.i64.wrap (a0 + (719468 : Int))) (146097 : Int)) (1460 : Int))))) + (IntKind.i64.wrap (Int.tdiv (Int.tmod (IntKind.i64.wrap (a0 + (719468 : Int))) (146097 : Int)) (36524 : Int))))) - (IntKind.i64.wrap (Int.tdiv (Int.tmod (IntKind.i64.wrap (a0 + (719468 : Int))) (146097 : Int)) (146096 : Int))))) (365 : Int))) (100 : Int))))))))) + (2 : Int))) (153 : Int))))) + (2 : Int))) (5 : Int))))) + (1 : Int)), (0 : Int))) (K (IntKind.i64.wrap ((IntKind.i64.wrap ((IntKind.i64.wrap (Int.tdiv (IntKind.i64.wrap (a0 + (719468 : Int))) (146097 : Int))) * (400 : Int))) + (IntKind.i64.wrap (Int.tdiv (IntKind.i64.wrap ((IntKind.i64.wrap ((IntKind.i64.wrap ((Int.tmod (IntKind.i64.wrap (a0 + (719468 : Int))) (146097 : Int)) - (IntKind.i64.wrap (Int.tdiv (Int.tmod (IntKind.i64.wrap (a0 + (719468 : Int))) (146097 : Int)) (1460 : Int))))) + (IntKind.i64.wrap (Int.tdiv (Int.tmod (IntKind.i64.wrap (a0 + (719468 : Int))) (146097 : Int)) (36524 : Int))))) - (IntKind.i64.wrap (Int.tdiv (Int.tmod (IntKind.i64.wrap (a0 + (719468 : Int))) (146097 : Int)) (146096 : Int))))) (365 : Int)))), IntKind.i64.wrap ((Int.tmod (IntKind.i64.wrap ((IntKind.i64.wrap (Int.tdiv (IntKind.i64.wrap ((IntKind.i64.wrap ((5 : Int) * (IntKind.i64.wrap ((Int.tmod (IntKind.i64.wrap (a0 + (719468 : Int))) (146097 : Int)) - (IntKind.i64.wrap ((IntKind.i64.wrap ((IntKind.i64.wrap ((365 : Int) * (IntKind.i64.wrap (Int.tdiv (IntKind.i64.wrap ((IntKind.i64.wrap ((IntKind.i64.wrap ((Int.tmod (IntKind.i64.wrap (a0 + (719468 : Int))) (146097 : Int)) - (IntKind.i64.wrap (Int.tdiv (Int.tmod (IntKind.i64.wrap (a0 + (719468 : Int))) (146097 : Int)) (1460 : Int))))) + (IntKind.i64.wrap (Int.tdiv (Int.tmod (IntKind.i64.wrap (a0 + (719468 : Int))) (146097 : Int)) (36524 : Int))))) - (IntKind.i64.wrap (Int.tdiv (Int.tmod (IntKind.i64.wrap (a0 + (719468 : Int))) (146097 : Int)) (146096 : Int))))) (365 : Int))))) + (IntKind.i64.wrap (Int.tdiv (IntKind.i64.wrap (Int.tdiv (IntKind.i64.wrap ((IntKind.i64.wrap ((IntKind.i64.wrap ((Int.tmod (IntKind.i64.wrap (a0 + (719468 : Int))) (146097 : Int)) - (IntKind.i64.wrap (Int.tdiv (Int.tmod (IntKind.i64.wrap (a0 + (719468 : Int))) (146097 : Int)) (1460 : Int))))) + (IntKind.i64.wrap (Int.tdiv (Int.tmod (IntKind.i64.wrap (a0 + (719468 : Int))) (146097 : Int)) (36524 : Int))))) - (IntKind.i64.wrap (Int.tdiv (Int.tmod (IntKind.i64.wrap (a0 + (719468 : Int))) (146097 : Int)) (146096 : Int))))) (365 : Int))) (4 : Int))))) - (IntKind.i64.wrap (Int.tdiv (IntKind.i64.wrap (Int.tdiv (IntKind.i64.wrap ((IntKind.i64.wrap ((IntKind.i64.wrap ((Int.tmod (IntKind.i64.wrap (a0 + (719468 : Int))) (146097 : Int)) - (IntKind.i64.wrap (Int.tdiv (Int.tmod (IntKind.i64.wrap (a0 + (719468 : Int))) (146097 : Int)) (1460 : Int))))) + (IntKind.i64.wrap (Int.tdiv (Int.tmod (IntKind.i64.wrap (a0 + (719468 : Int))) (146097 : Int)) (36524 : Int))))) - (IntKind.i64.wrap (Int.tdiv (Int.tmod (IntKind.i64.wrap (a0 + (719468 : Int))) (146097 : Int)) (146096 : Int))))) (365 : Int))) (100 : Int))))))))) + (2 : Int))) (153 : Int))) + (2 : Int))) (12 : Int)) + (1 : Int)), IntKind.i64.wrap ((IntKind.i64.wrap ((IntKind.i64.wrap ((Int.tmod (IntKind.i64.wrap (a0 + (719468 : Int))) (146097 : Int)) - (IntKind.i64.wrap ((IntKind.i64.wrap ((IntKind.i64.wrap ((365 : Int) * (IntKind.i64.wrap (Int.tdiv (IntKind.i64.wrap ((IntKind.i64.wrap ((IntKind.i64.wrap ((Int.tmod (IntKind.i64.wrap (a0 + (719468 : Int))) (146097 : Int)) - (IntKind.i64.wrap (Int.tdiv (Int.tmod (IntKind.i64.wrap (a0 + (719468 : Int))) (146097 : Int)) (1460 : Int))))) + (IntKind.i64.wrap (Int.tdiv (Int.tmod (IntKind.i64.wrap (a0 + (719468 : Int))) (146097 : Int)) (36524 : Int))))) - (IntKind.i64.wrap (Int.tdiv (Int.tmod (IntKind.i64.wrap (a0 + (719468 : Int))) (146097 : Int)) (146096 : Int))))) (365 : Int))))) + (IntKind.i64.wrap (Int.tdiv (IntKind.i64.wrap (Int.tdiv (IntKind.i64.wrap ((IntKind.i64.wrap ((IntKind.i64.wrap ((Int.tmod (IntKind.i64.wrap (a0 + (719468 : Int))) (146097 : Int)) - (IntKind.i64.wrap (Int.tdiv (Int.tmod (IntKind.i64.wrap (a0 + (719468 : Int))) (146097 : Int)) (1460 : Int))))) + (IntKind.i64.wrap (Int.tdiv (Int.tmod (IntKind.i64.wrap (a0 + (719468 : Int))) (146097 : Int)) (36524 : Int))))) - (IntKind.i64.wrap (Int.tdiv (Int.tmod (IntKind.i64.wrap (a0 + (719468 : Int))) (146097 : Int)) (146096 : Int))))) (365 : Int))) (4 : Int))))) - (IntKind.i64.wrap (Int.tdiv (IntKind.i64.wrap (Int.tdiv (IntKind.i64.wrap ((IntKind.i64.wrap ((IntKind.i64.wrap ((Int.tmod (IntKind.i64.wrap (a0 + (719468 : Int))) (146097 : Int)) - (IntKind.i64.wrap (Int.tdiv (Int.tmod (IntKind.i64.wrap (a0 + (719468 : Int))) (146097 : Int)) (1460 : Int))))) + (IntKind.i64.wrap (Int.tdiv (Int.tmod (IntKind.i64.wrap (a0 + (719468 : Int))) (146097 : Int)) (36524 : Int))))) - (IntKind.i64.wrap (Int.tdiv (Int.tmod (IntKind.i64.wrap (a0 + (719468 : Int))) (146097 : Int)) (146096 : Int))))) (365 : Int))) (100 : Int))))))) - (IntKind.i64.wrap (Int.tdiv (IntKind.i64.wrap ((IntKind.i64.wrap ((153 : Int) * (IntKind.i64.wrap (Int.tdiv (IntKind.i64.wrap ((IntKind.i64.wrap ((5 : Int) * (IntKind.i64.wrap ((Int.tmod (IntKind.i64.wrap (a0 + (719468 : Int))) (146097 : Int)) - (IntKind.i64.wrap ((IntKind.i64.wrap ((IntKind.i64.wrap ((365 : Int) * (IntKind.i64.wrap (Int.tdiv (IntKind.i64.wrap ((IntKind.i64.wrap ((IntKind.i64.wrap ((Int.tmod (IntKind.i64.wrap (a0 + (719468 : Int))) (146097 : Int)) - (IntKind.i64.wrap (Int.tdiv (Int.tmod (IntKind.i64.wrap (a0 + (719468 : Int))) (146097 : Int)) (1460 : Int))))) + (IntKind.i64.wrap (Int.tdiv (Int.tmod (IntKind.i64.wrap (a0 + (719468 : Int))) (146097 : Int)) (36524 : Int))))) - (IntKind.i64.wrap (Int.tdiv (Int.tmod (IntKind.i64.wrap (a0 + (719468 : Int))) (146097 : Int)) (146096 : Int))))) (365 : Int))))) + (IntKind.i64.wrap (Int.tdiv (IntKind.i64.wrap (Int.tdiv (IntKind.i64.wrap ((IntKind.i64.wrap ((IntKind.i64.wrap ((Int.tmod (IntKind.i64.wrap (a0 + (719468 : Int))) (146097 : Int)) - (IntKind.i64.wrap (Int.tdiv (Int.tmod (IntKind.i64.wrap (a0 + (719468 : Int))) (146097 : Int)) (1460 : Int))))) + (IntKind.i64.wrap (Int.tdiv (Int.tmod (IntKind.i64.wrap (a0 + (719468 : Int))) (146097 : Int)) (36524 : Int))))) - (IntKind.i64.wrap (Int.tdiv (Int.tmod (IntKind.i64.wrap (a0 + (719468 : Int))) (146097 : Int)) (146096 : Int))))) (365 : Int))) (4 : Int))))) - (IntKind.i64.wrap (Int.tdiv (IntKind.i64.wrap (Int.tdiv (IntKind.i64.wrap ((IntKind.i64.wrap ((IntKind.i64.wrap ((Int.tmod (IntKind.i64.wrap (a0 + (719468 : Int))) (146097 : Int)) - (IntKind.i64.wrap (Int.tdiv (Int.tmod (IntKind.i64.wrap (a0 + (719468 : Int))) (146097 : Int)) (1460 : Int))))) + (IntKind.i64.wrap (Int.tdiv (Int.tmod (IntKind.i64.wrap (a0 + (719468 : Int))) (146097 : Int)) (36524 : Int))))) - (IntKind.i64.wrap (Int.tdiv (Int.tmod (IntKind.i64.wrap (a0 + (719468 : Int))) (146097 : Int)) (146096 : Int))))) (365 : Int))) (100 : Int))))))))) + (2 : Int))) (153 : Int))))) + (2 : Int))) (5 : Int))))) + (1 : Int)), (0 : Int)))))
def CE n a0 := FX n a0 _ some
def Qd : FS := ⟨[.n], [], [([.a [.n, .n, .n], .n], [])]⟩
def Kh (n : Nat) : FSpec := Qd.sp (CE n)
theorem Ki (n : Nat) : FSound Tryz.prog 41 (Kh n) := fs2 (S := Qd) (b := FX n) Tryz.func41 rfl rfl [.cell 2 45 3 true, .tmp 3] (.s .a (.s (.s (.p (Hu.x (GR n))) .a) .a)) (nt1 (FX n) (by intros; unfold FX; simp only [ax])) (ai (OU n) trivial)
def wU (n : Nat) (a0 : Int) (R : Type) (K : W11 → Option R) : Option R := (FV n a0 (86400000000 : Int)).bind fun o299 => ((CE n o299.1).bind fun o305 => (cond (o305.2.2.2 != (0 : Int)) (K ((0 : Int), (0 : Int), (0 : Int), (0 : Int), (0 : Int), (0 : Int), (0 : Int), o305.2.2.2)) (K (o305.1, o305.2.1, o305.2.2.1, IntKind.i64.wrap (Int.tdiv (IntKind.i64.wrap (Int.tdiv o299.2.1 (1000000 : Int))) (3600 : Int)), Int.tmod (IntKind.i64.wrap (Int.tdiv (IntKind.i64.wrap (Int.tdiv o299.2.1 (1000000 : Int))) (60 : Int))) (60 : Int), Int.tmod (IntKind.i64.wrap (Int.tdiv o299.2.1 (1000000 : Int))) (60 : Int), Int.tmod o299.2.1 (1000000 : Int), (0 : Int)))))
def GU n a0 := wU n a0 _ some
def GV : FS := ⟨[.n], [], [([.a [.n, .n, .n, .n, .n, .n, .n], .n], [])]⟩
def FY (n : Nat) : FSpec := GV.sp (GU n)
theorem JH (n : Nat) : FSound Tryz.prog 18 (FY n) := fs2 (S := GV) (b := wU n) Tryz.func18 rfl rfl [.cell 2 47 7 true, .tmp 3] (.s .a (.s (.r [(1, .cl 40 (Kc n)), (5, .tk [10])]) (.s (.r [(1, .cl 41 (Kh n)), (4, .tk [16])]) .a))) (nt1 (wU n) (by intros; unfold wU; simp only [ax])) (ai (Ke n) (ai (Ki n) trivial))
def wV (n : Nat) (a0 : Int) (R : Type) (K : W11 → Option R) : Option R := (vE n a0 (1000000 : Int)).bind fun o293 => ((zB n o293).bind fun o294 => (cond ((decide ((IntKind.i64.wrap (a0 + (IntKind.i64.wrap ((0 : Int) * (1000000 : Int))))) < a0)) == (decide ((IntKind.i64.wrap ((0 : Int) * (1000000 : Int))) < (0 : Int)))) ((GU n (IntKind.i64.wrap (a0 + (IntKind.i64.wrap ((0 : Int) * (1000000 : Int)))))).bind fun o306 => (K (o306.1, o306.2.1, o306.2.2.1, o306.2.2.2.1, o306.2.2.2.2.1, o306.2.2.2.2.2.1, o306.2.2.2.2.2.2.1, o306.2.2.2.2.2.2.2))) (K ((0 : Int), (0 : Int), (0 : Int), (0 : Int), (0 : Int), (0 : Int), (0 : Int), (6 : Int)))))
def BD n a0 := wV n a0 _ some
def GX : FS := ⟨[.x (.ptr none), .n], [], [([.a [.n, .n, .n, .n, .n, .n, .n], .n], [])]⟩
def FZ (n : Nat) : FSpec := GX.sp (BD n)
theorem JI (n : Nat) : FSound Tryz.prog 17 (FZ n) := fs2 (S := GX) (b := wV n) Tryz.func17 rfl rfl [.cell 4 47 7 true, .tmp 5] (.s .a (.s (.r [(2, .cl 39 (yR n)), (3, .cl 12 (yw n))]) (.s (.s .a (.s .a (.s (.s (.r [(1, .cl 18 (FY n)), (3, .tk [23])]) .a) .a))) .a))) (nt1 (wV n) (by intros; unfold wV; simp only [ax])) (ai (xZ n) (ai (Bz n) (ai (JH n) trivial)))
def BF (n : Nat) (a0 : Int) (R : Type) (K : Bool → Option R) : Option R := cond ((Int.tmod a0 (4 : Int)) == (0 : Int)) (cond ((Int.tmod a0 (100 : Int)) != (0 : Int)) (K true) (K ((Int.tmod a0 (400 : Int)) == (0 : Int)))) (K false)
def EL n a0 := BF n a0 _ some
def M8 : FS := ⟨[.n], [], [([.b], [])]⟩
def Li (n : Nat) : FSpec := M8.sp (EL n)
theorem NT (n : Nat) : FSound Tryz.prog 154 (Li n) := fs2 (S := M8) (b := BF n) Tryz.func154 rfl rfl [.tmp 2] .a (nt1 (BF n) (by intros; unfold BF; simp only [ax])) trivial
def si (n : Nat) (x0 x1 : Int) (R : Type) (K : (Bool) → Option R) : Option R := cond (decide (x0 < (1 : Int))) (K true) (cond (decide (x0 > (9999 : Int))) (K true) (cond (decide (x1 < (1 : Int))) (K true) (K (decide (x1 > (12 : Int))))))
def tV n x0 x1 := si n x0 x1 _ some
def D6 : PS := ⟨[], [(0, .n), (1, .n)], none, [⟨.normal, [0, 1], [(18, .b)], [], none⟩], none, none⟩
theorem M9 (n : Nat) : Snd ⟨Tryz.prog, 0, 29⟩ (D6.x (tV n)) (fb Tryz.f111 9) := jC (S := D6) (b := si n) .a (nt2 (si n) (by intros; unfold si; simp only [ax])) trivial
def yf (n : Nat) (a0 a1 : Int) (R : Type) (K : Int → Option R) : Option R := (tV n a0 a1).bind fun o311 => (cond o311 (K (0 : Int)) (cond (a1 == (2 : Int)) ((EL n a0).bind fun o312 => (cond o312 (K (29 : Int)) (cond (decide (0 ≤ (IntKind.i64.wrap (a1 - (1 : Int))))) ((([.int .i64 (31 : Int), .int .i64 (28 : Int), .int .i64 (31 : Int), .int .i64 (30 : Int), .int .i64 (31 : Int), .int .i64 (30 : Int), .int .i64 (31 : Int), .int .i64 (31 : Int), .int .i64 (30 : Int), .int .i64 (31 : Int), .int .i64 (30 : Int), .int .i64 (31 : Int)] : List AV)[(IntKind.i64.wrap (a1 - (1 : Int))).toNat]?).bind fun c313 => (xS .i64 c313 fun x314 => K x314)) none))) (cond (decide (0 ≤ (IntKind.i64.wrap (a1 - (1 : Int))))) ((([.int .i64 (31 : Int), .int .i64 (28 : Int), .int .i64 (31 : Int), .int .i64 (30 : Int), .int .i64 (31 : Int), .int .i64 (30 : Int), .int .i64 (31 : Int), .int .i64 (31 : Int), .int .i64 (30 : Int), .int .i64 (31 : Int), .int .i64 (30 : Int), .int .i64 (31 : Int)] : List AV)[(IntKind.i64.wrap (a1 - (1 : Int))).toNat]?).bind fun c315 => (xS .i64 c315 fun x316 => K x316)) none)))
def sJ n a0 a1 := yf n a0 a1 _ some
def Na : FS := ⟨[.n, .n], [], [([.n], [])]⟩
def CZ (n : Nat) : FSpec := Na.sp (sJ n)
theorem CF (n : Nat) : FSound Tryz.prog 111 (CZ n) := fs2 (S := Na) (b := yf n) Tryz.func111 rfl rfl [.tmp 4] (.s .a (.s (.s (.p (D6.x (tV n))) .a) (.s (.s (.r [(4, .cl 154 (Li n))]) .a) .a))) (nt2 (yf n) (by intros; unfold yf; simp only [ax])) (ai (M9 n) (ai (NT n) trivial))
def wK (n : Nat) (a0 a1 a2 : Int) (R : Type) (K : Bool → Option R) : Option R := cond (decide (a2 ≥ (1 : Int))) ((sJ n a0 a1).bind fun o317 => (K (decide (a2 ≤ o317)))) (K false)
def tX n a0 a1 a2 := wK n a0 a1 a2 _ some
def Lj : FS := ⟨[.a [.n, .n, .n]], [], [([.b], [])]⟩
def F3 (n : Nat) : FSpec := Lj.sp (tX n)
theorem GY (n : Nat) : FSound Tryz.prog 78 (F3 n) := fs2 (S := Lj) (b := wK n) Tryz.func78 rfl rfl [.tmp 2] (.s .a (.s (.d [(10, .cl 111 (CZ n))] [(0, .peek [0] [0]), (1, .peek [0] [0]), (4, .peek [0] [0]), (5, .peek [0] [0]), (6, .peek [0] [0]), (7, .peek [0] [0]), (8, .peek [0] [0]), (9, .peek [0] [0]), (10, .part [])]) .a)) (nt3 (wK n) (by intros; unfold wK; simp only [ax])) (ai (CF n) trivial)
def yg (n : Nat) (a0 a1 a2 : Int) (R : Type) (K : (Int × Int) → Option R) : Option R := (tX n a0 a1 a2).bind fun o318 => (cond (!o318) (K ((0 : Int), (30 : Int))) ((vG n a0 a1 a2).bind fun o319 => (K (o319, (0 : Int)))))
def vH n a0 a1 a2 := yg n a0 a1 a2 _ some
def Nb : FS := ⟨[.a [.n, .n, .n]], [], [([.n, .n], [])]⟩
def C8 (n : Nat) : FSpec := Nb.sp (vH n)
theorem CG (n : Nat) : FSound Tryz.prog 43 (C8 n) := fs2 (S := Nb) (b := yg n) Tryz.func43 rfl rfl [.tmp 2, .tmp 3] (.s .a (.s (.s (.r [(1, .cl 78 (F3 n))]) .a) (.s (.r [(1, .cl 76 (yU n))]) .a))) (nt3 (yg n) (by intros; unfold yg; simp only [ax])) (ai (GY n) (ai (yc n) trivial))
def uM (n : Nat) (x5 h0_0 h0_1 h0_2 h0_3 h0_4 h0_5 h0_6 : Int) (R : Type) (K : W12 → Option R) : Option R := cond (x5 != (0 : Int)) (K (true, h0_0, h0_1, h0_2, h0_3, h0_4, h0_5, h0_6)) (cond (decide ((G8 false h0_3 [h0_4, h0_5, h0_6]) < (0 : Int))) (K (true, h0_0, h0_1, h0_2, h0_3, h0_4, h0_5, h0_6)) (cond (decide (h0_3 > (23 : Int))) (K (true, h0_0, h0_1, h0_2, h0_3, h0_4, h0_5, h0_6)) (cond (decide ((if h0_4 < h0_5 then h0_5 else h0_4) > (59 : Int))) (K (true, h0_0, h0_1, h0_2, h0_3, h0_4, h0_5, h0_6)) (K (decide (h0_6 ≥ (1000000 : Int)), h0_0, h0_1, h0_2, h0_3, h0_4, h0_5, h0_6)))))
def BG n x5 h0_0 h0_1 h0_2 h0_3 h0_4 h0_5 h0_6 := uM n x5 h0_0 h0_1 h0_2 h0_3 h0_4 h0_5 h0_6 _ some
def CJ : PS := ⟨[4], [(1, .q 0 0), (5, .n)], some [.c 47 [.n, .n, .n, .n, .n, .n, .n]], [⟨.normal, [1, 4], [(43, .b)], [.c 47 [.n, .n, .n, .n, .n, .n, .n]], none⟩], none, none⟩
theorem L8 (n : Nat) : Snd ⟨Tryz.prog, 0, 61⟩ (CJ.x (BG n)) (fb Tryz.f21 19) := jC (S := CJ) (b := uM n) .a (nt8 (uM n) (by intros; unfold uM; simp only [ax])) trivial
def yX (n : Nat) (a0 a1 a2 a3 a4 a5 a6 : Int) (R : Type) (K : (Int × Int) → Option R) : Option R := (vH n a0 a1 a2).bind fun o320 => ((BG n o320.2 a0 a1 a2 a3 a4 a5 a6).bind fun o321 => (cond o321.1 (K ((0 : Int), (30 : Int))) (K (IntKind.i64.wrap ((IntKind.i64.wrap ((IntKind.i64.wrap (o320.1 * (86400000000 : Int))) + (IntKind.i64.wrap ((IntKind.i64.wrap ((IntKind.i64.wrap ((IntKind.i64.wrap ((IntKind.i64.wrap (o321.2.2.2.2.1 * (60 : Int))) + o321.2.2.2.2.2.1)) * (60 : Int))) + o321.2.2.2.2.2.2.1)) * (1000000 : Int))))) + o321.2.2.2.2.2.2.2), (0 : Int)))))
def cK n a0 a1 a2 a3 a4 a5 a6 := yX n a0 a1 a2 a3 a4 a5 a6 _ some
def Ll : FS := ⟨[.a [.n, .n, .n, .n, .n, .n, .n]], [], [([.n, .n], [])]⟩
def xH (n : Nat) : FSpec := Ll.sp (cK n)
theorem wW (n : Nat) : FSound Tryz.prog 21 (xH n) := fs2 (S := Ll) (b := yX n) Tryz.func21 rfl rfl [.tmp 2, .tmp 3] (.s .a (.s (.r [(2, .cl 43 (C8 n)), (5, .tk [6])]) (.s (.s (.p (CJ.x (BG n))) .a) .a))) (nt7 (yX n) (by intros; unfold yX; simp only [ax])) (ai (CG n) (ai (L8 n) trivial))
def uB (n : Nat) (R : Type) (K : (List Int) → Option R) : Option R := K ([(0 : Int)] : List Int)
def yz n := uB n _ some
def Er : FS := ⟨[.x (.ptr none)], [], [([.I true .i64], [])]⟩
def Dr (n : Nat) : FSpec := Er.sp (yz n)
theorem Iy (n : Nat) : FSound Tryz.prog 15 (Dr n) := fs2 (S := Er) (b := uB n) Tryz.func15 rfl rfl [.tmp 2] (.s .a (.s (.s .a (.s (.s (.r [(1, .tk [8])]) .a) .a)) (.s .a (.s (.s .a (.u (.p Ha))) .a)))) (nt0 (uB n) (by intros; unfold uB; simp only [ax])) (ai (xW (c := ⟨Tryz.prog, 0, 57⟩) (cd := (Tryz.f15.body.getD .skip).a2.a2.a2.a1.a2.a1)) trivial)
def dM (n : Nat) (a0 : List Int) (R : Type) (K : (List Int) → Option R) : Option R := K a0
def dN n a0 := dM n a0 _ some
def yl : FS := ⟨[.l .i64], [], [([.f (.func 77) [] [.q 0 0]], [.c 24 [.l .i64]])]⟩
def lW (n : Nat) : FSpec := yl.sp (dN n)
theorem oH (n : Nat) : FSound Tryz.prog 42 (lW n) := fs2 (S := yl) (b := dM n) Tryz.func42 rfl rfl [.tmp 2] .a (nt1 (dM n) (by intros; unfold dM; simp only [ax])) trivial
def kJ (n : Nat) (a0 a1 h0 : Int) (h1 : List Int) (R : Type) (K : (Int × (List Int)) → Option R) : Option R := cond (decide ((IntKind.i64.wrap (h0 - (IntKind.i64.wrap (a1 * (1000000 : Int))))) ≥ (-10000000000000000 : Int))) (cond (decide ((IntKind.i64.wrap (h0 - (IntKind.i64.wrap (a1 * (1000000 : Int))))) ≤ (100000000000000000 : Int))) ((vE n (IntKind.i64.wrap (h0 - (IntKind.i64.wrap (a1 * (1000000 : Int))))) (1000000 : Int)).bind fun o326 => ((zB n o326).bind fun o327 => (cond ((0 : Int) == a1) (cond (decide ((h1.length + ([IntKind.i64.wrap (h0 - (IntKind.i64.wrap (a1 * (1000000 : Int))))] : List Int).length) * 8 ≤ 140737488355328)) (K (h0, h1 ++ ([IntKind.i64.wrap (h0 - (IntKind.i64.wrap (a1 * (1000000 : Int))))] : List Int))) none) (K (h0, h1))))) (K (h0, h1))) (K (h0, h1))
def kK n a0 a1 h0 h1 := kJ n a0 a1 h0 h1 _ some
def zY : FS := ⟨[.n, .n, .q 0 0, .q 1 0, .q 2 0], [.c 27 [.x (.ptr none)], .c 2 [.n], .c 23 [.I true .i64]], [([.x (.bool true)], [.c 27 [.x (.ptr none)], .c 2 [.n], .c 23 [.I true .i64]])]⟩
def yY (n : Nat) : FSpec := zY.sp (kK n)
theorem EM (n : Nat) : RSound Tryz.prog 0 (yY n) := Vu (S := zY) (b := kJ n) (nt := 48) (ps := [23, 24]) (sl := [2, 6, 8]) (ca := (Tryz.f20.body.getD .skip).a2.a2.a2.a2.a1.a2.a1.ra) (cb := (Tryz.f20.body.getD .skip).a2.a2.a2.a2.a1.a2.a1.rb) (by kernel_rfl) .a (.u (.s .a (.s (.d [(9, .cl 39 (yR n)), (10, .cl 12 (yw n))] [(7, .peek [0] [0]), (9, .part []), (10, .part [])]) (.s (.r [(0, .lt), (3, .tk [43]), (4, .tk [46])]) .a)))) (nt4 (kJ n) (by intros; unfold kJ; simp only [ax])) trivial (ai (xZ n) (ai (Bz n) trivial))
def je (n : Nat) (x3 : Int) (h1_0 : List Int) (h3_0 : Int) (h4_0 : List Int) (R : Type) (A_ : Int → (List Int) → Int → (List Int) → Option R) (K : ((List Int) × Int × (List Int)) → Option R) : Option R := cond (decide (x3 ≥ (0 : Int))) (cond (decide (0 ≤ x3)) ((h1_0[x3.toNat]?).bind fun e325 => ((kK n x3 e325 h3_0 h4_0).bind fun o328 => (A_ (IntKind.i64.wrap (x3 - (1 : Int))) h1_0 o328.1 o328.2))) none) (K (h1_0, h3_0, h4_0))
def bU (n : Nat) : Nat → Int → (List Int) → Int → (List Int) → Option (((List Int) × Int × (List Int)))
 | 0, _, _, _, _ => none
 | m + 1, x3, h1_0, h3_0, h4_0 => je n x3 h1_0 h3_0 h4_0 _ (bU n m) some
def nU : PS := ⟨[], [(0, .x (.yld 0)), (1, .q 1 0), (3, .n)], some [.lp 0 [.q 2 0, .q 3 0, .q 4 0], .c 24 [.l .i64], .c 27 [.x (.ptr none)], .c 2 [.n], .c 23 [.I true .i64]], [⟨(.exit 0), [], [], [.lp 0 [.q 2 0, .q 3 0, .q 4 0], .c 24 [.l .i64], .c 27 [.x (.ptr none)], .c 2 [.n], .c 23 [.I true .i64]], none⟩], none, none⟩
theorem BH (n : Nat) : Snd ⟨Tryz.prog, 5, 19⟩ (nU.x (bU n n)) (fb Tryz.f77 5) := lC (S := nU) (b := je n) (f := bU n) n (.s .a (.s (.u (.s (.r [(6, .cy 0 (yY n))]) .a)) .a)) (nl4 (je n) (by intros; unfold je; simp only [ax])) (ai (EM n) trivial)
def iC (n : Nat) (h0 : List Int) (h1 : Int) (h2 : List Int) (R : Type) (K : ((List Int) × Int × (List Int)) → Option R) : Option R := (bU n n (IntKind.i64.wrap ((h0.length : Int) - (1 : Int))) h0 h1 h2).bind fun o329 => (K (o329.1, o329.2.1, o329.2.2))
def ql n h0 h1 h2 := iC n h0 h1 h2 _ some
def wX : FS := ⟨[.x (.yld 0), .q 1 0], [.lp 0 [.q 2 0, .q 3 0, .q 4 0], .c 24 [.l .i64], .c 27 [.x (.ptr none)], .c 2 [.n], .c 23 [.I true .i64]], [([], [.lp 0 [.q 2 0, .q 3 0, .q 4 0], .c 24 [.l .i64], .c 27 [.x (.ptr none)], .c 2 [.n], .c 23 [.I true .i64]])]⟩
def wz (n : Nat) : FSpec := wX.sp (ql n)
theorem BU (n : Nat) : FSound Tryz.prog 77 (wz n) := fs2 (S := wX) (b := iC n) Tryz.func77 rfl rfl [] (.s .a (.u (.p (nU.x (bU n n))))) (nt3 (iC n) (by intros; unfold iC; simp only [ax])) (ai (BH n) trivial)
def kL (n : Nat) (a0 a1 a2 a3 a4 a5 a6 : Int) (R : Type) (K : ((List Int) × Int) → Option R) : Option R := (cK n a0 a1 a2 a3 a4 a5 a6).bind fun o322 => (cond (o322.2 != (0 : Int)) (K (([] : List Int), o322.2)) ((yz n ).bind fun o323 => ((dN n o323).bind fun o324 => ((ql n o324 o322.1 ([] : List Int)).bind fun o330 => (K (o330.2.2, (0 : Int)))))))
def fV n a0 a1 a2 a3 a4 a5 a6 := kL n a0 a1 a2 a3 a4 a5 a6 _ some
def xI : FS := ⟨[.x (.ptr none), .a [.n, .n, .n, .n, .n, .n, .n]], [], [([.I true .i64, .n], [])]⟩
def Ce (n : Nat) : FSpec := xI.sp (fV n)
theorem Hw (n : Nat) : FSound Tryz.prog 20 (Ce n) := fs2 (S := xI) (b := kL n) Tryz.func20 rfl rfl [.tmp 4, .tmp 5] (.s .a (.s (.r [(1, .cl 21 (xH n)), (4, .tk [12])]) (.s .a (.s .a (.s (.s (.r [(1, .cl 15 (Dr n)), (2, .cl 42 (lW n))]) (.u (.p (NA 0 [2, 6, 8] (wz n) 77 (.tmp 22))))) (.s (.r [(0, .lt), (1, .tk [47])]) .a)))))) (nt7 (kL n) (by intros; unfold kL; simp only [ax])) (ai (wW n) (ai (Iy n) (ai (oH n) (ai (LM (c := ⟨Tryz.prog, 0, 48⟩) (key := 0) (ts := [2, 6, 8]) (u := 22) (cd := (Tryz.f20.body.getD .skip).a2.a2.a2.a2.a1.a2.a1) (by kernel_rfl) (by kernel_rfl) (BU n)) trivial))))
def bW (n : Nat) (h0 : List (Int × Int)) (R : Type) (K : (List (Int × Int)) → Option R) : Option R := K h0
def bX n h0 := bW n h0 _ some
def uo : FS := ⟨[.x (.map (some 0))], [.mI], [([.f (.func 74) [] [.q 1 0]], [.mI, .c 92 [.x (.map (some 0))]])]⟩
def lX (n : Nat) : FSpec := uo.sp (bX n)
theorem qy (n : Nat) : FSound Tryz.prog 38 (lX n) := fs2 (S := uo) (b := bW n) Tryz.func38 rfl rfl [.tmp 2] .a (nt1 (bW n) (by intros; unfold bW; simp only [ax])) trivial
def xJ (n : Nat) : FSpec := LW 74
theorem zZ (n : Nat) : FSound Tryz.prog 37 (xJ n) := QI
def gY (n : Nat) (x15 : List (List AV)) (x16 x17 : Int) (h0_0 : List (List AV)) (h0_1 h0_2 : List Int) (h0_3 h1_0 h1_1 : Str) (h1_2 h1_3 h1_4 h1_5 h1_6 h1_7 h1_8 h1_9 h1_10 h1_11 h1_12 h1_13 : Int) (h2_0 : List (Int × Int)) (R : Type) (A_ : (List (List AV)) → Int → Int → (List (List AV)) → (List Int) → (List Int) → Str → Str → Str → Int → Int → Int → Int → Int → Int → Int → Int → Int → Int → Int → Int → (List (Int × Int)) → Option R) (K : W13 → Option R) : Option R := cond (decide (x17 < x16)) (cond (decide (0 ≤ x17)) ((x15[x17.toNat]?).bind fun e348 => (unc e348 fun c349 r350 => xS .i64 c349 fun x351 => unc r350 fun c352 r353 => yC c352 fun x354 => unc r353 fun c355 r356 => yD c355 fun x357 => unn r356 (cond (sj x351 && sj (1 : Int)) (A_ x15 x16 (IntKind.i64.wrap (x17 + (1 : Int))) h0_0 h0_1 h0_2 h0_3 h1_0 h1_1 h1_2 h1_3 h1_4 h1_5 h1_6 h1_7 h1_8 h1_9 h1_10 h1_11 h1_12 h1_13 (zo h2_0 x351 (1 : Int))) none))) none) (K (h0_0, h0_1, h0_2, h0_3, h1_0, h1_1, h1_2, h1_3, h1_4, h1_5, h1_6, h1_7, h1_8, h1_9, h1_10, h1_11, h1_12, h1_13, h2_0))
def dW (n : Nat) : Nat → (List (List AV)) → Int → Int → (List (List AV)) → (List Int) → (List Int) → Str → Str → Str → Int → Int → Int → Int → Int → Int → Int → Int → Int → Int → Int → Int → (List (Int × Int)) → Option (W13)
 | 0, _, _, _, _, _, _, _, _, _, _, _, _, _, _, _, _, _, _, _, _, _, _ => none
 | m + 1, x15, x16, x17, h0_0, h0_1, h0_2, h0_3, h1_0, h1_1, h1_2, h1_3, h1_4, h1_5, h1_6, h1_7, h1_8, h1_9, h1_10, h1_11, h1_12, h1_13, h2_0 => gY n x15 x16 x17 h0_0 h0_1 h0_2 h0_3 h1_0 h1_1 h1_2 h1_3 h1_4 h1_5 h1_6 h1_7 h1_8 h1_9 h1_10 h1_11 h1_12 h1_13 h2_0 _ (dW n m) some
def tY : PS := ⟨[], [(0, .q 0 0), (3, .x (.map (some 2))), (15, .L false 3), (16, .n), (17, .n)], some [.c 82 [.L false 3, .l .i64, .l .i64, .s, .q 1 0], .c 87 [.s, .s, .n, .n, .c, .n, .n, .n, .n, .c, .n, .n, .n, .n], .mI], [⟨(.exit 0), [0, 3], [], [.c 82 [.L false 3, .l .i64, .l .i64, .s, .q 1 0], .c 87 [.s, .s, .n, .n, .c, .n, .n, .n, .n, .c, .n, .n, .n, .n], .mI], none⟩], (some 2), (some 2)⟩
theorem F4 (n : Nat) : Snd ⟨Tryz.prog, 2, 57⟩ (tY.x (dW n n)) (fb Tryz.f15 87) := lC (S := tY) (b := gY n) (f := dW n) n (.s .a (.s .a (.s (.u (.s .a (.r [(3, .mi)]))) .a))) (aaK (gY n) (by intros; unfold gY; simp only [ax])) trivial
def nH (n : Nat) (h0 : List (List AV)) (h1 h2 : List Int) (h3 h4 h5 : Str) (h6 h7 h8 h9 h10 h11 h12 h13 h14 h15 h16 h17 : Int) (R : Type) (K : ((List Int) × (List (List AV)) × (List Int) × (List Int) × Str × Str × Str × Int × Int × Int × Int × Int × Int × Int × Int × Int × Int × Int × Int) → Option R) : Option R := (dW n n h0 (h0.length : Int) (0 : Int) h0 h1 h2 h3 h4 h5 h6 h7 h8 h9 h10 h11 h12 h13 h14 h15 h16 h17 ([] : List (Int × Int))).bind fun o358 => (cond (sj o358.2.2.2.2.2.2.1 && sj (1 : Int)) (cond (!(o358.2.2.2.2.2.1 == ([] : Str))) (cond (sj o358.2.2.2.2.2.2.2.1 && sj (1 : Int)) ((bX n (zo (zo o358.2.2.2.2.2.2.2.2.2.2.2.2.2.2.2.2.2.2 o358.2.2.2.2.2.2.1 (1 : Int)) o358.2.2.2.2.2.2.2.1 (1 : Int))).bind fun o359 => (cond (decide (o359.length * 8 ≤ 140737488355328) && o359.all fun p => sj p.1 && sj p.2) (K ((o359.map (·.1)).mergeSort leI, o358.1, o358.2.1, o358.2.2.1, o358.2.2.2.1, o358.2.2.2.2.1, o358.2.2.2.2.2.1, o358.2.2.2.2.2.2.1, o358.2.2.2.2.2.2.2.1, o358.2.2.2.2.2.2.2.2.1, o358.2.2.2.2.2.2.2.2.2.1, o358.2.2.2.2.2.2.2.2.2.2.1, o358.2.2.2.2.2.2.2.2.2.2.2.1, o358.2.2.2.2.2.2.2.2.2.2.2.2.1, o358.2.2.2.2.2.2.2.2.2.2.2.2.2.1, o358.2.2.2.2.2.2.2.2.2.2.2.2.2.2.1, o358.2.2.2.2.2.2.2.2.2.2.2.2.2.2.2.1, o358.2.2.2.2.2.2.2.2.2.2.2.2.2.2.2.2.1, o358.2.2.2.2.2.2.2.2.2.2.2.2.2.2.2.2.2.1)) none)) none) ((bX n (zo o358.2.2.2.2.2.2.2.2.2.2.2.2.2.2.2.2.2.2 o358.2.2.2.2.2.2.1 (1 : Int))).bind fun o360 => (cond (decide (o360.length * 8 ≤ 140737488355328) && o360.all fun p => sj p.1 && sj p.2) (K ((o360.map (·.1)).mergeSort leI, o358.1, o358.2.1, o358.2.2.1, o358.2.2.2.1, o358.2.2.2.2.1, o358.2.2.2.2.2.1, o358.2.2.2.2.2.2.1, o358.2.2.2.2.2.2.2.1, o358.2.2.2.2.2.2.2.2.1, o358.2.2.2.2.2.2.2.2.2.1, o358.2.2.2.2.2.2.2.2.2.2.1, o358.2.2.2.2.2.2.2.2.2.2.2.1, o358.2.2.2.2.2.2.2.2.2.2.2.2.1, o358.2.2.2.2.2.2.2.2.2.2.2.2.2.1, o358.2.2.2.2.2.2.2.2.2.2.2.2.2.2.1, o358.2.2.2.2.2.2.2.2.2.2.2.2.2.2.2.1, o358.2.2.2.2.2.2.2.2.2.2.2.2.2.2.2.2.1, o358.2.2.2.2.2.2.2.2.2.2.2.2.2.2.2.2.2.1)) none))) none)
def rf n h0 h1 h2 h3 h4 h5 h6 h7 h8 h9 h10 h11 h12 h13 h14 h15 h16 h17 := nH n h0 h1 h2 h3 h4 h5 h6 h7 h8 h9 h10 h11 h12 h13 h14 h15 h16 h17 _ some
def Cf : FS := ⟨[.q 0 0], [.c 82 [.L false 3, .l .i64, .l .i64, .s, .q 1 0], .c 87 [.s, .s, .n, .n, .c, .n, .n, .n, .n, .c, .n, .n, .n, .n]], [([.I true .i64], [.c 82 [.L false 3, .l .i64, .l .i64, .s, .q 1 0], .c 87 [.s, .s, .n, .n, .c, .n, .n, .n, .n, .c, .n, .n, .n, .n]])]⟩
def BI (n : Nat) : FSpec := Cf.sp (rf n)
theorem Gv (n : Nat) : FSound Tryz.prog 15 (BI n) := fs2 (S := Cf) (b := nH n) Tryz.func15 rfl rfl [.tmp 2] (.s .a (.s .a (.s (.r [(0, .mi)]) (.s (.s .a (.u (.p (tY.x (dW n n))))) (.s (.s .a (.s (.s (.r [(8, .mi)]) (.s .a (.s (.r [(8, .mi)]) .a))) .a)) (.s (.r [(1, .cl 38 (lX n)), (2, .cl 37 (xJ n)), (3, .tk [56])]) .a)))))) (acv (nH n) (by intros; unfold nH; simp only [ax])) (ai (F4 n) (ai (qy n) (ai (zZ n) trivial)))
def lY (n : Nat) (h0 : Int) (h1 : List (List AV)) (h2 h3 : List Int) (h4 h5 h6 : Str) (h7 h8 h9 h10 h11 h12 h13 h14 h15 h16 h17 h18 : Int) (R : Type) (K : (Bool × Int × (List (List AV)) × (List Int) × (List Int) × Str × Str × Str × Int × Int × Int × Int × Int × Int × Int × Int × Int × Int × Int × Int) → Option R) : Option R := cond ((h2.length : Int) == (0 : Int)) (K (true, h0, h1, h2, h3, h4, h5, h6, h7, h8, h9, h10, h11, h12, h13, h14, h15, h16, h17, h18)) (cond (decide (0 ≤ (IntKind.i64.wrap ((h2.length : Int) - (1 : Int))))) ((h2[(IntKind.i64.wrap ((h2.length : Int) - (1 : Int))).toNat]?).bind fun e365 => (K (decide (e365 ≤ h0), h0, h1, h2, h3, h4, h5, h6, h7, h8, h9, h10, h11, h12, h13, h14, h15, h16, h17, h18))) none)
def qm n h0 h1 h2 h3 h4 h5 h6 h7 h8 h9 h10 h11 h12 h13 h14 h15 h16 h17 h18 := lY n h0 h1 h2 h3 h4 h5 h6 h7 h8 h9 h10 h11 h12 h13 h14 h15 h16 h17 h18 _ some
def BJ : FS := ⟨[.q 0 0, .q 1 0], [.c 27 [.q 2 0], .c 2 [.n], .c 82 [.L false 3, .l .i64, .l .i64, .s, .q 3 0], .c 87 [.s, .s, .n, .n, .c, .n, .n, .n, .n, .c, .n, .n, .n, .n]], [([.b], [.c 27 [.q 2 0], .c 2 [.n], .c 82 [.L false 3, .l .i64, .l .i64, .s, .q 3 0], .c 87 [.s, .s, .n, .n, .c, .n, .n, .n, .n, .c, .n, .n, .n, .n]])]⟩
def Aa (n : Nat) : FSpec := BJ.sp (qm n)
theorem F5 (n : Nat) : FSound Tryz.prog 32 (Aa n) := fs2 (S := BJ) (b := lY n) Tryz.func32 rfl rfl [.tmp 2] (.s .a (.s (.d [] [(1, .look), (2, .look), (3, .look), (4, .look), (10, .look), (11, .look), (12, .look), (13, .look), (16, .look), (17, .look), (18, .look), (19, .look), (24, .no)]) .a)) (aaL (lY n) (by intros; unfold lY; simp only [ax])) trivial
def xK (n : Nat) (a0 a1 : Int) (R : Type) (K : Int → Option R) : Option R := cond (a1 == 0) none (cond (decide ((Int.tmod a0 a1) < (0 : Int))) (cond (a1 == 0) none (K (IntKind.i64.wrap ((IntKind.i64.wrap (Int.tdiv a0 a1)) - (1 : Int))))) (cond (a1 == 0) none (K (IntKind.i64.wrap (Int.tdiv a0 a1)))))
def xL n a0 a1 := xK n a0 a1 _ some
def Kj : FS := ⟨[.n, .n], [], [([.n], [])]⟩
def Jy (n : Nat) : FSpec := Kj.sp (xL n)
theorem L9 (n : Nat) : FSound Tryz.prog 62 (Jy n) := fs2 (S := Kj) (b := xK n) Tryz.func62 rfl rfl [.tmp 4] .a (nt2 (xK n) (by intros; unfold xK; simp only [ax])) trivial
def wB (n : Nat) (a0 a1 a2 : Int) (R : Type) (K : Int → Option R) : Option R := (tX n a0 a1 a2).bind fun o376 => (cond (!o376) (K (0 : Int)) ((vG n a0 a1 a2).bind fun o377 => ((FV n (IntKind.i64.wrap (o377 + (3 : Int))) (7 : Int)).bind fun o378 => (K (IntKind.i64.wrap (o378.2.1 + (1 : Int)))))))
def zn n a0 a1 a2 := wB n a0 a1 a2 _ some
def Jz : FS := ⟨[.a [.n, .n, .n]], [], [([.n], [])]⟩
def Iz (n : Nat) : FSpec := Jz.sp (zn n)
theorem K5 (n : Nat) : FSound Tryz.prog 143 (Iz n) := fs2 (S := Jz) (b := wB n) Tryz.func143 rfl rfl [.tmp 2] (.s .a (.s (.s (.r [(1, .cl 78 (F3 n))]) .a) (.s (.r [(1, .cl 76 (yU n)), (3, .cl 40 (Kc n)), (7, .tk [9])]) .a))) (nt3 (wB n) (by intros; unfold wB; simp only [ax])) (ai (GY n) (ai (yc n) (ai (Ke n) trivial)))
def oI (n : Nat) (x7 : Bool) (h0_0 h0_1 h0_2 h0_3 h0_4 : Int) (R : Type) (K : W2 → Option R) : Option R := cond x7 (K (decide (h0_3 > (59 : Int)), h0_0, h0_1, h0_2, h0_3, h0_4)) (K (false, h0_0, h0_1, h0_2, h0_3, h0_4))
def vI n x7 h0_0 h0_1 h0_2 h0_3 h0_4 := oI n x7 h0_0 h0_1 h0_2 h0_3 h0_4 _ some
def xM : PS := ⟨[5], [(2, .q 0 0), (7, .b)], some [.c 85 [.c, .n, .n, .n, .n]], [⟨.normal, [2, 5], [(35, .b)], [.c 85 [.c, .n, .n, .n, .n]], none⟩], none, none⟩
def kM (n : Nat) (x9 x10 : Int) (R : Type) (A_ : Int → Int → Option R) (K : (Int) → Option R) : Option R := cond (decide (x9 ≥ x10)) (A_ (IntKind.i64.wrap (x9 - (7 : Int))) x10) (K x9)
def iN (n : Nat) : Nat → Int → Int → Option ((Int))
 | 0, _, _ => none
 | m + 1, x9, x10 => kM n x9 x10 _ (iN n m) some
def xN : PS := ⟨[8], [(9, .n), (10, .n)], none, [⟨(.exit 1), [8], [(9, .n)], [], none⟩], none, none⟩
theorem Jc (n : Nat) : Snd ⟨Tryz.prog, 0, 80⟩ (xM.x (vI n)) (fb Tryz.f104 4567) := jC (S := xM) (b := oI n) .a (nt6 (oI n) (by intros; unfold oI; simp only [ax])) trivial
theorem Jd (n : Nat) : Snd ⟨Tryz.prog, 0, 80⟩ (xN.x (iN n n)) (fb Tryz.f104 1407) := lC (S := xN) (b := kM n) (f := iN n) n .a (nl2 (kM n) (by intros; unfold kM; simp only [ax])) trivial
def sK (n : Nat) (a0 a1 a2 a3 a4 a5 : Int) (R : Type) (K : Int → Option R) : Option R := (vH n a5 (1 : Int) (1 : Int)).bind fun o373 => ((sJ n a5 (2 : Int)).bind fun o374 => (cond (a0 == (2 : Int)) (K (IntKind.i64.wrap (o373.1 + a3))) (cond (a0 == (1 : Int)) ((vI n (o374 == (29 : Int)) a0 a1 a2 a3 a4).bind fun o375 => (cond o375.1 (K (IntKind.i64.wrap (o373.1 + o375.2.2.2.2.1))) (K (IntKind.i64.wrap ((IntKind.i64.wrap (o373.1 + o375.2.2.2.2.1)) - (1 : Int)))))) ((zn n a5 a1 (1 : Int)).bind fun o379 => ((sJ n a5 a1).bind fun o380 => ((iN n n (IntKind.i64.wrap ((Int.tmod (IntKind.i64.wrap ((IntKind.i64.wrap (a3 + (7 : Int))) - (Int.tmod o379 (7 : Int)))) (7 : Int)) + (IntKind.i64.wrap ((7 : Int) * (IntKind.i64.wrap (a2 - (1 : Int))))))) o380).bind fun o381 => ((vH n a5 a1 (1 : Int)).bind fun o382 => (K (IntKind.i64.wrap (o382.1 + o381))))))))))
def wY n a0 a1 a2 a3 a4 a5 := sK n a0 a1 a2 a3 a4 a5 _ some
def GZ : FS := ⟨[.a [.c, .n, .n, .n, .n], .n], [], [([.n], [])]⟩
def F6 (n : Nat) : FSpec := GZ.sp (wY n)
theorem JJ (n : Nat) : FSound Tryz.prog 104 (F6 n) := fs2 (S := GZ) (b := sK n) Tryz.func104 rfl rfl [.tmp 4] (.s .a (.s (.r [(2, .cl 43 (C8 n)), (5, .tk [11])]) (.s (.r [(1, .cl 111 (CZ n))]) (.s (.s .a (.u (.s .a (.s .a (.s .a (.s (.s (.s (.p (xM.x (vI n))) .a) .a) .a)))))) (.s .a (.s (.d [(4, .cl 143 (Iz n))] [(0, .peek [0] [0]), (1, .peek [0] [0]), (3, .peek [1] [1]), (4, .part [])]) (.s (.r [(3, .cl 111 (CZ n))]) (.s (.s .a (.u (.p (xN.x (iN n n))))) (.s (.r [(1, .cl 43 (C8 n)), (4, .tk [72])]) .a))))))))) (nt6 (sK n) (by intros; unfold sK; simp only [ax])) (ai (CG n) (ai (CF n) (ai (Jc n) (ai (K5 n) (ai (CF n) (ai (Jd n) (ai (CG n) trivial)))))))
def qG (n : Nat) (x1 : Int) (R : Type) (K : (Bool) → Option R) : Option R := cond (decide (x1 < (2 : Int))) (K true) (K (decide (x1 > (9998 : Int))))
def yh n x1 := qG n x1 _ some
def zC : PS := ⟨[2], [(1, .n)], none, [⟨.normal, [1, 2], [(10, .b)], [], none⟩], none, none⟩
theorem Kk (n : Nat) : Snd ⟨Tryz.prog, 0, 24⟩ (zC.x (yh n)) (fb Tryz.f64 89) := jC (S := zC) (b := qG n) .a (nt1 (qG n) (by intros; unfold qG; simp only [ax])) trivial
def wC (n : Nat) (a0 a1 a2 a3 a4 a5 : Int) (R : Type) (K : (Int × Int) → Option R) : Option R := (nQ n a0 a1 a2 a3 a4).bind fun o371 => (cond (!o371) (K ((0 : Int), (2 : Int))) ((yh n a5).bind fun o372 => (cond o372 (K ((0 : Int), (30 : Int))) ((wY n a0 a1 a2 a3 a4 a5).bind fun o383 => (K (IntKind.i64.wrap ((IntKind.i64.wrap (o383 * (86400 : Int))) + a4), (0 : Int)))))))
def wD n a0 a1 a2 a3 a4 a5 := wC n a0 a1 a2 a3 a4 a5 _ some
def JA : FS := ⟨[.a [.c, .n, .n, .n, .n], .n], [], [([.n, .n], [])]⟩
def CK (n : Nat) : FSpec := JA.sp (wD n)
theorem Es (n : Nat) : FSound Tryz.prog 64 (CK n) := fs2 (S := JA) (b := wC n) Tryz.func64 rfl rfl [.tmp 4, .tmp 5] (.s .a (.s (.u (.s (.r [(1, .cl 103 (uA n))]) (.s .a (.s (.p (zC.x (yh n))) .a)))) (.s (.d [(2, .cl 104 (F6 n))] [(0, .peek [0] [0]), (2, .part []), (4, .peek [0] [0]), (5, .peek [0] [0])]) .a))) (nt6 (wC n) (by intros; unfold wC; simp only [ax])) (ai (vD n) (ai (Kk n) (ai (JJ n) trivial)))
def yZ (n : Nat) (a0 : Int) (a1 : Bool) (h0 : Int) (h1 : Bool) (h2 : Int) (h3 : Bool) (R : Type) (K : (Int × Bool × Int × Bool) → Option R) : Option R := cond (decide (a0 ≤ h0)) (cond (!h1) (K (h0, true, a0, a1)) (cond (decide (a0 > h2)) (K (h0, true, a0, a1)) (cond (a0 == h2) (cond (!a1) (K (h0, true, a0, a1)) (K (h0, h1, h2, h3))) (K (h0, h1, h2, h3))))) (K (h0, h1, h2, h3))
def y5 n a0 a1 h0 h1 h2 h3 := yZ n a0 a1 h0 h1 h2 h3 _ some
def Lm : FS := ⟨[.n, .b, .q 0 0, .q 1 0, .q 2 0, .q 3 0], [.c 2 [.n], .c 4 [.b], .c 2 [.n], .c 4 [.b]], [([], [.c 2 [.n], .c 4 [.b], .c 2 [.n], .c 4 [.b]])]⟩
def F7 (n : Nat) : FSpec := Lm.sp (y5 n)
theorem G5 (n : Nat) : FSound Tryz.prog 63 (F7 n) := fs2 (S := Lm) (b := yZ n) Tryz.func63 rfl rfl [] .a (nt6 (yZ n) (by intros; unfold yZ; simp only [ax])) trivial
def uN (n : Nat) (x13 : Int) (h0_0 h0_1 : Str) (h0_2 h0_3 h0_4 h0_5 h0_6 h0_7 h0_8 h0_9 h0_10 h0_11 h0_12 h0_13 h1_0 h2_0 h2_1 h2_2 h3_0 : Int) (h4_0 h5_0 : Bool) (R : Type) (A_ : Int → Str → Str → Int → Int → Int → Int → Int → Int → Int → Int → Int → Int → Int → Int → Int → Int → Int → Int → Int → Bool → Bool → Option R) (K : W14 → Option R) : Option R := cond (decide (x13 < (IntKind.i64.wrap (h2_0 + (2 : Int))))) ((wD n h0_4 h0_5 h0_6 h0_7 h0_8 x13).bind fun o384 => ((wD n h0_9 h0_10 h0_11 h0_12 h0_13 x13).bind fun o385 => ((y5 n (IntKind.i64.wrap (o384.1 - h0_2)) true h1_0 h5_0 h3_0 h4_0).bind fun o386 => ((y5 n (IntKind.i64.wrap (o385.1 - h0_3)) false o386.1 o386.2.1 o386.2.2.1 o386.2.2.2).bind fun o387 => (A_ (IntKind.i64.wrap (x13 + (1 : Int))) h0_0 h0_1 h0_2 h0_3 h0_4 h0_5 h0_6 h0_7 h0_8 h0_9 h0_10 h0_11 h0_12 h0_13 o387.1 h2_0 h2_1 h2_2 o387.2.2.1 o387.2.2.2 o387.2.1))))) (K (h0_0, h0_1, h0_2, h0_3, h0_4, h0_5, h0_6, h0_7, h0_8, h0_9, h0_10, h0_11, h0_12, h0_13, h1_0, h2_0, h2_1, h2_2, h3_0, h4_0, h5_0))
def nW (n : Nat) : Nat → Int → Str → Str → Int → Int → Int → Int → Int → Int → Int → Int → Int → Int → Int → Int → Int → Int → Int → Int → Int → Bool → Bool → Option (W14)
 | 0, _, _, _, _, _, _, _, _, _, _, _, _, _, _, _, _, _, _, _, _, _, _ => none
 | m + 1, x13, h0_0, h0_1, h0_2, h0_3, h0_4, h0_5, h0_6, h0_7, h0_8, h0_9, h0_10, h0_11, h0_12, h0_13, h1_0, h2_0, h2_1, h2_2, h3_0, h4_0, h5_0 => uN n x13 h0_0 h0_1 h0_2 h0_3 h0_4 h0_5 h0_6 h0_7 h0_8 h0_9 h0_10 h0_11 h0_12 h0_13 h1_0 h2_0 h2_1 h2_2 h3_0 h4_0 h5_0 _ (nW n m) some
def F8 : PS := ⟨[10], [(2, .q 0 0), (7, .q 2 0), (12, .f (.func 63) [] [.q 1 0, .q 5 0, .q 3 0, .q 4 0]), (13, .n)], some [.c 87 [.s, .s, .n, .n, .c, .n, .n, .n, .n, .c, .n, .n, .n, .n], .c 2 [.n], .c 45 [.n, .n, .n], .c 2 [.n], .c 4 [.b], .c 4 [.b]], [⟨(.exit 1), [2, 10], [], [.c 87 [.s, .s, .n, .n, .c, .n, .n, .n, .n, .c, .n, .n, .n, .n], .c 2 [.n], .c 45 [.n, .n, .n], .c 2 [.n], .c 4 [.b], .c 4 [.b]], none⟩], none, none⟩
theorem NU (n : Nat) : Snd ⟨Tryz.prog, 0, 82⟩ (F8.x (nW n n)) (fb Tryz.f33 1407) := lC (S := F8) (b := uN n) (f := nW n) n (.s .a (.s (.u (.s (.r [(3, .cl 64 (CK n)), (6, .tk [51])]) (.s (.r [(3, .cl 64 (CK n)), (6, .tk [58])]) (.s (.r [(5, .cl 63 (F7 n))]) (.r [(5, .cl 63 (F7 n))]))))) .a)) (aaK (uN n) (by intros; unfold uN; simp only [ax])) (ai (Es n) (ai (Es n) (ai (G5 n) (ai (G5 n) trivial))))
def xO (n : Nat) (a0 a1 : Str) (a2 a3 a4 a5 a6 a7 a8 a9 a10 a11 a12 a13 a14 : Int) (R : Type) (K : (Int × Bool) → Option R) : Option R := (uG n a0 a1 a2 a3 a4 a5 a6 a7 a8 a9 a10 a11 a12 a13).bind fun o368 => (cond (!o368) (K ((0 : Int), false)) (cond (a1 == ([] : Str)) (K (a2, false)) ((xL n (IntKind.i64.wrap ((if (-10000000000 : Int) < (if a14 < (100000000000 : Int) then a14 else (100000000000 : Int)) then (if a14 < (100000000000 : Int) then a14 else (100000000000 : Int)) else (-10000000000 : Int)) + a2)) (86400 : Int)).bind fun o369 => ((CE n o369).bind fun o370 => ((nW n n (IntKind.i64.wrap (o370.1 - (2 : Int))) a0 a1 a2 a3 a4 a5 a6 a7 a8 a9 a10 a11 a12 a13 (if (-10000000000 : Int) < (if a14 < (100000000000 : Int) then a14 else (100000000000 : Int)) then (if a14 < (100000000000 : Int) then a14 else (100000000000 : Int)) else (-10000000000 : Int)) o370.1 o370.2.1 o370.2.2.1 (0 : Int) false false).bind fun o388 => (cond o388.2.2.2.2.2.2.2.2.2.2.2.2.2.2.2.2.2.2.2.1 (K (o388.2.2.2.1, true)) (K (o388.2.2.1, false))))))))
def sM n a0 a1 a2 a3 a4 a5 a6 a7 a8 a9 a10 a11 a12 a13 a14 := xO n a0 a1 a2 a3 a4 a5 a6 a7 a8 a9 a10 a11 a12 a13 a14 _ some
def OD : FS := ⟨[.a [.s, .s, .n, .n, .c, .n, .n, .n, .n, .c, .n, .n, .n, .n], .n], [], [([.n, .b], [])]⟩
def Nc (n : Nat) : FSpec := OD.sp (sM n)
theorem OV (n : Nat) : FSound Tryz.prog 33 (Nc n) := fs2 (S := OD) (b := xO n) Tryz.func33 rfl rfl [.tmp 4, .tmp 5] (.s .a (.s (.u (.s (.r [(1, .cl 61 (DX n))]) .a)) (.s .a (.s (.r [(4, .cl 62 (Jy n)), (5, .cl 41 (Kh n)), (8, .tk [31])]) (.s .a (.s .a (.s .a (.s (.s .a (.u (.p (F8.x (nW n n))))) .a)))))))) (ab9 (xO n) (by intros; unfold xO; simp only [ax])) (ai (FM n) (ai (L9 n) (ai (Ki n) (ai (NU n) trivial))))
def Dt (n : Nat) (a0 : Int) (h0 : List (List AV)) (h1 h2 : List Int) (h3 : Str) (h4 : Int) (R : Type) (K : (Bool × (List (List AV)) × (List Int) × (List Int) × Str × Int) → Option R) : Option R := cond (decide (0 ≤ a0)) ((h1[a0.toNat]?).bind fun e391 => (K (decide (e391 > h4), h0, h1, h2, h3, h4))) none
def Kl n a0 h0 h1 h2 h3 h4 := Dt n a0 h0 h1 h2 h3 h4 _ some
def OE : FS := ⟨[.n, .q 0 0, .q 1 0], [.c 26 [.L false 3, .l .i64, .l .i64, .s], .c 2 [.n]], [([.b], [.c 26 [.L false 3, .l .i64, .l .i64, .s], .c 2 [.n]])]⟩
def Nf (n : Nat) : FSpec := OE.sp (Kl n)
theorem OW (n : Nat) : FSound Tryz.prog 66 (Nf n) := fs2 (S := OE) (b := Dt n) Tryz.func66 rfl rfl [.tmp 4] (.s .a (.s (.d [] [(0, .look), (4, .no)]) .a)) (nt6 (Dt n) (by intros; unfold Dt; simp only [ax])) trivial
def nV (n : Nat) (x5 x6 : Int) (h0_0 : List (List AV)) (h0_1 h0_2 : List Int) (h0_3 : Str) (h1_0 : Int) (R : Type) (A_ : Int → Int → (List (List AV)) → (List Int) → (List Int) → Str → Int → Option R) (K : W15 → Option R) : Option R := cond (decide (x5 < x6)) ((Kl n (IntKind.i64.wrap (Int.fdiv (IntKind.u64.wrap (IntKind.i64.wrap (x5 + x6))) (2 ^ 1))) h0_0 h0_1 h0_2 h0_3 h1_0).bind fun o392 => (cond (!o392.1) (A_ (IntKind.i64.wrap ((IntKind.i64.wrap (Int.fdiv (IntKind.u64.wrap (IntKind.i64.wrap (x5 + x6))) (2 ^ 1))) + (1 : Int))) x6 o392.2.1 o392.2.2.1 o392.2.2.2.1 o392.2.2.2.2.1 o392.2.2.2.2.2) (A_ x5 (IntKind.i64.wrap (Int.fdiv (IntKind.u64.wrap (IntKind.i64.wrap (x5 + x6))) (2 ^ 1))) o392.2.1 o392.2.2.1 o392.2.2.2.1 o392.2.2.2.2.1 o392.2.2.2.2.2))) (K (x5, h0_0, h0_1, h0_2, h0_3, h1_0))
def lZ (n : Nat) : Nat → Int → Int → (List (List AV)) → (List Int) → (List Int) → Str → Int → Option (W15)
 | 0, _, _, _, _, _, _, _ => none
 | m + 1, x5, x6, h0_0, h0_1, h0_2, h0_3, h1_0 => nV n x5 x6 h0_0 h0_1 h0_2 h0_3 h1_0 _ (lZ n m) some
def CL : PS := ⟨[], [(1, .f (.func 66) [] [.q 0 0, .q 1 0]), (5, .n), (6, .n)], some [.c 26 [.L false 3, .l .i64, .l .i64, .s], .c 2 [.n]], [⟨(.exit 0), [], [(5, .n)], [.c 26 [.L false 3, .l .i64, .l .i64, .s], .c 2 [.n]], none⟩], none, none⟩
theorem Ma (n : Nat) : Snd ⟨Tryz.prog, 2, 26⟩ (CL.x (lZ n n)) (fb Tryz.f65 19) := lC (S := CL) (b := nV n) (f := lZ n) n (.s .a (.u (.s .a (.s (.r [(2, .cl 66 (Nf n))]) .a)))) (nl7 (nV n) (by intros; unfold nV; simp only [ax])) (ai (OW n) trivial)
def y7 (n : Nat) (a0 : Int) (h0 : List (List AV)) (h1 h2 : List Int) (h3 : Str) (h4 : Int) (R : Type) (K : W15 → Option R) : Option R := (lZ n n (0 : Int) a0 h0 h1 h2 h3 h4).bind fun o393 => (K (o393.1, o393.2.1, o393.2.2.1, o393.2.2.2.1, o393.2.2.2.2.1, o393.2.2.2.2.2))
def Hy n a0 h0 h1 h2 h3 h4 := y7 n a0 h0 h1 h2 h3 h4 _ some
def Lp : FS := ⟨[.n, .f (.func 66) [] [.q 0 0, .q 1 0]], [.c 26 [.L false 3, .l .i64, .l .i64, .s], .c 2 [.n]], [([.n], [.c 26 [.L false 3, .l .i64, .l .i64, .s], .c 2 [.n]])]⟩
def Km (n : Nat) : FSpec := Lp.sp (Hy n)
theorem Ng (n : Nat) : FSound Tryz.prog 65 (Km n) := fs2 (S := Lp) (b := y7 n) Tryz.func65 rfl rfl [.tmp 4] (.s .a (.s .a (.s (.u (.p (CL.x (lZ n n)))) .a))) (nt6 (y7 n) (by intros; unfold y7; simp only [ax])) (ai (Ma n) trivial)
def Du (n : Nat) (a0 : Int) (a1 : Bool) (a2 : Str) (R : Type) (K : Bool → Option R) : Option R := K (!a1)
def Kn n a0 a1 a2 := Du n a0 a1 a2 _ some
def OG : FS := ⟨[.a [.n, .b, .s]], [], [([.b], [])]⟩
def Nh (n : Nat) : FSpec := OG.sp (Kn n)
theorem OX (n : Nat) : FSound Tryz.prog 68 (Nh n) := fs2 (S := OG) (b := Du n) Tryz.func68 rfl rfl [.tmp 2] .a (nt3 (Du n) (by intros; unfold Du; simp only [ax])) trivial
def uO (n : Nat) (x0 : List (List AV)) (x7 x8 : Int) (R : Type) (A_ : (List (List AV)) → Int → Int → Option R) (K : ((Int) ⊕ (Unit)) → Option R) : Option R := cond (decide (x8 < x7)) (cond (decide (0 ≤ x8)) ((x0[x8.toNat]?).bind fun e396 => (unc e396 fun c397 r398 => xS .i64 c397 fun x399 => unc r398 fun c400 r401 => yC c400 fun x402 => unc r401 fun c403 r404 => yD c403 fun x405 => unn r404 ((Kn n x399 x402 x405).bind fun o406 => (cond o406 (K (Sum.inl x8)) (A_ x0 x7 (IntKind.i64.wrap (x8 + (1 : Int)))))))) none) (K (Sum.inr ()))
def sN (n : Nat) : Nat → (List (List AV)) → Int → Int → Option ((Int) ⊕ (Unit))
 | 0, _, _, _ => none
 | m + 1, x0, x7, x8 => uO n x0 x7 x8 _ (sN n m) some
def F9 : PS := ⟨[], [(0, .L false 3), (1, .f (.func 68) [] []), (7, .n), (8, .n)], some [], [⟨.ret, [], [(4, .n)], [], none⟩, ⟨(.exit 0), [], [], [], none⟩], none, none⟩
theorem NV (n : Nat) : Snd ⟨Tryz.prog, 0, 19⟩ (F9.x (sN n n)) (fb Tryz.f67 21) := lC (S := F9) (b := uO n) (f := sN n) n (.s .a (.s .a (.s (.u (.s .a (.s (.r [(5, .cl 68 (Nh n))]) .a))) .a))) (nl3 (uO n) (by intros; unfold uO; simp only [ax])) (ai (OX n) trivial)
def Dv (n : Nat) (a0 : List (List AV)) (R : Type) (K : Int → Option R) : Option R := (sN n n a0 (a0.length : Int) (0 : Int)).bind fun o407 => (Sum.elim (fun o408 => K o408) (fun o409 => K (-1 : Int)) o407)
def Ko n a0 := Dv n a0 _ some
def OH : FS := ⟨[.L false 3, .f (.func 68) [] []], [], [([.n], [])]⟩
def Ni (n : Nat) : FSpec := OH.sp (Ko n)
theorem OY (n : Nat) : FSound Tryz.prog 67 (Ni n) := fs2 (S := OH) (b := Dv n) Tryz.func67 rfl rfl [.tmp 4] (.s .a (.s (.s .a (.u (.p (F9.x (sN n n))))) .a)) (nt1 (Dv n) (by intros; unfold Dv; simp only [ax])) (ai (NV n) trivial)
def IA (n : Nat) (a0 : List (List AV)) (a1 a2 : List Int) (a3 : Str) (a4 : Int) (R : Type) (K : Int → Option R) : Option R := (AR n a0 a1 a2 a3).bind fun o390 => (cond (!o390) (K (0 : Int)) ((Hy n (a1.length : Int) a0 a1 a2 a3 a4).bind fun o394 => (cond (decide (o394.1 > (0 : Int))) (cond (decide (0 ≤ (IntKind.i64.wrap (o394.1 - (1 : Int))))) ((o394.2.2.2.1[(IntKind.i64.wrap (o394.1 - (1 : Int))).toNat]?).bind fun e395 => (K e395)) none) ((Ko n o394.2.1).bind fun o410 => (K (if (0 : Int) < o410 then o410 else (0 : Int)))))))
def IB n a0 a1 a2 a3 a4 := IA n a0 a1 a2 a3 a4 _ some
def Rp : FS := ⟨[.a [.L false 3, .l .i64, .l .i64, .s], .n], [], [([.n], [])]⟩
def Mc (n : Nat) : FSpec := Rp.sp (IB n)
theorem Lr (n : Nat) : FSound Tryz.prog 34 (Mc n) := fs2 (S := Rp) (b := IA n) Tryz.func34 rfl rfl [.tmp 4] (.s .a (.s (.s (.r [(1, .cl 50 (Hf n))]) .a) (.s (.r [(4, .cl 65 (Km n))]) (.s .a (.s (.r [(2, .cl 67 (Ni n))]) .a))))) (nt5 (IA n) (by intros; unfold IA; simp only [ax])) (ai (Il n) (ai (Ng n) (ai (OY n) trivial)))
def kN (n : Nat) (h0_0 : List (List AV)) (h0_1 h0_2 : List Int) (h0_3 h1_0 h1_1 : Str) (h1_2 h1_3 h1_4 h1_5 h1_6 h1_7 h1_8 h1_9 h1_10 h1_11 h1_12 h1_13 h3_0 : Int) (R : Type) (K : (Bool × (List (List AV)) × (List Int) × (List Int) × Str × Str × Str × Int × Int × Int × Int × Int × Int × Int × Int × Int × Int × Int × Int × Int) → Option R) : Option R := (qm n h3_0 h0_0 h0_1 h0_2 h0_3 h1_0 h1_1 h1_2 h1_3 h1_4 h1_5 h1_6 h1_7 h1_8 h1_9 h1_10 h1_11 h1_12 h1_13).bind fun o366 => (K (o366.1, o366.2.2.1, o366.2.2.2.1, o366.2.2.2.2.1, o366.2.2.2.2.2.1, o366.2.2.2.2.2.2.1, o366.2.2.2.2.2.2.2.1, o366.2.2.2.2.2.2.2.2.1, o366.2.2.2.2.2.2.2.2.2.1, o366.2.2.2.2.2.2.2.2.2.2.1, o366.2.2.2.2.2.2.2.2.2.2.2.1, o366.2.2.2.2.2.2.2.2.2.2.2.2.1, o366.2.2.2.2.2.2.2.2.2.2.2.2.2.1, o366.2.2.2.2.2.2.2.2.2.2.2.2.2.2.1, o366.2.2.2.2.2.2.2.2.2.2.2.2.2.2.2.1, o366.2.2.2.2.2.2.2.2.2.2.2.2.2.2.2.2.1, o366.2.2.2.2.2.2.2.2.2.2.2.2.2.2.2.2.2.1, o366.2.2.2.2.2.2.2.2.2.2.2.2.2.2.2.2.2.2.1, o366.2.2.2.2.2.2.2.2.2.2.2.2.2.2.2.2.2.2.2, o366.2.1))
def rq n h0_0 h0_1 h0_2 h0_3 h1_0 h1_1 h1_2 h1_3 h1_4 h1_5 h1_6 h1_7 h1_8 h1_9 h1_10 h1_11 h1_12 h1_13 h3_0 := kN n h0_0 h0_1 h0_2 h0_3 h1_0 h1_1 h1_2 h1_3 h1_4 h1_5 h1_6 h1_7 h1_8 h1_9 h1_10 h1_11 h1_12 h1_13 h3_0 _ some
def uP : PS := ⟨[5], [(2, .q 2 0), (6, .f (.func 32) [] [.q 2 0, .q 3 0])], some [.c 82 [.L false 3, .l .i64, .l .i64, .s, .q 1 0], .c 87 [.s, .s, .n, .n, .c, .n, .n, .n, .n, .c, .n, .n, .n, .n], .c 27 [.q 0 0], .c 2 [.n]], [⟨.normal, [2, 5], [(23, .b)], [.c 82 [.L false 3, .l .i64, .l .i64, .s, .q 1 0], .c 87 [.s, .s, .n, .n, .c, .n, .n, .n, .n, .c, .n, .n, .n, .n], .c 27 [.q 0 0], .c 2 [.n]], none⟩], none, none⟩
theorem Gw (n : Nat) : Snd ⟨Tryz.prog, 2, 52⟩ (uP.x (rq n)) (fb Tryz.f12 79) := jC (S := uP) (b := kN n) (.r [(7, .cl 32 (Aa n))]) (aaL (kN n) (by intros; unfold kN; simp only [ax])) (ai (F5 n) trivial)
def oJ (n : Nat) (a0 : Int) (h0 : List (List AV)) (h1 h2 : List Int) (h3 h4 h5 : Str) (h6 h7 h8 h9 h10 h11 h12 h13 h14 h15 h16 h17 : Int) (R : Type) (K : (Int × (List (List AV)) × (List Int) × (List Int) × Str × Str × Str × Int × Int × Int × Int × Int × Int × Int × Int × Int × Int × Int × Int) → Option R) : Option R := (rq n h0 h1 h2 h3 h4 h5 h6 h7 h8 h9 h10 h11 h12 h13 h14 h15 h16 h17 (if (-10000000000 : Int) < (if a0 < (100000000000 : Int) then a0 else (100000000000 : Int)) then (if a0 < (100000000000 : Int) then a0 else (100000000000 : Int)) else (-10000000000 : Int))).bind fun o367 => (cond o367.1 ((sM n o367.2.2.2.2.2.1 o367.2.2.2.2.2.2.1 o367.2.2.2.2.2.2.2.1 o367.2.2.2.2.2.2.2.2.1 o367.2.2.2.2.2.2.2.2.2.1 o367.2.2.2.2.2.2.2.2.2.2.1 o367.2.2.2.2.2.2.2.2.2.2.2.1 o367.2.2.2.2.2.2.2.2.2.2.2.2.1 o367.2.2.2.2.2.2.2.2.2.2.2.2.2.1 o367.2.2.2.2.2.2.2.2.2.2.2.2.2.2.1 o367.2.2.2.2.2.2.2.2.2.2.2.2.2.2.2.1 o367.2.2.2.2.2.2.2.2.2.2.2.2.2.2.2.2.1 o367.2.2.2.2.2.2.2.2.2.2.2.2.2.2.2.2.2.1 o367.2.2.2.2.2.2.2.2.2.2.2.2.2.2.2.2.2.2.1 o367.2.2.2.2.2.2.2.2.2.2.2.2.2.2.2.2.2.2.2).bind fun o389 => (K (o389.1, o367.2.1, o367.2.2.1, o367.2.2.2.1, o367.2.2.2.2.1, o367.2.2.2.2.2.1, o367.2.2.2.2.2.2.1, o367.2.2.2.2.2.2.2.1, o367.2.2.2.2.2.2.2.2.1, o367.2.2.2.2.2.2.2.2.2.1, o367.2.2.2.2.2.2.2.2.2.2.1, o367.2.2.2.2.2.2.2.2.2.2.2.1, o367.2.2.2.2.2.2.2.2.2.2.2.2.1, o367.2.2.2.2.2.2.2.2.2.2.2.2.2.1, o367.2.2.2.2.2.2.2.2.2.2.2.2.2.2.1, o367.2.2.2.2.2.2.2.2.2.2.2.2.2.2.2.1, o367.2.2.2.2.2.2.2.2.2.2.2.2.2.2.2.2.1, o367.2.2.2.2.2.2.2.2.2.2.2.2.2.2.2.2.2.1, o367.2.2.2.2.2.2.2.2.2.2.2.2.2.2.2.2.2.2.1))) ((IB n o367.2.1 o367.2.2.1 o367.2.2.2.1 o367.2.2.2.2.1 o367.2.2.2.2.2.2.2.2.2.2.2.2.2.2.2.2.2.2.2).bind fun o411 => (cond (decide (0 ≤ o411)) ((o367.2.1[o411.toNat]?).bind fun e412 => (unc e412 fun c413 r414 => xS .i64 c413 fun x415 => unc r414 fun c416 r417 => yC c416 fun x418 => unc r417 fun c419 r420 => yD c419 fun x421 => unn r420 (K (x415, o367.2.1, o367.2.2.1, o367.2.2.2.1, o367.2.2.2.2.1, o367.2.2.2.2.2.1, o367.2.2.2.2.2.2.1, o367.2.2.2.2.2.2.2.1, o367.2.2.2.2.2.2.2.2.1, o367.2.2.2.2.2.2.2.2.2.1, o367.2.2.2.2.2.2.2.2.2.2.1, o367.2.2.2.2.2.2.2.2.2.2.2.1, o367.2.2.2.2.2.2.2.2.2.2.2.2.1, o367.2.2.2.2.2.2.2.2.2.2.2.2.2.1, o367.2.2.2.2.2.2.2.2.2.2.2.2.2.2.1, o367.2.2.2.2.2.2.2.2.2.2.2.2.2.2.2.1, o367.2.2.2.2.2.2.2.2.2.2.2.2.2.2.2.2.1, o367.2.2.2.2.2.2.2.2.2.2.2.2.2.2.2.2.2.1, o367.2.2.2.2.2.2.2.2.2.2.2.2.2.2.2.2.2.2.1)))) none)))
def oK n a0 h0 h1 h2 h3 h4 h5 h6 h7 h8 h9 h10 h11 h12 h13 h14 h15 h16 h17 := oJ n a0 h0 h1 h2 h3 h4 h5 h6 h7 h8 h9 h10 h11 h12 h13 h14 h15 h16 h17 _ some
def Dw : FS := ⟨[.q 0 0, .n], [.c 82 [.L false 3, .l .i64, .l .i64, .s, .q 1 0], .c 87 [.s, .s, .n, .n, .c, .n, .n, .n, .n, .c, .n, .n, .n, .n]], [([.n], [.c 82 [.L false 3, .l .i64, .l .i64, .s, .q 1 0], .c 87 [.s, .s, .n, .n, .c, .n, .n, .n, .n, .c, .n, .n, .n, .n]])]⟩
def Cg (n : Nat) : FSpec := Dw.sp (oK n)
theorem Hz (n : Nat) : FSound Tryz.prog 12 (Cg n) := fs2 (S := Dw) (b := oJ n) Tryz.func12 rfl rfl [.tmp 4] (.s .a (.s .a (.s .a (.s .a (.s (.s (.p (uP.x (rq n))) (.s (.s (.d [(7, .cl 33 (Nc n))] [(0, .peek [0, 1, 2] [2]), (1, .peek [0, 1] [0]), (2, .peek [0, 1] [0]), (3, .peek [0, 1] [0]), (4, .peek [1] [1]), (5, .peek [1] [1]), (6, .peek [3] [3]), (7, .part [])]) .a) .a)) (.s (.d [(12, .cl 34 (Mc n))] [(0, .peek [0, 1, 2] [2]), (1, .peek [0, 1] [0]), (2, .peek [0, 1] [0]), (3, .peek [0, 1] [0]), (4, .peek [0, 1] [0]), (5, .peek [0, 1] [0]), (6, .peek [0, 1, 2] [2]), (7, .peek [0, 1] [0]), (8, .peek [0, 1] [0]), (9, .peek [0, 1] [0]), (10, .peek [0, 1] [0]), (11, .peek [3] [3]), (12, .part []), (15, .no)]) .a)))))) (aaL (oJ n) (by intros; unfold oJ; simp only [ax])) (ai (Gw n) (ai (OV n) (ai (Lr n) trivial)))
def jA (n : Nat) (a0 a1 h0 : Int) (h1 : List Int) (h2 : List (List AV)) (h3 h4 : List Int) (h5 h6 h7 : Str) (h8 h9 h10 h11 h12 h13 h14 h15 h16 h17 h18 h19 : Int) (R : Type) (K : (Int × (List Int) × (List (List AV)) × (List Int) × (List Int) × Str × Str × Str × Int × Int × Int × Int × Int × Int × Int × Int × Int × Int × Int × Int) → Option R) : Option R := cond (decide ((IntKind.i64.wrap (h0 - (IntKind.i64.wrap (a1 * (1000000 : Int))))) ≥ (-10000000000000000 : Int))) (cond (decide ((IntKind.i64.wrap (h0 - (IntKind.i64.wrap (a1 * (1000000 : Int))))) ≤ (100000000000000000 : Int))) ((vE n (IntKind.i64.wrap (h0 - (IntKind.i64.wrap (a1 * (1000000 : Int))))) (1000000 : Int)).bind fun o364 => ((oK n o364 h2 h3 h4 h5 h6 h7 h8 h9 h10 h11 h12 h13 h14 h15 h16 h17 h18 h19).bind fun o422 => (cond (o422.1 == a1) (cond (decide ((h1.length + ([IntKind.i64.wrap (h0 - (IntKind.i64.wrap (a1 * (1000000 : Int))))] : List Int).length) * 8 ≤ 140737488355328)) (K (h0, h1 ++ ([IntKind.i64.wrap (h0 - (IntKind.i64.wrap (a1 * (1000000 : Int))))] : List Int), o422.2.1, o422.2.2.1, o422.2.2.2.1, o422.2.2.2.2.1, o422.2.2.2.2.2.1, o422.2.2.2.2.2.2.1, o422.2.2.2.2.2.2.2.1, o422.2.2.2.2.2.2.2.2.1, o422.2.2.2.2.2.2.2.2.2.1, o422.2.2.2.2.2.2.2.2.2.2.1, o422.2.2.2.2.2.2.2.2.2.2.2.1, o422.2.2.2.2.2.2.2.2.2.2.2.2.1, o422.2.2.2.2.2.2.2.2.2.2.2.2.2.1, o422.2.2.2.2.2.2.2.2.2.2.2.2.2.2.1, o422.2.2.2.2.2.2.2.2.2.2.2.2.2.2.2.1, o422.2.2.2.2.2.2.2.2.2.2.2.2.2.2.2.2.1, o422.2.2.2.2.2.2.2.2.2.2.2.2.2.2.2.2.2.1, o422.2.2.2.2.2.2.2.2.2.2.2.2.2.2.2.2.2.2)) none) (K (h0, h1, o422.2.1, o422.2.2.1, o422.2.2.2.1, o422.2.2.2.2.1, o422.2.2.2.2.2.1, o422.2.2.2.2.2.2.1, o422.2.2.2.2.2.2.2.1, o422.2.2.2.2.2.2.2.2.1, o422.2.2.2.2.2.2.2.2.2.1, o422.2.2.2.2.2.2.2.2.2.2.1, o422.2.2.2.2.2.2.2.2.2.2.2.1, o422.2.2.2.2.2.2.2.2.2.2.2.2.1, o422.2.2.2.2.2.2.2.2.2.2.2.2.2.1, o422.2.2.2.2.2.2.2.2.2.2.2.2.2.2.1, o422.2.2.2.2.2.2.2.2.2.2.2.2.2.2.2.1, o422.2.2.2.2.2.2.2.2.2.2.2.2.2.2.2.2.1, o422.2.2.2.2.2.2.2.2.2.2.2.2.2.2.2.2.2.1, o422.2.2.2.2.2.2.2.2.2.2.2.2.2.2.2.2.2.2))))) (K (h0, h1, h2, h3, h4, h5, h6, h7, h8, h9, h10, h11, h12, h13, h14, h15, h16, h17, h18, h19))) (K (h0, h1, h2, h3, h4, h5, h6, h7, h8, h9, h10, h11, h12, h13, h14, h15, h16, h17, h18, h19))
def ng n a0 a1 h0 h1 h2 h3 h4 h5 h6 h7 h8 h9 h10 h11 h12 h13 h14 h15 h16 h17 h18 h19 := jA n a0 a1 h0 h1 h2 h3 h4 h5 h6 h7 h8 h9 h10 h11 h12 h13 h14 h15 h16 h17 h18 h19 _ some
def ym : FS := ⟨[.n, .n, .q 0 0, .q 1 0, .q 2 0], [.c 27 [.q 3 0], .c 2 [.n], .c 23 [.I true .i64], .c 82 [.L false 3, .l .i64, .l .i64, .s, .q 4 0], .c 87 [.s, .s, .n, .n, .c, .n, .n, .n, .n, .c, .n, .n, .n, .n]], [([.x (.bool true)], [.c 27 [.q 3 0], .c 2 [.n], .c 23 [.I true .i64], .c 82 [.L false 3, .l .i64, .l .i64, .s, .q 4 0], .c 87 [.s, .s, .n, .n, .c, .n, .n, .n, .n, .c, .n, .n, .n, .n]])]⟩
def xP (n : Nat) : FSpec := ym.sp (ng n)
theorem Dx (n : Nat) : RSound Tryz.prog 0 (xP n) := Vu (S := ym) (b := jA n) (nt := 48) (ps := [23, 24]) (sl := [2, 6, 8]) (ca := (Tryz.f20.body.getD .skip).a2.a2.a2.a2.a1.a2.a1.ra) (cb := (Tryz.f20.body.getD .skip).a2.a2.a2.a2.a1.a2.a1.rb) (by kernel_rfl) .a (.u (.s .a (.s (.d [(9, .cl 39 (yR n)), (10, .cl 12 (Cg n))] [(7, .peek [0, 3, 4] [0]), (9, .part []), (10, .part [3, 4])]) (.s (.r [(0, .lt), (3, .tk [43]), (4, .tk [46])]) .a)))) (abF (jA n) (by intros; unfold jA; simp only [ax])) trivial (ai (xZ n) (ai (Hz n) trivial))
def bM (n : Nat) (x3 : Int) (h1_0 : List Int) (h3_0 : Int) (h4_0 : List Int) (h5_0 : List (List AV)) (h5_1 h5_2 : List Int) (h5_3 h6_0 h6_1 : Str) (h6_2 h6_3 h6_4 h6_5 h6_6 h6_7 h6_8 h6_9 h6_10 h6_11 h6_12 h6_13 : Int) (R : Type) (A_ : Int → (List Int) → Int → (List Int) → (List (List AV)) → (List Int) → (List Int) → Str → Str → Str → Int → Int → Int → Int → Int → Int → Int → Int → Int → Int → Int → Int → Option R) (K : W16 → Option R) : Option R := cond (decide (x3 ≥ (0 : Int))) (cond (decide (0 ≤ x3)) ((h1_0[x3.toNat]?).bind fun e363 => ((ng n x3 e363 h3_0 h4_0 h5_0 h5_1 h5_2 h5_3 h6_0 h6_1 h6_2 h6_3 h6_4 h6_5 h6_6 h6_7 h6_8 h6_9 h6_10 h6_11 h6_12 h6_13).bind fun o423 => (A_ (IntKind.i64.wrap (x3 - (1 : Int))) h1_0 o423.1 o423.2.1 o423.2.2.1 o423.2.2.2.1 o423.2.2.2.2.1 o423.2.2.2.2.2.1 o423.2.2.2.2.2.2.1 o423.2.2.2.2.2.2.2.1 o423.2.2.2.2.2.2.2.2.1 o423.2.2.2.2.2.2.2.2.2.1 o423.2.2.2.2.2.2.2.2.2.2.1 o423.2.2.2.2.2.2.2.2.2.2.2.1 o423.2.2.2.2.2.2.2.2.2.2.2.2.1 o423.2.2.2.2.2.2.2.2.2.2.2.2.2.1 o423.2.2.2.2.2.2.2.2.2.2.2.2.2.2.1 o423.2.2.2.2.2.2.2.2.2.2.2.2.2.2.2.1 o423.2.2.2.2.2.2.2.2.2.2.2.2.2.2.2.2.1 o423.2.2.2.2.2.2.2.2.2.2.2.2.2.2.2.2.2.1 o423.2.2.2.2.2.2.2.2.2.2.2.2.2.2.2.2.2.2.1 o423.2.2.2.2.2.2.2.2.2.2.2.2.2.2.2.2.2.2.2))) none) (K (h1_0, h3_0, h4_0, h5_0, h5_1, h5_2, h5_3, h6_0, h6_1, h6_2, h6_3, h6_4, h6_5, h6_6, h6_7, h6_8, h6_9, h6_10, h6_11, h6_12, h6_13))
def aV (n : Nat) : Nat → Int → (List Int) → Int → (List Int) → (List (List AV)) → (List Int) → (List Int) → Str → Str → Str → Int → Int → Int → Int → Int → Int → Int → Int → Int → Int → Int → Int → Option (W16)
 | 0, _, _, _, _, _, _, _, _, _, _, _, _, _, _, _, _, _, _, _, _, _, _ => none
 | m + 1, x3, h1_0, h3_0, h4_0, h5_0, h5_1, h5_2, h5_3, h6_0, h6_1, h6_2, h6_3, h6_4, h6_5, h6_6, h6_7, h6_8, h6_9, h6_10, h6_11, h6_12, h6_13 => bM n x3 h1_0 h3_0 h4_0 h5_0 h5_1 h5_2 h5_3 h6_0 h6_1 h6_2 h6_3 h6_4 h6_5 h6_6 h6_7 h6_8 h6_9 h6_10 h6_11 h6_12 h6_13 _ (aV n m) some
def l5 : PS := ⟨[], [(0, .x (.yld 0)), (1, .q 1 0), (3, .n)], some [.lp 0 [.q 2 0, .q 3 0, .q 4 0], .c 24 [.l .i64], .c 27 [.q 5 0], .c 2 [.n], .c 23 [.I true .i64], .c 82 [.L false 3, .l .i64, .l .i64, .s, .q 6 0], .c 87 [.s, .s, .n, .n, .c, .n, .n, .n, .n, .c, .n, .n, .n, .n]], [⟨(.exit 0), [], [], [.lp 0 [.q 2 0, .q 3 0, .q 4 0], .c 24 [.l .i64], .c 27 [.q 5 0], .c 2 [.n], .c 23 [.I true .i64], .c 82 [.L false 3, .l .i64, .l .i64, .s, .q 6 0], .c 87 [.s, .s, .n, .n, .c, .n, .n, .n, .n, .c, .n, .n, .n, .n]], none⟩], none, none⟩
theorem zD (n : Nat) : Snd ⟨Tryz.prog, 7, 19⟩ (l5.x (aV n n)) (fb Tryz.f77 5) := lC (S := l5) (b := bM n) (f := aV n) n (.s .a (.s (.u (.s (.r [(6, .cy 0 (xP n))]) .a)) .a)) (aaK (bM n) (by intros; unfold bM; simp only [ax])) (ai (Dx n) trivial)
def fZ (n : Nat) (h0 : List Int) (h1 : Int) (h2 : List Int) (h3 : List (List AV)) (h4 h5 : List Int) (h6 h7 h8 : Str) (h9 h10 h11 h12 h13 h14 h15 h16 h17 h18 h19 h20 : Int) (R : Type) (K : W16 → Option R) : Option R := (aV n n (IntKind.i64.wrap ((h0.length : Int) - (1 : Int))) h0 h1 h2 h3 h4 h5 h6 h7 h8 h9 h10 h11 h12 h13 h14 h15 h16 h17 h18 h19 h20).bind fun o424 => (K (o424.1, o424.2.1, o424.2.2.1, o424.2.2.2.1, o424.2.2.2.2.1, o424.2.2.2.2.2.1, o424.2.2.2.2.2.2.1, o424.2.2.2.2.2.2.2.1, o424.2.2.2.2.2.2.2.2.1, o424.2.2.2.2.2.2.2.2.2.1, o424.2.2.2.2.2.2.2.2.2.2.1, o424.2.2.2.2.2.2.2.2.2.2.2.1, o424.2.2.2.2.2.2.2.2.2.2.2.2.1, o424.2.2.2.2.2.2.2.2.2.2.2.2.2.1, o424.2.2.2.2.2.2.2.2.2.2.2.2.2.2.1, o424.2.2.2.2.2.2.2.2.2.2.2.2.2.2.2.1, o424.2.2.2.2.2.2.2.2.2.2.2.2.2.2.2.2.1, o424.2.2.2.2.2.2.2.2.2.2.2.2.2.2.2.2.2.1, o424.2.2.2.2.2.2.2.2.2.2.2.2.2.2.2.2.2.2.1, o424.2.2.2.2.2.2.2.2.2.2.2.2.2.2.2.2.2.2.2.1, o424.2.2.2.2.2.2.2.2.2.2.2.2.2.2.2.2.2.2.2.2))
def oL n h0 h1 h2 h3 h4 h5 h6 h7 h8 h9 h10 h11 h12 h13 h14 h15 h16 h17 h18 h19 h20 := fZ n h0 h1 h2 h3 h4 h5 h6 h7 h8 h9 h10 h11 h12 h13 h14 h15 h16 h17 h18 h19 h20 _ some
def u7 : FS := ⟨[.x (.yld 0), .q 1 0], [.lp 0 [.q 2 0, .q 3 0, .q 4 0], .c 24 [.l .i64], .c 27 [.q 5 0], .c 2 [.n], .c 23 [.I true .i64], .c 82 [.L false 3, .l .i64, .l .i64, .s, .q 6 0], .c 87 [.s, .s, .n, .n, .c, .n, .n, .n, .n, .c, .n, .n, .n, .n]], [([], [.lp 0 [.q 2 0, .q 3 0, .q 4 0], .c 24 [.l .i64], .c 27 [.q 5 0], .c 2 [.n], .c 23 [.I true .i64], .c 82 [.L false 3, .l .i64, .l .i64, .s, .q 6 0], .c 87 [.s, .s, .n, .n, .c, .n, .n, .n, .n, .c, .n, .n, .n, .n]])]⟩
def uQ (n : Nat) : FSpec := u7.sp (oL n)
theorem Aq (n : Nat) : FSound Tryz.prog 77 (uQ n) := fs2 (S := u7) (b := fZ n) Tryz.func77 rfl rfl [] (.s .a (.u (.p (l5.x (aV n n))))) (Zx (fZ n) (by intros; unfold fZ; simp only [ax])) (ai (zD n) trivial)
def jf (n : Nat) (a0 a1 a2 a3 a4 a5 a6 : Int) (h0 : List (List AV)) (h1 h2 : List Int) (h3 h4 h5 : Str) (h6 h7 h8 h9 h10 h11 h12 h13 h14 h15 h16 h17 : Int) (R : Type) (K : ((List Int) × Int × (List (List AV)) × (List Int) × (List Int) × Str × Str × Str × Int × Int × Int × Int × Int × Int × Int × Int × Int × Int × Int × Int) → Option R) : Option R := (cK n a0 a1 a2 a3 a4 a5 a6).bind fun o337 => (cond (o337.2 != (0 : Int)) (K (([] : List Int), o337.2, h0, h1, h2, h3, h4, h5, h6, h7, h8, h9, h10, h11, h12, h13, h14, h15, h16, h17)) ((rf n h0 h1 h2 h3 h4 h5 h6 h7 h8 h9 h10 h11 h12 h13 h14 h15 h16 h17).bind fun o361 => ((dN n o361.1).bind fun o362 => ((oL n o362 o337.1 ([] : List Int) o361.2.1 o361.2.2.1 o361.2.2.2.1 o361.2.2.2.2.1 o361.2.2.2.2.2.1 o361.2.2.2.2.2.2.1 o361.2.2.2.2.2.2.2.1 o361.2.2.2.2.2.2.2.2.1 o361.2.2.2.2.2.2.2.2.2.1 o361.2.2.2.2.2.2.2.2.2.2.1 o361.2.2.2.2.2.2.2.2.2.2.2.1 o361.2.2.2.2.2.2.2.2.2.2.2.2.1 o361.2.2.2.2.2.2.2.2.2.2.2.2.2.1 o361.2.2.2.2.2.2.2.2.2.2.2.2.2.2.1 o361.2.2.2.2.2.2.2.2.2.2.2.2.2.2.2.1 o361.2.2.2.2.2.2.2.2.2.2.2.2.2.2.2.2.1 o361.2.2.2.2.2.2.2.2.2.2.2.2.2.2.2.2.2.1 o361.2.2.2.2.2.2.2.2.2.2.2.2.2.2.2.2.2.2).bind fun o425 => (K (o425.2.2.1, (0 : Int), o425.2.2.2.1, o425.2.2.2.2.1, o425.2.2.2.2.2.1, o425.2.2.2.2.2.2.1, o425.2.2.2.2.2.2.2.1, o425.2.2.2.2.2.2.2.2.1, o425.2.2.2.2.2.2.2.2.2.1, o425.2.2.2.2.2.2.2.2.2.2.1, o425.2.2.2.2.2.2.2.2.2.2.2.1, o425.2.2.2.2.2.2.2.2.2.2.2.2.1, o425.2.2.2.2.2.2.2.2.2.2.2.2.2.1, o425.2.2.2.2.2.2.2.2.2.2.2.2.2.2.1, o425.2.2.2.2.2.2.2.2.2.2.2.2.2.2.2.1, o425.2.2.2.2.2.2.2.2.2.2.2.2.2.2.2.2.1, o425.2.2.2.2.2.2.2.2.2.2.2.2.2.2.2.2.2.1, o425.2.2.2.2.2.2.2.2.2.2.2.2.2.2.2.2.2.2.1, o425.2.2.2.2.2.2.2.2.2.2.2.2.2.2.2.2.2.2.2.1, o425.2.2.2.2.2.2.2.2.2.2.2.2.2.2.2.2.2.2.2.2))))))
def dX n a0 a1 a2 a3 a4 a5 a6 h0 h1 h2 h3 h4 h5 h6 h7 h8 h9 h10 h11 h12 h13 h14 h15 h16 h17 := jf n a0 a1 a2 a3 a4 a5 a6 h0 h1 h2 h3 h4 h5 h6 h7 h8 h9 h10 h11 h12 h13 h14 h15 h16 h17 _ some
def vJ : FS := ⟨[.q 0 0, .a [.n, .n, .n, .n, .n, .n, .n]], [.c 82 [.L false 3, .l .i64, .l .i64, .s, .q 1 0], .c 87 [.s, .s, .n, .n, .c, .n, .n, .n, .n, .c, .n, .n, .n, .n]], [([.I true .i64, .n], [.c 82 [.L false 3, .l .i64, .l .i64, .s, .q 1 0], .c 87 [.s, .s, .n, .n, .c, .n, .n, .n, .n, .c, .n, .n, .n, .n]])]⟩
def Ab (n : Nat) : FSpec := vJ.sp (dX n)
theorem Ga (n : Nat) : FSound Tryz.prog 20 (Ab n) := fs2 (S := vJ) (b := jf n) Tryz.func20 rfl rfl [.tmp 4, .tmp 5] (.s .a (.s (.r [(1, .cl 21 (xH n)), (4, .tk [12])]) (.s .a (.s .a (.s (.s (.r [(1, .cl 15 (BI n)), (2, .cl 42 (lW n))]) (.u (.p (NA 0 [2, 6, 8] (uQ n) 77 (.tmp 22))))) (.s (.r [(0, .lt), (1, .tk [47])]) .a)))))) (acx (jf n) (by intros; unfold jf; simp only [ax])) (ai (wW n) (ai (Gv n) (ai (oH n) (ai (LM (c := ⟨Tryz.prog, 2, 48⟩) (key := 0) (ts := [2, 6, 8]) (u := 22) (cd := (Tryz.f20.body.getD .skip).a2.a2.a2.a2.a1.a2.a1) (by kernel_rfl) (by kernel_rfl) (Aq n)) trivial))))
def gZ (n : Nat) (x15 : List (List AV)) (x16 x17 : Int) (h0_0 : List (List AV)) (h0_1 h0_2 : List Int) (h0_3 : Str) (h1_0 : List (Int × Int)) (R : Type) (A_ : (List (List AV)) → Int → Int → (List (List AV)) → (List Int) → (List Int) → Str → (List (Int × Int)) → Option R) (K : W17 → Option R) : Option R := cond (decide (x17 < x16)) (cond (decide (0 ≤ x17)) ((x15[x17.toNat]?).bind fun e441 => (unc e441 fun c442 r443 => xS .i64 c442 fun x444 => unc r443 fun c445 r446 => yC c445 fun x447 => unc r446 fun c448 r449 => yD c448 fun x450 => unn r449 (cond (sj x444 && sj (1 : Int)) (A_ x15 x16 (IntKind.i64.wrap (x17 + (1 : Int))) h0_0 h0_1 h0_2 h0_3 (zo h1_0 x444 (1 : Int))) none))) none) (K (h0_0, h0_1, h0_2, h0_3, h1_0))
def dY (n : Nat) : Nat → (List (List AV)) → Int → Int → (List (List AV)) → (List Int) → (List Int) → Str → (List (Int × Int)) → Option (W17)
 | 0, _, _, _, _, _, _, _, _ => none
 | m + 1, x15, x16, x17, h0_0, h0_1, h0_2, h0_3, h1_0 => gZ n x15 x16 x17 h0_0 h0_1 h0_2 h0_3 h1_0 _ (dY n m) some
def tZ : PS := ⟨[], [(0, .q 0 0), (3, .x (.map (some 1))), (15, .L false 3), (16, .n), (17, .n)], some [.c 82 [.L false 3, .l .i64, .l .i64, .s, .x (.ptr none)], .mI], [⟨(.exit 0), [0, 3], [], [.c 82 [.L false 3, .l .i64, .l .i64, .s, .x (.ptr none)], .mI], none⟩], (some 1), (some 1)⟩
theorem Gb (n : Nat) : Snd ⟨Tryz.prog, 1, 57⟩ (tZ.x (dY n n)) (fb Tryz.f15 87) := lC (S := tZ) (b := gZ n) (f := dY n) n (.s .a (.s .a (.s (.u (.s .a (.r [(3, .mi)]))) .a))) (nl8 (gZ n) (by intros; unfold gZ; simp only [ax])) trivial
def nI (n : Nat) (h0 : List (List AV)) (h1 h2 : List Int) (h3 : Str) (R : Type) (K : ((List Int) × (List (List AV)) × (List Int) × (List Int) × Str) → Option R) : Option R := (dY n n h0 (h0.length : Int) (0 : Int) h0 h1 h2 h3 ([] : List (Int × Int))).bind fun o451 => ((bX n o451.2.2.2.2).bind fun o452 => (cond (decide (o452.length * 8 ≤ 140737488355328) && o452.all fun p => sj p.1 && sj p.2) (K ((o452.map (·.1)).mergeSort leI, o451.1, o451.2.1, o451.2.2.1, o451.2.2.2.1)) none))
def ru n h0 h1 h2 h3 := nI n h0 h1 h2 h3 _ some
def Ch : FS := ⟨[.q 0 0], [.c 82 [.L false 3, .l .i64, .l .i64, .s, .x (.ptr none)]], [([.I true .i64], [.c 82 [.L false 3, .l .i64, .l .i64, .s, .x (.ptr none)]])]⟩
def BK (n : Nat) : FSpec := Ch.sp (ru n)
theorem Gx (n : Nat) : FSound Tryz.prog 15 (BK n) := fs2 (S := Ch) (b := nI n) Tryz.func15 rfl rfl [.tmp 2] (.s .a (.s .a (.s (.r [(0, .mi)]) (.s (.s .a (.u (.p (tZ.x (dY n n))))) (.s .a (.s (.r [(1, .cl 38 (lX n)), (2, .cl 37 (xJ n)), (3, .tk [56])]) .a)))))) (nt4 (nI n) (by intros; unfold nI; simp only [ax])) (ai (Gb n) (ai (qy n) (ai (zZ n) trivial)))
def kP (n : Nat) (h0_0 : List (List AV)) (h0_1 h0_2 : List Int) (h0_3 : Str) (h2_0 : Int) (R : Type) (K : W18 → Option R) : Option R := K (h0_0, h0_1, h0_2, h0_3, h2_0)
def ry n h0_0 h0_1 h0_2 h0_3 h2_0 := kP n h0_0 h0_1 h0_2 h0_3 h2_0 _ some
def uR : PS := ⟨[5], [(2, .q 1 0), (6, .f (.func 32) [] [.q 1 0, .q 2 0])], some [.c 82 [.L false 3, .l .i64, .l .i64, .s, .x (.ptr none)], .c 27 [.q 0 0], .c 2 [.n]], [⟨.normal, [2, 5], [(23, .x (.bool false))], [.c 82 [.L false 3, .l .i64, .l .i64, .s, .x (.ptr none)], .c 27 [.q 0 0], .c 2 [.n]], none⟩], none, none⟩
theorem Gy (n : Nat) : Snd ⟨Tryz.prog, 1, 52⟩ (uR.x (ry n)) (fb Tryz.f12 79) := jC (S := uR) (b := kP n) .a (nt5 (kP n) (by intros; unfold kP; simp only [ax])) trivial
def oM (n : Nat) (a0 : Int) (h0 : List (List AV)) (h1 h2 : List Int) (h3 : Str) (R : Type) (K : W1 → Option R) : Option R := (ry n h0 h1 h2 h3 (if (-10000000000 : Int) < (if a0 < (100000000000 : Int) then a0 else (100000000000 : Int)) then (if a0 < (100000000000 : Int) then a0 else (100000000000 : Int)) else (-10000000000 : Int))).bind fun o457 => ((IB n o457.1 o457.2.1 o457.2.2.1 o457.2.2.2.1 o457.2.2.2.2).bind fun o458 => (cond (decide (0 ≤ o458)) ((o457.1[o458.toNat]?).bind fun e459 => (unc e459 fun c460 r461 => xS .i64 c460 fun x462 => unc r461 fun c463 r464 => yC c463 fun x465 => unc r464 fun c466 r467 => yD c466 fun x468 => unn r467 (K (x462, o457.1, o457.2.1, o457.2.2.1, o457.2.2.2.1)))) none))
def oN n a0 h0 h1 h2 h3 := oM n a0 h0 h1 h2 h3 _ some
def Dy : FS := ⟨[.q 0 0, .n], [.c 82 [.L false 3, .l .i64, .l .i64, .s, .x (.ptr none)]], [([.n], [.c 82 [.L false 3, .l .i64, .l .i64, .s, .x (.ptr none)]])]⟩
def Ci (n : Nat) : FSpec := Dy.sp (oN n)
theorem HV (n : Nat) : FSound Tryz.prog 12 (Ci n) := fs2 (S := Dy) (b := oM n) Tryz.func12 rfl rfl [.tmp 4] (.s .a (.s .a (.s .a (.s .a (.s (.s (.p (uR.x (ry n))) (.s (.s (.d [] [(0, .no), (3, .no), (5, .no), (6, .no)]) .a) .a)) (.s (.d [(12, .cl 34 (Mc n))] [(0, .peek [0, 1] [1]), (1, .peek [0] [0]), (2, .peek [0] [0]), (3, .peek [0] [0]), (4, .peek [0] [0]), (5, .peek [0] [0]), (6, .peek [0, 1] [1]), (7, .peek [0] [0]), (8, .peek [0] [0]), (9, .peek [0] [0]), (10, .peek [0] [0]), (11, .peek [2] [2]), (12, .part []), (15, .no)]) .a)))))) (nt5 (oM n) (by intros; unfold oM; simp only [ax])) (ai (Gy n) (ai (Lr n) trivial))
def jB (n : Nat) (a0 a1 h0 : Int) (h1 : List Int) (h2 : List (List AV)) (h3 h4 : List Int) (h5 : Str) (R : Type) (K : (Int × (List Int) × (List (List AV)) × (List Int) × (List Int) × Str) → Option R) : Option R := cond (decide ((IntKind.i64.wrap (h0 - (IntKind.i64.wrap (a1 * (1000000 : Int))))) ≥ (-10000000000000000 : Int))) (cond (decide ((IntKind.i64.wrap (h0 - (IntKind.i64.wrap (a1 * (1000000 : Int))))) ≤ (100000000000000000 : Int))) ((vE n (IntKind.i64.wrap (h0 - (IntKind.i64.wrap (a1 * (1000000 : Int))))) (1000000 : Int)).bind fun o456 => ((oN n o456 h2 h3 h4 h5).bind fun o469 => (cond (o469.1 == a1) (cond (decide ((h1.length + ([IntKind.i64.wrap (h0 - (IntKind.i64.wrap (a1 * (1000000 : Int))))] : List Int).length) * 8 ≤ 140737488355328)) (K (h0, h1 ++ ([IntKind.i64.wrap (h0 - (IntKind.i64.wrap (a1 * (1000000 : Int))))] : List Int), o469.2.1, o469.2.2.1, o469.2.2.2.1, o469.2.2.2.2)) none) (K (h0, h1, o469.2.1, o469.2.2.1, o469.2.2.2.1, o469.2.2.2.2))))) (K (h0, h1, h2, h3, h4, h5))) (K (h0, h1, h2, h3, h4, h5))
def ni n a0 a1 h0 h1 h2 h3 h4 h5 := jB n a0 a1 h0 h1 h2 h3 h4 h5 _ some
def yn : FS := ⟨[.n, .n, .q 0 0, .q 1 0, .q 2 0], [.c 27 [.q 3 0], .c 2 [.n], .c 23 [.I true .i64], .c 82 [.L false 3, .l .i64, .l .i64, .s, .x (.ptr none)]], [([.x (.bool true)], [.c 27 [.q 3 0], .c 2 [.n], .c 23 [.I true .i64], .c 82 [.L false 3, .l .i64, .l .i64, .s, .x (.ptr none)]])]⟩
def xQ (n : Nat) : FSpec := yn.sp (ni n)
theorem Dz (n : Nat) : RSound Tryz.prog 0 (xQ n) := Vu (S := yn) (b := jB n) (nt := 48) (ps := [23, 24]) (sl := [2, 6, 8]) (ca := (Tryz.f20.body.getD .skip).a2.a2.a2.a2.a1.a2.a1.ra) (cb := (Tryz.f20.body.getD .skip).a2.a2.a2.a2.a1.a2.a1.rb) (by kernel_rfl) .a (.u (.s .a (.s (.d [(9, .cl 39 (yR n)), (10, .cl 12 (Ci n))] [(7, .peek [0, 3] [0]), (9, .part []), (10, .part [3])]) (.s (.r [(0, .lt), (3, .tk [43]), (4, .tk [46])]) .a)))) (nt8 (jB n) (by intros; unfold jB; simp only [ax])) trivial (ai (xZ n) (ai (HV n) trivial))
def bN (n : Nat) (x3 : Int) (h1_0 : List Int) (h3_0 : Int) (h4_0 : List Int) (h5_0 : List (List AV)) (h5_1 h5_2 : List Int) (h5_3 : Str) (R : Type) (A_ : Int → (List Int) → Int → (List Int) → (List (List AV)) → (List Int) → (List Int) → Str → Option R) (K : W19 → Option R) : Option R := cond (decide (x3 ≥ (0 : Int))) (cond (decide (0 ≤ x3)) ((h1_0[x3.toNat]?).bind fun e455 => ((ni n x3 e455 h3_0 h4_0 h5_0 h5_1 h5_2 h5_3).bind fun o470 => (A_ (IntKind.i64.wrap (x3 - (1 : Int))) h1_0 o470.1 o470.2.1 o470.2.2.1 o470.2.2.2.1 o470.2.2.2.2.1 o470.2.2.2.2.2))) none) (K (h1_0, h3_0, h4_0, h5_0, h5_1, h5_2, h5_3))
def aW (n : Nat) : Nat → Int → (List Int) → Int → (List Int) → (List (List AV)) → (List Int) → (List Int) → Str → Option (W19)
 | 0, _, _, _, _, _, _, _, _ => none
 | m + 1, x3, h1_0, h3_0, h4_0, h5_0, h5_1, h5_2, h5_3 => bN n x3 h1_0 h3_0 h4_0 h5_0 h5_1 h5_2 h5_3 _ (aW n m) some
def l7 : PS := ⟨[], [(0, .x (.yld 0)), (1, .q 1 0), (3, .n)], some [.lp 0 [.q 2 0, .q 3 0, .q 4 0], .c 24 [.l .i64], .c 27 [.q 5 0], .c 2 [.n], .c 23 [.I true .i64], .c 82 [.L false 3, .l .i64, .l .i64, .s, .x (.ptr none)]], [⟨(.exit 0), [], [], [.lp 0 [.q 2 0, .q 3 0, .q 4 0], .c 24 [.l .i64], .c 27 [.q 5 0], .c 2 [.n], .c 23 [.I true .i64], .c 82 [.L false 3, .l .i64, .l .i64, .s, .x (.ptr none)]], none⟩], none, none⟩
theorem zF (n : Nat) : Snd ⟨Tryz.prog, 6, 19⟩ (l7.x (aW n n)) (fb Tryz.f77 5) := lC (S := l7) (b := bN n) (f := aW n) n (.s .a (.s (.u (.s (.r [(6, .cy 0 (xQ n))]) .a)) .a)) (nl8 (bN n) (by intros; unfold bN; simp only [ax])) (ai (Dz n) trivial)
def gm (n : Nat) (h0 : List Int) (h1 : Int) (h2 : List Int) (h3 : List (List AV)) (h4 h5 : List Int) (h6 : Str) (R : Type) (K : W19 → Option R) : Option R := (aW n n (IntKind.i64.wrap ((h0.length : Int) - (1 : Int))) h0 h1 h2 h3 h4 h5 h6).bind fun o471 => (K (o471.1, o471.2.1, o471.2.2.1, o471.2.2.2.1, o471.2.2.2.2.1, o471.2.2.2.2.2.1, o471.2.2.2.2.2.2))
def oO n h0 h1 h2 h3 h4 h5 h6 := gm n h0 h1 h2 h3 h4 h5 h6 _ some
def ve : FS := ⟨[.x (.yld 0), .q 1 0], [.lp 0 [.q 2 0, .q 3 0, .q 4 0], .c 24 [.l .i64], .c 27 [.q 5 0], .c 2 [.n], .c 23 [.I true .i64], .c 82 [.L false 3, .l .i64, .l .i64, .s, .x (.ptr none)]], [([], [.lp 0 [.q 2 0, .q 3 0, .q 4 0], .c 24 [.l .i64], .c 27 [.q 5 0], .c 2 [.n], .c 23 [.I true .i64], .c 82 [.L false 3, .l .i64, .l .i64, .s, .x (.ptr none)]])]⟩
def uS (n : Nat) : FSpec := ve.sp (oO n)
theorem Ar (n : Nat) : FSound Tryz.prog 77 (uS n) := fs2 (S := ve) (b := gm n) Tryz.func77 rfl rfl [] (.s .a (.u (.p (l7.x (aW n n))))) (nt7 (gm n) (by intros; unfold gm; simp only [ax])) (ai (zF n) trivial)
def jg (n : Nat) (a0 a1 a2 a3 a4 a5 a6 : Int) (h0 : List (List AV)) (h1 h2 : List Int) (h3 : Str) (R : Type) (K : ((List Int) × Int × (List (List AV)) × (List Int) × (List Int) × Str) → Option R) : Option R := (cK n a0 a1 a2 a3 a4 a5 a6).bind fun o430 => (cond (o430.2 != (0 : Int)) (K (([] : List Int), o430.2, h0, h1, h2, h3)) ((ru n h0 h1 h2 h3).bind fun o453 => ((dN n o453.1).bind fun o454 => ((oO n o454 o430.1 ([] : List Int) o453.2.1 o453.2.2.1 o453.2.2.2.1 o453.2.2.2.2).bind fun o472 => (K (o472.2.2.1, (0 : Int), o472.2.2.2.1, o472.2.2.2.2.1, o472.2.2.2.2.2.1, o472.2.2.2.2.2.2))))))
def dZ n a0 a1 a2 a3 a4 a5 a6 h0 h1 h2 h3 := jg n a0 a1 a2 a3 a4 a5 a6 h0 h1 h2 h3 _ some
def BL : FS := ⟨[.q 0 0, .a [.n, .n, .n, .n, .n, .n, .n]], [.c 82 [.L false 3, .l .i64, .l .i64, .s, .x (.ptr none)]], [([.I true .i64, .n], [.c 82 [.L false 3, .l .i64, .l .i64, .s, .x (.ptr none)]])]⟩
def Ac (n : Nat) : FSpec := BL.sp (dZ n)
theorem Gc (n : Nat) : FSound Tryz.prog 20 (Ac n) := fs2 (S := BL) (b := jg n) Tryz.func20 rfl rfl [.tmp 4, .tmp 5] (.s .a (.s (.r [(1, .cl 21 (xH n)), (4, .tk [12])]) (.s .a (.s .a (.s (.s (.r [(1, .cl 15 (BK n)), (2, .cl 42 (lW n))]) (.u (.p (NA 0 [2, 6, 8] (uS n) 77 (.tmp 22))))) (.s (.r [(0, .lt), (1, .tk [47])]) .a)))))) (acu (jg n) (by intros; unfold jg; simp only [ax])) (ai (wW n) (ai (Gx n) (ai (oH n) (ai (LM (c := ⟨Tryz.prog, 1, 48⟩) (key := 0) (ts := [2, 6, 8]) (u := 22) (cd := (Tryz.f20.body.getD .skip).a2.a2.a2.a2.a1.a2.a1) (by kernel_rfl) (by kernel_rfl) (Ar n)) trivial))))
def l8 (n : Nat) : FSpec := Wy xI.p (Ce n) (Wy vJ.p (Ab n) (Ac n))
theorem oP (n : Nat) : FSound Tryz.prog 20 (l8 n) := Oy (Hw n) (Oy (Ga n) (Gc n))
def l9 (n : Nat) (R : Type) (K : Bool → Option R) : Option R := (BD n (0 : Int)).bind fun o307 => ((CB n ([[.int .i64 (0 : Int), .bool false, .str ([88] : Str)]] : List (List AV)) ([] : List Int) ([] : List Int) ([67, 69, 84, 45, 49, 67, 69, 83, 84, 44, 77, 51, 46, 53, 46, 48, 44, 77, 49, 48, 46, 53, 46, 48, 47, 51] : Str)).bind fun o308 => (Sum.elim (fun o309 => (fV n (2026 : Int) (3 : Int) (29 : Int) (2 : Int) (30 : Int) (0 : Int) (0 : Int)).bind fun o331 => ((fV n (2026 : Int) (10 : Int) (25 : Int) (2 : Int) (30 : Int) (0 : Int) (0 : Int)).bind fun o332 => (cond (o307.2.2.2.2.2.2.2 == (0 : Int)) (cond ((o307.1 == (1970 : Int)) && ((o307.2.1 == (1 : Int)) && ((o307.2.2.1 == (1 : Int)) && ((o307.2.2.2.1 == (0 : Int)) && ((o307.2.2.2.2.1 == (0 : Int)) && ((o307.2.2.2.2.2.1 == (0 : Int)) && ((o307.2.2.2.2.2.2.1 == (0 : Int)) && true))))))) (cond (o309 == (0 : Int)) (cond (o331.2 == (0 : Int)) (cond ((o331.1.length : Int) == (0 : Int)) (cond (o332.2 == (0 : Int)) (cond ((o332.1.length : Int) == (2 : Int)) ((o332.1[1]?).bind fun e333 => ((o332.1[0]?).bind fun e334 => (K ((IntKind.i64.wrap (e333 - e334)) == (3600000000 : Int))))) (K false)) (K false)) (K false)) (K false)) (K false)) (K false)) (K false)))) (fun o310 => Sum.elim (fun o335 => (dX n (2026 : Int) (3 : Int) (29 : Int) (2 : Int) (30 : Int) (0 : Int) (0 : Int) o335.1 o335.2.1 o335.2.2.1 o335.2.2.2.1 o335.2.2.2.2.1 o335.2.2.2.2.2.1 o335.2.2.2.2.2.2.1 o335.2.2.2.2.2.2.2.1 o335.2.2.2.2.2.2.2.2.1 o335.2.2.2.2.2.2.2.2.2.1 o335.2.2.2.2.2.2.2.2.2.2.1 o335.2.2.2.2.2.2.2.2.2.2.2.1 o335.2.2.2.2.2.2.2.2.2.2.2.2.1 o335.2.2.2.2.2.2.2.2.2.2.2.2.2.1 o335.2.2.2.2.2.2.2.2.2.2.2.2.2.2.1 o335.2.2.2.2.2.2.2.2.2.2.2.2.2.2.2.1 o335.2.2.2.2.2.2.2.2.2.2.2.2.2.2.2.2.1 o335.2.2.2.2.2.2.2.2.2.2.2.2.2.2.2.2.2).bind fun o426 => ((dX n (2026 : Int) (10 : Int) (25 : Int) (2 : Int) (30 : Int) (0 : Int) (0 : Int) o426.2.2.1 o426.2.2.2.1 o426.2.2.2.2.1 o426.2.2.2.2.2.1 o426.2.2.2.2.2.2.1 o426.2.2.2.2.2.2.2.1 o426.2.2.2.2.2.2.2.2.1 o426.2.2.2.2.2.2.2.2.2.1 o426.2.2.2.2.2.2.2.2.2.2.1 o426.2.2.2.2.2.2.2.2.2.2.2.1 o426.2.2.2.2.2.2.2.2.2.2.2.2.1 o426.2.2.2.2.2.2.2.2.2.2.2.2.2.1 o426.2.2.2.2.2.2.2.2.2.2.2.2.2.2.1 o426.2.2.2.2.2.2.2.2.2.2.2.2.2.2.2.1 o426.2.2.2.2.2.2.2.2.2.2.2.2.2.2.2.2.1 o426.2.2.2.2.2.2.2.2.2.2.2.2.2.2.2.2.2.1 o426.2.2.2.2.2.2.2.2.2.2.2.2.2.2.2.2.2.2.1 o426.2.2.2.2.2.2.2.2.2.2.2.2.2.2.2.2.2.2.2).bind fun o427 => (cond (o307.2.2.2.2.2.2.2 == (0 : Int)) (cond ((o307.1 == (1970 : Int)) && ((o307.2.1 == (1 : Int)) && ((o307.2.2.1 == (1 : Int)) && ((o307.2.2.2.1 == (0 : Int)) && ((o307.2.2.2.2.1 == (0 : Int)) && ((o307.2.2.2.2.2.1 == (0 : Int)) && ((o307.2.2.2.2.2.2.1 == (0 : Int)) && true))))))) (cond (o426.2.1 == (0 : Int)) (cond ((o426.1.length : Int) == (0 : Int)) (cond (o427.2.1 == (0 : Int)) (cond ((o427.1.length : Int) == (2 : Int)) ((o427.1[1]?).bind fun e428 => ((o427.1[0]?).bind fun e429 => (K ((IntKind.i64.wrap (e428 - e429)) == (3600000000 : Int))))) (K false)) (K false)) (K false)) (K false)) (K false)) (K false)))) (fun o336 => (dZ n (2026 : Int) (3 : Int) (29 : Int) (2 : Int) (30 : Int) (0 : Int) (0 : Int) o336.1 o336.2.1 o336.2.2.1 o336.2.2.2).bind fun o473 => ((dZ n (2026 : Int) (10 : Int) (25 : Int) (2 : Int) (30 : Int) (0 : Int) (0 : Int) o473.2.2.1 o473.2.2.2.1 o473.2.2.2.2.1 o473.2.2.2.2.2).bind fun o474 => (cond (o307.2.2.2.2.2.2.2 == (0 : Int)) (cond ((o307.1 == (1970 : Int)) && ((o307.2.1 == (1 : Int)) && ((o307.2.2.1 == (1 : Int)) && ((o307.2.2.2.1 == (0 : Int)) && ((o307.2.2.2.2.1 == (0 : Int)) && ((o307.2.2.2.2.2.1 == (0 : Int)) && ((o307.2.2.2.2.2.2.1 == (0 : Int)) && true))))))) (cond (o473.2.1 == (0 : Int)) (cond ((o473.1.length : Int) == (0 : Int)) (cond (o474.2.1 == (0 : Int)) (cond ((o474.1.length : Int) == (2 : Int)) ((o474.1[1]?).bind fun e475 => ((o474.1[0]?).bind fun e476 => (K ((IntKind.i64.wrap (e475 - e476)) == (3600000000 : Int))))) (K false)) (K false)) (K false)) (K false)) (K false)) (K false)))) o310) o308))
def aS n := l9 n _ some
def BM : FS := ⟨[], [], [([.b], [])]⟩
def pF (n : Nat) : FSpec := BM.sp (aS n)
theorem qH (n : Nat) : FSound Tryz.prog 10 (pF n) := fs2 (S := BM) (b := l9 n) Tryz.func10 rfl rfl [.tmp 0] (.s .a (.s .a (.s (.r [(1, .cl 17 (FZ n)), (4, .tk [10])]) (.s (.r [(2, .tk [17]), (3, .cl 27 (Ka n)), (6, .tk [15])]) (.s (.r [(3, .cl 20 (l8 n)), (4, .tk [26]), (6, .tk [22])]) (.s (.r [(3, .cl 20 (l8 n)), (4, .tk [33]), (6, .tk [29])]) (.s (.d [] [(33, .no), (36, .no)]) .a))))))) (nt0 (l9 n) (by intros; unfold l9; simp only [ax])) (ai (JI n) (ai (Kb n) (ai (oP n) (ai (oP n) trivial))))
end Go.Proofs.YtiegmpnagcdgoaaGreatDoor.H
namespace Go.Proofs.YtiegmpnagcdgoaaGreatDoor.H
open Go.Sh Go.RowKit
set_option linter.unusedVariables false
set_option linter.unusedSimpArgs false
set_option maxHeartbeats 4000000
set_option maxRecDepth 100000
def jX (n : Nat) (h0_0 : List (List AV)) (h0_1 h0_2 : List Int) (h0_3 : Str) (h1_0 : List (List AV)) (h1_1 h1_2 : List Int) (h1_3 h1_4 h1_5 : Str) (h1_6 h1_7 h1_8 h1_9 h1_10 h1_11 h1_12 h1_13 h1_14 h1_15 h1_16 h1_17 : Int) (h1_18 h1_19 : Bool) (R : Type) (K : W10 → Option R) : Option R := cond (decide ((h0_0.length : Int) > (40 : Int))) (K (true, h0_0, h0_1, h0_2, h0_3, h1_0, h1_1, h1_2, h1_3, h1_4, h1_5, h1_6, h1_7, h1_8, h1_9, h1_10, h1_11, h1_12, h1_13, h1_14, h1_15, h1_16, h1_17, h1_18, h1_19)) (K (decide ((h0_1.length : Int) > (300 : Int)), h0_0, h0_1, h0_2, h0_3, h1_0, h1_1, h1_2, h1_3, h1_4, h1_5, h1_6, h1_7, h1_8, h1_9, h1_10, h1_11, h1_12, h1_13, h1_14, h1_15, h1_16, h1_17, h1_18, h1_19))
def qo n h0_0 h0_1 h0_2 h0_3 h1_0 h1_1 h1_2 h1_3 h1_4 h1_5 h1_6 h1_7 h1_8 h1_9 h1_10 h1_11 h1_12 h1_13 h1_14 h1_15 h1_16 h1_17 h1_18 h1_19 := jX n h0_0 h0_1 h0_2 h0_3 h1_0 h1_1 h1_2 h1_3 h1_4 h1_5 h1_6 h1_7 h1_8 h1_9 h1_10 h1_11 h1_12 h1_13 h1_14 h1_15 h1_16 h1_17 h1_18 h1_19 _ some
def uf : PS := ⟨[5], [(2, .q 0 0)], some [.c 26 [.L false 3, .l .i64, .l .i64, .s], .c 36 [.L true 3, .I true .i64, .I true .i64, .s, .s, .s, .n, .n, .c, .n, .n, .n, .n, .c, .n, .n, .n, .n, .b, .b]], [⟨.normal, [2, 5], [(22, .b)], [.c 26 [.L false 3, .l .i64, .l .i64, .s], .c 36 [.L true 3, .I true .i64, .I true .i64, .s, .s, .s, .n, .n, .c, .n, .n, .n, .n, .c, .n, .n, .n, .n, .b, .b]], none⟩], none, none⟩
theorem Gd (n : Nat) : Snd ⟨Tryz.prog, 0, 43⟩ (uf.x (qo n)) (fb Tryz.f9 19) := jC (S := uf) (b := jX n) .a (aca (jX n) (by intros; unfold jX; simp only [ax])) trivial
def nJ (n : Nat) (a0 : List (List AV)) (a1 a2 : List Int) (a3 : Str) (a4 : Bool) (R : Type) (K : (((List (List AV)) × (List Int) × (List Int) × Str × Str × Str × Int × Int × Int × Int × Int × Int × Int × Int × Int × Int × Int × Int × Bool × Bool × Bool) ⊕ ((List (List AV)) × (List Int) × (List Int) × Str × Str × Str × Int × Int × Int × Int × Int × Int × Int × Int × Int × Int × Int × Int × Bool × Bool × (List (List AV)) × (List Int) × (List Int) × Str × Str × Str × Int × Int × Int × Int × Int × Int × Int × Int × Int × Int × Int × Int) ⊕ ((List (List AV)) × (List Int) × (List Int) × Str × Str × Str × Int × Int × Int × Int × Int × Int × Int × Int × Int × Int × Int × Int × Bool × Bool × (List (List AV)) × (List Int) × (List Int) × Str)) → Option R) : Option R := cond a4 (K (Sum.inl (([] : List (List AV)), ([] : List Int), ([] : List Int), ([] : Str), ([] : Str), ([] : Str), (0 : Int), (0 : Int), (0 : Int), (0 : Int), (0 : Int), (0 : Int), (0 : Int), (0 : Int), (0 : Int), (0 : Int), (0 : Int), (0 : Int), false, true, true))) ((qo n a0 a1 a2 a3 ([] : List (List AV)) ([] : List Int) ([] : List Int) ([] : Str) ([] : Str) ([] : Str) (0 : Int) (0 : Int) (0 : Int) (0 : Int) (0 : Int) (0 : Int) (0 : Int) (0 : Int) (0 : Int) (0 : Int) (0 : Int) (0 : Int) false false).bind fun o1 => (cond o1.1 (K (Sum.inl (([] : List (List AV)), ([] : List Int), ([] : List Int), ([] : Str), ([] : Str), ([] : Str), (0 : Int), (0 : Int), (0 : Int), (0 : Int), (0 : Int), (0 : Int), (0 : Int), (0 : Int), (0 : Int), (0 : Int), (0 : Int), (0 : Int), false, false, false))) ((CB n o1.2.1 o1.2.2.1 o1.2.2.2.1 o1.2.2.2.2.1).bind fun o129 => (Sum.elim (fun o130 => (ja n o1.2.1 o1.2.2.1 o1.2.2.2.1 o1.2.2.2.2.1).bind fun o143 => ((fU n o143.1 o143.2.1 o143.2.2.1 o143.2.2.2).bind fun o283 => (cond (o130 == (0 : Int)) (K (Sum.inl (o283.1, o283.2.1, o283.2.2.1, o283.2.2.2.1, o283.2.2.2.2.1, o283.2.2.2.2.2.1, o283.2.2.2.2.2.2.1, o283.2.2.2.2.2.2.2.1, o283.2.2.2.2.2.2.2.2.1, o283.2.2.2.2.2.2.2.2.2.1, o283.2.2.2.2.2.2.2.2.2.2.1, o283.2.2.2.2.2.2.2.2.2.2.2.1, o283.2.2.2.2.2.2.2.2.2.2.2.2.1, o283.2.2.2.2.2.2.2.2.2.2.2.2.2.1, o283.2.2.2.2.2.2.2.2.2.2.2.2.2.2.1, o283.2.2.2.2.2.2.2.2.2.2.2.2.2.2.2.1, o283.2.2.2.2.2.2.2.2.2.2.2.2.2.2.2.2.1, o283.2.2.2.2.2.2.2.2.2.2.2.2.2.2.2.2.2.1, o283.2.2.2.2.2.2.2.2.2.2.2.2.2.2.2.2.2.2.1, false, o283.2.2.2.2.2.2.2.2.2.2.2.2.2.2.2.2.2.2.2 == (0 : Int)))) (K (Sum.inl (o283.1, o283.2.1, o283.2.2.1, o283.2.2.2.1, o283.2.2.2.2.1, o283.2.2.2.2.2.1, o283.2.2.2.2.2.2.1, o283.2.2.2.2.2.2.2.1, o283.2.2.2.2.2.2.2.2.1, o283.2.2.2.2.2.2.2.2.2.1, o283.2.2.2.2.2.2.2.2.2.2.1, o283.2.2.2.2.2.2.2.2.2.2.2.1, o283.2.2.2.2.2.2.2.2.2.2.2.2.1, o283.2.2.2.2.2.2.2.2.2.2.2.2.2.1, o283.2.2.2.2.2.2.2.2.2.2.2.2.2.2.1, o283.2.2.2.2.2.2.2.2.2.2.2.2.2.2.2.1, o283.2.2.2.2.2.2.2.2.2.2.2.2.2.2.2.2.1, o283.2.2.2.2.2.2.2.2.2.2.2.2.2.2.2.2.2.1, o283.2.2.2.2.2.2.2.2.2.2.2.2.2.2.2.2.2.2.1, false, false)))))) (fun o131 => Sum.elim (fun o284 => (ja n o1.2.1 o1.2.2.1 o1.2.2.2.1 o1.2.2.2.2.1).bind fun o286 => ((fU n o286.1 o286.2.1 o286.2.2.1 o286.2.2.2).bind fun o287 => (K (Sum.inr (Sum.inl (o287.1, o287.2.1, o287.2.2.1, o287.2.2.2.1, o287.2.2.2.2.1, o287.2.2.2.2.2.1, o287.2.2.2.2.2.2.1, o287.2.2.2.2.2.2.2.1, o287.2.2.2.2.2.2.2.2.1, o287.2.2.2.2.2.2.2.2.2.1, o287.2.2.2.2.2.2.2.2.2.2.1, o287.2.2.2.2.2.2.2.2.2.2.2.1, o287.2.2.2.2.2.2.2.2.2.2.2.2.1, o287.2.2.2.2.2.2.2.2.2.2.2.2.2.1, o287.2.2.2.2.2.2.2.2.2.2.2.2.2.2.1, o287.2.2.2.2.2.2.2.2.2.2.2.2.2.2.2.1, o287.2.2.2.2.2.2.2.2.2.2.2.2.2.2.2.2.1, o287.2.2.2.2.2.2.2.2.2.2.2.2.2.2.2.2.2.1, o287.2.2.2.2.2.2.2.2.2.2.2.2.2.2.2.2.2.2.1, o287.2.2.2.2.2.2.2.2.2.2.2.2.2.2.2.2.2.2.2 == (0 : Int), o284.1, o284.2.1, o284.2.2.1, o284.2.2.2.1, o284.2.2.2.2.1, o284.2.2.2.2.2.1, o284.2.2.2.2.2.2.1, o284.2.2.2.2.2.2.2.1, o284.2.2.2.2.2.2.2.2.1, o284.2.2.2.2.2.2.2.2.2.1, o284.2.2.2.2.2.2.2.2.2.2.1, o284.2.2.2.2.2.2.2.2.2.2.2.1, o284.2.2.2.2.2.2.2.2.2.2.2.2.1, o284.2.2.2.2.2.2.2.2.2.2.2.2.2.1, o284.2.2.2.2.2.2.2.2.2.2.2.2.2.2.1, o284.2.2.2.2.2.2.2.2.2.2.2.2.2.2.2.1, o284.2.2.2.2.2.2.2.2.2.2.2.2.2.2.2.2.1, o284.2.2.2.2.2.2.2.2.2.2.2.2.2.2.2.2.2)))))) (fun o285 => (ja n o1.2.1 o1.2.2.1 o1.2.2.2.1 o1.2.2.2.2.1).bind fun o288 => ((fU n o288.1 o288.2.1 o288.2.2.1 o288.2.2.2).bind fun o289 => (K (Sum.inr (Sum.inr (o289.1, o289.2.1, o289.2.2.1, o289.2.2.2.1, o289.2.2.2.2.1, o289.2.2.2.2.2.1, o289.2.2.2.2.2.2.1, o289.2.2.2.2.2.2.2.1, o289.2.2.2.2.2.2.2.2.1, o289.2.2.2.2.2.2.2.2.2.1, o289.2.2.2.2.2.2.2.2.2.2.1, o289.2.2.2.2.2.2.2.2.2.2.2.1, o289.2.2.2.2.2.2.2.2.2.2.2.2.1, o289.2.2.2.2.2.2.2.2.2.2.2.2.2.1, o289.2.2.2.2.2.2.2.2.2.2.2.2.2.2.1, o289.2.2.2.2.2.2.2.2.2.2.2.2.2.2.2.1, o289.2.2.2.2.2.2.2.2.2.2.2.2.2.2.2.2.1, o289.2.2.2.2.2.2.2.2.2.2.2.2.2.2.2.2.2.1, o289.2.2.2.2.2.2.2.2.2.2.2.2.2.2.2.2.2.2.1, o289.2.2.2.2.2.2.2.2.2.2.2.2.2.2.2.2.2.2.2 == (0 : Int), o285.1, o285.2.1, o285.2.2.1, o285.2.2.2)))))) o131) o129))))
def ik n a0 a1 a2 a3 a4 := nJ n a0 a1 a2 a3 a4 _ some
def Cj : FS := ⟨[.a [.L false 3, .l .i64, .l .i64, .s], .b], [], [([.x (.ptr none), .a [.L false 3, .l .i64, .l .i64, .s, .s, .s, .n, .n, .c, .n, .n, .n, .n, .c, .n, .n, .n, .n, .b, .b], .b], []), ([.q 0 0, .a [.L false 3, .l .i64, .l .i64, .s, .s, .s, .n, .n, .c, .n, .n, .n, .n, .c, .n, .n, .n, .n, .b, .x (.bool false)], .b], [.c 82 [.L false 3, .l .i64, .l .i64, .s, .q 1 0], .c 87 [.s, .s, .n, .n, .c, .n, .n, .n, .n, .c, .n, .n, .n, .n]]), ([.q 0 0, .a [.L false 3, .l .i64, .l .i64, .s, .s, .s, .n, .n, .c, .n, .n, .n, .n, .c, .n, .n, .n, .n, .b, .x (.bool false)], .b], [.c 82 [.L false 3, .l .i64, .l .i64, .s, .x (.ptr none)]])]⟩
def Ck (n : Nat) : FSpec := Cj.sp (ik n)
theorem Je (n : Nat) : FSound Tryz.prog 9 (Ck n) := fs2 (S := Cj) (b := nJ n) Tryz.func9 rfl rfl [.tmp 4, .cell 5 36 20 true, .tmp 6] (.s .a (.s (.s .a (.s (.s (.r [(2, .tk [12])]) .a) .a)) (.s (.s (.p (uf.x (qo n))) (.s (.s (.r [(2, .tk [23])]) .a) .a)) (.s (.r [(1, .cl 27 (Ka n)), (4, .tk [24])]) (.s (.r [(1, .cl 29 (zU n)), (2, .cl 28 (Cc n)), (5, .tk [29])]) (.s (.d [] [(0, .part [2, 3]), (1, .part [4]), (8, .part [2, 3]), (9, .part [1])]) .a)))))) (nt5 (nJ n) (by intros; unfold nJ; simp only [ax])) (ai (Gd n) (ai (Kb n) (ai (FO n) (ai (Ho n) trivial))))
def BN (n : Nat) : FSpec := Zy 2 (Ck n)
theorem Gz (n : Nat) : FSound Tryz.prog 9 (BN n) := Oz (Je n)
def ma (n : Nat) (a0 a1 : Int) (R : Type) (K : Int → Option R) : Option R := cond (a1 == 0) none (cond (a1 == 0) none (cond (decide ((Int.tmod a0 a1) < (0 : Int))) (K (IntKind.i64.wrap ((IntKind.i64.wrap (Int.tdiv a0 a1)) - (1 : Int)))) (K (IntKind.i64.wrap (Int.tdiv a0 a1)))))
def qp n a0 a1 := ma n a0 a1 _ some
def BO : FS := ⟨[.n, .n], [], [([.n], [])]⟩
def Ad (n : Nat) : FSpec := BO.sp (qp n)
theorem Gf (n : Nat) : FSound Tryz.prog 11 (Ad n) := fs2 (S := BO) (b := ma n) Tryz.func11 rfl rfl [.tmp 4] .a (nt2 (ma n) (by intros; unfold ma; simp only [ax])) trivial
end Go.Proofs.YtiegmpnagcdgoaaGreatDoor.H
namespace Go.Proofs.YtiegmpnagcdgoaaGreatDoor.H
open Go.Sh Go.RowKit
set_option linter.unusedVariables false
set_option linter.unusedSimpArgs false
set_option maxHeartbeats 4000000
set_option maxRecDepth 100000
def mf (n : Nat) (a0 a1 : Int) (R : Type) (K : Int → Option R) : Option R := cond (a1 == 0) none (cond (a1 == 0) none (cond (decide ((Int.tmod a0 a1) < (0 : Int))) (K (IntKind.i64.wrap ((IntKind.i64.wrap (Int.tdiv a0 a1)) - (1 : Int)))) (K (IntKind.i64.wrap (Int.tdiv a0 a1)))))
def mg n a0 a1 := mf n a0 a1 _ some
def BP : FS := ⟨[.n, .n], [], [([.n], [])]⟩
def Ae (n : Nat) : FSpec := BP.sp (mg n)
theorem Gg (n : Nat) : FSound Tryz.prog 71 (Ae n) := fs2 (S := BP) (b := mf n) Tryz.func71 rfl rfl [.tmp 4] .a (nt2 (mf n) (by intros; unfold mf; simp only [ax])) trivial
def nK (n : Nat) (a0 : Int) (R : Type) (K : Bool → Option R) : Option R := cond ((Int.tmod a0 (4 : Int)) == (0 : Int)) (cond ((Int.tmod a0 (100 : Int)) != (0 : Int)) (K true) (K ((Int.tmod a0 (400 : Int)) == (0 : Int)))) (K false)
def il n a0 := nK n a0 _ some
def Cm : FS := ⟨[.n], [], [([.b], [])]⟩
def mh (n : Nat) : FSpec := Cm.sp (il n)
theorem nk (n : Nat) : FSound Tryz.prog 83 (mh n) := fs2 (S := Cm) (b := nK n) Tryz.func83 rfl rfl [.tmp 2] .a (nt1 (nK n) (by intros; unfold nK; simp only [ax])) trivial
def iO (n : Nat) (x3 x4 : Int) (R : Type) (K : (Int) → Option R) : Option R := (il n x4).bind fun o484 => (cond o484 (K (IntKind.i64.wrap ((IntKind.i64.wrap (x3 + (365 : Int))) + (1 : Int)))) (K (IntKind.i64.wrap (x3 + (365 : Int)))))
def nX n x3 x4 := iO n x3 x4 _ some
def qI : PS := ⟨[0], [(3, .n), (4, .n)], none, [⟨.normal, [0, 4], [(3, .n)], [], none⟩], none, none⟩
def fF (n : Nat) (x0 x3 x4 : Int) (R : Type) (A_ : Int → Int → Int → Option R) (K : (Int) → Option R) : Option R := cond (decide (x4 < x0)) ((nX n x3 x4).bind fun o485 => (A_ x0 o485 (IntKind.i64.wrap (x4 + (1 : Int))))) (K x3)
def bE (n : Nat) : Nat → Int → Int → Int → Option ((Int))
 | 0, _, _, _ => none
 | m + 1, x0, x3, x4 => fF n x0 x3 x4 _ (bE n m) some
def qJ : PS := ⟨[], [(0, .n), (3, .n), (4, .n)], none, [⟨(.exit 0), [0], [(3, .n)], [], none⟩], none, none⟩
def iP (n : Nat) (x3 x5 : Int) (R : Type) (K : (Int) → Option R) : Option R := (il n x5).bind fun o487 => (cond o487 (K (IntKind.i64.wrap ((IntKind.i64.wrap (x3 - (365 : Int))) - (1 : Int)))) (K (IntKind.i64.wrap (x3 - (365 : Int)))))
def nY n x3 x5 := iP n x3 x5 _ some
def qK : PS := ⟨[], [(3, .n), (5, .n)], none, [⟨.normal, [5], [(3, .n)], [], none⟩], none, none⟩
def fG (n : Nat) (x3 x5 : Int) (R : Type) (A_ : Int → Int → Option R) (K : (Int) → Option R) : Option R := cond (decide (x5 < (1970 : Int))) ((nY n x3 x5).bind fun o488 => (A_ o488 (IntKind.i64.wrap (x5 + (1 : Int))))) (K x3)
def cO (n : Nat) : Nat → Int → Int → Option ((Int))
 | 0, _, _ => none
 | m + 1, x3, x5 => fG n x3 x5 _ (cO n m) some
def qL : PS := ⟨[], [(3, .n), (5, .n)], none, [⟨(.exit 2), [], [(3, .n)], [], none⟩], none, none⟩
theorem D7 (n : Nat) : Snd ⟨Tryz.prog, 0, 29⟩ (qI.x (nX n)) (fb Tryz.f82 331) := jC (S := qI) (b := iO n) (.u (.s .a (.s (.r [(1, .cl 83 (mh n))]) .a))) (nt2 (iO n) (by intros; unfold iO; simp only [ax])) (ai (nk n) trivial)
theorem D8 (n : Nat) : Snd ⟨Tryz.prog, 0, 29⟩ (qK.x (nY n)) (fb Tryz.f82 663) := jC (S := qK) (b := iP n) (.u (.s .a (.s (.r [(1, .cl 83 (mh n))]) .a))) (nt2 (iP n) (by intros; unfold iP; simp only [ax])) (ai (nk n) trivial)
theorem D9 (n : Nat) : Snd ⟨Tryz.prog, 0, 29⟩ (qJ.x (bE n n)) (fb Tryz.f82 43) := lC (S := qJ) (b := fF n) (f := bE n) n (.s .a (.s (.p (qI.x (nX n))) .a)) (nl3 (fF n) (by intros; unfold fF; simp only [ax])) (ai (D7 n) trivial)
theorem Ea (n : Nat) : Snd ⟨Tryz.prog, 0, 29⟩ (qL.x (cO n n)) (fb Tryz.f82 87) := lC (S := qL) (b := fG n) (f := cO n) n (.s .a (.s (.p (qK.x (nY n))) .a)) (nl2 (fG n) (by intros; unfold fG; simp only [ax])) (ai (D8 n) trivial)
def kQ (n : Nat) (a0 : Int) (R : Type) (K : Int → Option R) : Option R := (bE n n a0 (0 : Int) (1970 : Int)).bind fun o486 => ((cO n n o486 a0).bind fun o489 => (K o489))
def dB n a0 := kQ n a0 _ some
def Af : FS := ⟨[.n], [], [([.n], [])]⟩
def ib (n : Nat) : FSpec := Af.sp (dB n)
theorem iD (n : Nat) : FSound Tryz.prog 82 (ib n) := fs2 (S := Af) (b := kQ n) Tryz.func82 rfl rfl [.tmp 2] (.s .a (.s .a (.s (.s .a (.u (.p (qJ.x (bE n n))))) (.s (.s .a (.u (.p (qL.x (cO n n))))) .a)))) (nt1 (kQ n) (by intros; unfold kQ; simp only [ax])) (ai (D9 n) (ai (Ea n) trivial))
def iQ (n : Nat) (x0 x3 : Int) (R : Type) (A_ : Int → Int → Option R) (K : (Int) → Option R) : Option R := (dB n x3).bind fun o490 => (cond (decide (x0 < o490)) ((dB n x3).bind fun o491 => (A_ x0 (IntKind.i64.wrap ((IntKind.i64.wrap (x3 - (1 : Int))) - (IntKind.i64.wrap (Int.tdiv (IntKind.i64.wrap (o491 - x0)) (366 : Int))))))) (K x3))
def eH (n : Nat) : Nat → Int → Int → Option ((Int))
 | 0, _, _ => none
 | m + 1, x0, x3 => iQ n x0 x3 _ (eH n m) some
def qM : PS := ⟨[], [(0, .n), (3, .n)], none, [⟨(.exit 0), [0], [(3, .n)], [], none⟩], none, none⟩
def iR (n : Nat) (x0 x3 : Int) (R : Type) (A_ : Int → Int → Option R) (K : (Int) → Option R) : Option R := (dB n (IntKind.i64.wrap (x3 + (1 : Int)))).bind fun o493 => (cond (decide (x0 ≥ o493)) ((dB n (IntKind.i64.wrap (x3 + (1 : Int)))).bind fun o494 => (A_ x0 (IntKind.i64.wrap ((IntKind.i64.wrap (x3 + (1 : Int))) + (IntKind.i64.wrap (Int.tdiv (IntKind.i64.wrap (x0 - o494)) (366 : Int))))))) (K x3))
def eO (n : Nat) : Nat → Int → Int → Option ((Int))
 | 0, _, _ => none
 | m + 1, x0, x3 => iR n x0 x3 _ (eO n m) some
def qN : PS := ⟨[], [(0, .n), (3, .n)], none, [⟨(.exit 2), [], [(3, .n)], [], none⟩], none, none⟩
theorem Eb (n : Nat) : Snd ⟨Tryz.prog, 0, 31⟩ (qM.x (eH n n)) (fb Tryz.f70 19) := lC (S := qM) (b := iQ n) (f := eH n) n (.s (.s (.r [(2, .cl 82 (ib n))]) .a) (.u (.r [(3, .cl 82 (ib n))]))) (nl2 (iQ n) (by intros; unfold iQ; simp only [ax])) (ai (iD n) (ai (iD n) trivial))
theorem Ec (n : Nat) : Snd ⟨Tryz.prog, 0, 31⟩ (qN.x (eO n n)) (fb Tryz.f70 39) := lC (S := qN) (b := iR n) (f := eO n) n (.s (.s (.r [(3, .cl 82 (ib n))]) .a) (.u (.r [(5, .cl 82 (ib n))]))) (nl2 (iR n) (by intros; unfold iR; simp only [ax])) (ai (iD n) (ai (iD n) trivial))
def kR (n : Nat) (a0 : Int) (R : Type) (K : Int → Option R) : Option R := (eH n n a0 (1970 : Int)).bind fun o492 => ((eO n n a0 o492).bind fun o495 => (K o495))
def kT n a0 := kR n a0 _ some
def Ag : FS := ⟨[.n], [], [([.n], [])]⟩
def y8 (n : Nat) : FSpec := Ag.sp (kT n)
theorem EN (n : Nat) : FSound Tryz.prog 70 (y8 n) := fs2 (S := Ag) (b := kR n) Tryz.func70 rfl rfl [.tmp 2] (.s .a (.s .a (.s (.u (.p (qM.x (eH n n)))) (.s (.u (.p (qN.x (eO n n)))) .a)))) (nt1 (kR n) (by intros; unfold kR; simp only [ax])) (ai (Eb n) (ai (Ec n) trivial))
def nZ (n : Nat) (x5 : Int) (R : Type) (K : (Bool) → Option R) : Option R := cond (x5 == (4 : Int)) (K true) (cond (x5 == (6 : Int)) (K true) (cond (x5 == (9 : Int)) (K true) (K (x5 == (11 : Int)))))
def vK n x5 := nZ n x5 _ some
def ug : PS := ⟨[0], [(5, .n)], none, [⟨.normal, [0, 5], [(6, .b)], [], none⟩], none, none⟩
theorem Gi (n : Nat) : Snd ⟨Tryz.prog, 0, 15⟩ (ug.x (vK n)) (fb Tryz.f84 37) := jC (S := ug) (b := nZ n) .a (nt1 (nZ n) (by intros; unfold nZ; simp only [ax])) trivial
def nL (n : Nat) (a0 a1 : Int) (R : Type) (K : Int → Option R) : Option R := (vK n a1).bind fun o500 => (cond o500 (K (30 : Int)) (cond (a1 == (2 : Int)) ((il n a0).bind fun o501 => (cond o501 (K (29 : Int)) (K (28 : Int)))) (K (31 : Int))))
def nM n a0 a1 := nL n a0 a1 _ some
def Cn : FS := ⟨[.n, .n], [], [([.n], [])]⟩
def vL (n : Nat) : FSpec := Cn.sp (nM n)
theorem yo (n : Nat) : FSound Tryz.prog 84 (vL n) := fs2 (S := Cn) (b := nL n) Tryz.func84 rfl rfl [.tmp 4] (.s .a (.s (.s .a (.u (.s (.p (ug.x (vK n))) (.s .a (.s .a (.s (.s (.s (.r [(1, .cl 83 (mh n))]) .a) .a) .a)))))) .a)) (nt2 (nL n) (by intros; unfold nL; simp only [ax])) (ai (Gi n) (ai (nk n) trivial))
def iT (n : Nat) (x1 h0_0 h0_1 h0_2 h0_3 h0_4 : Int) (R : Type) (K : W2 → Option R) : Option R := (il n x1).bind fun o498 => (cond o498 (K (decide (h0_3 > (59 : Int)), h0_0, h0_1, h0_2, h0_3, h0_4)) (K (false, h0_0, h0_1, h0_2, h0_3, h0_4)))
def og n x1 h0_0 h0_1 h0_2 h0_3 h0_4 := iT n x1 h0_0 h0_1 h0_2 h0_3 h0_4 _ some
def qO : PS := ⟨[5], [(1, .n), (2, .q 0 0)], some [.c 32 [.c, .n, .n, .n, .n]], [⟨.normal, [2, 5], [(28, .b)], [.c 32 [.c, .n, .n, .n, .n]], none⟩], none, none⟩
def iU (n : Nat) (x1 x5 x6 h0_0 h0_1 h0_2 h0_3 h0_4 : Int) (R : Type) (A_ : Int → Int → Int → Int → Int → Int → Int → Int → Option R) (K : W20 → Option R) : Option R := cond (decide (x6 < h0_1)) ((nM n x1 x6).bind fun o502 => (A_ x1 (IntKind.i64.wrap (x5 + o502)) (IntKind.i64.wrap (x6 + (1 : Int))) h0_0 h0_1 h0_2 h0_3 h0_4)) (K (x5, h0_0, h0_1, h0_2, h0_3, h0_4))
def eP (n : Nat) : Nat → Int → Int → Int → Int → Int → Int → Int → Int → Option (W20)
 | 0, _, _, _, _, _, _, _, _ => none
 | m + 1, x1, x5, x6, h0_0, h0_1, h0_2, h0_3, h0_4 => iU n x1 x5 x6 h0_0 h0_1 h0_2 h0_3 h0_4 _ (eP n m) some
def qP : PS := ⟨[], [(1, .n), (2, .q 0 0), (5, .n), (6, .n)], some [.c 32 [.c, .n, .n, .n, .n]], [⟨(.exit 1), [1, 2], [(5, .n)], [.c 32 [.c, .n, .n, .n, .n]], none⟩], none, none⟩
def iV (n : Nat) (x8 x10 h0_0 h0_1 h0_2 h0_3 h0_4 : Int) (R : Type) (K : W2 → Option R) : Option R := cond (x10 == h0_3) (K (decide (x8 < h0_2), h0_0, h0_1, h0_2, h0_3, h0_4)) (K (false, h0_0, h0_1, h0_2, h0_3, h0_4))
def oh n x8 x10 h0_0 h0_1 h0_2 h0_3 h0_4 := iV n x8 x10 h0_0 h0_1 h0_2 h0_3 h0_4 _ some
def qQ : PS := ⟨[1, 5, 7, 9], [(2, .q 0 0), (8, .n), (10, .n)], some [.c 32 [.c, .n, .n, .n, .n]], [⟨.normal, [1, 2, 5, 7, 8, 9], [(74, .b)], [.c 32 [.c, .n, .n, .n, .n]], none⟩], none, none⟩
def iW (n : Nat) (x5 x7 x8 x9 h0_0 h0_1 h0_2 h0_3 h0_4 : Int) (R : Type) (K : (Int × Int × Int × Int × Int × Int × Int) → Option R) : Option R := (oh n x8 (Int.tmod (IntKind.i64.wrap ((Int.tmod (IntKind.i64.wrap ((IntKind.i64.wrap (x5 + x9)) + (4 : Int))) (7 : Int)) + (7 : Int))) (7 : Int)) h0_0 h0_1 h0_2 h0_3 h0_4).bind fun o505 => (cond o505.1 (K (IntKind.i64.wrap (x5 + x9), IntKind.i64.wrap (x8 + (1 : Int)), o505.2.1, o505.2.2.1, o505.2.2.2.1, o505.2.2.2.2.1, o505.2.2.2.2.2)) (K (x7, x8, o505.2.1, o505.2.2.1, o505.2.2.2.1, o505.2.2.2.2.1, o505.2.2.2.2.2)))
def ol n x5 x7 x8 x9 h0_0 h0_1 h0_2 h0_3 h0_4 := iW n x5 x7 x8 x9 h0_0 h0_1 h0_2 h0_3 h0_4 _ some
def qR : PS := ⟨[1], [(2, .q 0 0), (5, .n), (7, .n), (8, .n), (9, .n)], some [.c 32 [.c, .n, .n, .n, .n]], [⟨.normal, [1, 2, 5, 9], [(7, .n), (8, .n)], [.c 32 [.c, .n, .n, .n, .n]], none⟩], none, none⟩
def iX (n : Nat) (x1 x5 x7 x8 x9 h0_0 h0_1 h0_2 h0_3 h0_4 : Int) (R : Type) (A_ : Int → Int → Int → Int → Int → Int → Int → Int → Int → Int → Option R) (K : W20 → Option R) : Option R := (nM n x1 h0_1).bind fun o504 => (cond (decide (x9 < o504)) ((ol n x5 x7 x8 x9 h0_0 h0_1 h0_2 h0_3 h0_4).bind fun o506 => (A_ x1 x5 o506.1 o506.2.1 (IntKind.i64.wrap (x9 + (1 : Int))) o506.2.2.1 o506.2.2.2.1 o506.2.2.2.2.1 o506.2.2.2.2.2.1 o506.2.2.2.2.2.2)) (K (x7, h0_0, h0_1, h0_2, h0_3, h0_4)))
def eQ (n : Nat) : Nat → Int → Int → Int → Int → Int → Int → Int → Int → Int → Int → Option (W20)
 | 0, _, _, _, _, _, _, _, _, _, _ => none
 | m + 1, x1, x5, x7, x8, x9, h0_0, h0_1, h0_2, h0_3, h0_4 => iX n x1 x5 x7 x8 x9 h0_0 h0_1 h0_2 h0_3 h0_4 _ (eQ n m) some
def qU : PS := ⟨[], [(1, .n), (2, .q 0 0), (5, .n), (7, .n), (8, .n), (9, .n)], some [.c 32 [.c, .n, .n, .n, .n]], [⟨(.exit 3), [2], [(7, .n)], [.c 32 [.c, .n, .n, .n, .n]], none⟩], none, none⟩
theorem Ed (n : Nat) : Snd ⟨Tryz.prog, 0, 86⟩ (qQ.x (oh n)) (fb Tryz.f49 5397483) := jC (S := qQ) (b := iV n) .a (nt7 (iV n) (by intros; unfold iV; simp only [ax])) trivial
theorem Ee (n : Nat) : Snd ⟨Tryz.prog, 0, 86⟩ (qR.x (ol n)) (fb Tryz.f49 678891) := jC (S := qR) (b := iW n) (.u (.s .a (.s (.p (qQ.x (oh n))) .a))) (nt9 (iW n) (by intros; unfold iW; simp only [ax])) (ai (Ed n) trivial)
theorem Ef (n : Nat) : Snd ⟨Tryz.prog, 0, 86⟩ (qO.x (og n)) (fb Tryz.f49 683) := jC (S := qO) (b := iT n) (.r [(1, .cl 83 (mh n))]) (nt6 (iT n) (by intros; unfold iT; simp only [ax])) (ai (nk n) trivial)
theorem Eg (n : Nat) : Snd ⟨Tryz.prog, 0, 86⟩ (qP.x (eP n n)) (fb Tryz.f49 21483) := lC (S := qP) (b := iU n) (f := eP n) n (.s .a (.s (.u (.r [(3, .cl 84 (vL n))])) .a)) (nl8 (iU n) (by intros; unfold iU; simp only [ax])) (ai (yo n) trivial)
theorem Eh (n : Nat) : Snd ⟨Tryz.prog, 0, 86⟩ (qU.x (eQ n n)) (fb Tryz.f49 89067) := lC (S := qU) (b := iX n) (f := eQ n) n (.s (.s (.r [(4, .cl 84 (vL n))]) .a) (.s (.p (qR.x (ol n))) .a)) (aco (iX n) (by intros; unfold iX; simp only [ax])) (ai (yo n) (ai (Ee n) trivial))
def kU (n : Nat) (a0 a1 a2 a3 a4 a5 : Int) (R : Type) (K : Int → Option R) : Option R := (dB n a5).bind fun o497 => (cond (a0 == (1 : Int)) ((og n a5 a0 a1 a2 a3 a4).bind fun o499 => (cond o499.1 (K (IntKind.i64.wrap ((IntKind.i64.wrap ((IntKind.i64.wrap ((IntKind.i64.wrap ((IntKind.i64.wrap (o497 + a3)) - (1 : Int))) + (1 : Int))) * (86400 : Int))) + o499.2.2.2.2.2))) (K (IntKind.i64.wrap ((IntKind.i64.wrap ((IntKind.i64.wrap ((IntKind.i64.wrap (o497 + a3)) - (1 : Int))) * (86400 : Int))) + o499.2.2.2.2.2))))) (cond (a0 == (2 : Int)) (K (IntKind.i64.wrap ((IntKind.i64.wrap ((IntKind.i64.wrap (o497 + a3)) * (86400 : Int))) + a4))) (cond (a0 == (3 : Int)) ((eP n n a5 o497 (1 : Int) a0 a1 a2 a3 a4).bind fun o503 => ((eQ n n a5 o503.1 (-1 : Int) (0 : Int) (0 : Int) o503.2.1 o503.2.2.1 o503.2.2.2.1 o503.2.2.2.2.1 o503.2.2.2.2.2).bind fun o507 => (K (IntKind.i64.wrap ((IntKind.i64.wrap (o507.1 * (86400 : Int))) + o507.2.2.2.2.2))))) (K (IntKind.i64.wrap ((IntKind.i64.wrap (o497 * (86400 : Int))) + a4))))))
def kV n a0 a1 a2 a3 a4 a5 := kU n a0 a1 a2 a3 a4 a5 _ some
def Ah : FS := ⟨[.a [.c, .n, .n, .n, .n], .n], [], [([.n], [])]⟩
def uh (n : Nat) : FSpec := Ah.sp (kV n)
theorem wZ (n : Nat) : FSound Tryz.prog 49 (uh n) := fs2 (S := Ah) (b := kU n) Tryz.func49 rfl rfl [.tmp 4] (.s .a (.s (.r [(1, .cl 82 (ib n))]) (.s (.s .a (.u (.s .a (.s (.s .a (.s (.p (qO.x (og n))) .a)) (.s .a (.s .a (.s .a (.s (.s (.s .a (.u (.p (qP.x (eP n n))))) (.s .a (.s (.s .a (.u (.p (qU.x (eQ n n))))) .a))) .a)))))))) .a))) (nt6 (kU n) (by intros; unfold kU; simp only [ax])) (ai (iD n) (ai (Ef n) (ai (Eg n) (ai (Eh n) trivial))))
def mq (n : Nat) (x6 x8 : Int) (x10 : Bool) (x12 : Int) (R : Type) (K : (Bool) → Option R) : Option R := cond (decide (x12 ≤ x6)) (cond (!x10) (K true) (K (decide (x12 > x8)))) (K false)
def sO n x6 x8 x10 x12 := mq n x6 x8 x10 x12 _ some
def vM : PS := ⟨[2, 7, 9, 11, 13], [(6, .n), (8, .n), (10, .b), (12, .n)], none, [⟨.normal, [2, 6, 7, 8, 9, 10, 11, 12, 13], [(64, .b)], [], none⟩], none, none⟩
def mr (n : Nat) (x6 x8 : Int) (x9 x10 : Bool) (x12 : Int) (R : Type) (K : (Int × Bool × Bool) → Option R) : Option R := (sO n x6 x8 x10 x12).bind fun o510 => (cond o510 (K (x12, true, true)) (K (x8, x9, x10)))
def oQ n x6 x8 x9 x10 x12 := mr n x6 x8 x9 x10 x12 _ some
def vN : PS := ⟨[2, 7, 11, 13], [(6, .n), (8, .n), (9, .b), (10, .b), (12, .n)], none, [⟨.normal, [2, 6, 7, 11, 13], [(8, .n), (9, .b), (10, .b)], [], none⟩], none, none⟩
def mD (n : Nat) (x6 x8 : Int) (x10 : Bool) (x13 : Int) (R : Type) (K : (Bool) → Option R) : Option R := cond (decide (x13 ≤ x6)) (cond (!x10) (K true) (K (decide (x13 ≥ x8)))) (K false)
def sP n x6 x8 x10 x13 := mD n x6 x8 x10 x13 _ some
def vO : PS := ⟨[2, 7, 9, 11], [(6, .n), (8, .n), (10, .b), (13, .n)], none, [⟨.normal, [2, 6, 7, 8, 9, 10, 11, 13], [(77, .b)], [], none⟩], none, none⟩
def mE (n : Nat) (x6 x8 : Int) (x9 x10 : Bool) (x11 : Int) (h0_0 h0_1 : Str) (h0_2 h0_3 h0_4 h0_5 h0_6 h0_7 h0_8 h0_9 h0_10 h0_11 h0_12 h0_13 : Int) (R : Type) (K : (Int × Bool × Bool × Str × Str × Int × Int × Int × Int × Int × Int × Int × Int × Int × Int × Int × Int) → Option R) : Option R := (kV n h0_4 h0_5 h0_6 h0_7 h0_8 x11).bind fun o508 => ((kV n h0_9 h0_10 h0_11 h0_12 h0_13 x11).bind fun o509 => ((oQ n x6 x8 x9 x10 (IntKind.i64.wrap (o508 - h0_2))).bind fun o511 => ((sP n x6 o511.1 o511.2.2 (IntKind.i64.wrap (o509 - h0_3))).bind fun o512 => (cond o512 (K (IntKind.i64.wrap (o509 - h0_3), false, true, h0_0, h0_1, h0_2, h0_3, h0_4, h0_5, h0_6, h0_7, h0_8, h0_9, h0_10, h0_11, h0_12, h0_13)) (K (o511.1, o511.2.1, o511.2.2, h0_0, h0_1, h0_2, h0_3, h0_4, h0_5, h0_6, h0_7, h0_8, h0_9, h0_10, h0_11, h0_12, h0_13))))))
def sQ n x6 x8 x9 x10 x11 h0_0 h0_1 h0_2 h0_3 h0_4 h0_5 h0_6 h0_7 h0_8 h0_9 h0_10 h0_11 h0_12 h0_13 := mE n x6 x8 x9 x10 x11 h0_0 h0_1 h0_2 h0_3 h0_4 h0_5 h0_6 h0_7 h0_8 h0_9 h0_10 h0_11 h0_12 h0_13 _ some
def vP : PS := ⟨[7], [(2, .q 0 0), (6, .n), (8, .n), (9, .b), (10, .b), (11, .n)], some [.c 34 [.s, .s, .n, .n, .c, .n, .n, .n, .n, .c, .n, .n, .n, .n]], [⟨.normal, [2, 6, 7, 11], [(8, .n), (9, .b), (10, .b)], [.c 34 [.s, .s, .n, .n, .c, .n, .n, .n, .n, .c, .n, .n, .n, .n]], none⟩], none, none⟩
def jh (n : Nat) (x6 x7 x8 : Int) (x9 x10 : Bool) (x11 : Int) (h0_0 h0_1 : Str) (h0_2 h0_3 h0_4 h0_5 h0_6 h0_7 h0_8 h0_9 h0_10 h0_11 h0_12 h0_13 : Int) (R : Type) (A_ : Int → Int → Int → Bool → Bool → Int → Str → Str → Int → Int → Int → Int → Int → Int → Int → Int → Int → Int → Int → Int → Option R) (K : W3 → Option R) : Option R := cond (decide (x11 ≤ (IntKind.i64.wrap (x7 + (1 : Int))))) ((sQ n x6 x8 x9 x10 x11 h0_0 h0_1 h0_2 h0_3 h0_4 h0_5 h0_6 h0_7 h0_8 h0_9 h0_10 h0_11 h0_12 h0_13).bind fun o513 => (A_ x6 x7 o513.1 o513.2.1 o513.2.2.1 (IntKind.i64.wrap (x11 + (1 : Int))) o513.2.2.2.1 o513.2.2.2.2.1 o513.2.2.2.2.2.1 o513.2.2.2.2.2.2.1 o513.2.2.2.2.2.2.2.1 o513.2.2.2.2.2.2.2.2.1 o513.2.2.2.2.2.2.2.2.2.1 o513.2.2.2.2.2.2.2.2.2.2.1 o513.2.2.2.2.2.2.2.2.2.2.2.1 o513.2.2.2.2.2.2.2.2.2.2.2.2.1 o513.2.2.2.2.2.2.2.2.2.2.2.2.2.1 o513.2.2.2.2.2.2.2.2.2.2.2.2.2.2.1 o513.2.2.2.2.2.2.2.2.2.2.2.2.2.2.2.1 o513.2.2.2.2.2.2.2.2.2.2.2.2.2.2.2.2)) (K (x9, h0_0, h0_1, h0_2, h0_3, h0_4, h0_5, h0_6, h0_7, h0_8, h0_9, h0_10, h0_11, h0_12, h0_13))
def cZ (n : Nat) : Nat → Int → Int → Int → Bool → Bool → Int → Str → Str → Int → Int → Int → Int → Int → Int → Int → Int → Int → Int → Int → Int → Option (W3)
 | 0, _, _, _, _, _, _, _, _, _, _, _, _, _, _, _, _, _, _, _, _ => none
 | m + 1, x6, x7, x8, x9, x10, x11, h0_0, h0_1, h0_2, h0_3, h0_4, h0_5, h0_6, h0_7, h0_8, h0_9, h0_10, h0_11, h0_12, h0_13 => jh n x6 x7 x8 x9 x10 x11 h0_0 h0_1 h0_2 h0_3 h0_4 h0_5 h0_6 h0_7 h0_8 h0_9 h0_10 h0_11 h0_12 h0_13 _ (cZ n m) some
def vQ : PS := ⟨[], [(2, .q 0 0), (6, .n), (7, .n), (8, .n), (9, .b), (10, .b), (11, .n)], some [.c 34 [.s, .s, .n, .n, .c, .n, .n, .n, .n, .c, .n, .n, .n, .n]], [⟨(.exit 0), [2], [(9, .b)], [.c 34 [.s, .s, .n, .n, .c, .n, .n, .n, .n, .c, .n, .n, .n, .n]], none⟩], none, none⟩
theorem HY (n : Nat) : Snd ⟨Tryz.prog, 0, 84⟩ (vM.x (sO n)) (fb Tryz.f35 74943) := jC (S := vM) (b := mq n) .a (nt4 (mq n) (by intros; unfold mq; simp only [ax])) trivial
theorem HZ (n : Nat) : Snd ⟨Tryz.prog, 0, 84⟩ (vN.x (oQ n)) (fb Tryz.f35 42175) := jC (S := vN) (b := mr n) (.s (.p (vM.x (sO n))) .a) (nt5 (mr n) (by intros; unfold mr; simp only [ax])) (ai (HY n) trivial)
theorem H5 (n : Nat) : Snd ⟨Tryz.prog, 0, 84⟩ (vO.x (sP n)) (fb Tryz.f35 91327) := jC (S := vO) (b := mD n) .a (nt4 (mD n) (by intros; unfold mD; simp only [ax])) trivial
theorem H6 (n : Nat) : Snd ⟨Tryz.prog, 0, 84⟩ (vP.x (sQ n)) (fb Tryz.f35 5311) := jC (S := vP) (b := mE n) (.u (.s (.d [(3, .cl 49 (uh n)), (10, .cl 49 (uh n))] [(0, .peek [0] [0]), (1, .peek [0] [0]), (3, .part []), (4, .peek [0] [0]), (5, .peek [0] [0]), (7, .peek [0] [0]), (8, .peek [0] [0]), (10, .part []), (11, .peek [0] [0]), (12, .peek [0] [0])]) (.s (.p (vN.x (oQ n))) (.s (.p (vO.x (sP n))) .a)))) (aaL (mE n) (by intros; unfold mE; simp only [ax])) (ai (wZ n) (ai (wZ n) (ai (HZ n) (ai (H5 n) trivial))))
theorem H7 (n : Nat) : Snd ⟨Tryz.prog, 0, 84⟩ (vQ.x (cZ n n)) (fb Tryz.f35 703) := lC (S := vQ) (b := jh n) (f := cZ n) n (.s .a (.s (.p (vP.x (sQ n))) .a)) (acr (jh n) (by intros; unfold jh; simp only [ax])) (ai (H6 n) trivial)
def jD (n : Nat) (a0 a1 : Str) (a2 a3 a4 a5 a6 a7 a8 a9 a10 a11 a12 a13 a14 : Int) (R : Type) (K : (Int × Bool) → Option R) : Option R := (jd n a0 a1 a2 a3 a4 a5 a6 a7 a8 a9 a10 a11 a12 a13).bind fun o482 => (cond (!o482) (K ((0 : Int), false)) (cond (a1 == ([] : Str)) (K (a2, false)) ((mg n (IntKind.i64.wrap ((if (-10000000000 : Int) < (if a14 < (100000000000 : Int) then a14 else (100000000000 : Int)) then (if a14 < (100000000000 : Int) then a14 else (100000000000 : Int)) else (-10000000000 : Int)) + a2)) (86400 : Int)).bind fun o483 => ((kT n o483).bind fun o496 => ((cZ n n (if (-10000000000 : Int) < (if a14 < (100000000000 : Int) then a14 else (100000000000 : Int)) then (if a14 < (100000000000 : Int) then a14 else (100000000000 : Int)) else (-10000000000 : Int)) o496 (0 : Int) false false (IntKind.i64.wrap (o496 - (2 : Int))) a0 a1 a2 a3 a4 a5 a6 a7 a8 a9 a10 a11 a12 a13).bind fun o514 => (cond o514.1 (K (o514.2.2.2.2.1, true)) (K (o514.2.2.2.1, false))))))))
def dE n a0 a1 a2 a3 a4 a5 a6 a7 a8 a9 a10 a11 a12 a13 a14 := jD n a0 a1 a2 a3 a4 a5 a6 a7 a8 a9 a10 a11 a12 a13 a14 _ some
def Et : FS := ⟨[.a [.s, .s, .n, .n, .c, .n, .n, .n, .n, .c, .n, .n, .n, .n], .n], [], [([.n, .b], [])]⟩
def DC (n : Nat) : FSpec := Et.sp (dE n)
theorem IC (n : Nat) : FSound Tryz.prog 35 (DC n) := fs2 (S := Et) (b := jD n) Tryz.func35 rfl rfl [.tmp 4, .tmp 5] (.s .a (.s (.s (.r [(1, .cl 69 (uL n))]) .a) (.s .a (.s .a (.s (.r [(4, .cl 71 (Ae n)), (5, .cl 70 (y8 n))]) (.s .a (.s (.s .a (.u (.p (vQ.x (cZ n n))))) .a))))))) (ab9 (jD n) (by intros; unfold jD; simp only [ax])) (ai (xE n) (ai (Gg n) (ai (EN n) (ai (H7 n) trivial))))
def ji (n : Nat) (x1 x5 : Int) (h0_0 : List (List AV)) (h0_1 h0_2 : List Int) (h0_3 : Str) (R : Type) (A_ : Int → Int → (List (List AV)) → (List Int) → (List Int) → Str → Option R) (K : (W1 ⊕ ((List (List AV)) × (List Int) × (List Int) × Str)) → Option R) : Option R := cond (decide (x5 ≥ (0 : Int))) (cond (decide (0 ≤ x5)) ((h0_1[x5.toNat]?).bind fun e517 => (cond (decide (e517 ≤ x1)) (cond (decide (0 ≤ x5)) ((h0_2[x5.toNat]?).bind fun e518 => (K (Sum.inl (e518, h0_0, h0_1, h0_2, h0_3)))) none) (A_ x1 (IntKind.i64.wrap (x5 - (1 : Int))) h0_0 h0_1 h0_2 h0_3))) none) (K (Sum.inr (h0_0, h0_1, h0_2, h0_3)))
def gp (n : Nat) : Nat → Int → Int → (List (List AV)) → (List Int) → (List Int) → Str → Option (W1 ⊕ ((List (List AV)) × (List Int) × (List Int) × Str))
 | 0, _, _, _, _, _, _ => none
 | m + 1, x1, x5, h0_0, h0_1, h0_2, h0_3 => ji n x1 x5 h0_0 h0_1 h0_2 h0_3 _ (gp n m) some
def vR : PS := ⟨[], [(1, .n), (2, .q 0 0), (5, .n)], some [.c 30 [.L false 3, .l .i64, .l .i64, .s]], [⟨.ret, [], [(4, .n)], [.c 30 [.L false 3, .l .i64, .l .i64, .s]], none⟩, ⟨(.exit 0), [2], [], [.c 30 [.L false 3, .l .i64, .l .i64, .s]], none⟩], none, none⟩
def jk (n : Nat) (x6 : Int) (h0_0 : List (List AV)) (h0_1 h0_2 : List Int) (h0_3 : Str) (R : Type) (A_ : Int → (List (List AV)) → (List Int) → (List Int) → Str → Option R) (K : (W1 ⊕ ((List (List AV)) × (List Int) × (List Int) × Str)) → Option R) : Option R := cond (decide (x6 < (h0_0.length : Int))) (cond (decide (0 ≤ x6)) ((h0_0[x6.toNat]?).bind fun e522 => (unc e522 fun c523 r524 => xS .i64 c523 fun x525 => unc r524 fun c526 r527 => yC c526 fun x528 => unc r527 fun c529 r530 => yD c529 fun x531 => unn r530 (cond (!x528) (K (Sum.inl (x6, h0_0, h0_1, h0_2, h0_3))) (A_ (IntKind.i64.wrap (x6 + (1 : Int))) h0_0 h0_1 h0_2 h0_3)))) none) (K (Sum.inr (h0_0, h0_1, h0_2, h0_3)))
def gq (n : Nat) : Nat → Int → (List (List AV)) → (List Int) → (List Int) → Str → Option (W1 ⊕ ((List (List AV)) × (List Int) × (List Int) × Str))
 | 0, _, _, _, _, _ => none
 | m + 1, x6, h0_0, h0_1, h0_2, h0_3 => jk n x6 h0_0 h0_1 h0_2 h0_3 _ (gq n m) some
def vS : PS := ⟨[], [(2, .q 0 0), (6, .n)], some [.c 30 [.L false 3, .l .i64, .l .i64, .s]], [⟨.ret, [], [(4, .n)], [.c 30 [.L false 3, .l .i64, .l .i64, .s]], none⟩, ⟨(.exit 2), [], [], [.c 30 [.L false 3, .l .i64, .l .i64, .s]], none⟩], none, none⟩
theorem H8 (n : Nat) : Snd ⟨Tryz.prog, 0, 45⟩ (vR.x (gp n n)) (fb Tryz.f36 43) := lC (S := vR) (b := ji n) (f := gp n) n .a (nl6 (ji n) (by intros; unfold ji; simp only [ax])) trivial
theorem H9 (n : Nat) : Snd ⟨Tryz.prog, 0, 45⟩ (vS.x (gq n n)) (fb Tryz.f36 87) := lC (S := vS) (b := jk n) (f := gq n) n .a (nl5 (jk n) (by intros; unfold jk; simp only [ax])) trivial
def pX (n : Nat) (a0 : List (List AV)) (a1 a2 : List Int) (a3 : Str) (a4 : Int) (R : Type) (K : Int → Option R) : Option R := (lM n a0 a1 a2 a3).bind fun o516 => (cond (!o516) (K (0 : Int)) ((gp n n a4 (IntKind.i64.wrap ((a1.length : Int) - (1 : Int))) a0 a1 a2 a3).bind fun o519 => (Sum.elim (fun o520 => K o520.1) (fun o521 => (gq n n (0 : Int) o521.1 o521.2.1 o521.2.2.1 o521.2.2.2).bind fun o532 => (Sum.elim (fun o533 => K o533.1) (fun o534 => K (0 : Int)) o532)) o519)))
def uC n a0 a1 a2 a3 a4 := pX n a0 a1 a2 a3 a4 _ some
def Eu : FS := ⟨[.a [.L false 3, .l .i64, .l .i64, .s], .n], [], [([.n], [])]⟩
def DD (n : Nat) : FSpec := Eu.sp (uC n)
theorem IE (n : Nat) : FSound Tryz.prog 36 (DD n) := fs2 (S := Eu) (b := pX n) Tryz.func36 rfl rfl [.tmp 4] (.s .a (.s (.s (.r [(1, .cl 55 (uH n))]) .a) (.s (.s .a (.u (.p (vR.x (gp n n))))) (.s (.s .a (.u (.p (vS.x (gq n n))))) .a)))) (nt5 (pX n) (by intros; unfold pX; simp only [ax])) (ai (xC n) (ai (H8 n) (ai (H9 n) trivial)))
def bq (n : Nat) (x5 x6 : Int) (h0_0 : List (List AV)) (h0_1 h0_2 : List Int) (h0_3 h0_4 h0_5 : Str) (h0_6 h0_7 h0_8 h0_9 h0_10 h0_11 h0_12 h0_13 h0_14 h0_15 h0_16 h0_17 : Int) (h0_18 h0_19 : Bool) (R : Type) (K : W21 → Option R) : Option R := cond h0_18 (cond (x6 == (0 : Int)) (K (true, h0_0, h0_1, h0_2, h0_3, h0_4, h0_5, h0_6, h0_7, h0_8, h0_9, h0_10, h0_11, h0_12, h0_13, h0_14, h0_15, h0_16, h0_17, h0_18, h0_19)) (cond (decide (0 ≤ (IntKind.i64.wrap (x6 - (1 : Int))))) ((h0_1[(IntKind.i64.wrap (x6 - (1 : Int))).toNat]?).bind fun e480 => (K (decide (e480 ≤ x5), h0_0, h0_1, h0_2, h0_3, h0_4, h0_5, h0_6, h0_7, h0_8, h0_9, h0_10, h0_11, h0_12, h0_13, h0_14, h0_15, h0_16, h0_17, h0_18, h0_19))) none)) (K (false, h0_0, h0_1, h0_2, h0_3, h0_4, h0_5, h0_6, h0_7, h0_8, h0_9, h0_10, h0_11, h0_12, h0_13, h0_14, h0_15, h0_16, h0_17, h0_18, h0_19))
def bI n x5 x6 h0_0 h0_1 h0_2 h0_3 h0_4 h0_5 h0_6 h0_7 h0_8 h0_9 h0_10 h0_11 h0_12 h0_13 h0_14 h0_15 h0_16 h0_17 h0_18 h0_19 := bq n x5 x6 h0_0 h0_1 h0_2 h0_3 h0_4 h0_5 h0_6 h0_7 h0_8 h0_9 h0_10 h0_11 h0_12 h0_13 h0_14 h0_15 h0_16 h0_17 h0_18 h0_19 _ some
def mY : PS := ⟨[], [(2, .q 0 0), (5, .n), (6, .n)], some [.c 36 [.L false 3, .l .i64, .l .i64, .s, .s, .s, .n, .n, .c, .n, .n, .n, .n, .c, .n, .n, .n, .n, .b, .b]], [⟨.normal, [2, 5], [(34, .b)], [.c 36 [.L false 3, .l .i64, .l .i64, .s, .s, .s, .n, .n, .c, .n, .n, .n, .n, .c, .n, .n, .n, .n, .b, .b]], none⟩], none, none⟩
theorem Au (n : Nat) : Snd ⟨Tryz.prog, 0, 53⟩ (mY.x (bI n)) (fb Tryz.f13 79) := jC (S := mY) (b := bq n) .a (abF (bq n) (by intros; unfold bq; simp only [ax])) trivial
def aT (n : Nat) (a0 : List (List AV)) (a1 a2 : List Int) (a3 a4 a5 : Str) (a6 a7 a8 a9 a10 a11 a12 a13 a14 a15 a16 a17 : Int) (a18 a19 : Bool) (a20 : Int) (R : Type) (K : Int → Option R) : Option R := cond a19 (K (0 : Int)) ((bI n (if (-10000000000 : Int) < (if a20 < (100000000000 : Int) then a20 else (100000000000 : Int)) then (if a20 < (100000000000 : Int) then a20 else (100000000000 : Int)) else (-10000000000 : Int)) (a1.length : Int) a0 a1 a2 a3 a4 a5 a6 a7 a8 a9 a10 a11 a12 a13 a14 a15 a16 a17 a18 a19).bind fun o481 => (cond o481.1 ((dE n o481.2.2.2.2.2.1 o481.2.2.2.2.2.2.1 o481.2.2.2.2.2.2.2.1 o481.2.2.2.2.2.2.2.2.1 o481.2.2.2.2.2.2.2.2.2.1 o481.2.2.2.2.2.2.2.2.2.2.1 o481.2.2.2.2.2.2.2.2.2.2.2.1 o481.2.2.2.2.2.2.2.2.2.2.2.2.1 o481.2.2.2.2.2.2.2.2.2.2.2.2.2.1 o481.2.2.2.2.2.2.2.2.2.2.2.2.2.2.1 o481.2.2.2.2.2.2.2.2.2.2.2.2.2.2.2.1 o481.2.2.2.2.2.2.2.2.2.2.2.2.2.2.2.2.1 o481.2.2.2.2.2.2.2.2.2.2.2.2.2.2.2.2.2.1 o481.2.2.2.2.2.2.2.2.2.2.2.2.2.2.2.2.2.2.1 (if (-10000000000 : Int) < (if a20 < (100000000000 : Int) then a20 else (100000000000 : Int)) then (if a20 < (100000000000 : Int) then a20 else (100000000000 : Int)) else (-10000000000 : Int))).bind fun o515 => (K o515.1)) ((uC n o481.2.1 o481.2.2.1 o481.2.2.2.1 o481.2.2.2.2.1 (if (-10000000000 : Int) < (if a20 < (100000000000 : Int) then a20 else (100000000000 : Int)) then (if a20 < (100000000000 : Int) then a20 else (100000000000 : Int)) else (-10000000000 : Int))).bind fun o535 => (cond (decide (0 ≤ o535)) ((o481.2.1[o535.toNat]?).bind fun e536 => (unc e536 fun c537 r538 => xS .i64 c537 fun x539 => unc r538 fun c540 r541 => yC c540 fun x542 => unc r541 fun c543 r544 => yD c543 fun x545 => unn r544 (K x539))) none))))
def aA n a0 a1 a2 a3 a4 a5 a6 a7 a8 a9 a10 a11 a12 a13 a14 a15 a16 a17 a18 a19 a20 := aT n a0 a1 a2 a3 a4 a5 a6 a7 a8 a9 a10 a11 a12 a13 a14 a15 a16 a17 a18 a19 a20 _ some
def wE : FS := ⟨[.a [.L false 3, .l .i64, .l .i64, .s, .s, .s, .n, .n, .c, .n, .n, .n, .n, .c, .n, .n, .n, .n, .b, .b], .n], [], [([.n], [])]⟩
def vg (n : Nat) : FSpec := wE.sp (aA n)
theorem BQ (n : Nat) : FSound Tryz.prog 13 (vg n) := fs2 (S := wE) (b := aT n) Tryz.func13 rfl rfl [.tmp 4] (.s .a (.s .a (.s .a (.s .a (.s (.s (.p (mY.x (bI n))) (.s (.s (.r [(3, .cl 35 (DC n)), (6, .tk [35])]) .a) .a)) (.s (.d [(6, .cl 36 (DD n))] [(0, .peek [0] [0]), (1, .peek [0] [0]), (2, .peek [0] [0]), (3, .peek [0] [0]), (4, .peek [0] [0]), (6, .part []), (9, .no)]) .a)))))) (Zx (aT n) (by intros; unfold aT; simp only [ax])) (ai (Au n) (ai (IC n) (ai (IE n) trivial)))
def bO (n : Nat) (x3 : List Int) (x4 : Int) (h0_0 : List (List AV)) (h0_1 h0_2 : List Int) (h0_3 h0_4 h0_5 : Str) (h0_6 h0_7 h0_8 h0_9 h0_10 h0_11 h0_12 h0_13 h0_14 h0_15 h0_16 h0_17 : Int) (h0_18 h0_19 : Bool) (R : Type) (A_ : (List Int) → Int → (List (List AV)) → (List Int) → (List Int) → Str → Str → Str → Int → Int → Int → Int → Int → Int → Int → Int → Int → Int → Int → Int → Bool → Bool → Option R) (K : W22 → Option R) : Option R := cond (decide (x4 < (h0_0.length : Int))) (cond (decide (0 ≤ x4)) ((h0_0[x4.toNat]?).bind fun e595 => (unc e595 fun c596 r597 => xS .i64 c596 fun x598 => unc r597 fun c599 r600 => yC c599 fun x601 => unc r600 fun c602 r603 => yD c602 fun x604 => unn r603 (cond (decide ((x3.length + ([x598] : List Int).length) * 8 ≤ 140737488355328)) (A_ (x3 ++ ([x598] : List Int)) (IntKind.i64.wrap (x4 + (1 : Int))) h0_0 h0_1 h0_2 h0_3 h0_4 h0_5 h0_6 h0_7 h0_8 h0_9 h0_10 h0_11 h0_12 h0_13 h0_14 h0_15 h0_16 h0_17 h0_18 h0_19) none))) none) (K (x3, h0_0, h0_1, h0_2, h0_3, h0_4, h0_5, h0_6, h0_7, h0_8, h0_9, h0_10, h0_11, h0_12, h0_13, h0_14, h0_15, h0_16, h0_17, h0_18, h0_19))
def aX (n : Nat) : Nat → (List Int) → Int → (List (List AV)) → (List Int) → (List Int) → Str → Str → Str → Int → Int → Int → Int → Int → Int → Int → Int → Int → Int → Int → Int → Bool → Bool → Option (W22)
 | 0, _, _, _, _, _, _, _, _, _, _, _, _, _, _, _, _, _, _, _, _, _, _ => none
 | m + 1, x3, x4, h0_0, h0_1, h0_2, h0_3, h0_4, h0_5, h0_6, h0_7, h0_8, h0_9, h0_10, h0_11, h0_12, h0_13, h0_14, h0_15, h0_16, h0_17, h0_18, h0_19 => bO n x3 x4 h0_0 h0_1 h0_2 h0_3 h0_4 h0_5 h0_6 h0_7 h0_8 h0_9 h0_10 h0_11 h0_12 h0_13 h0_14 h0_15 h0_16 h0_17 h0_18 h0_19 _ (aX n m) some
def mF : PS := ⟨[], [(1, .q 0 0), (3, .I true .i64), (4, .n)], some [.c 36 [.L false 3, .l .i64, .l .i64, .s, .s, .s, .n, .n, .c, .n, .n, .n, .n, .c, .n, .n, .n, .n, .b, .b]], [⟨(.exit 0), [1], [(3, .I true .i64)], [.c 36 [.L false 3, .l .i64, .l .i64, .s, .s, .s, .n, .n, .c, .n, .n, .n, .n, .c, .n, .n, .n, .n, .b, .b]], none⟩], none, none⟩
def bP (n : Nat) (x3 : List Int) (h0_0 : List (List AV)) (h0_1 h0_2 : List Int) (h0_3 h0_4 h0_5 : Str) (h0_6 h0_7 h0_8 h0_9 h0_10 h0_11 h0_12 h0_13 h0_14 h0_15 h0_16 h0_17 : Int) (h0_18 h0_19 : Bool) (R : Type) (K : W22 → Option R) : Option R := cond h0_18 (cond (decide ((x3.length + ([h0_6] : List Int).length) * 8 ≤ 140737488355328)) (cond (!(h0_5 == ([] : Str))) (cond (decide (((x3 ++ ([h0_6] : List Int)).length + ([h0_7] : List Int).length) * 8 ≤ 140737488355328)) (K ((x3 ++ ([h0_6] : List Int)) ++ ([h0_7] : List Int), h0_0, h0_1, h0_2, h0_3, h0_4, h0_5, h0_6, h0_7, h0_8, h0_9, h0_10, h0_11, h0_12, h0_13, h0_14, h0_15, h0_16, h0_17, h0_18, h0_19)) none) (K (x3 ++ ([h0_6] : List Int), h0_0, h0_1, h0_2, h0_3, h0_4, h0_5, h0_6, h0_7, h0_8, h0_9, h0_10, h0_11, h0_12, h0_13, h0_14, h0_15, h0_16, h0_17, h0_18, h0_19))) none) (K (x3, h0_0, h0_1, h0_2, h0_3, h0_4, h0_5, h0_6, h0_7, h0_8, h0_9, h0_10, h0_11, h0_12, h0_13, h0_14, h0_15, h0_16, h0_17, h0_18, h0_19))
def fH n x3 h0_0 h0_1 h0_2 h0_3 h0_4 h0_5 h0_6 h0_7 h0_8 h0_9 h0_10 h0_11 h0_12 h0_13 h0_14 h0_15 h0_16 h0_17 h0_18 h0_19 := bP n x3 h0_0 h0_1 h0_2 h0_3 h0_4 h0_5 h0_6 h0_7 h0_8 h0_9 h0_10 h0_11 h0_12 h0_13 h0_14 h0_15 h0_16 h0_17 h0_18 h0_19 _ some
def mG : PS := ⟨[], [(1, .q 0 0), (3, .I true .i64)], some [.c 36 [.L false 3, .l .i64, .l .i64, .s, .s, .s, .n, .n, .c, .n, .n, .n, .n, .c, .n, .n, .n, .n, .b, .b]], [⟨.normal, [], [(3, .I true .i64)], [.c 36 [.L false 3, .l .i64, .l .i64, .s, .s, .s, .n, .n, .c, .n, .n, .n, .n, .c, .n, .n, .n, .n, .b, .b]], none⟩], none, none⟩
def bQ (n : Nat) (x3 : List Int) (x5 x5_1 : Nat) (x6 x7 : Int) (h0_0 : List Int) (R : Type) (K : (Bool × (List Int)) → Option R) : Option R := cond (decide (x7 < (x5 : Int))) (cond (decide (0 ≤ x7)) (cond (decide (x7 < (x5 : Int))) ((h0_0[Int.toNat x7 * 1]?).bind fun y608 => (cond (decide (0 ≤ x6)) ((x3[x6.toNat]?).bind fun e609 => (K (decide (y608 ≤ e609), h0_0))) none)) none) none) (K (false, h0_0))
def fI n x3 x5 x5_1 x6 x7 h0_0 := bQ n x3 x5 x5_1 x6 x7 h0_0 _ some
def mH : PS := ⟨[8], [(3, .I true .i64), (5, .o 0 1), (6, .n), (7, .n)], some [.rN .i64], [⟨.normal, [3, 5, 6, 7, 8], [(69, .b)], [.rN .i64], none⟩], none, none⟩
def d9 (n : Nat) (x3 : List Int) (x5 x5_1 : Nat) (x6 x7 : Int) (x8 : Bool) (h0_0 : List Int) (R : Type) (K : (Bool × (List Int)) → Option R) : Option R := cond x8 (K (true, h0_0)) (cond (decide (0 ≤ x7)) (cond (decide (x7 < (x5 : Int))) ((h0_0[Int.toNat x7 * 1]?).bind fun y612 => (cond (decide (0 ≤ x6)) ((x3[x6.toNat]?).bind fun e613 => (K (y612 == e613, h0_0))) none)) none) none)
def jl n x3 x5 x5_1 x6 x7 x8 h0_0 := d9 n x3 x5 x5_1 x6 x7 x8 h0_0 _ some
def mJ : PS := ⟨[], [(3, .I true .i64), (5, .o 0 1), (6, .n), (7, .n), (8, .b)], some [.rN .i64], [⟨.normal, [3, 5, 6, 7], [(8, .b)], [.rN .i64], none⟩], none, none⟩
def bR (n : Nat) (x3 : List Int) (x5 x5_1 : Nat) (x6 x7 : Int) (x8 : Bool) (h0_0 : List Int) (R : Type) (A_ : (List Int) → Nat → Nat → Int → Int → Bool → (List Int) → Option R) (K : (Int × Bool × (List Int)) → Option R) : Option R := (fI n x3 x5 x5_1 x6 x7 h0_0).bind fun o610 => (cond o610.1 ((jl n x3 x5 x5_1 x6 x7 x8 o610.2).bind fun o614 => (A_ x3 x5 x5_1 x6 (IntKind.i64.wrap (x7 + (1 : Int))) o614.1 o614.2)) (K (x7, x8, o610.2)))
def aY (n : Nat) : Nat → (List Int) → Nat → Nat → Int → Int → Bool → (List Int) → Option ((Int × Bool × (List Int)))
 | 0, _, _, _, _, _, _, _ => none
 | m + 1, x3, x5, x5_1, x6, x7, x8, h0_0 => bR n x3 x5 x5_1 x6 x7 x8 h0_0 _ (aY n m) some
def mK : PS := ⟨[], [(3, .I true .i64), (5, .o 0 1), (6, .n), (7, .n), (8, .b)], some [.rN .i64], [⟨(.exit 4), [3, 5, 6], [(7, .n), (8, .b)], [.rN .i64], none⟩], none, none⟩
def ed (n : Nat) (x3 : List Int) (x5 x5_1 : Nat) (x6 : Int) (h0_0 : List Int) (R : Type) (K : ((List Int) × Nat × Nat × Int × (List Int)) → Option R) : Option R := (aY n n x3 x5 x5_1 x6 (0 : Int) false h0_0).bind fun o615 => (cond (!o615.2.1) (cond (decide (0 ≤ o615.1)) (cond (decide (o615.1 ≤ (x5 : Int))) (cond (decide ((o615.1.toNat * 1) + (x5 - o615.1.toNat) ≤ o615.2.2.length)) (cond (decide ((([] : List Int).length + (x5 - o615.1.toNat)) * 8 ≤ 140737488355328)) (cond (decide (0 ≤ o615.1)) (cond (decide (o615.1 ≤ (x5 : Int))) (cond (decide (0 ≤ x6)) ((x3[x6.toNat]?).bind fun e616 => (cond (decide (x5_1 = o615.2.2.length) && (decide (0 < o615.1.toNat + ([e616] : List Int).length) || Nat.beq x5_1 0) && decide ((o615.1.toNat + ([e616] : List Int).length) * 8 ≤ 140737488355328)) (cond (decide (o615.1.toNat + ([e616] : List Int).length = (o615.2.2.take o615.1.toNat ++ ([e616] : List Int)).length) && (decide (0 < (o615.1.toNat + ([e616] : List Int).length) + (([] : List Int) ++ (o615.2.2.drop (o615.1.toNat * 1)).take (x5 - o615.1.toNat)).length) || Nat.beq (o615.1.toNat + ([e616] : List Int).length) 0) && decide (((o615.1.toNat + ([e616] : List Int).length) + (([] : List Int) ++ (o615.2.2.drop (o615.1.toNat * 1)).take (x5 - o615.1.toNat)).length) * 8 ≤ 140737488355328)) (K (x3, (o615.1.toNat + ([e616] : List Int).length) + (([] : List Int) ++ (o615.2.2.drop (o615.1.toNat * 1)).take (x5 - o615.1.toNat)).length, (o615.1.toNat + ([e616] : List Int).length) + (([] : List Int) ++ (o615.2.2.drop (o615.1.toNat * 1)).take (x5 - o615.1.toNat)).length, x6, (o615.2.2.take o615.1.toNat ++ ([e616] : List Int)).take (o615.1.toNat + ([e616] : List Int).length) ++ (([] : List Int) ++ (o615.2.2.drop (o615.1.toNat * 1)).take (x5 - o615.1.toNat)))) none) none)) none) none) none) none) none) none) none) (K (x3, x5, x5_1, x6, o615.2.2)))
def fJ n x3 x5 x5_1 x6 h0_0 := ed n x3 x5 x5_1 x6 h0_0 _ some
def mM : PS := ⟨[], [(3, .I true .i64), (5, .o 0 1), (6, .n)], some [.rN .i64], [⟨.normal, [], [(3, .I true .i64), (5, .o 0 1), (6, .n)], [.rN .i64], (some 0)⟩], (some 0), none⟩
def bS (n : Nat) (x3 : List Int) (x5 x5_1 : Nat) (x6 : Int) (h0_0 : List Int) (R : Type) (A_ : (List Int) → Nat → Nat → Int → (List Int) → Option R) (K : (Nat × Nat × (List Int)) → Option R) : Option R := cond (decide (x6 < (x3.length : Int))) ((fJ n x3 x5 x5_1 x6 h0_0).bind fun o617 => (A_ o617.1 o617.2.1 o617.2.2.1 (IntKind.i64.wrap (o617.2.2.2.1 + (1 : Int))) o617.2.2.2.2)) (K (x5, x5_1, h0_0))
def aO (n : Nat) : Nat → (List Int) → Nat → Nat → Int → (List Int) → Option ((Nat × Nat × (List Int)))
 | 0, _, _, _, _, _ => none
 | m + 1, x3, x5, x5_1, x6, h0_0 => bS n x3 x5 x5_1 x6 h0_0 _ (aO n m) some
def mO : PS := ⟨[], [(3, .I true .i64), (5, .o 0 1), (6, .n)], some [.rN .i64], [⟨(.exit 2), [], [(5, .o 0 1)], [.rN .i64], none⟩], (some 0), none⟩
theorem zG (n : Nat) : Snd ⟨Tryz.prog, 0, 103⟩ (mH.x (fI n)) (fb Tryz.f16 533695) := jC (S := mH) (b := bQ n) (.d [] [(1, .look), (2, .look), (5, .look), (7, .look), (12, .no)]) (nt6 (bQ n) (by intros; unfold bQ; simp only [ax])) trivial
theorem zH (n : Nat) : Snd ⟨Tryz.prog, 0, 103⟩ (mJ.x (jl n)) (fb Tryz.f16 1189055) := jC (S := mJ) (b := d9 n) (.d [] [(2, .look), (4, .look), (9, .no)]) (nt7 (d9 n) (by intros; unfold d9; simp only [ax])) trivial
theorem zI (n : Nat) : Snd ⟨Tryz.prog, 0, 103⟩ (mK.x (aY n n)) (fb Tryz.f16 74943) := lC (S := mK) (b := bR n) (f := aY n) n (.s (.s (.p (mH.x (fI n))) .a) (.u (.s (.p (mJ.x (jl n))) .a))) (nl7 (bR n) (by intros; unfold bR; simp only [ax])) (ai (zG n) (ai (zH n) trivial))
theorem zJ (n : Nat) : Snd ⟨Tryz.prog, 0, 103⟩ (mM.x (fJ n)) (fb Tryz.f16 5311) := jC (S := mM) (b := ed n) (.u (.s .a (.s (.u (.p (mK.x (aY n n)))) (.s .a (.s (.s .a (.s (.r [(0, .tk [9]), (4, .am [86]), (5, .tk [90])]) (.d [(8, .ao), (9, .tk [9]), (10, .ao)] [(0, .look), (2, .look), (6, .no), (8, .all), (10, .all), (11, .look)]))) .a))))) (nt5 (ed n) (by intros; unfold ed; simp only [ax])) (ai (zI n) trivial)
theorem zK (n : Nat) : Snd ⟨Tryz.prog, 0, 103⟩ (mF.x (aX n n)) (fb Tryz.f16 87) := lC (S := mF) (b := bO n) (f := aX n) n (.s .a (.s (.u (.r [(0, .tk [3]), (9, .tk [21]), (10, .tk [30])])) .a)) (aaK (bO n) (by intros; unfold bO; simp only [ax])) trivial
theorem zL (n : Nat) : Snd ⟨Tryz.prog, 0, 103⟩ (mG.x (fH n)) (fb Tryz.f16 47) := jC (S := mG) (b := bP n) (.s .a (.s (.s (.r [(0, .tk [3]), (5, .tk [33]), (6, .tk [38])]) (.s .a (.s (.r [(0, .tk [3]), (5, .tk [43]), (6, .tk [48])]) .a))) .a)) (Zx (bP n) (by intros; unfold bP; simp only [ax])) trivial
theorem zM (n : Nat) : Snd ⟨Tryz.prog, 0, 103⟩ (mO.x (aO n n)) (fb Tryz.f16 703) := lC (S := mO) (b := bS n) (f := aO n) n (.s .a (.s (.p (mM.x (fJ n))) .a)) (nl5 (bS n) (by intros; unfold bS; simp only [ax])) (ai (zJ n) trivial)
def dC (n : Nat) (a0 : List (List AV)) (a1 a2 : List Int) (a3 a4 a5 : Str) (a6 a7 a8 a9 a10 a11 a12 a13 a14 a15 a16 a17 : Int) (a18 a19 : Bool) (R : Type) (K : (List Int) → Option R) : Option R := cond a19 (K ([(0 : Int)] : List Int)) ((aX n n ([] : List Int) (0 : Int) a0 a1 a2 a3 a4 a5 a6 a7 a8 a9 a10 a11 a12 a13 a14 a15 a16 a17 a18 a19).bind fun o605 => ((fH n o605.1 o605.2.1 o605.2.2.1 o605.2.2.2.1 o605.2.2.2.2.1 o605.2.2.2.2.2.1 o605.2.2.2.2.2.2.1 o605.2.2.2.2.2.2.2.1 o605.2.2.2.2.2.2.2.2.1 o605.2.2.2.2.2.2.2.2.2.1 o605.2.2.2.2.2.2.2.2.2.2.1 o605.2.2.2.2.2.2.2.2.2.2.2.1 o605.2.2.2.2.2.2.2.2.2.2.2.2.1 o605.2.2.2.2.2.2.2.2.2.2.2.2.2.1 o605.2.2.2.2.2.2.2.2.2.2.2.2.2.2.1 o605.2.2.2.2.2.2.2.2.2.2.2.2.2.2.2.1 o605.2.2.2.2.2.2.2.2.2.2.2.2.2.2.2.2.1 o605.2.2.2.2.2.2.2.2.2.2.2.2.2.2.2.2.2.1 o605.2.2.2.2.2.2.2.2.2.2.2.2.2.2.2.2.2.2.1 o605.2.2.2.2.2.2.2.2.2.2.2.2.2.2.2.2.2.2.2.1 o605.2.2.2.2.2.2.2.2.2.2.2.2.2.2.2.2.2.2.2.2).bind fun o606 => ((aO n n o606.1 0 0 (0 : Int) ([] : List Int)).bind fun o618 => (cond (decide (o618.2.1 = o618.2.2.length)) (K (o618.2.2.take o618.1)) none))))
def bJ n a0 a1 a2 a3 a4 a5 a6 a7 a8 a9 a10 a11 a12 a13 a14 a15 a16 a17 a18 a19 := dC n a0 a1 a2 a3 a4 a5 a6 a7 a8 a9 a10 a11 a12 a13 a14 a15 a16 a17 a18 a19 _ some
def vk : FS := ⟨[.a [.L false 3, .l .i64, .l .i64, .s, .s, .s, .n, .n, .c, .n, .n, .n, .n, .c, .n, .n, .n, .n, .b, .b]], [], [([.I true .i64], [])]⟩
def uT (n : Nat) : FSpec := vk.sp (bJ n)
theorem Av (n : Nat) : FSound Tryz.prog 16 (uT n) := fs2 (S := vk) (b := dC n) Tryz.func16 rfl rfl [.tmp 2] (.s .a (.s (.s .a (.s (.s (.r [(1, .tk [12])]) .a) .a)) (.s .a (.s (.s .a (.u (.p (mF.x (aX n n))))) (.s (.p (mG.x (fH n))) (.s (.r [(0, .nl (some .i64) 1)]) (.s (.s .a (.u (.p (mO.x (aO n n))))) (.s (.z [5] (.r [(0, .tk [5]), (1, .tk [102])])) .a)))))))) (acw (dC n) (by intros; unfold dC; simp only [ax])) (ai (zK n) (ai (zL n) (ai (zM n) trivial)))
def bZ (n : Nat) (a0 : List (List AV)) (a1 a2 : List Int) (a3 a4 a5 : Str) (a6 a7 a8 a9 a10 a11 a12 a13 a14 a15 a16 a17 : Int) (a18 a19 : Bool) (a20 : Int) (R : Type) (K : Int → Option R) : Option R := (qp n a20 (1000000 : Int)).bind fun o631 => ((aA n a0 a1 a2 a3 a4 a5 a6 a7 a8 a9 a10 a11 a12 a13 a14 a15 a16 a17 a18 a19 o631).bind fun o632 => (K (IntKind.i64.wrap (a20 + (IntKind.i64.wrap (o632 * (1000000 : Int)))))))
def aI n a0 a1 a2 a3 a4 a5 a6 a7 a8 a9 a10 a11 a12 a13 a14 a15 a16 a17 a18 a19 a20 := bZ n a0 a1 a2 a3 a4 a5 a6 a7 a8 a9 a10 a11 a12 a13 a14 a15 a16 a17 a18 a19 a20 _ some
def w9 : FS := ⟨[.a [.L false 3, .l .i64, .l .i64, .s, .s, .s, .n, .n, .c, .n, .n, .n, .n, .c, .n, .n, .n, .n, .b, .b], .n], [], [([.n], [])]⟩
def wF (n : Nat) : FSpec := w9.sp (aI n)
theorem BV (n : Nat) : FSound Tryz.prog 19 (wF n) := fs2 (S := w9) (b := bZ n) Tryz.func19 rfl rfl [.tmp 4] (.s .a (.s (.d [(3, .cl 11 (Ad n)), (4, .cl 13 (vg n))] [(1, .peek [0] [0]), (3, .part []), (4, .part [])]) .a)) (Zx (bZ n) (by intros; unfold bZ; simp only [ax])) (ai (Gf n) (ai (BQ n) trivial))
end Go.Proofs.YtiegmpnagcdgoaaGreatDoor.H
namespace Go.Proofs.YtiegmpnagcdgoaaGreatDoor.H
open Go.Sh Go.RowKit
set_option linter.unusedVariables false
set_option linter.unusedSimpArgs false
set_option maxHeartbeats 4000000
set_option maxRecDepth 100000
end Go.Proofs.YtiegmpnagcdgoaaGreatDoor.H
namespace Go.Sh
open Go.RowKit
set_option linter.unusedSimpArgs false
theorem aa {α : Type} {p : Prop} [Decidable p] (h : p) (x y : α) : cond (decide p) x y = x := by rw [decide_eq_true h]; rfl
theorem ah {α : Type} {p : Prop} [Decidable p] (h : ¬p) (x y : α) : cond (decide p) x y = y := by rw [decide_eq_false h]; rfl
theorem wG (i : Nat) (h : i < 9223372036854775807) : IntKind.i64.wrap ((i : Int) + 1) = ((i + 1 : Nat) : Int) := by
 rw [IntWalk.i64_in _ (by omega)]
 omega
theorem Gj {p : Nat → Prop} [DecidablePred p] (h : ((List.range 256).all fun x => decide (p x)) = true) (b : UInt8) : p b.toNat :=
 of_decide_eq_true (List.all_eq_true.1 h _ (List.mem_range.2 b.toNat_lt))
theorem Zz (c d : UInt8) : ((c.toNat : Int) == (d.toNat : Int)) = (c == d) := by
 rw [Bool.eq_iff_iff, beq_iff_eq, beq_iff_eq]
 constructor
 ·intro h
  exact UInt8.toNat_inj.1 (by omega)
 ·intro h
  rw [h]
theorem Kq (c d : UInt8) : ((c.toNat : Int) != (d.toNat : Int)) = (c != d) := by rw [bne, bne, Zz]
theorem Ls (s : Str) : (pJ s).length = s.length := by simp [pJ]
theorem kW {α : Type} {s r : List α} {i : Nat} {c : α} (h : s.drop i = c :: r) : s[i]? = some c ∧ s.drop (i + 1) = r ∧ i < s.length := by
 have hi : i < s.length := by
  by_cases hi : i < s.length
  ·exact hi
  ·rw [List.drop_eq_nil_of_le (by omega)] at h; cases h
 rw [List.drop_eq_getElem_cons hi] at h
 injection h with h1 h2
 exact ⟨by rw [List.getElem?_eq_getElem hi, h1], h2, hi⟩
theorem drop_nil {α : Type} {s : List α} {i : Nat} (h : s.drop i = []) : s.length ≤ i := by simpa using h
end Go.Sh
namespace Go.Proofs.YtiegmpnagcdgoaaGreatDoor.H
open Go.Sh Go.RowKit
set_option linter.unusedSimpArgs false
set_option linter.unusedVariables false
def jH (b : UInt8) : Bool := (65 ≤ b && b ≤ 90) || (97 ≤ b && b ≤ 122)
def fK (b : UInt8) : Bool := 48 ≤ b && b ≤ 57
def JB (b : UInt8) : Bool := jH b || fK b || b == 43 || b == 45
def xc (b : UInt8) : Bool := b != 62
theorem Vw (n : Nat) (b : UInt8) : vZ n (b.toNat : Int) = some (jH b) := by
 have h := Gj (p := fun x => vZ 0 (x : Int) = some (jH (UInt8.ofNat x))) (by decide +kernel) b
 rw [UInt8.ofNat_toNat] at h
 exact h
theorem XM (n : Nat) (b : UInt8) : xu n (b.toNat : Int) = some (fK b) := by
 have h := Gj (p := fun x => xu 0 (x : Int) = some (fK (UInt8.ofNat x))) (by decide +kernel) b
 rw [UInt8.ofNat_toNat] at h
 exact h
theorem ZA (n : Nat) (b : UInt8) : qb n (b.toNat : Int) = some (xc b) := by
 have h := Gj (p := fun x => qb 0 (x : Int) = some (xc (UInt8.ofNat x))) (by decide +kernel) b
 rw [UInt8.ofNat_toNat] at h
 exact h
theorem XN (n : Nat) (b : UInt8) : Bb n (b.toNat : Int) = some (!JB b) := by
 have h := Gj (p := fun x => Bb 0 (x : Int) = some (!JB (UInt8.ofNat x))) (by decide +kernel) b
 rw [UInt8.ofNat_toNat] at h
 exact h
theorem aaO (b : UInt8) (hb : b.toNat < 128) : (Utf8.encode (IntKind.i32.wrap (b.toNat : Int))).data.toList = [b] := by
 have h := Gj (p := fun x => x < 128 → (Utf8.encode (IntKind.i32.wrap (x : Int))).data.toList = [UInt8.ofNat x]) (by decide +kernel) b hb
 rw [UInt8.ofNat_toNat] at h
 exact h
def ay (c : UInt8) : Str → Bool × Str
 | [] => (false, [])
 | x :: r => if x = c then (true, r) else (false, x :: r)
theorem iY (c : UInt8) (r : Str) : (ay c r).2.length ≤ r.length := by
 cases r with
 | nil => simp [ay]
 | cons x r => by_cases h : x = c <;> simp [ay, h]
theorem EO (n : Nat) (a : Int) (c : UInt8) (r : Str) (b : Bool) (ha : a = (c.toNat : Int) := by rfl) (hc : c.toNat < 128 := by decide) : bB n a r b = some ((ay c r).1, (ay c r).2, b) := by
 subst ha
 unfold bB pQ yt
 rw [aaO c hc]
 cases r with
 | nil => rfl
 | cons x r =>
  have hp : Lib.hasPrefix (x :: r) [c] = (c == x) := by simp [Lib.hasPrefix, List.isPrefixOf]
  by_cases h : x = c
  ·subst h; simp [ay, Lib.trimPrefix, hp]
  ·simp [ay, Lib.trimPrefix, hp, h, Ne.symm h]
theorem Kr (n : Nat) (a : Int) (c : UInt8) (r : Str) (b : Bool) (ha : a = (c.toNat : Int) := by rfl) (hc : c.toNat < 128 := by decide) : fP n a r b = some ((ay c r).2, b || !(ay c r).1) := by
 unfold fP ou
 rw [EO n a c r b ha hc]
 cases h : (ay c r).1 <;> cases b <;> simp [h]
theorem Ul (n : Nat) (x1 : Nat) (s : Str) (b : Bool) (hs : s.length < 9223372036854775808) : ∀ (m i : Nat), s.length - i < m → i ≤ s.length →
 iJ n m (x1 : Int) (i : Int) s b = some (((i + (((s.drop i).take (x1 - i)).takeWhile xc).length : Nat) : Int), s, b)
 | 0, i, hm, _ => by omega
 | m + 1, i, hm, hi => by
  rw [iJ, lF, sD, lD]
  cases hd : s.drop i with
  | nil =>
   have := drop_nil hd
   rw [ah (by omega)]
   simp
  | cons c r =>
   obtain ⟨h1, h2, h3⟩ := kW hd
   rw [aa (by omega)]
   by_cases hx : i < x1
   ·rw [aa (by omega), aa (by omega), Int.toNat_natCast, h1]
    simp only [Option.bind_some, ZA]
    obtain ⟨k, hk⟩ : ∃ k, x1 - i = k + 1 := ⟨x1 - i - 1, by omega⟩
    rw [hk, List.take_succ_cons]
    cases hc : xc c with
    | false => rw [List.takeWhile_cons_of_neg (by simp [hc])]; simp
    | true =>
     rw [List.takeWhile_cons_of_pos (by simp [hc]), cond_true, wG i (by omega), Ul n x1 s b hs m (i + 1) (by omega) (by omega), h2, show x1 - (i + 1) = k by omega]
     refine congrArg some (Prod.ext (congrArg (fun z : Nat => (z : Int)) ?_) rfl)
     simp only [List.length_cons]
     omega
   ·rw [ah (by omega)]
    simp [show x1 - i = 0 by omega]
theorem Rq (n : Nat) (x1 : Nat) (s : Str) (b : Bool) (hs : s.length < 9223372036854775808) : ∀ (m i : Nat), s.length - i < m → i ≤ s.length →
 gH n m (x1 : Int) (i : Int) s b = some (((i + (((s.drop i).take (x1 - i)).takeWhile jH).length : Nat) : Int), s, b)
 | 0, i, hm, _ => by omega
 | m + 1, i, hm, hi => by
  rw [gH, jP, qc, jO]
  cases hd : s.drop i with
  | nil =>
   have := drop_nil hd
   rw [ah (by omega)]
   simp
  | cons c r =>
   obtain ⟨h1, h2, h3⟩ := kW hd
   rw [aa (by omega)]
   by_cases hx : i < x1
   ·rw [aa (by omega), aa (by omega), Int.toNat_natCast, h1]
    simp only [Option.bind_some, Vw]
    obtain ⟨k, hk⟩ : ∃ k, x1 - i = k + 1 := ⟨x1 - i - 1, by omega⟩
    rw [hk, List.take_succ_cons]
    cases hc : jH c with
    | false => rw [List.takeWhile_cons_of_neg (by simp [hc])]; simp
    | true =>
     rw [List.takeWhile_cons_of_pos (by simp [hc]), cond_true, wG i (by omega), Rq n x1 s b hs m (i + 1) (by omega) (by omega), h2, show x1 - (i + 1) = k by omega]
     refine congrArg some (Prod.ext (congrArg (fun z : Nat => (z : Int)) ?_) rfl)
     simp only [List.length_cons]
     omega
   ·rw [ah (by omega)]
    simp [show x1 - i = 0 by omega]
theorem Rs (n : Nat) (x1 : Nat) (s : Str) (b : Bool) (hs : s.length < 9223372036854775808) : ∀ (m i : Nat), s.length - i < m → i ≤ s.length →
 gI n m (x1 : Int) (i : Int) s b = some (((i + (((s.drop i).take (x1 - i)).takeWhile fK).length : Nat) : Int), s, b)
 | 0, i, hm, _ => by omega
 | m + 1, i, hm, hi => by
  rw [gI, jR, qd, jQ]
  cases hd : s.drop i with
  | nil =>
   have := drop_nil hd
   rw [ah (by omega)]
   simp
  | cons c r =>
   obtain ⟨h1, h2, h3⟩ := kW hd
   rw [aa (by omega)]
   by_cases hx : i < x1
   ·rw [aa (by omega), aa (by omega), Int.toNat_natCast, h1]
    simp only [Option.bind_some, XM]
    obtain ⟨k, hk⟩ : ∃ k, x1 - i = k + 1 := ⟨x1 - i - 1, by omega⟩
    rw [hk, List.take_succ_cons]
    cases hc : fK c with
    | false => rw [List.takeWhile_cons_of_neg (by simp [hc])]; simp
    | true =>
     rw [List.takeWhile_cons_of_pos (by simp [hc]), cond_true, wG i (by omega), Rs n x1 s b hs m (i + 1) (by omega) (by omega), h2, show x1 - (i + 1) = k by omega]
     refine congrArg some (Prod.ext (congrArg (fun z : Nat => (z : Int)) ?_) rfl)
     simp only [List.length_cons]
     omega
   ·rw [ah (by omega)]
    simp [show x1 - i = 0 by omega]
def kw (p : UInt8 → Bool) (k : Nat) (s : Str) : Str := (s.take k).takeWhile p
theorem KR (p : UInt8 → Bool) (k : Nat) (s : Str) : s.take (kw p k s).length = kw p k s := by
 have h : kw p k s <+: s := (List.takeWhile_prefix p).trans (List.take_prefix k s)
 exact (List.prefix_iff_eq_take.1 h).symm
theorem xR (p : UInt8 → Bool) (k : Nat) (s : Str) : (kw p k s).length ≤ s.length ∧ (kw p k s).length ≤ k := by
 have h := (List.takeWhile_prefix p (l := s.take k)).length_le
 rw [List.length_take] at h
 unfold kw
 omega
theorem Um (p : UInt8 → Bool) (k : Nat) (s : Str) : (kw p k s).all p = true := by
 exact List.all_takeWhile
theorem aaP (n k : Nat) (s : Str) (b : Bool) (hs : s.length < 9223372036854775808) (hn : s.length < n) : uw n (k : Int) s b = some (kw xc k s, s.drop (kw xc k s).length, b) := by
 have hl := xR xc k s
 unfold uw pR
 have h := Ul n k s b hs n 0 (by omega) (by omega)
 simp only [List.drop_zero, Nat.sub_zero, Nat.zero_add] at h
 rw [show (0 : Int) = ((0 : Nat) : Int) from rfl, h]
 simp only [Option.bind_some]
 change cond (decide ((0 : Int) ≤ ((kw xc k s).length : Int))) (cond (decide (((kw xc k s).length : Int) ≤ (s.length : Int))) _ _) _ = _
 rw [aa (by omega), aa (by omega)]
 change cond (decide ((0 : Int) ≤ ((kw xc k s).length : Int))) (cond (decide (((kw xc k s).length : Int) ≤ (s.length : Int))) (some ((s.take ((kw xc k s).length : Int).toNat).drop 0, s.drop ((kw xc k s).length : Int).toNat, b)) _) _ = _
 rw [aa (by omega), aa (by omega), Int.toNat_natCast, KR, List.drop_zero]
theorem ZB (n k : Nat) (s : Str) (b : Bool) (hs : s.length < 9223372036854775808) (hn : s.length < n) : qX n (k : Int) s b = some (kw jH k s, s.drop (kw jH k s).length, b) := by
 have hl := xR jH k s
 unfold qX nz
 have h := Rq n k s b hs n 0 (by omega) (by omega)
 simp only [List.drop_zero, Nat.sub_zero, Nat.zero_add] at h
 rw [show (0 : Int) = ((0 : Nat) : Int) from rfl, h]
 simp only [Option.bind_some]
 change cond (decide ((0 : Int) ≤ ((kw jH k s).length : Int))) (cond (decide (((kw jH k s).length : Int) ≤ (s.length : Int))) _ _) _ = _
 rw [aa (by omega), aa (by omega)]
 change cond (decide ((0 : Int) ≤ ((kw jH k s).length : Int))) (cond (decide (((kw jH k s).length : Int) ≤ (s.length : Int))) (some ((s.take ((kw jH k s).length : Int).toNat).drop 0, s.drop ((kw jH k s).length : Int).toNat, b)) _) _ = _
 rw [aa (by omega), aa (by omega), Int.toNat_natCast, KR, List.drop_zero]
theorem ZC (n k : Nat) (s : Str) (b : Bool) (hs : s.length < 9223372036854775808) (hn : s.length < n) : qZ n (k : Int) s b = some (kw fK k s, s.drop (kw fK k s).length, b) := by
 have hl := xR fK k s
 unfold qZ nA
 have h := Rs n k s b hs n 0 (by omega) (by omega)
 simp only [List.drop_zero, Nat.sub_zero, Nat.zero_add] at h
 rw [show (0 : Int) = ((0 : Nat) : Int) from rfl, h]
 simp only [Option.bind_some]
 change cond (decide ((0 : Int) ≤ ((kw fK k s).length : Int))) (cond (decide (((kw fK k s).length : Int) ≤ (s.length : Int))) _ _) _ = _
 rw [aa (by omega), aa (by omega)]
 change cond (decide ((0 : Int) ≤ ((kw fK k s).length : Int))) (cond (decide (((kw fK k s).length : Int) ≤ (s.length : Int))) (some ((s.take ((kw fK k s).length : Int).toNat).drop 0, s.drop ((kw fK k s).length : Int).toNat, b)) _) _ = _
 rw [aa (by omega), aa (by omega), Int.toNat_natCast, KR, List.drop_zero]
theorem Qe (n : Nat) (s : Str) (hs : s.length < 9223372036854775808) : ∀ (m i : Nat), s.length - i < m →
 ∃ o, bn n m (pJ s) (s.length : Int) (i : Int) = some o ∧ ((s.drop i).all JB = true → o = Sum.inr ()) ∧ ((s.drop i).all JB = false → ∃ j : Nat, o = Sum.inl (j : Int))
 | 0, i, hm => by omega
 | m + 1, i, hm => by
  rw [bn, dF]
  cases hd : s.drop i with
  | nil =>
   have := drop_nil hd
   rw [ah (by omega)]
   exact ⟨_, rfl, by simp⟩
  | cons c r =>
   obtain ⟨h1, h2, h3⟩ := kW hd
   have h4 : (pJ s)[i]? = some (c.toNat : Int) := by simp [pJ, h1]
   rw [aa (by omega), aa (by omega), Int.toNat_natCast, h4]
   simp only [Option.bind_some, XN, List.all_cons]
   rcases Bool.eq_false_or_eq_true (JB c) with hc | hc
   ·rw [hc, Bool.not_true, cond_false, wG i (by omega)]
    obtain ⟨o, h5, h6⟩ := Qe n s hs m (i + 1) (by omega)
    rw [h2] at h6
    exact ⟨o, h5, by simpa using h6⟩
   ·rw [hc]
    exact ⟨_, rfl, by simp, fun _ => ⟨i, rfl⟩⟩
def ui (s : Str) : Bool := decide (3 ≤ s.length) && decide (s.length ≤ 10) && s.all JB
theorem aaQ (n : Nat) (s : Str) (hs : s.length < 9223372036854775808) (hn : s.length < n) : Ey n s = some (s.all JB) := by
 unfold Ey Bc kZ dG nP fo
 obtain ⟨o, h1, h2, h3⟩ := Qe n s hs n 0 (by omega)
 rw [Ls, show (0 : Int) = ((0 : Nat) : Int) from rfl, h1]
 rw [List.drop_zero] at h2 h3
 rcases Bool.eq_false_or_eq_true (s.all JB) with h | h
 ·rw [h2 h, h]; rfl
 ·obtain ⟨j, rfl⟩ := h3 h
  rw [h]
  simp
theorem Nj (n : Nat) (s : Str) (hs : s.length < 9223372036854775808) (hn : s.length < n) : wJ n s = some (ui s) := by
 unfold wJ yM ui
 rw [aaQ n s hs hn]
 by_cases h1 : 3 ≤ s.length
 ·rw [aa (by omega)]
  by_cases h2 : s.length ≤ 10
  ·rw [aa (by omega)]; simp [h1, h2]
  ·rw [ah (by omega)]; simp [h1, h2]
 ·rw [ah (by omega)]; simp [h1]
def aB (r : Str) : Str × Str × Bool :=
 let e := ay 60 r
 if e.1 = true then
  let w := kw xc e.2.length e.2
  let f := ay 62 (e.2.drop w.length)
  (w, f.2, !f.1 || !ui w)
 else
  let w := kw jH e.2.length e.2
  (w, e.2.drop w.length, !ui w)
theorem NW (r : Str) : (aB r).2.1.length ≤ r.length := by
 have h1 := iY 60 r
 unfold aB
 dsimp only
 split
 ·have h2 := iY 62 ((ay 60 r).2.drop (kw xc (ay 60 r).2.length (ay 60 r).2).length)
  simp only [List.length_drop] at h2
  dsimp only
  omega
 ·simp only [List.length_drop]; omega
theorem Rt (n : Nat) (r : Str) (b : Bool) (hs : r.length < 9223372036854775808) (hn : r.length < n) : oz n r b = some ((aB r).1, (aB r).2.1, b || (aB r).2.2) := by
 have hl := iY 60 r
 unfold oz ow qY ky aB
 rw [EO n 60 60 r b]
 simp only [Option.bind_some]
 cases he : (ay 60 r).1 with
 | true =>
  have h2 := xR xc (ay 60 r).2.length (ay 60 r).2
  rw [cond_true, aaP n _ _ b (by omega) (by omega)]
  simp only [Option.bind_some]
  rw [Kr n 62 62]
  simp only [Option.bind_some, if_true, Nj n (kw xc (ay 60 r).2.length (ay 60 r).2) (by omega) (by omega)]
  cases b <;> cases (ay 62 ((ay 60 r).2.drop (kw xc (ay 60 r).2.length (ay 60 r).2).length)).1 <;> rfl
 | false =>
  have h2 := xR jH (ay 60 r).2.length (ay 60 r).2
  rw [cond_false, ZB n _ _ b (by omega) (by omega)]
  simp only [Option.bind_some, Bool.false_eq_true, if_false, Nj n (kw jH (ay 60 r).2.length (ay 60 r).2) (by omega) (by omega)]
  cases b <;> rfl
end Go.Proofs.YtiegmpnagcdgoaaGreatDoor.H
namespace Go.Proofs.YtiegmpnagcdgoaaGreatDoor.H
open Go.Sh Go.RowKit
set_option linter.unusedSimpArgs false
set_option linter.unusedVariables false
def K6 (d : Str) : Nat := d.foldl (fun a c => a * 10 + (c.toNat - 48)) 0
theorem XO (d : Str) (c : UInt8) : K6 (d ++ [c]) = K6 d * 10 + (c.toNat - 48) := by simp [K6, List.foldl_append]
theorem Md (c : UInt8) : fK c = true ↔ 48 ≤ c.toNat ∧ c.toNat ≤ 57 := by
 unfold fK
 simp only [Bool.and_eq_true, decide_eq_true_eq, UInt8.le_iff_toNat_le]
 exact Iff.rfl
theorem Qf : ∀ (l : Str) (acc k : Nat), acc < 10 ^ k → k + l.length ≤ 18 → l.all fK = true →
 Lib.parseUint10 acc l = .ok (l.foldl (fun a c => a * 10 + (c.toNat - 48)) acc) ∧ l.foldl (fun a c => a * 10 + (c.toNat - 48)) acc < 10 ^ (k + l.length)
 | [], acc, k, h, _, _ => ⟨rfl, h⟩
 | c :: r, acc, k, h, hk, hd => by
  simp only [List.all_cons, Bool.and_eq_true, Md] at hd
  simp only [List.length_cons] at hk
  have h17 : 10 ^ k ≤ 10 ^ 17 := Nat.pow_le_pow_right (by omega) (by omega)
  have hp : (10 : Nat) ^ (k + 1) = 10 ^ k * 10 := Nat.pow_succ ..
  have h1 : acc * 10 + (c.toNat - 48) < 10 ^ (k + 1) := by omega
  have h2 := Qf r (acc * 10 + (c.toNat - 48)) (k + 1) h1 (by omega) hd.2
  rw [Lib.parseUint10, if_pos hd.1, if_neg (by omega), if_neg (by omega)]
  rw [show k + (c :: r).length = k + 1 + r.length by simp only [List.length_cons]; omega]
  exact h2
theorem SK (d : Str) (hl : d.length ≤ 18) (hd : d.all fK = true) : K6 d < 10 ^ d.length := by
 have := (Qf d 0 0 (by omega) (by omega) hd).2
 rwa [Nat.zero_add] at this
theorem ZE (n : Nat) (d : Str) (hl : d.length ≤ 3) (hd : d.all fK = true) : xw n d = some (K6 d : Int) := by
 unfold xw FD
 rw [aa (by omega)]
 cases d with
 | nil => rfl
 | cons c r =>
  have h := (Qf (c :: r) 0 0 (by omega) (by omega) hd).1
  have h2 := SK (c :: r) (by omega) hd
  have h3 : (10 : Nat) ^ (c :: r).length ≤ 10 ^ 3 := Nat.pow_le_pow_right (by omega) hl
  have hc := hd
  simp only [List.all_cons, Bool.and_eq_true, Md] at hc
  unfold Lib.atoiAll
  simp only
  rw [if_neg (by omega), Lib.parseMag, if_neg (by simp), h]
  change some (match (if ¬ (c.toNat = 45) ∧ 9223372036854775808 ≤ K6 (c :: r) then Lib.NumEnd.range else if c.toNat = 45 ∧ 9223372036854775808 < K6 (c :: r) then .range else .ok (if c.toNat = 45 then -(K6 (c :: r) : Int) else (K6 (c :: r) : Int))) with | .ok v => v | .range => _ | _ => 0) = _
  rw [if_neg (by omega), if_neg (by omega), if_neg (by omega)]
def dD (least most : Nat) (r : Str) : Nat × Str × Bool :=
 let d := kw fK most r
 (K6 d, r.drop d.length, decide (d.length < least))
theorem wH (a b : Nat) (r : Str) : (dD a b r).2.1.length ≤ r.length := by
 simp [dD, List.length_drop]
theorem EP (a : Nat) (b : Nat) (r : Str) (hb : b ≤ 3) : (dD a b r).1 < 1000 := by
 have h1 := xR fK b r
 have h2 := SK (kw fK b r) (by omega) (Um _ _ _)
 have h3 : (10 : Nat) ^ (kw fK b r).length ≤ 10 ^ 3 := Nat.pow_le_pow_right (by omega) (by omega)
 exact Nat.lt_of_lt_of_le h2 h3
theorem Jf (n a b : Nat) (ha : a ≤ 3) (hb : b ≤ 3) (r : Str) (bad : Bool) (hs : r.length < 9223372036854775808) (hn : r.length < n) :
 aZ n (a : Int) (b : Int) r bad = some (((dD a b r).1 : Int), (dD a b r).2.1, bad || (dD a b r).2.2) := by
 have h1 := xR fK b r
 unfold aZ lG oZ jm dD
 rw [ZC n b r bad hs hn]
 simp only [Option.bind_some]
 rw [ZE n _ (by omega) (Um _ _ _)]
 have hd : decide (((kw fK b r).length : Int) < (a : Int)) = decide ((kw fK b r).length < a) := by rw [decide_eq_decide]; omega
 rw [hd]
 cases bad <;> rfl
def minS (r : Str) : Int × Str × Bool :=
 let e := ay 58 r
 if e.1 = true then
  let m := dD 2 2 e.2
  let f := ay 58 m.2.1
  if f.1 = true then
   let s := dD 2 2 f.2
   (60 * (m.1 : Int) + s.1, s.2.1, m.2.2 || decide (60 ≤ m.1) || s.2.2 || decide (60 ≤ s.1))
  else (60 * (m.1 : Int), f.2, m.2.2 || decide (60 ≤ m.1))
 else (0, e.2, false)
theorem ZF (r : Str) : (minS r).2.1.length ≤ r.length := by
 have h1 := iY 58 r
 have h2 := wH 2 2 (ay 58 r).2
 have h3 := iY 58 (dD 2 2 (ay 58 r).2).2.1
 have h4 := wH 2 2 (ay 58 (dD 2 2 (ay 58 r).2).2.1).2
 unfold minS
 dsimp only
 split
 ·split <;> dsimp only <;> omega
 ·exact h1
theorem Wz (r : Str) : 0 ≤ (minS r).1 ∧ (minS r).1 < 70000 := by
 have h2 := EP 2 2 (ay 58 r).2 (by omega)
 have h4 := EP 2 2 (ay 58 (dD 2 2 (ay 58 r).2).2.1).2 (by omega)
 unfold minS
 dsimp only
 split
 ·split <;> dsimp only <;> omega
 ·simp
def uU (r : Str) : Int × Str :=
 let e := ay 45 r
 if e.1 = true then (-1, e.2) else (1, (ay 43 e.2).2)
theorem Ru (r : Str) : (uU r).2.length ≤ r.length := by
 have h1 := iY 45 r
 have h2 := iY 43 (ay 45 r).2
 unfold uU
 dsimp only
 split <;> dsimp only <;> omega
theorem Qg (r : Str) : (uU r).1 = -1 ∨ (uU r).1 = 1 := by
 unfold uU
 dsimp only
 split <;> simp
def dO (most : Nat) (r : Str) : Int × Str × Bool :=
 let g := uU r
 let h := dD 1 3 g.2
 let m := minS h.2.1
 (g.1 * (3600 * (h.1 : Int) + m.1), m.2.1, h.2.2 || decide (most < h.1) || m.2.2)
theorem Jg (most : Nat) (r : Str) : (dO most r).2.1.length ≤ r.length := by
 have h1 := Ru r
 have h2 := wH 1 3 (uU r).2
 have h3 := ZF (dD 1 3 (uU r).2).2.1
 unfold dO
 dsimp only
 omega
theorem KS (most : Nat) (r : Str) : -4000000 < (dO most r).1 ∧ (dO most r).1 < 4000000 := by
 have h1 := EP 1 3 (uU r).2 (by omega)
 have h2 := Wz (dD 1 3 (uU r).2).2.1
 unfold dO
 dsimp only
 rcases Qg r with h | h <;> rw [h] <;> omega
theorem ZG (n : Nat) (r : Str) (b : Bool) : lH n 1 r b = some ((uU r).1, (uU r).2, b) := by
 unfold lH jS uU
 rw [EO n 45 45]
 simp only [Option.bind_some]
 cases he : (ay 45 r).1 with
 | true => rfl
 | false =>
  simp only [cond_false]
  rw [EO n 43 43]
  rfl
theorem wi (x : Int) (h : -9223372036854775808 ≤ x) (h2 : x ≤ 9223372036854775807) : IntKind.i64.wrap x = x := IntWalk.i64_in _ (by omega)
theorem aaR (n : Nat) (x : Int) (r : Str) (b : Bool) (hx : 0 ≤ x) (hx2 : x < 10000000) (hs : r.length < 9223372036854775808) (hn : r.length + 5 < n) :
 bY n n x 60 r b = some (x + (minS r).1, (minS r).2.1, b || (minS r).2.2) := by
 obtain ⟨k, rfl⟩ : ∃ k, n = k + 3 := ⟨n - 3, by omega⟩
 have h1 := iY 58 r
 have h2 := wH 2 2 (ay 58 r).2
 have h2' := EP 2 2 (ay 58 r).2 (by omega)
 have h3 := iY 58 (dD 2 2 (ay 58 r).2).2.1
 have h4 := wH 2 2 (ay 58 (dD 2 2 (ay 58 r).2).2.1).2
 have h4' := EP 2 2 (ay 58 (dD 2 2 (ay 58 r).2).2.1).2 (by omega)
 have d60 : ∀ x : Nat, decide ((x : Int) ≥ (60 : Int)) = decide (60 ≤ x) := fun x => by rw [decide_eq_decide]; omega
 unfold minS
 rw [bY, eG, iZ, eF]
 rw [aa (by omega), EO (k + 3) 58 58]
 simp only [Option.bind_some]
 cases he : (ay 58 r).1 with
 | false => simp
 | true =>
  simp only [cond_true, if_true]
  rw [show (2 : Int) = ((2 : Nat) : Int) from rfl, Jf (k + 3) 2 2 (by omega) (by omega) _ _ (by omega) (by omega)]
  simp only [Option.bind_some]
  rw [lI, gX]
  rw [show Int.tdiv 60 60 = 1 from rfl, wi 1 (by omega) (by omega), wi (60 * _) (by omega) (by omega), wi (x + _) (by omega) (by omega)]
  generalize hm : dD 2 2 (ay 58 r).2 = m at *
  have hj : ∀ b' : Bool, (cond b' (some (m.2.1, true)) (some (m.2.1, decide ((m.1 : Int) ≥ (60 : Int))))) = some (m.2.1, b' || decide (60 ≤ m.1)) := fun b' => by rw [d60]; cases b' <;> rfl
  rw [hj]
  simp only [Option.bind_some]
  rw [bY, eG, iZ, eF]
  rw [aa (by omega), EO (k + 3) 58 58]
  simp only [Option.bind_some]
  cases hf : (ay 58 m.2.1).1 with
  | false => simp [Bool.or_assoc]
  | true =>
   simp only [cond_true, if_true]
   rw [show (2 : Int) = ((2 : Nat) : Int) from rfl, Jf (k + 3) 2 2 (by omega) (by omega) _ _ (by omega) (by omega)]
   simp only [Option.bind_some]
   rw [lI, gX]
   rw [show Int.tdiv 1 60 = 0 from rfl, wi 0 (by omega) (by omega), wi (1 * _) (by omega) (by omega), wi (x + 60 * _ + _) (by omega) (by omega)]
   generalize hs : dD 2 2 (ay 58 m.2.1).2 = s at *
   have hj : ∀ b' : Bool, (cond b' (some (s.2.1, true)) (some (s.2.1, decide ((s.1 : Int) ≥ (60 : Int))))) = some (s.2.1, b' || decide (60 ≤ s.1)) := fun b' => by rw [d60]; cases b' <;> rfl
   rw [hj]
   simp only [Option.bind_some]
   rw [bY, eG, iZ, eF]
   rw [ah (by omega)]
   simp only [Option.bind_some, cond_false, Bool.or_assoc, Int.one_mul, Int.add_assoc]
theorem NY (n most : Nat) (r : Str) (b : Bool) (hs : r.length < 9223372036854775808) (hn : r.length + 5 < n) :
 bu n (most : Int) r b = some ((dO most r).1, (dO most r).2.1, b || (dO most r).2.2) := by
 have h1 := Ru r
 have h2 := wH 1 3 (uU r).2
 have h2' := EP 1 3 (uU r).2 (by omega)
 have h3 := Wz (dD 1 3 (uU r).2).2.1
 unfold bu nC dO
 rw [ZG]
 simp only [Option.bind_some]
 rw [show (aZ n (1 : Int) (3 : Int) (uU r).2 b) = _ from Jf n 1 3 (by omega) (by omega) _ _ (by omega) (by omega)]
 simp only [Option.bind_some]
 rw [qf, jT]
 generalize dD 1 3 (uU r).2 = h at *
 have hd : decide ((h.1 : Int) > (most : Int)) = decide (most < h.1) := by rw [decide_eq_decide]; omega
 have hj : ∀ b' : Bool, (cond b' (some (h.2.1, true)) (some (h.2.1, decide ((h.1 : Int) > (most : Int))))) = some (h.2.1, b' || decide (most < h.1)) := fun b' => by rw [hd]; cases b' <;> rfl
 rw [hj]
 simp only [Option.bind_some]
 rw [wi ((h.1 : Int) * 3600) (by omega) (by omega), aaR n _ _ _ (by omega) (by omega) (by omega) (by omega)]
 simp only [Option.bind_some]
 rw [Int.mul_comm (h.1 : Int) 3600]
 rcases Qg r with hg | hg <;> rw [hg] <;> rw [wi _ (by omega) (by omega)] <;> simp only [Bool.or_assoc]
end Go.Proofs.YtiegmpnagcdgoaaGreatDoor.H

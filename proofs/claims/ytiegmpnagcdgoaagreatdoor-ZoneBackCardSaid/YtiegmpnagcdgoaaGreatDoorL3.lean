/- Texts of this session, joined and cut to what one statement needs, under short names. -/
import Derived.Test.YtiegmpnagcdgoaaGreatDoorL2
import Derived.Test.YtiegmpnagcdgoaaGreatDoorProg
import Derived.KernelRfl
import Derived.Lib.AtoiErrMem
import Derived.Lib.SliceRun
import Derived.WalkKit
import Derived.IntWalk
namespace Go.Proofs.YtiegmpnagcdgoaaGreatDoor.H
open Go.Sh Go.RowKit
set_option linter.unusedVariables false
set_option linter.unusedSimpArgs false
set_option maxHeartbeats 4000000
set_option maxRecDepth 100000
def BL (n : Nat) (a0 h0 : Int) (R : Type) (K : (Bool × Int) → Option R) : Option R := cond (decide (a0 < h0)) (K (true, h0)) (K (decide (a0 > (126 : Int)), h0))
def FY n a0 h0 := BL n a0 h0 _ some
abbrev J5 : FS := ⟨[.c, .q 0 0], [.c 5 [.c]], [([.b], [.c 5 [.c]])]⟩
def IU (n : Nat) : FSpec := J5.sp (FY n)
theorem Lr (n : Nat) : FSound Tryz.prog 123 (IU n) := fs2 (S := J5) (b := BL n) Tryz.func123 rfl rfl [.tmp 3] .a (by (repeat intro _); unfold BL; simp only [aD]) trivial
def dN (n : Nat) (x0 : List Int) (x7 x8 h0_0 : Int) (R : Type) (A_ : (List Int) → Int → Int → Int → Option R) (K : ((Int × Int) ⊕ (Int)) → Option R) : Option R := cond (decide (x8 < x7)) (cond (decide (0 ≤ x8)) ((x0[x8.toNat]?).bind fun e2 => ((FY n e2 h0_0).bind fun o3 => (cond o3.1 (K (Sum.inl (x8, o3.2))) (A_ x0 x7 (IntKind.i64.wrap (x8 + (1 : Int))) o3.2)))) none) (K (Sum.inr h0_0))
def aJ (n : Nat) : Nat → (List Int) → Int → Int → Int → Option ((Int × Int) ⊕ (Int))
 | 0, _, _, _, _ => none
 | m + 1, x0, x7, x8, h0_0 => dN n x0 x7 x8 h0_0 _ (aJ n m) some
abbrev kI : PS := ⟨[], [(0, .l .u8), (1, .f (.func 123) [] [.q 0 0]), (7, .n), (8, .n)], some [.c 5 [.c]], [⟨.ret, [], [(4, .n)], [.c 5 [.c]], none⟩, ⟨(.exit 0), [], [], [.c 5 [.c]], none⟩], none, none⟩
theorem zi (n : Nat) : Snd ⟨Tryz.prog, 1, 19⟩ (kI.x (aJ n n)) (fb Tryz.f161 21) := rW (S := kI) (b := dN n) (f := aJ n) n (.s .a (.s .a (.s (.u (.s .a (.s (.r [(5, .cl 123 (IU n))]) .a))) .a))) (by (repeat intro _); unfold dN; simp only [aD]) (ai (Lr n) trivial)
def jc (n : Nat) (a0 : List Int) (h0 : Int) (R : Type) (K : (Int × Int) → Option R) : Option R := (aJ n n a0 (a0.length : Int) (0 : Int) h0).bind fun o4 => (Sum.elim (fun o5 => K (o5.1, o5.2)) (fun o6 => K ((-1 : Int), o6)) o4)
def nG n a0 h0 := jc n a0 h0 _ some
abbrev uE : FS := ⟨[.l .u8, .f (.func 123) [] [.q 0 0]], [.c 5 [.c]], [([.n], [.c 5 [.c]])]⟩
def tO (n : Nat) : FSpec := uE.sp (nG n)
theorem zD (n : Nat) : FSound Tryz.prog 161 (tO n) := fs2 (S := uE) (b := jc n) Tryz.func161 rfl rfl [.tmp 4] (.s .a (.s (.s .a (.u (.p (kI.x (aJ n n))))) .a)) (by (repeat intro _); unfold jc; simp only [aD]) (ai (zi n) trivial)
def gm (n : Nat) (a0 : List Int) (h0 : Int) (R : Type) (K : (Bool × Int) → Option R) : Option R := (nG n a0 h0).bind fun o7 => (K (decide (o7.1 ≥ (0 : Int)), o7.2))
def kJ n a0 h0 := gm n a0 h0 _ some
abbrev rX : FS := ⟨[.l .u8, .f (.func 123) [] [.q 0 0]], [.c 5 [.c]], [([.b], [.c 5 [.c]])]⟩
def qD (n : Nat) : FSpec := rX.sp (kJ n)
theorem xx (n : Nat) : FSound Tryz.prog 124 (qD n) := fs2 (S := rX) (b := gm n) Tryz.func124 rfl rfl [.tmp 4] (.s .a (.s (.r [(2, .cl 161 (tO n))]) .a)) (by (repeat intro _); unfold gm; simp only [aD]) (ai (zD n) trivial)
def FK (n : Nat) (a0 : Str) (a1 a2 : Int) (R : Type) (K : Bool → Option R) : Option R := cond (decide ((a0.length : Int) ≤ a1)) ((kJ n (nD a0) a2).bind fun o8 => (K (!o8.1))) (K false)
def Cf n a0 a1 a2 := FK n a0 a1 a2 _ some
abbrev Nh : FS := ⟨[.s, .n, .c], [], [([.b], [])]⟩
def Hd (n : Nat) : FSpec := Nh.sp (Cf n)
theorem H6 (n : Nat) : FSound Tryz.prog 85 (Hd n) := fs2 (S := Nh) (b := FK n) Tryz.func85 rfl rfl [.tmp 6] (.s .a (.s .a (.s (.r [(8, .cl 124 (qD n))]) .a))) (by (repeat intro _); unfold FK; simp only [aD]) (ai (xx n) trivial)
def xX (n : Nat) (h0_0 : List (List AV)) (h0_1 h0_2 : List Int) (h0_3 : Str) (R : Type) (K : W0 → Option R) : Option R := cond (decide ((h0_0.length : Int) < (1 : Int))) (K (true, h0_0, h0_1, h0_2, h0_3)) (cond (decide ((h0_0.length : Int) > (255 : Int))) (K (true, h0_0, h0_1, h0_2, h0_3)) (cond (decide ((h0_1.length : Int) > (4000 : Int))) (K (true, h0_0, h0_1, h0_2, h0_3)) (cond ((h0_1.length : Int) != (h0_2.length : Int)) (K (true, h0_0, h0_1, h0_2, h0_3)) ((Cf n h0_3 (100 : Int) (32 : Int)).bind fun o23 => (K (!o23, h0_0, h0_1, h0_2, h0_3))))))
def BM n h0_0 h0_1 h0_2 h0_3 := xX n h0_0 h0_1 h0_2 h0_3 _ some
abbrev CF : PS := ⟨[], [(1, .q 0 0)], some [.c 26 [.L false 3, .l .i64, .l .i64, .s]], [⟨.normal, [1], [(38, .b)], [.c 26 [.L false 3, .l .i64, .l .i64, .s]], none⟩], none, none⟩
def xY (n : Nat) (h0_0 : List (List AV)) (h0_1 h0_2 : List Int) (h0_3 : Str) (h1_0 : Int) (h1_1 : Bool) (h1_2 : Str) (R : Type) (K : (Bool × (List (List AV)) × (List Int) × (List Int) × Str × Int × Bool × Str) → Option R) : Option R := cond (decide (h1_0 < (-89999 : Int))) (K (true, h0_0, h0_1, h0_2, h0_3, h1_0, h1_1, h1_2)) (cond (decide (h1_0 > (93599 : Int))) (K (true, h0_0, h0_1, h0_2, h0_3, h1_0, h1_1, h1_2)) (cond (h1_2 == ([] : Str)) (K (true, h0_0, h0_1, h0_2, h0_3, h1_0, h1_1, h1_2)) ((Cf n h1_2 (15 : Int) (33 : Int)).bind fun o35 => (K (!o35, h0_0, h0_1, h0_2, h0_3, h1_0, h1_1, h1_2)))))
def xz n h0_0 h0_1 h0_2 h0_3 h1_0 h1_1 h1_2 := xY n h0_0 h0_1 h0_2 h0_3 h1_0 h1_1 h1_2 _ some
abbrev CG : PS := ⟨[1, 3, 40, 41, 42], [(5, .q 1 0)], some [.c 26 [.L false 3, .l .i64, .l .i64, .s], .c 76 [.n, .b, .s]], [⟨.normal, [1, 3, 40, 41, 42], [(70, .b)], [.c 26 [.L false 3, .l .i64, .l .i64, .s], .c 76 [.n, .b, .s]], none⟩], none, none⟩
def uF (n : Nat) (x3 : Int) (x40 : List (List AV)) (x41 x42 : Int) (h0_0 : List (List AV)) (h0_1 h0_2 : List Int) (h0_3 : Str) (R : Type) (A_ : Int → (List (List AV)) → Int → Int → (List (List AV)) → (List Int) → (List Int) → Str → Option R) (K : ((Unit) ⊕ W1) → Option R) : Option R := cond (decide (x42 < x41)) (cond (decide (0 ≤ x42)) ((x40[x42.toNat]?).bind fun e25 => (unc e25 fun c26 r27 => xn .i64 c26 fun x28 => unc r27 fun c29 r30 => zf c29 fun x31 => unc r30 fun c32 r33 => zg c32 fun x34 => unn r33 ((xz n h0_0 h0_1 h0_2 h0_3 x28 x31 x34).bind fun o36 => (cond o36.1 (K (Sum.inl ())) (A_ (IntKind.i64.wrap (x3 + (IntKind.i64.wrap ((x34.length : Int) + (1 : Int))))) x40 x41 (IntKind.i64.wrap (x42 + (1 : Int))) o36.2.1 o36.2.2.1 o36.2.2.2.1 o36.2.2.2.2.1))))) none) (K (Sum.inr (x3, h0_0, h0_1, h0_2, h0_3)))
def oG (n : Nat) : Nat → Int → (List (List AV)) → Int → Int → (List (List AV)) → (List Int) → (List Int) → Str → Option ((Unit) ⊕ W1)
 | 0, _, _, _, _, _, _, _, _ => none
 | m + 1, x3, x40, x41, x42, h0_0, h0_1, h0_2, h0_3 => uF n x3 x40 x41 x42 h0_0 h0_1 h0_2 h0_3 _ (oG n m) some
abbrev CJ : PS := ⟨[], [(1, .q 0 0), (3, .n), (40, .L false 3), (41, .n), (42, .n)], some [.c 26 [.L false 3, .l .i64, .l .i64, .s]], [⟨.ret, [], [(2, .x (.bool false))], [], (some 0)⟩, ⟨(.exit 0), [1], [(3, .n)], [.c 26 [.L false 3, .l .i64, .l .i64, .s]], none⟩], (some 0), (some 0)⟩
def xZ (n : Nat) (x6 x7 : Int) (h0_0 : List (List AV)) (h0_1 h0_2 : List Int) (h0_3 : Str) (R : Type) (K : W0 → Option R) : Option R := cond (decide (x7 < (0 : Int))) (K (true, h0_0, h0_1, h0_2, h0_3)) (cond (decide (x7 ≥ (h0_0.length : Int))) (K (true, h0_0, h0_1, h0_2, h0_3)) (cond (decide (x6 > (0 : Int))) (cond (decide (0 ≤ x6)) ((h0_1[x6.toNat]?).bind fun e41 => (cond (decide (0 ≤ (IntKind.i64.wrap (x6 - (1 : Int))))) ((h0_1[(IntKind.i64.wrap (x6 - (1 : Int))).toNat]?).bind fun e42 => (K (decide (e41 ≤ e42), h0_0, h0_1, h0_2, h0_3))) none)) none) (K (false, h0_0, h0_1, h0_2, h0_3))))
def xA n x6 x7 h0_0 h0_1 h0_2 h0_3 := xZ n x6 x7 h0_0 h0_1 h0_2 h0_3 _ some
abbrev CK : PS := ⟨[3, 73, 74, 75], [(1, .q 0 0), (6, .n), (7, .n)], some [.c 26 [.L false 3, .l .i64, .l .i64, .s]], [⟨.normal, [1, 3, 73, 74, 75], [(106, .b)], [.c 26 [.L false 3, .l .i64, .l .i64, .s]], none⟩], none, none⟩
def uG (n : Nat) (x73 : List Int) (x74 x75 : Int) (h0_0 : List (List AV)) (h0_1 h0_2 : List Int) (h0_3 : Str) (R : Type) (A_ : (List Int) → Int → Int → (List (List AV)) → (List Int) → (List Int) → Str → Option R) (K : (((List (List AV)) × (List Int) × (List Int) × Str) ⊕ ((List (List AV)) × (List Int) × (List Int) × Str)) → Option R) : Option R := cond (decide (x75 < x74)) (cond (decide (0 ≤ x75)) ((x73[x75.toNat]?).bind fun e40 => ((xA n x75 e40 h0_0 h0_1 h0_2 h0_3).bind fun o43 => (cond o43.1 (K (Sum.inl (o43.2.1, o43.2.2.1, o43.2.2.2.1, o43.2.2.2.2))) (A_ x73 x74 (IntKind.i64.wrap (x75 + (1 : Int))) o43.2.1 o43.2.2.1 o43.2.2.2.1 o43.2.2.2.2)))) none) (K (Sum.inr (h0_0, h0_1, h0_2, h0_3)))
def oH (n : Nat) : Nat → (List Int) → Int → Int → (List (List AV)) → (List Int) → (List Int) → Str → Option (((List (List AV)) × (List Int) × (List Int) × Str) ⊕ ((List (List AV)) × (List Int) × (List Int) × Str))
 | 0, _, _, _, _, _, _, _ => none
 | m + 1, x73, x74, x75, h0_0, h0_1, h0_2, h0_3 => uG n x73 x74 x75 h0_0 h0_1 h0_2 h0_3 _ (oH n m) some
abbrev CL : PS := ⟨[3], [(1, .q 0 0), (73, .l .i64), (74, .n), (75, .n)], some [.c 26 [.L false 3, .l .i64, .l .i64, .s]], [⟨.ret, [], [(2, .x (.bool false))], [.c 26 [.L false 3, .l .i64, .l .i64, .s]], none⟩, ⟨(.exit 2), [3], [], [.c 26 [.L false 3, .l .i64, .l .i64, .s]], none⟩], none, none⟩
theorem Ls (n : Nat) : Snd ⟨Tryz.prog, 0, 110⟩ (CG.x (xz n)) (fb Tryz.f50 22935) := kH (S := CG) (b := xY n) (.r [(16, .cl 85 (Hd n))]) (by (repeat intro _); unfold xY; simp only [aD]) (ai (H6 n) trivial)
theorem Lt (n : Nat) : Snd ⟨Tryz.prog, 0, 110⟩ (CK.x (xA n)) (fb Tryz.f50 21295) := kH (S := CK) (b := xZ n) (.d [] [(4, .look), (13, .look), (17, .no), (18, .look), (23, .no)]) (by (repeat intro _); unfold xZ; simp only [aD]) trivial
theorem Lu (n : Nat) : Snd ⟨Tryz.prog, 0, 110⟩ (CF.x (BM n)) (fb Tryz.f50 9) := kH (S := CF) (b := xX n) (.r [(28, .cl 85 (Hd n))]) (by (repeat intro _); unfold xX; simp only [aD]) (ai (H6 n) trivial)
theorem Lv (n : Nat) : Snd ⟨Tryz.prog, 0, 110⟩ (CJ.x (oG n n)) (fb Tryz.f50 87) := rW (S := CJ) (b := uF n) (f := oG n) n (.s .a (.s .a (.s (.u (.s .a (.s .a (.s (.p (CG.x (xz n))) .a)))) .a))) (by (repeat intro _); unfold uF; simp only [aD]) (ai (Ls n) trivial)
theorem Lx (n : Nat) : Snd ⟨Tryz.prog, 0, 110⟩ (CL.x (oH n n)) (fb Tryz.f50 175) := rW (S := CL) (b := uG n) (f := oH n) n (.s .a (.s .a (.s (.u (.s .a (.s (.p (CK.x (xA n))) .a))) .a))) (by (repeat intro _); unfold uG; simp only [aD]) (ai (Lt n) trivial)
def Dl (n : Nat) (a0 : List (List AV)) (a1 a2 : List Int) (a3 : Str) (R : Type) (K : Bool → Option R) : Option R := (BM n a0 a1 a2 a3).bind fun o24 => (cond o24.1 (K false) ((oG n n (0 : Int) o24.2.1 (o24.2.1.length : Int) (0 : Int) o24.2.1 o24.2.2.1 o24.2.2.2.1 o24.2.2.2.2).bind fun o37 => (Sum.elim (fun o38 => K false) (fun o39 => (oH n n o39.2.2.2.1 (o39.2.2.2.1.length : Int) (0 : Int) o39.2.1 o39.2.2.1 o39.2.2.2.1 o39.2.2.2.2).bind fun o44 => (Sum.elim (fun o45 => K false) (fun o46 => K (decide (o39.1 ≤ (256 : Int)))) o44)) o37)))
def zF n a0 a1 a2 a3 := Dl n a0 a1 a2 a3 _ some
abbrev LA : FS := ⟨[.a [.L false 3, .l .i64, .l .i64, .s]], [], [([.b], [])]⟩
def FZ (n : Nat) : FSpec := LA.sp (zF n)
theorem Gr (n : Nat) : FSound Tryz.prog 50 (FZ n) := fs2 (S := LA) (b := Dl n) Tryz.func50 rfl rfl [.tmp 2] (.s .a (.s (.s (.p (CF.x (BM n))) .a) (.s .a (.s (.s .a (.u (.p (CJ.x (oG n n))))) (.s (.s .a (.u (.p (CL.x (oH n n))))) .a))))) (by (repeat intro _); unfold Dl; simp only [aD]) (ai (Lu n) (ai (Lv n) (ai (Lx n) trivial)))
theorem Im : Clones Tryz.prog 51 22 76 3 32 := by
 refine ⟨Go.Sh.enters_of Tryz.func51 (by kernel_rfl) rfl, fun n c w => ?_, fun a n c w v2 w2 ha => ?_, Tryz.underlying22, ?_, by decide⟩
 ·have q := Lib.run_eql_slice_nil (P := Tryz.prog) w 22 _ none n c 0 0 Tryz.underlying22
  go_enter Tryz.func51, Tryz.ntmps51
  go_wp2
  go_ret
  exact ⟨rfl, rfl⟩
 ·have q := Lib.run_eql_slice_nil (P := Tryz.prog) w 22 _ (some a) n c 0 0 Tryz.underlying22
  go_enter Tryz.func51, Tryz.ntmps51
  go_wp2_with (at_builtin; refine wpList_append_run rfl _ _ 22 22 rfl _ _ _ rfl rfl ha ?_)
  go_ret
  exact ⟨rfl, rfl⟩
 ·obtain ⟨i, h1, h2⟩ := Option.map_eq_some_iff.1 (by kernel_rfl : (Tryz.prog.info? 76).map (fun i => (i.size, i.bytes, i.zero.map fun z => z.cells.size)) = some (3, 32, some 3))
  injection h2 with h3 h2
  injection h2 with h4 h5
  obtain ⟨z, h6, h7⟩ := Option.map_eq_some_iff.1 h5
  exact ⟨i, z, h1, h6, h3, h4, h7⟩
def CY (n : Nat) : FSpec := Gq 3 32
theorem He (n : Nat) : FSound Tryz.prog 51 (CY n) := Ha Im
theorem Io : Clones Tryz.prog 52 23 2 1 8 := by
 refine ⟨Go.Sh.enters_of Tryz.func52 (by kernel_rfl) rfl, fun n c w => ?_, fun a n c w v2 w2 ha => ?_, Tryz.underlying23, ?_, by decide⟩
 ·have q := Lib.run_eql_slice_nil (P := Tryz.prog) w 23 _ none n c 0 0 Tryz.underlying23
  go_enter Tryz.func52, Tryz.ntmps52
  go_wp2
  go_ret
  exact ⟨rfl, rfl⟩
 ·have q := Lib.run_eql_slice_nil (P := Tryz.prog) w 23 _ (some a) n c 0 0 Tryz.underlying23
  go_enter Tryz.func52, Tryz.ntmps52
  go_wp2_with (at_builtin; refine wpList_append_run rfl _ _ 23 23 rfl _ _ _ rfl rfl ha ?_)
  go_ret
  exact ⟨rfl, rfl⟩
 ·obtain ⟨i, h1, h2⟩ := Option.map_eq_some_iff.1 (by kernel_rfl : (Tryz.prog.info? 2).map (fun i => (i.size, i.bytes, i.zero.map fun z => z.cells.size)) = some (1, 8, some 1))
  injection h2 with h3 h2
  injection h2 with h4 h5
  obtain ⟨z, h6, h7⟩ := Option.map_eq_some_iff.1 h5
  exact ⟨i, z, h1, h6, h3, h4, h7⟩
def CZ (n : Nat) : FSpec := Gq 1 8
theorem Hf (n : Nat) : FSound Tryz.prog 52 (CZ n) := Ha Io
theorem Ip : Clones Tryz.prog 53 24 3 1 8 := by
 refine ⟨Go.Sh.enters_of Tryz.func53 (by kernel_rfl) rfl, fun n c w => ?_, fun a n c w v2 w2 ha => ?_, Tryz.underlying24, ?_, by decide⟩
 ·have q := Lib.run_eql_slice_nil (P := Tryz.prog) w 24 _ none n c 0 0 Tryz.underlying24
  go_enter Tryz.func53, Tryz.ntmps53
  go_wp2
  go_ret
  exact ⟨rfl, rfl⟩
 ·have q := Lib.run_eql_slice_nil (P := Tryz.prog) w 24 _ (some a) n c 0 0 Tryz.underlying24
  go_enter Tryz.func53, Tryz.ntmps53
  go_wp2_with (at_builtin; refine wpList_append_run rfl _ _ 24 24 rfl _ _ _ rfl rfl ha ?_)
  go_ret
  exact ⟨rfl, rfl⟩
 ·obtain ⟨i, h1, h2⟩ := Option.map_eq_some_iff.1 (by kernel_rfl : (Tryz.prog.info? 3).map (fun i => (i.size, i.bytes, i.zero.map fun z => z.cells.size)) = some (1, 8, some 1))
  injection h2 with h3 h2
  injection h2 with h4 h5
  obtain ⟨z, h6, h7⟩ := Option.map_eq_some_iff.1 h5
  exact ⟨i, z, h1, h6, h3, h4, h7⟩
def C8 (n : Nat) : FSpec := Gq 1 8
theorem Hg (n : Nat) : FSound Tryz.prog 53 (C8 n) := Ha Ip
def w9 (n : Nat) (a0 a1 : Str) : Option (Str × Bool) := some (Lib.trimPrefix a0 a1, Lib.hasPrefix a0 a1)
def vM (n : Nat) : FSpec := fun vs hs R K => match vs with
 | [.str a0, .str a1] => (w9 n a0 a1).bind fun o => K (.tuple [.str o.1, .bool o.2]) hs
 | _ => none
theorem Gs (n : Nat) : FSound Tryz.prog 162 (vM n) := Lj (Go.Sh.enters_of Tryz.func162 (by kernel_rfl) rfl) fun args H R k r h => by
 unfold vM at h
 split at h
 ·rename_i a0 a1
  refine ⟨_, h, fun g w vs hl hv => ?_⟩
  obtain ⟨v0, _, rfl, h0, hv⟩ := xu hv
  obtain ⟨v1, _, rfl, h1, hv⟩ := xu hv
  obtain rfl := Dk hv
  obtain ⟨s, rfl, rfl⟩ := Oq h0
  obtain ⟨u, rfl, rfl⟩ := Oq h1
  refine ⟨.tuple #[.string ⟨(Lib.trimPrefix s.data.toList u.data.toList).toArray⟩, .bool (Lib.hasPrefix s.data.toList u.data.toList)], rfl, fun g w => ?_, (Tryz.strings_CutPrefix s u w).mono ?_⟩
  ·simp only [VR]
   exact ⟨_, rfl, by simp only [VRs]; exact ⟨_, _, rfl, (VO _).2 _ _, _, _, rfl, by simp only [VR], rfl⟩⟩
  ·rintro e w' ⟨rfl, rfl⟩
   exact ⟨rfl, Below.refl _ _⟩
 ·cases h
def su (n : Nat) (a0 : Int) (h0 : Str) (h1 : Bool) (R : Type) (K : (Bool × Str × Bool) → Option R) : Option R := (w9 n h0 ((Utf8.encode (IntKind.i32.wrap a0)).data.toList)).bind fun o48 => (K (o48.2, o48.1, h1))
def bB n a0 h0 h1 := su n a0 h0 h1 _ some
abbrev C9 : FS := ⟨[.q 0 0, .c], [.c 147 [.s, .b]], [([.b], [.c 147 [.s, .b]])]⟩
def dD (n : Nat) : FSpec := C9.sp (bB n)
theorem cZ (n : Nat) : FSound Tryz.prog 125 (dD n) := fs2 (S := C9) (b := su n) Tryz.func125 rfl rfl [.tmp 4] (.s .a (.s (.r [(7, .cl 162 (vM n)), (10, .tk [7])]) .a)) (by (repeat intro _); unfold su; simp only [aD]) (ai (Gs n) trivial)
def tZ (n : Nat) (a0 : Int) (R : Type) (K : Bool → Option R) : Option R := K (a0 != (62 : Int))
def nP n a0 := tZ n a0 _ some
abbrev zG : FS := ⟨[.c], [], [([.b], [])]⟩
def yM (n : Nat) : FSpec := zG.sp (nP n)
theorem Er (n : Nat) : FSound Tryz.prog 127 (yM n) := fs2 (S := zG) (b := tZ n) Tryz.func127 rfl rfl [.tmp 2] .a (by (repeat intro _); unfold tZ; simp only [aD]) trivial
def nQ (n : Nat) (x1 x7 : Int) (h0_0 : Str) (h0_1 : Bool) (R : Type) (K : (Bool × Str × Bool) → Option R) : Option R := cond (decide (x7 < (h0_0.length : Int))) (cond (decide (x7 < x1)) (cond (decide (0 ≤ x7)) ((h0_0[x7.toNat]?).bind fun b50 => ((nP n (b50.toNat : Int)).bind fun o51 => (K (o51, h0_0, h0_1)))) none) (K (false, h0_0, h0_1))) (K (false, h0_0, h0_1))
def qE n x1 x7 h0_0 h0_1 := nQ n x1 x7 h0_0 h0_1 _ some
abbrev uf : PS := ⟨[], [(0, .q 0 0), (1, .n), (2, .f (.func 127) [] []), (7, .n)], some [.c 147 [.s, .b]], [⟨.normal, [0, 1, 2, 7], [(30, .b)], [.c 147 [.s, .b]], none⟩], none, none⟩
def nR (n : Nat) (x1 x7 : Int) (h0_0 : Str) (h0_1 : Bool) (R : Type) (A_ : Int → Int → Str → Bool → Option R) (K : (Int × Str × Bool) → Option R) : Option R := (qE n x1 x7 h0_0 h0_1).bind fun o52 => (cond o52.1 (A_ x1 (IntKind.i64.wrap (x7 + (1 : Int))) o52.2.1 o52.2.2) (K (x7, o52.2.1, o52.2.2)))
def gB (n : Nat) : Nat → Int → Int → Str → Bool → Option ((Int × Str × Bool))
 | 0, _, _, _, _ => none
 | m + 1, x1, x7, h0_0, h0_1 => nR n x1 x7 h0_0 h0_1 _ (gB n m) some
abbrev ug : PS := ⟨[], [(0, .q 0 0), (1, .n), (2, .f (.func 127) [] []), (7, .n)], some [.c 147 [.s, .b]], [⟨(.exit 0), [0], [(7, .n)], [.c 147 [.s, .b]], none⟩], none, none⟩
theorem F3 (n : Nat) : Snd ⟨Tryz.prog, 1, 49⟩ (uf.x (qE n)) (fb Tryz.f126 131) := kH (S := uf) (b := nQ n) (.r [(20, .cl 127 (yM n))]) (by (repeat intro _); unfold nQ; simp only [aD]) (ai (Er n) trivial)
theorem F4 (n : Nat) : Snd ⟨Tryz.prog, 1, 49⟩ (ug.x (gB n n)) (fb Tryz.f126 19) := rW (S := ug) (b := nR n) (f := gB n) n (.s (.s (.p (uf.x (qE n))) .a) .a) (by (repeat intro _); unfold nR; simp only [aD]) (ai (F3 n) trivial)
def sw (n : Nat) (a0 : Int) (h0 : Str) (h1 : Bool) (R : Type) (K : (Str × Str × Bool) → Option R) : Option R := (gB n n a0 (0 : Int) h0 h1).bind fun o53 => (cond (decide (0 ≤ o53.1)) (cond (decide (o53.1 ≤ (o53.2.1.length : Int))) (cond (decide (0 ≤ o53.1)) (cond (decide (o53.1 ≤ (o53.2.1.length : Int))) (K ((o53.2.1.take o53.1.toNat).drop 0, o53.2.1.drop o53.1.toNat, o53.2.2)) none) none) none) none)
def sD n a0 h0 h1 := sw n a0 h0 h1 _ some
abbrev Da : FS := ⟨[.q 0 0, .n, .f (.func 127) [] []], [.c 147 [.s, .b]], [([.s], [.c 147 [.s, .b]])]⟩
def Cg (n : Nat) : FSpec := Da.sp (sD n)
theorem Gt (n : Nat) : FSound Tryz.prog 126 (Cg n) := fs2 (S := Da) (b := sw n) Tryz.func126 rfl rfl [.tmp 6] (.s .a (.s .a (.s (.u (.p (ug.x (gB n n)))) .a))) (by (repeat intro _); unfold sw; simp only [aD]) (ai (F4 n) trivial)
def qF (n : Nat) (a0 : Int) (h0 : Str) (h1 : Bool) (R : Type) (K : (Str × Bool) → Option R) : Option R := (bB n a0 h0 h1).bind fun o55 => (cond (!o55.1) (K (o55.2.1, true)) (K (o55.2.1, o55.2.2)))
def eB n a0 h0 h1 := qF n a0 h0 h1 _ some
abbrev Ch : FS := ⟨[.q 0 0, .c], [.c 147 [.s, .b]], [([], [.c 147 [.s, .b]])]⟩
def iK (n : Nat) : FSpec := Ch.sp (eB n)
theorem iR (n : Nat) : FSound Tryz.prog 89 (iK n) := fs2 (S := Ch) (b := qF n) Tryz.func89 rfl rfl [] (.r [(3, .cl 125 (dD n))]) (by (repeat intro _); unfold qF; simp only [aD]) (ai (cZ n) trivial)
def CO (n : Nat) (a0 : Int) (R : Type) (K : Bool → Option R) : Option R := cond (decide (a0 ≥ (65 : Int))) (cond (decide (a0 ≤ (90 : Int))) (K true) (cond (decide (a0 ≥ (97 : Int))) (K (decide (a0 ≤ (122 : Int)))) (K false))) (cond (decide (a0 ≥ (97 : Int))) (K (decide (a0 ≤ (122 : Int)))) (K false))
def uH n a0 := CO n a0 _ some
abbrev H7 : FS := ⟨[.c], [], [([.b], [])]⟩
def Bl (n : Nat) : FSpec := H7.sp (uH n)
theorem Db (n : Nat) : FSound Tryz.prog 128 (Bl n) := fs2 (S := H7) (b := CO n) Tryz.func128 rfl rfl [.tmp 2] .a (by (repeat intro _); unfold CO; simp only [aD]) trivial
def lM (n : Nat) (x1 x7 : Int) (h0_0 : Str) (h0_1 : Bool) (R : Type) (K : (Bool × Str × Bool) → Option R) : Option R := cond (decide (x7 < (h0_0.length : Int))) (cond (decide (x7 < x1)) (cond (decide (0 ≤ x7)) ((h0_0[x7.toNat]?).bind fun b57 => ((uH n (b57.toNat : Int)).bind fun o58 => (K (o58, h0_0, h0_1)))) none) (K (false, h0_0, h0_1))) (K (false, h0_0, h0_1))
def nS n x1 x7 h0_0 h0_1 := lM n x1 x7 h0_0 h0_1 _ some
abbrev q9 : PS := ⟨[], [(0, .q 0 0), (1, .n), (2, .f (.func 128) [] []), (7, .n)], some [.c 147 [.s, .b]], [⟨.normal, [0, 1, 2, 7], [(30, .b)], [.c 147 [.s, .b]], none⟩], none, none⟩
def lN (n : Nat) (x1 x7 : Int) (h0_0 : Str) (h0_1 : Bool) (R : Type) (A_ : Int → Int → Str → Bool → Option R) (K : (Int × Str × Bool) → Option R) : Option R := (nS n x1 x7 h0_0 h0_1).bind fun o59 => (cond o59.1 (A_ x1 (IntKind.i64.wrap (x7 + (1 : Int))) o59.2.1 o59.2.2) (K (x7, o59.2.1, o59.2.2)))
def eP (n : Nat) : Nat → Int → Int → Str → Bool → Option ((Int × Str × Bool))
 | 0, _, _, _, _ => none
 | m + 1, x1, x7, h0_0, h0_1 => lN n x1 x7 h0_0 h0_1 _ (eP n m) some
abbrev rf : PS := ⟨[], [(0, .q 0 0), (1, .n), (2, .f (.func 128) [] []), (7, .n)], some [.c 147 [.s, .b]], [⟨(.exit 0), [0], [(7, .n)], [.c 147 [.s, .b]], none⟩], none, none⟩
theorem Es (n : Nat) : Snd ⟨Tryz.prog, 1, 49⟩ (q9.x (nS n)) (fb Tryz.f126 131) := kH (S := q9) (b := lM n) (.r [(20, .cl 128 (Bl n))]) (by (repeat intro _); unfold lM; simp only [aD]) (ai (Db n) trivial)
theorem Et (n : Nat) : Snd ⟨Tryz.prog, 1, 49⟩ (rf.x (eP n n)) (fb Tryz.f126 19) := rW (S := rf) (b := lN n) (f := eP n) n (.s (.s (.p (q9.x (nS n))) .a) .a) (by (repeat intro _); unfold lN; simp only [aD]) (ai (Es n) trivial)
def o9 (n : Nat) (a0 : Int) (h0 : Str) (h1 : Bool) (R : Type) (K : (Str × Str × Bool) → Option R) : Option R := (eP n n a0 (0 : Int) h0 h1).bind fun o60 => (cond (decide (0 ≤ o60.1)) (cond (decide (o60.1 ≤ (o60.2.1.length : Int))) (cond (decide (0 ≤ o60.1)) (cond (decide (o60.1 ≤ (o60.2.1.length : Int))) (K ((o60.2.1.take o60.1.toNat).drop 0, o60.2.1.drop o60.1.toNat, o60.2.2)) none) none) none) none)
def pg n a0 h0 h1 := o9 n a0 h0 h1 _ some
abbrev AO : FS := ⟨[.q 0 0, .n, .f (.func 128) [] []], [.c 147 [.s, .b]], [([.s], [.c 147 [.s, .b]])]⟩
def zH (n : Nat) : FSpec := AO.sp (pg n)
theorem Fj (n : Nat) : FSound Tryz.prog 126 (zH n) := fs2 (S := AO) (b := o9 n) Tryz.func126 rfl rfl [.tmp 6] (.s .a (.s .a (.s (.u (.p (rf.x (eP n n)))) .a))) (by (repeat intro _); unfold o9; simp only [aD]) (ai (Et n) trivial)
def Eu (n : Nat) (a0 : Int) (R : Type) (K : Bool → Option R) : Option R := cond (decide (a0 ≥ (48 : Int))) (K (decide (a0 ≤ (57 : Int)))) (K false)
def vN n a0 := Eu n a0 _ some
abbrev IV : FS := ⟨[.c], [], [([.b], [])]⟩
def CP (n : Nat) : FSpec := IV.sp (vN n)
theorem Ev (n : Nat) : FSound Tryz.prog 142 (CP n) := fs2 (S := IV) (b := Eu n) Tryz.func142 rfl rfl [.tmp 2] .a (by (repeat intro _); unfold Eu; simp only [aD]) trivial
def CQ (n : Nat) (a0 : Int) (R : Type) (K : Bool → Option R) : Option R := (uH n a0).bind fun o64 => (cond o64 (K true) ((vN n a0).bind fun o65 => (cond o65 (K true) (cond (a0 == (43 : Int)) (K true) (K (a0 == (45 : Int)))))))
def H8 n a0 := CQ n a0 _ some
abbrev H9 : FS := ⟨[.c], [], [([.b], [])]⟩
def Gu (n : Nat) : FSpec := H9.sp (H8 n)
theorem JO (n : Nat) : FSound Tryz.prog 141 (Gu n) := fs2 (S := H9) (b := CQ n) Tryz.func141 rfl rfl [.tmp 2] (.s .a (.s (.r [(1, .cl 128 (Bl n)), (4, .cl 142 (CP n))]) .a)) (by (repeat intro _); unfold CQ; simp only [aD]) (ai (Db n) (ai (Ev n) trivial))
def Ew (n : Nat) (a0 : Int) (R : Type) (K : Bool → Option R) : Option R := (H8 n a0).bind fun o66 => (K (!o66))
def zI n a0 := Ew n a0 _ some
abbrev IW : FS := ⟨[.c, .q 0 0], [.c 181 [.f (.func 141) [] []]], [([.b], [.c 181 [.f (.func 141) [] []]])]⟩
def Ia (n : Nat) : FSpec := IW.sp (zI n)
theorem KD (n : Nat) : FSound Tryz.prog 172 (Ia n) := fs2 (S := IW) (b := Ew n) Tryz.func172 rfl rfl [.tmp 3] (.s .a (.s (.r [(2, .cl 141 (Gu n))]) .a)) (by (repeat intro _); unfold Ew; simp only [aD]) (ai (JO n) trivial)
def fA (n : Nat) (x0 : List Int) (x7 x8 : Int) (R : Type) (A_ : (List Int) → Int → Int → Option R) (K : ((Int) ⊕ (Unit)) → Option R) : Option R := cond (decide (x8 < x7)) (cond (decide (0 ≤ x8)) ((x0[x8.toNat]?).bind fun e63 => ((zI n e63).bind fun o67 => (cond o67 (K (Sum.inl x8)) (A_ x0 x7 (IntKind.i64.wrap (x8 + (1 : Int))))))) none) (K (Sum.inr ()))
def bn (n : Nat) : Nat → (List Int) → Int → Int → Option ((Int) ⊕ (Unit))
 | 0, _, _, _ => none
 | m + 1, x0, x7, x8 => fA n x0 x7 x8 _ (bn n m) some
abbrev jH : PS := ⟨[], [(0, .l .u8), (1, .f (.func 172) [] [.q 0 0]), (7, .n), (8, .n)], some [.c 181 [.f (.func 141) [] []]], [⟨.ret, [], [(4, .n)], [.c 181 [.f (.func 141) [] []]], none⟩, ⟨(.exit 0), [], [], [.c 181 [.f (.func 141) [] []]], none⟩], none, none⟩
theorem xB (n : Nat) : Snd ⟨Tryz.prog, 1, 19⟩ (jH.x (bn n n)) (fb Tryz.f161 21) := rW (S := jH) (b := fA n) (f := bn n) n (.s .a (.s .a (.s (.u (.s .a (.s (.r [(5, .cl 172 (Ia n))]) .a))) .a))) (by (repeat intro _); unfold fA; simp only [aD]) (ai (KD n) trivial)
def gK (n : Nat) (a0 : List Int) (R : Type) (K : Int → Option R) : Option R := (bn n n a0 (a0.length : Int) (0 : Int)).bind fun o68 => (Sum.elim (fun o69 => K o69) (fun o70 => K (-1 : Int)) o68)
def lu n a0 := gK n a0 _ some
abbrev sO : FS := ⟨[.l .u8, .f (.func 172) [] [.q 0 0]], [.c 181 [.f (.func 141) [] []]], [([.n], [.c 181 [.f (.func 141) [] []]])]⟩
def rY (n : Nat) : FSpec := sO.sp (lu n)
theorem yz (n : Nat) : FSound Tryz.prog 161 (rY n) := fs2 (S := sO) (b := gK n) Tryz.func161 rfl rfl [.tmp 4] (.s .a (.s (.s .a (.u (.p (jH.x (bn n n))))) .a)) (by (repeat intro _); unfold gK; simp only [aD]) (ai (xB n) trivial)
def fB (n : Nat) (a0 : List Int) (R : Type) (K : Bool → Option R) : Option R := (lu n a0).bind fun o71 => (K (decide (o71 ≥ (0 : Int))))
def jI n a0 := fB n a0 _ some
abbrev qa : FS := ⟨[.l .u8, .f (.func 172) [] [.q 0 0]], [.c 181 [.f (.func 141) [] []]], [([.b], [.c 181 [.f (.func 141) [] []]])]⟩
def oP (n : Nat) : FSpec := qa.sp (jI n)
theorem wO (n : Nat) : FSound Tryz.prog 124 (oP n) := fs2 (S := qa) (b := fB n) Tryz.func124 rfl rfl [.tmp 4] (.s .a (.s (.r [(2, .cl 161 (rY n))]) .a)) (by (repeat intro _); unfold fB; simp only [aD]) (ai (yz n) trivial)
def Dm (n : Nat) (a0 : Str) (R : Type) (K : Bool → Option R) : Option R := (jI n (nD a0)).bind fun o72 => (K (!o72))
def Dn n a0 := Dm n a0 _ some
abbrev LB : FS := ⟨[.s, .f (.func 141) [] []], [], [([.b], [])]⟩
def J6 (n : Nat) : FSpec := LB.sp (Dn n)
theorem MI (n : Nat) : FSound Tryz.prog 140 (J6 n) := fs2 (S := LB) (b := Dm n) Tryz.func140 rfl rfl [.tmp 4] (.s .a (.s (.r [(3, .cl 124 (oP n))]) .a)) (by (repeat intro _); unfold Dm; simp only [aD]) (ai (wO n) trivial)
def BN (n : Nat) (a0 : Str) (R : Type) (K : Bool → Option R) : Option R := cond (decide ((a0.length : Int) ≥ (3 : Int))) (cond (decide ((a0.length : Int) ≤ (10 : Int))) ((Dn n a0).bind fun o73 => (K o73)) (K false)) (K false)
def uR n a0 := BN n a0 _ some
abbrev J7 : FS := ⟨[.s], [], [([.b], [])]⟩
def zJ (n : Nat) : FSpec := J7.sp (uR n)
theorem zK (n : Nat) : FSound Tryz.prog 101 (zJ n) := fs2 (S := J7) (b := BN n) Tryz.func101 rfl rfl [.tmp 2] (.s .a (.s (.r [(10, .cl 140 (J6 n))]) .a)) (by (repeat intro _); unfold BN; simp only [aD]) (ai (MI n) trivial)
def mR (n : Nat) (h0_0 : Str) (h0_1 : Bool) (R : Type) (K : (Str × Str × Bool) → Option R) : Option R := (bB n (60 : Int) h0_0 h0_1).bind fun o49 => (cond o49.1 ((sD n (o49.2.1.length : Int) o49.2.1 o49.2.2).bind fun o54 => ((eB n (62 : Int) o54.2.1 o54.2.2).bind fun o56 => (K (o54.1, o56.1, o56.2)))) ((pg n (o49.2.1.length : Int) o49.2.1 o49.2.2).bind fun o61 => (K (o61.1, o61.2.1, o61.2.2))))
def pq n h0_0 h0_1 := mR n h0_0 h0_1 _ some
abbrev sP : PS := ⟨[], [(0, .q 0 0)], some [.c 147 [.s, .b]], [⟨.normal, [0], [(3, .s)], [.c 147 [.s, .b]], none⟩], none, none⟩
theorem Fp (n : Nat) : Snd ⟨Tryz.prog, 1, 35⟩ (sP.x (pq n)) (fb Tryz.f86 11) := kH (S := sP) (b := mR n) (.s (.r [(1, .cl 125 (dD n))]) (.s (.s (.r [(6, .cl 126 (Cg n))]) (.r [(1, .cl 89 (iK n))])) (.r [(6, .cl 126 (zH n))]))) (by (repeat intro _); unfold mR; simp only [aD]) (ai (cZ n) (ai (Gt n) (ai (iR n) (ai (Fj n) trivial))))
def qG (n : Nat) (h0 : Str) (h1 : Bool) (R : Type) (K : (Str × Str × Bool) → Option R) : Option R := (pq n h0 h1).bind fun o62 => (cond o62.2.2 (K (o62.1, o62.2.1, true)) ((uR n o62.1).bind fun o74 => (K (o62.1, o62.2.1, !o74))))
def mg n h0 h1 := qG n h0 h1 _ some
abbrev Ci : FS := ⟨[.q 0 0], [.c 147 [.s, .b]], [([.s], [.c 147 [.s, .b]])]⟩
def uV (n : Nat) : FSpec := Ci.sp (mg n)
theorem xC (n : Nat) : FSound Tryz.prog 86 (uV n) := fs2 (S := Ci) (b := qG n) Tryz.func86 rfl rfl [.tmp 2] (.s .a (.s .a (.s (.p (sP.x (pq n))) (.s (.r [(7, .cl 101 (zJ n))]) .a)))) (by (repeat intro _); unfold qG; simp only [aD]) (ai (Fp n) (ai (zK n) trivial))
def lQ (n : Nat) (x1 x7 : Int) (h0_0 : Str) (h0_1 : Bool) (R : Type) (K : (Bool × Str × Bool) → Option R) : Option R := cond (decide (x7 < (h0_0.length : Int))) (cond (decide (x7 < x1)) (cond (decide (0 ≤ x7)) ((h0_0[x7.toNat]?).bind fun b79 => ((vN n (b79.toNat : Int)).bind fun o80 => (K (o80, h0_0, h0_1)))) none) (K (false, h0_0, h0_1))) (K (false, h0_0, h0_1))
def nT n x1 x7 h0_0 h0_1 := lQ n x1 x7 h0_0 h0_1 _ some
abbrev rq : PS := ⟨[], [(0, .q 0 0), (1, .n), (2, .f (.func 142) [] []), (7, .n)], some [.c 147 [.s, .b]], [⟨.normal, [0, 1, 2, 7], [(30, .b)], [.c 147 [.s, .b]], none⟩], none, none⟩
def lS (n : Nat) (x1 x7 : Int) (h0_0 : Str) (h0_1 : Bool) (R : Type) (A_ : Int → Int → Str → Bool → Option R) (K : (Int × Str × Bool) → Option R) : Option R := (nT n x1 x7 h0_0 h0_1).bind fun o81 => (cond o81.1 (A_ x1 (IntKind.i64.wrap (x7 + (1 : Int))) o81.2.1 o81.2.2) (K (x7, o81.2.1, o81.2.2)))
def eQ (n : Nat) : Nat → Int → Int → Str → Bool → Option ((Int × Str × Bool))
 | 0, _, _, _, _ => none
 | m + 1, x1, x7, h0_0, h0_1 => lS n x1 x7 h0_0 h0_1 _ (eQ n m) some
abbrev ru : PS := ⟨[], [(0, .q 0 0), (1, .n), (2, .f (.func 142) [] []), (7, .n)], some [.c 147 [.s, .b]], [⟨(.exit 0), [0], [(7, .n)], [.c 147 [.s, .b]], none⟩], none, none⟩
theorem Ey (n : Nat) : Snd ⟨Tryz.prog, 1, 49⟩ (rq.x (nT n)) (fb Tryz.f126 131) := kH (S := rq) (b := lQ n) (.r [(20, .cl 142 (CP n))]) (by (repeat intro _); unfold lQ; simp only [aD]) (ai (Ev n) trivial)
theorem Ez (n : Nat) : Snd ⟨Tryz.prog, 1, 49⟩ (ru.x (eQ n n)) (fb Tryz.f126 19) := rW (S := ru) (b := lS n) (f := eQ n) n (.s (.s (.p (rq.x (nT n))) .a) .a) (by (repeat intro _); unfold lS; simp only [aD]) (ai (Ey n) trivial)
def pu (n : Nat) (a0 : Int) (h0 : Str) (h1 : Bool) (R : Type) (K : (Str × Str × Bool) → Option R) : Option R := (eQ n n a0 (0 : Int) h0 h1).bind fun o82 => (cond (decide (0 ≤ o82.1)) (cond (decide (o82.1 ≤ (o82.2.1.length : Int))) (cond (decide (0 ≤ o82.1)) (cond (decide (o82.1 ≤ (o82.2.1.length : Int))) (K ((o82.2.1.take o82.1.toNat).drop 0, o82.2.1.drop o82.1.toNat, o82.2.2)) none) none) none) none)
def pz n a0 h0 h1 := pu n a0 h0 h1 _ some
abbrev AP : FS := ⟨[.q 0 0, .n, .f (.func 142) [] []], [.c 147 [.s, .b]], [([.s], [.c 147 [.s, .b]])]⟩
def zL (n : Nat) : FSpec := AP.sp (pz n)
theorem Fq (n : Nat) : FSound Tryz.prog 126 (zL n) := fs2 (S := AP) (b := pu n) Tryz.func126 rfl rfl [.tmp 6] (.s .a (.s .a (.s (.u (.p (ru.x (eQ n n)))) .a))) (by (repeat intro _); unfold pu; simp only [aD]) (ai (Ez n) trivial)
def EA (a0 : Str) : Int := match Lib.atoiAll a0 with
 | .ok v => v
 | .range => Lib.atoiSat a0
 | _ => 0
def vO (n : Nat) (a0 : Str) : Option Int := cond (decide (a0.length ≤ 281474976710656)) (some (EA a0)) none
def CR (n : Nat) : FSpec := fun vs hs R K => match vs with
 | [.str a0] => (vO n a0).bind fun o => K (.tuple [.int .i64 o, .undef]) hs
 | _ => none
theorem KE (n : Nat) : FSound Tryz.prog 163 (CR n) := Pn (Go.Sh.enters_of Tryz.func163 (by kernel_rfl) rfl) fun args H R k r h => by
 unfold CR at h
 split at h
 ·rename_i a0
  obtain ⟨o, h2, h⟩ := Option.bind_eq_some_iff.1 h
  unfold vO at h2
  obtain ⟨h3, h2⟩ | ⟨_, h2⟩ := ae h2
  ·injection h2 with h2
   subst h2
   simp only [decide_eq_true_eq] at h3
   refine ⟨_, h, fun g w vs hg hl hv => ?_⟩
   obtain ⟨v0, _, rfl, h0, hv⟩ := xu hv
   obtain rfl := Dk hv
   obtain ⟨s, rfl, rfl⟩ := Oq h0
   rw [Array.length_toList] at h3
   have plain : ∀ (n : Int) (x : Value), owns (.tuple [.int .i64 n, .undef]) (.tuple #[.int .i64 n, x]) = [] ∧ ∀ (g : Gh) (w : World), VR g w (.tuple [.int .i64 n, .undef]) (.tuple #[.int .i64 n, x]) := fun n x => ⟨by cases x <;> rfl, fun g w => by simp only [VR]; exact ⟨_, rfl, by simp only [VRs, VR]; exact ⟨_, _, rfl, rfl, _, _, rfl, trivial, rfl⟩⟩⟩
   unfold EA
   have h3' : s.size ≤ 281474976710656 := h3
   cases hx : Lib.atoiAll s.data.toList with
   | ok v =>
    refine (Tryz.strconv_Atoi_ok s (by omega) v hx w).mono ?_
    rintro e w' ⟨rfl, hw⟩
    refine ⟨_, rfl, (plain _ _).1, (plain _ _).2, ?_⟩
    rcases hw with rfl | ⟨t, rfl⟩
    ·exact Below.refl _ _
    ·exact Lib.bytesWorld_below _ _ _
   | range =>
    obtain ⟨u, x, hc⟩ := TF hg
    refine (Tryz.strconv_Atoi_range s h3' hx _ w hc (.inr ⟨_, _, rfl⟩)).mono ?_
    rintro e w' ⟨N, rfl, _, _, hb⟩
    exact ⟨_, rfl, (plain _ _).1, (plain _ _).2, hb⟩
   | _ =>
    obtain ⟨u, x, hc⟩ := Rz hg
    refine (Any.strconv_Atoi_syntax Tryz.OL s h3' hx _ w hc (.inr ⟨_, _, rfl⟩)).mono ?_
    rintro e w' ⟨N, rfl, _, _, hb⟩
    exact ⟨_, rfl, (plain _ _).1, (plain _ _).2, hb⟩
  ·cases h2
 ·cases h
def kP (n : Nat) (x1 : Int) (x7 h0_0 : Str) (h0_1 : Bool) (R : Type) (K : (Str × Bool) → Option R) : Option R := cond h0_1 (K (h0_0, true)) (K (h0_0, decide ((x7.length : Int) < x1)))
def mU n x1 x7 h0_0 h0_1 := kP n x1 x7 h0_0 h0_1 _ some
abbrev qc : PS := ⟨[], [(0, .q 0 0), (1, .n), (7, .s)], some [.c 147 [.s, .b]], [⟨.normal, [7], [], [.c 147 [.s, .b]], none⟩], none, none⟩
theorem Dp (n : Nat) : Snd ⟨Tryz.prog, 1, 32⟩ (qc.x (mU n)) (fb Tryz.f129 11) := kH (S := qc) (b := kP n) .a (by (repeat intro _); unfold kP; simp only [aD]) trivial
def nU (n : Nat) (a0 a1 : Int) (h0 : Str) (h1 : Bool) (R : Type) (K : (Int × Str × Bool) → Option R) : Option R := (pz n a1 h0 h1).bind fun o83 => ((mU n a0 o83.1 o83.2.1 o83.2.2).bind fun o84 => ((vO n o83.1).bind fun o85 => (K (o85, o84.1, o84.2))))
def aX n a0 a1 h0 h1 := nU n a0 a1 h0 h1 _ some
abbrev zM : FS := ⟨[.q 0 0, .n, .n], [.c 147 [.s, .b]], [([.n], [.c 147 [.s, .b]])]⟩
def fU (n : Nat) : FSpec := zM.sp (aX n)
theorem gD (n : Nat) : FSound Tryz.prog 129 (fU n) := fs2 (S := zM) (b := nU n) Tryz.func129 rfl rfl [.tmp 6] (.s .a (.s (.r [(2, .cl 126 (zL n))]) (.s (.p (qc.x (mU n))) (.s (.r [(1, .cl 163 (CR n)), (4, .tk [26])]) .a)))) (by (repeat intro _); unfold nU; simp only [aD]) (ai (Fq n) (ai (Dp n) (ai (KE n) trivial)))
def lT (n : Nat) (x5 : Int) (h0_0 : Str) (h0_1 : Bool) (R : Type) (K : (Int × Str × Bool) → Option R) : Option R := (bB n (45 : Int) h0_0 h0_1).bind fun o76 => (cond o76.1 (K ((-1 : Int), o76.2.1, o76.2.2)) ((bB n (43 : Int) o76.2.1 o76.2.2).bind fun o77 => (K (x5, o77.2.1, o77.2.2))))
def jN n x5 h0_0 h0_1 := lT n x5 h0_0 h0_1 _ some
abbrev ry : PS := ⟨[1], [(0, .q 0 0), (5, .n)], some [.c 147 [.s, .b]], [⟨.normal, [0, 1], [(5, .n)], [.c 147 [.s, .b]], none⟩], none, none⟩
def lU (n : Nat) (x1 x6 : Int) (h0_0 : Str) (h0_1 : Bool) (R : Type) (K : (Str × Bool) → Option R) : Option R := cond h0_1 (K (h0_0, true)) (K (h0_0, decide (x6 > x1)))
def nV n x1 x6 h0_0 h0_1 := lU n x1 x6 h0_0 h0_1 _ some
abbrev rz : PS := ⟨[5], [(0, .q 0 0), (1, .n), (6, .n)], some [.c 147 [.s, .b]], [⟨.normal, [0, 5, 6], [], [.c 147 [.s, .b]], none⟩], none, none⟩
def fE (n : Nat) (x7 : Int) (h0_0 : Str) (h0_1 : Bool) (R : Type) (K : (Bool × Str × Bool) → Option R) : Option R := cond (decide (x7 > (0 : Int))) ((bB n (58 : Int) h0_0 h0_1).bind fun o88 => (K (o88.1, o88.2.1, o88.2.2))) (K (false, h0_0, h0_1))
def gL n x7 h0_0 h0_1 := fE n x7 h0_0 h0_1 _ some
abbrev rA : PS := ⟨[5, 6], [(0, .q 0 0), (7, .n)], some [.c 147 [.s, .b]], [⟨.normal, [0, 5, 6, 7], [(34, .b)], [.c 147 [.s, .b]], none⟩], none, none⟩
def iT (n : Nat) (x8 : Int) (h0_0 : Str) (h0_1 : Bool) (R : Type) (K : (Str × Bool) → Option R) : Option R := cond h0_1 (K (h0_0, true)) (K (h0_0, decide (x8 ≥ (60 : Int))))
def jO n x8 h0_0 h0_1 := iT n x8 h0_0 h0_1 _ some
abbrev rD : PS := ⟨[5, 6, 7], [(0, .q 0 0), (8, .n)], some [.c 147 [.s, .b]], [⟨.normal, [0, 5, 6, 7, 8], [], [.c 147 [.s, .b]], none⟩], none, none⟩
def fF (n : Nat) (x6 x7 : Int) (h0_0 : Str) (h0_1 : Bool) (R : Type) (A_ : Int → Int → Str → Bool → Option R) (K : (Int × Str × Bool) → Option R) : Option R := (gL n x7 h0_0 h0_1).bind fun o89 => (cond o89.1 ((aX n (2 : Int) (2 : Int) o89.2.1 o89.2.2).bind fun o90 => ((jO n o90.1 o90.2.1 o90.2.2).bind fun o91 => (A_ (IntKind.i64.wrap (x6 + (IntKind.i64.wrap (x7 * o90.1)))) (IntKind.i64.wrap (Int.tdiv x7 (60 : Int))) o91.1 o91.2))) (K (x6, o89.2.1, o89.2.2)))
def bV (n : Nat) : Nat → Int → Int → Str → Bool → Option ((Int × Str × Bool))
 | 0, _, _, _, _ => none
 | m + 1, x6, x7, h0_0, h0_1 => fF n x6 x7 h0_0 h0_1 _ (bV n m) some
abbrev rE : PS := ⟨[5], [(0, .q 0 0), (6, .n), (7, .n)], some [.c 147 [.s, .b]], [⟨(.exit 0), [5], [(6, .n)], [.c 147 [.s, .b]], none⟩], none, none⟩
theorem EB (n : Nat) : Snd ⟨Tryz.prog, 1, 58⟩ (rA.x (gL n)) (fb Tryz.f87 4287) := kH (S := rA) (b := fE n) (.r [(4, .cl 125 (dD n))]) (by (repeat intro _); unfold fE; simp only [aD]) (ai (cZ n) trivial)
theorem EC (n : Nat) : Snd ⟨Tryz.prog, 1, 58⟩ (rD.x (jO n)) (fb Tryz.f87 42175) := kH (S := rD) (b := iT n) .a (by (repeat intro _); unfold iT; simp only [aD]) trivial
theorem ED (n : Nat) : Snd ⟨Tryz.prog, 1, 58⟩ (ry.x (jN n)) (fb Tryz.f87 11) := kH (S := ry) (b := lT n) (.s (.r [(1, .cl 125 (dD n))]) (.s .a (.r [(1, .cl 125 (dD n))]))) (by (repeat intro _); unfold lT; simp only [aD]) (ai (cZ n) (ai (cZ n) trivial))
theorem EE (n : Nat) : Snd ⟨Tryz.prog, 1, 58⟩ (rz.x (nV n)) (fb Tryz.f87 47) := kH (S := rz) (b := lU n) .a (by (repeat intro _); unfold lU; simp only [aD]) trivial
theorem EF (n : Nat) : Snd ⟨Tryz.prog, 1, 58⟩ (rE.x (bV n n)) (fb Tryz.f87 703) := rW (S := rE) (b := fF n) (f := bV n) n (.s (.s (.p (rA.x (gL n))) .a) (.s (.u (.s (.r [(1, .cl 129 (fU n))]) (.s (.p (rD.x (jO n))) .a))) .a)) (by (repeat intro _); unfold fF; simp only [aD]) (ai (EB n) (ai (gD n) (ai (EC n) trivial)))
def pE (n : Nat) (a0 : Int) (h0 : Str) (h1 : Bool) (R : Type) (K : (Int × Str × Bool) → Option R) : Option R := (jN n (1 : Int) h0 h1).bind fun o78 => ((aX n (1 : Int) (3 : Int) o78.2.1 o78.2.2).bind fun o86 => ((nV n a0 o86.1 o86.2.1 o86.2.2).bind fun o87 => ((bV n n (IntKind.i64.wrap (o86.1 * (3600 : Int))) (60 : Int) o87.1 o87.2).bind fun o92 => (K (IntKind.i64.wrap (o78.1 * o92.1), o92.2.1, o92.2.2)))))
def bv n a0 h0 h1 := pE n a0 h0 h1 _ some
abbrev AQ : FS := ⟨[.q 0 0, .n], [.c 147 [.s, .b]], [([.n], [.c 147 [.s, .b]])]⟩
def nW (n : Nat) : FSpec := AQ.sp (bv n)
theorem qd (n : Nat) : FSound Tryz.prog 87 (nW n) := fs2 (S := AQ) (b := pE n) Tryz.func87 rfl rfl [.tmp 4] (.s .a (.s .a (.s (.p (ry.x (jN n))) (.s (.r [(1, .cl 129 (fU n))]) (.s (.p (rz.x (nV n))) (.s .a (.s (.s .a (.u (.p (rE.x (bV n n))))) .a))))))) (by (repeat intro _); unfold pE; simp only [aD]) (ai (ED n) (ai (gD n) (ai (EE n) (ai (EF n) trivial))))
def sF (n : Nat) (a0 a1 : Str) : Option Bool := some (Lib.hasPrefix a0 a1)
def vP (n : Nat) : FSpec := fun vs hs R K => match vs with
 | [.str a0, .str a1] => (sF n a0 a1).bind fun o => K (.bool o) hs
 | _ => none
theorem Gv (n : Nat) : FSound Tryz.prog 88 (vP n) := Lj (Go.Sh.enters_of Tryz.func88 (by kernel_rfl) rfl) fun args H R k r h => by
 unfold vP at h
 split at h
 ·rename_i a0 a1
  refine ⟨_, h, fun g w vs hl hv => ?_⟩
  obtain ⟨v0, _, rfl, h0, hv⟩ := xu hv
  obtain ⟨v1, _, rfl, h1, hv⟩ := xu hv
  obtain rfl := Dk hv
  obtain ⟨s, rfl, rfl⟩ := Oq h0
  obtain ⟨u, rfl, rfl⟩ := Oq h1
  refine ⟨.bool (Lib.hasPrefix s.data.toList u.data.toList), rfl, fun g w => by simp only [VR], (Tryz.strings_HasPrefix s u w).mono ?_⟩
  rintro e w' ⟨rfl, rfl⟩
  exact ⟨rfl, Below.refl _ _⟩
 ·cases h
def nX (n : Nat) (h0_0 : Str) (h0_1 : Bool) (h1_0 h1_1 h1_2 h1_3 h1_4 h2_0 h2_1 h2_2 h2_3 h2_4 : Int) (R : Type) (K : (Str × Bool × Int × Int × Int × Int × Int × Int × Int × Int × Int × Int) → Option R) : Option R := (bB n (74 : Int) h0_0 h0_1).bind fun o99 => (cond o99.1 (K (o99.2.1, o99.2.2, h1_0, h1_1, h1_2, h1_3, h1_4, (1 : Int), h2_1, h2_2, h2_3, h2_4)) ((bB n (77 : Int) o99.2.1 o99.2.2).bind fun o100 => (cond o100.1 ((aX n (1 : Int) (3 : Int) o100.2.1 o100.2.2).bind fun o101 => ((eB n (46 : Int) o101.2.1 o101.2.2).bind fun o102 => ((aX n (1 : Int) (3 : Int) o102.1 o102.2).bind fun o103 => ((eB n (46 : Int) o103.2.1 o103.2.2).bind fun o104 => (K (o104.1, o104.2, h1_0, h1_1, h1_2, h1_3, h1_4, (3 : Int), o101.1, o103.1, h2_3, h2_4)))))) (K (o100.2.1, o100.2.2, h1_0, h1_1, h1_2, h1_3, h1_4, h2_0, h2_1, h2_2, h2_3, h2_4)))))
def qH n h0_0 h0_1 h1_0 h1_1 h1_2 h1_3 h1_4 h2_0 h2_1 h2_2 h2_3 h2_4 := nX n h0_0 h0_1 h1_0 h1_1 h1_2 h1_3 h1_4 h2_0 h2_1 h2_2 h2_3 h2_4 _ some
abbrev uh : PS := ⟨[2], [(0, .q 0 0), (3, .q 2 0)], some [.c 147 [.s, .b], .c 85 [.c, .n, .n, .n, .n], .c 85 [.c, .n, .n, .n, .n]], [⟨.normal, [0, 2, 3], [], [.c 147 [.s, .b], .c 85 [.c, .n, .n, .n, .n], .c 85 [.c, .n, .n, .n, .n]], none⟩], none, none⟩
theorem F5 (n : Nat) : Snd ⟨Tryz.prog, 1, 32⟩ (uh.x (qH n)) (fb Tryz.f90 11) := kH (S := uh) (b := nX n) (.u (.s (.r [(1, .cl 125 (dD n))]) (.s .a (.s (.r [(1, .cl 125 (dD n))]) (.s (.s (.r [(1, .cl 129 (fU n))]) (.s (.r [(1, .cl 89 (iK n))]) (.s (.r [(1, .cl 129 (fU n))]) (.r [(1, .cl 89 (iK n))])))) .a))))) (by (repeat intro _); unfold nX; simp only [aD]) (ai (cZ n) (ai (cZ n) (ai (gD n) (ai (iR n) (ai (gD n) (ai (iR n) trivial))))))
def sG (n : Nat) (h0 : Str) (h1 : Bool) (R : Type) (K : (Int × Int × Int × Int × Int × Str × Bool) → Option R) : Option R := (qH n h0 h1 (0 : Int) (0 : Int) (0 : Int) (0 : Int) (0 : Int) (2 : Int) (0 : Int) (0 : Int) (0 : Int) (7200 : Int)).bind fun o105 => ((aX n (1 : Int) (3 : Int) o105.1 o105.2.1).bind fun o106 => ((bB n (47 : Int) o106.2.1 o106.2.2).bind fun o107 => (cond o107.1 ((bv n (167 : Int) o107.2.1 o107.2.2).bind fun o108 => (K (o105.2.2.2.2.2.2.2.1, o105.2.2.2.2.2.2.2.2.1, o105.2.2.2.2.2.2.2.2.2.1, o106.1, o108.1, o108.2.1, o108.2.2))) (K (o105.2.2.2.2.2.2.2.1, o105.2.2.2.2.2.2.2.2.1, o105.2.2.2.2.2.2.2.2.2.1, o106.1, o105.2.2.2.2.2.2.2.2.2.2.2, o107.2.1, o107.2.2)))))
def nM n h0 h1 := sG n h0 h1 _ some
abbrev Dc : FS := ⟨[.q 0 0], [.c 147 [.s, .b]], [([.a [.c, .n, .n, .n, .n]], [.c 147 [.s, .b]])]⟩
def vQ (n : Nat) : FSpec := Dc.sp (nM n)
theorem yN (n : Nat) : FSound Tryz.prog 90 (vQ n) := fs2 (S := Dc) (b := sG n) Tryz.func90 rfl rfl [.cell 2 85 5 true] (.s .a (.s .a (.s (.p (uh.x (qH n))) (.s (.r [(1, .cl 129 (fU n))]) (.s (.s (.r [(1, .cl 125 (dD n))]) (.s (.r [(1, .cl 87 (nW n))]) .a)) .a))))) (by (repeat intro _); unfold sG; simp only [aD]) (ai (F5 n) (ai (gD n) (ai (cZ n) (ai (qd n) trivial))))
def yc (n : Nat) (a0 a1 : Int) (R : Type) (K : Bool → Option R) : Option R := cond (decide (a0 ≥ (IntKind.i64.wrap (0 - a1)))) (K (decide (a0 ≤ a1))) (K false)
def jd n a0 a1 := yc n a0 a1 _ some
abbrev Ib : FS := ⟨[.n, .n], [], [([.b], [])]⟩
def wP (n : Nat) : FSpec := Ib.sp (jd n)
theorem xc (n : Nat) : FSound Tryz.prog 102 (wP n) := fs2 (S := Ib) (b := yc n) Tryz.func102 rfl rfl [.tmp 4] .a (by (repeat intro _); unfold yc; simp only [aD]) trivial
def pF (n : Nat) (x3 x9 : Int) (R : Type) (K : ((Int) ⊕ (Unit) ⊕ (Unit)) → Option R) : Option R := cond (x9 == (1 : Int)) (K (Sum.inl (1 : Int))) (cond (x9 == (2 : Int)) (K (Sum.inl x3)) (cond (x9 == (3 : Int)) (K (Sum.inr (Sum.inl ()))) (K (Sum.inr (Sum.inr ())))))
def sH n x3 x9 := pF n x3 x9 _ some
abbrev uW : PS := ⟨[1], [(3, .n), (9, .c)], none, [⟨.normal, [1], [(3, .n)], [], none⟩, ⟨(.exit 3), [1], [], [], none⟩, ⟨(.exit 0), [], [], [], none⟩], none, none⟩
def pG (n : Nat) (x3 h0_0 h0_1 h0_2 h0_3 h0_4 : Int) (R : Type) (K : W2 → Option R) : Option R := cond (h0_1 == (0 : Int)) (cond (h0_2 == (0 : Int)) (cond (decide (h0_3 ≥ x3)) (K (decide (h0_3 ≤ (365 : Int)), h0_0, h0_1, h0_2, h0_3, h0_4)) (K (false, h0_0, h0_1, h0_2, h0_3, h0_4))) (K (false, h0_0, h0_1, h0_2, h0_3, h0_4))) (K (false, h0_0, h0_1, h0_2, h0_3, h0_4))
def nN n x3 h0_0 h0_1 h0_2 h0_3 h0_4 := pG n x3 h0_0 h0_1 h0_2 h0_3 h0_4 _ some
abbrev uX : PS := ⟨[], [(1, .q 0 0), (3, .n)], some [.c 85 [.c, .n, .n, .n, .n]], [⟨.normal, [], [(2, .b)], [.c 85 [.c, .n, .n, .n, .n]], none⟩], none, none⟩
theorem Gw (n : Nat) : Snd ⟨Tryz.prog, 0, 63⟩ (uW.x (sH n)) (fb Tryz.f103 535) := kH (S := uW) (b := pF n) .a (by (repeat intro _); unfold pF; simp only [aD]) trivial
theorem Gx (n : Nat) : Snd ⟨Tryz.prog, 0, 63⟩ (uX.x (nN n)) (fb Tryz.f103 2327) := kH (S := uX) (b := pG n) .a (by (repeat intro _); unfold pG; simp only [aD]) trivial
def ui (n : Nat) (a0 a1 a2 a3 a4 : Int) (R : Type) (K : Bool → Option R) : Option R := (jd n a4 (604799 : Int)).bind fun o118 => (cond (!o118) (K false) ((sH n (0 : Int) a0).bind fun o119 => (Sum.elim (fun o120 => (nN n o120 a0 a1 a2 a3 a4).bind fun o122 => (K o122.1)) (fun o121 => Sum.elim (fun o123 => cond (decide (a1 ≥ (1 : Int))) (cond (decide (a1 ≤ (12 : Int))) (cond (decide (a2 ≥ (1 : Int))) (cond (decide (a2 ≤ (5 : Int))) (cond (decide (a3 ≥ (0 : Int))) (K (decide (a3 ≤ (6 : Int)))) (K false)) (K false)) (K false)) (K false)) (K false)) (fun o124 => K false) o121) o119)))
def lw n a0 a1 a2 a3 a4 := ui n a0 a1 a2 a3 a4 _ some
abbrev EG : FS := ⟨[.a [.c, .n, .n, .n, .n]], [], [([.b], [])]⟩
def sI (n : Nat) : FSpec := EG.sp (lw n)
theorem uj (n : Nat) : FSound Tryz.prog 103 (sI n) := fs2 (S := EG) (b := ui n) Tryz.func103 rfl rfl [.tmp 2] (.s .a (.s (.s (.r [(2, .cl 102 (wP n))]) .a) (.s .a (.s (.s .a (.u (.s (.u (.s (.p (uW.x (sH n))) (.s (.s (.p (uX.x (nN n))) .a) .a))) .a))) .a)))) (by (repeat intro _); unfold ui; simp only [aD]) (ai (xc n) (ai (Gw n) (ai (Gx n) trivial)))
def ve (n : Nat) (h0_0 h0_1 : Str) (h0_2 h0_3 h0_4 h0_5 h0_6 h0_7 h0_8 h0_9 h0_10 h0_11 h0_12 h0_13 : Int) (R : Type) (K : W3 → Option R) : Option R := (uR n h0_0).bind fun o113 => (cond (!o113) (K (true, h0_0, h0_1, h0_2, h0_3, h0_4, h0_5, h0_6, h0_7, h0_8, h0_9, h0_10, h0_11, h0_12, h0_13)) ((jd n h0_2 (89999 : Int)).bind fun o114 => (K (!o114, h0_0, h0_1, h0_2, h0_3, h0_4, h0_5, h0_6, h0_7, h0_8, h0_9, h0_10, h0_11, h0_12, h0_13))))
def yf n h0_0 h0_1 h0_2 h0_3 h0_4 h0_5 h0_6 h0_7 h0_8 h0_9 h0_10 h0_11 h0_12 h0_13 := ve n h0_0 h0_1 h0_2 h0_3 h0_4 h0_5 h0_6 h0_7 h0_8 h0_9 h0_10 h0_11 h0_12 h0_13 _ some
abbrev zN : PS := ⟨[], [(1, .q 0 0)], some [.c 87 [.s, .s, .n, .n, .c, .n, .n, .n, .n, .c, .n, .n, .n, .n]], [⟨.normal, [1], [(3, .b)], [.c 87 [.s, .s, .n, .n, .c, .n, .n, .n, .n, .c, .n, .n, .n, .n]], none⟩], none, none⟩
theorem JP (n : Nat) : Snd ⟨Tryz.prog, 0, 43⟩ (zN.x (yf n)) (fb Tryz.f61 17) := kH (S := zN) (b := ve n) (.r [(2, .cl 101 (zJ n)), (7, .cl 102 (wP n))]) (by (repeat intro _); unfold ve; simp only [aD]) (ai (zK n) (ai (xc n) trivial))
def zO (n : Nat) (a0 a1 : Str) (a2 a3 a4 a5 a6 a7 a8 a9 a10 a11 a12 a13 : Int) (R : Type) (K : Bool → Option R) : Option R := (yf n a0 a1 a2 a3 a4 a5 a6 a7 a8 a9 a10 a11 a12 a13).bind fun o115 => (cond o115.1 (K false) (cond (o115.2.2.1 == ([] : Str)) (K ((o115.2.1 == o115.2.1) && ((o115.2.2.1 == ([] : Str)) && ((o115.2.2.2.1 == o115.2.2.2.1) && ((o115.2.2.2.2.1 == (0 : Int)) && ((o115.2.2.2.2.2.1 == (0 : Int)) && ((o115.2.2.2.2.2.2.1 == (0 : Int)) && ((o115.2.2.2.2.2.2.2.1 == (0 : Int)) && ((o115.2.2.2.2.2.2.2.2.1 == (0 : Int)) && ((o115.2.2.2.2.2.2.2.2.2.1 == (0 : Int)) && ((o115.2.2.2.2.2.2.2.2.2.2.1 == (0 : Int)) && ((o115.2.2.2.2.2.2.2.2.2.2.2.1 == (0 : Int)) && ((o115.2.2.2.2.2.2.2.2.2.2.2.2.1 == (0 : Int)) && ((o115.2.2.2.2.2.2.2.2.2.2.2.2.2.1 == (0 : Int)) && ((o115.2.2.2.2.2.2.2.2.2.2.2.2.2.2 == (0 : Int)) && true))))))))))))))) ((uR n o115.2.2.1).bind fun o116 => (cond o116 ((jd n o115.2.2.2.2.1 (89999 : Int)).bind fun o117 => (cond o117 ((lw n o115.2.2.2.2.2.1 o115.2.2.2.2.2.2.1 o115.2.2.2.2.2.2.2.1 o115.2.2.2.2.2.2.2.2.1 o115.2.2.2.2.2.2.2.2.2.1).bind fun o125 => (cond o125 ((lw n o115.2.2.2.2.2.2.2.2.2.2.1 o115.2.2.2.2.2.2.2.2.2.2.2.1 o115.2.2.2.2.2.2.2.2.2.2.2.2.1 o115.2.2.2.2.2.2.2.2.2.2.2.2.2.1 o115.2.2.2.2.2.2.2.2.2.2.2.2.2.2).bind fun o126 => (K o126)) (K false))) (K false))) (K false)))))
def sQ n a0 a1 a2 a3 a4 a5 a6 a7 a8 a9 a10 a11 a12 a13 := zO n a0 a1 a2 a3 a4 a5 a6 a7 a8 a9 a10 a11 a12 a13 _ some
abbrev IX : FS := ⟨[.a [.s, .s, .n, .n, .c, .n, .n, .n, .n, .c, .n, .n, .n, .n]], [], [([.b], [])]⟩
def CS (n : Nat) : FSpec := IX.sp (sQ n)
theorem EH (n : Nat) : FSound Tryz.prog 61 (CS n) := fs2 (S := IX) (b := zO n) Tryz.func61 rfl rfl [.tmp 2] (.s .a (.s (.u (.s (.p (zN.x (yf n))) .a)) (.s (.r [(2, .cl 101 (zJ n)), (6, .cl 102 (wP n)), (11, .cl 103 (sI n)), (16, .cl 103 (sI n))]) .a))) (by (repeat intro _); unfold zO; simp only [aD]) (ai (JP n) (ai (zK n) (ai (xc n) (ai (uj n) (ai (uj n) trivial)))))
def vg (n : Nat) (h0_0 h0_1 : Str) (h0_2 h0_3 h0_4 h0_5 h0_6 h0_7 h0_8 h0_9 h0_10 h0_11 h0_12 h0_13 : Int) (h1_0 : Str) (h1_1 : Bool) (h2_0 h2_1 : Str) (h2_2 h2_3 h2_4 h2_5 h2_6 h2_7 h2_8 h2_9 h2_10 h2_11 h2_12 h2_13 : Int) (R : Type) (K : W4 → Option R) : Option R := (sF n h1_0 ([44] : Str)).bind fun o95 => (cond (!o95) ((bv n (24 : Int) h1_0 h1_1).bind fun o96 => (K (h0_0, h0_1, h0_2, h0_3, h0_4, h0_5, h0_6, h0_7, h0_8, h0_9, h0_10, h0_11, h0_12, h0_13, o96.2.1, o96.2.2, h2_0, h2_1, h2_2, IntKind.i64.wrap (0 - o96.1), h2_4, h2_5, h2_6, h2_7, h2_8, h2_9, h2_10, h2_11, h2_12, h2_13))) (K (h0_0, h0_1, h0_2, h0_3, h0_4, h0_5, h0_6, h0_7, h0_8, h0_9, h0_10, h0_11, h0_12, h0_13, h1_0, h1_1, h2_0, h2_1, h2_2, h2_3, h2_4, h2_5, h2_6, h2_7, h2_8, h2_9, h2_10, h2_11, h2_12, h2_13)))
def yg n h0_0 h0_1 h0_2 h0_3 h0_4 h0_5 h0_6 h0_7 h0_8 h0_9 h0_10 h0_11 h0_12 h0_13 h1_0 h1_1 h2_0 h2_1 h2_2 h2_3 h2_4 h2_5 h2_6 h2_7 h2_8 h2_9 h2_10 h2_11 h2_12 h2_13 := vg n h0_0 h0_1 h0_2 h0_3 h0_4 h0_5 h0_6 h0_7 h0_8 h0_9 h0_10 h0_11 h0_12 h0_13 h1_0 h1_1 h2_0 h2_1 h2_2 h2_3 h2_4 h2_5 h2_6 h2_7 h2_8 h2_9 h2_10 h2_11 h2_12 h2_13 _ some
abbrev zP : PS := ⟨[2], [(4, .q 1 0), (5, .q 2 0)], some [.c 87 [.s, .s, .n, .n, .c, .n, .n, .n, .n, .c, .n, .n, .n, .n], .c 147 [.s, .b], .c 87 [.s, .s, .n, .n, .c, .n, .n, .n, .n, .c, .n, .n, .n, .n]], [⟨.normal, [2, 4, 5], [], [.c 87 [.s, .s, .n, .n, .c, .n, .n, .n, .n, .c, .n, .n, .n, .n], .c 147 [.s, .b], .c 87 [.s, .s, .n, .n, .c, .n, .n, .n, .n, .c, .n, .n, .n, .n]], none⟩], none, none⟩
def qI (n : Nat) (h0_0 h0_1 : Str) (h0_2 h0_3 h0_4 h0_5 h0_6 h0_7 h0_8 h0_9 h0_10 h0_11 h0_12 h0_13 : Int) (h1_0 : Str) (h1_1 : Bool) (h2_0 h2_1 : Str) (h2_2 h2_3 h2_4 h2_5 h2_6 h2_7 h2_8 h2_9 h2_10 h2_11 h2_12 h2_13 : Int) (R : Type) (K : W4 → Option R) : Option R := cond (!(h1_0 == ([] : Str))) ((mg n h1_0 h1_1).bind fun o94 => ((yg n h0_0 h0_1 h0_2 h0_3 h0_4 h0_5 h0_6 h0_7 h0_8 h0_9 h0_10 h0_11 h0_12 h0_13 o94.2.1 o94.2.2 h2_0 o94.1 h2_2 (IntKind.i64.wrap (h2_2 + (3600 : Int))) h2_4 h2_5 h2_6 h2_7 h2_8 h2_9 h2_10 h2_11 h2_12 h2_13).bind fun o97 => ((eB n (44 : Int) o97.2.2.2.2.2.2.2.2.2.2.2.2.2.2.1 o97.2.2.2.2.2.2.2.2.2.2.2.2.2.2.2.1).bind fun o98 => ((nM n o98.1 o98.2).bind fun o109 => ((eB n (44 : Int) o109.2.2.2.2.2.1 o109.2.2.2.2.2.2).bind fun o110 => ((nM n o110.1 o110.2).bind fun o111 => (K (o97.1, o97.2.1, o97.2.2.1, o97.2.2.2.1, o97.2.2.2.2.1, o97.2.2.2.2.2.1, o97.2.2.2.2.2.2.1, o97.2.2.2.2.2.2.2.1, o97.2.2.2.2.2.2.2.2.1, o97.2.2.2.2.2.2.2.2.2.1, o97.2.2.2.2.2.2.2.2.2.2.1, o97.2.2.2.2.2.2.2.2.2.2.2.1, o97.2.2.2.2.2.2.2.2.2.2.2.2.1, o97.2.2.2.2.2.2.2.2.2.2.2.2.2.1, o111.2.2.2.2.2.1, o111.2.2.2.2.2.2, o97.2.2.2.2.2.2.2.2.2.2.2.2.2.2.2.2.1, o97.2.2.2.2.2.2.2.2.2.2.2.2.2.2.2.2.2.1, o97.2.2.2.2.2.2.2.2.2.2.2.2.2.2.2.2.2.2.1, o97.2.2.2.2.2.2.2.2.2.2.2.2.2.2.2.2.2.2.2.1, o109.1, o109.2.1, o109.2.2.1, o109.2.2.2.1, o109.2.2.2.2.1, o111.1, o111.2.1, o111.2.2.1, o111.2.2.2.1, o111.2.2.2.2.1)))))))) (K (h0_0, h0_1, h0_2, h0_3, h0_4, h0_5, h0_6, h0_7, h0_8, h0_9, h0_10, h0_11, h0_12, h0_13, h1_0, h1_1, h2_0, h2_1, h2_2, h2_3, h2_4, h2_5, h2_6, h2_7, h2_8, h2_9, h2_10, h2_11, h2_12, h2_13))
def uI n h0_0 h0_1 h0_2 h0_3 h0_4 h0_5 h0_6 h0_7 h0_8 h0_9 h0_10 h0_11 h0_12 h0_13 h1_0 h1_1 h2_0 h2_1 h2_2 h2_3 h2_4 h2_5 h2_6 h2_7 h2_8 h2_9 h2_10 h2_11 h2_12 h2_13 := qI n h0_0 h0_1 h0_2 h0_3 h0_4 h0_5 h0_6 h0_7 h0_8 h0_9 h0_10 h0_11 h0_12 h0_13 h1_0 h1_1 h2_0 h2_1 h2_2 h2_3 h2_4 h2_5 h2_6 h2_7 h2_8 h2_9 h2_10 h2_11 h2_12 h2_13 _ some
abbrev zQ : PS := ⟨[2], [(4, .q 1 0), (5, .q 2 0)], some [.c 87 [.s, .s, .n, .n, .c, .n, .n, .n, .n, .c, .n, .n, .n, .n], .c 147 [.s, .b], .c 87 [.s, .s, .n, .n, .c, .n, .n, .n, .n, .c, .n, .n, .n, .n]], [⟨.normal, [2, 4, 5], [], [.c 87 [.s, .s, .n, .n, .c, .n, .n, .n, .n, .c, .n, .n, .n, .n], .c 147 [.s, .b], .c 87 [.s, .s, .n, .n, .c, .n, .n, .n, .n, .c, .n, .n, .n, .n]], none⟩], none, none⟩
theorem JQ (n : Nat) : Snd ⟨Tryz.prog, 0, 70⟩ (zP.x (yg n)) (fb Tryz.f54 2911) := kH (S := zP) (b := vg n) (.s (.r [(4, .cl 88 (vP n))]) (.s (.r [(1, .cl 87 (nW n))]) .a)) (by (repeat intro _); unfold vg; simp only [aD]) (ai (Gv n) (ai (qd n) trivial))
theorem JR (n : Nat) : Snd ⟨Tryz.prog, 0, 70⟩ (zQ.x (uI n)) (fb Tryz.f54 95) := kH (S := zQ) (b := qI n) (.s .a (.s (.s (.r [(1, .cl 86 (uV n))]) (.s .a (.s (.p (zP.x (yg n))) (.s (.r [(1, .cl 89 (iK n))]) (.s (.r [(1, .cl 90 (vQ n))]) (.s (.r [(1, .cl 89 (iK n))]) (.r [(1, .cl 90 (vQ n))]))))))) .a)) (by (repeat intro _); unfold qI; simp only [aD]) (ai (xC n) (ai (JQ n) (ai (iR n) (ai (yN n) (ai (iR n) (ai (yN n) trivial))))))
def zR (n : Nat) (a0 : Str) (R : Type) (K : (Str × Str × Int × Int × Int × Int × Int × Int × Int × Int × Int × Int × Int × Int × Int) → Option R) : Option R := cond (decide ((a0.length : Int) > (100 : Int))) (K (([] : Str), ([] : Str), (0 : Int), (0 : Int), (0 : Int), (0 : Int), (0 : Int), (0 : Int), (0 : Int), (0 : Int), (0 : Int), (0 : Int), (0 : Int), (0 : Int), (70 : Int))) ((mg n a0 false).bind fun o75 => ((bv n (24 : Int) o75.2.1 o75.2.2).bind fun o93 => ((uI n ([] : Str) ([] : Str) (0 : Int) (0 : Int) (0 : Int) (0 : Int) (0 : Int) (0 : Int) (0 : Int) (0 : Int) (0 : Int) (0 : Int) (0 : Int) (0 : Int) o93.2.1 o93.2.2 o75.1 ([] : Str) (IntKind.i64.wrap (0 - o93.1)) (0 : Int) (0 : Int) (0 : Int) (0 : Int) (0 : Int) (0 : Int) (0 : Int) (0 : Int) (0 : Int) (0 : Int) (0 : Int)).bind fun o112 => (cond o112.2.2.2.2.2.2.2.2.2.2.2.2.2.2.2.1 (K (([] : Str), ([] : Str), (0 : Int), (0 : Int), (0 : Int), (0 : Int), (0 : Int), (0 : Int), (0 : Int), (0 : Int), (0 : Int), (0 : Int), (0 : Int), (0 : Int), (70 : Int))) (cond (!(o112.2.2.2.2.2.2.2.2.2.2.2.2.2.2.1 == ([] : Str))) (K (([] : Str), ([] : Str), (0 : Int), (0 : Int), (0 : Int), (0 : Int), (0 : Int), (0 : Int), (0 : Int), (0 : Int), (0 : Int), (0 : Int), (0 : Int), (0 : Int), (70 : Int))) ((sQ n o112.2.2.2.2.2.2.2.2.2.2.2.2.2.2.2.2.1 o112.2.2.2.2.2.2.2.2.2.2.2.2.2.2.2.2.2.1 o112.2.2.2.2.2.2.2.2.2.2.2.2.2.2.2.2.2.2.1 o112.2.2.2.2.2.2.2.2.2.2.2.2.2.2.2.2.2.2.2.1 o112.2.2.2.2.2.2.2.2.2.2.2.2.2.2.2.2.2.2.2.2.1 o112.2.2.2.2.2.2.2.2.2.2.2.2.2.2.2.2.2.2.2.2.2.1 o112.2.2.2.2.2.2.2.2.2.2.2.2.2.2.2.2.2.2.2.2.2.2.1 o112.2.2.2.2.2.2.2.2.2.2.2.2.2.2.2.2.2.2.2.2.2.2.2.1 o112.2.2.2.2.2.2.2.2.2.2.2.2.2.2.2.2.2.2.2.2.2.2.2.2.1 o112.2.2.2.2.2.2.2.2.2.2.2.2.2.2.2.2.2.2.2.2.2.2.2.2.2.1 o112.2.2.2.2.2.2.2.2.2.2.2.2.2.2.2.2.2.2.2.2.2.2.2.2.2.2.1 o112.2.2.2.2.2.2.2.2.2.2.2.2.2.2.2.2.2.2.2.2.2.2.2.2.2.2.2.1 o112.2.2.2.2.2.2.2.2.2.2.2.2.2.2.2.2.2.2.2.2.2.2.2.2.2.2.2.2.1 o112.2.2.2.2.2.2.2.2.2.2.2.2.2.2.2.2.2.2.2.2.2.2.2.2.2.2.2.2.2).bind fun o127 => (cond (!o127) (K (([] : Str), ([] : Str), (0 : Int), (0 : Int), (0 : Int), (0 : Int), (0 : Int), (0 : Int), (0 : Int), (0 : Int), (0 : Int), (0 : Int), (0 : Int), (0 : Int), (70 : Int))) (K (o112.2.2.2.2.2.2.2.2.2.2.2.2.2.2.2.2.1, o112.2.2.2.2.2.2.2.2.2.2.2.2.2.2.2.2.2.1, o112.2.2.2.2.2.2.2.2.2.2.2.2.2.2.2.2.2.2.1, o112.2.2.2.2.2.2.2.2.2.2.2.2.2.2.2.2.2.2.2.1, o112.2.2.2.2.2.2.2.2.2.2.2.2.2.2.2.2.2.2.2.2.1, o112.2.2.2.2.2.2.2.2.2.2.2.2.2.2.2.2.2.2.2.2.2.1, o112.2.2.2.2.2.2.2.2.2.2.2.2.2.2.2.2.2.2.2.2.2.2.1, o112.2.2.2.2.2.2.2.2.2.2.2.2.2.2.2.2.2.2.2.2.2.2.2.1, o112.2.2.2.2.2.2.2.2.2.2.2.2.2.2.2.2.2.2.2.2.2.2.2.2.1, o112.2.2.2.2.2.2.2.2.2.2.2.2.2.2.2.2.2.2.2.2.2.2.2.2.2.1, o112.2.2.2.2.2.2.2.2.2.2.2.2.2.2.2.2.2.2.2.2.2.2.2.2.2.2.1, o112.2.2.2.2.2.2.2.2.2.2.2.2.2.2.2.2.2.2.2.2.2.2.2.2.2.2.2.1, o112.2.2.2.2.2.2.2.2.2.2.2.2.2.2.2.2.2.2.2.2.2.2.2.2.2.2.2.2.1, o112.2.2.2.2.2.2.2.2.2.2.2.2.2.2.2.2.2.2.2.2.2.2.2.2.2.2.2.2.2, (0 : Int))))))))))
def zS n a0 := zR n a0 _ some
abbrev IY : FS := ⟨[.s], [], [([.a [.s, .s, .n, .n, .c, .n, .n, .n, .n, .c, .n, .n, .n, .n], .n], [])]⟩
def Ic (n : Nat) : FSpec := IY.sp (zS n)
theorem KF (n : Nat) : FSound Tryz.prog 54 (Ic n) := fs2 (S := IY) (b := zR n) Tryz.func54 rfl rfl [.cell 2 87 14 true, .tmp 3] (.s .a (.s .a (.s .a (.s (.r [(1, .cl 86 (uV n))]) (.s (.r [(1, .cl 87 (nW n))]) (.s (.p (zQ.x (uI n))) (.s (.s (.r [(13, .cl 61 (CS n))]) .a) .a))))))) (by (repeat intro _); unfold zR; simp only [aD]) (ai (xC n) (ai (qd n) (ai (JR n) (ai (EH n) trivial))))
def Hl (n : Nat) (a0 : List (List AV)) (a1 a2 : List Int) (a3 : Str) (R : Type) (K : ((Int) ⊕ ((List (List AV)) × (List Int) × (List Int) × Str × Str × Str × Int × Int × Int × Int × Int × Int × Int × Int × Int × Int × Int × Int) ⊕ ((List (List AV)) × (List Int) × (List Int) × Str)) → Option R) : Option R := (zF n a0 a1 a2 a3).bind fun o47 => (cond (!o47) (K (Sum.inl (2 : Int))) (cond (decide (a0.length * 32 ≤ 140737488355328)) (cond (decide (a1.length * 8 ≤ 140737488355328)) (cond (decide (a2.length * 8 ≤ 140737488355328)) (cond (!(a3 == ([] : Str))) ((zS n a3).bind fun o128 => (cond (o128.2.2.2.2.2.2.2.2.2.2.2.2.2.2 != (0 : Int)) (K (Sum.inl o128.2.2.2.2.2.2.2.2.2.2.2.2.2.2)) (K (Sum.inr (Sum.inl (a0, a1, a2, a3, o128.1, o128.2.1, o128.2.2.1, o128.2.2.2.1, o128.2.2.2.2.1, o128.2.2.2.2.2.1, o128.2.2.2.2.2.2.1, o128.2.2.2.2.2.2.2.1, o128.2.2.2.2.2.2.2.2.1, o128.2.2.2.2.2.2.2.2.2.1, o128.2.2.2.2.2.2.2.2.2.2.1, o128.2.2.2.2.2.2.2.2.2.2.2.1, o128.2.2.2.2.2.2.2.2.2.2.2.2.1, o128.2.2.2.2.2.2.2.2.2.2.2.2.2.1)))))) (K (Sum.inr (Sum.inr (a0, a1, a2, a3))))) none) none) none))
def Bn n a0 a1 a2 a3 := Hl n a0 a1 a2 a3 _ some
abbrev OM : FS := ⟨[.a [.L false 3, .l .i64, .l .i64, .s]], [], [([.x (.ptr none), .n], []), ([.q 0 0, .x (.int .i64 (0 : Int))], [.c 82 [.L false 3, .l .i64, .l .i64, .s, .q 1 0], .c 87 [.s, .s, .n, .n, .c, .n, .n, .n, .n, .c, .n, .n, .n, .n]]), ([.q 0 0, .x (.int .i64 (0 : Int))], [.c 82 [.L false 3, .l .i64, .l .i64, .s, .x (.ptr none)]])]⟩
def OO (n : Nat) : FSpec := OM.sp (Bn n)
theorem SI (n : Nat) : FSound Tryz.prog 27 (OO n) := fs2 (S := OM) (b := Hl n) Tryz.func27 rfl rfl [.tmp 2, .tmp 3] (.s .a (.s (.s (.r [(1, .cl 50 (FZ n))]) .a) (.s (.d [(2, .cl 51 (CY n)), (5, .cl 52 (CZ n)), (8, .cl 53 (C8 n)), (10, .tk [12]), (12, .tk [15]), (14, .tk [18])] [(0, .part [0]), (1, .part [0]), (3, .part [0]), (4, .part [0]), (6, .part [0]), (7, .part [0]), (9, .part [0]), (10, .part [0]), (11, .part [0]), (12, .part [0]), (13, .part [0]), (14, .part [0])]) (.s .a (.s (.s .a (.s (.s (.r [(2, .cl 54 (Ic n)), (5, .tk [29])]) .a) .a)) .a))))) (by (repeat intro _); unfold Hl; simp only [aD]) (ai (Gr n) (ai (He n) (ai (Hf n) (ai (Hg n) (ai (KF n) trivial)))))
def IZ (n : Nat) : FSpec := Yk 2 (OO n)
theorem I1 (n : Nat) : FSound Tryz.prog 27 (IZ n) := Nf (SI n)
def ig (n : Nat) (x4 : Int) (h0_0 : List (List AV)) (h0_1 h0_2 : List Int) (h0_3 : Str) (h1_0 : List (List AV)) (h1_1 h1_2 : List Int) (h1_3 : Str) (h2_0 : List (List AV)) (h2_1 h2_2 : List Int) (h2_3 : Str) (R : Type) (A_ : Int → (List (List AV)) → (List Int) → (List Int) → Str → (List (List AV)) → (List Int) → (List Int) → Str → (List (List AV)) → (List Int) → (List Int) → Str → Option R) (K : W5 → Option R) : Option R := cond (decide (x4 < (h0_0.length : Int))) (cond (decide (0 ≤ x4)) ((h0_0[x4.toNat]?).bind fun e132 => (unc e132 fun c133 r134 => xn .i64 c133 fun x135 => unc r134 fun c136 r137 => zf c136 fun x138 => unc r137 fun c139 r140 => zg c139 fun x141 => unn r140 (cond (decide ((h2_0.length + ([[.int .i64 x135, .bool x138, .str x141]] : List (List AV)).length) * 32 ≤ 140737488355328)) (A_ (IntKind.i64.wrap (x4 + (1 : Int))) h0_0 h0_1 h0_2 h0_3 h1_0 h1_1 h1_2 h1_3 (h2_0 ++ ([[.int .i64 x135, .bool x138, .str x141]] : List (List AV))) h2_1 h2_2 h2_3) none))) none) (K (h0_0, h0_1, h0_2, h0_3, h1_0, h1_1, h1_2, h1_3, h2_0, h2_1, h2_2, h2_3))
def dh (n : Nat) : Nat → Int → (List (List AV)) → (List Int) → (List Int) → Str → (List (List AV)) → (List Int) → (List Int) → Str → (List (List AV)) → (List Int) → (List Int) → Str → Option (W5)
 | 0, _, _, _, _, _, _, _, _, _, _, _, _, _ => none
 | m + 1, x4, h0_0, h0_1, h0_2, h0_3, h1_0, h1_1, h1_2, h1_3, h2_0, h2_1, h2_2, h2_3 => ig n x4 h0_0 h0_1 h0_2 h0_3 h1_0 h1_1 h1_2 h1_3 h2_0 h2_1 h2_2 h2_3 _ (dh n m) some
abbrev qf : PS := ⟨[2], [(1, .q 0 0), (3, .q 2 0), (4, .n)], some [.c 26 [.L false 3, .l .i64, .l .i64, .s], .c 30 [.L true 3, .I true .i64, .I true .i64, .s], .c 30 [.L true 3, .l .i64, .l .i64, .s]], [⟨(.exit 0), [2, 3], [], [.c 26 [.L false 3, .l .i64, .l .i64, .s], .c 30 [.L true 3, .I true .i64, .I true .i64, .s], .c 30 [.L true 3, .l .i64, .l .i64, .s]], none⟩], none, none⟩
theorem Dq (n : Nat) : Snd ⟨Tryz.prog, 0, 30⟩ (qf.x (dh n n)) (fb Tryz.f29 43) := rW (S := qf) (b := ig n) (f := dh n) n (.s .a (.s (.u (.d [(1, .lt), (8, .tk [20]), (10, .tk [27])] [(0, .part [2]), (1, .part [2]), (2, .part [0]), (3, .part [0]), (6, .no), (9, .part [2]), (10, .part [2])])) .a)) (by (repeat intro _); unfold ig; simp only [aD]) trivial
def nY (n : Nat) (a0 : List (List AV)) (a1 a2 : List Int) (a3 : Str) (R : Type) (K : ((List (List AV)) × (List Int) × (List Int) × Str) → Option R) : Option R := (dh n n (0 : Int) a0 a1 a2 a3 ([] : List (List AV)) ([] : List Int) ([] : List Int) ([] : Str) ([] : List (List AV)) a1 a2 a3).bind fun o142 => (K (o142.2.2.2.2.2.2.2.2.1, o142.2.2.2.2.2.2.2.2.2.1, o142.2.2.2.2.2.2.2.2.2.2.1, o142.2.2.2.2.2.2.2.2.2.2.2))
def gM n a0 a1 a2 a3 := nY n a0 a1 a2 a3 _ some
abbrev zT : FS := ⟨[.a [.L false 3, .l .i64, .l .i64, .s]], [], [([.a [.L false 3, .l .i64, .l .i64, .s]], [])]⟩
def yO (n : Nat) : FSpec := zT.sp (gM n)
theorem EI (n : Nat) : FSound Tryz.prog 29 (yO n) := fs2 (S := zT) (b := nY n) Tryz.func29 rfl rfl [.cell 2 30 4 true] (.s .a (.s (.r [(8, .tk [11])]) (.s (.s .a (.u (.p (qf.x (dh n n))))) .a))) (by (repeat intro _); unfold nY; simp only [aD]) (ai (Dq n) trivial)
def jP (n : Nat) (x0 : Str) (x3 x4 x11 : Int) (R : Type) (K : (Bool) → Option R) : Option R := cond (decide (0 ≤ x11)) ((x0[x11.toNat]?).bind fun b144 => (cond (decide ((b144.toNat : Int) < x3)) (K true) (cond (decide (0 ≤ x11)) ((x0[x11.toNat]?).bind fun b145 => (K (decide ((b145.toNat : Int) > x4)))) none))) none
def iU n x0 x3 x4 x11 := jP n x0 x3 x4 x11 _ some
abbrev oQ : PS := ⟨[1, 2], [(0, .s), (3, .c), (4, .c), (11, .n)], none, [⟨.normal, [0, 1, 2, 3, 4, 11], [(29, .b)], [], none⟩], none, none⟩
def gF (n : Nat) (x0 : Str) (x3 x4 x11 : Int) (R : Type) (A_ : Str → Int → Int → Int → Option R) (K : ((Unit) ⊕ (Unit)) → Option R) : Option R := cond (decide (x11 < (x0.length : Int))) ((iU n x0 x3 x4 x11).bind fun o146 => (cond o146 (K (Sum.inl ())) (A_ x0 x3 x4 (IntKind.i64.wrap (x11 + (1 : Int)))))) (K (Sum.inr ()))
def bX (n : Nat) : Nat → Str → Int → Int → Int → Option ((Unit) ⊕ (Unit))
 | 0, _, _, _, _ => none
 | m + 1, x0, x3, x4, x11 => gF n x0 x3 x4 x11 _ (bX n m) some
abbrev oU : PS := ⟨[1, 2], [(0, .s), (3, .c), (4, .c), (11, .n)], none, [⟨.ret, [], [(10, .x (.bool false))], [], none⟩, ⟨(.exit 0), [0, 1, 2], [], [], none⟩], none, none⟩
theorem CU (n : Nat) : Snd ⟨Tryz.prog, 0, 40⟩ (oQ.x (iU n)) (fb Tryz.f91 549) := kH (S := oQ) (b := jP n) .a (by (repeat intro _); unfold jP; simp only [aD]) trivial
theorem CV (n : Nat) : Snd ⟨Tryz.prog, 0, 40⟩ (oU.x (bX n n)) (fb Tryz.f91 21) := rW (S := oU) (b := gF n) (f := bX n) n (.s .a (.s (.u (.s (.p (oQ.x (iU n))) .a)) .a)) (by (repeat intro _); unfold gF; simp only [aD]) (ai (CU n) trivial)
def mV (n : Nat) (a0 : Str) (a1 a2 a3 a4 : Int) (R : Type) (K : Bool → Option R) : Option R := (bX n n a0 a3 a4 (0 : Int)).bind fun o147 => (Sum.elim (fun o148 => K false) (fun o149 => cond (decide ((a0.length : Int) ≥ a1)) (K (decide ((a0.length : Int) ≤ a2))) (K false)) o147)
def jv n a0 a1 a2 a3 a4 := mV n a0 a1 a2 a3 a4 _ some
abbrev yP : FS := ⟨[.s, .n, .n, .c, .c], [], [([.b], [])]⟩
def rF (n : Nat) : FSpec := yP.sp (jv n)
theorem vk (n : Nat) : FSound Tryz.prog 91 (rF n) := fs2 (S := yP) (b := mV n) Tryz.func91 rfl rfl [.tmp 10] (.s .a (.s (.s .a (.u (.p (oU.x (bX n n))))) .a)) (by (repeat intro _); unfold mV; simp only [aD]) (ai (CV n) trivial)
def kQ (n : Nat) (h0_0 : List (List AV)) (h0_1 h0_2 : List Int) (h0_3 : Str) (R : Type) (K : W0 → Option R) : Option R := cond (decide ((h0_0.length : Int) < (1 : Int))) (K (true, h0_0, h0_1, h0_2, h0_3)) (cond (decide ((h0_0.length : Int) > (255 : Int))) (K (true, h0_0, h0_1, h0_2, h0_3)) (cond (decide ((h0_1.length : Int) > (4000 : Int))) (K (true, h0_0, h0_1, h0_2, h0_3)) (cond ((h0_1.length : Int) != (h0_2.length : Int)) (K (true, h0_0, h0_1, h0_2, h0_3)) ((jv n h0_3 (0 : Int) (100 : Int) (32 : Int) (126 : Int)).bind fun o150 => (K (!o150, h0_0, h0_1, h0_2, h0_3))))))
def mW n h0_0 h0_1 h0_2 h0_3 := kQ n h0_0 h0_1 h0_2 h0_3 _ some
abbrev qg : PS := ⟨[], [(1, .q 0 0)], some [.c 30 [.L false 3, .l .i64, .l .i64, .s]], [⟨.normal, [1], [(36, .b)], [.c 30 [.L false 3, .l .i64, .l .i64, .s]], none⟩], none, none⟩
def kR (n : Nat) (x4 : Int) (h0_0 : List (List AV)) (h0_1 h0_2 : List Int) (h0_3 : Str) (R : Type) (K : W0 → Option R) : Option R := cond (decide (0 ≤ x4)) ((h0_0[x4.toNat]?).bind fun e162 => (unc e162 fun c163 r164 => xn .i64 c163 fun x165 => unc r164 fun c166 r167 => zf c166 fun x168 => unc r167 fun c169 r170 => zg c169 fun x171 => unn r170 (cond (decide (x165 < (-89999 : Int))) (K (true, h0_0, h0_1, h0_2, h0_3)) (cond (decide (0 ≤ x4)) ((h0_0[x4.toNat]?).bind fun e172 => (unc e172 fun c173 r174 => xn .i64 c173 fun x175 => unc r174 fun c176 r177 => zf c176 fun x178 => unc r177 fun c179 r180 => zg c179 fun x181 => unn r180 (cond (decide (x175 > (93599 : Int))) (K (true, h0_0, h0_1, h0_2, h0_3)) (cond (decide (0 ≤ x4)) ((h0_0[x4.toNat]?).bind fun e182 => (unc e182 fun c183 r184 => xn .i64 c183 fun x185 => unc r184 fun c186 r187 => zf c186 fun x188 => unc r187 fun c189 r190 => zg c189 fun x191 => unn r190 ((jv n x191 (1 : Int) (15 : Int) (33 : Int) (126 : Int)).bind fun o192 => (K (!o192, h0_0, h0_1, h0_2, h0_3))))) none)))) none)))) none
def jy n x4 h0_0 h0_1 h0_2 h0_3 := kR n x4 h0_0 h0_1 h0_2 h0_3 _ some
abbrev qh : PS := ⟨[3], [(1, .q 0 0), (4, .n)], some [.c 30 [.L false 3, .l .i64, .l .i64, .s]], [⟨.normal, [1, 3, 4], [(79, .b)], [.c 30 [.L false 3, .l .i64, .l .i64, .s]], none⟩], none, none⟩
def ik (n : Nat) (x3 x4 : Int) (h0_0 : List (List AV)) (h0_1 h0_2 : List Int) (h0_3 : Str) (R : Type) (A_ : Int → Int → (List (List AV)) → (List Int) → (List Int) → Str → Option R) (K : (((List (List AV)) × (List Int) × (List Int) × Str) ⊕ W1) → Option R) : Option R := cond (decide (x4 < (h0_0.length : Int))) (cond (decide (0 ≤ x4)) ((h0_0[x4.toNat]?).bind fun e152 => (unc e152 fun c153 r154 => xn .i64 c153 fun x155 => unc r154 fun c156 r157 => zf c156 fun x158 => unc r157 fun c159 r160 => zg c159 fun x161 => unn r160 ((jy n x4 h0_0 h0_1 h0_2 h0_3).bind fun o193 => (cond o193.1 (K (Sum.inl (o193.2.1, o193.2.2.1, o193.2.2.2.1, o193.2.2.2.2))) (A_ (IntKind.i64.wrap ((IntKind.i64.wrap (x3 + (x161.length : Int))) + (1 : Int))) (IntKind.i64.wrap (x4 + (1 : Int))) o193.2.1 o193.2.2.1 o193.2.2.2.1 o193.2.2.2.2))))) none) (K (Sum.inr (x3, h0_0, h0_1, h0_2, h0_3)))
def di (n : Nat) : Nat → Int → Int → (List (List AV)) → (List Int) → (List Int) → Str → Option (((List (List AV)) × (List Int) × (List Int) × Str) ⊕ W1)
 | 0, _, _, _, _, _, _ => none
 | m + 1, x3, x4, h0_0, h0_1, h0_2, h0_3 => ik n x3 x4 h0_0 h0_1 h0_2 h0_3 _ (di n m) some
abbrev qi : PS := ⟨[], [(1, .q 0 0), (3, .n), (4, .n)], some [.c 30 [.L false 3, .l .i64, .l .i64, .s]], [⟨.ret, [], [(2, .x (.bool false))], [.c 30 [.L false 3, .l .i64, .l .i64, .s]], none⟩, ⟨(.exit 0), [1], [(3, .n)], [.c 30 [.L false 3, .l .i64, .l .i64, .s]], none⟩], none, none⟩
def il (n : Nat) (x3 x5 : Int) (h0_0 : List (List AV)) (h0_1 h0_2 : List Int) (h0_3 : Str) (R : Type) (K : W0 → Option R) : Option R := cond (decide (x3 > (256 : Int))) (K (true, h0_0, h0_1, h0_2, h0_3)) (cond (decide (0 ≤ x5)) ((h0_2[x5.toNat]?).bind fun e197 => (cond (decide (e197 < (0 : Int))) (K (true, h0_0, h0_1, h0_2, h0_3)) (cond (decide (0 ≤ x5)) ((h0_2[x5.toNat]?).bind fun e198 => (cond (decide (e198 ≥ (h0_0.length : Int))) (K (true, h0_0, h0_1, h0_2, h0_3)) (cond (decide (x5 > (0 : Int))) (cond (decide (0 ≤ x5)) ((h0_1[x5.toNat]?).bind fun e199 => (cond (decide (0 ≤ (IntKind.i64.wrap (x5 - (1 : Int))))) ((h0_1[(IntKind.i64.wrap (x5 - (1 : Int))).toNat]?).bind fun e200 => (K (decide (e199 ≤ e200), h0_0, h0_1, h0_2, h0_3))) none)) none) (K (false, h0_0, h0_1, h0_2, h0_3))))) none))) none)
def fV n x3 x5 h0_0 h0_1 h0_2 h0_3 := il n x3 x5 h0_0 h0_1 h0_2 h0_3 _ some
abbrev qj : PS := ⟨[], [(1, .q 0 0), (3, .n), (5, .n)], some [.c 30 [.L false 3, .l .i64, .l .i64, .s]], [⟨.normal, [1, 3, 5], [(125, .b)], [.c 30 [.L false 3, .l .i64, .l .i64, .s]], none⟩], none, none⟩
def eH (n : Nat) (x3 x5 : Int) (h0_0 : List (List AV)) (h0_1 h0_2 : List Int) (h0_3 : Str) (R : Type) (A_ : Int → Int → (List (List AV)) → (List Int) → (List Int) → Str → Option R) (K : (((List (List AV)) × (List Int) × (List Int) × Str) ⊕ ((List (List AV)) × (List Int) × (List Int) × Str)) → Option R) : Option R := cond (decide (x5 < (h0_1.length : Int))) ((fV n x3 x5 h0_0 h0_1 h0_2 h0_3).bind fun o201 => (cond o201.1 (K (Sum.inl (o201.2.1, o201.2.2.1, o201.2.2.2.1, o201.2.2.2.2))) (A_ x3 (IntKind.i64.wrap (x5 + (1 : Int))) o201.2.1 o201.2.2.1 o201.2.2.2.1 o201.2.2.2.2))) (K (Sum.inr (h0_0, h0_1, h0_2, h0_3)))
def bL (n : Nat) : Nat → Int → Int → (List (List AV)) → (List Int) → (List Int) → Str → Option (((List (List AV)) × (List Int) × (List Int) × Str) ⊕ ((List (List AV)) × (List Int) × (List Int) × Str))
 | 0, _, _, _, _, _, _ => none
 | m + 1, x3, x5, h0_0, h0_1, h0_2, h0_3 => eH n x3 x5 h0_0 h0_1 h0_2 h0_3 _ (bL n m) some
abbrev ql : PS := ⟨[], [(1, .q 0 0), (3, .n), (5, .n)], some [.c 30 [.L false 3, .l .i64, .l .i64, .s]], [⟨.ret, [], [(2, .x (.bool false))], [.c 30 [.L false 3, .l .i64, .l .i64, .s]], none⟩, ⟨(.exit 2), [3], [], [.c 30 [.L false 3, .l .i64, .l .i64, .s]], none⟩], none, none⟩
theorem Dr (n : Nat) : Snd ⟨Tryz.prog, 0, 128⟩ (qh.x (jy n)) (fb Tryz.f55 5271) := kH (S := qh) (b := kR n) (.r [(23, .cl 91 (rF n))]) (by (repeat intro _); unfold kR; simp only [aD]) (ai (vk n) trivial)
theorem Dt (n : Nat) : Snd ⟨Tryz.prog, 0, 128⟩ (qj.x (fV n)) (fb Tryz.f55 4399) := kH (S := qj) (b := il n) (.d [] [(3, .look), (7, .no), (11, .look), (15, .no), (16, .look), (25, .look), (29, .no), (30, .look), (35, .no)]) (by (repeat intro _); unfold il; simp only [aD]) trivial
theorem Du (n : Nat) : Snd ⟨Tryz.prog, 0, 128⟩ (qg.x (mW n)) (fb Tryz.f55 9) := kH (S := qg) (b := kQ n) (.r [(28, .cl 91 (rF n))]) (by (repeat intro _); unfold kQ; simp only [aD]) (ai (vk n) trivial)
theorem Dv (n : Nat) : Snd ⟨Tryz.prog, 0, 128⟩ (qi.x (di n n)) (fb Tryz.f55 87) := rW (S := qi) (b := ik n) (f := di n) n (.s .a (.s (.u (.s .a (.s (.p (qh.x (jy n))) .a))) .a)) (by (repeat intro _); unfold ik; simp only [aD]) (ai (Dr n) trivial)
theorem Dw (n : Nat) : Snd ⟨Tryz.prog, 0, 128⟩ (ql.x (bL n n)) (fb Tryz.f55 175) := rW (S := ql) (b := eH n) (f := bL n) n (.s .a (.s (.u (.s (.p (qj.x (fV n))) .a)) .a)) (by (repeat intro _); unfold eH; simp only [aD]) (ai (Dt n) trivial)
def nZ (n : Nat) (a0 : List (List AV)) (a1 a2 : List Int) (a3 : Str) (R : Type) (K : Bool → Option R) : Option R := (mW n a0 a1 a2 a3).bind fun o151 => (cond o151.1 (K false) ((di n n (0 : Int) (0 : Int) o151.2.1 o151.2.2.1 o151.2.2.2.1 o151.2.2.2.2).bind fun o194 => (Sum.elim (fun o195 => K false) (fun o196 => (bL n n o196.1 (0 : Int) o196.2.1 o196.2.2.1 o196.2.2.2.1 o196.2.2.2.2).bind fun o202 => (Sum.elim (fun o203 => K false) (fun o204 => K (decide (o196.1 ≤ (256 : Int)))) o202)) o194)))
def jQ n a0 a1 a2 a3 := nZ n a0 a1 a2 a3 _ some
abbrev zU : FS := ⟨[.a [.L false 3, .l .i64, .l .i64, .s]], [], [([.b], [])]⟩
def yQ (n : Nat) : FSpec := zU.sp (jQ n)
theorem EJ (n : Nat) : FSound Tryz.prog 55 (yQ n) := fs2 (S := zU) (b := nZ n) Tryz.func55 rfl rfl [.tmp 2] (.s .a (.s (.s (.p (qg.x (mW n))) .a) (.s .a (.s (.s .a (.u (.p (qi.x (di n n))))) (.s (.s .a (.u (.p (ql.x (bL n n))))) .a))))) (by (repeat intro _); unfold nZ; simp only [aD]) (ai (Du n) (ai (Dv n) (ai (Dw n) trivial)))
def gN (n : Nat) (x1 : Int) (h0_0 : Str) (h0_1 : Int) (h0_2 : Bool) (R : Type) (K : (Bool × Str × Int × Bool) → Option R) : Option R := cond (decide (h0_1 ≥ (h0_0.length : Int))) (K (true, h0_0, h0_1, h0_2)) (cond (decide (0 ≤ h0_1)) ((h0_0[h0_1.toNat]?).bind fun b206 => (K ((b206.toNat : Int) != x1, h0_0, h0_1, h0_2))) none)
def je n x1 h0_0 h0_1 h0_2 := gN n x1 h0_0 h0_1 h0_2 _ some
abbrev lC : PS := ⟨[], [(0, .q 0 0), (1, .c)], some [.c 156 [.s, .n, .b]], [⟨.normal, [0], [(27, .b)], [.c 156 [.s, .n, .b]], none⟩], none, none⟩
theorem zV (n : Nat) : Snd ⟨Tryz.prog, 1, 35⟩ (lC.x (je n)) (fb Tryz.f131 9) := kH (S := lC) (b := gN n) (.d [] [(0, .look), (1, .look), (2, .look), (4, .look), (5, .look), (6, .look), (11, .look), (12, .look), (13, .look), (15, .look), (16, .look), (17, .look)]) (by (repeat intro _); unfold gN; simp only [aD]) trivial
def jE (n : Nat) (a0 : Int) (h0 : Str) (h1 : Int) (h2 : Bool) (R : Type) (K : (Bool × Str × Int × Bool) → Option R) : Option R := (je n a0 h0 h1 h2).bind fun o207 => (cond o207.1 (K (false, o207.2.1, o207.2.2.1, o207.2.2.2)) (K (true, o207.2.1, IntKind.i64.wrap (o207.2.2.1 + (1 : Int)), o207.2.2.2)))
def aH n a0 h0 h1 h2 := jE n a0 h0 h1 h2 _ some
abbrev vo : FS := ⟨[.q 0 0, .c], [.c 156 [.s, .n, .b]], [([.b], [.c 156 [.s, .n, .b]])]⟩
def aQ (n : Nat) : FSpec := vo.sp (aH n)
theorem aM (n : Nat) : FSound Tryz.prog 131 (aQ n) := fs2 (S := vo) (b := jE n) Tryz.func131 rfl rfl [.tmp 4] (.s .a (.s (.s (.p (lC.x (je n))) .a) .a)) (by (repeat intro _); unfold jE; simp only [aD]) (ai (zV n) trivial)
def jf (n : Nat) (a0 : Int) (h0 : Str) (h1 : Int) (h2 : Bool) (R : Type) (K : (Str × Int × Bool) → Option R) : Option R := (aH n a0 h0 h1 h2).bind fun o212 => (cond (!o212.1) (K (o212.2.1, o212.2.2.1, true)) (K (o212.2.1, o212.2.2.1, o212.2.2.2)))
def aZ n a0 h0 h1 h2 := jf n a0 h0 h1 h2 _ some
abbrev uJ : FS := ⟨[.q 0 0, .c], [.c 156 [.s, .n, .b]], [([], [.c 156 [.s, .n, .b]])]⟩
def dm (n : Nat) : FSpec := uJ.sp (aZ n)
theorem dE (n : Nat) : FSound Tryz.prog 95 (dm n) := fs2 (S := uJ) (b := jf n) Tryz.func95 rfl rfl [] (.s (.r [(2, .cl 131 (aQ n))]) .a) (by (repeat intro _); unfold jf; simp only [aD]) (ai (aM n) trivial)
def sS (n : Nat) (a0 : Int) (R : Type) (K : Bool → Option R) : Option R := cond (decide (a0 ≥ (65 : Int))) (cond (decide (a0 ≤ (90 : Int))) (K true) (cond (decide (a0 ≥ (97 : Int))) (K (decide (a0 ≤ (122 : Int)))) (K false))) (cond (decide (a0 ≥ (97 : Int))) (K (decide (a0 ≤ (122 : Int)))) (K false))
def fZ n a0 := sS n a0 _ some
abbrev yR : FS := ⟨[.c], [], [([.b], [])]⟩
def rG (n : Nat) : FSpec := yR.sp (fZ n)
theorem vv (n : Nat) : FSound Tryz.prog 132 (rG n) := fs2 (S := yR) (b := sS n) Tryz.func132 rfl rfl [.tmp 2] .a (by (repeat intro _); unfold sS; simp only [aD]) trivial
def uk (n : Nat) (a0 : Int) (R : Type) (K : Bool → Option R) : Option R := cond (decide (a0 ≥ (48 : Int))) (K (decide (a0 ≤ (57 : Int)))) (K false)
def eT n a0 := uk n a0 _ some
abbrev zW : FS := ⟨[.c], [], [([.b], [])]⟩
def sU (n : Nat) : FSpec := zW.sp (eT n)
theorem vR (n : Nat) : FSound Tryz.prog 144 (sU n) := fs2 (S := zW) (b := uk n) Tryz.func144 rfl rfl [.tmp 2] .a (by (repeat intro _); unfold uk; simp only [aD]) trivial
def lV (n : Nat) (x0 : Str) (x3 : Int) (R : Type) (K : (Bool) → Option R) : Option R := cond (decide (0 ≤ x3)) ((x0[x3.toNat]?).bind fun b214 => ((fZ n (b214.toNat : Int)).bind fun o215 => (cond (!o215) (cond (decide (0 ≤ x3)) ((x0[x3.toNat]?).bind fun b216 => ((eT n (b216.toNat : Int)).bind fun o217 => (cond (!o217) (cond (decide (0 ≤ x3)) ((x0[x3.toNat]?).bind fun b218 => (cond ((b218.toNat : Int) != (43 : Int)) (cond (decide (0 ≤ x3)) ((x0[x3.toNat]?).bind fun b219 => (K ((b219.toNat : Int) != (45 : Int)))) none) (K false))) none) (K false)))) none) (K false)))) none
def og n x0 x3 := lV n x0 x3 _ some
abbrev rH : PS := ⟨[], [(0, .s), (3, .n)], none, [⟨.normal, [0, 3], [(33, .b)], [], none⟩], none, none⟩
def lW (n : Nat) (x0 : Str) (x3 : Int) (R : Type) (A_ : Str → Int → Option R) (K : ((Unit) ⊕ (Unit)) → Option R) : Option R := cond (decide (x3 < (x0.length : Int))) ((og n x0 x3).bind fun o220 => (cond o220 (K (Sum.inl ())) (A_ x0 (IntKind.i64.wrap (x3 + (1 : Int)))))) (K (Sum.inr ()))
def eU (n : Nat) : Nat → Str → Int → Option ((Unit) ⊕ (Unit))
 | 0, _, _ => none
 | m + 1, x0, x3 => lW n x0 x3 _ (eU n m) some
abbrev rJ : PS := ⟨[], [(0, .s), (3, .n)], none, [⟨.ret, [], [(2, .x (.bool false))], [], none⟩, ⟨(.exit 0), [0], [], [], none⟩], none, none⟩
theorem EK (n : Nat) : Snd ⟨Tryz.prog, 0, 42⟩ (rH.x (og n)) (fb Tryz.f105 549) := kH (S := rH) (b := lV n) (.r [(3, .cl 132 (rG n)), (9, .cl 144 (sU n))]) (by (repeat intro _); unfold lV; simp only [aD]) (ai (vv n) (ai (vR n) trivial))
theorem EL (n : Nat) : Snd ⟨Tryz.prog, 0, 42⟩ (rJ.x (eU n n)) (fb Tryz.f105 21) := rW (S := rJ) (b := lW n) (f := eU n) n (.s .a (.s (.u (.s (.p (rH.x (og n))) .a)) .a)) (by (repeat intro _); unfold lW; simp only [aD]) (ai (EK n) trivial)
def pJ (n : Nat) (a0 : Str) (R : Type) (K : Bool → Option R) : Option R := (eU n n a0 (0 : Int)).bind fun o221 => (Sum.elim (fun o222 => K false) (fun o223 => cond (decide ((a0.length : Int) ≥ (3 : Int))) (K (decide ((a0.length : Int) ≤ (10 : Int)))) (K false)) o221)
def fH n a0 := pJ n a0 _ some
abbrev AR : FS := ⟨[.s], [], [([.b], [])]⟩
def jR (n : Nat) : FSpec := AR.sp (fH n)
theorem kT (n : Nat) : FSound Tryz.prog 105 (jR n) := fs2 (S := AR) (b := pJ n) Tryz.func105 rfl rfl [.tmp 2] (.s .a (.s (.s .a (.u (.p (rJ.x (eU n n))))) .a)) (by (repeat intro _); unfold pJ; simp only [aD]) (ai (EL n) trivial)
def jg (n : Nat) (h0 : Str) (h1 : Int) (h2 : Bool) (R : Type) (K : (Int × Str × Int × Bool) → Option R) : Option R := cond (decide (h1 < (h0.length : Int))) (cond (decide (0 ≤ h1)) ((h0[h1.toNat]?).bind fun b226 => (K ((b226.toNat : Int), h0, h1, h2))) none) (K ((0 : Int), h0, h1, h2))
def bN n h0 h1 h2 := jg n h0 h1 h2 _ some
abbrev uK : FS := ⟨[.q 0 0], [.c 156 [.s, .n, .b]], [([.c], [.c 156 [.s, .n, .b]])]⟩
def eD (n : Nat) : FSpec := uK.sp (bN n)
theorem fK (n : Nat) : FSound Tryz.prog 94 (eD n) := fs2 (S := uK) (b := jg n) Tryz.func94 rfl rfl [.tmp 2] (.s .a (.s (.s (.d [] [(0, .look), (1, .look), (2, .look), (4, .look), (5, .look), (6, .look)]) (.s (.s (.d [] [(0, .look), (1, .look), (2, .look), (4, .look), (5, .look), (6, .look)]) .a) .a)) .a)) (by (repeat intro _); unfold jg; simp only [aD]) trivial
def gp (n : Nat) (h0_0 : Str) (h0_1 : Int) (h0_2 : Bool) (R : Type) (K : (Bool × Str × Int × Bool) → Option R) : Option R := cond (decide (h0_1 < (h0_0.length : Int))) (cond (decide (0 ≤ h0_1)) ((h0_0[h0_1.toNat]?).bind fun b209 => (K ((b209.toNat : Int) != (62 : Int), h0_0, h0_1, h0_2))) none) (K (false, h0_0, h0_1, h0_2))
def iE n h0_0 h0_1 h0_2 := gp n h0_0 h0_1 h0_2 _ some
abbrev kK : PS := ⟨[3], [(0, .q 0 0)], some [.c 156 [.s, .n, .b]], [⟨.normal, [0, 3], [(37, .b)], [.c 156 [.s, .n, .b]], none⟩], none, none⟩
def gq (n : Nat) (h0_0 : Str) (h0_1 : Int) (h0_2 : Bool) (R : Type) (A_ : Str → Int → Bool → Option R) (K : (Str × Int × Bool) → Option R) : Option R := (iE n h0_0 h0_1 h0_2).bind fun o210 => (cond o210.1 (A_ o210.2.1 (IntKind.i64.wrap (o210.2.2.1 + (1 : Int))) o210.2.2.2) (K (o210.2.1, o210.2.2.1, o210.2.2.2)))
def bF (n : Nat) : Nat → Str → Int → Bool → Option ((Str × Int × Bool))
 | 0, _, _, _ => none
 | m + 1, h0_0, h0_1, h0_2 => gq n h0_0 h0_1 h0_2 _ (bF n m) some
abbrev kL : PS := ⟨[3], [(0, .q 0 0)], some [.c 156 [.s, .n, .b]], [⟨(.exit 0), [0, 3], [], [.c 156 [.s, .n, .b]], none⟩], none, none⟩
def gu (n : Nat) (x4 h0_0 : Str) (h0_1 : Int) (h0_2 : Bool) (R : Type) (K : (Str × Int × Bool) → Option R) : Option R := cond h0_2 (K (h0_0, h0_1, true)) ((fH n x4).bind fun o224 => (K (h0_0, h0_1, !o224)))
def iF n x4 h0_0 h0_1 h0_2 := gu n x4 h0_0 h0_1 h0_2 _ some
abbrev kM : PS := ⟨[], [(0, .q 0 0), (4, .s)], some [.c 156 [.s, .n, .b]], [⟨.normal, [4], [], [.c 156 [.s, .n, .b]], none⟩], none, none⟩
def gy (n : Nat) (h0_0 : Str) (h0_1 : Int) (h0_2 : Bool) (R : Type) (A_ : Str → Int → Bool → Option R) (K : (Str × Int × Bool) → Option R) : Option R := (bN n h0_0 h0_1 h0_2).bind fun o227 => ((fZ n o227.1).bind fun o228 => (cond o228 (A_ o227.2.1 (IntKind.i64.wrap (o227.2.2.1 + (1 : Int))) o227.2.2.2) (K (o227.2.1, o227.2.2.1, o227.2.2.2))))
def bG (n : Nat) : Nat → Str → Int → Bool → Option ((Str × Int × Bool))
 | 0, _, _, _ => none
 | m + 1, h0_0, h0_1, h0_2 => gy n h0_0 h0_1 h0_2 _ (bG n m) some
abbrev kN : PS := ⟨[3], [(0, .q 0 0)], some [.c 156 [.s, .n, .b]], [⟨(.exit 2), [0, 3], [], [.c 156 [.s, .n, .b]], none⟩], none, none⟩
theorem zk (n : Nat) : Snd ⟨Tryz.prog, 1, 103⟩ (kK.x (iE n)) (fb Tryz.f92 2091) := kH (S := kK) (b := gp n) (.d [] [(0, .look), (1, .look), (2, .look), (4, .look), (5, .look), (6, .look), (11, .look), (12, .look), (13, .look), (15, .look), (16, .look), (17, .look)]) (by (repeat intro _); unfold gp; simp only [aD]) trivial
theorem zl (n : Nat) : Snd ⟨Tryz.prog, 1, 103⟩ (kL.x (bF n n)) (fb Tryz.f92 299) := rW (S := kL) (b := gq n) (f := bF n) n (.s (.s (.p (kK.x (iE n))) .a) .a) (by (repeat intro _); unfold gq; simp only [aD]) (ai (zk n) trivial)
theorem zm (n : Nat) : Snd ⟨Tryz.prog, 1, 103⟩ (kM.x (iF n)) (fb Tryz.f92 1515) := kH (S := kM) (b := gu n) (.r [(7, .cl 105 (jR n))]) (by (repeat intro _); unfold gu; simp only [aD]) (ai (kT n) trivial)
theorem zn (n : Nat) : Snd ⟨Tryz.prog, 1, 103⟩ (kN.x (bG n n)) (fb Tryz.f92 39) := rW (S := kN) (b := gy n) (f := bG n) n (.s (.s (.r [(1, .cl 94 (eD n)), (2, .cl 132 (rG n))]) .a) .a) (by (repeat intro _); unfold gy; simp only [aD]) (ai (fK n) (ai (vv n) trivial))
def jh (n : Nat) (h0 : Str) (h1 : Int) (h2 : Bool) (R : Type) (K : (Str × Str × Int × Bool) → Option R) : Option R := (aH n (60 : Int) h0 h1 h2).bind fun o208 => (cond o208.1 ((bF n n o208.2.1 o208.2.2.1 o208.2.2.2).bind fun o211 => (cond (decide (0 ≤ o211.2.1)) (cond (decide (o211.2.1 ≤ (o211.1.length : Int))) (cond (decide (0 ≤ o208.2.2.1)) (cond (decide (o208.2.2.1 ≤ (o211.2.1.toNat : Int))) ((aZ n (62 : Int) o211.1 o211.2.1 o211.2.2).bind fun o213 => ((iF n ((o211.1.take o211.2.1.toNat).drop o208.2.2.1.toNat) o213.1 o213.2.1 o213.2.2).bind fun o225 => (K ((o211.1.take o211.2.1.toNat).drop o208.2.2.1.toNat, o225.1, o225.2.1, o225.2.2)))) none) none) none) none)) ((bG n n o208.2.1 o208.2.2.1 o208.2.2.2).bind fun o229 => (cond (decide (0 ≤ o229.2.1)) (cond (decide (o229.2.1 ≤ (o229.1.length : Int))) (cond (decide (0 ≤ h1)) (cond (decide (h1 ≤ (o229.2.1.toNat : Int))) (cond o229.2.2 (K ((o229.1.take o229.2.1.toNat).drop h1.toNat, o229.1, o229.2.1, true)) ((fH n ((o229.1.take o229.2.1.toNat).drop h1.toNat)).bind fun o230 => (K ((o229.1.take o229.2.1.toNat).drop h1.toNat, o229.1, o229.2.1, !o230)))) none) none) none) none)))
def eZ n h0 h1 h2 := jh n h0 h1 h2 _ some
abbrev uL : FS := ⟨[.q 0 0], [.c 156 [.s, .n, .b]], [([.s], [.c 156 [.s, .n, .b]])]⟩
def mh (n : Nat) : FSpec := uL.sp (eZ n)
theorem qJ (n : Nat) : FSound Tryz.prog 92 (mh n) := fs2 (S := uL) (b := jh n) Tryz.func92 rfl rfl [.tmp 2] (.s .a (.s .a (.s (.s (.r [(1, .cl 131 (aQ n))]) (.s (.s .a (.s (.u (.p (kL.x (bF n n)))) (.s (.d [] [(0, .look), (1, .look), (2, .look), (5, .look), (6, .look), (7, .look)]) (.s (.r [(1, .cl 95 (dm n))]) (.s (.p (kM.x (iF n))) .a))))) .a)) (.s (.u (.p (kN.x (bG n n)))) (.s (.d [] [(0, .look), (1, .look), (2, .look), (5, .look), (6, .look), (7, .look)]) (.s (.r [(7, .cl 105 (jR n))]) .a)))))) (by (repeat intro _); unfold jh; simp only [aD]) (ai (aM n) (ai (zl n) (ai (dE n) (ai (zm n) (ai (zn n) (ai (kT n) trivial))))))
def fC (n : Nat) (x2 x8 : Int) (h0_0 : Str) (h0_1 : Int) (h0_2 : Bool) (R : Type) (K : (Bool × Str × Int × Bool) → Option R) : Option R := cond (decide (x8 < x2)) ((bN n h0_0 h0_1 h0_2).bind fun o235 => ((eT n o235.1).bind fun o236 => (K (o236, o235.2.1, o235.2.2.1, o235.2.2.2)))) (K (false, h0_0, h0_1, h0_2))
def gz n x2 x8 h0_0 h0_1 h0_2 := fC n x2 x8 h0_0 h0_1 h0_2 _ some
abbrev jJ : PS := ⟨[1, 7], [(0, .q 0 0), (2, .n), (8, .n)], some [.c 156 [.s, .n, .b]], [⟨.normal, [0, 1, 2, 7, 8], [(16, .b)], [.c 156 [.s, .n, .b]], none⟩], none, none⟩
def fD (n : Nat) (x2 x7 x8 : Int) (h0_0 : Str) (h0_1 : Int) (h0_2 : Bool) (R : Type) (A_ : Int → Int → Int → Str → Int → Bool → Option R) (K : W6 → Option R) : Option R := (gz n x2 x8 h0_0 h0_1 h0_2).bind fun o237 => (cond o237.1 ((bN n o237.2.1 o237.2.2.1 o237.2.2.2).bind fun o238 => (A_ x2 (IntKind.i64.wrap ((IntKind.i64.wrap ((IntKind.i64.wrap ((10 : Int) * x7)) + (IntKind.i64.wrap o238.1))) - (48 : Int))) (IntKind.i64.wrap (x8 + (1 : Int))) o238.2.1 (IntKind.i64.wrap (o238.2.2.1 + (1 : Int))) o238.2.2.2)) (K (x7, x8, o237.2.1, o237.2.2.1, o237.2.2.2)))
def aS (n : Nat) : Nat → Int → Int → Int → Str → Int → Bool → Option (W6)
 | 0, _, _, _, _, _, _ => none
 | m + 1, x2, x7, x8, h0_0, h0_1, h0_2 => fD n x2 x7 x8 h0_0 h0_1 h0_2 _ (aS n m) some
abbrev jK : PS := ⟨[1], [(0, .q 0 0), (2, .n), (7, .n), (8, .n)], some [.c 156 [.s, .n, .b]], [⟨(.exit 0), [0, 1], [(7, .n), (8, .n)], [.c 156 [.s, .n, .b]], none⟩], none, none⟩
theorem xD (n : Nat) : Snd ⟨Tryz.prog, 1, 46⟩ (jJ.x (gz n)) (fb Tryz.f133 131) := kH (S := jJ) (b := fC n) (.r [(5, .cl 94 (eD n)), (6, .cl 144 (sU n))]) (by (repeat intro _); unfold fC; simp only [aD]) (ai (fK n) (ai (vR n) trivial))
theorem xE (n : Nat) : Snd ⟨Tryz.prog, 1, 46⟩ (jK.x (aS n n)) (fb Tryz.f133 19) := rW (S := jK) (b := fD n) (f := aS n) n (.s (.s (.p (jJ.x (gz n))) .a) (.u (.s (.r [(3, .cl 94 (eD n))]) .a))) (by (repeat intro _); unfold fD; simp only [aD]) (ai (xD n) (ai (fK n) trivial))
def gP (n : Nat) (a0 a1 : Int) (h0 : Str) (h1 : Int) (h2 : Bool) (R : Type) (K : (Int × Str × Int × Bool) → Option R) : Option R := (aS n n a1 (0 : Int) (0 : Int) h0 h1 h2).bind fun o239 => (cond o239.2.2.2.2 (K (o239.1, o239.2.2.1, o239.2.2.2.1, true)) (K (o239.1, o239.2.2.1, o239.2.2.2.1, decide (o239.2.1 < a0))))
def ak n a0 a1 h0 h1 h2 := gP n a0 a1 h0 h1 h2 _ some
abbrev sV : FS := ⟨[.q 0 0, .n, .n], [.c 156 [.s, .n, .b]], [([.n], [.c 156 [.s, .n, .b]])]⟩
def aN (n : Nat) : FSpec := sV.sp (ak n)
theorem aO (n : Nat) : FSound Tryz.prog 133 (aN n) := fs2 (S := sV) (b := gP n) Tryz.func133 rfl rfl [.tmp 6] (.s .a (.s .a (.s (.u (.p (jK.x (aS n n)))) .a))) (by (repeat intro _); unfold gP; simp only [aD]) (ai (xE n) trivial)
def fM (n : Nat) (x5 : Int) (h0_0 : Str) (h0_1 : Int) (h0_2 : Bool) (R : Type) (K : (Int × Str × Int × Bool) → Option R) : Option R := (aH n (45 : Int) h0_0 h0_1 h0_2).bind fun o232 => (cond o232.1 (K ((-1 : Int), o232.2.1, o232.2.2.1, o232.2.2.2)) ((aH n (43 : Int) o232.2.1 o232.2.2.1 o232.2.2.2).bind fun o233 => (K (x5, o233.2.1, o233.2.2.1, o233.2.2.2))))
def dR n x5 h0_0 h0_1 h0_2 := fM n x5 h0_0 h0_1 h0_2 _ some
abbrev jS : PS := ⟨[1], [(0, .q 0 0), (5, .n)], some [.c 156 [.s, .n, .b]], [⟨.normal, [0, 1], [(5, .n)], [.c 156 [.s, .n, .b]], none⟩], none, none⟩
def fO (n : Nat) (x7 x8 : Int) (h0_0 : Str) (h0_1 : Int) (h0_2 : Bool) (R : Type) (K : W6 → Option R) : Option R := (aH n (58 : Int) h0_0 h0_1 h0_2).bind fun o241 => (cond o241.1 ((ak n (2 : Int) (2 : Int) o241.2.1 o241.2.2.1 o241.2.2.2).bind fun o242 => ((aH n (58 : Int) o242.2.1 o242.2.2.1 o242.2.2.2).bind fun o243 => (cond o243.1 ((ak n (2 : Int) (2 : Int) o243.2.1 o243.2.2.1 o243.2.2.2).bind fun o244 => (K (o242.1, o244.1, o244.2.1, o244.2.2.1, o244.2.2.2))) (K (o242.1, x8, o243.2.1, o243.2.2.1, o243.2.2.2))))) (K (x7, x8, o241.2.1, o241.2.2.1, o241.2.2.2)))
def gQ n x7 x8 h0_0 h0_1 h0_2 := fO n x7 x8 h0_0 h0_1 h0_2 _ some
abbrev jT : PS := ⟨[1, 5, 6], [(0, .q 0 0), (7, .n), (8, .n)], some [.c 156 [.s, .n, .b]], [⟨.normal, [0, 1, 5, 6], [(7, .n), (8, .n)], [.c 156 [.s, .n, .b]], none⟩], none, none⟩
def fP (n : Nat) (x1 x6 x7 x8 : Int) (h0_0 : Str) (h0_1 : Int) (h0_2 : Bool) (R : Type) (K : (Str × Int × Bool) → Option R) : Option R := cond h0_2 (K (h0_0, h0_1, true)) (cond (decide (x6 > x1)) (K (h0_0, h0_1, true)) (cond (decide (x7 > (59 : Int))) (K (h0_0, h0_1, true)) (K (h0_0, h0_1, decide (x8 > (59 : Int))))))
def dS n x1 x6 x7 x8 h0_0 h0_1 h0_2 := fP n x1 x6 x7 x8 h0_0 h0_1 h0_2 _ some
abbrev jU : PS := ⟨[5], [(0, .q 0 0), (1, .n), (6, .n), (7, .n), (8, .n)], some [.c 156 [.s, .n, .b]], [⟨.normal, [5, 6, 7, 8], [], [.c 156 [.s, .n, .b]], none⟩], none, none⟩
theorem yA (n : Nat) : Snd ⟨Tryz.prog, 1, 52⟩ (jS.x (dR n)) (fb Tryz.f93 11) := kH (S := jS) (b := fM n) (.s (.r [(1, .cl 131 (aQ n))]) (.s .a (.r [(1, .cl 131 (aQ n))]))) (by (repeat intro _); unfold fM; simp only [aD]) (ai (aM n) (ai (aM n) trivial))
theorem yB (n : Nat) : Snd ⟨Tryz.prog, 1, 52⟩ (jT.x (gQ n)) (fb Tryz.f93 47) := kH (S := jT) (b := fO n) (.s (.r [(1, .cl 131 (aQ n))]) (.s (.s (.r [(1, .cl 133 (aN n))]) (.s (.r [(1, .cl 131 (aQ n))]) (.s (.r [(1, .cl 133 (aN n))]) .a))) .a)) (by (repeat intro _); unfold fO; simp only [aD]) (ai (aM n) (ai (aO n) (ai (aM n) (ai (aO n) trivial))))
theorem yC (n : Nat) : Snd ⟨Tryz.prog, 1, 52⟩ (jU.x (dS n)) (fb Tryz.f93 95) := kH (S := jU) (b := fP n) .a (by (repeat intro _); unfold fP; simp only [aD]) trivial
def iG (n : Nat) (a0 : Int) (h0 : Str) (h1 : Int) (h2 : Bool) (R : Type) (K : (Int × Str × Int × Bool) → Option R) : Option R := (dR n (1 : Int) h0 h1 h2).bind fun o234 => ((ak n (1 : Int) (3 : Int) o234.2.1 o234.2.2.1 o234.2.2.2).bind fun o240 => ((gQ n (0 : Int) (0 : Int) o240.2.1 o240.2.2.1 o240.2.2.2).bind fun o245 => ((dS n a0 o240.1 o245.1 o245.2.1 o245.2.2.1 o245.2.2.2.1 o245.2.2.2.2).bind fun o246 => (K (IntKind.i64.wrap (o234.1 * (IntKind.i64.wrap ((IntKind.i64.wrap ((IntKind.i64.wrap ((3600 : Int) * o240.1)) + (IntKind.i64.wrap ((60 : Int) * o245.1)))) + o245.2.1))), o246.1, o246.2.1, o246.2.2)))))
def aL n a0 h0 h1 h2 := iG n a0 h0 h1 h2 _ some
abbrev tQ : FS := ⟨[.q 0 0, .n], [.c 156 [.s, .n, .b]], [([.n], [.c 156 [.s, .n, .b]])]⟩
def gT (n : Nat) : FSpec := tQ.sp (aL n)
theorem jL (n : Nat) : FSound Tryz.prog 93 (gT n) := fs2 (S := tQ) (b := iG n) Tryz.func93 rfl rfl [.tmp 4] (.s .a (.s .a (.s (.p (jS.x (dR n))) (.s (.r [(1, .cl 133 (aN n))]) (.s (.p (jT.x (gQ n))) (.s (.p (jU.x (dS n))) .a)))))) (by (repeat intro _); unfold iG; simp only [aD]) (ai (yA n) (ai (aO n) (ai (yB n) (ai (yC n) trivial))))
def mX (n : Nat) (h0_0 h0_1 h0_2 h0_3 h0_4 : Int) (R : Type) (K : W2 → Option R) : Option R := cond (decide (h0_4 < (-604799 : Int))) (K (true, h0_0, h0_1, h0_2, h0_3, h0_4)) (K (decide (h0_4 > (604799 : Int)), h0_0, h0_1, h0_2, h0_3, h0_4))
def pK n h0_0 h0_1 h0_2 h0_3 h0_4 := mX n h0_0 h0_1 h0_2 h0_3 h0_4 _ some
abbrev sW : PS := ⟨[], [(1, .q 0 0)], some [.c 32 [.c, .n, .n, .n, .n]], [⟨.normal, [1], [(10, .b)], [.c 32 [.c, .n, .n, .n, .n]], none⟩], none, none⟩
theorem Fs (n : Nat) : Snd ⟨Tryz.prog, 0, 83⟩ (sW.x (pK n)) (fb Tryz.f107 9) := kH (S := sW) (b := mX n) .a (by (repeat intro _); unfold mX; simp only [aD]) trivial
def qK (n : Nat) (a0 a1 a2 a3 a4 : Int) (R : Type) (K : Bool → Option R) : Option R := (pK n a0 a1 a2 a3 a4).bind fun o267 => (cond o267.1 (K false) (cond (o267.2.1 == (1 : Int)) (cond (o267.2.2.1 == (0 : Int)) (cond (o267.2.2.2.1 == (0 : Int)) (cond (decide (o267.2.2.2.2.1 ≥ (1 : Int))) (K (decide (o267.2.2.2.2.1 ≤ (365 : Int)))) (K false)) (K false)) (K false)) (cond (o267.2.1 == (2 : Int)) (cond (o267.2.2.1 == (0 : Int)) (cond (o267.2.2.2.1 == (0 : Int)) (cond (decide (o267.2.2.2.2.1 ≥ (0 : Int))) (K (decide (o267.2.2.2.2.1 ≤ (365 : Int)))) (K false)) (K false)) (K false)) (cond (o267.2.1 == (3 : Int)) (cond (decide (o267.2.2.1 ≥ (1 : Int))) (cond (decide (o267.2.2.1 ≤ (12 : Int))) (cond (decide (o267.2.2.2.1 ≥ (1 : Int))) (cond (decide (o267.2.2.2.1 ≤ (5 : Int))) (cond (decide (o267.2.2.2.2.1 ≥ (0 : Int))) (K (decide (o267.2.2.2.2.1 ≤ (6 : Int)))) (K false)) (K false)) (K false)) (K false)) (K false)) (K false)))))
def gG n a0 a1 a2 a3 a4 := qK n a0 a1 a2 a3 a4 _ some
abbrev Cj : FS := ⟨[.a [.c, .n, .n, .n, .n]], [], [([.b], [])]⟩
def pM (n : Nat) : FSpec := Cj.sp (gG n)
theorem rM (n : Nat) : FSound Tryz.prog 107 (pM n) := fs2 (S := Cj) (b := qK n) Tryz.func107 rfl rfl [.tmp 2] (.s .a (.s (.s (.p (sW.x (pK n))) .a) .a)) (by (repeat intro _); unfold qK; simp only [aD]) (ai (Fs n) trivial)
def gU (n : Nat) (h0_0 : Str) (h0_1 : Int) (h0_2 : Bool) (h1_0 h1_1 h1_2 h1_3 h1_4 h2_0 h2_1 h2_2 h2_3 h2_4 : Int) (R : Type) (K : W7 → Option R) : Option R := (aH n (74 : Int) h0_0 h0_1 h0_2).bind fun o254 => (cond o254.1 ((ak n (1 : Int) (3 : Int) o254.2.1 o254.2.2.1 o254.2.2.2).bind fun o255 => (K (o255.2.1, o255.2.2.1, o255.2.2.2, h1_0, h1_1, h1_2, h1_3, h1_4, (1 : Int), h2_1, h2_2, o255.1, h2_4))) ((aH n (77 : Int) o254.2.1 o254.2.2.1 o254.2.2.2).bind fun o256 => (cond o256.1 ((ak n (1 : Int) (3 : Int) o256.2.1 o256.2.2.1 o256.2.2.2).bind fun o257 => ((aZ n (46 : Int) o257.2.1 o257.2.2.1 o257.2.2.2).bind fun o258 => ((ak n (1 : Int) (3 : Int) o258.1 o258.2.1 o258.2.2).bind fun o259 => ((aZ n (46 : Int) o259.2.1 o259.2.2.1 o259.2.2.2).bind fun o260 => ((ak n (1 : Int) (3 : Int) o260.1 o260.2.1 o260.2.2).bind fun o261 => (K (o261.2.1, o261.2.2.1, o261.2.2.2, h1_0, h1_1, h1_2, h1_3, h1_4, (3 : Int), o257.1, o259.1, o261.1, h2_4))))))) ((ak n (1 : Int) (3 : Int) o256.2.1 o256.2.2.1 o256.2.2.2).bind fun o262 => (K (o262.2.1, o262.2.2.1, o262.2.2.2, h1_0, h1_1, h1_2, h1_3, h1_4, (2 : Int), h2_1, h2_2, o262.1, h2_4))))))
def ji n h0_0 h0_1 h0_2 h1_0 h1_1 h1_2 h1_3 h1_4 h2_0 h2_1 h2_2 h2_3 h2_4 := gU n h0_0 h0_1 h0_2 h1_0 h1_1 h1_2 h1_3 h1_4 h2_0 h2_1 h2_2 h2_3 h2_4 _ some
abbrev lD : PS := ⟨[2], [(0, .q 0 0), (3, .q 2 0)], some [.c 156 [.s, .n, .b], .c 32 [.c, .n, .n, .n, .n], .c 32 [.c, .n, .n, .n, .n]], [⟨.normal, [0, 2, 3], [], [.c 156 [.s, .n, .b], .c 32 [.c, .n, .n, .n, .n], .c 32 [.c, .n, .n, .n, .n]], none⟩], none, none⟩
def gV (n : Nat) (h0_0 : Str) (h0_1 : Int) (h0_2 : Bool) (h1_0 h1_1 h1_2 h1_3 h1_4 h2_0 h2_1 h2_2 h2_3 h2_4 : Int) (R : Type) (K : W7 → Option R) : Option R := (aH n (47 : Int) h0_0 h0_1 h0_2).bind fun o264 => (cond o264.1 ((aL n (167 : Int) o264.2.1 o264.2.2.1 o264.2.2.2).bind fun o265 => (K (o265.2.1, o265.2.2.1, o265.2.2.2, h1_0, h1_1, h1_2, h1_3, h1_4, h2_0, h2_1, h2_2, h2_3, o265.1))) (K (o264.2.1, o264.2.2.1, o264.2.2.2, h1_0, h1_1, h1_2, h1_3, h1_4, h2_0, h2_1, h2_2, h2_3, h2_4)))
def fe n h0_0 h0_1 h0_2 h1_0 h1_1 h1_2 h1_3 h1_4 h2_0 h2_1 h2_2 h2_3 h2_4 := gV n h0_0 h0_1 h0_2 h1_0 h1_1 h1_2 h1_3 h1_4 h2_0 h2_1 h2_2 h2_3 h2_4 _ some
abbrev lF : PS := ⟨[2], [(0, .q 0 0), (3, .q 2 0)], some [.c 156 [.s, .n, .b], .c 32 [.c, .n, .n, .n, .n], .c 32 [.c, .n, .n, .n, .n]], [⟨.normal, [0, 2, 3], [], [.c 156 [.s, .n, .b], .c 32 [.c, .n, .n, .n, .n], .c 32 [.c, .n, .n, .n, .n]], none⟩], none, none⟩
theorem zX (n : Nat) : Snd ⟨Tryz.prog, 1, 51⟩ (lD.x (ji n)) (fb Tryz.f96 11) := kH (S := lD) (b := gU n) (.u (.s (.r [(1, .cl 131 (aQ n))]) (.s (.s .a (.r [(1, .cl 133 (aN n))])) (.s (.r [(1, .cl 131 (aQ n))]) (.s (.s .a (.s (.r [(1, .cl 133 (aN n))]) (.s (.r [(1, .cl 95 (dm n))]) (.s (.r [(1, .cl 133 (aN n))]) (.s (.r [(1, .cl 95 (dm n))]) (.r [(1, .cl 133 (aN n))])))))) (.s .a (.r [(1, .cl 133 (aN n))]))))))) (by (repeat intro _); unfold gU; simp only [aD]) (ai (aM n) (ai (aO n) (ai (aM n) (ai (aO n) (ai (dE n) (ai (aO n) (ai (dE n) (ai (aO n) (ai (aO n) trivial)))))))))
theorem zY (n : Nat) : Snd ⟨Tryz.prog, 1, 51⟩ (lF.x (fe n)) (fb Tryz.f96 23) := kH (S := lF) (b := gV n) (.s (.r [(1, .cl 131 (aQ n))]) (.s (.r [(1, .cl 93 (gT n))]) .a)) (by (repeat intro _); unfold gV; simp only [aD]) (ai (aM n) (ai (jL n) trivial))
def jF (n : Nat) (h0 : Str) (h1 : Int) (h2 : Bool) (R : Type) (K : (Int × Int × Int × Int × Int × Str × Int × Bool) → Option R) : Option R := (ji n h0 h1 h2 (0 : Int) (0 : Int) (0 : Int) (0 : Int) (0 : Int) (0 : Int) (0 : Int) (0 : Int) (0 : Int) (7200 : Int)).bind fun o263 => ((fe n o263.1 o263.2.1 o263.2.2.1 o263.2.2.2.1 o263.2.2.2.2.1 o263.2.2.2.2.2.1 o263.2.2.2.2.2.2.1 o263.2.2.2.2.2.2.2.1 o263.2.2.2.2.2.2.2.2.1 o263.2.2.2.2.2.2.2.2.2.1 o263.2.2.2.2.2.2.2.2.2.2.1 o263.2.2.2.2.2.2.2.2.2.2.2.1 o263.2.2.2.2.2.2.2.2.2.2.2.2).bind fun o266 => (cond o266.2.2.1 (K (o266.2.2.2.2.2.2.2.2.1, o266.2.2.2.2.2.2.2.2.2.1, o266.2.2.2.2.2.2.2.2.2.2.1, o266.2.2.2.2.2.2.2.2.2.2.2.1, o266.2.2.2.2.2.2.2.2.2.2.2.2, o266.1, o266.2.1, true)) ((gG n o266.2.2.2.2.2.2.2.2.1 o266.2.2.2.2.2.2.2.2.2.1 o266.2.2.2.2.2.2.2.2.2.2.1 o266.2.2.2.2.2.2.2.2.2.2.2.1 o266.2.2.2.2.2.2.2.2.2.2.2.2).bind fun o268 => (K (o266.2.2.2.2.2.2.2.2.1, o266.2.2.2.2.2.2.2.2.2.1, o266.2.2.2.2.2.2.2.2.2.2.1, o266.2.2.2.2.2.2.2.2.2.2.2.1, o266.2.2.2.2.2.2.2.2.2.2.2.2, o266.1, o266.2.1, !o268)))))
def fQ n h0 h1 h2 := jF n h0 h1 h2 _ some
abbrev vw : FS := ⟨[.q 0 0], [.c 156 [.s, .n, .b]], [([.a [.c, .n, .n, .n, .n]], [.c 156 [.s, .n, .b]])]⟩
def nH (n : Nat) : FSpec := vw.sp (fQ n)
theorem rZ (n : Nat) : FSound Tryz.prog 96 (nH n) := fs2 (S := vw) (b := jF n) Tryz.func96 rfl rfl [.cell 2 32 5 true] (.s .a (.s .a (.s (.p (lD.x (ji n))) (.s (.p (lF.x (fe n))) (.s (.r [(7, .cl 107 (pM n))]) .a))))) (by (repeat intro _); unfold jF; simp only [aD]) (ai (zX n) (ai (zY n) (ai (rM n) trivial)))
def qL (n : Nat) (a0 : Int) (R : Type) (K : Bool → Option R) : Option R := cond (decide (a0 ≥ (-89999 : Int))) (K (decide (a0 ≤ (89999 : Int)))) (K false)
def mq n a0 := qL n a0 _ some
abbrev Ck : FS := ⟨[.n], [], [([.b], [])]⟩
def uY (n : Nat) : FSpec := Ck.sp (mq n)
theorem xG (n : Nat) : FSound Tryz.prog 106 (uY n) := fs2 (S := Ck) (b := qL n) Tryz.func106 rfl rfl [.tmp 2] .a (by (repeat intro _); unfold qL; simp only [aD]) trivial
def kU (n : Nat) (h0_0 h0_1 : Str) (h0_2 h0_3 h0_4 h0_5 h0_6 h0_7 h0_8 h0_9 h0_10 h0_11 h0_12 h0_13 : Int) (R : Type) (K : W3 → Option R) : Option R := (fH n h0_0).bind fun o273 => (cond (!o273) (K (true, h0_0, h0_1, h0_2, h0_3, h0_4, h0_5, h0_6, h0_7, h0_8, h0_9, h0_10, h0_11, h0_12, h0_13)) ((mq n h0_2).bind fun o274 => (K (!o274, h0_0, h0_1, h0_2, h0_3, h0_4, h0_5, h0_6, h0_7, h0_8, h0_9, h0_10, h0_11, h0_12, h0_13))))
def mY n h0_0 h0_1 h0_2 h0_3 h0_4 h0_5 h0_6 h0_7 h0_8 h0_9 h0_10 h0_11 h0_12 h0_13 := kU n h0_0 h0_1 h0_2 h0_3 h0_4 h0_5 h0_6 h0_7 h0_8 h0_9 h0_10 h0_11 h0_12 h0_13 _ some
abbrev qm : PS := ⟨[], [(1, .q 0 0)], some [.c 34 [.s, .s, .n, .n, .c, .n, .n, .n, .n, .c, .n, .n, .n, .n]], [⟨.normal, [1], [(12, .b)], [.c 34 [.s, .s, .n, .n, .c, .n, .n, .n, .n, .c, .n, .n, .n, .n]], none⟩], none, none⟩
def kV (n : Nat) (h0_0 h0_1 : Str) (h0_2 h0_3 h0_4 h0_5 h0_6 h0_7 h0_8 h0_9 h0_10 h0_11 h0_12 h0_13 : Int) (R : Type) (K : W3 → Option R) : Option R := cond (h0_3 == (0 : Int)) (cond ((h0_4 == (0 : Int)) && ((h0_5 == (0 : Int)) && ((h0_6 == (0 : Int)) && ((h0_7 == (0 : Int)) && ((h0_8 == (0 : Int)) && true))))) (K (((h0_9 == (0 : Int)) && ((h0_10 == (0 : Int)) && ((h0_11 == (0 : Int)) && ((h0_12 == (0 : Int)) && ((h0_13 == (0 : Int)) && true))))), h0_0, h0_1, h0_2, h0_3, h0_4, h0_5, h0_6, h0_7, h0_8, h0_9, h0_10, h0_11, h0_12, h0_13)) (K (false, h0_0, h0_1, h0_2, h0_3, h0_4, h0_5, h0_6, h0_7, h0_8, h0_9, h0_10, h0_11, h0_12, h0_13))) (K (false, h0_0, h0_1, h0_2, h0_3, h0_4, h0_5, h0_6, h0_7, h0_8, h0_9, h0_10, h0_11, h0_12, h0_13))
def mZ n h0_0 h0_1 h0_2 h0_3 h0_4 h0_5 h0_6 h0_7 h0_8 h0_9 h0_10 h0_11 h0_12 h0_13 := kV n h0_0 h0_1 h0_2 h0_3 h0_4 h0_5 h0_6 h0_7 h0_8 h0_9 h0_10 h0_11 h0_12 h0_13 _ some
abbrev qo : PS := ⟨[], [(1, .q 0 0)], some [.c 34 [.s, .s, .n, .n, .c, .n, .n, .n, .n, .c, .n, .n, .n, .n]], [⟨.normal, [], [(2, .b)], [.c 34 [.s, .s, .n, .n, .c, .n, .n, .n, .n, .c, .n, .n, .n, .n]], none⟩], none, none⟩
theorem Dx (n : Nat) : Snd ⟨Tryz.prog, 0, 49⟩ (qm.x (mY n)) (fb Tryz.f69 9) := kH (S := qm) (b := kU n) (.r [(2, .cl 105 (jR n)), (7, .cl 106 (uY n))]) (by (repeat intro _); unfold kU; simp only [aD]) (ai (kT n) (ai (xG n) trivial))
theorem Dy (n : Nat) : Snd ⟨Tryz.prog, 0, 49⟩ (qo.x (mZ n)) (fb Tryz.f69 75) := kH (S := qo) (b := kV n) .a (by (repeat intro _); unfold kV; simp only [aD]) trivial
def oh (n : Nat) (a0 a1 : Str) (a2 a3 a4 a5 a6 a7 a8 a9 a10 a11 a12 a13 : Int) (R : Type) (K : Bool → Option R) : Option R := (mY n a0 a1 a2 a3 a4 a5 a6 a7 a8 a9 a10 a11 a12 a13).bind fun o275 => (cond o275.1 (K false) (cond (o275.2.2.1 == ([] : Str)) ((mZ n o275.2.1 o275.2.2.1 o275.2.2.2.1 o275.2.2.2.2.1 o275.2.2.2.2.2.1 o275.2.2.2.2.2.2.1 o275.2.2.2.2.2.2.2.1 o275.2.2.2.2.2.2.2.2.1 o275.2.2.2.2.2.2.2.2.2.1 o275.2.2.2.2.2.2.2.2.2.2.1 o275.2.2.2.2.2.2.2.2.2.2.2.1 o275.2.2.2.2.2.2.2.2.2.2.2.2.1 o275.2.2.2.2.2.2.2.2.2.2.2.2.2.1 o275.2.2.2.2.2.2.2.2.2.2.2.2.2.2).bind fun o276 => (K o276.1)) ((fH n o275.2.2.1).bind fun o277 => (cond o277 ((mq n o275.2.2.2.2.1).bind fun o278 => (cond o278 ((gG n o275.2.2.2.2.2.1 o275.2.2.2.2.2.2.1 o275.2.2.2.2.2.2.2.1 o275.2.2.2.2.2.2.2.2.1 o275.2.2.2.2.2.2.2.2.2.1).bind fun o279 => (cond o279 ((gG n o275.2.2.2.2.2.2.2.2.2.2.1 o275.2.2.2.2.2.2.2.2.2.2.2.1 o275.2.2.2.2.2.2.2.2.2.2.2.2.1 o275.2.2.2.2.2.2.2.2.2.2.2.2.2.1 o275.2.2.2.2.2.2.2.2.2.2.2.2.2.2).bind fun o280 => (K o280)) (K false))) (K false))) (K false)))))
def gX n a0 a1 a2 a3 a4 a5 a6 a7 a8 a9 a10 a11 a12 a13 := oh n a0 a1 a2 a3 a4 a5 a6 a7 a8 a9 a10 a11 a12 a13 _ some
abbrev zZ : FS := ⟨[.a [.s, .s, .n, .n, .c, .n, .n, .n, .n, .c, .n, .n, .n, .n]], [], [([.b], [])]⟩
def yS (n : Nat) : FSpec := zZ.sp (gX n)
theorem EM (n : Nat) : FSound Tryz.prog 69 (yS n) := fs2 (S := zZ) (b := oh n) Tryz.func69 rfl rfl [.tmp 2] (.s .a (.s (.s (.p (qm.x (mY n))) .a) (.s (.s .a (.s (.s (.p (qo.x (mZ n))) .a) .a)) (.s (.r [(2, .cl 105 (jR n)), (6, .cl 106 (uY n)), (11, .cl 107 (pM n)), (16, .cl 107 (pM n))]) .a)))) (by (repeat intro _); unfold oh; simp only [aD]) (ai (Dx n) (ai (Dy n) (ai (kT n) (ai (xG n) (ai (rM n) (ai (rM n) trivial))))))
def iq (n : Nat) (x0 h0_0 h0_1 : Str) (h0_2 h0_3 h0_4 h0_5 h0_6 h0_7 h0_8 h0_9 h0_10 h0_11 h0_12 h0_13 : Int) (h1_0 : Str) (h1_1 : Int) (h1_2 : Bool) (h2_0 h2_1 : Str) (h2_2 h2_3 h2_4 h2_5 h2_6 h2_7 h2_8 h2_9 h2_10 h2_11 h2_12 h2_13 : Int) (R : Type) (K : (Bool × Str × Str × Int × Int × Int × Int × Int × Int × Int × Int × Int × Int × Int × Int × Str × Int × Bool × Str × Str × Int × Int × Int × Int × Int × Int × Int × Int × Int × Int × Int × Int) → Option R) : Option R := cond (decide (h1_1 < (x0.length : Int))) (K (!h1_2, h0_0, h0_1, h0_2, h0_3, h0_4, h0_5, h0_6, h0_7, h0_8, h0_9, h0_10, h0_11, h0_12, h0_13, h1_0, h1_1, h1_2, h2_0, h2_1, h2_2, h2_3, h2_4, h2_5, h2_6, h2_7, h2_8, h2_9, h2_10, h2_11, h2_12, h2_13)) (K (false, h0_0, h0_1, h0_2, h0_3, h0_4, h0_5, h0_6, h0_7, h0_8, h0_9, h0_10, h0_11, h0_12, h0_13, h1_0, h1_1, h1_2, h2_0, h2_1, h2_2, h2_3, h2_4, h2_5, h2_6, h2_7, h2_8, h2_9, h2_10, h2_11, h2_12, h2_13))
def jA n x0 h0_0 h0_1 h0_2 h0_3 h0_4 h0_5 h0_6 h0_7 h0_8 h0_9 h0_10 h0_11 h0_12 h0_13 h1_0 h1_1 h1_2 h2_0 h2_1 h2_2 h2_3 h2_4 h2_5 h2_6 h2_7 h2_8 h2_9 h2_10 h2_11 h2_12 h2_13 := iq n x0 h0_0 h0_1 h0_2 h0_3 h0_4 h0_5 h0_6 h0_7 h0_8 h0_9 h0_10 h0_11 h0_12 h0_13 h1_0 h1_1 h1_2 h2_0 h2_1 h2_2 h2_3 h2_4 h2_5 h2_6 h2_7 h2_8 h2_9 h2_10 h2_11 h2_12 h2_13 _ some
abbrev qp : PS := ⟨[2, 5], [(0, .s), (4, .q 1 0)], some [.c 34 [.s, .s, .n, .n, .c, .n, .n, .n, .n, .c, .n, .n, .n, .n], .c 156 [.s, .n, .b], .c 34 [.s, .s, .n, .n, .c, .n, .n, .n, .n, .c, .n, .n, .n, .n]], [⟨.normal, [0, 2, 4, 5], [(33, .b)], [.c 34 [.s, .s, .n, .n, .c, .n, .n, .n, .n, .c, .n, .n, .n, .n], .c 156 [.s, .n, .b], .c 34 [.s, .s, .n, .n, .c, .n, .n, .n, .n, .c, .n, .n, .n, .n]], none⟩], none, none⟩
def kW (n : Nat) (h0_0 h0_1 : Str) (h0_2 h0_3 h0_4 h0_5 h0_6 h0_7 h0_8 h0_9 h0_10 h0_11 h0_12 h0_13 : Int) (h1_0 : Str) (h1_1 : Int) (h1_2 : Bool) (h2_0 h2_1 : Str) (h2_2 h2_3 h2_4 h2_5 h2_6 h2_7 h2_8 h2_9 h2_10 h2_11 h2_12 h2_13 : Int) (R : Type) (K : W8 → Option R) : Option R := (bN n h1_0 h1_1 h1_2).bind fun o250 => (cond (o250.1 != (44 : Int)) ((aL n (24 : Int) o250.2.1 o250.2.2.1 o250.2.2.2).bind fun o251 => (K (h0_0, h0_1, h0_2, h0_3, h0_4, h0_5, h0_6, h0_7, h0_8, h0_9, h0_10, h0_11, h0_12, h0_13, o251.2.1, o251.2.2.1, o251.2.2.2, h2_0, h2_1, h2_2, IntKind.i64.wrap (0 - o251.1), h2_4, h2_5, h2_6, h2_7, h2_8, h2_9, h2_10, h2_11, h2_12, h2_13))) (K (h0_0, h0_1, h0_2, h0_3, h0_4, h0_5, h0_6, h0_7, h0_8, h0_9, h0_10, h0_11, h0_12, h0_13, o250.2.1, o250.2.2.1, o250.2.2.2, h2_0, h2_1, h2_2, h2_3, h2_4, h2_5, h2_6, h2_7, h2_8, h2_9, h2_10, h2_11, h2_12, h2_13)))
def ng n h0_0 h0_1 h0_2 h0_3 h0_4 h0_5 h0_6 h0_7 h0_8 h0_9 h0_10 h0_11 h0_12 h0_13 h1_0 h1_1 h1_2 h2_0 h2_1 h2_2 h2_3 h2_4 h2_5 h2_6 h2_7 h2_8 h2_9 h2_10 h2_11 h2_12 h2_13 := kW n h0_0 h0_1 h0_2 h0_3 h0_4 h0_5 h0_6 h0_7 h0_8 h0_9 h0_10 h0_11 h0_12 h0_13 h1_0 h1_1 h1_2 h2_0 h2_1 h2_2 h2_3 h2_4 h2_5 h2_6 h2_7 h2_8 h2_9 h2_10 h2_11 h2_12 h2_13 _ some
abbrev qw : PS := ⟨[0, 2], [(4, .q 1 0), (5, .q 2 0)], some [.c 34 [.s, .s, .n, .n, .c, .n, .n, .n, .n, .c, .n, .n, .n, .n], .c 156 [.s, .n, .b], .c 34 [.s, .s, .n, .n, .c, .n, .n, .n, .n, .c, .n, .n, .n, .n]], [⟨.normal, [0, 2, 4, 5], [], [.c 34 [.s, .s, .n, .n, .c, .n, .n, .n, .n, .c, .n, .n, .n, .n], .c 156 [.s, .n, .b], .c 34 [.s, .s, .n, .n, .c, .n, .n, .n, .n, .c, .n, .n, .n, .n]], none⟩], none, none⟩
def iw (n : Nat) (x0 h0_0 h0_1 : Str) (h0_2 h0_3 h0_4 h0_5 h0_6 h0_7 h0_8 h0_9 h0_10 h0_11 h0_12 h0_13 : Int) (h1_0 : Str) (h1_1 : Int) (h1_2 : Bool) (h2_0 h2_1 : Str) (h2_2 h2_3 h2_4 h2_5 h2_6 h2_7 h2_8 h2_9 h2_10 h2_11 h2_12 h2_13 : Int) (R : Type) (K : W8 → Option R) : Option R := (jA n x0 h0_0 h0_1 h0_2 h0_3 h0_4 h0_5 h0_6 h0_7 h0_8 h0_9 h0_10 h0_11 h0_12 h0_13 h1_0 h1_1 h1_2 h2_0 h2_1 h2_2 h2_3 h2_4 h2_5 h2_6 h2_7 h2_8 h2_9 h2_10 h2_11 h2_12 h2_13).bind fun o248 => (cond o248.1 ((eZ n o248.2.2.2.2.2.2.2.2.2.2.2.2.2.2.2.1 o248.2.2.2.2.2.2.2.2.2.2.2.2.2.2.2.2.1 o248.2.2.2.2.2.2.2.2.2.2.2.2.2.2.2.2.2.1).bind fun o249 => ((ng n o248.2.1 o248.2.2.1 o248.2.2.2.1 o248.2.2.2.2.1 o248.2.2.2.2.2.1 o248.2.2.2.2.2.2.1 o248.2.2.2.2.2.2.2.1 o248.2.2.2.2.2.2.2.2.1 o248.2.2.2.2.2.2.2.2.2.1 o248.2.2.2.2.2.2.2.2.2.2.1 o248.2.2.2.2.2.2.2.2.2.2.2.1 o248.2.2.2.2.2.2.2.2.2.2.2.2.1 o248.2.2.2.2.2.2.2.2.2.2.2.2.2.1 o248.2.2.2.2.2.2.2.2.2.2.2.2.2.2.1 o249.2.1 o249.2.2.1 o249.2.2.2 o248.2.2.2.2.2.2.2.2.2.2.2.2.2.2.2.2.2.2.1 o249.1 o248.2.2.2.2.2.2.2.2.2.2.2.2.2.2.2.2.2.2.2.2.1 (IntKind.i64.wrap (o248.2.2.2.2.2.2.2.2.2.2.2.2.2.2.2.2.2.2.2.2.1 + (3600 : Int))) o248.2.2.2.2.2.2.2.2.2.2.2.2.2.2.2.2.2.2.2.2.2.2.1 o248.2.2.2.2.2.2.2.2.2.2.2.2.2.2.2.2.2.2.2.2.2.2.2.1 o248.2.2.2.2.2.2.2.2.2.2.2.2.2.2.2.2.2.2.2.2.2.2.2.2.1 o248.2.2.2.2.2.2.2.2.2.2.2.2.2.2.2.2.2.2.2.2.2.2.2.2.2.1 o248.2.2.2.2.2.2.2.2.2.2.2.2.2.2.2.2.2.2.2.2.2.2.2.2.2.2.1 o248.2.2.2.2.2.2.2.2.2.2.2.2.2.2.2.2.2.2.2.2.2.2.2.2.2.2.2.1 o248.2.2.2.2.2.2.2.2.2.2.2.2.2.2.2.2.2.2.2.2.2.2.2.2.2.2.2.2.1 o248.2.2.2.2.2.2.2.2.2.2.2.2.2.2.2.2.2.2.2.2.2.2.2.2.2.2.2.2.2.1 o248.2.2.2.2.2.2.2.2.2.2.2.2.2.2.2.2.2.2.2.2.2.2.2.2.2.2.2.2.2.2.1 o248.2.2.2.2.2.2.2.2.2.2.2.2.2.2.2.2.2.2.2.2.2.2.2.2.2.2.2.2.2.2.2).bind fun o252 => ((aZ n (44 : Int) o252.2.2.2.2.2.2.2.2.2.2.2.2.2.2.1 o252.2.2.2.2.2.2.2.2.2.2.2.2.2.2.2.1 o252.2.2.2.2.2.2.2.2.2.2.2.2.2.2.2.2.1).bind fun o253 => ((fQ n o253.1 o253.2.1 o253.2.2).bind fun o269 => ((aZ n (44 : Int) o269.2.2.2.2.2.1 o269.2.2.2.2.2.2.1 o269.2.2.2.2.2.2.2).bind fun o270 => ((fQ n o270.1 o270.2.1 o270.2.2).bind fun o271 => (K (o252.1, o252.2.1, o252.2.2.1, o252.2.2.2.1, o252.2.2.2.2.1, o252.2.2.2.2.2.1, o252.2.2.2.2.2.2.1, o252.2.2.2.2.2.2.2.1, o252.2.2.2.2.2.2.2.2.1, o252.2.2.2.2.2.2.2.2.2.1, o252.2.2.2.2.2.2.2.2.2.2.1, o252.2.2.2.2.2.2.2.2.2.2.2.1, o252.2.2.2.2.2.2.2.2.2.2.2.2.1, o252.2.2.2.2.2.2.2.2.2.2.2.2.2.1, o271.2.2.2.2.2.1, o271.2.2.2.2.2.2.1, o271.2.2.2.2.2.2.2, o252.2.2.2.2.2.2.2.2.2.2.2.2.2.2.2.2.2.1, o252.2.2.2.2.2.2.2.2.2.2.2.2.2.2.2.2.2.2.1, o252.2.2.2.2.2.2.2.2.2.2.2.2.2.2.2.2.2.2.2.1, o252.2.2.2.2.2.2.2.2.2.2.2.2.2.2.2.2.2.2.2.2.1, o269.1, o269.2.1, o269.2.2.1, o269.2.2.2.1, o269.2.2.2.2.1, o271.1, o271.2.1, o271.2.2.1, o271.2.2.2.1, o271.2.2.2.2.1)))))))) (K (o248.2.1, o248.2.2.1, o248.2.2.2.1, o248.2.2.2.2.1, o248.2.2.2.2.2.1, o248.2.2.2.2.2.2.1, o248.2.2.2.2.2.2.2.1, o248.2.2.2.2.2.2.2.2.1, o248.2.2.2.2.2.2.2.2.2.1, o248.2.2.2.2.2.2.2.2.2.2.1, o248.2.2.2.2.2.2.2.2.2.2.2.1, o248.2.2.2.2.2.2.2.2.2.2.2.2.1, o248.2.2.2.2.2.2.2.2.2.2.2.2.2.1, o248.2.2.2.2.2.2.2.2.2.2.2.2.2.2.1, o248.2.2.2.2.2.2.2.2.2.2.2.2.2.2.2.1, o248.2.2.2.2.2.2.2.2.2.2.2.2.2.2.2.2.1, o248.2.2.2.2.2.2.2.2.2.2.2.2.2.2.2.2.2.1, o248.2.2.2.2.2.2.2.2.2.2.2.2.2.2.2.2.2.2.1, o248.2.2.2.2.2.2.2.2.2.2.2.2.2.2.2.2.2.2.2.1, o248.2.2.2.2.2.2.2.2.2.2.2.2.2.2.2.2.2.2.2.2.1, o248.2.2.2.2.2.2.2.2.2.2.2.2.2.2.2.2.2.2.2.2.2.1, o248.2.2.2.2.2.2.2.2.2.2.2.2.2.2.2.2.2.2.2.2.2.2.1, o248.2.2.2.2.2.2.2.2.2.2.2.2.2.2.2.2.2.2.2.2.2.2.2.1, o248.2.2.2.2.2.2.2.2.2.2.2.2.2.2.2.2.2.2.2.2.2.2.2.2.1, o248.2.2.2.2.2.2.2.2.2.2.2.2.2.2.2.2.2.2.2.2.2.2.2.2.2.1, o248.2.2.2.2.2.2.2.2.2.2.2.2.2.2.2.2.2.2.2.2.2.2.2.2.2.2.1, o248.2.2.2.2.2.2.2.2.2.2.2.2.2.2.2.2.2.2.2.2.2.2.2.2.2.2.2.1, o248.2.2.2.2.2.2.2.2.2.2.2.2.2.2.2.2.2.2.2.2.2.2.2.2.2.2.2.2.1, o248.2.2.2.2.2.2.2.2.2.2.2.2.2.2.2.2.2.2.2.2.2.2.2.2.2.2.2.2.2.1, o248.2.2.2.2.2.2.2.2.2.2.2.2.2.2.2.2.2.2.2.2.2.2.2.2.2.2.2.2.2.2.1, o248.2.2.2.2.2.2.2.2.2.2.2.2.2.2.2.2.2.2.2.2.2.2.2.2.2.2.2.2.2.2.2)))
def jB n x0 h0_0 h0_1 h0_2 h0_3 h0_4 h0_5 h0_6 h0_7 h0_8 h0_9 h0_10 h0_11 h0_12 h0_13 h1_0 h1_1 h1_2 h2_0 h2_1 h2_2 h2_3 h2_4 h2_5 h2_6 h2_7 h2_8 h2_9 h2_10 h2_11 h2_12 h2_13 := iw n x0 h0_0 h0_1 h0_2 h0_3 h0_4 h0_5 h0_6 h0_7 h0_8 h0_9 h0_10 h0_11 h0_12 h0_13 h1_0 h1_1 h1_2 h2_0 h2_1 h2_2 h2_3 h2_4 h2_5 h2_6 h2_7 h2_8 h2_9 h2_10 h2_11 h2_12 h2_13 _ some
abbrev qx : PS := ⟨[2], [(0, .s), (4, .q 1 0), (5, .q 2 0)], some [.c 34 [.s, .s, .n, .n, .c, .n, .n, .n, .n, .c, .n, .n, .n, .n], .c 156 [.s, .n, .b], .c 34 [.s, .s, .n, .n, .c, .n, .n, .n, .n, .c, .n, .n, .n, .n]], [⟨.normal, [0, 2, 4, 5], [], [.c 34 [.s, .s, .n, .n, .c, .n, .n, .n, .n, .c, .n, .n, .n, .n], .c 156 [.s, .n, .b], .c 34 [.s, .s, .n, .n, .c, .n, .n, .n, .n, .c, .n, .n, .n, .n]], none⟩], none, none⟩
theorem Dz (n : Nat) : Snd ⟨Tryz.prog, 0, 78⟩ (qp.x (jA n)) (fb Tryz.f56 159) := kH (S := qp) (b := iq n) .a (by (repeat intro _); unfold iq; simp only [aD]) trivial
theorem DC (n : Nat) : Snd ⟨Tryz.prog, 0, 78⟩ (qw.x (ng n)) (fb Tryz.f56 2911) := kH (S := qw) (b := kW n) (.s (.r [(1, .cl 94 (eD n))]) (.s (.r [(1, .cl 93 (gT n))]) .a)) (by (repeat intro _); unfold kW; simp only [aD]) (ai (fK n) (ai (jL n) trivial))
theorem DD (n : Nat) : Snd ⟨Tryz.prog, 0, 78⟩ (qx.x (jB n)) (fb Tryz.f56 95) := kH (S := qx) (b := iw n) (.s (.p (qp.x (jA n))) (.s (.s (.r [(1, .cl 92 (mh n))]) (.s .a (.s (.p (qw.x (ng n))) (.s (.r [(1, .cl 95 (dm n))]) (.s (.r [(1, .cl 96 (nH n))]) (.s (.r [(1, .cl 95 (dm n))]) (.r [(1, .cl 96 (nH n))]))))))) .a)) (by (repeat intro _); unfold iw; simp only [aD]) (ai (Dz n) (ai (qJ n) (ai (DC n) (ai (dE n) (ai (rZ n) (ai (dE n) (ai (rZ n) trivial)))))))
def ol (n : Nat) (a0 : Str) (R : Type) (K : (Str × Str × Int × Int × Int × Int × Int × Int × Int × Int × Int × Int × Int × Int × Bool) → Option R) : Option R := cond (decide ((a0.length : Int) > (100 : Int))) (K (([] : Str), ([] : Str), (0 : Int), (0 : Int), (0 : Int), (0 : Int), (0 : Int), (0 : Int), (0 : Int), (0 : Int), (0 : Int), (0 : Int), (0 : Int), (0 : Int), false)) ((eZ n a0 (0 : Int) false).bind fun o231 => ((aL n (24 : Int) o231.2.1 o231.2.2.1 o231.2.2.2).bind fun o247 => ((jB n a0 ([] : Str) ([] : Str) (0 : Int) (0 : Int) (0 : Int) (0 : Int) (0 : Int) (0 : Int) (0 : Int) (0 : Int) (0 : Int) (0 : Int) (0 : Int) (0 : Int) o247.2.1 o247.2.2.1 o247.2.2.2 o231.1 ([] : Str) (IntKind.i64.wrap (0 - o247.1)) (0 : Int) (0 : Int) (0 : Int) (0 : Int) (0 : Int) (0 : Int) (0 : Int) (0 : Int) (0 : Int) (0 : Int) (0 : Int)).bind fun o272 => (cond o272.2.2.2.2.2.2.2.2.2.2.2.2.2.2.2.2.1 (K (([] : Str), ([] : Str), (0 : Int), (0 : Int), (0 : Int), (0 : Int), (0 : Int), (0 : Int), (0 : Int), (0 : Int), (0 : Int), (0 : Int), (0 : Int), (0 : Int), false)) (cond (o272.2.2.2.2.2.2.2.2.2.2.2.2.2.2.2.1 != (a0.length : Int)) (K (([] : Str), ([] : Str), (0 : Int), (0 : Int), (0 : Int), (0 : Int), (0 : Int), (0 : Int), (0 : Int), (0 : Int), (0 : Int), (0 : Int), (0 : Int), (0 : Int), false)) ((gX n o272.2.2.2.2.2.2.2.2.2.2.2.2.2.2.2.2.2.1 o272.2.2.2.2.2.2.2.2.2.2.2.2.2.2.2.2.2.2.1 o272.2.2.2.2.2.2.2.2.2.2.2.2.2.2.2.2.2.2.2.1 o272.2.2.2.2.2.2.2.2.2.2.2.2.2.2.2.2.2.2.2.2.1 o272.2.2.2.2.2.2.2.2.2.2.2.2.2.2.2.2.2.2.2.2.2.1 o272.2.2.2.2.2.2.2.2.2.2.2.2.2.2.2.2.2.2.2.2.2.2.1 o272.2.2.2.2.2.2.2.2.2.2.2.2.2.2.2.2.2.2.2.2.2.2.2.1 o272.2.2.2.2.2.2.2.2.2.2.2.2.2.2.2.2.2.2.2.2.2.2.2.2.1 o272.2.2.2.2.2.2.2.2.2.2.2.2.2.2.2.2.2.2.2.2.2.2.2.2.2.1 o272.2.2.2.2.2.2.2.2.2.2.2.2.2.2.2.2.2.2.2.2.2.2.2.2.2.2.1 o272.2.2.2.2.2.2.2.2.2.2.2.2.2.2.2.2.2.2.2.2.2.2.2.2.2.2.2.1 o272.2.2.2.2.2.2.2.2.2.2.2.2.2.2.2.2.2.2.2.2.2.2.2.2.2.2.2.2.1 o272.2.2.2.2.2.2.2.2.2.2.2.2.2.2.2.2.2.2.2.2.2.2.2.2.2.2.2.2.2.1 o272.2.2.2.2.2.2.2.2.2.2.2.2.2.2.2.2.2.2.2.2.2.2.2.2.2.2.2.2.2.2).bind fun o281 => (cond (!o281) (K (([] : Str), ([] : Str), (0 : Int), (0 : Int), (0 : Int), (0 : Int), (0 : Int), (0 : Int), (0 : Int), (0 : Int), (0 : Int), (0 : Int), (0 : Int), (0 : Int), false)) (K (o272.2.2.2.2.2.2.2.2.2.2.2.2.2.2.2.2.2.1, o272.2.2.2.2.2.2.2.2.2.2.2.2.2.2.2.2.2.2.1, o272.2.2.2.2.2.2.2.2.2.2.2.2.2.2.2.2.2.2.2.1, o272.2.2.2.2.2.2.2.2.2.2.2.2.2.2.2.2.2.2.2.2.1, o272.2.2.2.2.2.2.2.2.2.2.2.2.2.2.2.2.2.2.2.2.2.1, o272.2.2.2.2.2.2.2.2.2.2.2.2.2.2.2.2.2.2.2.2.2.2.1, o272.2.2.2.2.2.2.2.2.2.2.2.2.2.2.2.2.2.2.2.2.2.2.2.1, o272.2.2.2.2.2.2.2.2.2.2.2.2.2.2.2.2.2.2.2.2.2.2.2.2.1, o272.2.2.2.2.2.2.2.2.2.2.2.2.2.2.2.2.2.2.2.2.2.2.2.2.2.1, o272.2.2.2.2.2.2.2.2.2.2.2.2.2.2.2.2.2.2.2.2.2.2.2.2.2.2.1, o272.2.2.2.2.2.2.2.2.2.2.2.2.2.2.2.2.2.2.2.2.2.2.2.2.2.2.2.1, o272.2.2.2.2.2.2.2.2.2.2.2.2.2.2.2.2.2.2.2.2.2.2.2.2.2.2.2.2.1, o272.2.2.2.2.2.2.2.2.2.2.2.2.2.2.2.2.2.2.2.2.2.2.2.2.2.2.2.2.2.1, o272.2.2.2.2.2.2.2.2.2.2.2.2.2.2.2.2.2.2.2.2.2.2.2.2.2.2.2.2.2.2, true)))))))))
def om n a0 := ol n a0 _ some
abbrev z8 : FS := ⟨[.s], [], [([.a [.s, .s, .n, .n, .c, .n, .n, .n, .n, .c, .n, .n, .n, .n], .b], [])]⟩
def yT (n : Nat) : FSpec := z8.sp (om n)
theorem EN (n : Nat) : FSound Tryz.prog 56 (yT n) := fs2 (S := z8) (b := ol n) Tryz.func56 rfl rfl [.cell 2 34 14 true, .tmp 3] (.s .a (.s .a (.s .a (.s (.r [(1, .cl 92 (mh n))]) (.s (.r [(1, .cl 93 (gT n))]) (.s (.p (qx.x (jB n))) (.s (.s (.r [(15, .cl 69 (yS n))]) .a) .a))))))) (by (repeat intro _); unfold ol; simp only [aD]) (ai (qJ n) (ai (jL n) (ai (DD n) (ai (EM n) trivial))))
def mr (n : Nat) (a0 : List (List AV)) (a1 a2 : List Int) (a3 : Str) (R : Type) (K : ((List (List AV)) × (List Int) × (List Int) × Str × Str × Str × Int × Int × Int × Int × Int × Int × Int × Int × Int × Int × Int × Int × Bool × Int) → Option R) : Option R := (jQ n a0 a1 a2 a3).bind fun o205 => (cond (!o205) (K (([] : List (List AV)), ([] : List Int), ([] : List Int), ([] : Str), ([] : Str), ([] : Str), (0 : Int), (0 : Int), (0 : Int), (0 : Int), (0 : Int), (0 : Int), (0 : Int), (0 : Int), (0 : Int), (0 : Int), (0 : Int), (0 : Int), false, (2 : Int))) (cond (a3 == ([] : Str)) (K (a0, a1, a2, a3, ([] : Str), ([] : Str), (0 : Int), (0 : Int), (0 : Int), (0 : Int), (0 : Int), (0 : Int), (0 : Int), (0 : Int), (0 : Int), (0 : Int), (0 : Int), (0 : Int), false, (0 : Int))) ((om n a3).bind fun o282 => (cond (!o282.2.2.2.2.2.2.2.2.2.2.2.2.2.2) (K (([] : List (List AV)), ([] : List Int), ([] : List Int), ([] : Str), ([] : Str), ([] : Str), (0 : Int), (0 : Int), (0 : Int), (0 : Int), (0 : Int), (0 : Int), (0 : Int), (0 : Int), (0 : Int), (0 : Int), (0 : Int), (0 : Int), false, (70 : Int))) (K (a0, a1, a2, a3, o282.1, o282.2.1, o282.2.2.1, o282.2.2.2.1, o282.2.2.2.2.1, o282.2.2.2.2.2.1, o282.2.2.2.2.2.2.1, o282.2.2.2.2.2.2.2.1, o282.2.2.2.2.2.2.2.2.1, o282.2.2.2.2.2.2.2.2.2.1, o282.2.2.2.2.2.2.2.2.2.2.1, o282.2.2.2.2.2.2.2.2.2.2.2.1, o282.2.2.2.2.2.2.2.2.2.2.2.2.1, o282.2.2.2.2.2.2.2.2.2.2.2.2.2.1, true, (0 : Int)))))))
def eF n a0 a1 a2 a3 := mr n a0 a1 a2 a3 _ some
abbrev Cm : FS := ⟨[.a [.L false 3, .l .i64, .l .i64, .s]], [], [([.a [.L false 3, .l .i64, .l .i64, .s, .s, .s, .n, .n, .c, .n, .n, .n, .n, .c, .n, .n, .n, .n, .b, .x (.bool false)], .n], [])]⟩
def AU (n : Nat) : FSpec := Cm.sp (eF n)
theorem F6 (n : Nat) : FSound Tryz.prog 28 (AU n) := fs2 (S := Cm) (b := mr n) Tryz.func28 rfl rfl [.cell 2 36 20 true, .tmp 3] (.s .a (.s (.s (.r [(1, .cl 55 (yQ n))]) (.s (.s (.r [(1, .tk [9])]) .a) .a)) (.s .a (.s (.r [(2, .cl 56 (yT n)), (5, .tk [15])]) (.s (.s .a (.s (.s (.r [(1, .tk [23])]) .a) .a)) .a))))) (by (repeat intro _); unfold mr; simp only [aD]) (ai (EJ n) (ai (EN n) trivial))
def lX (n : Nat) (h0_0 : List (List AV)) (h0_1 h0_2 : List Int) (h0_3 : Str) (h1_0 : List (List AV)) (h1_1 h1_2 : List Int) (h1_3 h1_4 h1_5 : Str) (h1_6 h1_7 h1_8 h1_9 h1_10 h1_11 h1_12 h1_13 h1_14 h1_15 h1_16 h1_17 : Int) (h1_18 h1_19 : Bool) (R : Type) (K : (Bool) → Option R) : Option R := cond (decide ((h0_0.length : Int) > (40 : Int))) (K true) (K (decide ((h0_1.length : Int) > (300 : Int))))
def oo n h0_0 h0_1 h0_2 h0_3 h1_0 h1_1 h1_2 h1_3 h1_4 h1_5 h1_6 h1_7 h1_8 h1_9 h1_10 h1_11 h1_12 h1_13 h1_14 h1_15 h1_16 h1_17 h1_18 h1_19 := lX n h0_0 h0_1 h0_2 h0_3 h1_0 h1_1 h1_2 h1_3 h1_4 h1_5 h1_6 h1_7 h1_8 h1_9 h1_10 h1_11 h1_12 h1_13 h1_14 h1_15 h1_16 h1_17 h1_18 h1_19 _ some
abbrev rO : PS := ⟨[5], [(2, .q 0 0)], some [.c 26 [.L false 3, .l .i64, .l .i64, .s], .c 36 [.L true 3, .I true .i64, .I true .i64, .s, .s, .s, .n, .n, .c, .n, .n, .n, .n, .c, .n, .n, .n, .n, .b, .b]], [⟨.normal, [2, 5], [(22, .b)], [.k 0, .k 1], none⟩], none, none⟩
theorem EO (n : Nat) : Snd ⟨Tryz.prog, 0, 43⟩ (rO.x (oo n)) (fb Tryz.f9 19) := kH (S := rO) (b := lX n) .a (by (repeat intro _); unfold lX; simp only [aD]) trivial
def pO (n : Nat) (a0 : List (List AV)) (a1 a2 : List Int) (a3 : Str) (a4 : Bool) (R : Type) (K : (((List (List AV)) × (List Int) × (List Int) × Str × Str × Str × Int × Int × Int × Int × Int × Int × Int × Int × Int × Int × Int × Int × Bool × Bool × Bool) ⊕ ((List (List AV)) × (List Int) × (List Int) × Str × Str × Str × Int × Int × Int × Int × Int × Int × Int × Int × Int × Int × Int × Int × Bool × Bool × (List (List AV)) × (List Int) × (List Int) × Str × Str × Str × Int × Int × Int × Int × Int × Int × Int × Int × Int × Int × Int × Int) ⊕ ((List (List AV)) × (List Int) × (List Int) × Str × Str × Str × Int × Int × Int × Int × Int × Int × Int × Int × Int × Int × Int × Int × Bool × Bool × (List (List AV)) × (List Int) × (List Int) × Str)) → Option R) : Option R := cond a4 (K (Sum.inl (([] : List (List AV)), ([] : List Int), ([] : List Int), ([] : Str), ([] : Str), ([] : Str), (0 : Int), (0 : Int), (0 : Int), (0 : Int), (0 : Int), (0 : Int), (0 : Int), (0 : Int), (0 : Int), (0 : Int), (0 : Int), (0 : Int), false, true, true))) ((oo n a0 a1 a2 a3 ([] : List (List AV)) ([] : List Int) ([] : List Int) ([] : Str) ([] : Str) ([] : Str) (0 : Int) (0 : Int) (0 : Int) (0 : Int) (0 : Int) (0 : Int) (0 : Int) (0 : Int) (0 : Int) (0 : Int) (0 : Int) (0 : Int) false false).bind fun o1 => (cond o1 (K (Sum.inl (([] : List (List AV)), ([] : List Int), ([] : List Int), ([] : Str), ([] : Str), ([] : Str), (0 : Int), (0 : Int), (0 : Int), (0 : Int), (0 : Int), (0 : Int), (0 : Int), (0 : Int), (0 : Int), (0 : Int), (0 : Int), (0 : Int), false, false, false))) ((Bn n a0 a1 a2 a3).bind fun o129 => (Sum.elim (fun o130 => (gM n a0 a1 a2 a3).bind fun o143 => ((eF n o143.1 o143.2.1 o143.2.2.1 o143.2.2.2).bind fun o283 => (cond (o130 == (0 : Int)) (K (Sum.inl (o283.1, o283.2.1, o283.2.2.1, o283.2.2.2.1, o283.2.2.2.2.1, o283.2.2.2.2.2.1, o283.2.2.2.2.2.2.1, o283.2.2.2.2.2.2.2.1, o283.2.2.2.2.2.2.2.2.1, o283.2.2.2.2.2.2.2.2.2.1, o283.2.2.2.2.2.2.2.2.2.2.1, o283.2.2.2.2.2.2.2.2.2.2.2.1, o283.2.2.2.2.2.2.2.2.2.2.2.2.1, o283.2.2.2.2.2.2.2.2.2.2.2.2.2.1, o283.2.2.2.2.2.2.2.2.2.2.2.2.2.2.1, o283.2.2.2.2.2.2.2.2.2.2.2.2.2.2.2.1, o283.2.2.2.2.2.2.2.2.2.2.2.2.2.2.2.2.1, o283.2.2.2.2.2.2.2.2.2.2.2.2.2.2.2.2.2.1, o283.2.2.2.2.2.2.2.2.2.2.2.2.2.2.2.2.2.2.1, false, o283.2.2.2.2.2.2.2.2.2.2.2.2.2.2.2.2.2.2.2 == (0 : Int)))) (K (Sum.inl (o283.1, o283.2.1, o283.2.2.1, o283.2.2.2.1, o283.2.2.2.2.1, o283.2.2.2.2.2.1, o283.2.2.2.2.2.2.1, o283.2.2.2.2.2.2.2.1, o283.2.2.2.2.2.2.2.2.1, o283.2.2.2.2.2.2.2.2.2.1, o283.2.2.2.2.2.2.2.2.2.2.1, o283.2.2.2.2.2.2.2.2.2.2.2.1, o283.2.2.2.2.2.2.2.2.2.2.2.2.1, o283.2.2.2.2.2.2.2.2.2.2.2.2.2.1, o283.2.2.2.2.2.2.2.2.2.2.2.2.2.2.1, o283.2.2.2.2.2.2.2.2.2.2.2.2.2.2.2.1, o283.2.2.2.2.2.2.2.2.2.2.2.2.2.2.2.2.1, o283.2.2.2.2.2.2.2.2.2.2.2.2.2.2.2.2.2.1, o283.2.2.2.2.2.2.2.2.2.2.2.2.2.2.2.2.2.2.1, false, false)))))) (fun o131 => Sum.elim (fun o284 => (gM n a0 a1 a2 a3).bind fun o286 => ((eF n o286.1 o286.2.1 o286.2.2.1 o286.2.2.2).bind fun o287 => (K (Sum.inr (Sum.inl (o287.1, o287.2.1, o287.2.2.1, o287.2.2.2.1, o287.2.2.2.2.1, o287.2.2.2.2.2.1, o287.2.2.2.2.2.2.1, o287.2.2.2.2.2.2.2.1, o287.2.2.2.2.2.2.2.2.1, o287.2.2.2.2.2.2.2.2.2.1, o287.2.2.2.2.2.2.2.2.2.2.1, o287.2.2.2.2.2.2.2.2.2.2.2.1, o287.2.2.2.2.2.2.2.2.2.2.2.2.1, o287.2.2.2.2.2.2.2.2.2.2.2.2.2.1, o287.2.2.2.2.2.2.2.2.2.2.2.2.2.2.1, o287.2.2.2.2.2.2.2.2.2.2.2.2.2.2.2.1, o287.2.2.2.2.2.2.2.2.2.2.2.2.2.2.2.2.1, o287.2.2.2.2.2.2.2.2.2.2.2.2.2.2.2.2.2.1, o287.2.2.2.2.2.2.2.2.2.2.2.2.2.2.2.2.2.2.1, o287.2.2.2.2.2.2.2.2.2.2.2.2.2.2.2.2.2.2.2 == (0 : Int), o284.1, o284.2.1, o284.2.2.1, o284.2.2.2.1, o284.2.2.2.2.1, o284.2.2.2.2.2.1, o284.2.2.2.2.2.2.1, o284.2.2.2.2.2.2.2.1, o284.2.2.2.2.2.2.2.2.1, o284.2.2.2.2.2.2.2.2.2.1, o284.2.2.2.2.2.2.2.2.2.2.1, o284.2.2.2.2.2.2.2.2.2.2.2.1, o284.2.2.2.2.2.2.2.2.2.2.2.2.1, o284.2.2.2.2.2.2.2.2.2.2.2.2.2.1, o284.2.2.2.2.2.2.2.2.2.2.2.2.2.2.1, o284.2.2.2.2.2.2.2.2.2.2.2.2.2.2.2.1, o284.2.2.2.2.2.2.2.2.2.2.2.2.2.2.2.2.1, o284.2.2.2.2.2.2.2.2.2.2.2.2.2.2.2.2.2)))))) (fun o285 => (gM n a0 a1 a2 a3).bind fun o288 => ((eF n o288.1 o288.2.1 o288.2.2.1 o288.2.2.2).bind fun o289 => (K (Sum.inr (Sum.inr (o289.1, o289.2.1, o289.2.2.1, o289.2.2.2.1, o289.2.2.2.2.1, o289.2.2.2.2.2.1, o289.2.2.2.2.2.2.1, o289.2.2.2.2.2.2.2.1, o289.2.2.2.2.2.2.2.2.1, o289.2.2.2.2.2.2.2.2.2.1, o289.2.2.2.2.2.2.2.2.2.2.1, o289.2.2.2.2.2.2.2.2.2.2.2.1, o289.2.2.2.2.2.2.2.2.2.2.2.2.1, o289.2.2.2.2.2.2.2.2.2.2.2.2.2.1, o289.2.2.2.2.2.2.2.2.2.2.2.2.2.2.1, o289.2.2.2.2.2.2.2.2.2.2.2.2.2.2.2.1, o289.2.2.2.2.2.2.2.2.2.2.2.2.2.2.2.2.1, o289.2.2.2.2.2.2.2.2.2.2.2.2.2.2.2.2.2.1, o289.2.2.2.2.2.2.2.2.2.2.2.2.2.2.2.2.2.2.1, o289.2.2.2.2.2.2.2.2.2.2.2.2.2.2.2.2.2.2.2 == (0 : Int), o285.1, o285.2.1, o285.2.2.1, o285.2.2.2)))))) o131) o129))))
def fI n a0 a1 a2 a3 a4 := pO n a0 a1 a2 a3 a4 _ some
abbrev AY : FS := ⟨[.a [.L false 3, .l .i64, .l .i64, .s], .b], [], [([.x (.ptr none), .a [.L false 3, .l .i64, .l .i64, .s, .s, .s, .n, .n, .c, .n, .n, .n, .n, .c, .n, .n, .n, .n, .b, .b], .b], []), ([.q 0 0, .a [.L false 3, .l .i64, .l .i64, .s, .s, .s, .n, .n, .c, .n, .n, .n, .n, .c, .n, .n, .n, .n, .b, .x (.bool false)], .b], [.c 82 [.L false 3, .l .i64, .l .i64, .s, .q 1 0], .c 87 [.s, .s, .n, .n, .c, .n, .n, .n, .n, .c, .n, .n, .n, .n]]), ([.q 0 0, .a [.L false 3, .l .i64, .l .i64, .s, .s, .s, .n, .n, .c, .n, .n, .n, .n, .c, .n, .n, .n, .n, .b, .x (.bool false)], .b], [.c 82 [.L false 3, .l .i64, .l .i64, .s, .x (.ptr none)]])]⟩
def AZ (n : Nat) : FSpec := AY.sp (fI n)
theorem Hm (n : Nat) : FSound Tryz.prog 9 (AZ n) := fs2 (S := AY) (b := pO n) Tryz.func9 rfl rfl [.tmp 4, .cell 5 36 20 true, .tmp 6] (.s .a (.s (.s .a (.s (.s (.r [(2, .tk [12])]) .a) .a)) (.s (.s (.p (rO.x (oo n))) (.s (.s (.r [(2, .tk [23])]) .a) .a)) (.s (.r [(1, .cl 27 (IZ n)), (4, .tk [24])]) (.s (.r [(1, .cl 29 (yO n)), (2, .cl 28 (AU n)), (5, .tk [29])]) (.s (.d [] [(0, .part [2, 3]), (1, .part [4]), (8, .part [2, 3]), (9, .part [1])]) .a)))))) (by (repeat intro _); unfold pO; simp only [aD]) (ai (EO n) (ai (I1 n) (ai (EI n) (ai (F6 n) trivial))))
def Aa (n : Nat) : FSpec := Yk 2 (AZ n)
theorem Fu (n : Nat) : FSound Tryz.prog 9 (Aa n) := Nf (Hm n)
def DF (n : Nat) (a0 a1 : Int) (R : Type) (K : Int → Option R) : Option R := cond (a1 == 0) none (cond (decide ((Int.tmod a0 a1) < (0 : Int))) (cond (a1 == 0) none (K (IntKind.i64.wrap ((IntKind.i64.wrap (Int.tdiv a0 a1)) - (1 : Int))))) (cond (a1 == 0) none (K (IntKind.i64.wrap (Int.tdiv a0 a1)))))
def oq n a0 a1 := DF n a0 a1 _ some
abbrev LC : FS := ⟨[.n, .n], [], [([.n], [])]⟩
def rP (n : Nat) : FSpec := LC.sp (oq n)
theorem oK (n : Nat) : FSound Tryz.prog 39 (rP n) := fs2 (S := LC) (b := DF n) Tryz.func39 rfl rfl [.tmp 4] .a (by (repeat intro _); unfold DF; simp only [aD]) trivial
def ul (n : Nat) (a0 : Int) (R : Type) (K : Unit → Option R) : Option R := K ()
def eX n a0 := ul n a0 _ some
abbrev yD : FS := ⟨[.x (.ptr none), .n], [], [([.x (.int .i64 (0 : Int))], [])]⟩
def kE (n : Nat) : FSpec := yD.sp (eX n)
theorem jV (n : Nat) : FSound Tryz.prog 12 (kE n) := fs2 (S := yD) (b := ul n) Tryz.func12 rfl rfl [.tmp 4] (.s .a (.s .a (.s .a (.s .a (.s (.s (.p FW) (.s (.s (.d [] [(0, .no), (3, .no), (5, .no), (6, .no)]) .a) .a)) (.s (.d [] [(0, .no), (5, .no), (6, .no), (10, .no), (11, .no), (15, .no)]) .a)))))) (by (repeat intro _); unfold ul; simp only [aD]) (ai (wN (c := ⟨Tryz.prog, 0, 52⟩) (cd := (Tryz.f12.body.getD .skip).a2.a2.a2.a2.a1.a1)) trivial)
def DI (n : Nat) (a0 : Int) (R : Type) (K : Int → Option R) : Option R := K (Int.fdiv (IntKind.u64.wrap a0) (2 ^ 63))
def Ab n a0 := DI n a0 _ some
abbrev LF : FS := ⟨[.n], [], [([.i .u64], [])]⟩
def F7 (n : Nat) : FSpec := LF.sp (Ab n)
theorem Gy (n : Nat) : FSound Tryz.prog 75 (F7 n) := fs2 (S := LF) (b := DI n) Tryz.func75 rfl rfl [.tmp 2] .a (by (repeat intro _); unfold DI; simp only [aD]) trivial
def xH (n : Nat) (x0 x1 : Int) (R : Type) (K : (Bool) → Option R) : Option R := cond (x1 == (0 : Int)) (K true) (cond (x1 == (-1 : Int)) (K (x0 == (-9223372036854775808 : Int))) (K false))
def Cn n x0 x1 := xH n x0 x1 _ some
abbrev F8 : PS := ⟨[], [(0, .n), (1, .n)], none, [⟨.normal, [0, 1], [(16, .b)], [], none⟩], none, none⟩
def xI (n : Nat) (x1 x5 : Int) (R : Type) (K : (Bool) → Option R) : Option R := cond (x5 != (0 : Int)) ((Ab n x5).bind fun o296 => ((Ab n x1).bind fun o297 => (K (o296 != o297)))) (K false)
def Co n x1 x5 := xI n x1 x5 _ some
abbrev F9 : PS := ⟨[4], [(1, .n), (5, .n)], none, [⟨.normal, [1, 4, 5], [(31, .b)], [], none⟩], none, none⟩
theorem Nu (n : Nat) : Snd ⟨Tryz.prog, 0, 39⟩ (F8.x (Cn n)) (fb Tryz.f40 9) := kH (S := F8) (b := xH n) .a (by (repeat intro _); unfold xH; simp only [aD]) trivial
theorem Nv (n : Nat) : Snd ⟨Tryz.prog, 0, 39⟩ (F9.x (Co n)) (fb Tryz.f40 39) := kH (S := F9) (b := xI n) (.r [(4, .cl 75 (F7 n)), (6, .cl 75 (F7 n))]) (by (repeat intro _); unfold xI; simp only [aD]) (ai (Gy n) (ai (Gy n) trivial))
def EP (n : Nat) (a0 a1 : Int) (R : Type) (K : (Int × Int × Bool) → Option R) : Option R := (Cn n a0 a1).bind fun o295 => (cond o295 (K ((0 : Int), (0 : Int), false)) (cond (a1 == 0) none (cond (a1 == 0) none ((Co n a1 (Int.tmod a0 a1)).bind fun o298 => (cond o298 (K (IntKind.i64.wrap ((IntKind.i64.wrap (Int.tdiv a0 a1)) - (1 : Int)), IntKind.i64.wrap ((Int.tmod a0 a1) + a1), true)) (K (IntKind.i64.wrap (Int.tdiv a0 a1), Int.tmod a0 a1, true)))))))
def yE n a0 a1 := EP n a0 a1 _ some
abbrev OP : FS := ⟨[.n, .n], [], [([.n, .n, .b], [])]⟩
def I4 (n : Nat) : FSpec := OP.sp (yE n)
theorem I5 (n : Nat) : FSound Tryz.prog 40 (I4 n) := fs2 (S := OP) (b := EP n) Tryz.func40 rfl rfl [.tmp 4, .tmp 5, .tmp 6] (.s .a (.s (.s (.p (F8.x (Cn n))) .a) (.s .a (.s (.s (.p (F9.x (Co n))) .a) .a)))) (by (repeat intro _); unfold EP; simp only [aD]) (ai (Nu n) (ai (Nv n) trivial))
def Ac (n : Nat) (a0 : Int) (R : Type) (K : Int → Option R) : Option R := K (IntKind.i64.wrap (Int.tdiv (IntKind.i64.wrap ((IntKind.i64.wrap ((153 : Int) * (Int.tmod (IntKind.i64.wrap (a0 + (9 : Int))) (12 : Int)))) + (2 : Int))) (5 : Int)))
def EQ n a0 := Ac n a0 _ some
abbrev I6 : FS := ⟨[.n], [], [([.n], [])]⟩
def Ie (n : Nat) : FSpec := I6.sp (EQ n)
theorem KG (n : Nat) : FSound Tryz.prog 110 (Ie n) := fs2 (S := I6) (b := Ac n) Tryz.func110 rfl rfl [.tmp 2] .a (by (repeat intro _); unfold Ac; simp only [aD]) trivial
def yh (n : Nat) (x3 h0_0 h0_1 h0_2 : Int) (R : Type) (K : (Int × Int × Int × Int) → Option R) : Option R := cond (decide (h0_1 ≤ (2 : Int))) (K (IntKind.i64.wrap (x3 - (1 : Int)), h0_0, h0_1, h0_2)) (K (x3, h0_0, h0_1, h0_2))
def BO n x3 h0_0 h0_1 h0_2 := yh n x3 h0_0 h0_1 h0_2 _ some
abbrev CW : PS := ⟨[], [(1, .q 0 0), (3, .n)], some [.c 45 [.n, .n, .n]], [⟨.normal, [1], [(3, .n)], [.c 45 [.n, .n, .n]], none⟩], none, none⟩
theorem LG (n : Nat) : Snd ⟨Tryz.prog, 0, 37⟩ (CW.x (BO n)) (fb Tryz.f76 11) := kH (S := CW) (b := yh n) .a (by (repeat intro _); unfold yh; simp only [aD]) trivial
def DJ (n : Nat) (a0 a1 a2 : Int) (R : Type) (K : Int → Option R) : Option R := (BO n a0 a0 a1 a2).bind fun o300 => ((EQ n o300.2.2.1).bind fun o301 => (K (IntKind.i64.wrap ((IntKind.i64.wrap ((IntKind.i64.wrap ((IntKind.i64.wrap ((IntKind.i64.wrap ((IntKind.i64.wrap ((IntKind.i64.wrap (Int.tdiv o300.1 (400 : Int))) * (146097 : Int))) + (IntKind.i64.wrap ((IntKind.i64.wrap ((IntKind.i64.wrap ((Int.tmod o300.1 (400 : Int)) * (365 : Int))) + (IntKind.i64.wrap (Int.tdiv (Int.tmod o300.1 (400 : Int)) (4 : Int))))) - (IntKind.i64.wrap (Int.tdiv (Int.tmod o300.1 (400 : Int)) (100 : Int))))))) + o301)) + o300.2.2.2)) - (1 : Int))) - (719468 : Int)))))
def um n a0 a1 a2 := DJ n a0 a1 a2 _ some
abbrev LH : FS := ⟨[.a [.n, .n, .n]], [], [([.n], [])]⟩
def xJ (n : Nat) : FSpec := LH.sp (um n)
theorem wQ (n : Nat) : FSound Tryz.prog 76 (xJ n) := fs2 (S := LH) (b := DJ n) Tryz.func76 rfl rfl [.tmp 2] (.s .a (.s .a (.s (.p (CW.x (BO n))) (.s .a (.s (.d [(7, .cl 110 (Ie n))] [(5, .peek [0] [0]), (6, .peek [0] [0]), (7, .part []), (9, .peek [0] [0]), (10, .peek [0] [0])]) .a))))) (by (repeat intro _); unfold DJ; simp only [aD]) (ai (LG n) (ai (KG n) trivial))
def uS (n : Nat) (x0 : Int) (R : Type) (K : (Bool) → Option R) : Option R := (um n (1 : Int) (1 : Int) (1 : Int)).bind fun o302 => (cond (decide (x0 < o302)) (K true) ((um n (9999 : Int) (12 : Int) (31 : Int)).bind fun o303 => (K (decide (x0 > o303)))))
def yU n x0 := uS n x0 _ some
abbrev Ga : PS := ⟨[2], [(0, .n)], none, [⟨.normal, [0, 2], [(18, .b)], [], none⟩], none, none⟩
theorem Nw (n : Nat) : Snd ⟨Tryz.prog, 0, 74⟩ (Ga.x (yU n)) (fb Tryz.f41 9) := kH (S := Ga) (b := uS n) (.r [(2, .cl 76 (xJ n)), (7, .cl 76 (xJ n))]) (by (repeat intro _); unfold uS; simp only [aD]) (ai (wQ n) (ai (wQ n) trivial))
def Bo (n : Nat) (a0 : Int) (R : Type) (K : (Int × Int × Int × Int) → Option R) : Option R := (yU n a0).bind fun o304 => (cond o304 (K ((0 : Int), (0 : Int), (0 : Int), (6 : Int))) (cond (decide ((IntKind.i64.wrap ((Int.tmod (IntKind.i64.wrap ((IntKind.i64.wrap (Int.tdiv (IntKind.i64.wrap ((IntKind.i64.wrap ((5 : Int) * (IntKind.i64.wrap ((Int.tmod (IntKind.i64.wrap (a0 + (719468 : Int))) (146097 : Int)) - (IntKind.i64.wrap ((IntKind.i64.wrap ((IntKind.i64.wrap ((365 : Int) * (IntKind.i64.wrap (Int.tdiv (IntKind.i64.wrap ((IntKind.i64.wrap ((IntKind.i64.wrap ((Int.tmod (IntKind.i64.wrap (a0 + (719468 : Int))) (146097 : Int)) - (IntKind.i64.wrap (Int.tdiv (Int.tmod (IntKind.i64.wrap (a0 + (719468 : Int))) (146097 : Int)) (1460 : Int))))) + (IntKind.i64.wrap (Int.tdiv (Int.tmod (IntKind.i64.wrap (a0 + (719468 : Int))) (146097 : Int)) (36524 : Int))))) - (IntKind.i64.wrap (Int.tdiv (Int.tmod (IntKind.i64.wrap (a0 + (719468 : Int))) (146097 : Int)) (146096 : Int))))) (365 : Int))))) + (IntKind.i64.wrap (Int.tdiv (IntKind.i64.wrap (Int.tdiv (IntKind.i64.wrap ((IntKind.i64.wrap ((IntKind.i64.wrap ((Int.tmod (IntKind.i64.wrap (a0 + (719468 : Int))) (146097 : Int)) - (IntKind.i64.wrap (Int.tdiv (Int.tmod (IntKind.i64.wrap (a0 + (719468 : Int))) (146097 : Int)) (1460 : Int))))) + (IntKind.i64.wrap (Int.tdiv (Int.tmod (IntKind.i64.wrap (a0 + (719468 : Int))) (146097 : Int)) (36524 : Int))))) - (IntKind.i64.wrap (Int.tdiv (Int.tmod (IntKind.i64.wrap (a0 + (719468 : Int))) (146097 : Int)) (146096 : Int))))) (365 : Int))) (4 : Int))))) - (IntKind.i64.wrap (Int.tdiv (IntKind.i64.wrap (Int.tdiv (IntKind.i64.wrap ((IntKind.i64.wrap ((IntKind.i64.wrap ((Int.tmod (IntKind.i64.wrap (a0 + (719468 : Int))) (146097 : Int)) - (IntKind.i64.wrap (Int.tdiv (Int.tmod (IntKind.i64.wrap (a0 + (719468 : Int))) (146097 : Int)) (1460 : Int))))) + (IntKind.i64.wrap (Int.tdiv (Int.tmod (IntKind.i64.wrap (a0 + (719468 : Int))) (146097 : Int)) (36524 : Int))))) - (IntKind.i64.wrap (Int.tdiv (Int.tmod (IntKind.i64.wrap (a0 + (719468 : Int))) (146097 : Int)) (146096 : Int))))) (365 : Int))) (100 : Int))))))))) + (2 : Int))) (153 : Int))) + (2 : Int))) (12 : Int)) + (1 : Int))) ≤ (2 : Int))) (K (IntKind.i64.wrap ((IntKind.i64.wrap ((IntKind.i64.wrap ((IntKind.i64.wrap (Int.tdiv (IntKind.i64.wrap (a0 + (719468 : Int))) (146097 : Int))) * (400 : Int))) + (IntKind.i64.wrap (Int.tdiv (IntKind.i64.wrap ((IntKind.i64.wrap ((IntKind.i64.wrap ((Int.tmod (IntKind.i64.wrap (a0 + (719468 : Int))) (146097 : Int)) - (IntKind.i64.wrap (Int.tdiv (Int.tmod (IntKind.i64.wrap (a0 + (719468 : Int))) (146097 : Int)) (1460 : Int))))) + (IntKind.i64.wrap (Int.tdiv (Int.tmod (IntKind.i64.wrap (a0 + (719468 : Int))) (146097 : Int)) (36524 : Int))))) - (IntKind.i64.wrap (Int.tdiv (Int.tmod (IntKind.i64.wrap (a0 + (719468 : Int))) (146097 : Int)) (146096 : Int))))) (365 : Int))))) + (1 : Int)), IntKind.i64.wrap ((Int.tmod (IntKind.i64.wrap ((IntKind.i64.wrap (Int.tdiv (IntKind.i64.wrap ((IntKind.i64.wrap ((5 : Int) * (IntKind.i64.wrap ((Int.tmod (IntKind.i64.wrap (a0 + (719468 : Int))) (146097 : Int)) - (IntKind.i64.wrap ((IntKind.i64.wrap ((IntKind.i64.wrap ((365 : Int) * (IntKind.i64.wrap (Int.tdiv (IntKind.i64.wrap ((IntKind.i64.wrap ((IntKind.i64.wrap ((Int.tmod (IntKind.i64.wrap (a0 + (719468 : Int))) (146097 : Int)) - (IntKind.i64.wrap (Int.tdiv (Int.tmod (IntKind.i64.wrap (a0 + (719468 : Int))) (146097 : Int)) (1460 : Int))))) + (IntKind.i64.wrap (Int.tdiv (Int.tmod (IntKind.i64.wrap (a0 + (719468 : Int))) (146097 : Int)) (36524 : Int))))) - (IntKind.i64.wrap (Int.tdiv (Int.tmod (IntKind.i64.wrap (a0 + (719468 : Int))) (146097 : Int)) (146096 : Int))))) (365 : Int))))) + (IntKind.i64.wrap (Int.tdiv (IntKind.i64.wrap (Int.tdiv (IntKind.i64.wrap ((IntKind.i64.wrap ((IntKind.i64.wrap ((Int.tmod (IntKind.i64.wrap (a0 + (719468 : Int))) (146097 : Int)) - (IntKind.i64.wrap (Int.tdiv (Int.tmod (IntKind.i64.wrap (a0 + (719468 : Int))) (146097 : Int)) (1460 : Int))))) + (IntKind.i64.wrap (Int.tdiv (Int.tmod (IntKind.i64.wrap (a0 + (719468 : Int))) (146097 : Int)) (36524 : Int))))) - (IntKind.i64.wrap (Int.tdiv (Int.tmod (IntKind.i64.wrap (a0 + (719468 : Int))) (146097 : Int)) (146096 : Int))))) (365 : Int))) (4 : Int))))) - (IntKind.i64.wrap (Int.tdiv (IntKind.i64.wrap (Int.tdiv (IntKind.i64.wrap ((IntKind.i64.wrap ((IntKind.i64.wrap ((Int.tmod (IntKind.i64.wrap (a0 + (719468 : Int))) (146097 : Int)) - (IntKind.i64.wrap (Int.tdiv (Int.tmod (IntKind.i64.wrap (a0 + (719468 : Int))) (146097 : Int)) (1460 : Int))))) + (IntKind.i64.wrap (Int.tdiv (Int.tmod (IntKind.i64.wrap (a0 + (719468 : Int))) (146097 : Int)) (36524 : Int))))) - (IntKind.i64.wrap (Int.tdiv (Int.tmod (IntKind.i64.wrap (a0 + (719468 : Int))) (146097 : Int)) (146096 : Int))))) (365 : Int))) (100 : Int))))))))) + (2 : Int))) (153 : Int))) + (2 : Int))) (12 : Int)) + (1 : Int)), IntKind.i64.wrap ((IntKind.i64.wrap ((IntKind.i64.wrap ((Int.tmod (IntKind.i64.wrap (a0 + (719468 : Int))) (146097 : Int)) - (IntKind.i64.wrap ((IntKind.i64.wrap ((IntKind.i64.wrap ((365 : Int) * (IntKind.i64.wrap (Int.tdiv (IntKind.i64.wrap ((IntKind.i64.wrap ((IntKind.i64.wrap ((Int.tmod (IntKind.i64.wrap (a0 + (719468 : Int))) (146097 : Int)) - (IntKind.i64.wrap (Int.tdiv (Int.tmod (IntKind.i64.wrap (a0 + (719468 : Int))) (146097 : Int)) (1460 : Int))))) + (IntKind.i64.wrap (Int.tdiv (Int.tmod (IntKind.i64.wrap (a0 + (719468 : Int))) (146097 : Int)) (36524 : Int))))) - (IntKind.i64.wrap (Int.tdiv (Int.tmod (IntKind.i64.wrap (a0 + (719468 : Int))) (146097 : Int)) (146096 : Int))))) (365 : Int))))) + (IntKind.i64.wrap (Int.tdiv (IntKind.i64.wrap (Int.tdiv (IntKind.i64.wrap ((IntKind.i64.wrap ((IntKind.i64.wrap ((Int.tmod (IntKind.i64.wrap (a0 + (719468 : Int))) (146097 : Int)) - (IntKind.i64.wrap (Int.tdiv (Int.tmod (IntKind.i64.wrap (a0 + (719468 : Int))) (146097 : Int)) (1460 : Int))))) + (IntKind.i64.wrap (Int.tdiv (Int.tmod (IntKind.i64.wrap (a0 + (719468 : Int))) (146097 : Int)) (36524 : Int))))) - (IntKind.i64.wrap (Int.tdiv (Int.tmod (IntKind.i64.wrap (a0 + (719468 : Int))) (146097 : Int)) (146096 : Int))))) (365 : Int))) (4 : Int))))) - (IntKind.i64.wrap (Int.tdiv (IntKind.i64.wrap (Int.tdiv (IntKind.i64.wrap ((IntKind.i64.wrap ((IntKind.i64.wrap ((Int.tmod (IntKind.i64.wrap (a0 + (719468 : Int))) (146097 : Int)) - (IntKind.i64.wrap (Int.tdiv (Int.tmod (IntKind.i64.wrap (a0 + (719468 : Int))) (146097 : Int)) (1460 : Int))))) + (IntKind.i64.wrap (Int.tdiv (Int.tmod (IntKind.i64.wrap (a0 + (719468 : Int))) (146097 : Int)) (36524 : Int))))) - (IntKind.i64.wrap (Int.tdiv (Int.tmod (IntKind.i64.wrap (a0 + (719468 : Int))) (146097 : Int)) (146096 : Int))))) (365 : Int))) (100 : Int))))))) - (IntKind.i64.wrap (Int.tdiv (IntKind.i64.wrap ((IntKind.i64.wrap ((153 : Int) * (IntKind.i64.wrap (Int.tdiv (IntKind.i64.wrap ((IntKind.i64.wrap ((5 : Int) * (IntKind.i64.wrap ((Int.tmod (IntKind.i64.wrap (a0 + (719468 : Int))) (146097 : Int)) - (IntKind.i64.wrap ((IntKind.i64.wrap ((IntKind.i64.wrap ((365 : Int) * (IntKind.i64.wrap (Int.tdiv (IntKind.i64.wrap ((IntKind.i64.wrap ((IntKind.i64.wrap ((Int.tmod (IntKind.i64.wrap (a0 + (719468 : Int))) (146097 : Int)) - (IntKind.i64.wrap (Int.tdiv (Int.tmod (IntKind.i64.wrap (a0 + (719468 : Int))) (146097 : Int)) (1460 : Int))))) + (IntKind.i64.wrap (Int.tdiv (Int.tmod (IntKind.i64.wrap (a0 + (719468 : Int))) (146097 : Int)) (36524 : Int))))) - (IntKind.i64.wrap (Int.tdiv (Int.tmod (IntKind.i64.wrap (a0 + (719468 : Int))) (146097 : Int)) (146096 : Int))))) (365 : Int))))) + (IntKind.i64.wrap (Int.tdiv (IntKind.i64.wrap (Int.tdiv (IntKind.i64.wrap ((IntKind.i64.wrap ((IntKind.i64.wrap ((Int.tmod (IntKind.i64.wrap (a0 + (719468 : Int))) (146097 : Int)) - (IntKind.i64.wrap (Int.tdiv (Int.tmod (IntKind.i64.wrap (a0 + (719468 : Int))) (146097 : Int)) (1460 : Int))))) + (IntKind.i64.wrap (Int.tdiv (Int.tmod (IntKind.i64.wrap (a0 + (719468 : Int))) (146097 : Int)) (36524 : Int))))) - (IntKind.i64.wrap (Int.tdiv (Int.tmod (IntKind.i64.wrap (a0 + (719468 : Int))) (146097 : Int)) (146096 : Int))))) (365 : Int))) (4 : Int))))) - (IntKind.i64.wrap (Int.tdiv (IntKind.i64.wrap (Int.tdiv (IntKind.i64.wrap ((IntKind.i64.wrap ((IntKind.i64.wrap ((Int.tmod (IntKind.i64.wrap (a0 + (719468 : Int))) (146097 : Int)) - (IntKind.i64.wrap (Int.tdiv (Int.tmod (IntKind.i64.wrap (a0 + (719468 : Int))) (146097 : Int)) (1460 : Int))))) + (IntKind.i64.wrap (Int.tdiv (Int.tmod (IntKind.i64.wrap (a0 + (719468 : Int))) (146097 : Int)) (36524 : Int))))) - (IntKind.i64.wrap (Int.tdiv (Int.tmod (IntKind.i64.wrap (a0 + (719468 : Int))) (146097 : Int)) (146096 : Int))))) (365 : Int))) (100 : Int))))))))) + (2 : Int))) (153 : Int))))) + (2 : Int))) (5 : Int))))) + (1 : Int)), (0 : Int))) (K (IntKind.i64.wrap ((IntKind.i64.wrap ((IntKind.i64.wrap (Int.tdiv (IntKind.i64.wrap (a0 + (719468 : Int))) (146097 : Int))) * (400 : Int))) + (IntKind.i64.wrap (Int.tdiv (IntKind.i64.wrap ((IntKind.i64.wrap ((IntKind.i64.wrap ((Int.tmod (IntKind.i64.wrap (a0 + (719468 : Int))) (146097 : Int)) - (IntKind.i64.wrap (Int.tdiv (Int.tmod (IntKind.i64.wrap (a0 + (719468 : Int))) (146097 : Int)) (1460 : Int))))) + (IntKind.i64.wrap (Int.tdiv (Int.tmod (IntKind.i64.wrap (a0 + (719468 : Int))) (146097 : Int)) (36524 : Int))))) - (IntKind.i64.wrap (Int.tdiv (Int.tmod (IntKind.i64.wrap (a0 + (719468 : Int))) (146097 : Int)) (146096 : Int))))) (365 : Int)))), IntKind.i64.wrap ((Int.tmod (IntKind.i64.wrap ((IntKind.i64.wrap (Int.tdiv (IntKind.i64.wrap ((IntKind.i64.wrap ((5 : Int) * (IntKind.i64.wrap ((Int.tmod (IntKind.i64.wrap (a0 + (719468 : Int))) (146097 : Int)) - (IntKind.i64.wrap ((IntKind.i64.wrap ((IntKind.i64.wrap ((365 : Int) * (IntKind.i64.wrap (Int.tdiv (IntKind.i64.wrap ((IntKind.i64.wrap ((IntKind.i64.wrap ((Int.tmod (IntKind.i64.wrap (a0 + (719468 : Int))) (146097 : Int)) - (IntKind.i64.wrap (Int.tdiv (Int.tmod (IntKind.i64.wrap (a0 + (719468 : Int))) (146097 : Int)) (1460 : Int))))) + (IntKind.i64.wrap (Int.tdiv (Int.tmod (IntKind.i64.wrap (a0 + (719468 : Int))) (146097 : Int)) (36524 : Int))))) - (IntKind.i64.wrap (Int.tdiv (Int.tmod (IntKind.i64.wrap (a0 + (719468 : Int))) (146097 : Int)) (146096 : Int))))) (365 : Int))))) + (IntKind.i64.wrap (Int.tdiv (IntKind.i64.wrap (Int.tdiv (IntKind.i64.wrap ((IntKind.i64.wrap ((IntKind.i64.wrap ((Int.tmod (IntKind.i64.wrap (a0 + (719468 : Int))) (146097 : Int)) - (IntKind.i64.wrap (Int.tdiv (Int.tmod (IntKind.i64.wrap (a0 + (719468 : Int))) (146097 : Int)) (1460 : Int))))) + (IntKind.i64.wrap (Int.tdiv (Int.tmod (IntKind.i64.wrap (a0 + (719468 : Int))) (146097 : Int)) (36524 : Int))))) - (IntKind.i64.wrap (Int.tdiv (Int.tmod (IntKind.i64.wrap (a0 + (719468 : Int))) (146097 : Int)) (146096 : Int))))) (365 : Int))) (4 : Int))))) - (IntKind.i64.wrap (Int.tdiv (IntKind.i64.wrap (Int.tdiv (IntKind.i64.wrap ((IntKind.i64.wrap ((IntKind.i64.wrap ((Int.tmod (IntKind.i64.wrap (a0 + (719468 : Int))) (146097 : Int)) - (IntKind.i64.wrap (Int.tdiv (Int.tmod (IntKind.i64.wrap (a0 + (719468 : Int))) (146097 : Int)) (1460 : Int))))) + (IntKind.i64.wrap (Int.tdiv (Int.tmod (IntKind.i64.wrap (a0 + (719468 : Int))) (146097 : Int)) (36524 : Int))))) - (IntKind.i64.wrap (Int.tdiv (Int.tmod (IntKind.i64.wrap (a0 + (719468 : Int))) (146097 : Int)) (146096 : Int))))) (365 : Int))) (100 : Int))))))))) + (2 : Int))) (153 : Int))) + (2 : Int))) (12 : Int)) + (1 : Int)), IntKind.i64.wrap ((IntKind.i64.wrap ((IntKind.i64.wrap ((Int.tmod (IntKind.i64.wrap (a0 + (719468 : Int))) (146097 : Int)) - (IntKind.i64.wrap ((IntKind.i64.wrap ((IntKind.i64.wrap ((365 : Int) * (IntKind.i64.wrap (Int.tdiv (IntKind.i64.wrap ((IntKind.i64.wrap ((IntKind.i64.wrap ((Int.tmod (IntKind.i64.wrap (a0 + (719468 : Int))) (146097 : Int)) - (IntKind.i64.wrap (Int.tdiv (Int.tmod (IntKind.i64.wrap (a0 + (719468 : Int))) (146097 : Int)) (1460 : Int))))) + (IntKind.i64.wrap (Int.tdiv (Int.tmod (IntKind.i64.wrap (a0 + (719468 : Int))) (146097 : Int)) (36524 : Int))))) - (IntKind.i64.wrap (Int.tdiv (Int.tmod (IntKind.i64.wrap (a0 + (719468 : Int))) (146097 : Int)) (146096 : Int))))) (365 : Int))))) + (IntKind.i64.wrap (Int.tdiv (IntKind.i64.wrap (Int.tdiv (IntKind.i64.wrap ((IntKind.i64.wrap ((IntKind.i64.wrap ((Int.tmod (IntKind.i64.wrap (a0 + (719468 : Int))) (146097 : Int)) - (IntKind.i64.wrap (Int.tdiv (Int.tmod (IntKind.i64.wrap (a0 + (719468 : Int))) (146097 : Int)) (1460 : Int))))) + (IntKind.i64.wrap (Int.tdiv (Int.tmod (IntKind.i64.wrap (a0 + (719468 : Int))) (146097 : Int)) (36524 : Int))))) - (IntKind.i64.wrap (Int.tdiv (Int.tmod (IntKind.i64.wrap (a0 + (719468 : Int))) (146097 : Int)) (146096 : Int))))) (365 : Int))) (4 : Int))))) - (IntKind.i64.wrap (Int.tdiv (IntKind.i64.wrap (Int.tdiv (IntKind.i64.wrap ((IntKind.i64.wrap ((IntKind.i64.wrap ((Int.tmod (IntKind.i64.wrap (a0 + (719468 : Int))) (146097 : Int)) - (IntKind.i64.wrap (Int.tdiv (Int.tmod (IntKind.i64.wrap (a0 + (719468 : Int))) (146097 : Int)) (1460 : Int))))) + (IntKind.i64.wrap (Int.tdiv (Int.tmod (IntKind.i64.wrap (a0 + (719468 : Int))) (146097 : Int)) (36524 : Int))))) - (IntKind.i64.wrap (Int.tdiv (Int.tmod (IntKind.i64.wrap (a0 + (719468 : Int))) (146097 : Int)) (146096 : Int))))) (365 : Int))) (100 : Int))))))) - (IntKind.i64.wrap (Int.tdiv (IntKind.i64.wrap ((IntKind.i64.wrap ((153 : Int) * (IntKind.i64.wrap (Int.tdiv (IntKind.i64.wrap ((IntKind.i64.wrap ((5 : Int) * (IntKind.i64.wrap ((Int.tmod (IntKind.i64.wrap (a0 + (719468 : Int))) (146097 : Int)) - (IntKind.i64.wrap ((IntKind.i64.wrap ((IntKind.i64.wrap ((365 : Int) * (IntKind.i64.wrap (Int.tdiv (IntKind.i64.wrap ((IntKind.i64.wrap ((IntKind.i64.wrap ((Int.tmod (IntKind.i64.wrap (a0 + (719468 : Int))) (146097 : Int)) - (IntKind.i64.wrap (Int.tdiv (Int.tmod (IntKind.i64.wrap (a0 + (719468 : Int))) (146097 : Int)) (1460 : Int))))) + (IntKind.i64.wrap (Int.tdiv (Int.tmod (IntKind.i64.wrap (a0 + (719468 : Int))) (146097 : Int)) (36524 : Int))))) - (IntKind.i64.wrap (Int.tdiv (Int.tmod (IntKind.i64.wrap (a0 + (719468 : Int))) (146097 : Int)) (146096 : Int))))) (365 : Int))))) + (IntKind.i64.wrap (Int.tdiv (IntKind.i64.wrap (Int.tdiv (IntKind.i64.wrap ((IntKind.i64.wrap ((IntKind.i64.wrap ((Int.tmod (IntKind.i64.wrap (a0 + (719468 : Int))) (146097 : Int)) - (IntKind.i64.wrap (Int.tdiv (Int.tmod (IntKind.i64.wrap (a0 + (719468 : Int))) (146097 : Int)) (1460 : Int))))) + (IntKind.i64.wrap (Int.tdiv (Int.tmod (IntKind.i64.wrap (a0 + (719468 : Int))) (146097 : Int)) (36524 : Int))))) - (IntKind.i64.wrap (Int.tdiv (Int.tmod (IntKind.i64.wrap (a0 + (719468 : Int))) (146097 : Int)) (146096 : Int))))) (365 : Int))) (4 : Int))))) - (IntKind.i64.wrap (Int.tdiv (IntKind.i64.wrap (Int.tdiv (IntKind.i64.wrap ((IntKind.i64.wrap ((IntKind.i64.wrap ((Int.tmod (IntKind.i64.wrap (a0 + (719468 : Int))) (146097 : Int)) - (IntKind.i64.wrap (Int.tdiv (Int.tmod (IntKind.i64.wrap (a0 + (719468 : Int))) (146097 : Int)) (1460 : Int))))) + (IntKind.i64.wrap (Int.tdiv (Int.tmod (IntKind.i64.wrap (a0 + (719468 : Int))) (146097 : Int)) (36524 : Int))))) - (IntKind.i64.wrap (Int.tdiv (Int.tmod (IntKind.i64.wrap (a0 + (719468 : Int))) (146097 : Int)) (146096 : Int))))) (365 : Int))) (100 : Int))))))))) + (2 : Int))) (153 : Int))))) + (2 : Int))) (5 : Int))))) + (1 : Int)), (0 : Int)))))
def rQ n a0 := Bo n a0 _ some
abbrev OQ : FS := ⟨[.n], [], [([.a [.n, .n, .n], .n], [])]⟩
def I7 (n : Nat) : FSpec := OQ.sp (rQ n)
theorem I8 (n : Nat) : FSound Tryz.prog 41 (I7 n) := fs2 (S := OQ) (b := Bo n) Tryz.func41 rfl rfl [.cell 2 45 3 true, .tmp 3] (.s .a (.s (.s (.p (Ga.x (yU n))) .a) .a)) (by (repeat intro _); unfold Bo; simp only [aD]) (ai (Nw n) trivial)
def qM (n : Nat) (a0 : Int) (R : Type) (K : W9 → Option R) : Option R := (yE n a0 (86400000000 : Int)).bind fun o299 => ((rQ n o299.1).bind fun o305 => (cond (o305.2.2.2 != (0 : Int)) (K ((0 : Int), (0 : Int), (0 : Int), (0 : Int), (0 : Int), (0 : Int), (0 : Int), o305.2.2.2)) (K (o305.1, o305.2.1, o305.2.2.1, IntKind.i64.wrap (Int.tdiv (IntKind.i64.wrap (Int.tdiv o299.2.1 (1000000 : Int))) (3600 : Int)), Int.tmod (IntKind.i64.wrap (Int.tdiv (IntKind.i64.wrap (Int.tdiv o299.2.1 (1000000 : Int))) (60 : Int))) (60 : Int), Int.tmod (IntKind.i64.wrap (Int.tdiv o299.2.1 (1000000 : Int))) (60 : Int), Int.tmod o299.2.1 (1000000 : Int), (0 : Int)))))
def aK n a0 := qM n a0 _ some
abbrev FL : FS := ⟨[.n], [], [([.a [.n, .n, .n, .n, .n, .n, .n], .n], [])]⟩
def uo (n : Nat) : FSpec := FL.sp (aK n)
theorem uZ (n : Nat) : FSound Tryz.prog 18 (uo n) := fs2 (S := FL) (b := qM n) Tryz.func18 rfl rfl [.cell 2 47 7 true, .tmp 3] (.s .a (.s (.r [(1, .cl 40 (I4 n)), (5, .tk [10])]) (.s (.r [(1, .cl 41 (I7 n)), (4, .tk [16])]) .a))) (by (repeat intro _); unfold qM; simp only [aD]) (ai (I5 n) (ai (I8 n) trivial))
def vz (n : Nat) (a0 : Int) (R : Type) (K : W9 → Option R) : Option R := (oq n a0 (1000000 : Int)).bind fun o293 => ((eX n o293).bind fun o294 => (cond ((decide ((IntKind.i64.wrap (a0 + (IntKind.i64.wrap ((0 : Int) * (1000000 : Int))))) < a0)) == (decide ((IntKind.i64.wrap ((0 : Int) * (1000000 : Int))) < (0 : Int)))) ((aK n (IntKind.i64.wrap (a0 + (IntKind.i64.wrap ((0 : Int) * (1000000 : Int)))))).bind fun o306 => (K (o306.1, o306.2.1, o306.2.2.1, o306.2.2.2.1, o306.2.2.2.2.1, o306.2.2.2.2.2.1, o306.2.2.2.2.2.2.1, o306.2.2.2.2.2.2.2))) (K ((0 : Int), (0 : Int), (0 : Int), (0 : Int), (0 : Int), (0 : Int), (0 : Int), (6 : Int)))))
def fT n a0 := vz n a0 _ some
abbrev Ad : FS := ⟨[.x (.ptr none), .n], [], [([.a [.n, .n, .n, .n, .n, .n, .n], .n], [])]⟩
def uq (n : Nat) : FSpec := Ad.sp (fT n)
theorem u6 (n : Nat) : FSound Tryz.prog 17 (uq n) := fs2 (S := Ad) (b := vz n) Tryz.func17 rfl rfl [.cell 4 47 7 true, .tmp 5] (.s .a (.s (.r [(2, .cl 39 (rP n)), (3, .cl 12 (kE n))]) (.s (.s .a (.s .a (.s (.s (.r [(1, .cl 18 (uo n)), (3, .tk [23])]) .a) .a))) .a))) (by (repeat intro _); unfold vz; simp only [aD]) (ai (oK n) (ai (jV n) (ai (uZ n) trivial)))
def DK (n : Nat) (a0 : Int) (R : Type) (K : Bool → Option R) : Option R := cond ((Int.tmod a0 (4 : Int)) == (0 : Int)) (cond ((Int.tmod a0 (100 : Int)) != (0 : Int)) (K true) (K ((Int.tmod a0 (400 : Int)) == (0 : Int)))) (K false)
def DL n a0 := DK n a0 _ some
abbrev LJ : FS := ⟨[.n], [], [([.b], [])]⟩
def J8 (n : Nat) : FSpec := LJ.sp (DL n)
theorem MJ (n : Nat) : FSound Tryz.prog 154 (J8 n) := fs2 (S := LJ) (b := DK n) Tryz.func154 rfl rfl [.tmp 2] .a (by (repeat intro _); unfold DK; simp only [aD]) trivial
def yj (n : Nat) (x0 x1 : Int) (R : Type) (K : (Bool) → Option R) : Option R := cond (decide (x0 < (1 : Int))) (K true) (cond (decide (x0 > (9999 : Int))) (K true) (cond (decide (x1 < (1 : Int))) (K true) (K (decide (x1 > (12 : Int))))))
def xK n x0 x1 := yj n x0 x1 _ some
abbrev CX : PS := ⟨[], [(0, .n), (1, .n)], none, [⟨.normal, [0, 1], [(18, .b)], [], none⟩], none, none⟩
theorem LM (n : Nat) : Snd ⟨Tryz.prog, 0, 29⟩ (CX.x (xK n)) (fb Tryz.f111 9) := kH (S := CX) (b := yj n) .a (by (repeat intro _); unfold yj; simp only [aD]) trivial
def DN (n : Nat) (a0 a1 : Int) (R : Type) (K : Int → Option R) : Option R := (xK n a0 a1).bind fun o311 => (cond o311 (K (0 : Int)) (cond (a1 == (2 : Int)) ((DL n a0).bind fun o312 => (cond o312 (K (29 : Int)) (cond (decide (0 ≤ (IntKind.i64.wrap (a1 - (1 : Int))))) ((([.int .i64 (31 : Int), .int .i64 (28 : Int), .int .i64 (31 : Int), .int .i64 (30 : Int), .int .i64 (31 : Int), .int .i64 (30 : Int), .int .i64 (31 : Int), .int .i64 (31 : Int), .int .i64 (30 : Int), .int .i64 (31 : Int), .int .i64 (30 : Int), .int .i64 (31 : Int)] : List AV)[(IntKind.i64.wrap (a1 - (1 : Int))).toNat]?).bind fun c313 => (xn .i64 c313 fun x314 => K x314)) none))) (cond (decide (0 ≤ (IntKind.i64.wrap (a1 - (1 : Int))))) ((([.int .i64 (31 : Int), .int .i64 (28 : Int), .int .i64 (31 : Int), .int .i64 (30 : Int), .int .i64 (31 : Int), .int .i64 (30 : Int), .int .i64 (31 : Int), .int .i64 (31 : Int), .int .i64 (30 : Int), .int .i64 (31 : Int), .int .i64 (30 : Int), .int .i64 (31 : Int)] : List AV)[(IntKind.i64.wrap (a1 - (1 : Int))).toNat]?).bind fun c315 => (xn .i64 c315 fun x316 => K x316)) none)))
def wR n a0 a1 := DN n a0 a1 _ some
abbrev LP : FS := ⟨[.n, .n], [], [([.n], [])]⟩
def BP (n : Nat) : FSpec := LP.sp (wR n)
theorem Bp (n : Nat) : FSound Tryz.prog 111 (BP n) := fs2 (S := LP) (b := DN n) Tryz.func111 rfl rfl [.tmp 4] (.s .a (.s (.s (.p (CX.x (xK n))) .a) (.s (.s (.r [(4, .cl 154 (J8 n))]) .a) .a))) (by (repeat intro _); unfold DN; simp only [aD]) (ai (LM n) (ai (MJ n) trivial))
def xL (n : Nat) (a0 a1 a2 : Int) (R : Type) (K : Bool → Option R) : Option R := cond (decide (a2 ≥ (1 : Int))) ((wR n a0 a1).bind fun o317 => (K (decide (a2 ≤ o317)))) (K false)
def uT n a0 a1 a2 := xL n a0 a1 a2 _ some
abbrev J9 : FS := ⟨[.a [.n, .n, .n]], [], [([.b], [])]⟩
def ER (n : Nat) : FSpec := J9.sp (uT n)
theorem FM (n : Nat) : FSound Tryz.prog 78 (ER n) := fs2 (S := J9) (b := xL n) Tryz.func78 rfl rfl [.tmp 2] (.s .a (.s (.d [(10, .cl 111 (BP n))] [(0, .peek [0] [0]), (1, .peek [0] [0]), (4, .peek [0] [0]), (5, .peek [0] [0]), (6, .peek [0] [0]), (7, .peek [0] [0]), (8, .peek [0] [0]), (9, .peek [0] [0]), (10, .part [])]) .a)) (by (repeat intro _); unfold xL; simp only [aD]) (ai (Bp n) trivial)
def Ae (n : Nat) (a0 a1 a2 : Int) (R : Type) (K : (Int × Int) → Option R) : Option R := (uT n a0 a1 a2).bind fun o318 => (cond (!o318) (K ((0 : Int), (30 : Int))) ((um n a0 a1 a2).bind fun o319 => (K (o319, (0 : Int)))))
def ut n a0 a1 a2 := Ae n a0 a1 a2 _ some
abbrev LQ : FS := ⟨[.a [.n, .n, .n]], [], [([.n, .n], [])]⟩
def BQ (n : Nat) : FSpec := LQ.sp (ut n)
theorem Bq (n : Nat) : FSound Tryz.prog 43 (BQ n) := fs2 (S := LQ) (b := Ae n) Tryz.func43 rfl rfl [.tmp 2, .tmp 3] (.s .a (.s (.s (.r [(1, .cl 78 (ER n))]) .a) (.s (.r [(1, .cl 76 (xJ n))]) .a))) (by (repeat intro _); unfold Ae; simp only [aD]) (ai (FM n) (ai (wQ n) trivial))
def wS (n : Nat) (x5 h0_0 h0_1 h0_2 h0_3 h0_4 h0_5 h0_6 : Int) (R : Type) (K : (Bool × Int × Int × Int × Int × Int × Int × Int) → Option R) : Option R := cond (x5 != (0 : Int)) (K (true, h0_0, h0_1, h0_2, h0_3, h0_4, h0_5, h0_6)) (cond (decide ((FU false h0_3 [h0_4, h0_5, h0_6]) < (0 : Int))) (K (true, h0_0, h0_1, h0_2, h0_3, h0_4, h0_5, h0_6)) (cond (decide (h0_3 > (23 : Int))) (K (true, h0_0, h0_1, h0_2, h0_3, h0_4, h0_5, h0_6)) (cond (decide ((if h0_4 < h0_5 then h0_5 else h0_4) > (59 : Int))) (K (true, h0_0, h0_1, h0_2, h0_3, h0_4, h0_5, h0_6)) (K (decide (h0_6 ≥ (1000000 : Int)), h0_0, h0_1, h0_2, h0_3, h0_4, h0_5, h0_6)))))
def Af n x5 h0_0 h0_1 h0_2 h0_3 h0_4 h0_5 h0_6 := wS n x5 h0_0 h0_1 h0_2 h0_3 h0_4 h0_5 h0_6 _ some
abbrev Br : PS := ⟨[4], [(1, .q 0 0), (5, .n)], some [.c 47 [.n, .n, .n, .n, .n, .n, .n]], [⟨.normal, [1, 4], [(43, .b)], [.c 47 [.n, .n, .n, .n, .n, .n, .n]], none⟩], none, none⟩
theorem KH (n : Nat) : Snd ⟨Tryz.prog, 0, 61⟩ (Br.x (Af n)) (fb Tryz.f21 19) := kH (S := Br) (b := wS n) .a (by (repeat intro _); unfold wS; simp only [aD]) trivial
def BR (n : Nat) (a0 a1 a2 a3 a4 a5 a6 : Int) (R : Type) (K : (Int × Int) → Option R) : Option R := (ut n a0 a1 a2).bind fun o320 => ((Af n o320.2 a0 a1 a2 a3 a4 a5 a6).bind fun o321 => (cond o321.1 (K ((0 : Int), (30 : Int))) (K (IntKind.i64.wrap ((IntKind.i64.wrap ((IntKind.i64.wrap (o320.1 * (86400000000 : Int))) + (IntKind.i64.wrap ((IntKind.i64.wrap ((IntKind.i64.wrap ((IntKind.i64.wrap ((IntKind.i64.wrap (o321.2.2.2.2.1 * (60 : Int))) + o321.2.2.2.2.2.1)) * (60 : Int))) + o321.2.2.2.2.2.2.1)) * (1000000 : Int))))) + o321.2.2.2.2.2.2.2), (0 : Int)))))
def bq n a0 a1 a2 a3 a4 a5 a6 := BR n a0 a1 a2 a3 a4 a5 a6 _ some
abbrev Ka : FS := ⟨[.a [.n, .n, .n, .n, .n, .n, .n]], [], [([.n, .n], [])]⟩
def sZ (n : Nat) : FSpec := Ka.sp (bq n)
theorem qN (n : Nat) : FSound Tryz.prog 21 (sZ n) := fs2 (S := Ka) (b := BR n) Tryz.func21 rfl rfl [.tmp 2, .tmp 3] (.s .a (.s (.r [(2, .cl 43 (BQ n)), (5, .tk [6])]) (.s (.s (.p (Br.x (Af n))) .a) .a))) (by (repeat intro _); unfold BR; simp only [aD]) (ai (Bq n) (ai (KH n) trivial))
def xe (n : Nat) (R : Type) (K : (List Int) → Option R) : Option R := K ([(0 : Int)] : List Int)
def xg n := xe n _ some
abbrev De : FS := ⟨[.x (.ptr none)], [], [([.I true .i64], [])]⟩
def Cq (n : Nat) : FSpec := De.sp (xg n)
theorem Gz (n : Nat) : FSound Tryz.prog 15 (Cq n) := fs2 (S := De) (b := xe n) Tryz.func15 rfl rfl [.tmp 2] (.s .a (.s (.s .a (.s (.s (.r [(1, .tk [8])]) .a) .a)) (.s .a (.s (.s .a (.u (.p FW))) .a)))) (by (repeat intro _); unfold xe; simp only [aD]) (ai (wN (c := ⟨Tryz.prog, 0, 57⟩) (cd := (Tryz.f15.body.getD .skip).a2.a2.a2.a1.a2.a1)) trivial)
def eO (n : Nat) (a0 : List Int) (R : Type) (K : (List Int) → Option R) : Option R := K a0
def dz n a0 := eO n a0 _ some
abbrev wV : FS := ⟨[.l .i64], [], [([.f (.func 77) [] [.q 0 0]], [.c 24 [.l .i64]])]⟩
def jW (n : Nat) : FSpec := wV.sp (dz n)
theorem mD (n : Nat) : FSound Tryz.prog 42 (jW n) := fs2 (S := wV) (b := eO n) Tryz.func42 rfl rfl [.tmp 2] .a (by (repeat intro _); unfold eO; simp only [aD]) trivial
def ni (n : Nat) (a0 a1 h0 : Int) (h1 : List Int) (R : Type) (K : (List Int) → Option R) : Option R := cond (decide ((IntKind.i64.wrap (h0 - (IntKind.i64.wrap (a1 * (1000000 : Int))))) ≥ (-10000000000000000 : Int))) (cond (decide ((IntKind.i64.wrap (h0 - (IntKind.i64.wrap (a1 * (1000000 : Int))))) ≤ (100000000000000000 : Int))) ((oq n (IntKind.i64.wrap (h0 - (IntKind.i64.wrap (a1 * (1000000 : Int))))) (1000000 : Int)).bind fun o326 => ((eX n o326).bind fun o327 => (cond ((0 : Int) == a1) (cond (decide ((h1.length + ([IntKind.i64.wrap (h0 - (IntKind.i64.wrap (a1 * (1000000 : Int))))] : List Int).length) * 8 ≤ 140737488355328)) (K (h1 ++ ([IntKind.i64.wrap (h0 - (IntKind.i64.wrap (a1 * (1000000 : Int))))] : List Int))) none) (K h1)))) (K h1)) (K h1)
def jC n a0 a1 h0 h1 := ni n a0 a1 h0 h1 _ some
abbrev yV : FS := ⟨[.n, .n, .q 0 0, .q 1 0, .q 2 0], [.c 27 [.x (.ptr none)], .c 2 [.n], .c 23 [.I true .i64]], [([.x (.bool true)], [.k 0, .k 1, .c 23 [.I true .i64]])]⟩
def xM (n : Nat) : FSpec := yV.sp (jC n)
theorem DR (n : Nat) : RSound Tryz.prog 0 (xM n) := Um (S := yV) (b := ni n) (nt := 48) (ps := [23, 24]) (sl := [2, 6, 8]) (ca := (Tryz.f20.body.getD .skip).a2.a2.a2.a2.a1.a2.a1.ra) (cb := (Tryz.f20.body.getD .skip).a2.a2.a2.a2.a1.a2.a1.rb) (by kernel_rfl) .a (.u (.s .a (.s (.d [(9, .cl 39 (rP n)), (10, .cl 12 (kE n))] [(7, .peek [0] [0]), (9, .part []), (10, .part [])]) (.s (.r [(0, .lt), (3, .tk [43]), (4, .tk [46])]) .a)))) (by (repeat intro _); unfold ni; simp only [aD]) trivial (ai (oK n) (ai (jV n) trivial))
def lG (n : Nat) (x3 : Int) (h1_0 : List Int) (h3_0 : Int) (h4_0 : List Int) (R : Type) (A_ : Int → (List Int) → Int → (List Int) → Option R) (K : ((List Int)) → Option R) : Option R := cond (decide (x3 ≥ (0 : Int))) (cond (decide (0 ≤ x3)) ((h1_0[x3.toNat]?).bind fun e325 => ((jC n x3 e325 h3_0 h4_0).bind fun o328 => (A_ (IntKind.i64.wrap (x3 - (1 : Int))) h1_0 h3_0 o328))) none) (K h4_0)
def bO (n : Nat) : Nat → Int → (List Int) → Int → (List Int) → Option (((List Int)))
 | 0, _, _, _, _ => none
 | m + 1, x3, h1_0, h3_0, h4_0 => lG n x3 h1_0 h3_0 h4_0 _ (bO n m) some
abbrev lH : PS := ⟨[], [(0, .x (.yld 0)), (1, .q 1 0), (3, .n)], some [.lp 0 [.q 2 0, .q 3 0, .q 4 0], .c 24 [.l .i64], .c 27 [.x (.ptr none)], .c 2 [.n], .c 23 [.I true .i64]], [⟨(.exit 0), [], [], [.k 0, .k 1, .k 2, .k 3, .c 23 [.I true .i64]], none⟩], none, none⟩
theorem Ag (n : Nat) : Snd ⟨Tryz.prog, 5, 19⟩ (lH.x (bO n n)) (fb Tryz.f77 5) := rW (S := lH) (b := lG n) (f := bO n) n (.s .a (.s (.u (.s (.r [(6, .cy 0 (xM n))]) .a)) .a)) (by (repeat intro _); unfold lG; simp only [aD]) (ai (DR n) trivial)
def jG (n : Nat) (h0 : List Int) (h1 : Int) (h2 : List Int) (R : Type) (K : (List Int) → Option R) : Option R := (bO n n (IntKind.i64.wrap ((h0.length : Int) - (1 : Int))) h0 h1 h2).bind fun o329 => (K o329)
def ou n h0 h1 h2 := jG n h0 h1 h2 _ some
abbrev vB : FS := ⟨[.x (.yld 0), .q 1 0], [.lp 0 [.q 2 0, .q 3 0, .q 4 0], .c 24 [.l .i64], .c 27 [.x (.ptr none)], .c 2 [.n], .c 23 [.I true .i64]], [([], [.k 0, .k 1, .k 2, .k 3, .c 23 [.I true .i64]])]⟩
def uM (n : Nat) : FSpec := vB.sp (ou n)
theorem AL (n : Nat) : FSound Tryz.prog 77 (uM n) := fs2 (S := vB) (b := jG n) Tryz.func77 rfl rfl [] (.s .a (.u (.p (lH.x (bO n n))))) (by (repeat intro _); unfold jG; simp only [aD]) (ai (Ag n) trivial)
def mE (n : Nat) (a0 a1 a2 a3 a4 a5 a6 : Int) (R : Type) (K : ((List Int) × Int) → Option R) : Option R := (bq n a0 a1 a2 a3 a4 a5 a6).bind fun o322 => (cond (o322.2 != (0 : Int)) (K (([] : List Int), o322.2)) ((xg n ).bind fun o323 => ((dz n o323).bind fun o324 => ((ou n o324 o322.1 ([] : List Int)).bind fun o330 => (K (o330, (0 : Int)))))))
def eG n a0 a1 a2 a3 a4 a5 a6 := mE n a0 a1 a2 a3 a4 a5 a6 _ some
abbrev vS : FS := ⟨[.x (.ptr none), .a [.n, .n, .n, .n, .n, .n, .n]], [], [([.I true .i64, .n], [])]⟩
def A7 (n : Nat) : FSpec := vS.sp (eG n)
theorem Gb (n : Nat) : FSound Tryz.prog 20 (A7 n) := fs2 (S := vS) (b := mE n) Tryz.func20 rfl rfl [.tmp 4, .tmp 5] (.s .a (.s (.r [(1, .cl 21 (sZ n)), (4, .tk [12])]) (.s .a (.s .a (.s (.s (.r [(1, .cl 15 (Cq n)), (2, .cl 42 (jW n))]) (.u (.p (Mk 0 [2, 6, 8] (uM n) 77 (.tmp 22))))) (.s (.r [(0, .lt), (1, .tk [47])]) .a)))))) (by (repeat intro _); unfold mE; simp only [aD]) (ai (qN n) (ai (Gz n) (ai (mD n) (ai (Kv (c := ⟨Tryz.prog, 0, 48⟩) (key := 0) (ts := [2, 6, 8]) (u := 22) (cd := (Tryz.f20.body.getD .skip).a2.a2.a2.a2.a1.a2.a1) (by kernel_rfl) (by kernel_rfl) (AL n)) trivial))))
def dO (n : Nat) (h0 : List (Int × Int)) (R : Type) (K : (List (Int × Int)) → Option R) : Option R := K h0
def bU n h0 := dO n h0 _ some
abbrev r9 : FS := ⟨[.x (.map (some 0))], [.mI], [([.f (.func 74) [] [.q 1 0]], [.mI, .c 92 [.x (.map (some 0))]])]⟩
def jX (n : Nat) : FSpec := r9.sp (bU n)
theorem oI (n : Nat) : FSound Tryz.prog 38 (jX n) := fs2 (S := r9) (b := dO n) Tryz.func38 rfl rfl [.tmp 2] .a (by (repeat intro _); unfold dO; simp only [aD]) trivial
def vT (n : Nat) : FSpec := KC 74
theorem yX (n : Nat) : FSound Tryz.prog 37 (vT n) := Pt
def iV (n : Nat) (x15 : List (List AV)) (x16 x17 : Int) (h0_0 : List (List AV)) (h0_1 h0_2 : List Int) (h0_3 h1_0 h1_1 : Str) (h1_2 h1_3 h1_4 h1_5 h1_6 h1_7 h1_8 h1_9 h1_10 h1_11 h1_12 h1_13 : Int) (h2_0 : List (Int × Int)) (R : Type) (A_ : (List (List AV)) → Int → Int → (List (List AV)) → (List Int) → (List Int) → Str → Str → Str → Int → Int → Int → Int → Int → Int → Int → Int → Int → Int → Int → Int → (List (Int × Int)) → Option R) (K : ((List (Int × Int))) → Option R) : Option R := cond (decide (x17 < x16)) (cond (decide (0 ≤ x17)) ((x15[x17.toNat]?).bind fun e348 => (unc e348 fun c349 r350 => xn .i64 c349 fun x351 => unc r350 fun c352 r353 => zf c352 fun x354 => unc r353 fun c355 r356 => zg c355 fun x357 => unn r356 (cond (qB x351 && qB (1 : Int)) (A_ x15 x16 (IntKind.i64.wrap (x17 + (1 : Int))) h0_0 h0_1 h0_2 h0_3 h1_0 h1_1 h1_2 h1_3 h1_4 h1_5 h1_6 h1_7 h1_8 h1_9 h1_10 h1_11 h1_12 h1_13 (yo h2_0 x351 (1 : Int))) none))) none) (K h2_0)
def dF (n : Nat) : Nat → (List (List AV)) → Int → Int → (List (List AV)) → (List Int) → (List Int) → Str → Str → Str → Int → Int → Int → Int → Int → Int → Int → Int → Int → Int → Int → Int → (List (Int × Int)) → Option (((List (Int × Int))))
 | 0, _, _, _, _, _, _, _, _, _, _, _, _, _, _, _, _, _, _, _, _, _, _ => none
 | m + 1, x15, x16, x17, h0_0, h0_1, h0_2, h0_3, h1_0, h1_1, h1_2, h1_3, h1_4, h1_5, h1_6, h1_7, h1_8, h1_9, h1_10, h1_11, h1_12, h1_13, h2_0 => iV n x15 x16 x17 h0_0 h0_1 h0_2 h0_3 h1_0 h1_1 h1_2 h1_3 h1_4 h1_5 h1_6 h1_7 h1_8 h1_9 h1_10 h1_11 h1_12 h1_13 h2_0 _ (dF n m) some
abbrev rR : PS := ⟨[], [(0, .q 0 0), (3, .x (.map (some 2))), (15, .L false 3), (16, .n), (17, .n)], some [.c 82 [.L false 3, .l .i64, .l .i64, .s, .q 1 0], .c 87 [.s, .s, .n, .n, .c, .n, .n, .n, .n, .c, .n, .n, .n, .n], .mI], [⟨(.exit 0), [0, 3], [], [.k 0, .k 1, .mI], none⟩], (some 2), (some 2)⟩
theorem ES (n : Nat) : Snd ⟨Tryz.prog, 2, 57⟩ (rR.x (dF n n)) (fb Tryz.f15 87) := rW (S := rR) (b := iV n) (f := dF n) n (.s .a (.s .a (.s (.u (.s .a (.r [(3, .mi)]))) .a))) (by (repeat intro _); unfold iV; simp only [aD]) trivial
def pQ (n : Nat) (h0 : List (List AV)) (h1 h2 : List Int) (h3 h4 h5 : Str) (h6 h7 h8 h9 h10 h11 h12 h13 h14 h15 h16 h17 : Int) (R : Type) (K : (List Int) → Option R) : Option R := (dF n n h0 (h0.length : Int) (0 : Int) h0 h1 h2 h3 h4 h5 h6 h7 h8 h9 h10 h11 h12 h13 h14 h15 h16 h17 ([] : List (Int × Int))).bind fun o358 => (cond (qB h6 && qB (1 : Int)) (cond (!(h5 == ([] : Str))) (cond (qB h7 && qB (1 : Int)) ((bU n (yo (yo o358 h6 (1 : Int)) h7 (1 : Int))).bind fun o359 => (cond (decide (o359.length * 8 ≤ 140737488355328) && o359.all fun p => qB p.1 && qB p.2) (K ((o359.map (·.1)).mergeSort leI)) none)) none) ((bU n (yo o358 h6 (1 : Int))).bind fun o360 => (cond (decide (o360.length * 8 ≤ 140737488355328) && o360.all fun p => qB p.1 && qB p.2) (K ((o360.map (·.1)).mergeSort leI)) none))) none)
def pR n h0 h1 h2 h3 h4 h5 h6 h7 h8 h9 h10 h11 h12 h13 h14 h15 h16 h17 := pQ n h0 h1 h2 h3 h4 h5 h6 h7 h8 h9 h10 h11 h12 h13 h14 h15 h16 h17 _ some
abbrev A8 : FS := ⟨[.q 0 0], [.c 82 [.L false 3, .l .i64, .l .i64, .s, .q 1 0], .c 87 [.s, .s, .n, .n, .c, .n, .n, .n, .n, .c, .n, .n, .n, .n]], [([.I true .i64], [.k 0, .k 1])]⟩
def Ah (n : Nat) : FSpec := A8.sp (pR n)
theorem Fv (n : Nat) : FSound Tryz.prog 15 (Ah n) := fs2 (S := A8) (b := pQ n) Tryz.func15 rfl rfl [.tmp 2] (.s .a (.s .a (.s (.r [(0, .mi)]) (.s (.s .a (.u (.p (rR.x (dF n n))))) (.s (.s .a (.s (.s (.r [(8, .mi)]) (.s .a (.s (.r [(8, .mi)]) .a))) .a)) (.s (.r [(1, .cl 38 (jX n)), (2, .cl 37 (vT n)), (3, .tk [56])]) .a)))))) (by (repeat intro _); unfold pQ; simp only [aD]) (ai (ES n) (ai (oI n) (ai (yX n) trivial)))
def ow (n : Nat) (h0 : Int) (h1 : List (List AV)) (h2 h3 : List Int) (h4 h5 h6 : Str) (h7 h8 h9 h10 h11 h12 h13 h14 h15 h16 h17 h18 : Int) (R : Type) (K : Bool → Option R) : Option R := cond ((h2.length : Int) == (0 : Int)) (K true) (cond (decide (0 ≤ (IntKind.i64.wrap ((h2.length : Int) - (1 : Int))))) ((h2[(IntKind.i64.wrap ((h2.length : Int) - (1 : Int))).toNat]?).bind fun e365 => (K (decide (e365 ≤ h0)))) none)
def oz n h0 h1 h2 h3 h4 h5 h6 h7 h8 h9 h10 h11 h12 h13 h14 h15 h16 h17 h18 := ow n h0 h1 h2 h3 h4 h5 h6 h7 h8 h9 h10 h11 h12 h13 h14 h15 h16 h17 h18 _ some
abbrev Ai : FS := ⟨[.q 0 0, .q 1 0], [.c 27 [.q 2 0], .c 2 [.n], .c 82 [.L false 3, .l .i64, .l .i64, .s, .q 3 0], .c 87 [.s, .s, .n, .n, .c, .n, .n, .n, .n, .c, .n, .n, .n, .n]], [([.b], [.k 0, .k 1, .k 2, .k 3])]⟩
def yY (n : Nat) : FSpec := Ai.sp (oz n)
theorem ET (n : Nat) : FSound Tryz.prog 32 (yY n) := fs2 (S := Ai) (b := ow n) Tryz.func32 rfl rfl [.tmp 2] (.s .a (.s (.d [] [(1, .look), (2, .look), (3, .look), (4, .look), (10, .look), (11, .look), (12, .look), (13, .look), (16, .look), (17, .look), (18, .look), (19, .look), (24, .no)]) .a)) (by (repeat intro _); unfold ow; simp only [aD]) trivial
def Aj (n : Nat) (a0 a1 : Int) (R : Type) (K : Int → Option R) : Option R := cond (a1 == 0) none (cond (decide ((Int.tmod a0 a1) < (0 : Int))) (cond (a1 == 0) none (K (IntKind.i64.wrap ((IntKind.i64.wrap (Int.tdiv a0 a1)) - (1 : Int))))) (cond (a1 == 0) none (K (IntKind.i64.wrap (Int.tdiv a0 a1)))))
def vU n a0 a1 := Aj n a0 a1 _ some
abbrev I9 : FS := ⟨[.n, .n], [], [([.n], [])]⟩
def Ig (n : Nat) : FSpec := I9.sp (vU n)
theorem KI (n : Nat) : FSound Tryz.prog 62 (Ig n) := fs2 (S := I9) (b := Aj n) Tryz.func62 rfl rfl [.tmp 4] .a (by (repeat intro _); unfold Aj; simp only [aD]) trivial
def yl (n : Nat) (a0 a1 a2 : Int) (R : Type) (K : Int → Option R) : Option R := (uT n a0 a1 a2).bind fun o376 => (cond (!o376) (K (0 : Int)) ((um n a0 a1 a2).bind fun o377 => ((yE n (IntKind.i64.wrap (o377 + (3 : Int))) (7 : Int)).bind fun o378 => (K (IntKind.i64.wrap (o378.2.1 + (1 : Int)))))))
def ym n a0 a1 a2 := yl n a0 a1 a2 _ some
abbrev Ih : FS := ⟨[.a [.n, .n, .n]], [], [([.n], [])]⟩
def GA (n : Nat) : FSpec := Ih.sp (ym n)
theorem JS (n : Nat) : FSound Tryz.prog 143 (GA n) := fs2 (S := Ih) (b := yl n) Tryz.func143 rfl rfl [.tmp 2] (.s .a (.s (.s (.r [(1, .cl 78 (ER n))]) .a) (.s (.r [(1, .cl 76 (xJ n)), (3, .cl 40 (I4 n)), (7, .tk [9])]) .a))) (by (repeat intro _); unfold yl; simp only [aD]) (ai (FM n) (ai (wQ n) (ai (I5 n) trivial)))
def qO (n : Nat) (x7 : Bool) (h0_0 h0_1 h0_2 h0_3 h0_4 : Int) (R : Type) (K : W2 → Option R) : Option R := cond x7 (K (decide (h0_3 > (59 : Int)), h0_0, h0_1, h0_2, h0_3, h0_4)) (K (false, h0_0, h0_1, h0_2, h0_3, h0_4))
def uu n x7 h0_0 h0_1 h0_2 h0_3 h0_4 := qO n x7 h0_0 h0_1 h0_2 h0_3 h0_4 _ some
abbrev vV : PS := ⟨[5], [(2, .q 0 0), (7, .b)], some [.c 85 [.c, .n, .n, .n, .n]], [⟨.normal, [2, 5], [(35, .b)], [.c 85 [.c, .n, .n, .n, .n]], none⟩], none, none⟩
def mF (n : Nat) (x9 x10 : Int) (R : Type) (A_ : Int → Int → Option R) (K : (Int) → Option R) : Option R := cond (decide (x9 ≥ x10)) (A_ (IntKind.i64.wrap (x9 - (7 : Int))) x10) (K x9)
def gH (n : Nat) : Nat → Int → Int → Option ((Int))
 | 0, _, _ => none
 | m + 1, x9, x10 => mF n x9 x10 _ (gH n m) some
abbrev vW : PS := ⟨[8], [(9, .n), (10, .n)], none, [⟨(.exit 1), [8], [(9, .n)], [], none⟩], none, none⟩
theorem Ho (n : Nat) : Snd ⟨Tryz.prog, 0, 80⟩ (vV.x (uu n)) (fb Tryz.f104 4567) := kH (S := vV) (b := qO n) .a (by (repeat intro _); unfold qO; simp only [aD]) trivial
theorem Hq (n : Nat) : Snd ⟨Tryz.prog, 0, 80⟩ (vW.x (gH n n)) (fb Tryz.f104 1407) := rW (S := vW) (b := mF n) (f := gH n) n .a (by (repeat intro _); unfold mF; simp only [aD]) trivial
def vC (n : Nat) (a0 a1 a2 a3 a4 a5 : Int) (R : Type) (K : Int → Option R) : Option R := (ut n a5 (1 : Int) (1 : Int)).bind fun o373 => ((wR n a5 (2 : Int)).bind fun o374 => (cond (a0 == (2 : Int)) (K (IntKind.i64.wrap (o373.1 + a3))) (cond (a0 == (1 : Int)) ((uu n (o374 == (29 : Int)) a0 a1 a2 a3 a4).bind fun o375 => (cond o375.1 (K (IntKind.i64.wrap (o373.1 + o375.2.2.2.2.1))) (K (IntKind.i64.wrap ((IntKind.i64.wrap (o373.1 + o375.2.2.2.2.1)) - (1 : Int)))))) ((ym n a5 a1 (1 : Int)).bind fun o379 => ((wR n a5 a1).bind fun o380 => ((gH n n (IntKind.i64.wrap ((Int.tmod (IntKind.i64.wrap ((IntKind.i64.wrap (a3 + (7 : Int))) - (Int.tmod o379 (7 : Int)))) (7 : Int)) + (IntKind.i64.wrap ((7 : Int) * (IntKind.i64.wrap (a2 - (1 : Int))))))) o380).bind fun o381 => ((ut n a5 a1 (1 : Int)).bind fun o382 => (K (IntKind.i64.wrap (o382.1 + o381))))))))))
def vD n a0 a1 a2 a3 a4 a5 := vC n a0 a1 a2 a3 a4 a5 _ some
abbrev FN : FS := ⟨[.a [.c, .n, .n, .n, .n], .n], [], [([.n], [])]⟩
def EU (n : Nat) : FSpec := FN.sp (vD n)
theorem Iq (n : Nat) : FSound Tryz.prog 104 (EU n) := fs2 (S := FN) (b := vC n) Tryz.func104 rfl rfl [.tmp 4] (.s .a (.s (.r [(2, .cl 43 (BQ n)), (5, .tk [11])]) (.s (.r [(1, .cl 111 (BP n))]) (.s (.s .a (.u (.s .a (.s .a (.s .a (.s (.s (.s (.p (vV.x (uu n))) .a) .a) .a)))))) (.s .a (.s (.d [(4, .cl 143 (GA n))] [(0, .peek [0] [0]), (1, .peek [0] [0]), (3, .peek [1] [1]), (4, .part [])]) (.s (.r [(3, .cl 111 (BP n))]) (.s (.s .a (.u (.p (vW.x (gH n n))))) (.s (.r [(1, .cl 43 (BQ n)), (4, .tk [72])]) .a))))))))) (by (repeat intro _); unfold vC; simp only [aD]) (ai (Bq n) (ai (Bp n) (ai (Ho n) (ai (JS n) (ai (Bp n) (ai (Hq n) (ai (Bq n) trivial)))))))
def uw (n : Nat) (x1 : Int) (R : Type) (K : (Bool) → Option R) : Option R := cond (decide (x1 < (2 : Int))) (K true) (K (decide (x1 > (9998 : Int))))
def wT n x1 := uw n x1 _ some
abbrev yF : PS := ⟨[2], [(1, .n)], none, [⟨.normal, [1, 2], [(10, .b)], [], none⟩], none, none⟩
theorem Ja (n : Nat) : Snd ⟨Tryz.prog, 0, 24⟩ (yF.x (wT n)) (fb Tryz.f64 89) := kH (S := yF) (b := uw n) .a (by (repeat intro _); unfold uw; simp only [aD]) trivial
def yn (n : Nat) (a0 a1 a2 a3 a4 a5 : Int) (R : Type) (K : (Int × Int) → Option R) : Option R := (lw n a0 a1 a2 a3 a4).bind fun o371 => (cond (!o371) (K ((0 : Int), (2 : Int))) ((wT n a5).bind fun o372 => (cond o372 (K ((0 : Int), (30 : Int))) ((vD n a0 a1 a2 a3 a4 a5).bind fun o383 => (K (IntKind.i64.wrap ((IntKind.i64.wrap (o383 * (86400 : Int))) + a4), (0 : Int)))))))
def uN n a0 a1 a2 a3 a4 a5 := yn n a0 a1 a2 a3 a4 a5 _ some
abbrev Ii : FS := ⟨[.a [.c, .n, .n, .n, .n], .n], [], [([.n, .n], [])]⟩
def Bt (n : Nat) : FSpec := Ii.sp (uN n)
theorem Df (n : Nat) : FSound Tryz.prog 64 (Bt n) := fs2 (S := Ii) (b := yn n) Tryz.func64 rfl rfl [.tmp 4, .tmp 5] (.s .a (.s (.u (.s (.r [(1, .cl 103 (sI n))]) (.s .a (.s (.p (yF.x (wT n))) .a)))) (.s (.d [(2, .cl 104 (EU n))] [(0, .peek [0] [0]), (2, .part []), (4, .peek [0] [0]), (5, .peek [0] [0])]) .a))) (by (repeat intro _); unfold yn; simp only [aD]) (ai (uj n) (ai (Ja n) (ai (Iq n) trivial)))
def BS (n : Nat) (a0 : Int) (a1 : Bool) (h0 : Int) (h1 : Bool) (h2 : Int) (h3 : Bool) (R : Type) (K : (Int × Bool × Int × Bool) → Option R) : Option R := cond (decide (a0 ≤ h0)) (cond (!h1) (K (h0, true, a0, a1)) (cond (decide (a0 > h2)) (K (h0, true, a0, a1)) (cond (a0 == h2) (cond (!a1) (K (h0, true, a0, a1)) (K (h0, h1, h2, h3))) (K (h0, h1, h2, h3))))) (K (h0, h1, h2, h3))
def xN n a0 a1 h0 h1 h2 h3 := BS n a0 a1 h0 h1 h2 h3 _ some
abbrev Kb : FS := ⟨[.n, .b, .q 0 0, .q 1 0, .q 2 0, .q 3 0], [.c 2 [.n], .c 4 [.b], .c 2 [.n], .c 4 [.b]], [([], [.c 2 [.n], .c 4 [.b], .c 2 [.n], .c 4 [.b]])]⟩
def EW (n : Nat) : FSpec := Kb.sp (xN n)
theorem FO (n : Nat) : FSound Tryz.prog 63 (EW n) := fs2 (S := Kb) (b := BS n) Tryz.func63 rfl rfl [] .a (by (repeat intro _); unfold BS; simp only [aD]) trivial
def vX (n : Nat) (x13 : Int) (h0_0 h0_1 : Str) (h0_2 h0_3 h0_4 h0_5 h0_6 h0_7 h0_8 h0_9 h0_10 h0_11 h0_12 h0_13 h1_0 h2_0 h2_1 h2_2 h3_0 : Int) (h4_0 h5_0 : Bool) (R : Type) (A_ : Int → Str → Str → Int → Int → Int → Int → Int → Int → Int → Int → Int → Int → Int → Int → Int → Int → Int → Int → Int → Bool → Bool → Option R) (K : W10 → Option R) : Option R := cond (decide (x13 < (IntKind.i64.wrap (h2_0 + (2 : Int))))) ((uN n h0_4 h0_5 h0_6 h0_7 h0_8 x13).bind fun o384 => ((uN n h0_9 h0_10 h0_11 h0_12 h0_13 x13).bind fun o385 => ((xN n (IntKind.i64.wrap (o384.1 - h0_2)) true h1_0 h5_0 h3_0 h4_0).bind fun o386 => ((xN n (IntKind.i64.wrap (o385.1 - h0_3)) false o386.1 o386.2.1 o386.2.2.1 o386.2.2.2).bind fun o387 => (A_ (IntKind.i64.wrap (x13 + (1 : Int))) h0_0 h0_1 h0_2 h0_3 h0_4 h0_5 h0_6 h0_7 h0_8 h0_9 h0_10 h0_11 h0_12 h0_13 o387.1 h2_0 h2_1 h2_2 o387.2.2.1 o387.2.2.2 o387.2.1))))) (K (h0_0, h0_1, h0_2, h0_3, h0_4, h0_5, h0_6, h0_7, h0_8, h0_9, h0_10, h0_11, h0_12, h0_13, h1_0, h2_0, h2_1, h2_2, h3_0, h4_0, h5_0))
def lY (n : Nat) : Nat → Int → Str → Str → Int → Int → Int → Int → Int → Int → Int → Int → Int → Int → Int → Int → Int → Int → Int → Int → Int → Bool → Bool → Option (W10)
 | 0, _, _, _, _, _, _, _, _, _, _, _, _, _, _, _, _, _, _, _, _, _, _ => none
 | m + 1, x13, h0_0, h0_1, h0_2, h0_3, h0_4, h0_5, h0_6, h0_7, h0_8, h0_9, h0_10, h0_11, h0_12, h0_13, h1_0, h2_0, h2_1, h2_2, h3_0, h4_0, h5_0 => vX n x13 h0_0 h0_1 h0_2 h0_3 h0_4 h0_5 h0_6 h0_7 h0_8 h0_9 h0_10 h0_11 h0_12 h0_13 h1_0 h2_0 h2_1 h2_2 h3_0 h4_0 h5_0 _ (lY n m) some
abbrev EX : PS := ⟨[10], [(2, .q 0 0), (7, .q 2 0), (12, .f (.func 63) [] [.q 1 0, .q 5 0, .q 3 0, .q 4 0]), (13, .n)], some [.c 87 [.s, .s, .n, .n, .c, .n, .n, .n, .n, .c, .n, .n, .n, .n], .c 2 [.n], .c 45 [.n, .n, .n], .c 2 [.n], .c 4 [.b], .c 4 [.b]], [⟨(.exit 1), [2, 10], [], [.c 87 [.s, .s, .n, .n, .c, .n, .n, .n, .n, .c, .n, .n, .n, .n], .c 2 [.n], .c 45 [.n, .n, .n], .c 2 [.n], .c 4 [.b], .c 4 [.b]], none⟩], none, none⟩
theorem MK (n : Nat) : Snd ⟨Tryz.prog, 0, 82⟩ (EX.x (lY n n)) (fb Tryz.f33 1407) := rW (S := EX) (b := vX n) (f := lY n) n (.s .a (.s (.u (.s (.r [(3, .cl 64 (Bt n)), (6, .tk [51])]) (.s (.r [(3, .cl 64 (Bt n)), (6, .tk [58])]) (.s (.r [(5, .cl 63 (EW n))]) (.r [(5, .cl 63 (EW n))]))))) .a)) (by (repeat intro _); unfold vX; simp only [aD]) (ai (Df n) (ai (Df n) (ai (FO n) (ai (FO n) trivial))))
def yZ (n : Nat) (a0 a1 : Str) (a2 a3 a4 a5 a6 a7 a8 a9 a10 a11 a12 a13 a14 : Int) (R : Type) (K : (Int × Bool) → Option R) : Option R := (sQ n a0 a1 a2 a3 a4 a5 a6 a7 a8 a9 a10 a11 a12 a13).bind fun o368 => (cond (!o368) (K ((0 : Int), false)) (cond (a1 == ([] : Str)) (K (a2, false)) ((vU n (IntKind.i64.wrap ((if (-10000000000 : Int) < (if a14 < (100000000000 : Int) then a14 else (100000000000 : Int)) then (if a14 < (100000000000 : Int) then a14 else (100000000000 : Int)) else (-10000000000 : Int)) + a2)) (86400 : Int)).bind fun o369 => ((rQ n o369).bind fun o370 => ((lY n n (IntKind.i64.wrap (o370.1 - (2 : Int))) a0 a1 a2 a3 a4 a5 a6 a7 a8 a9 a10 a11 a12 a13 (if (-10000000000 : Int) < (if a14 < (100000000000 : Int) then a14 else (100000000000 : Int)) then (if a14 < (100000000000 : Int) then a14 else (100000000000 : Int)) else (-10000000000 : Int)) o370.1 o370.2.1 o370.2.2.1 (0 : Int) false false).bind fun o388 => (cond o388.2.2.2.2.2.2.2.2.2.2.2.2.2.2.2.2.2.2.2.1 (K (o388.2.2.2.1, true)) (K (o388.2.2.1, false))))))))
def qP n a0 a1 a2 a3 a4 a5 a6 a7 a8 a9 a10 a11 a12 a13 a14 := yZ n a0 a1 a2 a3 a4 a5 a6 a7 a8 a9 a10 a11 a12 a13 a14 _ some
abbrev Ni : FS := ⟨[.a [.s, .s, .n, .n, .c, .n, .n, .n, .n, .c, .n, .n, .n, .n], .n], [], [([.n, .b], [])]⟩
def LU (n : Nat) : FSpec := Ni.sp (qP n)
theorem Ny (n : Nat) : FSound Tryz.prog 33 (LU n) := fs2 (S := Ni) (b := yZ n) Tryz.func33 rfl rfl [.tmp 4, .tmp 5] (.s .a (.s (.u (.s (.r [(1, .cl 61 (CS n))]) .a)) (.s .a (.s (.r [(4, .cl 62 (Ig n)), (5, .cl 41 (I7 n)), (8, .tk [31])]) (.s .a (.s .a (.s .a (.s (.s .a (.u (.p (EX.x (lY n n))))) .a)))))))) (by (repeat intro _); unfold yZ; simp only [aD]) (ai (EH n) (ai (KI n) (ai (I8 n) (ai (MK n) trivial))))
def FP (n : Nat) (a0 : Int) (h0 : List (List AV)) (h1 h2 : List Int) (h3 : Str) (h4 : Int) (R : Type) (K : (Bool × (List (List AV)) × (List Int) × (List Int) × Str × Int) → Option R) : Option R := cond (decide (0 ≤ a0)) ((h1[a0.toNat]?).bind fun e391 => (K (decide (e391 > h4), h0, h1, h2, h3, h4))) none
def Jb n a0 h0 h1 h2 h3 h4 := FP n a0 h0 h1 h2 h3 h4 _ some
abbrev Nj : FS := ⟨[.n, .q 0 0, .q 1 0], [.c 26 [.L false 3, .l .i64, .l .i64, .s], .c 2 [.n]], [([.b], [.c 26 [.L false 3, .l .i64, .l .i64, .s], .c 2 [.n]])]⟩
def LV (n : Nat) : FSpec := Nj.sp (Jb n)
theorem Nz (n : Nat) : FSound Tryz.prog 66 (LV n) := fs2 (S := Nj) (b := FP n) Tryz.func66 rfl rfl [.tmp 4] (.s .a (.s (.d [] [(0, .look), (4, .no)]) .a)) (by (repeat intro _); unfold FP; simp only [aD]) trivial
def oL (n : Nat) (x5 x6 : Int) (h0_0 : List (List AV)) (h0_1 h0_2 : List Int) (h0_3 : Str) (h1_0 : Int) (R : Type) (A_ : Int → Int → (List (List AV)) → (List Int) → (List Int) → Str → Int → Option R) (K : W11 → Option R) : Option R := cond (decide (x5 < x6)) ((Jb n (IntKind.i64.wrap (Int.fdiv (IntKind.u64.wrap (IntKind.i64.wrap (x5 + x6))) (2 ^ 1))) h0_0 h0_1 h0_2 h0_3 h1_0).bind fun o392 => (cond (!o392.1) (A_ (IntKind.i64.wrap ((IntKind.i64.wrap (Int.fdiv (IntKind.u64.wrap (IntKind.i64.wrap (x5 + x6))) (2 ^ 1))) + (1 : Int))) x6 o392.2.1 o392.2.2.1 o392.2.2.2.1 o392.2.2.2.2.1 o392.2.2.2.2.2) (A_ x5 (IntKind.i64.wrap (Int.fdiv (IntKind.u64.wrap (IntKind.i64.wrap (x5 + x6))) (2 ^ 1))) o392.2.1 o392.2.2.1 o392.2.2.2.1 o392.2.2.2.2.1 o392.2.2.2.2.2))) (K (x5, h0_0, h0_1, h0_2, h0_3, h1_0))
def jY (n : Nat) : Nat → Int → Int → (List (List AV)) → (List Int) → (List Int) → Str → Int → Option (W11)
 | 0, _, _, _, _, _, _, _ => none
 | m + 1, x5, x6, h0_0, h0_1, h0_2, h0_3, h1_0 => oL n x5 x6 h0_0 h0_1 h0_2 h0_3 h1_0 _ (jY n m) some
abbrev Bu : PS := ⟨[], [(1, .f (.func 66) [] [.q 0 0, .q 1 0]), (5, .n), (6, .n)], some [.c 26 [.L false 3, .l .i64, .l .i64, .s], .c 2 [.n]], [⟨(.exit 0), [], [(5, .n)], [.c 26 [.L false 3, .l .i64, .l .i64, .s], .c 2 [.n]], none⟩], none, none⟩
theorem KJ (n : Nat) : Snd ⟨Tryz.prog, 2, 26⟩ (Bu.x (jY n n)) (fb Tryz.f65 19) := rW (S := Bu) (b := oL n) (f := jY n) n (.s .a (.u (.s .a (.s (.r [(2, .cl 66 (LV n))]) .a)))) (by (repeat intro _); unfold oL; simp only [aD]) (ai (Nz n) trivial)
def BU (n : Nat) (a0 : Int) (h0 : List (List AV)) (h1 h2 : List Int) (h3 : Str) (h4 : Int) (R : Type) (K : W11 → Option R) : Option R := (jY n n (0 : Int) a0 h0 h1 h2 h3 h4).bind fun o393 => (K (o393.1, o393.2.1, o393.2.2.1, o393.2.2.2.1, o393.2.2.2.2.1, o393.2.2.2.2.2))
def Gc n a0 h0 h1 h2 h3 h4 := BU n a0 h0 h1 h2 h3 h4 _ some
abbrev Kc : FS := ⟨[.n, .f (.func 66) [] [.q 0 0, .q 1 0]], [.c 26 [.L false 3, .l .i64, .l .i64, .s], .c 2 [.n]], [([.n], [.c 26 [.L false 3, .l .i64, .l .i64, .s], .c 2 [.n]])]⟩
def Jc (n : Nat) : FSpec := Kc.sp (Gc n)
theorem LW (n : Nat) : FSound Tryz.prog 65 (Jc n) := fs2 (S := Kc) (b := BU n) Tryz.func65 rfl rfl [.tmp 4] (.s .a (.s .a (.s (.u (.p (Bu.x (jY n n)))) .a))) (by (repeat intro _); unfold BU; simp only [aD]) (ai (KJ n) trivial)
def FQ (n : Nat) (a0 : Int) (a1 : Bool) (a2 : Str) (R : Type) (K : Bool → Option R) : Option R := K (!a1)
def Jd n a0 a1 a2 := FQ n a0 a1 a2 _ some
abbrev Nk : FS := ⟨[.a [.n, .b, .s]], [], [([.b], [])]⟩
def LX (n : Nat) : FSpec := Nk.sp (Jd n)
theorem NA (n : Nat) : FSound Tryz.prog 68 (LX n) := fs2 (S := Nk) (b := FQ n) Tryz.func68 rfl rfl [.tmp 2] .a (by (repeat intro _); unfold FQ; simp only [aD]) trivial
def vY (n : Nat) (x0 : List (List AV)) (x7 x8 : Int) (R : Type) (A_ : (List (List AV)) → Int → Int → Option R) (K : ((Int) ⊕ (Unit)) → Option R) : Option R := cond (decide (x8 < x7)) (cond (decide (0 ≤ x8)) ((x0[x8.toNat]?).bind fun e396 => (unc e396 fun c397 r398 => xn .i64 c397 fun x399 => unc r398 fun c400 r401 => zf c400 fun x402 => unc r401 fun c403 r404 => zg c403 fun x405 => unn r404 ((Jd n x399 x402 x405).bind fun o406 => (cond o406 (K (Sum.inl x8)) (A_ x0 x7 (IntKind.i64.wrap (x8 + (1 : Int)))))))) none) (K (Sum.inr ()))
def qQ (n : Nat) : Nat → (List (List AV)) → Int → Int → Option ((Int) ⊕ (Unit))
 | 0, _, _, _ => none
 | m + 1, x0, x7, x8 => vY n x0 x7 x8 _ (qQ n m) some
abbrev EY : PS := ⟨[], [(0, .L false 3), (1, .f (.func 68) [] []), (7, .n), (8, .n)], some [], [⟨.ret, [], [(4, .n)], [], none⟩, ⟨(.exit 0), [], [], [], none⟩], none, none⟩
theorem ML (n : Nat) : Snd ⟨Tryz.prog, 0, 19⟩ (EY.x (qQ n n)) (fb Tryz.f67 21) := rW (S := EY) (b := vY n) (f := qQ n) n (.s .a (.s .a (.s (.u (.s .a (.s (.r [(5, .cl 68 (LX n))]) .a))) .a))) (by (repeat intro _); unfold vY; simp only [aD]) (ai (NA n) trivial)
def FR (n : Nat) (a0 : List (List AV)) (R : Type) (K : Int → Option R) : Option R := (qQ n n a0 (a0.length : Int) (0 : Int)).bind fun o407 => (Sum.elim (fun o408 => K o408) (fun o409 => K (-1 : Int)) o407)
def Je n a0 := FR n a0 _ some
abbrev Nl : FS := ⟨[.L false 3, .f (.func 68) [] []], [], [([.n], [])]⟩
def LY (n : Nat) : FSpec := Nl.sp (Je n)
theorem NB (n : Nat) : FSound Tryz.prog 67 (LY n) := fs2 (S := Nl) (b := FR n) Tryz.func67 rfl rfl [.tmp 4] (.s .a (.s (.s .a (.u (.p (EY.x (qQ n n))))) .a)) (by (repeat intro _); unfold FR; simp only [aD]) (ai (ML n) trivial)
def JD (n : Nat) (a0 : List (List AV)) (a1 a2 : List Int) (a3 : Str) (a4 : Int) (R : Type) (K : Int → Option R) : Option R := (zF n a0 a1 a2 a3).bind fun o390 => (cond (!o390) (K (0 : Int)) ((Gc n (a1.length : Int) a0 a1 a2 a3 a4).bind fun o394 => (cond (decide (o394.1 > (0 : Int))) (cond (decide (0 ≤ (IntKind.i64.wrap (o394.1 - (1 : Int))))) ((o394.2.2.2.1[(IntKind.i64.wrap (o394.1 - (1 : Int))).toNat]?).bind fun e395 => (K e395)) none) ((Je n o394.2.1).bind fun o410 => (K (if (0 : Int) < o410 then o410 else (0 : Int)))))))
def GD n a0 a1 a2 a3 a4 := JD n a0 a1 a2 a3 a4 _ some
abbrev Ql : FS := ⟨[.a [.L false 3, .l .i64, .l .i64, .s], .n], [], [([.n], [])]⟩
def KL (n : Nat) : FSpec := Ql.sp (GD n)
theorem Ke (n : Nat) : FSound Tryz.prog 34 (KL n) := fs2 (S := Ql) (b := JD n) Tryz.func34 rfl rfl [.tmp 4] (.s .a (.s (.s (.r [(1, .cl 50 (FZ n))]) .a) (.s (.r [(4, .cl 65 (Jc n))]) (.s .a (.s (.r [(2, .cl 67 (LY n))]) .a))))) (by (repeat intro _); unfold JD; simp only [aD]) (ai (Gr n) (ai (LW n) (ai (NB n) trivial)))
def nk (n : Nat) (h0_0 : List (List AV)) (h0_1 h0_2 : List Int) (h0_3 h1_0 h1_1 : Str) (h1_2 h1_3 h1_4 h1_5 h1_6 h1_7 h1_8 h1_9 h1_10 h1_11 h1_12 h1_13 h3_0 : Int) (R : Type) (K : (Bool) → Option R) : Option R := (oz n h3_0 h0_0 h0_1 h0_2 h0_3 h1_0 h1_1 h1_2 h1_3 h1_4 h1_5 h1_6 h1_7 h1_8 h1_9 h1_10 h1_11 h1_12 h1_13).bind fun o366 => (K o366)
def pU n h0_0 h0_1 h0_2 h0_3 h1_0 h1_1 h1_2 h1_3 h1_4 h1_5 h1_6 h1_7 h1_8 h1_9 h1_10 h1_11 h1_12 h1_13 h3_0 := nk n h0_0 h0_1 h0_2 h0_3 h1_0 h1_1 h1_2 h1_3 h1_4 h1_5 h1_6 h1_7 h1_8 h1_9 h1_10 h1_11 h1_12 h1_13 h3_0 _ some
abbrev tq : PS := ⟨[5], [(2, .q 2 0), (6, .f (.func 32) [] [.q 2 0, .q 3 0])], some [.c 82 [.L false 3, .l .i64, .l .i64, .s, .q 1 0], .c 87 [.s, .s, .n, .n, .c, .n, .n, .n, .n, .c, .n, .n, .n, .n], .c 27 [.q 0 0], .c 2 [.n]], [⟨.normal, [2, 5], [(23, .b)], [.k 0, .k 1, .k 2, .k 3], none⟩], none, none⟩
theorem Fw (n : Nat) : Snd ⟨Tryz.prog, 2, 52⟩ (tq.x (pU n)) (fb Tryz.f12 79) := kH (S := tq) (b := nk n) (.r [(7, .cl 32 (yY n))]) (by (repeat intro _); unfold nk; simp only [aD]) (ai (ET n) trivial)
def qR (n : Nat) (a0 : Int) (h0 : List (List AV)) (h1 h2 : List Int) (h3 h4 h5 : Str) (h6 h7 h8 h9 h10 h11 h12 h13 h14 h15 h16 h17 : Int) (R : Type) (K : Int → Option R) : Option R := (pU n h0 h1 h2 h3 h4 h5 h6 h7 h8 h9 h10 h11 h12 h13 h14 h15 h16 h17 (if (-10000000000 : Int) < (if a0 < (100000000000 : Int) then a0 else (100000000000 : Int)) then (if a0 < (100000000000 : Int) then a0 else (100000000000 : Int)) else (-10000000000 : Int))).bind fun o367 => (cond o367 ((qP n h4 h5 h6 h7 h8 h9 h10 h11 h12 h13 h14 h15 h16 h17 (if (-10000000000 : Int) < (if a0 < (100000000000 : Int) then a0 else (100000000000 : Int)) then (if a0 < (100000000000 : Int) then a0 else (100000000000 : Int)) else (-10000000000 : Int))).bind fun o389 => (K o389.1)) ((GD n h0 h1 h2 h3 (if (-10000000000 : Int) < (if a0 < (100000000000 : Int) then a0 else (100000000000 : Int)) then (if a0 < (100000000000 : Int) then a0 else (100000000000 : Int)) else (-10000000000 : Int))).bind fun o411 => (cond (decide (0 ≤ o411)) ((h0[o411.toNat]?).bind fun e412 => (unc e412 fun c413 r414 => xn .i64 c413 fun x415 => unc r414 fun c416 r417 => zf c416 fun x418 => unc r417 fun c419 r420 => zg c419 fun x421 => unn r420 (K x415))) none)))
def bY n a0 h0 h1 h2 h3 h4 h5 h6 h7 h8 h9 h10 h11 h12 h13 h14 h15 h16 h17 := qR n a0 h0 h1 h2 h3 h4 h5 h6 h7 h8 h9 h10 h11 h12 h13 h14 h15 h16 h17 _ some
abbrev vZ : FS := ⟨[.q 0 0, .n], [.c 82 [.L false 3, .l .i64, .l .i64, .s, .q 1 0], .c 87 [.s, .s, .n, .n, .c, .n, .n, .n, .n, .c, .n, .n, .n, .n]], [([.n], [.k 0, .k 1])]⟩
def iL (n : Nat) : FSpec := vZ.sp (bY n)
theorem iW (n : Nat) : FSound Tryz.prog 12 (iL n) := fs2 (S := vZ) (b := qR n) Tryz.func12 rfl rfl [.tmp 4] (.s .a (.s .a (.s .a (.s .a (.s (.s (.p (tq.x (pU n))) (.s (.s (.d [(7, .cl 33 (LU n))] [(0, .peek [0, 1, 2] [2]), (1, .peek [0, 1] [0]), (2, .peek [0, 1] [0]), (3, .peek [0, 1] [0]), (4, .peek [1] [1]), (5, .peek [1] [1]), (6, .peek [3] [3]), (7, .part [])]) .a) .a)) (.s (.d [(12, .cl 34 (KL n))] [(0, .peek [0, 1, 2] [2]), (1, .peek [0, 1] [0]), (2, .peek [0, 1] [0]), (3, .peek [0, 1] [0]), (4, .peek [0, 1] [0]), (5, .peek [0, 1] [0]), (6, .peek [0, 1, 2] [2]), (7, .peek [0, 1] [0]), (8, .peek [0, 1] [0]), (9, .peek [0, 1] [0]), (10, .peek [0, 1] [0]), (11, .peek [3] [3]), (12, .part []), (15, .no)]) .a)))))) (by (repeat intro _); unfold qR; simp only [aD]) (ai (Fw n) (ai (Ny n) (ai (Ke n) trivial)))
def kX (n : Nat) (a0 a1 h0 : Int) (h1 : List Int) (h2 : List (List AV)) (h3 h4 : List Int) (h5 h6 h7 : Str) (h8 h9 h10 h11 h12 h13 h14 h15 h16 h17 h18 h19 : Int) (R : Type) (K : (List Int) → Option R) : Option R := cond (decide ((IntKind.i64.wrap (h0 - (IntKind.i64.wrap (a1 * (1000000 : Int))))) ≥ (-10000000000000000 : Int))) (cond (decide ((IntKind.i64.wrap (h0 - (IntKind.i64.wrap (a1 * (1000000 : Int))))) ≤ (100000000000000000 : Int))) ((oq n (IntKind.i64.wrap (h0 - (IntKind.i64.wrap (a1 * (1000000 : Int))))) (1000000 : Int)).bind fun o364 => ((bY n o364 h2 h3 h4 h5 h6 h7 h8 h9 h10 h11 h12 h13 h14 h15 h16 h17 h18 h19).bind fun o422 => (cond (o422 == a1) (cond (decide ((h1.length + ([IntKind.i64.wrap (h0 - (IntKind.i64.wrap (a1 * (1000000 : Int))))] : List Int).length) * 8 ≤ 140737488355328)) (K (h1 ++ ([IntKind.i64.wrap (h0 - (IntKind.i64.wrap (a1 * (1000000 : Int))))] : List Int))) none) (K h1)))) (K h1)) (K h1)
def kY n a0 a1 h0 h1 h2 h3 h4 h5 h6 h7 h8 h9 h10 h11 h12 h13 h14 h15 h16 h17 h18 h19 := kX n a0 a1 h0 h1 h2 h3 h4 h5 h6 h7 h8 h9 h10 h11 h12 h13 h14 h15 h16 h17 h18 h19 _ some
abbrev wW : FS := ⟨[.n, .n, .q 0 0, .q 1 0, .q 2 0], [.c 27 [.q 3 0], .c 2 [.n], .c 23 [.I true .i64], .c 82 [.L false 3, .l .i64, .l .i64, .s, .q 4 0], .c 87 [.s, .s, .n, .n, .c, .n, .n, .n, .n, .c, .n, .n, .n, .n]], [([.x (.bool true)], [.k 0, .k 1, .c 23 [.I true .i64], .k 3, .k 4])]⟩
def wh (n : Nat) : FSpec := wW.sp (kY n)
theorem Cr (n : Nat) : RSound Tryz.prog 0 (wh n) := Um (S := wW) (b := kX n) (nt := 48) (ps := [23, 24]) (sl := [2, 6, 8]) (ca := (Tryz.f20.body.getD .skip).a2.a2.a2.a2.a1.a2.a1.ra) (cb := (Tryz.f20.body.getD .skip).a2.a2.a2.a2.a1.a2.a1.rb) (by kernel_rfl) .a (.u (.s .a (.s (.d [(9, .cl 39 (rP n)), (10, .cl 12 (iL n))] [(7, .peek [0, 3, 4] [0]), (9, .part []), (10, .part [3, 4])]) (.s (.r [(0, .lt), (3, .tk [43]), (4, .tk [46])]) .a)))) (by (repeat intro _); unfold kX; simp only [aD]) trivial (ai (oK n) (ai (iW n) trivial))
def dG (n : Nat) (x3 : Int) (h1_0 : List Int) (h3_0 : Int) (h4_0 : List Int) (h5_0 : List (List AV)) (h5_1 h5_2 : List Int) (h5_3 h6_0 h6_1 : Str) (h6_2 h6_3 h6_4 h6_5 h6_6 h6_7 h6_8 h6_9 h6_10 h6_11 h6_12 h6_13 : Int) (R : Type) (A_ : Int → (List Int) → Int → (List Int) → (List (List AV)) → (List Int) → (List Int) → Str → Str → Str → Int → Int → Int → Int → Int → Int → Int → Int → Int → Int → Int → Int → Option R) (K : ((List Int)) → Option R) : Option R := cond (decide (x3 ≥ (0 : Int))) (cond (decide (0 ≤ x3)) ((h1_0[x3.toNat]?).bind fun e363 => ((kY n x3 e363 h3_0 h4_0 h5_0 h5_1 h5_2 h5_3 h6_0 h6_1 h6_2 h6_3 h6_4 h6_5 h6_6 h6_7 h6_8 h6_9 h6_10 h6_11 h6_12 h6_13).bind fun o423 => (A_ (IntKind.i64.wrap (x3 - (1 : Int))) h1_0 h3_0 o423 h5_0 h5_1 h5_2 h5_3 h6_0 h6_1 h6_2 h6_3 h6_4 h6_5 h6_6 h6_7 h6_8 h6_9 h6_10 h6_11 h6_12 h6_13))) none) (K h4_0)
def aV (n : Nat) : Nat → Int → (List Int) → Int → (List Int) → (List (List AV)) → (List Int) → (List Int) → Str → Str → Str → Int → Int → Int → Int → Int → Int → Int → Int → Int → Int → Int → Int → Option (((List Int)))
 | 0, _, _, _, _, _, _, _, _, _, _, _, _, _, _, _, _, _, _, _, _, _, _ => none
 | m + 1, x3, h1_0, h3_0, h4_0, h5_0, h5_1, h5_2, h5_3, h6_0, h6_1, h6_2, h6_3, h6_4, h6_5, h6_6, h6_7, h6_8, h6_9, h6_10, h6_11, h6_12, h6_13 => dG n x3 h1_0 h3_0 h4_0 h5_0 h5_1 h5_2 h5_3 h6_0 h6_1 h6_2 h6_3 h6_4 h6_5 h6_6 h6_7 h6_8 h6_9 h6_10 h6_11 h6_12 h6_13 _ (aV n m) some
abbrev jZ : PS := ⟨[], [(0, .x (.yld 0)), (1, .q 1 0), (3, .n)], some [.lp 0 [.q 2 0, .q 3 0, .q 4 0], .c 24 [.l .i64], .c 27 [.q 5 0], .c 2 [.n], .c 23 [.I true .i64], .c 82 [.L false 3, .l .i64, .l .i64, .s, .q 6 0], .c 87 [.s, .s, .n, .n, .c, .n, .n, .n, .n, .c, .n, .n, .n, .n]], [⟨(.exit 0), [], [], [.k 0, .k 1, .k 2, .k 3, .c 23 [.I true .i64], .k 5, .k 6], none⟩], none, none⟩
theorem yG (n : Nat) : Snd ⟨Tryz.prog, 7, 19⟩ (jZ.x (aV n n)) (fb Tryz.f77 5) := rW (S := jZ) (b := dG n) (f := aV n) n (.s .a (.s (.u (.s (.r [(6, .cy 0 (wh n))]) .a)) .a)) (by (repeat intro _); unfold dG; simp only [aD]) (ai (Cr n) trivial)
def iH (n : Nat) (h0 : List Int) (h1 : Int) (h2 : List Int) (h3 : List (List AV)) (h4 h5 : List Int) (h6 h7 h8 : Str) (h9 h10 h11 h12 h13 h14 h15 h16 h17 h18 h19 h20 : Int) (R : Type) (K : (List Int) → Option R) : Option R := (aV n n (IntKind.i64.wrap ((h0.length : Int) - (1 : Int))) h0 h1 h2 h3 h4 h5 h6 h7 h8 h9 h10 h11 h12 h13 h14 h15 h16 h17 h18 h19 h20).bind fun o424 => (K o424)
def mG n h0 h1 h2 h3 h4 h5 h6 h7 h8 h9 h10 h11 h12 h13 h14 h15 h16 h17 h18 h19 h20 := iH n h0 h1 h2 h3 h4 h5 h6 h7 h8 h9 h10 h11 h12 h13 h14 h15 h16 h17 h18 h19 h20 _ some
abbrev tT : FS := ⟨[.x (.yld 0), .q 1 0], [.lp 0 [.q 2 0, .q 3 0, .q 4 0], .c 24 [.l .i64], .c 27 [.q 5 0], .c 2 [.n], .c 23 [.I true .i64], .c 82 [.L false 3, .l .i64, .l .i64, .s, .q 6 0], .c 87 [.s, .s, .n, .n, .c, .n, .n, .n, .n, .c, .n, .n, .n, .n]], [([], [.k 0, .k 1, .k 2, .k 3, .c 23 [.I true .i64], .k 5, .k 6])]⟩
def tu (n : Nat) : FSpec := tT.sp (mG n)
theorem zo (n : Nat) : FSound Tryz.prog 77 (tu n) := fs2 (S := tT) (b := iH n) Tryz.func77 rfl rfl [] (.s .a (.u (.p (jZ.x (aV n n))))) (by (repeat intro _); unfold iH; simp only [aD]) (ai (yG n) trivial)
def kg (n : Nat) (a0 a1 a2 a3 a4 a5 a6 : Int) (h0 : List (List AV)) (h1 h2 : List Int) (h3 h4 h5 : Str) (h6 h7 h8 h9 h10 h11 h12 h13 h14 h15 h16 h17 : Int) (R : Type) (K : ((List Int) × Int) → Option R) : Option R := (bq n a0 a1 a2 a3 a4 a5 a6).bind fun o337 => (cond (o337.2 != (0 : Int)) (K (([] : List Int), o337.2)) ((pR n h0 h1 h2 h3 h4 h5 h6 h7 h8 h9 h10 h11 h12 h13 h14 h15 h16 h17).bind fun o361 => ((dz n o361).bind fun o362 => ((mG n o362 o337.1 ([] : List Int) h0 h1 h2 h3 h4 h5 h6 h7 h8 h9 h10 h11 h12 h13 h14 h15 h16 h17).bind fun o425 => (K (o425, (0 : Int)))))))
def dH n a0 a1 a2 a3 a4 a5 a6 h0 h1 h2 h3 h4 h5 h6 h7 h8 h9 h10 h11 h12 h13 h14 h15 h16 h17 := kg n a0 a1 a2 a3 a4 a5 a6 h0 h1 h2 h3 h4 h5 h6 h7 h8 h9 h10 h11 h12 h13 h14 h15 h16 h17 _ some
abbrev uy : FS := ⟨[.q 0 0, .a [.n, .n, .n, .n, .n, .n, .n]], [.c 82 [.L false 3, .l .i64, .l .i64, .s, .q 1 0], .c 87 [.s, .s, .n, .n, .c, .n, .n, .n, .n, .c, .n, .n, .n, .n]], [([.I true .i64, .n], [.k 0, .k 1])]⟩
def y5 (n : Nat) : FSpec := uy.sp (dH n)
theorem EZ (n : Nat) : FSound Tryz.prog 20 (y5 n) := fs2 (S := uy) (b := kg n) Tryz.func20 rfl rfl [.tmp 4, .tmp 5] (.s .a (.s (.r [(1, .cl 21 (sZ n)), (4, .tk [12])]) (.s .a (.s .a (.s (.s (.r [(1, .cl 15 (Ah n)), (2, .cl 42 (jW n))]) (.u (.p (Mk 0 [2, 6, 8] (tu n) 77 (.tmp 22))))) (.s (.r [(0, .lt), (1, .tk [47])]) .a)))))) (by (repeat intro _); unfold kg; simp only [aD]) (ai (qN n) (ai (Fv n) (ai (mD n) (ai (Kv (c := ⟨Tryz.prog, 2, 48⟩) (key := 0) (ts := [2, 6, 8]) (u := 22) (cd := (Tryz.f20.body.getD .skip).a2.a2.a2.a2.a1.a2.a1) (by kernel_rfl) (by kernel_rfl) (zo n)) trivial))))
def iX (n : Nat) (x15 : List (List AV)) (x16 x17 : Int) (h0_0 : List (List AV)) (h0_1 h0_2 : List Int) (h0_3 : Str) (h1_0 : List (Int × Int)) (R : Type) (A_ : (List (List AV)) → Int → Int → (List (List AV)) → (List Int) → (List Int) → Str → (List (Int × Int)) → Option R) (K : ((List (Int × Int))) → Option R) : Option R := cond (decide (x17 < x16)) (cond (decide (0 ≤ x17)) ((x15[x17.toNat]?).bind fun e441 => (unc e441 fun c442 r443 => xn .i64 c442 fun x444 => unc r443 fun c445 r446 => zf c445 fun x447 => unc r446 fun c448 r449 => zg c448 fun x450 => unn r449 (cond (qB x444 && qB (1 : Int)) (A_ x15 x16 (IntKind.i64.wrap (x17 + (1 : Int))) h0_0 h0_1 h0_2 h0_3 (yo h1_0 x444 (1 : Int))) none))) none) (K h1_0)
def dI (n : Nat) : Nat → (List (List AV)) → Int → Int → (List (List AV)) → (List Int) → (List Int) → Str → (List (Int × Int)) → Option (((List (Int × Int))))
 | 0, _, _, _, _, _, _, _, _ => none
 | m + 1, x15, x16, x17, h0_0, h0_1, h0_2, h0_3, h1_0 => iX n x15 x16 x17 h0_0 h0_1 h0_2 h0_3 h1_0 _ (dI n m) some
abbrev rT : PS := ⟨[], [(0, .q 0 0), (3, .x (.map (some 1))), (15, .L false 3), (16, .n), (17, .n)], some [.c 82 [.L false 3, .l .i64, .l .i64, .s, .x (.ptr none)], .mI], [⟨(.exit 0), [0, 3], [], [.k 0, .mI], none⟩], (some 1), (some 1)⟩
theorem E5 (n : Nat) : Snd ⟨Tryz.prog, 1, 57⟩ (rT.x (dI n n)) (fb Tryz.f15 87) := rW (S := rT) (b := iX n) (f := dI n) n (.s .a (.s .a (.s (.u (.s .a (.r [(3, .mi)]))) .a))) (by (repeat intro _); unfold iX; simp only [aD]) trivial
def pV (n : Nat) (h0 : List (List AV)) (h1 h2 : List Int) (h3 : Str) (R : Type) (K : (List Int) → Option R) : Option R := (dI n n h0 (h0.length : Int) (0 : Int) h0 h1 h2 h3 ([] : List (Int × Int))).bind fun o451 => ((bU n o451).bind fun o452 => (cond (decide (o452.length * 8 ≤ 140737488355328) && o452.all fun p => qB p.1 && qB p.2) (K ((o452.map (·.1)).mergeSort leI)) none))
def pW n h0 h1 h2 h3 := pV n h0 h1 h2 h3 _ some
abbrev A9 : FS := ⟨[.q 0 0], [.c 82 [.L false 3, .l .i64, .l .i64, .s, .x (.ptr none)]], [([.I true .i64], [.k 0])]⟩
def Ak (n : Nat) : FSpec := A9.sp (pW n)
theorem Fx (n : Nat) : FSound Tryz.prog 15 (Ak n) := fs2 (S := A9) (b := pV n) Tryz.func15 rfl rfl [.tmp 2] (.s .a (.s .a (.s (.r [(0, .mi)]) (.s (.s .a (.u (.p (rT.x (dI n n))))) (.s .a (.s (.r [(1, .cl 38 (jX n)), (2, .cl 37 (vT n)), (3, .tk [56])]) .a)))))) (by (repeat intro _); unfold pV; simp only [aD]) (ai (E5 n) (ai (oI n) (ai (yX n) trivial)))
def nu (n : Nat) (h0_0 : List (List AV)) (h0_1 h0_2 : List Int) (h0_3 : Str) (h2_0 : Int) (R : Type) (K : (Unit) → Option R) : Option R := K ()
def pX n h0_0 h0_1 h0_2 h0_3 h2_0 := nu n h0_0 h0_1 h0_2 h0_3 h2_0 _ some
abbrev tC : PS := ⟨[5], [(2, .q 1 0), (6, .f (.func 32) [] [.q 1 0, .q 2 0])], some [.c 82 [.L false 3, .l .i64, .l .i64, .s, .x (.ptr none)], .c 27 [.q 0 0], .c 2 [.n]], [⟨.normal, [2, 5], [(23, .x (.bool false))], [.k 0, .k 1, .k 2], none⟩], none, none⟩
theorem Fy (n : Nat) : Snd ⟨Tryz.prog, 1, 52⟩ (tC.x (pX n)) (fb Tryz.f12 79) := kH (S := tC) (b := nu n) .a (by (repeat intro _); unfold nu; simp only [aD]) trivial
def qU (n : Nat) (a0 : Int) (h0 : List (List AV)) (h1 h2 : List Int) (h3 : Str) (R : Type) (K : Int → Option R) : Option R := (pX n h0 h1 h2 h3 (if (-10000000000 : Int) < (if a0 < (100000000000 : Int) then a0 else (100000000000 : Int)) then (if a0 < (100000000000 : Int) then a0 else (100000000000 : Int)) else (-10000000000 : Int))).bind fun o457 => ((GD n h0 h1 h2 h3 (if (-10000000000 : Int) < (if a0 < (100000000000 : Int) then a0 else (100000000000 : Int)) then (if a0 < (100000000000 : Int) then a0 else (100000000000 : Int)) else (-10000000000 : Int))).bind fun o458 => (cond (decide (0 ≤ o458)) ((h0[o458.toNat]?).bind fun e459 => (unc e459 fun c460 r461 => xn .i64 c460 fun x462 => unc r461 fun c463 r464 => zf c463 fun x465 => unc r464 fun c466 r467 => zg c466 fun x468 => unn r467 (K x462))) none))
def bZ n a0 h0 h1 h2 h3 := qU n a0 h0 h1 h2 h3 _ some
abbrev Cs : FS := ⟨[.q 0 0, .n], [.c 82 [.L false 3, .l .i64, .l .i64, .s, .x (.ptr none)]], [([.n], [.k 0])]⟩
def iM (n : Nat) : FSpec := Cs.sp (bZ n)
theorem iY (n : Nat) : FSound Tryz.prog 12 (iM n) := fs2 (S := Cs) (b := qU n) Tryz.func12 rfl rfl [.tmp 4] (.s .a (.s .a (.s .a (.s .a (.s (.s (.p (tC.x (pX n))) (.s (.s (.d [] [(0, .no), (3, .no), (5, .no), (6, .no)]) .a) .a)) (.s (.d [(12, .cl 34 (KL n))] [(0, .peek [0, 1] [1]), (1, .peek [0] [0]), (2, .peek [0] [0]), (3, .peek [0] [0]), (4, .peek [0] [0]), (5, .peek [0] [0]), (6, .peek [0, 1] [1]), (7, .peek [0] [0]), (8, .peek [0] [0]), (9, .peek [0] [0]), (10, .peek [0] [0]), (11, .peek [2] [2]), (12, .part []), (15, .no)]) .a)))))) (by (repeat intro _); unfold qU; simp only [aD]) (ai (Fy n) (ai (Ke n) trivial))
def kZ (n : Nat) (a0 a1 h0 : Int) (h1 : List Int) (h2 : List (List AV)) (h3 h4 : List Int) (h5 : Str) (R : Type) (K : (List Int) → Option R) : Option R := cond (decide ((IntKind.i64.wrap (h0 - (IntKind.i64.wrap (a1 * (1000000 : Int))))) ≥ (-10000000000000000 : Int))) (cond (decide ((IntKind.i64.wrap (h0 - (IntKind.i64.wrap (a1 * (1000000 : Int))))) ≤ (100000000000000000 : Int))) ((oq n (IntKind.i64.wrap (h0 - (IntKind.i64.wrap (a1 * (1000000 : Int))))) (1000000 : Int)).bind fun o456 => ((bZ n o456 h2 h3 h4 h5).bind fun o469 => (cond (o469 == a1) (cond (decide ((h1.length + ([IntKind.i64.wrap (h0 - (IntKind.i64.wrap (a1 * (1000000 : Int))))] : List Int).length) * 8 ≤ 140737488355328)) (K (h1 ++ ([IntKind.i64.wrap (h0 - (IntKind.i64.wrap (a1 * (1000000 : Int))))] : List Int))) none) (K h1)))) (K h1)) (K h1)
def lg n a0 a1 h0 h1 h2 h3 h4 h5 := kZ n a0 a1 h0 h1 h2 h3 h4 h5 _ some
abbrev wX : FS := ⟨[.n, .n, .q 0 0, .q 1 0, .q 2 0], [.c 27 [.q 3 0], .c 2 [.n], .c 23 [.I true .i64], .c 82 [.L false 3, .l .i64, .l .i64, .s, .x (.ptr none)]], [([.x (.bool true)], [.k 0, .k 1, .c 23 [.I true .i64], .k 3])]⟩
def wm (n : Nat) : FSpec := wX.sp (lg n)
theorem Ct (n : Nat) : RSound Tryz.prog 0 (wm n) := Um (S := wX) (b := kZ n) (nt := 48) (ps := [23, 24]) (sl := [2, 6, 8]) (ca := (Tryz.f20.body.getD .skip).a2.a2.a2.a2.a1.a2.a1.ra) (cb := (Tryz.f20.body.getD .skip).a2.a2.a2.a2.a1.a2.a1.rb) (by kernel_rfl) .a (.u (.s .a (.s (.d [(9, .cl 39 (rP n)), (10, .cl 12 (iM n))] [(7, .peek [0, 3] [0]), (9, .part []), (10, .part [3])]) (.s (.r [(0, .lt), (3, .tk [43]), (4, .tk [46])]) .a)))) (by (repeat intro _); unfold kZ; simp only [aD]) trivial (ai (oK n) (ai (iY n) trivial))
def dJ (n : Nat) (x3 : Int) (h1_0 : List Int) (h3_0 : Int) (h4_0 : List Int) (h5_0 : List (List AV)) (h5_1 h5_2 : List Int) (h5_3 : Str) (R : Type) (A_ : Int → (List Int) → Int → (List Int) → (List (List AV)) → (List Int) → (List Int) → Str → Option R) (K : ((List Int)) → Option R) : Option R := cond (decide (x3 ≥ (0 : Int))) (cond (decide (0 ≤ x3)) ((h1_0[x3.toNat]?).bind fun e455 => ((lg n x3 e455 h3_0 h4_0 h5_0 h5_1 h5_2 h5_3).bind fun o470 => (A_ (IntKind.i64.wrap (x3 - (1 : Int))) h1_0 h3_0 o470 h5_0 h5_1 h5_2 h5_3))) none) (K h4_0)
def aW (n : Nat) : Nat → Int → (List Int) → Int → (List Int) → (List (List AV)) → (List Int) → (List Int) → Str → Option (((List Int)))
 | 0, _, _, _, _, _, _, _, _ => none
 | m + 1, x3, h1_0, h3_0, h4_0, h5_0, h5_1, h5_2, h5_3 => dJ n x3 h1_0 h3_0 h4_0 h5_0 h5_1 h5_2 h5_3 _ (aW n m) some
abbrev ko : PS := ⟨[], [(0, .x (.yld 0)), (1, .q 1 0), (3, .n)], some [.lp 0 [.q 2 0, .q 3 0, .q 4 0], .c 24 [.l .i64], .c 27 [.q 5 0], .c 2 [.n], .c 23 [.I true .i64], .c 82 [.L false 3, .l .i64, .l .i64, .s, .x (.ptr none)]], [⟨(.exit 0), [], [], [.k 0, .k 1, .k 2, .k 3, .c 23 [.I true .i64], .k 5], none⟩], none, none⟩
theorem yH (n : Nat) : Snd ⟨Tryz.prog, 6, 19⟩ (ko.x (aW n n)) (fb Tryz.f77 5) := rW (S := ko) (b := dJ n) (f := aW n) n (.s .a (.s (.u (.s (.r [(6, .cy 0 (wm n))]) .a)) .a)) (by (repeat intro _); unfold dJ; simp only [aD]) (ai (Ct n) trivial)
def iI (n : Nat) (h0 : List Int) (h1 : Int) (h2 : List Int) (h3 : List (List AV)) (h4 h5 : List Int) (h6 : Str) (R : Type) (K : (List Int) → Option R) : Option R := (aW n n (IntKind.i64.wrap ((h0.length : Int) - (1 : Int))) h0 h1 h2 h3 h4 h5 h6).bind fun o471 => (K o471)
def mH n h0 h1 h2 h3 h4 h5 h6 := iI n h0 h1 h2 h3 h4 h5 h6 _ some
abbrev tV : FS := ⟨[.x (.yld 0), .q 1 0], [.lp 0 [.q 2 0, .q 3 0, .q 4 0], .c 24 [.l .i64], .c 27 [.q 5 0], .c 2 [.n], .c 23 [.I true .i64], .c 82 [.L false 3, .l .i64, .l .i64, .s, .x (.ptr none)]], [([], [.k 0, .k 1, .k 2, .k 3, .c 23 [.I true .i64], .k 5])]⟩
def tF (n : Nat) : FSpec := tV.sp (mH n)
theorem zq (n : Nat) : FSound Tryz.prog 77 (tF n) := fs2 (S := tV) (b := iI n) Tryz.func77 rfl rfl [] (.s .a (.u (.p (ko.x (aW n n))))) (by (repeat intro _); unfold iI; simp only [aD]) (ai (yH n) trivial)
def kr (n : Nat) (a0 a1 a2 a3 a4 a5 a6 : Int) (h0 : List (List AV)) (h1 h2 : List Int) (h3 : Str) (R : Type) (K : ((List Int) × Int) → Option R) : Option R := (bq n a0 a1 a2 a3 a4 a5 a6).bind fun o430 => (cond (o430.2 != (0 : Int)) (K (([] : List Int), o430.2)) ((pW n h0 h1 h2 h3).bind fun o453 => ((dz n o453).bind fun o454 => ((mH n o454 o430.1 ([] : List Int) h0 h1 h2 h3).bind fun o472 => (K (o472, (0 : Int)))))))
def dK n a0 a1 a2 a3 a4 a5 a6 h0 h1 h2 h3 := kr n a0 a1 a2 a3 a4 a5 a6 h0 h1 h2 h3 _ some
abbrev Al : FS := ⟨[.q 0 0, .a [.n, .n, .n, .n, .n, .n, .n]], [.c 82 [.L false 3, .l .i64, .l .i64, .s, .x (.ptr none)]], [([.I true .i64, .n], [.k 0])]⟩
def y7 (n : Nat) : FSpec := Al.sp (dK n)
theorem E8 (n : Nat) : FSound Tryz.prog 20 (y7 n) := fs2 (S := Al) (b := kr n) Tryz.func20 rfl rfl [.tmp 4, .tmp 5] (.s .a (.s (.r [(1, .cl 21 (sZ n)), (4, .tk [12])]) (.s .a (.s .a (.s (.s (.r [(1, .cl 15 (Ak n)), (2, .cl 42 (jW n))]) (.u (.p (Mk 0 [2, 6, 8] (tF n) 77 (.tmp 22))))) (.s (.r [(0, .lt), (1, .tk [47])]) .a)))))) (by (repeat intro _); unfold kr; simp only [aD]) (ai (qN n) (ai (Fx n) (ai (mD n) (ai (Kv (c := ⟨Tryz.prog, 1, 48⟩) (key := 0) (ts := [2, 6, 8]) (u := 22) (cd := (Tryz.f20.body.getD .skip).a2.a2.a2.a2.a1.a2.a1) (by kernel_rfl) (by kernel_rfl) (zq n)) trivial))))
def ku (n : Nat) : FSpec := Nc vS.p (A7 n) (Nc uy.p (y5 n) (y7 n))
theorem mJ (n : Nat) : FSound Tryz.prog 20 (ku n) := yL (Gb n) (yL (EZ n) (E8 n))
def oC (n : Nat) (R : Type) (K : Bool → Option R) : Option R := (fT n (0 : Int)).bind fun o307 => ((Bn n ([[.int .i64 (0 : Int), .bool false, .str ([88] : Str)]] : List (List AV)) ([] : List Int) ([] : List Int) ([67, 69, 84, 45, 49, 67, 69, 83, 84, 44, 77, 51, 46, 53, 46, 48, 44, 77, 49, 48, 46, 53, 46, 48, 47, 51] : Str)).bind fun o308 => (Sum.elim (fun o309 => (eG n (2026 : Int) (3 : Int) (29 : Int) (2 : Int) (30 : Int) (0 : Int) (0 : Int)).bind fun o331 => ((eG n (2026 : Int) (10 : Int) (25 : Int) (2 : Int) (30 : Int) (0 : Int) (0 : Int)).bind fun o332 => (cond (o307.2.2.2.2.2.2.2 == (0 : Int)) (cond ((o307.1 == (1970 : Int)) && ((o307.2.1 == (1 : Int)) && ((o307.2.2.1 == (1 : Int)) && ((o307.2.2.2.1 == (0 : Int)) && ((o307.2.2.2.2.1 == (0 : Int)) && ((o307.2.2.2.2.2.1 == (0 : Int)) && ((o307.2.2.2.2.2.2.1 == (0 : Int)) && true))))))) (cond (o309 == (0 : Int)) (cond (o331.2 == (0 : Int)) (cond ((o331.1.length : Int) == (0 : Int)) (cond (o332.2 == (0 : Int)) (cond ((o332.1.length : Int) == (2 : Int)) ((o332.1[1]?).bind fun e333 => ((o332.1[0]?).bind fun e334 => (K ((IntKind.i64.wrap (e333 - e334)) == (3600000000 : Int))))) (K false)) (K false)) (K false)) (K false)) (K false)) (K false)) (K false)))) (fun o310 => Sum.elim (fun o335 => (dH n (2026 : Int) (3 : Int) (29 : Int) (2 : Int) (30 : Int) (0 : Int) (0 : Int) o335.1 o335.2.1 o335.2.2.1 o335.2.2.2.1 o335.2.2.2.2.1 o335.2.2.2.2.2.1 o335.2.2.2.2.2.2.1 o335.2.2.2.2.2.2.2.1 o335.2.2.2.2.2.2.2.2.1 o335.2.2.2.2.2.2.2.2.2.1 o335.2.2.2.2.2.2.2.2.2.2.1 o335.2.2.2.2.2.2.2.2.2.2.2.1 o335.2.2.2.2.2.2.2.2.2.2.2.2.1 o335.2.2.2.2.2.2.2.2.2.2.2.2.2.1 o335.2.2.2.2.2.2.2.2.2.2.2.2.2.2.1 o335.2.2.2.2.2.2.2.2.2.2.2.2.2.2.2.1 o335.2.2.2.2.2.2.2.2.2.2.2.2.2.2.2.2.1 o335.2.2.2.2.2.2.2.2.2.2.2.2.2.2.2.2.2).bind fun o426 => ((dH n (2026 : Int) (10 : Int) (25 : Int) (2 : Int) (30 : Int) (0 : Int) (0 : Int) o335.1 o335.2.1 o335.2.2.1 o335.2.2.2.1 o335.2.2.2.2.1 o335.2.2.2.2.2.1 o335.2.2.2.2.2.2.1 o335.2.2.2.2.2.2.2.1 o335.2.2.2.2.2.2.2.2.1 o335.2.2.2.2.2.2.2.2.2.1 o335.2.2.2.2.2.2.2.2.2.2.1 o335.2.2.2.2.2.2.2.2.2.2.2.1 o335.2.2.2.2.2.2.2.2.2.2.2.2.1 o335.2.2.2.2.2.2.2.2.2.2.2.2.2.1 o335.2.2.2.2.2.2.2.2.2.2.2.2.2.2.1 o335.2.2.2.2.2.2.2.2.2.2.2.2.2.2.2.1 o335.2.2.2.2.2.2.2.2.2.2.2.2.2.2.2.2.1 o335.2.2.2.2.2.2.2.2.2.2.2.2.2.2.2.2.2).bind fun o427 => (cond (o307.2.2.2.2.2.2.2 == (0 : Int)) (cond ((o307.1 == (1970 : Int)) && ((o307.2.1 == (1 : Int)) && ((o307.2.2.1 == (1 : Int)) && ((o307.2.2.2.1 == (0 : Int)) && ((o307.2.2.2.2.1 == (0 : Int)) && ((o307.2.2.2.2.2.1 == (0 : Int)) && ((o307.2.2.2.2.2.2.1 == (0 : Int)) && true))))))) (cond (o426.2 == (0 : Int)) (cond ((o426.1.length : Int) == (0 : Int)) (cond (o427.2 == (0 : Int)) (cond ((o427.1.length : Int) == (2 : Int)) ((o427.1[1]?).bind fun e428 => ((o427.1[0]?).bind fun e429 => (K ((IntKind.i64.wrap (e428 - e429)) == (3600000000 : Int))))) (K false)) (K false)) (K false)) (K false)) (K false)) (K false)))) (fun o336 => (dK n (2026 : Int) (3 : Int) (29 : Int) (2 : Int) (30 : Int) (0 : Int) (0 : Int) o336.1 o336.2.1 o336.2.2.1 o336.2.2.2).bind fun o473 => ((dK n (2026 : Int) (10 : Int) (25 : Int) (2 : Int) (30 : Int) (0 : Int) (0 : Int) o336.1 o336.2.1 o336.2.2.1 o336.2.2.2).bind fun o474 => (cond (o307.2.2.2.2.2.2.2 == (0 : Int)) (cond ((o307.1 == (1970 : Int)) && ((o307.2.1 == (1 : Int)) && ((o307.2.2.1 == (1 : Int)) && ((o307.2.2.2.1 == (0 : Int)) && ((o307.2.2.2.2.1 == (0 : Int)) && ((o307.2.2.2.2.2.1 == (0 : Int)) && ((o307.2.2.2.2.2.2.1 == (0 : Int)) && true))))))) (cond (o473.2 == (0 : Int)) (cond ((o473.1.length : Int) == (0 : Int)) (cond (o474.2 == (0 : Int)) (cond ((o474.1.length : Int) == (2 : Int)) ((o474.1[1]?).bind fun e475 => ((o474.1[0]?).bind fun e476 => (K ((IntKind.i64.wrap (e475 - e476)) == (3600000000 : Int))))) (K false)) (K false)) (K false)) (K false)) (K false)) (K false)))) o310) o308))
def bE n := oC n _ some
abbrev Am : FS := ⟨[], [], [([.b], [])]⟩
def tH (n : Nat) : FSpec := Am.sp (bE n)
theorem wo (n : Nat) : FSound Tryz.prog 10 (tH n) := fs2 (S := Am) (b := oC n) Tryz.func10 rfl rfl [.tmp 0] (.s .a (.s .a (.s (.r [(1, .cl 17 (uq n)), (4, .tk [10])]) (.s (.r [(2, .tk [17]), (3, .cl 27 (IZ n)), (6, .tk [15])]) (.s (.r [(3, .cl 20 (ku n)), (4, .tk [26]), (6, .tk [22])]) (.s (.r [(3, .cl 20 (ku n)), (4, .tk [33]), (6, .tk [29])]) (.s (.d [] [(33, .no), (36, .no)]) .a))))))) (by (repeat intro _); unfold oC; simp only [aD]) (ai (u6 n) (ai (I1 n) (ai (mJ n) (ai (mJ n) trivial))))
def oD (n : Nat) (a0 a1 : Int) (R : Type) (K : Int → Option R) : Option R := cond (a1 == 0) none (cond (a1 == 0) none (cond (decide ((Int.tmod a0 a1) < (0 : Int))) (K (IntKind.i64.wrap ((IntKind.i64.wrap (Int.tdiv a0 a1)) - (1 : Int)))) (K (IntKind.i64.wrap (Int.tdiv a0 a1)))))
def aF n a0 a1 := oD n a0 a1 _ some
abbrev Ao : FS := ⟨[.n, .n], [], [([.n], [])]⟩
def bM (n : Nat) : FSpec := Ao.sp (aF n)
theorem bH (n : Nat) : FSound Tryz.prog 11 (bM n) := fs2 (S := Ao) (b := oD n) Tryz.func11 rfl rfl [.tmp 4] .a (by (repeat intro _); unfold oD; simp only [aD]) trivial
end Go.Proofs.YtiegmpnagcdgoaaGreatDoor.H
namespace Go.Proofs.YtiegmpnagcdgoaaGreatDoor.H
open Go.Sh Go.RowKit
set_option linter.unusedVariables false
set_option linter.unusedSimpArgs false
set_option maxHeartbeats 4000000
set_option maxRecDepth 100000
def Ap (n : Nat) (a0 a1 : Int) (R : Type) (K : Int → Option R) : Option R := cond (a1 == 0) none (cond (a1 == 0) none (cond (decide ((Int.tmod a0 a1) < (0 : Int))) (K (IntKind.i64.wrap ((IntKind.i64.wrap (Int.tdiv a0 a1)) - (1 : Int)))) (K (IntKind.i64.wrap (Int.tdiv a0 a1)))))
def oF n a0 a1 := Ap n a0 a1 _ some
def Ba (n : Nat) (a0 : Int) (R : Type) (K : Bool → Option R) : Option R := cond ((Int.tmod a0 (4 : Int)) == (0 : Int)) (cond ((Int.tmod a0 (100 : Int)) != (0 : Int)) (K true) (K ((Int.tmod a0 (400 : Int)) == (0 : Int)))) (K false)
def iN n a0 := Ba n a0 _ some
def wu (n : Nat) (x3 x4 : Int) (R : Type) (K : (Int) → Option R) : Option R := (iN n x4).bind fun o484 => (cond o484 (K (IntKind.i64.wrap ((IntKind.i64.wrap (x3 + (365 : Int))) + (1 : Int)))) (K (IntKind.i64.wrap (x3 + (365 : Int)))))
def xO n x3 x4 := wu n x3 x4 _ some
def oV (n : Nat) (x0 x3 x4 : Int) (R : Type) (A_ : Int → Int → Int → Option R) (K : (Int) → Option R) : Option R := cond (decide (x4 < x0)) ((xO n x3 x4).bind fun o485 => (A_ x0 o485 (IntKind.i64.wrap (x4 + (1 : Int))))) (K x3)
def fG (n : Nat) : Nat → Int → Int → Int → Option ((Int))
 | 0, _, _, _ => none
 | m + 1, x0, x3, x4 => oV n x0 x3 x4 _ (fG n m) some
def ww (n : Nat) (x3 x5 : Int) (R : Type) (K : (Int) → Option R) : Option R := (iN n x5).bind fun o487 => (cond o487 (K (IntKind.i64.wrap ((IntKind.i64.wrap (x3 - (365 : Int))) - (1 : Int)))) (K (IntKind.i64.wrap (x3 - (365 : Int)))))
def xP n x3 x5 := ww n x3 x5 _ some
def oW (n : Nat) (x3 x5 : Int) (R : Type) (A_ : Int → Int → Option R) (K : (Int) → Option R) : Option R := cond (decide (x5 < (1970 : Int))) ((xP n x3 x5).bind fun o488 => (A_ o488 (IntKind.i64.wrap (x5 + (1 : Int))))) (K x3)
def iZ (n : Nat) : Nat → Int → Int → Option ((Int))
 | 0, _, _ => none
 | m + 1, x3, x5 => oW n x3 x5 _ (iZ n m) some
def y8 (n : Nat) (a0 : Int) (R : Type) (K : Int → Option R) : Option R := (fG n n a0 (0 : Int) (1970 : Int)).bind fun o486 => ((iZ n n o486 a0).bind fun o489 => (K o489))
def dU n a0 := y8 n a0 _ some
def wy (n : Nat) (x0 x3 : Int) (R : Type) (A_ : Int → Int → Option R) (K : (Int) → Option R) : Option R := (dU n x3).bind fun o490 => (cond (decide (x0 < o490)) ((dU n x3).bind fun o491 => (A_ x0 (IntKind.i64.wrap ((IntKind.i64.wrap (x3 - (1 : Int))) - (IntKind.i64.wrap (Int.tdiv (IntKind.i64.wrap (o491 - x0)) (366 : Int))))))) (K x3))
def lZ (n : Nat) : Nat → Int → Int → Option ((Int))
 | 0, _, _ => none
 | m + 1, x0, x3 => wy n x0 x3 _ (lZ n m) some
def wz (n : Nat) (x0 x3 : Int) (R : Type) (A_ : Int → Int → Option R) (K : (Int) → Option R) : Option R := (dU n (IntKind.i64.wrap (x3 + (1 : Int)))).bind fun o493 => (cond (decide (x0 ≥ o493)) ((dU n (IntKind.i64.wrap (x3 + (1 : Int)))).bind fun o494 => (A_ x0 (IntKind.i64.wrap ((IntKind.i64.wrap (x3 + (1 : Int))) + (IntKind.i64.wrap (Int.tdiv (IntKind.i64.wrap (x0 - o494)) (366 : Int))))))) (K x3))
def l5 (n : Nat) : Nat → Int → Int → Option ((Int))
 | 0, _, _ => none
 | m + 1, x0, x3 => wz n x0 x3 _ (l5 n m) some
def y9 (n : Nat) (a0 : Int) (R : Type) (K : Int → Option R) : Option R := (lZ n n a0 (1970 : Int)).bind fun o492 => ((l5 n n a0 o492).bind fun o495 => (K o495))
def ny n a0 := y9 n a0 _ some
def Gd (n : Nat) (x5 : Int) (R : Type) (K : (Bool) → Option R) : Option R := cond (x5 == (4 : Int)) (K true) (cond (x5 == (6 : Int)) (K true) (cond (x5 == (9 : Int)) (K true) (K (x5 == (11 : Int)))))
def Hr n x5 := Gd n x5 _ some
def Bb (n : Nat) (a0 a1 : Int) (R : Type) (K : Int → Option R) : Option R := (Hr n a1).bind fun o500 => (cond o500 (K (30 : Int)) (cond (a1 == (2 : Int)) ((iN n a0).bind fun o501 => (cond o501 (K (29 : Int)) (K (28 : Int)))) (K (31 : Int))))
def pY n a0 a1 := Bb n a0 a1 _ some
def wB (n : Nat) (x1 h0_0 h0_1 h0_2 h0_3 h0_4 : Int) (R : Type) (K : W2 → Option R) : Option R := (iN n x1).bind fun o498 => (cond o498 (K (decide (h0_3 > (59 : Int)), h0_0, h0_1, h0_2, h0_3, h0_4)) (K (false, h0_0, h0_1, h0_2, h0_3, h0_4)))
def xQ n x1 h0_0 h0_1 h0_2 h0_3 h0_4 := wB n x1 h0_0 h0_1 h0_2 h0_3 h0_4 _ some
def wC (n : Nat) (x1 x5 x6 h0_0 h0_1 h0_2 h0_3 h0_4 : Int) (R : Type) (A_ : Int → Int → Int → Int → Int → Int → Int → Int → Option R) (K : W12 → Option R) : Option R := cond (decide (x6 < h0_1)) ((pY n x1 x6).bind fun o502 => (A_ x1 (IntKind.i64.wrap (x5 + o502)) (IntKind.i64.wrap (x6 + (1 : Int))) h0_0 h0_1 h0_2 h0_3 h0_4)) (K (x5, h0_0, h0_1, h0_2, h0_3, h0_4))
def l7 (n : Nat) : Nat → Int → Int → Int → Int → Int → Int → Int → Int → Option (W12)
 | 0, _, _, _, _, _, _, _, _ => none
 | m + 1, x1, x5, x6, h0_0, h0_1, h0_2, h0_3, h0_4 => wC n x1 x5 x6 h0_0 h0_1 h0_2 h0_3 h0_4 _ (l7 n m) some
def wD (n : Nat) (x8 x10 h0_0 h0_1 h0_2 h0_3 h0_4 : Int) (R : Type) (K : W2 → Option R) : Option R := cond (x10 == h0_3) (K (decide (x8 < h0_2), h0_0, h0_1, h0_2, h0_3, h0_4)) (K (false, h0_0, h0_1, h0_2, h0_3, h0_4))
def xR n x8 x10 h0_0 h0_1 h0_2 h0_3 h0_4 := wD n x8 x10 h0_0 h0_1 h0_2 h0_3 h0_4 _ some
def wE (n : Nat) (x5 x7 x8 x9 h0_0 h0_1 h0_2 h0_3 h0_4 : Int) (R : Type) (K : (Int × Int × Int × Int × Int × Int × Int) → Option R) : Option R := (xR n x8 (Int.tmod (IntKind.i64.wrap ((Int.tmod (IntKind.i64.wrap ((IntKind.i64.wrap (x5 + x9)) + (4 : Int))) (7 : Int)) + (7 : Int))) (7 : Int)) h0_0 h0_1 h0_2 h0_3 h0_4).bind fun o505 => (cond o505.1 (K (IntKind.i64.wrap (x5 + x9), IntKind.i64.wrap (x8 + (1 : Int)), o505.2.1, o505.2.2.1, o505.2.2.2.1, o505.2.2.2.2.1, o505.2.2.2.2.2)) (K (x7, x8, o505.2.1, o505.2.2.1, o505.2.2.2.1, o505.2.2.2.2.1, o505.2.2.2.2.2)))
def xS n x5 x7 x8 x9 h0_0 h0_1 h0_2 h0_3 h0_4 := wE n x5 x7 x8 x9 h0_0 h0_1 h0_2 h0_3 h0_4 _ some
def wF (n : Nat) (x1 x5 x7 x8 x9 h0_0 h0_1 h0_2 h0_3 h0_4 : Int) (R : Type) (A_ : Int → Int → Int → Int → Int → Int → Int → Int → Int → Int → Option R) (K : W12 → Option R) : Option R := (pY n x1 h0_1).bind fun o504 => (cond (decide (x9 < o504)) ((xS n x5 x7 x8 x9 h0_0 h0_1 h0_2 h0_3 h0_4).bind fun o506 => (A_ x1 x5 o506.1 o506.2.1 (IntKind.i64.wrap (x9 + (1 : Int))) o506.2.2.1 o506.2.2.2.1 o506.2.2.2.2.1 o506.2.2.2.2.2.1 o506.2.2.2.2.2.2)) (K (x7, h0_0, h0_1, h0_2, h0_3, h0_4)))
def l8 (n : Nat) : Nat → Int → Int → Int → Int → Int → Int → Int → Int → Int → Int → Option (W12)
 | 0, _, _, _, _, _, _, _, _, _, _ => none
 | m + 1, x1, x5, x7, x8, x9, h0_0, h0_1, h0_2, h0_3, h0_4 => wF n x1 x5 x7 x8 x9 h0_0 h0_1 h0_2 h0_3 h0_4 _ (l8 n m) some
def za (n : Nat) (a0 a1 a2 a3 a4 a5 : Int) (R : Type) (K : Int → Option R) : Option R := (dU n a5).bind fun o497 => (cond (a0 == (1 : Int)) ((xQ n a5 a0 a1 a2 a3 a4).bind fun o499 => (cond o499.1 (K (IntKind.i64.wrap ((IntKind.i64.wrap ((IntKind.i64.wrap ((IntKind.i64.wrap ((IntKind.i64.wrap (o497 + a3)) - (1 : Int))) + (1 : Int))) * (86400 : Int))) + o499.2.2.2.2.2))) (K (IntKind.i64.wrap ((IntKind.i64.wrap ((IntKind.i64.wrap ((IntKind.i64.wrap (o497 + a3)) - (1 : Int))) * (86400 : Int))) + o499.2.2.2.2.2))))) (cond (a0 == (2 : Int)) (K (IntKind.i64.wrap ((IntKind.i64.wrap ((IntKind.i64.wrap (o497 + a3)) * (86400 : Int))) + a4))) (cond (a0 == (3 : Int)) ((l7 n n a5 o497 (1 : Int) a0 a1 a2 a3 a4).bind fun o503 => ((l8 n n a5 o503.1 (-1 : Int) (0 : Int) (0 : Int) o503.2.1 o503.2.2.1 o503.2.2.2.1 o503.2.2.2.2.1 o503.2.2.2.2.2).bind fun o507 => (K (IntKind.i64.wrap ((IntKind.i64.wrap (o507.1 * (86400 : Int))) + o507.2.2.2.2.2))))) (K (IntKind.i64.wrap ((IntKind.i64.wrap (o497 * (86400 : Int))) + a4))))))
def nz n a0 a1 a2 a3 a4 a5 := za n a0 a1 a2 a3 a4 a5 _ some
def Aq (n : Nat) (x6 x8 : Int) (x10 : Bool) (x12 : Int) (R : Type) (K : (Bool) → Option R) : Option R := cond (decide (x12 ≤ x6)) (cond (!x10) (K true) (K (decide (x12 > x8)))) (K false)
def Cu n x6 x8 x10 x12 := Aq n x6 x8 x10 x12 _ some
def Ar (n : Nat) (x6 x8 : Int) (x9 x10 : Bool) (x12 : Int) (R : Type) (K : (Int × Bool × Bool) → Option R) : Option R := (Cu n x6 x8 x10 x12).bind fun o510 => (cond o510 (K (x12, true, true)) (K (x8, x9, x10)))
def wG n x6 x8 x9 x10 x12 := Ar n x6 x8 x9 x10 x12 _ some
def Au (n : Nat) (x6 x8 : Int) (x10 : Bool) (x13 : Int) (R : Type) (K : (Bool) → Option R) : Option R := cond (decide (x13 ≤ x6)) (cond (!x10) (K true) (K (decide (x13 ≥ x8)))) (K false)
def Cv n x6 x8 x10 x13 := Au n x6 x8 x10 x13 _ some
def Av (n : Nat) (x6 x8 : Int) (x9 x10 : Bool) (x11 : Int) (h0_0 h0_1 : Str) (h0_2 h0_3 h0_4 h0_5 h0_6 h0_7 h0_8 h0_9 h0_10 h0_11 h0_12 h0_13 : Int) (R : Type) (K : (Int × Bool × Bool × Str × Str × Int × Int × Int × Int × Int × Int × Int × Int × Int × Int × Int × Int) → Option R) : Option R := (nz n h0_4 h0_5 h0_6 h0_7 h0_8 x11).bind fun o508 => ((nz n h0_9 h0_10 h0_11 h0_12 h0_13 x11).bind fun o509 => ((wG n x6 x8 x9 x10 (IntKind.i64.wrap (o508 - h0_2))).bind fun o511 => ((Cv n x6 o511.1 o511.2.2 (IntKind.i64.wrap (o509 - h0_3))).bind fun o512 => (cond o512 (K (IntKind.i64.wrap (o509 - h0_3), false, true, h0_0, h0_1, h0_2, h0_3, h0_4, h0_5, h0_6, h0_7, h0_8, h0_9, h0_10, h0_11, h0_12, h0_13)) (K (o511.1, o511.2.1, o511.2.2, h0_0, h0_1, h0_2, h0_3, h0_4, h0_5, h0_6, h0_7, h0_8, h0_9, h0_10, h0_11, h0_12, h0_13))))))
def Cw n x6 x8 x9 x10 x11 h0_0 h0_1 h0_2 h0_3 h0_4 h0_5 h0_6 h0_7 h0_8 h0_9 h0_10 h0_11 h0_12 h0_13 := Av n x6 x8 x9 x10 x11 h0_0 h0_1 h0_2 h0_3 h0_4 h0_5 h0_6 h0_7 h0_8 h0_9 h0_10 h0_11 h0_12 h0_13 _ some
def uz (n : Nat) (x6 x7 x8 : Int) (x9 x10 : Bool) (x11 : Int) (h0_0 h0_1 : Str) (h0_2 h0_3 h0_4 h0_5 h0_6 h0_7 h0_8 h0_9 h0_10 h0_11 h0_12 h0_13 : Int) (R : Type) (A_ : Int → Int → Int → Bool → Bool → Int → Str → Str → Int → Int → Int → Int → Int → Int → Int → Int → Int → Int → Int → Int → Option R) (K : W3 → Option R) : Option R := cond (decide (x11 ≤ (IntKind.i64.wrap (x7 + (1 : Int))))) ((Cw n x6 x8 x9 x10 x11 h0_0 h0_1 h0_2 h0_3 h0_4 h0_5 h0_6 h0_7 h0_8 h0_9 h0_10 h0_11 h0_12 h0_13).bind fun o513 => (A_ x6 x7 o513.1 o513.2.1 o513.2.2.1 (IntKind.i64.wrap (x11 + (1 : Int))) o513.2.2.2.1 o513.2.2.2.2.1 o513.2.2.2.2.2.1 o513.2.2.2.2.2.2.1 o513.2.2.2.2.2.2.2.1 o513.2.2.2.2.2.2.2.2.1 o513.2.2.2.2.2.2.2.2.2.1 o513.2.2.2.2.2.2.2.2.2.2.1 o513.2.2.2.2.2.2.2.2.2.2.2.1 o513.2.2.2.2.2.2.2.2.2.2.2.2.1 o513.2.2.2.2.2.2.2.2.2.2.2.2.2.1 o513.2.2.2.2.2.2.2.2.2.2.2.2.2.2.1 o513.2.2.2.2.2.2.2.2.2.2.2.2.2.2.2.1 o513.2.2.2.2.2.2.2.2.2.2.2.2.2.2.2.2)) (K (x9, h0_0, h0_1, h0_2, h0_3, h0_4, h0_5, h0_6, h0_7, h0_8, h0_9, h0_10, h0_11, h0_12, h0_13))
def gI (n : Nat) : Nat → Int → Int → Int → Bool → Bool → Int → Str → Str → Int → Int → Int → Int → Int → Int → Int → Int → Int → Int → Int → Int → Option (W3)
 | 0, _, _, _, _, _, _, _, _, _, _, _, _, _, _, _, _, _, _, _, _ => none
 | m + 1, x6, x7, x8, x9, x10, x11, h0_0, h0_1, h0_2, h0_3, h0_4, h0_5, h0_6, h0_7, h0_8, h0_9, h0_10, h0_11, h0_12, h0_13 => uz n x6 x7 x8 x9 x10 x11 h0_0 h0_1 h0_2 h0_3 h0_4 h0_5 h0_6 h0_7 h0_8 h0_9 h0_10 h0_11 h0_12 h0_13 _ (gI n m) some
def sJ (n : Nat) (a0 a1 : Str) (a2 a3 a4 a5 a6 a7 a8 a9 a10 a11 a12 a13 a14 : Int) (R : Type) (K : (Int × Bool) → Option R) : Option R := (gX n a0 a1 a2 a3 a4 a5 a6 a7 a8 a9 a10 a11 a12 a13).bind fun o482 => (cond (!o482) (K ((0 : Int), false)) (cond (a1 == ([] : Str)) (K (a2, false)) ((oF n (IntKind.i64.wrap ((if (-10000000000 : Int) < (if a14 < (100000000000 : Int) then a14 else (100000000000 : Int)) then (if a14 < (100000000000 : Int) then a14 else (100000000000 : Int)) else (-10000000000 : Int)) + a2)) (86400 : Int)).bind fun o483 => ((ny n o483).bind fun o496 => ((gI n n (if (-10000000000 : Int) < (if a14 < (100000000000 : Int) then a14 else (100000000000 : Int)) then (if a14 < (100000000000 : Int) then a14 else (100000000000 : Int)) else (-10000000000 : Int)) o496 (0 : Int) false false (IntKind.i64.wrap (o496 - (2 : Int))) a0 a1 a2 a3 a4 a5 a6 a7 a8 a9 a10 a11 a12 a13).bind fun o514 => (cond o514.1 (K (o514.2.2.2.2.1, true)) (K (o514.2.2.2.1, false))))))))
def dQ n a0 a1 a2 a3 a4 a5 a6 a7 a8 a9 a10 a11 a12 a13 a14 := sJ n a0 a1 a2 a3 a4 a5 a6 a7 a8 a9 a10 a11 a12 a13 a14 _ some
def uA (n : Nat) (x1 x5 : Int) (h0_0 : List (List AV)) (h0_1 h0_2 : List Int) (h0_3 : Str) (R : Type) (A_ : Int → Int → (List (List AV)) → (List Int) → (List Int) → Str → Option R) (K : (W1 ⊕ ((List (List AV)) × (List Int) × (List Int) × Str)) → Option R) : Option R := cond (decide (x5 ≥ (0 : Int))) (cond (decide (0 ≤ x5)) ((h0_1[x5.toNat]?).bind fun e517 => (cond (decide (e517 ≤ x1)) (cond (decide (0 ≤ x5)) ((h0_2[x5.toNat]?).bind fun e518 => (K (Sum.inl (e518, h0_0, h0_1, h0_2, h0_3)))) none) (A_ x1 (IntKind.i64.wrap (x5 - (1 : Int))) h0_0 h0_1 h0_2 h0_3))) none) (K (Sum.inr (h0_0, h0_1, h0_2, h0_3)))
def mK (n : Nat) : Nat → Int → Int → (List (List AV)) → (List Int) → (List Int) → Str → Option (W1 ⊕ ((List (List AV)) × (List Int) × (List Int) × Str))
 | 0, _, _, _, _, _, _ => none
 | m + 1, x1, x5, h0_0, h0_1, h0_2, h0_3 => uA n x1 x5 h0_0 h0_1 h0_2 h0_3 _ (mK n m) some
def uB (n : Nat) (x6 : Int) (h0_0 : List (List AV)) (h0_1 h0_2 : List Int) (h0_3 : Str) (R : Type) (A_ : Int → (List (List AV)) → (List Int) → (List Int) → Str → Option R) (K : (W1 ⊕ ((List (List AV)) × (List Int) × (List Int) × Str)) → Option R) : Option R := cond (decide (x6 < (h0_0.length : Int))) (cond (decide (0 ≤ x6)) ((h0_0[x6.toNat]?).bind fun e522 => (unc e522 fun c523 r524 => xn .i64 c523 fun x525 => unc r524 fun c526 r527 => zf c526 fun x528 => unc r527 fun c529 r530 => zg c529 fun x531 => unn r530 (cond (!x528) (K (Sum.inl (x6, h0_0, h0_1, h0_2, h0_3))) (A_ (IntKind.i64.wrap (x6 + (1 : Int))) h0_0 h0_1 h0_2 h0_3)))) none) (K (Sum.inr (h0_0, h0_1, h0_2, h0_3)))
def mM (n : Nat) : Nat → Int → (List (List AV)) → (List Int) → (List Int) → Str → Option (W1 ⊕ ((List (List AV)) × (List Int) × (List Int) × Str))
 | 0, _, _, _, _, _ => none
 | m + 1, x6, h0_0, h0_1, h0_2, h0_3 => uB n x6 h0_0 h0_1 h0_2 h0_3 _ (mM n m) some
def Dh (n : Nat) (a0 : List (List AV)) (a1 a2 : List Int) (a3 : Str) (a4 : Int) (R : Type) (K : Int → Option R) : Option R := (jQ n a0 a1 a2 a3).bind fun o516 => (cond (!o516) (K (0 : Int)) ((mK n n a4 (IntKind.i64.wrap ((a1.length : Int) - (1 : Int))) a0 a1 a2 a3).bind fun o519 => (Sum.elim (fun o520 => K o520.1) (fun o521 => (mM n n (0 : Int) o521.1 o521.2.1 o521.2.2.1 o521.2.2.2).bind fun o532 => (Sum.elim (fun o533 => K o533.1) (fun o534 => K (0 : Int)) o532)) o519)))
def xh n a0 a1 a2 a3 a4 := Dh n a0 a1 a2 a3 a4 _ some
def dP (n : Nat) (x5 x6 : Int) (h0_0 : List (List AV)) (h0_1 h0_2 : List Int) (h0_3 h0_4 h0_5 : Str) (h0_6 h0_7 h0_8 h0_9 h0_10 h0_11 h0_12 h0_13 h0_14 h0_15 h0_16 h0_17 : Int) (h0_18 h0_19 : Bool) (R : Type) (K : (Bool) → Option R) : Option R := cond h0_18 (cond (x6 == (0 : Int)) (K true) (cond (decide (0 ≤ (IntKind.i64.wrap (x6 - (1 : Int))))) ((h0_1[(IntKind.i64.wrap (x6 - (1 : Int))).toNat]?).bind fun e480 => (K (decide (e480 ≤ x5)))) none)) (K false)
def dw n x5 x6 h0_0 h0_1 h0_2 h0_3 h0_4 h0_5 h0_6 h0_7 h0_8 h0_9 h0_10 h0_11 h0_12 h0_13 h0_14 h0_15 h0_16 h0_17 h0_18 h0_19 := dP n x5 x6 h0_0 h0_1 h0_2 h0_3 h0_4 h0_5 h0_6 h0_7 h0_8 h0_9 h0_10 h0_11 h0_12 h0_13 h0_14 h0_15 h0_16 h0_17 h0_18 h0_19 _ some
def aT (n : Nat) (a0 : List (List AV)) (a1 a2 : List Int) (a3 a4 a5 : Str) (a6 a7 a8 a9 a10 a11 a12 a13 a14 a15 a16 a17 : Int) (a18 a19 : Bool) (a20 : Int) (R : Type) (K : Int → Option R) : Option R := cond a19 (K (0 : Int)) ((dw n (if (-10000000000 : Int) < (if a20 < (100000000000 : Int) then a20 else (100000000000 : Int)) then (if a20 < (100000000000 : Int) then a20 else (100000000000 : Int)) else (-10000000000 : Int)) (a1.length : Int) a0 a1 a2 a3 a4 a5 a6 a7 a8 a9 a10 a11 a12 a13 a14 a15 a16 a17 a18 a19).bind fun o481 => (cond o481 ((dQ n a4 a5 a6 a7 a8 a9 a10 a11 a12 a13 a14 a15 a16 a17 (if (-10000000000 : Int) < (if a20 < (100000000000 : Int) then a20 else (100000000000 : Int)) then (if a20 < (100000000000 : Int) then a20 else (100000000000 : Int)) else (-10000000000 : Int))).bind fun o515 => (K o515.1)) ((xh n a0 a1 a2 a3 (if (-10000000000 : Int) < (if a20 < (100000000000 : Int) then a20 else (100000000000 : Int)) then (if a20 < (100000000000 : Int) then a20 else (100000000000 : Int)) else (-10000000000 : Int))).bind fun o535 => (cond (decide (0 ≤ o535)) ((a0[o535.toNat]?).bind fun e536 => (unc e536 fun c537 r538 => xn .i64 c537 fun x539 => unc r538 fun c540 r541 => zf c540 fun x542 => unc r541 fun c543 r544 => zg c543 fun x545 => unn r544 (K x539))) none))))
def au n a0 a1 a2 a3 a4 a5 a6 a7 a8 a9 a10 a11 a12 a13 a14 a15 a16 a17 a18 a19 a20 := aT n a0 a1 a2 a3 a4 a5 a6 a7 a8 a9 a10 a11 a12 a13 a14 a15 a16 a17 a18 a19 a20 _ some
def bW (n : Nat) (a0 : List (List AV)) (a1 a2 : List Int) (a3 a4 a5 : Str) (a6 a7 a8 a9 a10 a11 a12 a13 a14 a15 a16 a17 : Int) (a18 a19 : Bool) (a20 : Int) (R : Type) (K : Int → Option R) : Option R := (aF n a20 (1000000 : Int)).bind fun o631 => ((au n a0 a1 a2 a3 a4 a5 a6 a7 a8 a9 a10 a11 a12 a13 a14 a15 a16 a17 a18 a19 o631).bind fun o632 => (K (IntKind.i64.wrap (a20 + (IntKind.i64.wrap (o632 * (1000000 : Int)))))))
def aI n a0 a1 a2 a3 a4 a5 a6 a7 a8 a9 a10 a11 a12 a13 a14 a15 a16 a17 a18 a19 a20 := bW n a0 a1 a2 a3 a4 a5 a6 a7 a8 a9 a10 a11 a12 a13 a14 a15 a16 a17 a18 a19 a20 _ some
end Go.Proofs.YtiegmpnagcdgoaaGreatDoor.H
namespace Go.Sh
open Go.RowKit
set_option linter.unusedSimpArgs false
theorem aa {α : Type} {p : Prop} [Decidable p] (h : p) (x y : α) : cond (decide p) x y = x := by rw [decide_eq_true h]; rfl
theorem ah {α : Type} {p : Prop} [Decidable p] (h : ¬p) (x y : α) : cond (decide p) x y = y := by rw [decide_eq_false h]; rfl
theorem wY (i : Nat) (h : i < 9223372036854775807) : IntKind.i64.wrap ((i : Int) + 1) = ((i + 1 : Nat) : Int) := by
 rw [IntWalk.i64_in _ (by omega)]
 omega
theorem E9 {p : Nat → Prop} [DecidablePred p] (h : ((List.range 256).all fun x => decide (p x)) = true) (b : UInt8) : p b.toNat :=
 of_decide_eq_true (List.all_eq_true.1 h _ (List.mem_range.2 b.toNat_lt))
theorem Yl (c d : UInt8) : ((c.toNat : Int) == (d.toNat : Int)) = (c == d) := by
 rw [Bool.eq_iff_iff, beq_iff_eq, beq_iff_eq]
 constructor
 ·intro h
  exact UInt8.toNat_inj.1 (by omega)
 ·intro h
  rw [h]
theorem Jf (c d : UInt8) : ((c.toNat : Int) != (d.toNat : Int)) = (c != d) := by rw [bne, bne, Yl]
theorem Kg (s : Str) : (nD s).length = s.length := by simp [nD]
theorem nA {α : Type} {s r : List α} {i : Nat} {c : α} (h : s.drop i = c :: r) : s[i]? = some c ∧ s.drop (i + 1) = r ∧ i < s.length := by
 have hi : i < s.length := by
  by_cases hi : i < s.length
  ·exact hi
  ·rw [List.drop_eq_nil_of_le (by omega)] at h; cases h
 rw [List.drop_eq_getElem_cons hi] at h
 injection h with h1 h2
 exact ⟨by rw [List.getElem?_eq_getElem hi, h1], h2, hi⟩
theorem drop_nil {α : Type} {s : List α} {i : Nat} (h : s.drop i = []) : s.length ≤ i := by simpa using h
end Go.Sh
namespace Go.Proofs.YtiegmpnagcdgoaaGreatDoor.H
open Go.Sh Go.RowKit
set_option linter.unusedSimpArgs false
set_option linter.unusedVariables false
def iJ (b : UInt8) : Bool := (65 ≤ b && b ≤ 90) || (97 ≤ b && b ≤ 122)
def dV (b : UInt8) : Bool := 48 ≤ b && b ≤ 57
def Ij (b : UInt8) : Bool := iJ b || dV b || b == 43 || b == 45
def vE (b : UInt8) : Bool := b != 62
theorem Uo (n : Nat) (b : UInt8) : uH n (b.toNat : Int) = some (iJ b) := by
 have h := E9 (p := fun x => uH 0 (x : Int) = some (iJ (UInt8.ofNat x))) (by decide +kernel) b
 rw [UInt8.ofNat_toNat] at h
 exact h
theorem Ww (n : Nat) (b : UInt8) : vN n (b.toNat : Int) = some (dV b) := by
 have h := E9 (p := fun x => vN 0 (x : Int) = some (dV (UInt8.ofNat x))) (by decide +kernel) b
 rw [UInt8.ofNat_toNat] at h
 exact h
theorem Ym (n : Nat) (b : UInt8) : nP n (b.toNat : Int) = some (vE b) := by
 have h := E9 (p := fun x => nP 0 (x : Int) = some (vE (UInt8.ofNat x))) (by decide +kernel) b
 rw [UInt8.ofNat_toNat] at h
 exact h
theorem Wx (n : Nat) (b : UInt8) : zI n (b.toNat : Int) = some (!Ij b) := by
 have h := E9 (p := fun x => zI 0 (x : Int) = some (!Ij (UInt8.ofNat x))) (by decide +kernel) b
 rw [UInt8.ofNat_toNat] at h
 exact h
theorem Zy (b : UInt8) (hb : b.toNat < 128) : (Utf8.encode (IntKind.i32.wrap (b.toNat : Int))).data.toList = [b] := by
 have h := E9 (p := fun x => x < 128 → (Utf8.encode (IntKind.i32.wrap (x : Int))).data.toList = [UInt8.ofNat x]) (by decide +kernel) b hb
 rw [UInt8.ofNat_toNat] at h
 exact h
def ay (c : UInt8) : Str → Bool × Str
 | [] => (false, [])
 | x :: r => if x = c then (true, r) else (false, x :: r)
theorem gJ (c : UInt8) (r : Str) : (ay c r).2.length ≤ r.length := by
 cases r with
 | nil => simp [ay]
 | cons x r => by_cases h : x = c <;> simp [ay, h]
theorem DT (n : Nat) (a : Int) (c : UInt8) (r : Str) (b : Bool) (ha : a = (c.toNat : Int) := by rfl) (hc : c.toNat < 128 := by decide) : bB n a r b = some ((ay c r).1, (ay c r).2, b) := by
 subst ha
 unfold bB su w9
 rw [Zy c hc]
 cases r with
 | nil => rfl
 | cons x r =>
  have hp : Lib.hasPrefix (x :: r) [c] = (c == x) := by simp [Lib.hasPrefix, List.isPrefixOf]
  by_cases h : x = c
  ·subst h; simp [ay, Lib.trimPrefix, hp]
  ·simp [ay, Lib.trimPrefix, hp, h, Ne.symm h]
theorem Jg (n : Nat) (a : Int) (c : UInt8) (r : Str) (b : Bool) (ha : a = (c.toNat : Int) := by rfl) (hc : c.toNat < 128 := by decide) : eB n a r b = some ((ay c r).2, b || !(ay c r).1) := by
 unfold eB qF
 rw [DT n a c r b ha hc]
 cases h : (ay c r).1 <;> cases b <;> simp [h]
theorem SK (n : Nat) (x1 : Nat) (s : Str) (b : Bool) (hs : s.length < 9223372036854775808) : ∀ (m i : Nat), s.length - i < m → i ≤ s.length →
 gB n m (x1 : Int) (i : Int) s b = some (((i + (((s.drop i).take (x1 - i)).takeWhile vE).length : Nat) : Int), s, b)
 | 0, i, hm, _ => by omega
 | m + 1, i, hm, hi => by
  rw [gB, nR, qE, nQ]
  cases hd : s.drop i with
  | nil =>
   have := drop_nil hd
   rw [ah (by omega)]
   simp
  | cons c r =>
   obtain ⟨h1, h2, h3⟩ := nA hd
   rw [aa (by omega)]
   by_cases hx : i < x1
   ·rw [aa (by omega), aa (by omega), Int.toNat_natCast, h1]
    simp only [Option.bind_some, Ym]
    obtain ⟨k, hk⟩ : ∃ k, x1 - i = k + 1 := ⟨x1 - i - 1, by omega⟩
    rw [hk, List.take_succ_cons]
    cases hc : vE c with
    | false => rw [List.takeWhile_cons_of_neg (by simp [hc])]; simp
    | true =>
     rw [List.takeWhile_cons_of_pos (by simp [hc]), cond_true, wY i (by omega), SK n x1 s b hs m (i + 1) (by omega) (by omega), h2, show x1 - (i + 1) = k by omega]
     refine congrArg some (Prod.ext (congrArg (fun z : Nat => (z : Int)) ?_) rfl)
     simp only [List.length_cons]
     omega
   ·rw [ah (by omega)]
    simp [show x1 - i = 0 by omega]
theorem Qm (n : Nat) (x1 : Nat) (s : Str) (b : Bool) (hs : s.length < 9223372036854775808) : ∀ (m i : Nat), s.length - i < m → i ≤ s.length →
 eP n m (x1 : Int) (i : Int) s b = some (((i + (((s.drop i).take (x1 - i)).takeWhile iJ).length : Nat) : Int), s, b)
 | 0, i, hm, _ => by omega
 | m + 1, i, hm, hi => by
  rw [eP, lN, nS, lM]
  cases hd : s.drop i with
  | nil =>
   have := drop_nil hd
   rw [ah (by omega)]
   simp
  | cons c r =>
   obtain ⟨h1, h2, h3⟩ := nA hd
   rw [aa (by omega)]
   by_cases hx : i < x1
   ·rw [aa (by omega), aa (by omega), Int.toNat_natCast, h1]
    simp only [Option.bind_some, Uo]
    obtain ⟨k, hk⟩ : ∃ k, x1 - i = k + 1 := ⟨x1 - i - 1, by omega⟩
    rw [hk, List.take_succ_cons]
    cases hc : iJ c with
    | false => rw [List.takeWhile_cons_of_neg (by simp [hc])]; simp
    | true =>
     rw [List.takeWhile_cons_of_pos (by simp [hc]), cond_true, wY i (by omega), Qm n x1 s b hs m (i + 1) (by omega) (by omega), h2, show x1 - (i + 1) = k by omega]
     refine congrArg some (Prod.ext (congrArg (fun z : Nat => (z : Int)) ?_) rfl)
     simp only [List.length_cons]
     omega
   ·rw [ah (by omega)]
    simp [show x1 - i = 0 by omega]
theorem Qn (n : Nat) (x1 : Nat) (s : Str) (b : Bool) (hs : s.length < 9223372036854775808) : ∀ (m i : Nat), s.length - i < m → i ≤ s.length →
 eQ n m (x1 : Int) (i : Int) s b = some (((i + (((s.drop i).take (x1 - i)).takeWhile dV).length : Nat) : Int), s, b)
 | 0, i, hm, _ => by omega
 | m + 1, i, hm, hi => by
  rw [eQ, lS, nT, lQ]
  cases hd : s.drop i with
  | nil =>
   have := drop_nil hd
   rw [ah (by omega)]
   simp
  | cons c r =>
   obtain ⟨h1, h2, h3⟩ := nA hd
   rw [aa (by omega)]
   by_cases hx : i < x1
   ·rw [aa (by omega), aa (by omega), Int.toNat_natCast, h1]
    simp only [Option.bind_some, Ww]
    obtain ⟨k, hk⟩ : ∃ k, x1 - i = k + 1 := ⟨x1 - i - 1, by omega⟩
    rw [hk, List.take_succ_cons]
    cases hc : dV c with
    | false => rw [List.takeWhile_cons_of_neg (by simp [hc])]; simp
    | true =>
     rw [List.takeWhile_cons_of_pos (by simp [hc]), cond_true, wY i (by omega), Qn n x1 s b hs m (i + 1) (by omega) (by omega), h2, show x1 - (i + 1) = k by omega]
     refine congrArg some (Prod.ext (congrArg (fun z : Nat => (z : Int)) ?_) rfl)
     simp only [List.length_cons]
     omega
   ·rw [ah (by omega)]
    simp [show x1 - i = 0 by omega]
def jr (p : UInt8 → Bool) (k : Nat) (s : Str) : Str := (s.take k).takeWhile p
theorem JE (p : UInt8 → Bool) (k : Nat) (s : Str) : s.take (jr p k s).length = jr p k s := by
 have h : jr p k s <+: s := (List.takeWhile_prefix p).trans (List.take_prefix k s)
 exact (List.prefix_iff_eq_take.1 h).symm
theorem wH (p : UInt8 → Bool) (k : Nat) (s : Str) : (jr p k s).length ≤ s.length ∧ (jr p k s).length ≤ k := by
 have h := (List.takeWhile_prefix p (l := s.take k)).length_le
 rw [List.length_take] at h
 unfold jr
 omega
theorem SL (p : UInt8 → Bool) (k : Nat) (s : Str) : (jr p k s).all p = true := by
 exact List.all_takeWhile
theorem Zz (n k : Nat) (s : Str) (b : Bool) (hs : s.length < 9223372036854775808) (hn : s.length < n) : sD n (k : Int) s b = some (jr vE k s, s.drop (jr vE k s).length, b) := by
 have hl := wH vE k s
 unfold sD sw
 have h := SK n k s b hs n 0 (by omega) (by omega)
 simp only [List.drop_zero, Nat.sub_zero, Nat.zero_add] at h
 rw [show (0 : Int) = ((0 : Nat) : Int) from rfl, h]
 simp only [Option.bind_some]
 change cond (decide ((0 : Int) ≤ ((jr vE k s).length : Int))) (cond (decide (((jr vE k s).length : Int) ≤ (s.length : Int))) _ _) _ = _
 rw [aa (by omega), aa (by omega)]
 change cond (decide ((0 : Int) ≤ ((jr vE k s).length : Int))) (cond (decide (((jr vE k s).length : Int) ≤ (s.length : Int))) (some ((s.take ((jr vE k s).length : Int).toNat).drop 0, s.drop ((jr vE k s).length : Int).toNat, b)) _) _ = _
 rw [aa (by omega), aa (by omega), Int.toNat_natCast, JE, List.drop_zero]
theorem Yn (n k : Nat) (s : Str) (b : Bool) (hs : s.length < 9223372036854775808) (hn : s.length < n) : pg n (k : Int) s b = some (jr iJ k s, s.drop (jr iJ k s).length, b) := by
 have hl := wH iJ k s
 unfold pg o9
 have h := Qm n k s b hs n 0 (by omega) (by omega)
 simp only [List.drop_zero, Nat.sub_zero, Nat.zero_add] at h
 rw [show (0 : Int) = ((0 : Nat) : Int) from rfl, h]
 simp only [Option.bind_some]
 change cond (decide ((0 : Int) ≤ ((jr iJ k s).length : Int))) (cond (decide (((jr iJ k s).length : Int) ≤ (s.length : Int))) _ _) _ = _
 rw [aa (by omega), aa (by omega)]
 change cond (decide ((0 : Int) ≤ ((jr iJ k s).length : Int))) (cond (decide (((jr iJ k s).length : Int) ≤ (s.length : Int))) (some ((s.take ((jr iJ k s).length : Int).toNat).drop 0, s.drop ((jr iJ k s).length : Int).toNat, b)) _) _ = _
 rw [aa (by omega), aa (by omega), Int.toNat_natCast, JE, List.drop_zero]
theorem Yo (n k : Nat) (s : Str) (b : Bool) (hs : s.length < 9223372036854775808) (hn : s.length < n) : pz n (k : Int) s b = some (jr dV k s, s.drop (jr dV k s).length, b) := by
 have hl := wH dV k s
 unfold pz pu
 have h := Qn n k s b hs n 0 (by omega) (by omega)
 simp only [List.drop_zero, Nat.sub_zero, Nat.zero_add] at h
 rw [show (0 : Int) = ((0 : Nat) : Int) from rfl, h]
 simp only [Option.bind_some]
 change cond (decide ((0 : Int) ≤ ((jr dV k s).length : Int))) (cond (decide (((jr dV k s).length : Int) ≤ (s.length : Int))) _ _) _ = _
 rw [aa (by omega), aa (by omega)]
 change cond (decide ((0 : Int) ≤ ((jr dV k s).length : Int))) (cond (decide (((jr dV k s).length : Int) ≤ (s.length : Int))) (some ((s.take ((jr dV k s).length : Int).toNat).drop 0, s.drop ((jr dV k s).length : Int).toNat, b)) _) _ = _
 rw [aa (by omega), aa (by omega), Int.toNat_natCast, JE, List.drop_zero]
theorem OU (n : Nat) (s : Str) (hs : s.length < 9223372036854775808) : ∀ (m i : Nat), s.length - i < m →
 ∃ o, bn n m (nD s) (s.length : Int) (i : Int) = some o ∧ ((s.drop i).all Ij = true → o = Sum.inr ()) ∧ ((s.drop i).all Ij = false → ∃ j : Nat, o = Sum.inl (j : Int))
 | 0, i, hm => by omega
 | m + 1, i, hm => by
  rw [bn, fA]
  cases hd : s.drop i with
  | nil =>
   have := drop_nil hd
   rw [ah (by omega)]
   exact ⟨_, rfl, by simp⟩
  | cons c r =>
   obtain ⟨h1, h2, h3⟩ := nA hd
   have h4 : (nD s)[i]? = some (c.toNat : Int) := by simp [nD, h1]
   rw [aa (by omega), aa (by omega), Int.toNat_natCast, h4]
   simp only [Option.bind_some, Wx, List.all_cons]
   rcases Bool.eq_false_or_eq_true (Ij c) with hc | hc
   ·rw [hc, Bool.not_true, cond_false, wY i (by omega)]
    obtain ⟨o, h5, h6⟩ := OU n s hs m (i + 1) (by omega)
    rw [h2] at h6
    exact ⟨o, h5, by simpa using h6⟩
   ·rw [hc]
    exact ⟨_, rfl, by simp, fun _ => ⟨i, rfl⟩⟩
def rU (s : Str) : Bool := decide (3 ≤ s.length) && decide (s.length ≤ 10) && s.all Ij
theorem ZA (n : Nat) (s : Str) (hs : s.length < 9223372036854775808) (hn : s.length < n) : Dn n s = some (s.all Ij) := by
 unfold Dn Dm jI fB lu gK
 obtain ⟨o, h1, h2, h3⟩ := OU n s hs n 0 (by omega)
 rw [Kg, show (0 : Int) = ((0 : Nat) : Int) from rfl, h1]
 rw [List.drop_zero] at h2 h3
 rcases Bool.eq_false_or_eq_true (s.all Ij) with h | h
 ·rw [h2 h, h]; rfl
 ·obtain ⟨j, rfl⟩ := h3 h
  rw [h]
  simp
theorem LZ (n : Nat) (s : Str) (hs : s.length < 9223372036854775808) (hn : s.length < n) : uR n s = some (rU s) := by
 unfold uR BN rU
 rw [ZA n s hs hn]
 by_cases h1 : 3 ≤ s.length
 ·rw [aa (by omega)]
  by_cases h2 : s.length ≤ 10
  ·rw [aa (by omega)]; simp [h1, h2]
  ·rw [ah (by omega)]; simp [h1, h2]
 ·rw [ah (by omega)]; simp [h1]
def aA (r : Str) : Str × Str × Bool :=
 let e := ay 60 r
 if e.1 = true then
  let w := jr vE e.2.length e.2
  let f := ay 62 (e.2.drop w.length)
  (w, f.2, !f.1 || !rU w)
 else
  let w := jr iJ e.2.length e.2
  (w, e.2.drop w.length, !rU w)
theorem MM (r : Str) : (aA r).2.1.length ≤ r.length := by
 have h1 := gJ 60 r
 unfold aA
 dsimp only
 split
 ·have h2 := gJ 62 ((ay 60 r).2.drop (jr vE (ay 60 r).2.length (ay 60 r).2).length)
  simp only [List.length_drop] at h2
  dsimp only
  omega
 ·simp only [List.length_drop]; omega
theorem Qo (n : Nat) (r : Str) (b : Bool) (hs : r.length < 9223372036854775808) (hn : r.length < n) : mg n r b = some ((aA r).1, (aA r).2.1, b || (aA r).2.2) := by
 have hl := gJ 60 r
 unfold mg qG pq mR aA
 rw [DT n 60 60 r b]
 simp only [Option.bind_some]
 cases he : (ay 60 r).1 with
 | true =>
  have h2 := wH vE (ay 60 r).2.length (ay 60 r).2
  rw [cond_true, Zz n _ _ b (by omega) (by omega)]
  simp only [Option.bind_some]
  rw [Jg n 62 62]
  simp only [Option.bind_some, if_true, LZ n (jr vE (ay 60 r).2.length (ay 60 r).2) (by omega) (by omega)]
  cases b <;> cases (ay 62 ((ay 60 r).2.drop (jr vE (ay 60 r).2.length (ay 60 r).2).length)).1 <;> rfl
 | false =>
  have h2 := wH iJ (ay 60 r).2.length (ay 60 r).2
  rw [cond_false, Yn n _ _ b (by omega) (by omega)]
  simp only [Option.bind_some, Bool.false_eq_true, if_false, LZ n (jr iJ (ay 60 r).2.length (ay 60 r).2) (by omega) (by omega)]
  cases b <;> rfl
end Go.Proofs.YtiegmpnagcdgoaaGreatDoor.H
namespace Go.Proofs.YtiegmpnagcdgoaaGreatDoor.H
open Go.Sh Go.RowKit
set_option linter.unusedSimpArgs false
set_option linter.unusedVariables false
def JU (d : Str) : Nat := d.foldl (fun a c => a * 10 + (c.toNat - 48)) 0
theorem Wy (d : Str) (c : UInt8) : JU (d ++ [c]) = JU d * 10 + (c.toNat - 48) := by simp [JU, List.foldl_append]
theorem KM (c : UInt8) : dV c = true ↔ 48 ≤ c.toNat ∧ c.toNat ≤ 57 := by
 unfold dV
 simp only [Bool.and_eq_true, decide_eq_true_eq, UInt8.le_iff_toNat_le]
 exact Iff.rfl
theorem OV : ∀ (l : Str) (acc k : Nat), acc < 10 ^ k → k + l.length ≤ 18 → l.all dV = true →
 Lib.parseUint10 acc l = .ok (l.foldl (fun a c => a * 10 + (c.toNat - 48)) acc) ∧ l.foldl (fun a c => a * 10 + (c.toNat - 48)) acc < 10 ^ (k + l.length)
 | [], acc, k, h, _, _ => ⟨rfl, h⟩
 | c :: r, acc, k, h, hk, hd => by
  simp only [List.all_cons, Bool.and_eq_true, KM] at hd
  simp only [List.length_cons] at hk
  have h17 : 10 ^ k ≤ 10 ^ 17 := Nat.pow_le_pow_right (by omega) (by omega)
  have hp : (10 : Nat) ^ (k + 1) = 10 ^ k * 10 := Nat.pow_succ ..
  have h1 : acc * 10 + (c.toNat - 48) < 10 ^ (k + 1) := by omega
  have h2 := OV r (acc * 10 + (c.toNat - 48)) (k + 1) h1 (by omega) hd.2
  rw [Lib.parseUint10, if_pos hd.1, if_neg (by omega), if_neg (by omega)]
  rw [show k + (c :: r).length = k + 1 + r.length by simp only [List.length_cons]; omega]
  exact h2
theorem Rk (d : Str) (hl : d.length ≤ 18) (hd : d.all dV = true) : JU d < 10 ^ d.length := by
 have := (OV d 0 0 (by omega) (by omega) hd).2
 rwa [Nat.zero_add] at this
theorem Yp (n : Nat) (d : Str) (hl : d.length ≤ 3) (hd : d.all dV = true) : vO n d = some (JU d : Int) := by
 unfold vO EA
 rw [aa (by omega)]
 cases d with
 | nil => rfl
 | cons c r =>
  have h := (OV (c :: r) 0 0 (by omega) (by omega) hd).1
  have h2 := Rk (c :: r) (by omega) hd
  have h3 : (10 : Nat) ^ (c :: r).length ≤ 10 ^ 3 := Nat.pow_le_pow_right (by omega) hl
  have hc := hd
  simp only [List.all_cons, Bool.and_eq_true, KM] at hc
  unfold Lib.atoiAll
  simp only
  rw [if_neg (by omega), Lib.parseMag, if_neg (by simp), h]
  change some (match (if ¬ (c.toNat = 45) ∧ 9223372036854775808 ≤ JU (c :: r) then Lib.NumEnd.range else if c.toNat = 45 ∧ 9223372036854775808 < JU (c :: r) then .range else .ok (if c.toNat = 45 then -(JU (c :: r) : Int) else (JU (c :: r) : Int))) with | .ok v => v | .range => _ | _ => 0) = _
  rw [if_neg (by omega), if_neg (by omega), if_neg (by omega)]
def dx (least most : Nat) (r : Str) : Nat × Str × Bool :=
 let d := jr dV most r
 (JU d, r.drop d.length, decide (d.length < least))
theorem uO (a b : Nat) (r : Str) : (dx a b r).2.1.length ≤ r.length := by
 simp [dx, List.length_drop]
theorem DU (a : Nat) (b : Nat) (r : Str) (hb : b ≤ 3) : (dx a b r).1 < 1000 := by
 have h1 := wH dV b r
 have h2 := Rk (jr dV b r) (by omega) (SL _ _ _)
 have h3 : (10 : Nat) ^ (jr dV b r).length ≤ 10 ^ 3 := Nat.pow_le_pow_right (by omega) (by omega)
 exact Nat.lt_of_lt_of_le h2 h3
theorem Ht (n a b : Nat) (ha : a ≤ 3) (hb : b ≤ 3) (r : Str) (bad : Bool) (hs : r.length < 9223372036854775808) (hn : r.length < n) :
 aX n (a : Int) (b : Int) r bad = some (((dx a b r).1 : Int), (dx a b r).2.1, bad || (dx a b r).2.2) := by
 have h1 := wH dV b r
 unfold aX nU mU kP dx
 rw [Yo n b r bad hs hn]
 simp only [Option.bind_some]
 rw [Yp n _ (by omega) (SL _ _ _)]
 have hd : decide (((jr dV b r).length : Int) < (a : Int)) = decide ((jr dV b r).length < a) := by rw [decide_eq_decide]; omega
 rw [hd]
 cases bad <;> rfl
def minS (r : Str) : Int × Str × Bool :=
 let e := ay 58 r
 if e.1 = true then
  let m := dx 2 2 e.2
  let f := ay 58 m.2.1
  if f.1 = true then
   let s := dx 2 2 f.2
   (60 * (m.1 : Int) + s.1, s.2.1, m.2.2 || decide (60 ≤ m.1) || s.2.2 || decide (60 ≤ s.1))
  else (60 * (m.1 : Int), f.2, m.2.2 || decide (60 ≤ m.1))
 else (0, e.2, false)
theorem Yq (r : Str) : (minS r).2.1.length ≤ r.length := by
 have h1 := gJ 58 r
 have h2 := uO 2 2 (ay 58 r).2
 have h3 := gJ 58 (dx 2 2 (ay 58 r).2).2.1
 have h4 := uO 2 2 (ay 58 (dx 2 2 (ay 58 r).2).2.1).2
 unfold minS
 dsimp only
 split
 ·split <;> dsimp only <;> omega
 ·exact h1
theorem Vi (r : Str) : 0 ≤ (minS r).1 ∧ (minS r).1 < 70000 := by
 have h2 := DU 2 2 (ay 58 r).2 (by omega)
 have h4 := DU 2 2 (ay 58 (dx 2 2 (ay 58 r).2).2.1).2 (by omega)
 unfold minS
 dsimp only
 split
 ·split <;> dsimp only <;> omega
 ·simp
def tJ (r : Str) : Int × Str :=
 let e := ay 45 r
 if e.1 = true then (-1, e.2) else (1, (ay 43 e.2).2)
theorem Qp (r : Str) : (tJ r).2.length ≤ r.length := by
 have h1 := gJ 45 r
 have h2 := gJ 43 (ay 45 r).2
 unfold tJ
 dsimp only
 split <;> dsimp only <;> omega
theorem OW (r : Str) : (tJ r).1 = -1 ∨ (tJ r).1 = 1 := by
 unfold tJ
 dsimp only
 split <;> simp
def dA (most : Nat) (r : Str) : Int × Str × Bool :=
 let g := tJ r
 let h := dx 1 3 g.2
 let m := minS h.2.1
 (g.1 * (3600 * (h.1 : Int) + m.1), m.2.1, h.2.2 || decide (most < h.1) || m.2.2)
theorem Hu (most : Nat) (r : Str) : (dA most r).2.1.length ≤ r.length := by
 have h1 := Qp r
 have h2 := uO 1 3 (tJ r).2
 have h3 := Yq (dx 1 3 (tJ r).2).2.1
 unfold dA
 dsimp only
 omega
theorem JF (most : Nat) (r : Str) : -4000000 < (dA most r).1 ∧ (dA most r).1 < 4000000 := by
 have h1 := DU 1 3 (tJ r).2 (by omega)
 have h2 := Vi (dx 1 3 (tJ r).2).2.1
 unfold dA
 dsimp only
 rcases OW r with h | h <;> rw [h] <;> omega
theorem Yr (n : Nat) (r : Str) (b : Bool) : jN n 1 r b = some ((tJ r).1, (tJ r).2, b) := by
 unfold jN lT tJ
 rw [DT n 45 45]
 simp only [Option.bind_some]
 cases he : (ay 45 r).1 with
 | true => rfl
 | false =>
  simp only [cond_false]
  rw [DT n 43 43]
  rfl
theorem wi (x : Int) (h : -9223372036854775808 ≤ x) (h2 : x ≤ 9223372036854775807) : IntKind.i64.wrap x = x := IntWalk.i64_in _ (by omega)
theorem ZB (n : Nat) (x : Int) (r : Str) (b : Bool) (hx : 0 ≤ x) (hx2 : x < 10000000) (hs : r.length < 9223372036854775808) (hn : r.length + 5 < n) :
 bV n n x 60 r b = some (x + (minS r).1, (minS r).2.1, b || (minS r).2.2) := by
 obtain ⟨k, rfl⟩ : ∃ k, n = k + 3 := ⟨n - 3, by omega⟩
 have h1 := gJ 58 r
 have h2 := uO 2 2 (ay 58 r).2
 have h2' := DU 2 2 (ay 58 r).2 (by omega)
 have h3 := gJ 58 (dx 2 2 (ay 58 r).2).2.1
 have h4 := uO 2 2 (ay 58 (dx 2 2 (ay 58 r).2).2.1).2
 have h4' := DU 2 2 (ay 58 (dx 2 2 (ay 58 r).2).2.1).2 (by omega)
 have d60 : ∀ x : Nat, decide ((x : Int) ≥ (60 : Int)) = decide (60 ≤ x) := fun x => by rw [decide_eq_decide]; omega
 unfold minS
 rw [bV, fF, gL, fE]
 rw [aa (by omega), DT (k + 3) 58 58]
 simp only [Option.bind_some]
 cases he : (ay 58 r).1 with
 | false => simp
 | true =>
  simp only [cond_true, if_true]
  rw [show (2 : Int) = ((2 : Nat) : Int) from rfl, Ht (k + 3) 2 2 (by omega) (by omega) _ _ (by omega) (by omega)]
  simp only [Option.bind_some]
  rw [jO, iT]
  rw [show Int.tdiv 60 60 = 1 from rfl, wi 1 (by omega) (by omega), wi (60 * _) (by omega) (by omega), wi (x + _) (by omega) (by omega)]
  generalize hm : dx 2 2 (ay 58 r).2 = m at *
  have hj : ∀ b' : Bool, (cond b' (some (m.2.1, true)) (some (m.2.1, decide ((m.1 : Int) ≥ (60 : Int))))) = some (m.2.1, b' || decide (60 ≤ m.1)) := fun b' => by rw [d60]; cases b' <;> rfl
  rw [hj]
  simp only [Option.bind_some]
  rw [bV, fF, gL, fE]
  rw [aa (by omega), DT (k + 3) 58 58]
  simp only [Option.bind_some]
  cases hf : (ay 58 m.2.1).1 with
  | false => simp [Bool.or_assoc]
  | true =>
   simp only [cond_true, if_true]
   rw [show (2 : Int) = ((2 : Nat) : Int) from rfl, Ht (k + 3) 2 2 (by omega) (by omega) _ _ (by omega) (by omega)]
   simp only [Option.bind_some]
   rw [jO, iT]
   rw [show Int.tdiv 1 60 = 0 from rfl, wi 0 (by omega) (by omega), wi (1 * _) (by omega) (by omega), wi (x + 60 * _ + _) (by omega) (by omega)]
   generalize hs : dx 2 2 (ay 58 m.2.1).2 = s at *
   have hj : ∀ b' : Bool, (cond b' (some (s.2.1, true)) (some (s.2.1, decide ((s.1 : Int) ≥ (60 : Int))))) = some (s.2.1, b' || decide (60 ≤ s.1)) := fun b' => by rw [d60]; cases b' <;> rfl
   rw [hj]
   simp only [Option.bind_some]
   rw [bV, fF, gL, fE]
   rw [ah (by omega)]
   simp only [Option.bind_some, cond_false, Bool.or_assoc, Int.one_mul, Int.add_assoc]
theorem MN (n most : Nat) (r : Str) (b : Bool) (hs : r.length < 9223372036854775808) (hn : r.length + 5 < n) :
 bv n (most : Int) r b = some ((dA most r).1, (dA most r).2.1, b || (dA most r).2.2) := by
 have h1 := Qp r
 have h2 := uO 1 3 (tJ r).2
 have h2' := DU 1 3 (tJ r).2 (by omega)
 have h3 := Vi (dx 1 3 (tJ r).2).2.1
 unfold bv pE dA
 rw [Yr]
 simp only [Option.bind_some]
 rw [show (aX n (1 : Int) (3 : Int) (tJ r).2 b) = _ from Ht n 1 3 (by omega) (by omega) _ _ (by omega) (by omega)]
 simp only [Option.bind_some]
 rw [nV, lU]
 generalize dx 1 3 (tJ r).2 = h at *
 have hd : decide ((h.1 : Int) > (most : Int)) = decide (most < h.1) := by rw [decide_eq_decide]; omega
 have hj : ∀ b' : Bool, (cond b' (some (h.2.1, true)) (some (h.2.1, decide ((h.1 : Int) > (most : Int))))) = some (h.2.1, b' || decide (most < h.1)) := fun b' => by rw [hd]; cases b' <;> rfl
 rw [hj]
 simp only [Option.bind_some]
 rw [wi ((h.1 : Int) * 3600) (by omega) (by omega), ZB n _ _ _ (by omega) (by omega) (by omega) (by omega)]
 simp only [Option.bind_some]
 rw [Int.mul_comm (h.1 : Int) 3600]
 rcases OW r with hg | hg <;> rw [hg] <;> rw [wi _ (by omega) (by omega)] <;> simp only [Bool.or_assoc]
end Go.Proofs.YtiegmpnagcdgoaaGreatDoor.H
namespace Go.Proofs.YtiegmpnagcdgoaaGreatDoor.H
open Go.Sh Go.RowKit
set_option linter.unusedSimpArgs false
set_option linter.unusedVariables false
structure DayV where
 k : Int
 m : Int
 w : Int
 d : Int
 t : Int
structure RuleV where
 std : Str
 dst : Str
 off : Int
 doff : Int
 a : DayV
 b : DayV
def DayV.zero : DayV := ⟨0, 0, 0, 0, 0⟩
def RuleV.zero : RuleV := ⟨[], [], 0, 0, .zero, .zero⟩
def lh (k m w : Int) (r : Str) (bad : Bool) : DayV × Str × Bool :=
 let d := dx 1 3 r
 let e := ay 47 d.2.1
 if e.1 = true then
  let h := dA 167 e.2
  (⟨k, m, w, d.1, h.1⟩, h.2.1, bad || d.2.2 || h.2.2)
 else (⟨k, m, w, d.1, 7200⟩, e.2, bad || d.2.2)
def xk (r : Str) : DayV × Str × Bool :=
 let e := ay 74 r
 if e.1 = true then lh 1 0 0 e.2 false
 else
  let f := ay 77 e.2
  if f.1 = true then
   let m := dx 1 3 f.2
   let p := ay 46 m.2.1
   let w := dx 1 3 p.2
   let q := ay 46 w.2.1
   lh 3 m.1 w.1 q.2 (m.2.2 || !p.1 || w.2.2 || !q.1)
  else lh 2 0 0 f.2 false
theorem Jh (k m w : Int) (r : Str) (bad : Bool) : (lh k m w r bad).2.1.length ≤ r.length := by
 have h1 := uO 1 3 r
 have h2 := gJ 47 (dx 1 3 r).2.1
 have h3 := Hu 167 (ay 47 (dx 1 3 r).2.1).2
 unfold lh
 dsimp only
 split <;> dsimp only <;> omega
theorem Yt (r : Str) : (xk r).2.1.length ≤ r.length := by
 have h1 := gJ 74 r
 have h2 := gJ 77 (ay 74 r).2
 have h3 := uO 1 3 (ay 77 (ay 74 r).2).2
 have h4 := gJ 46 (dx 1 3 (ay 77 (ay 74 r).2).2).2.1
 have h5 := uO 1 3 (ay 46 (dx 1 3 (ay 77 (ay 74 r).2).2).2.1).2
 have h6 := gJ 46 (dx 1 3 (ay 46 (dx 1 3 (ay 77 (ay 74 r).2).2).2.1).2).2.1
 unfold xk
 dsimp only
 split
 ·exact Nat.le_trans (Jh ..) h1
 ·split
  ·exact Nat.le_trans (Jh ..) (by omega)
  ·exact Nat.le_trans (Jh ..) (by omega)
theorem Vj (n : Nat) (r : Str) (b : Bool) (hs : r.length < 9223372036854775808) (hn : r.length + 5 < n) :
 nM n r b = some ((xk r).1.k, (xk r).1.m, (xk r).1.w, (xk r).1.d, (xk r).1.t, (xk r).2.1, b || (xk r).2.2) := by
 have h1 := gJ 74 r
 have h2 := gJ 77 (ay 74 r).2
 have h3 := uO 1 3 (ay 77 (ay 74 r).2).2
 have h4 := gJ 46 (dx 1 3 (ay 77 (ay 74 r).2).2).2.1
 have h5 := uO 1 3 (ay 46 (dx 1 3 (ay 77 (ay 74 r).2).2).2.1).2
 have h6 := gJ 46 (dx 1 3 (ay 46 (dx 1 3 (ay 77 (ay 74 r).2).2).2.1).2).2.1
 have num : ∀ (s : Str) (b : Bool), s.length ≤ r.length → aX n (1 : Int) (3 : Int) s b = some (((dx 1 3 s).1 : Int), (dx 1 3 s).2.1, b || (dx 1 3 s).2.2) := fun s b h => Ht n 1 3 (by omega) (by omega) s b (by omega) (by omega)
 have tail : ∀ (k m w : Int) (s : Str) (b bad : Bool), s.length ≤ r.length →
  ((aX n (1 : Int) (3 : Int) s (b || bad)).bind fun o59 => (bB n (47 : Int) o59.2.1 o59.2.2).bind fun o60 => cond o60.1 ((bv n (167 : Int) o60.2.1 o60.2.2).bind fun o61 => some (k, m, w, o59.1, o61.1, o61.2.1, o61.2.2)) (some (k, m, w, o59.1, 7200, o60.2.1, o60.2.2)))
  = some ((lh k m w s bad).1.k, (lh k m w s bad).1.m, (lh k m w s bad).1.w, (lh k m w s bad).1.d, (lh k m w s bad).1.t, (lh k m w s bad).2.1, b || (lh k m w s bad).2.2) := by
  intro k m w s b bad hsl
  have g1 := uO 1 3 s
  have g2 := gJ 47 (dx 1 3 s).2.1
  rw [num s _ hsl]
  simp only [Option.bind_some]
  rw [DT n 47 47]
  simp only [Option.bind_some]
  unfold lh
  cases he : (ay 47 (dx 1 3 s).2.1).1 with
  | true =>
   simp only [cond_true, he, if_true]
   rw [show (bv n (167 : Int) (ay 47 (dx 1 3 s).2.1).2 (b || bad || (dx 1 3 s).2.2)) = _ from MN n 167 _ _ (by omega) (by omega)]
   simp only [Option.bind_some, Bool.or_assoc]
  | false => simp only [cond_false, he, Bool.false_eq_true, if_false, Bool.or_assoc]
 unfold nM sG qH nX xk
 rw [DT n 74 74]
 simp only [Option.bind_some]
 cases he : (ay 74 r).1 with
 | true =>
  simp only [cond_true, if_true, Option.bind_some]
  have := tail 1 0 0 (ay 74 r).2 b false (by omega)
  rw [Bool.or_false] at this
  exact this
 | false =>
  simp only [cond_false, Bool.false_eq_true, if_false]
  rw [DT n 77 77]
  simp only [Option.bind_some]
  cases hf : (ay 77 (ay 74 r).2).1 with
  | false =>
   simp only [cond_false, Bool.false_eq_true, if_false, Option.bind_some]
   have := tail 2 0 0 (ay 77 (ay 74 r).2).2 b false (by omega)
   rw [Bool.or_false] at this
   exact this
  | true =>
   simp only [cond_true, if_true]
   rw [num _ _ (by omega)]
   simp only [Option.bind_some]
   rw [Jg n 46 46]
   simp only [Option.bind_some]
   rw [num _ _ (by omega)]
   simp only [Option.bind_some]
   rw [Jg n 46 46]
   simp only [Option.bind_some]
   have := tail 3 (dx 1 3 (ay 77 (ay 74 r).2).2).1 (dx 1 3 (ay 46 (dx 1 3 (ay 77 (ay 74 r).2).2).2.1).2).1 (ay 46 (dx 1 3 (ay 46 (dx 1 3 (ay 77 (ay 74 r).2).2).2.1).2).2.1).2 b ((dx 1 3 (ay 77 (ay 74 r).2).2).2.2 || !(ay 46 (dx 1 3 (ay 77 (ay 74 r).2).2).2.1).1 || (dx 1 3 (ay 46 (dx 1 3 (ay 77 (ay 74 r).2).2).2.1).2).2.2 || !(ay 46 (dx 1 3 (ay 46 (dx 1 3 (ay 77 (ay 74 r).2).2).2.1).2).2.1).1) (by omega)
   simp only [← Bool.or_assoc] at this ⊢
   exact this
def Fa (x far : Int) : Bool := decide (-far ≤ x) && decide (x ≤ far)
def oZ (d : DayV) : Bool := Fa d.t 604799 &&
 if d.k = 1 then decide (d.m = 0) && decide (d.w = 0) && decide (1 ≤ d.d) && decide (d.d ≤ 365)
 else if d.k = 2 then decide (d.m = 0) && decide (d.w = 0) && decide (0 ≤ d.d) && decide (d.d ≤ 365)
 else if d.k = 3 then decide (1 ≤ d.m) && decide (d.m ≤ 12) && decide (1 ≤ d.w) && decide (d.w ≤ 5) && decide (0 ≤ d.d) && decide (d.d ≤ 6)
 else false
def OX (d : DayV) : Bool := d.k == 0 && d.m == 0 && d.w == 0 && d.d == 0 && d.t == 0
def dB (r : RuleV) : Bool := rU r.std && Fa r.off 89999 &&
 if r.dst = [] then r.doff == 0 && OX r.a && OX r.b else rU r.dst && Fa r.doff 89999 && oZ r.a && oZ r.b
theorem Bv (n : Nat) (x : Int) (far : Nat) (hf : far < 1000000000) : jd n x (far : Int) = some (Fa x far) := by
 unfold jd yc Fa
 rw [wi (0 - (far : Int)) (by omega) (by omega)]
 by_cases h : -(far : Int) ≤ x
 ·rw [aa (by omega), decide_eq_true h]; rfl
 ·rw [ah (by omega), decide_eq_false h]; rfl
theorem JV (x y : Int) : (x == y) = decide (x = y) := by by_cases h : x = y <;> simp [h]
theorem L6 {p : Prop} [Decidable p] (q : Bool) : cond (decide p) (some q) (some false) = some (decide p && q) := by by_cases h : p <;> simp [h]
theorem Qq (p q : Bool) : cond p (some q) (some false) = some (p && q) := by cases p <;> rfl
theorem L8 (n : Nat) (k m w d t : Int) : lw n k m w d t = some (oZ ⟨k, m, w, d, t⟩) := by
 unfold lw ui oZ
 rw [show jd n t (604799 : Int) = _ from Bv n t 604799 (by omega)]
 simp only [Option.bind_some]
 cases Fa t ((604799 : Nat) : Int) with
 | false => simp
 | true =>
  simp only [Bool.not_true, cond_false, Bool.true_and]
  rw [sH, pF]
  have hz : ∀ (x3 : Int), ((nN n x3 k m w d t).bind fun o75 => some o75.1) = some (decide (m = 0) && decide (w = 0) && decide (x3 ≤ d) && decide (d ≤ 365)) := by
   intro x3
   rw [nN, pG]
   rw [JV, JV]
   by_cases h1 : m = 0 <;> by_cases h2 : w = 0 <;> by_cases h3 : x3 ≤ d <;> simp [h1, h2, h3]
  by_cases h1 : k = 1
  ·subst h1
   simpa using hz 1
  ·by_cases h2 : k = 2
   ·subst h2
    simpa using hz 0
   ·by_cases h3 : k = 3
    ·subst h3
     simp only [beq_iff_eq, h1, h2, if_false, if_true, show ((3 : Int) == 1) = false from rfl, show ((3 : Int) == 2) = false from rfl, show ((3 : Int) == 3) = true from rfl, cond_false, cond_true, Option.bind_some, Sum.elim_inl, Sum.elim_inr, L6, ge_iff_le, Bool.and_assoc]
    ·rw [JV, JV, JV, decide_eq_false h1, decide_eq_false h2, decide_eq_false h3]
     simp [h1, h2, h3]
theorem right_val (n : Nat) (std dst : Str) (off doff k m w d t k' m' w' d' t' : Int) (hs : std.length < 9223372036854775808) (hn : std.length < n) (hs' : dst.length < 9223372036854775808) (hn' : dst.length < n) :
 sQ n std dst off doff k m w d t k' m' w' d' t' = some (dB ⟨std, dst, off, doff, ⟨k, m, w, d, t⟩, ⟨k', m', w', d', t'⟩⟩) := by
 unfold sQ zO yf ve dB
 rw [LZ n std hs hn]
 simp only [Option.bind_some]
 cases rU std with
 | false => simp
 | true =>
  simp only [Bool.not_true, cond_false, Bool.true_and]
  rw [show jd n off (89999 : Int) = _ from Bv n off 89999 (by omega)]
  simp only [Option.bind_some]
  change _ = some (Fa off ((89999 : Nat) : Int) && _)
  cases Fa off ((89999 : Nat) : Int) with
  | false => simp
  | true =>
   simp only [Bool.not_true, cond_false, Bool.true_and]
   by_cases hd : dst = []
   ·subst hd
    simp [OX, Bool.and_assoc]
   ·have : (dst == ([] : Str)) = false := by simpa using hd
    rw [this, cond_false, LZ n dst hs' hn', if_neg hd]
    simp only [Option.bind_some]
    rw [show jd n doff (89999 : Int) = _ from Bv n doff 89999 (by omega)]
    simp only [Option.bind_some, L8, Qq, Bool.and_assoc]
    rfl
def xU (off : Int) (r : Str) : Int × Str × Bool :=
 if r.head? = some 44 then (off + 3600, r, false)
 else let x := dA 24 r; (-x.1, x.2.1, x.2.2)
theorem Yu (off : Int) (r : Str) : (xU off r).2.1.length ≤ r.length := by
 unfold xU
 split
 ·exact Nat.le_refl _
 ·exact Hu 24 r
def Ik (std : Str) (off : Int) (r : Str) (bad : Bool) : RuleV × Str × Bool :=
 let d := aA r
 let o := xU off d.2.1
 let p := ay 44 o.2.1
 let a := xk p.2
 let q := ay 44 a.2.1
 let b := xk q.2
 (⟨std, d.1, off, o.1, a.1, b.1⟩, b.2.1, bad || d.2.2 || o.2.2 || !p.1 || a.2.2 || !q.1 || b.2.2)
def L9 (s : Str) : RuleV × Str × Bool :=
 let a := aA s
 let h := dA 24 a.2.1
 if h.2.1 = [] then (⟨a.1, [], -h.1, 0, .zero, .zero⟩, [], a.2.2 || h.2.2)
 else Ik a.1 (-h.1) h.2.1 (a.2.2 || h.2.2)
def Il (s : Str) : Option RuleV :=
 if 100 < s.length then none
 else let x := L9 s; if x.2.2 = false ∧ x.2.1 = [] ∧ dB x.1 = true then some x.1 else none
theorem Hw (r : Str) : (aA r).1.length ≤ r.length := by
 have h1 := gJ 60 r
 have h2 := wH vE (ay 60 r).2.length (ay 60 r).2
 have h3 := wH iJ (ay 60 r).2.length (ay 60 r).2
 unfold aA
 dsimp only
 split <;> dsimp only <;> omega
theorem Uq (n : Nat) (r : Str) : sF n r [44] = some (decide (r.head? = some 44)) := by
 unfold sF
 cases r with
 | nil => rfl
 | cons c r =>
  have : Lib.hasPrefix (c :: r) [44] = (44 == c) := by simp [Lib.hasPrefix, List.isPrefixOf]
  rw [this, List.head?_cons]
  by_cases h : c = 44
  ·subst h; rfl
  ·have h' : ¬ (44 : UInt8) = c := fun e => h e.symm
   simp [h, h']
def SN (r : RuleV) (e : Int) : Str × Str × Int × Int × Int × Int × Int × Int × Int × Int × Int × Int × Int × Int × Int := (r.std, r.dst, r.off, r.doff, r.a.k, r.a.m, r.a.w, r.a.d, r.a.t, r.b.k, r.b.m, r.b.w, r.b.d, r.b.t, e)
theorem Wz (n : Nat) (s : Str) (hn : 200 < n) : zS n s = some (match Il s with | some r => SN r 0 | none => SN .zero 70) := by
 unfold zS zR Il
 by_cases h100 : 100 < s.length
 ·rw [aa (by omega), if_pos h100]; rfl
 ·rw [ah (by omega), if_neg h100]
  have h1 := MM s
  have h1' := Hw s
  have h2 := Hu 24 (aA s).2.1
  have h2' := JF 24 (aA s).2.1
  rw [Qo n s false (by omega) (by omega)]
  simp only [Option.bind_some, Bool.false_or]
  rw [show (bv n (24 : Int) (aA s).2.1 (aA s).2.2) = _ from MN n 24 _ _ (by omega) (by omega)]
  simp only [Option.bind_some]
  rw [wi (0 - (dA 24 (aA s).2.1).1) (by omega) (by omega), Int.zero_sub]
  have fin : ∀ (r : RuleV) (t : Str) (bad : Bool), r.std.length ≤ 200 → r.dst.length ≤ 200 →
   cond bad (some (SN .zero 70)) (cond (!(t == ([] : Str))) (some (SN .zero 70)) ((sQ n r.std r.dst r.off r.doff r.a.k r.a.m r.a.w r.a.d r.a.t r.b.k r.b.m r.b.w r.b.d r.b.t).bind fun o80 => cond (!o80) (some (SN .zero 70)) (some (SN r 0))))
   = some (match (if bad = false ∧ t = [] ∧ dB r = true then some r else none) with | some r => SN r 0 | none => SN .zero 70) := by
   intro r t bad g1 g2
   rw [right_val n _ _ _ _ _ _ _ _ _ _ _ _ _ _ (by omega) (by omega) (by omega) (by omega)]
   cases bad with
   | true => simp
   | false =>
    cases t with
    | cons c t => simp
    | nil => cases h : dB r <;> simp [h]
  by_cases he : (dA 24 (aA s).2.1).2.1 = []
  ·have hr : L9 s = (⟨(aA s).1, [], -(dA 24 (aA s).2.1).1, 0, .zero, .zero⟩, [], (aA s).2.2 || (dA 24 (aA s).2.1).2.2) := by unfold L9; dsimp only; rw [if_pos he]
   rw [uI, qI, he]
   simp only [beq_self_eq_true, Bool.not_true, cond_false, Option.bind_some]
   rw [hr]
   exact fin ⟨(aA s).1, [], -(dA 24 (aA s).2.1).1, 0, .zero, .zero⟩ [] _ (by show (aA s).1.length ≤ 200; omega) (by simp)
  ·have hr : L9 s = Ik (aA s).1 (-(dA 24 (aA s).2.1).1) (dA 24 (aA s).2.1).2.1 ((aA s).2.2 || (dA 24 (aA s).2.1).2.2) := by unfold L9; dsimp only; rw [if_neg he]
   have hb : ((dA 24 (aA s).2.1).2.1 == ([] : Str)) = false := by simpa using he
   rw [uI, qI, hb]
   rw [hr]
   have hoff : -5000000 < -(dA 24 (aA s).2.1).1 ∧ -(dA 24 (aA s).2.1).1 < 5000000 := by omega
   generalize ((aA s).2.2 || (dA 24 (aA s).2.1).2.2) = bad
   generalize -(dA 24 (aA s).2.1).1 = off at *
   generalize (dA 24 (aA s).2.1).2.1 = r at *
   have k1 := MM r
   have k1' := Hw r
   have k2 := Yu off (aA r).2.1
   have k3 := gJ 44 (xU off (aA r).2.1).2.1
   have k4 := Yt (ay 44 (xU off (aA r).2.1).2.1).2
   have k5 := gJ 44 (xk (ay 44 (xU off (aA r).2.1).2.1).2).2.1
   simp only [Bool.not_false, cond_true]
   rw [Qo n r bad (by omega) (by omega)]
   simp only [Option.bind_some]
   rw [yg, vg, Uq, Option.bind_some]
   have ho : ∀ (K : Int → Str → Bool → Option (Str × Str × Int × Int × Int × Int × Int × Int × Int × Int × Int × Int × Int × Int × Str × Bool × Str × Str × Int × Int × Int × Int × Int × Int × Int × Int × Int × Int × Int × Int)) (b' : Bool), -5000000 < off → off < 5000000 →
    cond (!decide ((aA r).2.1.head? = some 44)) ((bv n (24 : Int) (aA r).2.1 b').bind fun o49 => K (IntKind.i64.wrap (0 - o49.1)) o49.2.1 o49.2.2) (K (IntKind.i64.wrap (off + 3600)) (aA r).2.1 b')
    = K (xU off (aA r).2.1).1 (xU off (aA r).2.1).2.1 (b' || (xU off (aA r).2.1).2.2) := by
    intro K b' hlo hhi
    unfold xU
    have hl := JF 24 (aA r).2.1
    by_cases hc : (aA r).2.1.head? = some 44
    ·rw [decide_eq_true hc, if_pos hc, wi (off + 3600) (by omega) (by omega)]
     simp
    ·rw [decide_eq_false hc, if_neg hc]
     rw [show (bv n (24 : Int) (aA r).2.1 b') = _ from MN n 24 _ _ (by omega) (by omega)]
     simp only [Option.bind_some, Bool.not_false, cond_true]
     rw [wi _ (by omega) (by omega), Int.zero_sub]
   have ho' := ho (fun x t b => some (([] : Str), ([] : Str), 0, 0, 0, 0, 0, 0, 0, 0, 0, 0, 0, 0, t, b, (aA s).1, (aA r).1, off, x, 0, 0, 0, 0, 0, 0, 0, 0, 0, 0)) (bad || (aA r).2.2) (by omega) (by omega)
   rw [ho']
   simp only [Option.bind_some]
   rw [Jg n 44 44]
   simp only [Option.bind_some]
   rw [Vj n _ _ (by omega) (by omega)]
   simp only [Option.bind_some]
   rw [Jg n 44 44]
   simp only [Option.bind_some]
   rw [Vj n _ _ (by omega) (by omega)]
   simp only [Option.bind_some]
   exact fin (Ik (aA s).1 off r bad).1 (Ik (aA s).1 off r bad).2.1 (Ik (aA s).1 off r bad).2.2 (by show (aA s).1.length ≤ 200; omega) (by show (aA r).1.length ≤ 200; omega)
theorem Ur : rU [] = false := rfl
theorem WA (r : Str) (h : (aA r).2.2 = false) : rU (aA r).1 = true := by
 unfold aA at h ⊢
 dsimp only at h ⊢
 split at h
 ·rename_i he; rw [if_pos he]; dsimp only at h ⊢; simp only [Bool.or_eq_false_iff, Bool.not_eq_eq_eq_not, Bool.not_false] at h; exact h.2
 ·rename_i he; rw [if_neg he]; dsimp only at h ⊢; simpa using h
end Go.Proofs.YtiegmpnagcdgoaaGreatDoor.H
namespace Go.Proofs.YtiegmpnagcdgoaaGreatDoor.H
open Go.Sh Go.RowKit
set_option linter.unusedSimpArgs false
set_option linter.unusedVariables false
theorem Ji (n : Nat) (b : UInt8) : fZ n (b.toNat : Int) = some (iJ b) := by
 have h := E9 (p := fun x => fZ 0 (x : Int) = some (iJ (UInt8.ofNat x))) (by decide +kernel) b
 rw [UInt8.ofNat_toNat] at h
 exact h
theorem KN (n : Nat) (b : UInt8) : eT n (b.toNat : Int) = some (dV b) := by
 have h := E9 (p := fun x => eT 0 (x : Int) = some (dV (UInt8.ofNat x))) (by decide +kernel) b
 rw [UInt8.ofNat_toNat] at h
 exact h
theorem OY (n : Nat) (s : Str) (hs : s.length < 9223372036854775808) : ∀ (m i : Nat), s.length - i < m →
 eU n m s (i : Int) = some (if (s.drop i).all Ij = true then Sum.inr () else Sum.inl ())
 | 0, i, hm => by omega
 | m + 1, i, hm => by
  rw [eU, lW, og, lV]
  cases hd : s.drop i with
  | nil =>
   have := drop_nil hd
   rw [ah (by omega)]
   simp
  | cons c r =>
   obtain ⟨h1, h2, h3⟩ := nA hd
   rw [aa (by omega)]
   simp only [aa (show (0 : Int) ≤ (i : Int) by omega), Int.toNat_natCast, h1, Option.bind_some, Ji, KN]
   have e43 : ((c.toNat : Int) != 43) = (c != 43) := Jf c 43
   have e45 : ((c.toNat : Int) != 45) = (c != 45) := Jf c 45
   rw [e43, e45, wY i (by omega), OY n s hs m (i + 1) (by omega), h2]
   have hn : Ij c = (iJ c || dV c || c == 43 || c == 45) := rfl
   simp only [List.all_cons, hn, bne]
   generalize iJ c = v1, dV c = v2, (c == 43) = v3, (c == 45) = v4, r.all Ij = v5
   cases v1 <;> cases v2 <;> cases v3 <;> cases v4 <;> cases v5 <;> rfl
theorem Hy (n : Nat) (s : Str) (hs : s.length < 9223372036854775808) (hn : s.length < n) : fH n s = some (rU s) := by
 unfold fH pJ rU
 rw [show (0 : Int) = ((0 : Nat) : Int) from rfl, OY n s hs n 0 (by omega), List.drop_zero]
 cases h : s.all Ij with
 | false => simp
 | true =>
  simp only [Option.bind_some, if_true, Sum.elim_inr]
  rw [L6, Bool.and_true]
  have e1 : decide ((s.length : Int) ≥ (3 : Int)) = decide (3 ≤ s.length) := by rw [decide_eq_decide]; omega
  have e2 : decide ((s.length : Int) ≤ (10 : Int)) = decide (s.length ≤ 10) := by rw [decide_eq_decide]; omega
  rw [e1, e2]
theorem MO (n : Nat) (k m w d t : Int) : gG n k m w d t = some (oZ ⟨k, m, w, d, t⟩) := by
 unfold gG qK pK mX oZ Fa
 by_cases h1 : t < -604799
 ·rw [aa h1]
  have : ¬ (-604799 ≤ t) := by omega
  simp [this]
 ·rw [ah h1]
  by_cases h2 : t > 604799
  ·have : ¬ (t ≤ 604799) := by omega
   simp [h2, this]
  ·have e1 : -604799 ≤ t := by omega
   have e2 : t ≤ 604799 := by omega
   simp only [h2, decide_false, Option.bind_some, cond_false, JV, L6, e1, e2, decide_true, Bool.true_and, ge_iff_le, Bool.and_assoc]
   by_cases k1 : k = 1
   ·simp [k1]
   ·by_cases k2 : k = 2
    ·simp [k2]
    ·by_cases k3 : k = 3
     ·simp [k3]
     ·rw [decide_eq_false k1, decide_eq_false k2, decide_eq_false k3]
      simp [k1, k2, k3]
theorem SQ (n : Nat) (x : Int) : mq n x = some (Fa x 89999) := by
 unfold mq qL Fa
 rw [L6]
theorem rright_val (n : Nat) (std dst : Str) (off doff k m w d t k' m' w' d' t' : Int) (hs : std.length < 9223372036854775808) (hn : std.length < n) (hs' : dst.length < 9223372036854775808) (hn' : dst.length < n) :
 gX n std dst off doff k m w d t k' m' w' d' t' = some (dB ⟨std, dst, off, doff, ⟨k, m, w, d, t⟩, ⟨k', m', w', d', t'⟩⟩) := by
 unfold gX oh dB
 rw [mY, kU, Hy n std hs hn]
 simp only [Option.bind_some]
 cases rU std with
 | false => simp
 | true =>
  simp only [Bool.not_true, cond_false, Bool.true_and, SQ, Option.bind_some]
  cases Fa off 89999 with
  | false => simp
  | true =>
   simp only [Bool.not_true, cond_false, Bool.true_and]
   by_cases hd : dst = []
   ·subst hd
    rw [mZ, kV]
    have z : ∀ k m w d t : Int, ((k == 0) && ((m == 0) && ((w == 0) && ((d == 0) && ((t == 0) && true))))) = OX ⟨k, m, w, d, t⟩ := fun k m w d t => by simp [OX, Bool.and_assoc]
    simp only [beq_self_eq_true, cond_true, if_true, z]
    cases doff == 0 <;> cases OX ⟨k, m, w, d, t⟩ <;> cases OX ⟨k', m', w', d', t'⟩ <;> rfl
   ·have : (dst == ([] : Str)) = false := by simpa using hd
    rw [this, cond_false, Hy n dst hs' hn', if_neg hd]
    simp only [Option.bind_some, SQ, MO, Qq, Bool.and_assoc]
end Go.Proofs.YtiegmpnagcdgoaaGreatDoor.H
namespace Go.Proofs.YtiegmpnagcdgoaaGreatDoor.H
open Go.Sh Go.RowKit
set_option linter.unusedSimpArgs false
set_option linter.unusedVariables false
def At (s r : Str) (i : Int) : Prop := r <:+ s ∧ i = ((s.length - r.length : Nat) : Int)
theorem At.nil {s : Str} {i : Int} (h : At s [] i) : i = (s.length : Int) := by simpa [At] using h.2
theorem At.le {s r : Str} {i : Int} (h : At s r i) : r.length ≤ s.length := h.1.length_le
theorem At.cons {s r : Str} {c : UInt8} {i : Int} (h : At s (c :: r) i) : ∃ k : Nat, i = (k : Int) ∧ k < s.length ∧ s[k]? = some c ∧ At s r ((k + 1 : Nat) : Int) := by
 obtain ⟨⟨p, hp⟩, hi⟩ := h
 subst hp
 refine ⟨p.length, ?_, ?_, ?_, ⟨⟨p ++ [c], by simp⟩, ?_⟩⟩
 ·rw [hi]; simp
 ·simp
 ·simp
 ·simp [List.length_append]; omega
theorem At.start (s : Str) : At s s 0 := ⟨List.suffix_refl s, by simp⟩
theorem At.part {s m r : Str} {i j : Int} (h : At s (m ++ r) i) (h2 : At s r j) : (s.take j.toNat).drop i.toNat = m := by
 obtain ⟨⟨p, hp⟩, hi⟩ := h
 subst hp
 have hj := h2.2
 subst hi hj
 simp only [Int.toNat_natCast]
 have e1 : (p ++ (m ++ r)).length - r.length = (p ++ m).length := by simp only [List.length_append]; omega
 have e2 : (p ++ (m ++ r)).length - (m ++ r).length = p.length := by simp only [List.length_append]; omega
 rw [e1, e2, ← List.append_assoc, List.take_left, List.drop_left]
theorem At.drop {s r : Str} {i : Int} (h : At s r i) (k : Nat) (hk : k ≤ r.length) : At s (r.drop k) (i + k) := by
 obtain ⟨h1, h2⟩ := h
 refine ⟨(List.drop_suffix k r).trans h1, ?_⟩
 have := h1.length_le
 rw [h2, List.length_drop]
 omega
theorem At.le2 {s r : Str} {i : Int} (h : At s r i) : 0 ≤ i ∧ i ≤ (s.length : Int) := by
 have := h.le
 rw [h.2]
 omega
theorem At.num {s r : Str} {i : Int} (h : At s r i) : i = (s.length : Int) - (r.length : Int) := by
 have := h.le
 rw [h.2]
 omega
def Ma : Str → Int
 | [] => 0
 | c :: _ => (c.toNat : Int)
theorem Mc (n : Nat) {s r : Str} {i : Int} (h : At s r i) (b : Bool) : bN n s i b = some (Ma r, s, i, b) := by
 unfold bN jg
 cases r with
 | nil => rw [h.nil, ah (by omega)]; rfl
 | cons c r =>
  obtain ⟨k, rfl, h1, h2, h3⟩ := h.cons
  rw [aa (by omega), aa (by omega), Int.toNat_natCast, h2]
  rfl
theorem Aw (n : Nat) (a : Int) (c : UInt8) {s r : Str} {i : Int} (h : At s r i) (b : Bool) (hs : s.length < 9223372036854775808) (ha : a = (c.toNat : Int) := by rfl) :
 ∃ j, aH n a s i b = some ((ay c r).1, s, j, b) ∧ At s (ay c r).2 j := by
 subst ha
 unfold aH jE je gN
 cases r with
 | nil =>
  have := h.nil
  rw [aa (by omega)]
  exact ⟨i, rfl, h⟩
 | cons x r =>
  obtain ⟨k, rfl, h1, h2, h3⟩ := h.cons
  rw [ah (by omega), aa (by omega), Int.toNat_natCast, h2]
  simp only [Option.bind_some, Jf]
  by_cases hx : x = c
  ·subst hx
   refine ⟨((k + 1 : Nat) : Int), ?_, by simpa [ay] using h3⟩
   rw [wY k (by omega)]
   simp [ay]
  ·refine ⟨k, ?_, by simpa [ay, hx] using h⟩
   rw [show (x != c) = true by simpa using hx]
   simp [ay, hx]
theorem GG (n : Nat) (a : Int) (c : UInt8) {s r : Str} {i : Int} (h : At s r i) (b : Bool) (hs : s.length < 9223372036854775808) (ha : a = (c.toNat : Int) := by rfl) :
 ∃ j, aZ n a s i b = some (s, j, b || !(ay c r).1) ∧ At s (ay c r).2 j := by
 obtain ⟨j, h1, h2⟩ := Aw n a c h b hs ha
 refine ⟨j, ?_, h2⟩
 unfold aZ jf
 rw [h1]
 cases he : (ay c r).1 <;> cases b <;> simp [he]
theorem Qr (p : UInt8 → Bool) (r : Str) : jr p r.length r = r.takeWhile p := by simp [jr]
theorem OZ (p : UInt8 → Bool) (k : Nat) (r : Str) : jr p k r ++ r.drop (jr p k r).length = r := by
 conv => rhs; rw [← List.take_append_drop (jr p k r).length r]
 rw [JE]
theorem Qs (n : Nat) (s : Str) (b : Bool) (hs : s.length < 9223372036854775808) : ∀ (m : Nat) (r : Str) (i : Int), r.length < m → At s r i →
 bF n m s i b = some (s, i + ((r.takeWhile vE).length : Int), b)
 | 0, r, i, hm, _ => by omega
 | m + 1, r, i, hm, h => by
  rw [bF, gq, iE, gp]
  cases r with
  | nil =>
   have := h.nil
   rw [ah (by omega)]
   simp
  | cons c r =>
   obtain ⟨k, rfl, h1, h2, h3⟩ := h.cons
   simp only [List.length_cons] at hm
   rw [aa (by omega), aa (by omega), Int.toNat_natCast, h2]
   have e : ((c.toNat : Int) != 62) = vE c := Jf c 62
   simp only [Option.bind_some, e]
   cases hc : vE c with
   | false => rw [List.takeWhile_cons_of_neg (by simp [hc])]; simp
   | true =>
    rw [List.takeWhile_cons_of_pos (by simp [hc]), cond_true, wY k (by omega), Qs n s b hs m r _ (by omega) h3]
    refine congrArg some (Prod.ext rfl (Prod.ext ?_ rfl))
    simp only [List.length_cons]
    omega
theorem Nn (n : Nat) (s : Str) (b : Bool) (hs : s.length < 9223372036854775808) : ∀ (m : Nat) (r : Str) (i : Int), r.length < m → At s r i →
 bG n m s i b = some (s, i + ((r.takeWhile iJ).length : Int), b)
 | 0, r, i, hm, _ => by omega
 | m + 1, r, i, hm, h => by
  rw [bG, gy, Mc n h]
  cases r with
  | nil =>
   simp only [Option.bind_some, Ma]
   rw [show fZ n 0 = some false from Ji n 0]
   simp
  | cons c r =>
   obtain ⟨k, rfl, h1, h2, h3⟩ := h.cons
   simp only [List.length_cons] at hm
   simp only [Option.bind_some, Ma, Ji]
   cases hc : iJ c with
   | false => rw [List.takeWhile_cons_of_neg (by simp [hc])]; simp
   | true =>
    rw [List.takeWhile_cons_of_pos (by simp [hc]), cond_true, wY k (by omega), Nn n s b hs m r _ (by omega) h3]
    refine congrArg some (Prod.ext rfl (Prod.ext ?_ rfl))
    simp only [List.length_cons]
    omega
theorem GH (n : Nat) {s r : Str} {i : Int} (h : At s r i) (b : Bool) (hs : s.length < 9223372036854775808) (hn : s.length < n) :
 ∃ j, eZ n s i b = some ((aA r).1, s, j, b || (aA r).2.2) ∧ At s (aA r).2.1 j := by
 obtain ⟨j, h1, h2⟩ := Aw n 60 60 h b hs
 have hle := h.le
 have hl := gJ 60 r
 unfold eZ jh aA
 rw [h1]
 simp only [Option.bind_some]
 cases he : (ay 60 r).1 with
 | true =>
  simp only [cond_true, if_true]
  have hr := wH vE (ay 60 r).2.length (ay 60 r).2
  rw [Qs n s b hs n _ _ (by omega) h2]
  rw [← Qr]
  generalize hw : jr vE (ay 60 r).2.length (ay 60 r).2 = w at *
  have h3 := h2.drop w.length (by omega)
  have b2 := h2.le2
  have b3 := h3.le2
  simp only [Option.bind_some]
  rw [aa (by omega), aa (by omega), aa (by omega), aa (by omega)]
  obtain ⟨q, h4, h5⟩ := GG n 62 62 h3 b hs
  rw [h4]
  simp only [Option.bind_some]
  have hsp : w ++ (ay 60 r).2.drop w.length = (ay 60 r).2 := by rw [← hw]; exact OZ _ _ _
  rw [At.part (by rw [hsp]; exact h2) h3]
  rw [iF, gu, Hy n w (by omega) (by omega)]
  refine ⟨q, ?_, h5⟩
  cases b <;> cases (ay 62 ((ay 60 r).2.drop w.length)).1 <;> rfl
 | false =>
  have hz : (ay 60 r).2 = r ∧ j = i := by
   have hr : (ay 60 r).2 = r := by
    cases r with
    | nil => rfl
    | cons x r => by_cases hx : x = 60 <;> simp_all [ay]
   rw [hr] at h2
   exact ⟨hr, by rw [h2.2, h.2]⟩
  obtain ⟨hz1, rfl⟩ := hz
  simp only [cond_false, Bool.false_eq_true, if_false, hz1]
  have hr := wH iJ r.length r
  rw [Nn n s b hs n _ _ (by omega) h]
  rw [← Qr]
  generalize hw : jr iJ r.length r = w at *
  have h3 := h.drop w.length (by omega)
  have b2 := h.le2
  have b3 := h3.le2
  simp only [Option.bind_some]
  rw [aa (by omega), aa (by omega), aa (by omega), aa (by omega)]
  have hsp : w ++ r.drop w.length = r := by rw [← hw]; exact OZ _ _ _
  rw [At.part (by rw [hsp]; exact h) h3, Hy n w (by omega) (by omega)]
  refine ⟨_, ?_, h3⟩
  cases b <;> rfl
end Go.Proofs.YtiegmpnagcdgoaaGreatDoor.H

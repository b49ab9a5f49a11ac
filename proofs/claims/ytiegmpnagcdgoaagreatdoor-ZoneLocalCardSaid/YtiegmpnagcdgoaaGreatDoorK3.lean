/- Texts of this session, joined and cut to what one statement needs, under short names. -/
import Derived.Test.YtiegmpnagcdgoaaGreatDoorK2
import Derived.Test.YtiegmpnagcdgoaaGreatDoorProg
import Derived.KernelRfl
import Derived.Lib.AtoiErrMem
import Derived.Lib.SliceRun
import Derived.WalkKit
import Derived.IntWalk
namespace Go.Proofs.YtiegmpnagcdgoaaGreatDoor.H
open Go.Sh Go.RowKit
set_option linter.unusedVariables false
set_option linter.unusedSimpArgs false
set_option maxHeartbeats 4000000
set_option maxRecDepth 100000
def y7 (n : Nat) (a0 h0 : Int) (R : Type) (K : (Bool × Int) → Option R) : Option R := cond (decide (a0 < h0)) (K (true, h0)) (K (decide (a0 > (126 : Int)), h0))
def HV n a0 h0 := y7 n a0 h0 _ some
def Lx : FS := ⟨[.c, .q 0 0], [.c 5 [.c]], [([.b], [.c 5 [.c]])]⟩
def Kl (n : Nat) : FSpec := Lx.sp (HV n)
theorem M9 (n : Nat) : FSound Tryz.prog 123 (Kl n) := fs2 (S := Lx) (b := y7 n) Tryz.func123 rfl rfl [.tmp 3] .a (nt2 (y7 n) (by intros; unfold y7; simp only [ay])) trivial
def bT (n : Nat) (x0 : List Int) (x7 x8 h0_0 : Int) (R : Type) (A_ : (List Int) → Int → Int → Int → Option R) (K : ((Int × Int) ⊕ (Int)) → Option R) : Option R := cond (decide (x8 < x7)) (cond (decide (0 ≤ x8)) ((x0[x8.toNat]?).bind fun e2 => ((HV n e2 h0_0).bind fun o3 => (cond o3.1 (K (Sum.inl (x8, o3.2))) (A_ x0 x7 (IntKind.i64.wrap (x8 + (1 : Int))) o3.2)))) none) (K (Sum.inr h0_0))
def aH (n : Nat) : Nat → (List Int) → Int → Int → Int → Option ((Int × Int) ⊕ (Int))
 | 0, _, _, _, _ => none
 | m + 1, x0, x7, x8, h0_0 => bT n x0 x7 x8 h0_0 _ (aH n m) some
def mM : PS := ⟨[], [(0, .l .u8), (1, .f (.func 123) [] [.q 0 0]), (7, .n), (8, .n)], some [.c 5 [.c]], [⟨.ret, [], [(4, .n)], [.c 5 [.c]], none⟩, ⟨(.exit 0), [], [], [.c 5 [.c]], none⟩], none, none⟩
theorem AJ (n : Nat) : Snd ⟨Tryz.prog, 1, 19⟩ (mM.x (aH n n)) (fb Tryz.f161 21) := mK (S := mM) (b := bT n) (f := aH n) n (.s .a (.s .a (.s (.u (.s .a (.s (.r [(5, .cl 123 (Kl n))]) .a))) .a))) (nl4 (bT n) (by intros; unfold bT; simp only [ay])) (ai (M9 n) trivial)
def gI (n : Nat) (a0 : List Int) (h0 : Int) (R : Type) (K : (Int × Int) → Option R) : Option R := (aH n n a0 (a0.length : Int) (0 : Int) h0).bind fun o4 => (Sum.elim (fun o5 => K (o5.1, o5.2)) (fun o6 => K ((-1 : Int), o6)) o4)
def pW n a0 h0 := gI n a0 h0 _ some
def wB : FS := ⟨[.l .u8, .f (.func 123) [] [.q 0 0]], [.c 5 [.c]], [([.n], [.c 5 [.c]])]⟩
def vC (n : Nat) : FSpec := wB.sp (pW n)
theorem Bj (n : Nat) : FSound Tryz.prog 161 (vC n) := fs2 (S := wB) (b := gI n) Tryz.func161 rfl rfl [.tmp 4] (.s .a (.s (.s .a (.u (.p (mM.x (aH n n))))) .a)) (nt2 (gI n) (by intros; unfold gI; simp only [ay])) (ai (AJ n) trivial)
def ed (n : Nat) (a0 : List Int) (h0 : Int) (R : Type) (K : (Bool × Int) → Option R) : Option R := (pW n a0 h0).bind fun o7 => (K (decide (o7.1 ≥ (0 : Int)), o7.2))
def mO n a0 h0 := ed n a0 h0 _ some
def uD : FS := ⟨[.l .u8, .f (.func 123) [] [.q 0 0]], [.c 5 [.c]], [([.b], [.c 5 [.c]])]⟩
def sO (n : Nat) : FSpec := uD.sp (mO n)
theorem y8 (n : Nat) : FSound Tryz.prog 124 (sO n) := fs2 (S := uD) (b := ed n) Tryz.func124 rfl rfl [.tmp 4] (.s .a (.s (.r [(2, .cl 161 (vC n))]) .a)) (nt2 (ed n) (by intros; unfold ed; simp only [ay])) (ai (Bj n) trivial)
def DF (n : Nat) (a0 : Str) (a1 a2 : Int) (R : Type) (K : Bool → Option R) : Option R := cond (decide ((a0.length : Int) ≤ a1)) ((mO n (pU a0) a2).bind fun o8 => (K (!o8.1))) (K false)
def DI n a0 a1 a2 := DF n a0 a1 a2 _ some
def OH : FS := ⟨[.s, .n, .c], [], [([.b], [])]⟩
def Jl (n : Nat) : FSpec := OH.sp (DI n)
theorem JF (n : Nat) : FSound Tryz.prog 85 (Jl n) := fs2 (S := OH) (b := DF n) Tryz.func85 rfl rfl [.tmp 6] (.s .a (.s .a (.s (.r [(8, .cl 124 (sO n))]) .a))) (nt3 (DF n) (by intros; unfold DF; simp only [ay])) (ai (y8 n) trivial)
def wC (n : Nat) (h0_0 : List (List AV)) (h0_1 h0_2 : List Int) (h0_3 : Str) (R : Type) (K : W0 → Option R) : Option R := cond (decide ((h0_0.length : Int) < (1 : Int))) (K (true, h0_0, h0_1, h0_2, h0_3)) (cond (decide ((h0_0.length : Int) > (255 : Int))) (K (true, h0_0, h0_1, h0_2, h0_3)) (cond (decide ((h0_1.length : Int) > (4000 : Int))) (K (true, h0_0, h0_1, h0_2, h0_3)) (cond ((h0_1.length : Int) != (h0_2.length : Int)) (K (true, h0_0, h0_1, h0_2, h0_3)) ((DI n h0_3 (100 : Int) (32 : Int)).bind fun o23 => (K (!o23, h0_0, h0_1, h0_2, h0_3))))))
def Dp n h0_0 h0_1 h0_2 h0_3 := wC n h0_0 h0_1 h0_2 h0_3 _ some
def Ei : PS := ⟨[], [(1, .q 0 0)], some [.c 26 [.L false 3, .l .i64, .l .i64, .s]], [⟨.normal, [1], [(38, .b)], [.c 26 [.L false 3, .l .i64, .l .i64, .s]], none⟩], none, none⟩
def wD (n : Nat) (h0_0 : List (List AV)) (h0_1 h0_2 : List Int) (h0_3 : Str) (h1_0 : Int) (h1_1 : Bool) (h1_2 : Str) (R : Type) (K : (Bool × (List (List AV)) × (List Int) × (List Int) × Str × Int × Bool × Str) → Option R) : Option R := cond (decide (h1_0 < (-89999 : Int))) (K (true, h0_0, h0_1, h0_2, h0_3, h1_0, h1_1, h1_2)) (cond (decide (h1_0 > (93599 : Int))) (K (true, h0_0, h0_1, h0_2, h0_3, h1_0, h1_1, h1_2)) (cond (h1_2 == ([] : Str)) (K (true, h0_0, h0_1, h0_2, h0_3, h1_0, h1_1, h1_2)) ((DI n h1_2 (15 : Int) (33 : Int)).bind fun o35 => (K (!o35, h0_0, h0_1, h0_2, h0_3, h1_0, h1_1, h1_2)))))
def y9 n h0_0 h0_1 h0_2 h0_3 h1_0 h1_1 h1_2 := wD n h0_0 h0_1 h0_2 h0_3 h1_0 h1_1 h1_2 _ some
def Ej : PS := ⟨[1, 3, 40, 41, 42], [(5, .q 1 0)], some [.c 26 [.L false 3, .l .i64, .l .i64, .s], .c 76 [.n, .b, .s]], [⟨.normal, [1, 3, 40, 41, 42], [(70, .b)], [.c 26 [.L false 3, .l .i64, .l .i64, .s], .c 76 [.n, .b, .s]], none⟩], none, none⟩
def sJ (n : Nat) (x3 : Int) (x40 : List (List AV)) (x41 x42 : Int) (h0_0 : List (List AV)) (h0_1 h0_2 : List Int) (h0_3 : Str) (R : Type) (A_ : Int → (List (List AV)) → Int → Int → (List (List AV)) → (List Int) → (List Int) → Str → Option R) (K : ((Unit) ⊕ W1) → Option R) : Option R := cond (decide (x42 < x41)) (cond (decide (0 ≤ x42)) ((x40[x42.toNat]?).bind fun e25 => (unc e25 fun c26 r27 => yu .i64 c26 fun x28 => unc r27 fun c29 r30 => yV c29 fun x31 => unc r30 fun c32 r33 => yX c32 fun x34 => unn r33 ((y9 n h0_0 h0_1 h0_2 h0_3 x28 x31 x34).bind fun o36 => (cond o36.1 (K (Sum.inl ())) (A_ (IntKind.i64.wrap (x3 + (IntKind.i64.wrap ((x34.length : Int) + (1 : Int))))) x40 x41 (IntKind.i64.wrap (x42 + (1 : Int))) o36.2.1 o36.2.2.1 o36.2.2.2.1 o36.2.2.2.2.1))))) none) (K (Sum.inr (x3, h0_0, h0_1, h0_2, h0_3)))
def qG (n : Nat) : Nat → Int → (List (List AV)) → Int → Int → (List (List AV)) → (List Int) → (List Int) → Str → Option ((Unit) ⊕ W1)
 | 0, _, _, _, _, _, _, _, _ => none
 | m + 1, x3, x40, x41, x42, h0_0, h0_1, h0_2, h0_3 => sJ n x3 x40 x41 x42 h0_0 h0_1 h0_2 h0_3 _ (qG n m) some
def El : PS := ⟨[], [(1, .q 0 0), (3, .n), (40, .L false 3), (41, .n), (42, .n)], some [.c 26 [.L false 3, .l .i64, .l .i64, .s]], [⟨.ret, [], [(2, .x (.bool false))], [], (some 0)⟩, ⟨(.exit 0), [1], [(3, .n)], [.c 26 [.L false 3, .l .i64, .l .i64, .s]], none⟩], (some 0), (some 0)⟩
def wE (n : Nat) (x6 x7 : Int) (h0_0 : List (List AV)) (h0_1 h0_2 : List Int) (h0_3 : Str) (R : Type) (K : W0 → Option R) : Option R := cond (decide (x7 < (0 : Int))) (K (true, h0_0, h0_1, h0_2, h0_3)) (cond (decide (x7 ≥ (h0_0.length : Int))) (K (true, h0_0, h0_1, h0_2, h0_3)) (cond (decide (x6 > (0 : Int))) (cond (decide (0 ≤ x6)) ((h0_1[x6.toNat]?).bind fun e41 => (cond (decide (0 ≤ (IntKind.i64.wrap (x6 - (1 : Int))))) ((h0_1[(IntKind.i64.wrap (x6 - (1 : Int))).toNat]?).bind fun e42 => (K (decide (e41 ≤ e42), h0_0, h0_1, h0_2, h0_3))) none)) none) (K (false, h0_0, h0_1, h0_2, h0_3))))
def za n x6 x7 h0_0 h0_1 h0_2 h0_3 := wE n x6 x7 h0_0 h0_1 h0_2 h0_3 _ some
def Em : PS := ⟨[3, 73, 74, 75], [(1, .q 0 0), (6, .n), (7, .n)], some [.c 26 [.L false 3, .l .i64, .l .i64, .s]], [⟨.normal, [1, 3, 73, 74, 75], [(106, .b)], [.c 26 [.L false 3, .l .i64, .l .i64, .s]], none⟩], none, none⟩
def sK (n : Nat) (x73 : List Int) (x74 x75 : Int) (h0_0 : List (List AV)) (h0_1 h0_2 : List Int) (h0_3 : Str) (R : Type) (A_ : (List Int) → Int → Int → (List (List AV)) → (List Int) → (List Int) → Str → Option R) (K : (((List (List AV)) × (List Int) × (List Int) × Str) ⊕ ((List (List AV)) × (List Int) × (List Int) × Str)) → Option R) : Option R := cond (decide (x75 < x74)) (cond (decide (0 ≤ x75)) ((x73[x75.toNat]?).bind fun e40 => ((za n x75 e40 h0_0 h0_1 h0_2 h0_3).bind fun o43 => (cond o43.1 (K (Sum.inl (o43.2.1, o43.2.2.1, o43.2.2.2.1, o43.2.2.2.2))) (A_ x73 x74 (IntKind.i64.wrap (x75 + (1 : Int))) o43.2.1 o43.2.2.1 o43.2.2.2.1 o43.2.2.2.2)))) none) (K (Sum.inr (h0_0, h0_1, h0_2, h0_3)))
def qH (n : Nat) : Nat → (List Int) → Int → Int → (List (List AV)) → (List Int) → (List Int) → Str → Option (((List (List AV)) × (List Int) × (List Int) × Str) ⊕ ((List (List AV)) × (List Int) × (List Int) × Str))
 | 0, _, _, _, _, _, _, _ => none
 | m + 1, x73, x74, x75, h0_0, h0_1, h0_2, h0_3 => sK n x73 x74 x75 h0_0 h0_1 h0_2 h0_3 _ (qH n m) some
def En : PS := ⟨[3], [(1, .q 0 0), (73, .l .i64), (74, .n), (75, .n)], some [.c 26 [.L false 3, .l .i64, .l .i64, .s]], [⟨.ret, [], [(2, .x (.bool false))], [.c 26 [.L false 3, .l .i64, .l .i64, .s]], none⟩, ⟨(.exit 2), [3], [], [.c 26 [.L false 3, .l .i64, .l .i64, .s]], none⟩], none, none⟩
theorem Na (n : Nat) : Snd ⟨Tryz.prog, 0, 110⟩ (Ej.x (y9 n)) (fb Tryz.f50 22935) := iY (S := Ej) (b := wD n) (.r [(16, .cl 85 (Jl n))]) (nt7 (wD n) (by intros; unfold wD; simp only [ay])) (ai (JF n) trivial)
theorem Nb (n : Nat) : Snd ⟨Tryz.prog, 0, 110⟩ (Em.x (za n)) (fb Tryz.f50 21295) := iY (S := Em) (b := wE n) (.d [] [(4, .look), (13, .look), (17, .no), (18, .look), (23, .no)]) (nt6 (wE n) (by intros; unfold wE; simp only [ay])) trivial
theorem Nc (n : Nat) : Snd ⟨Tryz.prog, 0, 110⟩ (Ei.x (Dp n)) (fb Tryz.f50 9) := iY (S := Ei) (b := wC n) (.r [(28, .cl 85 (Jl n))]) (nt4 (wC n) (by intros; unfold wC; simp only [ay])) (ai (JF n) trivial)
theorem Nf (n : Nat) : Snd ⟨Tryz.prog, 0, 110⟩ (El.x (qG n n)) (fb Tryz.f50 87) := mK (S := El) (b := sJ n) (f := qG n) n (.s .a (.s .a (.s (.u (.s .a (.s .a (.s (.p (Ej.x (y9 n))) .a)))) .a))) (nl8 (sJ n) (by intros; unfold sJ; simp only [ay])) (ai (Na n) trivial)
theorem Ng (n : Nat) : Snd ⟨Tryz.prog, 0, 110⟩ (En.x (qH n n)) (fb Tryz.f50 175) := mK (S := En) (b := sK n) (f := qH n) n (.s .a (.s .a (.s (.u (.s .a (.s (.p (Em.x (za n))) .a))) .a))) (nl7 (sK n) (by intros; unfold sK; simp only [ay])) (ai (Nb n) trivial)
def Bl (n : Nat) (a0 : List (List AV)) (a1 a2 : List Int) (a3 : Str) (R : Type) (K : Bool → Option R) : Option R := (Dp n a0 a1 a2 a3).bind fun o24 => (cond o24.1 (K false) ((qG n n (0 : Int) o24.2.1 (o24.2.1.length : Int) (0 : Int) o24.2.1 o24.2.2.1 o24.2.2.2.1 o24.2.2.2.2).bind fun o37 => (Sum.elim (fun o38 => K false) (fun o39 => (qH n n o39.2.2.2.1 (o39.2.2.2.1.length : Int) (0 : Int) o39.2.1 o39.2.2.1 o39.2.2.2.1 o39.2.2.2.2).bind fun o44 => (Sum.elim (fun o45 => K false) (fun o46 => K (decide (o39.1 ≤ (256 : Int)))) o44)) o37)))
def Bn n a0 a1 a2 a3 := Bl n a0 a1 a2 a3 _ some
def Nh : FS := ⟨[.a [.L false 3, .l .i64, .l .i64, .s]], [], [([.b], [])]⟩
def HY (n : Nat) : FSpec := Nh.sp (Bn n)
theorem IB (n : Nat) : FSound Tryz.prog 50 (HY n) := fs2 (S := Nh) (b := Bl n) Tryz.func50 rfl rfl [.tmp 2] (.s .a (.s (.s (.p (Ei.x (Dp n))) .a) (.s .a (.s (.s .a (.u (.p (El.x (qG n n))))) (.s (.s .a (.u (.p (En.x (qH n n))))) .a))))) (nt4 (Bl n) (by intros; unfold Bl; simp only [ay])) (ai (Nc n) (ai (Nf n) (ai (Ng n) trivial)))
theorem JU : Clones Tryz.prog 51 22 76 3 32 := by
 refine ⟨Go.Sh.enters_of Tryz.func51 (by kernel_rfl) rfl, fun n c w => ?_, fun a n c w v2 w2 ha => ?_, Tryz.underlying22, ?_, by decide⟩
 ·have q := Lib.run_eql_slice_nil (P := Tryz.prog) w 22 _ none n c 0 0 Tryz.underlying22
  go_enter Tryz.func51, Tryz.ntmps51
  go_wp2
  go_ret
  exact ⟨rfl, rfl⟩
 ·have q := Lib.run_eql_slice_nil (P := Tryz.prog) w 22 _ (some a) n c 0 0 Tryz.underlying22
  go_enter Tryz.func51, Tryz.ntmps51
  go_wp2_with (at_builtin; refine wpList_append_run rfl _ _ 22 22 rfl _ _ _ rfl rfl ha ?_)
  go_ret
  exact ⟨rfl, rfl⟩
 ·obtain ⟨i, h1, h2⟩ := Option.map_eq_some_iff.1 (by kernel_rfl : (Tryz.prog.info? 76).map (fun i => (i.size, i.bytes, i.zero.map fun z => z.cells.size)) = some (3, 32, some 3))
  injection h2 with h3 h2
  injection h2 with h4 h5
  obtain ⟨z, h6, h7⟩ := Option.map_eq_some_iff.1 h5
  exact ⟨i, z, h1, h6, h3, h4, h7⟩
def EJ (n : Nat) : FSpec := IA 3 32
theorem Jm (n : Nat) : FSound Tryz.prog 51 (EJ n) := Jk JU
theorem JV : Clones Tryz.prog 52 23 2 1 8 := by
 refine ⟨Go.Sh.enters_of Tryz.func52 (by kernel_rfl) rfl, fun n c w => ?_, fun a n c w v2 w2 ha => ?_, Tryz.underlying23, ?_, by decide⟩
 ·have q := Lib.run_eql_slice_nil (P := Tryz.prog) w 23 _ none n c 0 0 Tryz.underlying23
  go_enter Tryz.func52, Tryz.ntmps52
  go_wp2
  go_ret
  exact ⟨rfl, rfl⟩
 ·have q := Lib.run_eql_slice_nil (P := Tryz.prog) w 23 _ (some a) n c 0 0 Tryz.underlying23
  go_enter Tryz.func52, Tryz.ntmps52
  go_wp2_with (at_builtin; refine wpList_append_run rfl _ _ 23 23 rfl _ _ _ rfl rfl ha ?_)
  go_ret
  exact ⟨rfl, rfl⟩
 ·obtain ⟨i, h1, h2⟩ := Option.map_eq_some_iff.1 (by kernel_rfl : (Tryz.prog.info? 2).map (fun i => (i.size, i.bytes, i.zero.map fun z => z.cells.size)) = some (1, 8, some 1))
  injection h2 with h3 h2
  injection h2 with h4 h5
  obtain ⟨z, h6, h7⟩ := Option.map_eq_some_iff.1 h5
  exact ⟨i, z, h1, h6, h3, h4, h7⟩
def EK (n : Nat) : FSpec := IA 1 8
theorem Jn (n : Nat) : FSound Tryz.prog 52 (EK n) := Jk JV
theorem JW : Clones Tryz.prog 53 24 3 1 8 := by
 refine ⟨Go.Sh.enters_of Tryz.func53 (by kernel_rfl) rfl, fun n c w => ?_, fun a n c w v2 w2 ha => ?_, Tryz.underlying24, ?_, by decide⟩
 ·have q := Lib.run_eql_slice_nil (P := Tryz.prog) w 24 _ none n c 0 0 Tryz.underlying24
  go_enter Tryz.func53, Tryz.ntmps53
  go_wp2
  go_ret
  exact ⟨rfl, rfl⟩
 ·have q := Lib.run_eql_slice_nil (P := Tryz.prog) w 24 _ (some a) n c 0 0 Tryz.underlying24
  go_enter Tryz.func53, Tryz.ntmps53
  go_wp2_with (at_builtin; refine wpList_append_run rfl _ _ 24 24 rfl _ _ _ rfl rfl ha ?_)
  go_ret
  exact ⟨rfl, rfl⟩
 ·obtain ⟨i, h1, h2⟩ := Option.map_eq_some_iff.1 (by kernel_rfl : (Tryz.prog.info? 3).map (fun i => (i.size, i.bytes, i.zero.map fun z => z.cells.size)) = some (1, 8, some 1))
  injection h2 with h3 h2
  injection h2 with h4 h5
  obtain ⟨z, h6, h7⟩ := Option.map_eq_some_iff.1 h5
  exact ⟨i, z, h1, h6, h3, h4, h7⟩
def EL (n : Nat) : FSpec := IA 1 8
theorem Jo (n : Nat) : FSound Tryz.prog 53 (EL n) := Jk JW
def yQ (n : Nat) (a0 a1 : Str) : Option (Str × Bool) := some (Lib.trimPrefix a0 a1, Lib.hasPrefix a0 a1)
def xI (n : Nat) : FSpec := fun vs hs R K => match vs with
 | [.str a0, .str a1] => (yQ n a0 a1).bind fun o => K (.tuple [.str o.1, .bool o.2]) hs
 | _ => none
theorem IC (n : Nat) : FSound Tryz.prog 162 (xI n) := M5 (Go.Sh.enters_of Tryz.func162 (by kernel_rfl) rfl) fun args H R k r h => by
 unfold xI at h
 split at h
 ·rename_i a0 a1
  refine ⟨_, h, fun g w vs hl hv => ?_⟩
  obtain ⟨v0, _, rfl, h0, hv⟩ := yZ hv
  obtain ⟨v1, _, rfl, h1, hv⟩ := yZ hv
  obtain rfl := EX hv
  obtain ⟨s, rfl, rfl⟩ := PQ h0
  obtain ⟨u, rfl, rfl⟩ := PQ h1
  refine ⟨.tuple #[.string ⟨(Lib.trimPrefix s.data.toList u.data.toList).toArray⟩, .bool (Lib.hasPrefix s.data.toList u.data.toList)], rfl, fun g w => ?_, (Tryz.strings_CutPrefix s u w).mono ?_⟩
  ·simp only [VR]
   exact ⟨_, rfl, by simp only [VRs]; exact ⟨_, _, rfl, (Xm _).2 _ _, _, _, rfl, by simp only [VR], rfl⟩⟩
  ·rintro e w' ⟨rfl, rfl⟩
   exact ⟨rfl, Below.refl _ _⟩
 ·cases h
def pY (n : Nat) (a0 : Int) (h0 : Str) (h1 : Bool) (R : Type) (K : (Bool × Str × Bool) → Option R) : Option R := (yQ n h0 ((Utf8.encode (IntKind.i32.wrap a0)).data.toList)).bind fun o48 => (K (o48.2, o48.1, h1))
def bC n a0 h0 h1 := pY n a0 h0 h1 _ some
def EM : FS := ⟨[.q 0 0, .c], [.c 147 [.s, .b]], [([.b], [.c 147 [.s, .b]])]⟩
def dJ (n : Nat) : FSpec := EM.sp (bC n)
theorem di (n : Nat) : FSound Tryz.prog 125 (dJ n) := fs2 (S := EM) (b := pY n) Tryz.func125 rfl rfl [.tmp 4] (.s .a (.s (.r [(7, .cl 162 (xI n)), (10, .tk [7])]) .a)) (nt3 (pY n) (by intros; unfold pY; simp only [ay])) (ai (IC n) trivial)
def qj (n : Nat) (a0 : Int) (R : Type) (K : Bool → Option R) : Option R := K (a0 != (62 : Int))
def ql n a0 := qj n a0 _ some
def Bo : FS := ⟨[.c], [], [([.b], [])]⟩
def Ae (n : Nat) : FSpec := Bo.sp (ql n)
theorem F4 (n : Nat) : FSound Tryz.prog 127 (Ae n) := fs2 (S := Bo) (b := qj n) Tryz.func127 rfl rfl [.tmp 2] .a (nt1 (qj n) (by intros; unfold qj; simp only [ay])) trivial
def lq (n : Nat) (x1 x7 : Int) (h0_0 : Str) (h0_1 : Bool) (R : Type) (K : (Bool × Str × Bool) → Option R) : Option R := cond (decide (x7 < (h0_0.length : Int))) (cond (decide (x7 < x1)) (cond (decide (0 ≤ x7)) ((h0_0[x7.toNat]?).bind fun b50 => ((ql n (b50.toNat : Int)).bind fun o51 => (K (o51, h0_0, h0_1)))) none) (K (false, h0_0, h0_1))) (K (false, h0_0, h0_1))
def sP n x1 x7 h0_0 h0_1 := lq n x1 x7 h0_0 h0_1 _ some
def vM : PS := ⟨[], [(0, .q 0 0), (1, .n), (2, .f (.func 127) [] []), (7, .n)], some [.c 147 [.s, .b]], [⟨.normal, [0, 1, 2, 7], [(30, .b)], [.c 147 [.s, .b]], none⟩], none, none⟩
def lu (n : Nat) (x1 x7 : Int) (h0_0 : Str) (h0_1 : Bool) (R : Type) (A_ : Int → Int → Str → Bool → Option R) (K : (Int × Str × Bool) → Option R) : Option R := (sP n x1 x7 h0_0 h0_1).bind fun o52 => (cond o52.1 (A_ x1 (IntKind.i64.wrap (x7 + (1 : Int))) o52.2.1 o52.2.2) (K (x7, o52.2.1, o52.2.2)))
def iF (n : Nat) : Nat → Int → Int → Str → Bool → Option ((Int × Str × Bool))
 | 0, _, _, _, _ => none
 | m + 1, x1, x7, h0_0, h0_1 => lu n x1 x7 h0_0 h0_1 _ (iF n m) some
def vN : PS := ⟨[], [(0, .q 0 0), (1, .n), (2, .f (.func 127) [] []), (7, .n)], some [.c 147 [.s, .b]], [⟨(.exit 0), [0], [(7, .n)], [.c 147 [.s, .b]], none⟩], none, none⟩
theorem HZ (n : Nat) : Snd ⟨Tryz.prog, 1, 49⟩ (vM.x (sP n)) (fb Tryz.f126 131) := iY (S := vM) (b := lq n) (.r [(20, .cl 127 (Ae n))]) (nt4 (lq n) (by intros; unfold lq; simp only [ay])) (ai (F4 n) trivial)
theorem H5 (n : Nat) : Snd ⟨Tryz.prog, 1, 49⟩ (vN.x (iF n n)) (fb Tryz.f126 19) := mK (S := vN) (b := lu n) (f := iF n) n (.s (.s (.p (vM.x (sP n))) .a) .a) (nl4 (lu n) (by intros; unfold lu; simp only [ay])) (ai (HZ n) trivial)
def p8 (n : Nat) (a0 : Int) (h0 : Str) (h1 : Bool) (R : Type) (K : (Str × Str × Bool) → Option R) : Option R := (iF n n a0 (0 : Int) h0 h1).bind fun o53 => (cond (decide (0 ≤ o53.1)) (cond (decide (o53.1 ≤ (o53.2.1.length : Int))) (cond (decide (0 ≤ o53.1)) (cond (decide (o53.1 ≤ (o53.2.1.length : Int))) (K ((o53.2.1.take o53.1.toNat).drop 0, o53.2.1.drop o53.1.toNat, o53.2.2)) none) none) none) none)
def uJ n a0 h0 h1 := p8 n a0 h0 h1 _ some
def EN : FS := ⟨[.q 0 0, .n, .f (.func 127) [] []], [.c 147 [.s, .b]], [([.s], [.c 147 [.s, .b]])]⟩
def DJ (n : Nat) : FSpec := EN.sp (uJ n)
theorem IE (n : Nat) : FSound Tryz.prog 126 (DJ n) := fs2 (S := EN) (b := p8 n) Tryz.func126 rfl rfl [.tmp 6] (.s .a (.s .a (.s (.u (.p (vN.x (iF n n)))) .a))) (nt3 (p8 n) (by intros; unfold p8; simp only [ay])) (ai (H5 n) trivial)
def oG (n : Nat) (a0 : Int) (h0 : Str) (h1 : Bool) (R : Type) (K : (Str × Bool) → Option R) : Option R := (bC n a0 h0 h1).bind fun o55 => (cond (!o55.1) (K (o55.2.1, true)) (K (o55.2.1, o55.2.2)))
def fG n a0 h0 h1 := oG n a0 h0 h1 _ some
def DK : FS := ⟨[.q 0 0, .c], [.c 147 [.s, .b]], [([], [.c 147 [.s, .b]])]⟩
def jI (n : Nat) : FSpec := DK.sp (fG n)
theorem jN (n : Nat) : FSound Tryz.prog 89 (jI n) := fs2 (S := DK) (b := oG n) Tryz.func89 rfl rfl [] (.r [(3, .cl 125 (dJ n))]) (nt3 (oG n) (by intros; unfold oG; simp only [ay])) (ai (di n) trivial)
def zB (n : Nat) (a0 : Int) (R : Type) (K : Bool → Option R) : Option R := cond (decide (a0 ≥ (65 : Int))) (cond (decide (a0 ≤ (90 : Int))) (K true) (cond (decide (a0 ≥ (97 : Int))) (K (decide (a0 ≤ (122 : Int)))) (K false))) (cond (decide (a0 ≥ (97 : Int))) (K (decide (a0 ≤ (122 : Int)))) (K false))
def wF n a0 := zB n a0 _ some
def JG : FS := ⟨[.c], [], [([.b], [])]⟩
def CW (n : Nat) : FSpec := JG.sp (wF n)
theorem EO (n : Nat) : FSound Tryz.prog 128 (CW n) := fs2 (S := JG) (b := zB n) Tryz.func128 rfl rfl [.tmp 2] .a (nt1 (zB n) (by intros; unfold zB; simp only [ay])) trivial
def jO (n : Nat) (x1 x7 : Int) (h0_0 : Str) (h0_1 : Bool) (R : Type) (K : (Bool × Str × Bool) → Option R) : Option R := cond (decide (x7 < (h0_0.length : Int))) (cond (decide (x7 < x1)) (cond (decide (0 ≤ x7)) ((h0_0[x7.toNat]?).bind fun b57 => ((wF n (b57.toNat : Int)).bind fun o58 => (K (o58, h0_0, h0_1)))) none) (K (false, h0_0, h0_1))) (K (false, h0_0, h0_1))
def qm n x1 x7 h0_0 h0_1 := jO n x1 x7 h0_0 h0_1 _ some
def tT : PS := ⟨[], [(0, .q 0 0), (1, .n), (2, .f (.func 128) [] []), (7, .n)], some [.c 147 [.s, .b]], [⟨.normal, [0, 1, 2, 7], [(30, .b)], [.c 147 [.s, .b]], none⟩], none, none⟩
def jP (n : Nat) (x1 x7 : Int) (h0_0 : Str) (h0_1 : Bool) (R : Type) (A_ : Int → Int → Str → Bool → Option R) (K : (Int × Str × Bool) → Option R) : Option R := (qm n x1 x7 h0_0 h0_1).bind fun o59 => (cond o59.1 (A_ x1 (IntKind.i64.wrap (x7 + (1 : Int))) o59.2.1 o59.2.2) (K (x7, o59.2.1, o59.2.2)))
def gz (n : Nat) : Nat → Int → Int → Str → Bool → Option ((Int × Str × Bool))
 | 0, _, _, _, _ => none
 | m + 1, x1, x7, h0_0, h0_1 => jP n x1 x7 h0_0 h0_1 _ (gz n m) some
def tV : PS := ⟨[], [(0, .q 0 0), (1, .n), (2, .f (.func 128) [] []), (7, .n)], some [.c 147 [.s, .b]], [⟨(.exit 0), [0], [(7, .n)], [.c 147 [.s, .b]], none⟩], none, none⟩
theorem F5 (n : Nat) : Snd ⟨Tryz.prog, 1, 49⟩ (tT.x (qm n)) (fb Tryz.f126 131) := iY (S := tT) (b := jO n) (.r [(20, .cl 128 (CW n))]) (nt4 (jO n) (by intros; unfold jO; simp only [ay])) (ai (EO n) trivial)
theorem F6 (n : Nat) : Snd ⟨Tryz.prog, 1, 49⟩ (tV.x (gz n n)) (fb Tryz.f126 19) := mK (S := tV) (b := jP n) (f := gz n) n (.s (.s (.p (tT.x (qm n))) .a) .a) (nl4 (jP n) (by intros; unfold jP; simp only [ay])) (ai (F5 n) trivial)
def ny (n : Nat) (a0 : Int) (h0 : Str) (h1 : Bool) (R : Type) (K : (Str × Str × Bool) → Option R) : Option R := (gz n n a0 (0 : Int) h0 h1).bind fun o60 => (cond (decide (0 ≤ o60.1)) (cond (decide (o60.1 ≤ (o60.2.1.length : Int))) (cond (decide (0 ≤ o60.1)) (cond (decide (o60.1 ≤ (o60.2.1.length : Int))) (K ((o60.2.1.take o60.1.toNat).drop 0, o60.2.1.drop o60.1.toNat, o60.2.2)) none) none) none) none)
def rF n a0 h0 h1 := ny n a0 h0 h1 _ some
def Cr : FS := ⟨[.q 0 0, .n, .f (.func 128) [] []], [.c 147 [.s, .b]], [([.s], [.c 147 [.s, .b]])]⟩
def Bp (n : Nat) : FSpec := Cr.sp (rF n)
theorem GV (n : Nat) : FSound Tryz.prog 126 (Bp n) := fs2 (S := Cr) (b := ny n) Tryz.func126 rfl rfl [.tmp 6] (.s .a (.s .a (.s (.u (.p (tV.x (gz n n)))) .a))) (nt3 (ny n) (by intros; unfold ny; simp only [ay])) (ai (F6 n) trivial)
def Bq (n : Nat) (a0 : Int) (R : Type) (K : Bool → Option R) : Option R := cond (decide (a0 ≥ (48 : Int))) (K (decide (a0 ≤ (57 : Int)))) (K false)
def xJ n a0 := Bq n a0 _ some
def Km : FS := ⟨[.c], [], [([.b], [])]⟩
def Eo (n : Nat) : FSpec := Km.sp (xJ n)
theorem F7 (n : Nat) : FSound Tryz.prog 142 (Eo n) := fs2 (S := Km) (b := Bq n) Tryz.func142 rfl rfl [.tmp 2] .a (nt1 (Bq n) (by intros; unfold Bq; simp only [ay])) trivial
def zC (n : Nat) (a0 : Int) (R : Type) (K : Bool → Option R) : Option R := (wF n a0).bind fun o64 => (cond o64 (K true) ((xJ n a0).bind fun o65 => (cond o65 (K true) (cond (a0 == (43 : Int)) (K true) (K (a0 == (45 : Int)))))))
def JH n a0 := zC n a0 _ some
def JI : FS := ⟨[.c], [], [([.b], [])]⟩
def IG (n : Nat) : FSpec := JI.sp (JH n)
theorem Le (n : Nat) : FSound Tryz.prog 141 (IG n) := fs2 (S := JI) (b := zC n) Tryz.func141 rfl rfl [.tmp 2] (.s .a (.s (.r [(1, .cl 128 (CW n)), (4, .cl 142 (Eo n))]) .a)) (nt1 (zC n) (by intros; unfold zC; simp only [ay])) (ai (EO n) (ai (F7 n) trivial))
def Br (n : Nat) (a0 : Int) (R : Type) (K : Bool → Option R) : Option R := (JH n a0).bind fun o66 => (K (!o66))
def Bt n a0 := Br n a0 _ some
def Kn : FS := ⟨[.c, .q 0 0], [.c 181 [.f (.func 141) [] []]], [([.b], [.c 181 [.f (.func 141) [] []]])]⟩
def JJ (n : Nat) : FSpec := Kn.sp (Bt n)
theorem Mj (n : Nat) : FSound Tryz.prog 172 (JJ n) := fs2 (S := Kn) (b := Br n) Tryz.func172 rfl rfl [.tmp 3] (.s .a (.s (.r [(2, .cl 141 (IG n))]) .a)) (nt1 (Br n) (by intros; unfold Br; simp only [ay])) (ai (Le n) trivial)
def dC (n : Nat) (x0 : List Int) (x7 x8 : Int) (R : Type) (A_ : (List Int) → Int → Int → Option R) (K : ((Int) ⊕ (Unit)) → Option R) : Option R := cond (decide (x8 < x7)) (cond (decide (0 ≤ x8)) ((x0[x8.toNat]?).bind fun e63 => ((Bt n e63).bind fun o67 => (cond o67 (K (Sum.inl x8)) (A_ x0 x7 (IntKind.i64.wrap (x8 + (1 : Int))))))) none) (K (Sum.inr ()))
def bq (n : Nat) : Nat → (List Int) → Int → Int → Option ((Int) ⊕ (Unit))
 | 0, _, _, _ => none
 | m + 1, x0, x7, x8 => dC n x0 x7 x8 _ (bq n m) some
def kX : PS := ⟨[], [(0, .l .u8), (1, .f (.func 172) [] [.q 0 0]), (7, .n), (8, .n)], some [.c 181 [.f (.func 141) [] []]], [⟨.ret, [], [(4, .n)], [.c 181 [.f (.func 141) [] []]], none⟩, ⟨(.exit 0), [], [], [.c 181 [.f (.func 141) [] []]], none⟩], none, none⟩
theorem zb (n : Nat) : Snd ⟨Tryz.prog, 1, 19⟩ (kX.x (bq n n)) (fb Tryz.f161 21) := mK (S := kX) (b := dC n) (f := bq n) n (.s .a (.s .a (.s (.u (.s .a (.s (.r [(5, .cl 172 (JJ n))]) .a))) .a))) (nl3 (dC n) (by intros; unfold dC; simp only [ay])) (ai (Mj n) trivial)
def eO (n : Nat) (a0 : List Int) (R : Type) (K : Int → Option R) : Option R := (bq n n a0 (a0.length : Int) (0 : Int)).bind fun o68 => (Sum.elim (fun o69 => K o69) (fun o70 => K (-1 : Int)) o68)
def nR n a0 := eO n a0 _ some
def uS : FS := ⟨[.l .u8, .f (.func 172) [] [.q 0 0]], [.c 181 [.f (.func 141) [] []]], [([.n], [.c 181 [.f (.func 141) [] []]])]⟩
def uE (n : Nat) : FSpec := uS.sp (nR n)
theorem zL (n : Nat) : FSound Tryz.prog 161 (uE n) := fs2 (S := uS) (b := eO n) Tryz.func161 rfl rfl [.tmp 4] (.s .a (.s (.s .a (.u (.p (kX.x (bq n n))))) .a)) (nt1 (eO n) (by intros; unfold eO; simp only [ay])) (ai (zb n) trivial)
def dD (n : Nat) (a0 : List Int) (R : Type) (K : Bool → Option R) : Option R := (nR n a0).bind fun o71 => (K (decide (o71 ≥ (0 : Int))))
def kY n a0 := dD n a0 _ some
def rR : FS := ⟨[.l .u8, .f (.func 172) [] [.q 0 0]], [.c 181 [.f (.func 141) [] []]], [([.b], [.c 181 [.f (.func 141) [] []]])]⟩
def qN (n : Nat) : FSpec := rR.sp (kY n)
theorem yB (n : Nat) : FSound Tryz.prog 124 (qN n) := fs2 (S := rR) (b := dD n) Tryz.func124 rfl rfl [.tmp 4] (.s .a (.s (.r [(2, .cl 161 (uE n))]) .a)) (nt1 (dD n) (by intros; unfold dD; simp only [ay])) (ai (zL n) trivial)
def Bu (n : Nat) (a0 : Str) (R : Type) (K : Bool → Option R) : Option R := (kY n (pU a0)).bind fun o72 => (K (!o72))
def EY n a0 := Bu n a0 _ some
def Ni : FS := ⟨[.s, .f (.func 141) [] []], [], [([.b], [])]⟩
def LA (n : Nat) : FSpec := Ni.sp (EY n)
theorem N9 (n : Nat) : FSound Tryz.prog 140 (LA n) := fs2 (S := Ni) (b := Bu n) Tryz.func140 rfl rfl [.tmp 4] (.s .a (.s (.r [(3, .cl 124 (qN n))]) .a)) (nt1 (Bu n) (by intros; unfold Bu; simp only [ay])) (ai (yB n) trivial)
def ze (n : Nat) (a0 : Str) (R : Type) (K : Bool → Option R) : Option R := cond (decide ((a0.length : Int) ≥ (3 : Int))) (cond (decide ((a0.length : Int) ≤ (10 : Int))) ((EY n a0).bind fun o73 => (K o73)) (K false)) (K false)
def wV n a0 := ze n a0 _ some
def LB : FS := ⟨[.s], [], [([.b], [])]⟩
def Bv (n : Nat) : FSpec := LB.sp (wV n)
theorem Bw (n : Nat) : FSound Tryz.prog 101 (Bv n) := fs2 (S := LB) (b := ze n) Tryz.func101 rfl rfl [.tmp 2] (.s .a (.s (.r [(10, .cl 140 (LA n))]) .a)) (nt1 (ze n) (by intros; unfold ze; simp only [ay])) (ai (N9 n) trivial)
def kz (n : Nat) (h0_0 : Str) (h0_1 : Bool) (R : Type) (K : (Str × Str × Bool) → Option R) : Option R := (bC n (60 : Int) h0_0 h0_1).bind fun o49 => (cond o49.1 ((uJ n (o49.2.1.length : Int) o49.2.1 o49.2.2).bind fun o54 => ((fG n (62 : Int) o54.2.1 o54.2.2).bind fun o56 => (K (o54.1, o56.1, o56.2)))) ((rF n (o49.2.1.length : Int) o49.2.1 o49.2.2).bind fun o61 => (K (o61.1, o61.2.1, o61.2.2))))
def rG n h0_0 h0_1 := kz n h0_0 h0_1 _ some
def uT : PS := ⟨[], [(0, .q 0 0)], some [.c 147 [.s, .b]], [⟨.normal, [0], [(3, .s)], [.c 147 [.s, .b]], none⟩], none, none⟩
theorem GX (n : Nat) : Snd ⟨Tryz.prog, 1, 35⟩ (uT.x (rG n)) (fb Tryz.f86 11) := iY (S := uT) (b := kz n) (.s (.r [(1, .cl 125 (dJ n))]) (.s (.s (.r [(6, .cl 126 (DJ n))]) (.r [(1, .cl 89 (jI n))])) (.r [(6, .cl 126 (Bp n))]))) (nt2 (kz n) (by intros; unfold kz; simp only [ay])) (ai (di n) (ai (IE n) (ai (jN n) (ai (GV n) trivial))))
def oH (n : Nat) (h0 : Str) (h1 : Bool) (R : Type) (K : (Str × Str × Bool) → Option R) : Option R := (rG n h0 h1).bind fun o62 => (cond o62.2.2 (K (o62.1, o62.2.1, true)) ((wV n o62.1).bind fun o74 => (K (o62.1, o62.2.1, !o74))))
def oI n h0 h1 := oH n h0 h1 _ some
def DL : FS := ⟨[.q 0 0], [.c 147 [.s, .b]], [([.s], [.c 147 [.s, .b]])]⟩
def w9 (n : Nat) : FSpec := DL.sp (oI n)
theorem zf (n : Nat) : FSound Tryz.prog 86 (w9 n) := fs2 (S := DL) (b := oH n) Tryz.func86 rfl rfl [.tmp 2] (.s .a (.s .a (.s (.p (uT.x (rG n))) (.s (.r [(7, .cl 101 (Bv n))]) .a)))) (nt2 (oH n) (by intros; unfold oH; simp only [ay])) (ai (GX n) (ai (Bw n) trivial))
def jQ (n : Nat) (x1 x7 : Int) (h0_0 : Str) (h0_1 : Bool) (R : Type) (K : (Bool × Str × Bool) → Option R) : Option R := cond (decide (x7 < (h0_0.length : Int))) (cond (decide (x7 < x1)) (cond (decide (0 ≤ x7)) ((h0_0[x7.toNat]?).bind fun b79 => ((xJ n (b79.toNat : Int)).bind fun o80 => (K (o80, h0_0, h0_1)))) none) (K (false, h0_0, h0_1))) (K (false, h0_0, h0_1))
def qo n x1 x7 h0_0 h0_1 := jQ n x1 x7 h0_0 h0_1 _ some
def tX : PS := ⟨[], [(0, .q 0 0), (1, .n), (2, .f (.func 142) [] []), (7, .n)], some [.c 147 [.s, .b]], [⟨.normal, [0, 1, 2, 7], [(30, .b)], [.c 147 [.s, .b]], none⟩], none, none⟩
def jR (n : Nat) (x1 x7 : Int) (h0_0 : Str) (h0_1 : Bool) (R : Type) (A_ : Int → Int → Str → Bool → Option R) (K : (Int × Str × Bool) → Option R) : Option R := (qo n x1 x7 h0_0 h0_1).bind fun o81 => (cond o81.1 (A_ x1 (IntKind.i64.wrap (x7 + (1 : Int))) o81.2.1 o81.2.2) (K (x7, o81.2.1, o81.2.2)))
def gB (n : Nat) : Nat → Int → Int → Str → Bool → Option ((Int × Str × Bool))
 | 0, _, _, _, _ => none
 | m + 1, x1, x7, h0_0, h0_1 => jR n x1 x7 h0_0 h0_1 _ (gB n m) some
def tY : PS := ⟨[], [(0, .q 0 0), (1, .n), (2, .f (.func 142) [] []), (7, .n)], some [.c 147 [.s, .b]], [⟨(.exit 0), [0], [(7, .n)], [.c 147 [.s, .b]], none⟩], none, none⟩
theorem F8 (n : Nat) : Snd ⟨Tryz.prog, 1, 49⟩ (tX.x (qo n)) (fb Tryz.f126 131) := iY (S := tX) (b := jQ n) (.r [(20, .cl 142 (Eo n))]) (nt4 (jQ n) (by intros; unfold jQ; simp only [ay])) (ai (F7 n) trivial)
theorem F9 (n : Nat) : Snd ⟨Tryz.prog, 1, 49⟩ (tY.x (gB n n)) (fb Tryz.f126 19) := mK (S := tY) (b := jR n) (f := gB n) n (.s (.s (.p (tX.x (qo n))) .a) .a) (nl4 (jR n) (by intros; unfold jR; simp only [ay])) (ai (F8 n) trivial)
def nz (n : Nat) (a0 : Int) (h0 : Str) (h1 : Bool) (R : Type) (K : (Str × Str × Bool) → Option R) : Option R := (gB n n a0 (0 : Int) h0 h1).bind fun o82 => (cond (decide (0 ≤ o82.1)) (cond (decide (o82.1 ≤ (o82.2.1.length : Int))) (cond (decide (0 ≤ o82.1)) (cond (decide (o82.1 ≤ (o82.2.1.length : Int))) (K ((o82.2.1.take o82.1.toNat).drop 0, o82.2.1.drop o82.1.toNat, o82.2.2)) none) none) none) none)
def rH n a0 h0 h1 := nz n a0 h0 h1 _ some
def Cs : FS := ⟨[.q 0 0, .n, .f (.func 142) [] []], [.c 147 [.s, .b]], [([.s], [.c 147 [.s, .b]])]⟩
def Bz (n : Nat) : FSpec := Cs.sp (rH n)
theorem GY (n : Nat) : FSound Tryz.prog 126 (Bz n) := fs2 (S := Cs) (b := nz n) Tryz.func126 rfl rfl [.tmp 6] (.s .a (.s .a (.s (.u (.p (tY.x (gB n n)))) .a))) (nt3 (nz n) (by intros; unfold nz; simp only [ay])) (ai (F9 n) trivial)
def Ga (a0 : Str) : Int := match Lib.atoiAll a0 with
 | .ok v => v
 | .range => Lib.atoiSat a0
 | _ => 0
def xK (n : Nat) (a0 : Str) : Option Int := cond (decide (a0.length ≤ 281474976710656)) (some (Ga a0)) none
def Ep (n : Nat) : FSpec := fun vs hs R K => match vs with
 | [.str a0] => (xK n a0).bind fun o => K (.tuple [.int .i64 o, .undef]) hs
 | _ => none
theorem Mk (n : Nat) : FSound Tryz.prog 163 (Ep n) := QO (Go.Sh.enters_of Tryz.func163 (by kernel_rfl) rfl) fun args H R k r h => by
 unfold Ep at h
 split at h
 ·rename_i a0
  obtain ⟨o, h2, h⟩ := Option.bind_eq_some_iff.1 h
  unfold xK at h2
  obtain ⟨h3, h2⟩ | ⟨_, h2⟩ := ae h2
  ·injection h2 with h2
   subst h2
   simp only [decide_eq_true_eq] at h3
   refine ⟨_, h, fun g w vs hg hl hv => ?_⟩
   obtain ⟨v0, _, rfl, h0, hv⟩ := yZ hv
   obtain rfl := EX hv
   obtain ⟨s, rfl, rfl⟩ := PQ h0
   rw [Array.length_toList] at h3
   have plain : ∀ (n : Int) (x : Value), owns (.tuple [.int .i64 n, .undef]) (.tuple #[.int .i64 n, x]) = [] ∧ ∀ (g : Gh) (w : World), VR g w (.tuple [.int .i64 n, .undef]) (.tuple #[.int .i64 n, x]) := fun n x => ⟨by cases x <;> rfl, fun g w => by simp only [VR]; exact ⟨_, rfl, by simp only [VRs, VR]; exact ⟨_, _, rfl, rfl, _, _, rfl, trivial, rfl⟩⟩⟩
   unfold Ga
   have h3' : s.size ≤ 281474976710656 := h3
   cases hx : Lib.atoiAll s.data.toList with
   | ok v =>
    refine (Tryz.strconv_Atoi_ok s (by omega) v hx w).mono ?_
    rintro e w' ⟨rfl, hw⟩
    refine ⟨_, rfl, (plain _ _).1, (plain _ _).2, ?_⟩
    rcases hw with rfl | ⟨t, rfl⟩
    ·exact Below.refl _ _
    ·exact Lib.bytesWorld_below _ _ _
   | range =>
    obtain ⟨u, x, hc⟩ := U1 hg
    refine (Tryz.strconv_Atoi_range s h3' hx _ w hc (.inr ⟨_, _, rfl⟩)).mono ?_
    rintro e w' ⟨N, rfl, _, _, hb⟩
    exact ⟨_, rfl, (plain _ _).1, (plain _ _).2, hb⟩
   | _ =>
    obtain ⟨u, x, hc⟩ := Tu hg
    refine (Any.strconv_Atoi_syntax Tryz.Qe s h3' hx _ w hc (.inr ⟨_, _, rfl⟩)).mono ?_
    rintro e w' ⟨N, rfl, _, _, hb⟩
    exact ⟨_, rfl, (plain _ _).1, (plain _ _).2, hb⟩
  ·cases h2
 ·cases h
def jl (n : Nat) (x1 : Int) (x7 h0_0 : Str) (h0_1 : Bool) (R : Type) (K : (Str × Bool) → Option R) : Option R := cond h0_1 (K (h0_0, true)) (K (h0_0, decide ((x7.length : Int) < x1)))
def pz n x1 x7 h0_0 h0_1 := jl n x1 x7 h0_0 h0_1 _ some
def rU : PS := ⟨[], [(0, .q 0 0), (1, .n), (7, .s)], some [.c 147 [.s, .b]], [⟨.normal, [7], [], [.c 147 [.s, .b]], none⟩], none, none⟩
theorem EZ (n : Nat) : Snd ⟨Tryz.prog, 1, 32⟩ (rU.x (pz n)) (fb Tryz.f129 11) := iY (S := rU) (b := jl n) .a (nt4 (jl n) (by intros; unfold jl; simp only [ay])) trivial
def lw (n : Nat) (a0 a1 : Int) (h0 : Str) (h1 : Bool) (R : Type) (K : (Int × Str × Bool) → Option R) : Option R := (rH n a1 h0 h1).bind fun o83 => ((pz n a0 o83.1 o83.2.1 o83.2.2).bind fun o84 => ((xK n o83.1).bind fun o85 => (K (o85, o84.1, o84.2))))
def aZ n a0 a1 h0 h1 := lw n a0 a1 h0 h1 _ some
def BA : FS := ⟨[.q 0 0, .n, .n], [.c 147 [.s, .b]], [([.n], [.c 147 [.s, .b]])]⟩
def iA (n : Nat) : FSpec := BA.sp (aZ n)
theorem iG (n : Nat) : FSound Tryz.prog 129 (iA n) := fs2 (S := BA) (b := lw n) Tryz.func129 rfl rfl [.tmp 6] (.s .a (.s (.r [(2, .cl 126 (Bz n))]) (.s (.p (rU.x (pz n))) (.s (.r [(1, .cl 163 (Ep n)), (4, .tk [26])]) .a)))) (nt4 (lw n) (by intros; unfold lw; simp only [ay])) (ai (GY n) (ai (EZ n) (ai (Mk n) trivial)))
def jS (n : Nat) (x5 : Int) (h0_0 : Str) (h0_1 : Bool) (R : Type) (K : (Int × Str × Bool) → Option R) : Option R := (bC n (45 : Int) h0_0 h0_1).bind fun o76 => (cond o76.1 (K ((-1 : Int), o76.2.1, o76.2.2)) ((bC n (43 : Int) o76.2.1 o76.2.2).bind fun o77 => (K (x5, o77.2.1, o77.2.2))))
def lC n x5 h0_0 h0_1 := jS n x5 h0_0 h0_1 _ some
def tZ : PS := ⟨[1], [(0, .q 0 0), (5, .n)], some [.c 147 [.s, .b]], [⟨.normal, [0, 1], [(5, .n)], [.c 147 [.s, .b]], none⟩], none, none⟩
def jT (n : Nat) (x1 x6 : Int) (h0_0 : Str) (h0_1 : Bool) (R : Type) (K : (Str × Bool) → Option R) : Option R := cond h0_1 (K (h0_0, true)) (K (h0_0, decide (x6 > x1)))
def qp n x1 x6 h0_0 h0_1 := jT n x1 x6 h0_0 h0_1 _ some
def uf : PS := ⟨[5], [(0, .q 0 0), (1, .n), (6, .n)], some [.c 147 [.s, .b]], [⟨.normal, [0, 5, 6], [], [.c 147 [.s, .b]], none⟩], none, none⟩
def dV (n : Nat) (x7 : Int) (h0_0 : Str) (h0_1 : Bool) (R : Type) (K : (Bool × Str × Bool) → Option R) : Option R := cond (decide (x7 > (0 : Int))) ((bC n (58 : Int) h0_0 h0_1).bind fun o88 => (K (o88.1, o88.2.1, o88.2.2))) (K (false, h0_0, h0_1))
def iZ n x7 h0_0 h0_1 := dV n x7 h0_0 h0_1 _ some
def ug : PS := ⟨[5, 6], [(0, .q 0 0), (7, .n)], some [.c 147 [.s, .b]], [⟨.normal, [0, 5, 6, 7], [(34, .b)], [.c 147 [.s, .b]], none⟩], none, none⟩
def gQ (n : Nat) (x8 : Int) (h0_0 : Str) (h0_1 : Bool) (R : Type) (K : (Str × Bool) → Option R) : Option R := cond h0_1 (K (h0_0, true)) (K (h0_0, decide (x8 ≥ (60 : Int))))
def lD n x8 h0_0 h0_1 := gQ n x8 h0_0 h0_1 _ some
def uh : PS := ⟨[5, 6, 7], [(0, .q 0 0), (8, .n)], some [.c 147 [.s, .b]], [⟨.normal, [0, 5, 6, 7, 8], [], [.c 147 [.s, .b]], none⟩], none, none⟩
def dW (n : Nat) (x6 x7 : Int) (h0_0 : Str) (h0_1 : Bool) (R : Type) (A_ : Int → Int → Str → Bool → Option R) (K : (Int × Str × Bool) → Option R) : Option R := (iZ n x7 h0_0 h0_1).bind fun o89 => (cond o89.1 ((aZ n (2 : Int) (2 : Int) o89.2.1 o89.2.2).bind fun o90 => ((lD n o90.1 o90.2.1 o90.2.2).bind fun o91 => (A_ (IntKind.i64.wrap (x6 + (IntKind.i64.wrap (x7 * o90.1)))) (IntKind.i64.wrap (Int.tdiv x7 (60 : Int))) o91.1 o91.2))) (K (x6, o89.2.1, o89.2.2)))
def bW (n : Nat) : Nat → Int → Int → Str → Bool → Option ((Int × Str × Bool))
 | 0, _, _, _, _ => none
 | m + 1, x6, x7, h0_0, h0_1 => dW n x6 x7 h0_0 h0_1 _ (bW n m) some
def ui : PS := ⟨[5], [(0, .q 0 0), (6, .n), (7, .n)], some [.c 147 [.s, .b]], [⟨(.exit 0), [5], [(6, .n)], [.c 147 [.s, .b]], none⟩], none, none⟩
theorem Gb (n : Nat) : Snd ⟨Tryz.prog, 1, 58⟩ (ug.x (iZ n)) (fb Tryz.f87 4287) := iY (S := ug) (b := dV n) (.r [(4, .cl 125 (dJ n))]) (nt3 (dV n) (by intros; unfold dV; simp only [ay])) (ai (di n) trivial)
theorem Gc (n : Nat) : Snd ⟨Tryz.prog, 1, 58⟩ (uh.x (lD n)) (fb Tryz.f87 42175) := iY (S := uh) (b := gQ n) .a (nt3 (gQ n) (by intros; unfold gQ; simp only [ay])) trivial
theorem Gd (n : Nat) : Snd ⟨Tryz.prog, 1, 58⟩ (tZ.x (lC n)) (fb Tryz.f87 11) := iY (S := tZ) (b := jS n) (.s (.r [(1, .cl 125 (dJ n))]) (.s .a (.r [(1, .cl 125 (dJ n))]))) (nt3 (jS n) (by intros; unfold jS; simp only [ay])) (ai (di n) (ai (di n) trivial))
theorem Gf (n : Nat) : Snd ⟨Tryz.prog, 1, 58⟩ (uf.x (qp n)) (fb Tryz.f87 47) := iY (S := uf) (b := jT n) .a (nt4 (jT n) (by intros; unfold jT; simp only [ay])) trivial
theorem Gg (n : Nat) : Snd ⟨Tryz.prog, 1, 58⟩ (ui.x (bW n n)) (fb Tryz.f87 703) := mK (S := ui) (b := dW n) (f := bW n) n (.s (.s (.p (ug.x (iZ n))) .a) (.s (.u (.s (.r [(1, .cl 129 (iA n))]) (.s (.p (uh.x (lD n))) .a))) .a)) (nl4 (dW n) (by intros; unfold dW; simp only [ay])) (ai (Gb n) (ai (iG n) (ai (Gc n) trivial)))
def nA (n : Nat) (a0 : Int) (h0 : Str) (h1 : Bool) (R : Type) (K : (Int × Str × Bool) → Option R) : Option R := (lC n (1 : Int) h0 h1).bind fun o78 => ((aZ n (1 : Int) (3 : Int) o78.2.1 o78.2.2).bind fun o86 => ((qp n a0 o86.1 o86.2.1 o86.2.2).bind fun o87 => ((bW n n (IntKind.i64.wrap (o86.1 * (3600 : Int))) (60 : Int) o87.1 o87.2).bind fun o92 => (K (IntKind.i64.wrap (o78.1 * o92.1), o92.2.1, o92.2.2)))))
def bv n a0 h0 h1 := nA n a0 h0 h1 _ some
def Ct : FS := ⟨[.q 0 0, .n], [.c 147 [.s, .b]], [([.n], [.c 147 [.s, .b]])]⟩
def qw (n : Nat) : FSpec := Ct.sp (bv n)
theorem rV (n : Nat) : FSound Tryz.prog 87 (qw n) := fs2 (S := Ct) (b := nA n) Tryz.func87 rfl rfl [.tmp 4] (.s .a (.s .a (.s (.p (tZ.x (lC n))) (.s (.r [(1, .cl 129 (iA n))]) (.s (.p (uf.x (qp n))) (.s .a (.s (.s .a (.u (.p (ui.x (bW n n))))) .a))))))) (nt3 (nA n) (by intros; unfold nA; simp only [ay])) (ai (Gd n) (ai (iG n) (ai (Gf n) (ai (Gg n) trivial))))
def uK (n : Nat) (a0 a1 : Str) : Option Bool := some (Lib.hasPrefix a0 a1)
def xL (n : Nat) : FSpec := fun vs hs R K => match vs with
 | [.str a0, .str a1] => (uK n a0 a1).bind fun o => K (.bool o) hs
 | _ => none
theorem II (n : Nat) : FSound Tryz.prog 88 (xL n) := M5 (Go.Sh.enters_of Tryz.func88 (by kernel_rfl) rfl) fun args H R k r h => by
 unfold xL at h
 split at h
 ·rename_i a0 a1
  refine ⟨_, h, fun g w vs hl hv => ?_⟩
  obtain ⟨v0, _, rfl, h0, hv⟩ := yZ hv
  obtain ⟨v1, _, rfl, h1, hv⟩ := yZ hv
  obtain rfl := EX hv
  obtain ⟨s, rfl, rfl⟩ := PQ h0
  obtain ⟨u, rfl, rfl⟩ := PQ h1
  refine ⟨.bool (Lib.hasPrefix s.data.toList u.data.toList), rfl, fun g w => by simp only [VR], (Tryz.strings_HasPrefix s u w).mono ?_⟩
  rintro e w' ⟨rfl, rfl⟩
  exact ⟨rfl, Below.refl _ _⟩
 ·cases h
def lF (n : Nat) (h0_0 : Str) (h0_1 : Bool) (h1_0 h1_1 h1_2 h1_3 h1_4 h2_0 h2_1 h2_2 h2_3 h2_4 : Int) (R : Type) (K : (Str × Bool × Int × Int × Int × Int × Int × Int × Int × Int × Int × Int) → Option R) : Option R := (bC n (74 : Int) h0_0 h0_1).bind fun o99 => (cond o99.1 (K (o99.2.1, o99.2.2, h1_0, h1_1, h1_2, h1_3, h1_4, (1 : Int), h2_1, h2_2, h2_3, h2_4)) ((bC n (77 : Int) o99.2.1 o99.2.2).bind fun o100 => (cond o100.1 ((aZ n (1 : Int) (3 : Int) o100.2.1 o100.2.2).bind fun o101 => ((fG n (46 : Int) o101.2.1 o101.2.2).bind fun o102 => ((aZ n (1 : Int) (3 : Int) o102.1 o102.2).bind fun o103 => ((fG n (46 : Int) o103.2.1 o103.2.2).bind fun o104 => (K (o104.1, o104.2, h1_0, h1_1, h1_2, h1_3, h1_4, (3 : Int), o101.1, o103.1, h2_3, h2_4)))))) (K (o100.2.1, o100.2.2, h1_0, h1_1, h1_2, h1_3, h1_4, h2_0, h2_1, h2_2, h2_3, h2_4)))))
def sQ n h0_0 h0_1 h1_0 h1_1 h1_2 h1_3 h1_4 h2_0 h2_1 h2_2 h2_3 h2_4 := lF n h0_0 h0_1 h1_0 h1_1 h1_2 h1_3 h1_4 h2_0 h2_1 h2_2 h2_3 h2_4 _ some
def vO : PS := ⟨[2], [(0, .q 0 0), (3, .q 2 0)], some [.c 147 [.s, .b], .c 85 [.c, .n, .n, .n, .n], .c 85 [.c, .n, .n, .n, .n]], [⟨.normal, [0, 2, 3], [], [.c 147 [.s, .b], .c 85 [.c, .n, .n, .n, .n], .c 85 [.c, .n, .n, .n, .n]], none⟩], none, none⟩
theorem H6 (n : Nat) : Snd ⟨Tryz.prog, 1, 32⟩ (vO.x (sQ n)) (fb Tryz.f90 11) := iY (S := vO) (b := lF n) (.u (.s (.r [(1, .cl 125 (dJ n))]) (.s .a (.s (.r [(1, .cl 125 (dJ n))]) (.s (.s (.r [(1, .cl 129 (iA n))]) (.s (.r [(1, .cl 89 (jI n))]) (.s (.r [(1, .cl 129 (iA n))]) (.r [(1, .cl 89 (jI n))])))) .a))))) (acA (lF n) (by intros; unfold lF; simp only [ay])) (ai (di n) (ai (di n) (ai (iG n) (ai (jN n) (ai (iG n) (ai (jN n) trivial))))))
def p9 (n : Nat) (h0 : Str) (h1 : Bool) (R : Type) (K : (Int × Int × Int × Int × Int × Str × Bool) → Option R) : Option R := (sQ n h0 h1 (0 : Int) (0 : Int) (0 : Int) (0 : Int) (0 : Int) (2 : Int) (0 : Int) (0 : Int) (0 : Int) (7200 : Int)).bind fun o105 => ((aZ n (1 : Int) (3 : Int) o105.1 o105.2.1).bind fun o106 => ((bC n (47 : Int) o106.2.1 o106.2.2).bind fun o107 => (cond o107.1 ((bv n (167 : Int) o107.2.1 o107.2.2).bind fun o108 => (K (o105.2.2.2.2.2.2.2.1, o105.2.2.2.2.2.2.2.2.1, o105.2.2.2.2.2.2.2.2.2.1, o106.1, o108.1, o108.2.1, o108.2.2))) (K (o105.2.2.2.2.2.2.2.1, o105.2.2.2.2.2.2.2.2.1, o105.2.2.2.2.2.2.2.2.2.1, o106.1, o105.2.2.2.2.2.2.2.2.2.2.2, o107.2.1, o107.2.2)))))
def qa n h0 h1 := p9 n h0 h1 _ some
def EP : FS := ⟨[.q 0 0], [.c 147 [.s, .b]], [([.a [.c, .n, .n, .n, .n]], [.c 147 [.s, .b]])]⟩
def xM (n : Nat) : FSpec := EP.sp (qa n)
theorem Af (n : Nat) : FSound Tryz.prog 90 (xM n) := fs2 (S := EP) (b := p9 n) Tryz.func90 rfl rfl [.cell 2 85 5 true] (.s .a (.s .a (.s (.p (vO.x (sQ n))) (.s (.r [(1, .cl 129 (iA n))]) (.s (.s (.r [(1, .cl 125 (dJ n))]) (.s (.r [(1, .cl 87 (qw n))]) .a)) .a))))) (nt2 (p9 n) (by intros; unfold p9; simp only [ay])) (ai (H6 n) (ai (iG n) (ai (di n) (ai (rV n) trivial))))
def wG (n : Nat) (a0 a1 : Int) (R : Type) (K : Bool → Option R) : Option R := cond (decide (a0 ≥ (IntKind.i64.wrap (0 - a1)))) (K (decide (a0 ≤ a1))) (K false)
def kg n a0 a1 := wG n a0 a1 _ some
def JK : FS := ⟨[.n, .n], [], [([.b], [])]⟩
def yC (n : Nat) : FSpec := JK.sp (kg n)
theorem yR (n : Nat) : FSound Tryz.prog 102 (yC n) := fs2 (S := JK) (b := wG n) Tryz.func102 rfl rfl [.tmp 4] .a (nt2 (wG n) (by intros; unfold wG; simp only [ay])) trivial
def nC (n : Nat) (x3 x9 : Int) (R : Type) (K : ((Int) ⊕ (Unit) ⊕ (Unit)) → Option R) : Option R := cond (x9 == (1 : Int)) (K (Sum.inl (1 : Int))) (cond (x9 == (2 : Int)) (K (Sum.inl x3)) (cond (x9 == (3 : Int)) (K (Sum.inr (Sum.inl ()))) (K (Sum.inr (Sum.inr ())))))
def uL n x3 x9 := nC n x3 x9 _ some
def xc : PS := ⟨[1], [(3, .n), (9, .c)], none, [⟨.normal, [1], [(3, .n)], [], none⟩, ⟨(.exit 3), [1], [], [], none⟩, ⟨(.exit 0), [], [], [], none⟩], none, none⟩
def nD (n : Nat) (x3 h0_0 h0_1 h0_2 h0_3 h0_4 : Int) (R : Type) (K : W2 → Option R) : Option R := cond (h0_1 == (0 : Int)) (cond (h0_2 == (0 : Int)) (cond (decide (h0_3 ≥ x3)) (K (decide (h0_3 ≤ (365 : Int)), h0_0, h0_1, h0_2, h0_3, h0_4)) (K (false, h0_0, h0_1, h0_2, h0_3, h0_4))) (K (false, h0_0, h0_1, h0_2, h0_3, h0_4))) (K (false, h0_0, h0_1, h0_2, h0_3, h0_4))
def qb n x3 h0_0 h0_1 h0_2 h0_3 h0_4 := nD n x3 h0_0 h0_1 h0_2 h0_3 h0_4 _ some
def xe : PS := ⟨[], [(1, .q 0 0), (3, .n)], some [.c 85 [.c, .n, .n, .n, .n]], [⟨.normal, [], [(2, .b)], [.c 85 [.c, .n, .n, .n, .n]], none⟩], none, none⟩
theorem IJ (n : Nat) : Snd ⟨Tryz.prog, 0, 63⟩ (xc.x (uL n)) (fb Tryz.f103 535) := iY (S := xc) (b := nC n) .a (nt2 (nC n) (by intros; unfold nC; simp only [ay])) trivial
theorem IK (n : Nat) : Snd ⟨Tryz.prog, 0, 63⟩ (xe.x (qb n)) (fb Tryz.f103 2327) := iY (S := xe) (b := nD n) .a (nt6 (nD n) (by intros; unfold nD; simp only [ay])) trivial
def qO (n : Nat) (a0 a1 a2 a3 a4 : Int) (R : Type) (K : Bool → Option R) : Option R := (kg n a4 (604799 : Int)).bind fun o118 => (cond (!o118) (K false) ((uL n (0 : Int) a0).bind fun o119 => (Sum.elim (fun o120 => (qb n o120 a0 a1 a2 a3 a4).bind fun o122 => (K o122.1)) (fun o121 => Sum.elim (fun o123 => cond (decide (a1 ≥ (1 : Int))) (cond (decide (a1 ≤ (12 : Int))) (cond (decide (a2 ≥ (1 : Int))) (cond (decide (a2 ≤ (5 : Int))) (cond (decide (a3 ≥ (0 : Int))) (K (decide (a3 ≤ (6 : Int)))) (K false)) (K false)) (K false)) (K false)) (K false)) (fun o124 => K false) o121) o119)))
def nS n a0 a1 a2 a3 a4 := qO n a0 a1 a2 a3 a4 _ some
def Gi : FS := ⟨[.a [.c, .n, .n, .n, .n]], [], [([.b], [])]⟩
def uM (n : Nat) : FSpec := Gi.sp (nS n)
theorem vP (n : Nat) : FSound Tryz.prog 103 (uM n) := fs2 (S := Gi) (b := qO n) Tryz.func103 rfl rfl [.tmp 2] (.s .a (.s (.s (.r [(2, .cl 102 (yC n))]) .a) (.s .a (.s (.s .a (.u (.s (.u (.s (.p (xc.x (uL n))) (.s (.s (.p (xe.x (qb n))) .a) .a))) .a))) .a)))) (nt5 (qO n) (by intros; unfold qO; simp only [ay])) (ai (yR n) (ai (IJ n) (ai (IK n) trivial)))
def sS (n : Nat) (h0_0 h0_1 : Str) (h0_2 h0_3 h0_4 h0_5 h0_6 h0_7 h0_8 h0_9 h0_10 h0_11 h0_12 h0_13 : Int) (R : Type) (K : W3 → Option R) : Option R := (wV n h0_0).bind fun o113 => (cond (!o113) (K (true, h0_0, h0_1, h0_2, h0_3, h0_4, h0_5, h0_6, h0_7, h0_8, h0_9, h0_10, h0_11, h0_12, h0_13)) ((kg n h0_2 (89999 : Int)).bind fun o114 => (K (!o114, h0_0, h0_1, h0_2, h0_3, h0_4, h0_5, h0_6, h0_7, h0_8, h0_9, h0_10, h0_11, h0_12, h0_13))))
def zD n h0_0 h0_1 h0_2 h0_3 h0_4 h0_5 h0_6 h0_7 h0_8 h0_9 h0_10 h0_11 h0_12 h0_13 := sS n h0_0 h0_1 h0_2 h0_3 h0_4 h0_5 h0_6 h0_7 h0_8 h0_9 h0_10 h0_11 h0_12 h0_13 _ some
def BB : PS := ⟨[], [(1, .q 0 0)], some [.c 87 [.s, .s, .n, .n, .c, .n, .n, .n, .n, .c, .n, .n, .n, .n]], [⟨.normal, [1], [(3, .b)], [.c 87 [.s, .s, .n, .n, .c, .n, .n, .n, .n, .c, .n, .n, .n, .n]], none⟩], none, none⟩
theorem Lf (n : Nat) : Snd ⟨Tryz.prog, 0, 43⟩ (BB.x (zD n)) (fb Tryz.f61 17) := iY (S := BB) (b := sS n) (.r [(2, .cl 101 (Bv n)), (7, .cl 102 (yC n))]) (Zw (sS n) (by intros; unfold sS; simp only [ay])) (ai (Bw n) (ai (yR n) trivial))
def xN (n : Nat) (a0 a1 : Str) (a2 a3 a4 a5 a6 a7 a8 a9 a10 a11 a12 a13 : Int) (R : Type) (K : Bool → Option R) : Option R := (zD n a0 a1 a2 a3 a4 a5 a6 a7 a8 a9 a10 a11 a12 a13).bind fun o115 => (cond o115.1 (K false) (cond (o115.2.2.1 == ([] : Str)) (K ((o115.2.1 == o115.2.1) && ((o115.2.2.1 == ([] : Str)) && ((o115.2.2.2.1 == o115.2.2.2.1) && ((o115.2.2.2.2.1 == (0 : Int)) && ((o115.2.2.2.2.2.1 == (0 : Int)) && ((o115.2.2.2.2.2.2.1 == (0 : Int)) && ((o115.2.2.2.2.2.2.2.1 == (0 : Int)) && ((o115.2.2.2.2.2.2.2.2.1 == (0 : Int)) && ((o115.2.2.2.2.2.2.2.2.2.1 == (0 : Int)) && ((o115.2.2.2.2.2.2.2.2.2.2.1 == (0 : Int)) && ((o115.2.2.2.2.2.2.2.2.2.2.2.1 == (0 : Int)) && ((o115.2.2.2.2.2.2.2.2.2.2.2.2.1 == (0 : Int)) && ((o115.2.2.2.2.2.2.2.2.2.2.2.2.2.1 == (0 : Int)) && ((o115.2.2.2.2.2.2.2.2.2.2.2.2.2.2 == (0 : Int)) && true))))))))))))))) ((wV n o115.2.2.1).bind fun o116 => (cond o116 ((kg n o115.2.2.2.2.1 (89999 : Int)).bind fun o117 => (cond o117 ((nS n o115.2.2.2.2.2.1 o115.2.2.2.2.2.2.1 o115.2.2.2.2.2.2.2.1 o115.2.2.2.2.2.2.2.2.1 o115.2.2.2.2.2.2.2.2.2.1).bind fun o125 => (cond o125 ((nS n o115.2.2.2.2.2.2.2.2.2.2.1 o115.2.2.2.2.2.2.2.2.2.2.2.1 o115.2.2.2.2.2.2.2.2.2.2.2.2.1 o115.2.2.2.2.2.2.2.2.2.2.2.2.2.1 o115.2.2.2.2.2.2.2.2.2.2.2.2.2.2).bind fun o126 => (K o126)) (K false))) (K false))) (K false)))))
def uU n a0 a1 a2 a3 a4 a5 a6 a7 a8 a9 a10 a11 a12 a13 := xN n a0 a1 a2 a3 a4 a5 a6 a7 a8 a9 a10 a11 a12 a13 _ some
def Ko : FS := ⟨[.a [.s, .s, .n, .n, .c, .n, .n, .n, .n, .c, .n, .n, .n, .n]], [], [([.b], [])]⟩
def Er (n : Nat) : FSpec := Ko.sp (uU n)
theorem Gj (n : Nat) : FSound Tryz.prog 61 (Er n) := fs2 (S := Ko) (b := xN n) Tryz.func61 rfl rfl [.tmp 2] (.s .a (.s (.u (.s (.p (BB.x (zD n))) .a)) (.s (.r [(2, .cl 101 (Bv n)), (6, .cl 102 (yC n)), (11, .cl 103 (uM n)), (16, .cl 103 (uM n))]) .a))) (Zw (xN n) (by intros; unfold xN; simp only [ay])) (ai (Lf n) (ai (Bw n) (ai (yR n) (ai (vP n) (ai (vP n) trivial)))))
def sU (n : Nat) (h0_0 h0_1 : Str) (h0_2 h0_3 h0_4 h0_5 h0_6 h0_7 h0_8 h0_9 h0_10 h0_11 h0_12 h0_13 : Int) (h1_0 : Str) (h1_1 : Bool) (h2_0 h2_1 : Str) (h2_2 h2_3 h2_4 h2_5 h2_6 h2_7 h2_8 h2_9 h2_10 h2_11 h2_12 h2_13 : Int) (R : Type) (K : W4 → Option R) : Option R := (uK n h1_0 ([44] : Str)).bind fun o95 => (cond (!o95) ((bv n (24 : Int) h1_0 h1_1).bind fun o96 => (K (h0_0, h0_1, h0_2, h0_3, h0_4, h0_5, h0_6, h0_7, h0_8, h0_9, h0_10, h0_11, h0_12, h0_13, o96.2.1, o96.2.2, h2_0, h2_1, h2_2, IntKind.i64.wrap (0 - o96.1), h2_4, h2_5, h2_6, h2_7, h2_8, h2_9, h2_10, h2_11, h2_12, h2_13))) (K (h0_0, h0_1, h0_2, h0_3, h0_4, h0_5, h0_6, h0_7, h0_8, h0_9, h0_10, h0_11, h0_12, h0_13, h1_0, h1_1, h2_0, h2_1, h2_2, h2_3, h2_4, h2_5, h2_6, h2_7, h2_8, h2_9, h2_10, h2_11, h2_12, h2_13)))
def zF n h0_0 h0_1 h0_2 h0_3 h0_4 h0_5 h0_6 h0_7 h0_8 h0_9 h0_10 h0_11 h0_12 h0_13 h1_0 h1_1 h2_0 h2_1 h2_2 h2_3 h2_4 h2_5 h2_6 h2_7 h2_8 h2_9 h2_10 h2_11 h2_12 h2_13 := sU n h0_0 h0_1 h0_2 h0_3 h0_4 h0_5 h0_6 h0_7 h0_8 h0_9 h0_10 h0_11 h0_12 h0_13 h1_0 h1_1 h2_0 h2_1 h2_2 h2_3 h2_4 h2_5 h2_6 h2_7 h2_8 h2_9 h2_10 h2_11 h2_12 h2_13 _ some
def BC : PS := ⟨[2], [(4, .q 1 0), (5, .q 2 0)], some [.c 87 [.s, .s, .n, .n, .c, .n, .n, .n, .n, .c, .n, .n, .n, .n], .c 147 [.s, .b], .c 87 [.s, .s, .n, .n, .c, .n, .n, .n, .n, .c, .n, .n, .n, .n]], [⟨.normal, [2, 4, 5], [], [.c 87 [.s, .s, .n, .n, .c, .n, .n, .n, .n, .c, .n, .n, .n, .n], .c 147 [.s, .b], .c 87 [.s, .s, .n, .n, .c, .n, .n, .n, .n, .c, .n, .n, .n, .n]], none⟩], none, none⟩
def pE (n : Nat) (h0_0 h0_1 : Str) (h0_2 h0_3 h0_4 h0_5 h0_6 h0_7 h0_8 h0_9 h0_10 h0_11 h0_12 h0_13 : Int) (h1_0 : Str) (h1_1 : Bool) (h2_0 h2_1 : Str) (h2_2 h2_3 h2_4 h2_5 h2_6 h2_7 h2_8 h2_9 h2_10 h2_11 h2_12 h2_13 : Int) (R : Type) (K : W4 → Option R) : Option R := cond (!(h1_0 == ([] : Str))) ((oI n h1_0 h1_1).bind fun o94 => ((zF n h0_0 h0_1 h0_2 h0_3 h0_4 h0_5 h0_6 h0_7 h0_8 h0_9 h0_10 h0_11 h0_12 h0_13 o94.2.1 o94.2.2 h2_0 o94.1 h2_2 (IntKind.i64.wrap (h2_2 + (3600 : Int))) h2_4 h2_5 h2_6 h2_7 h2_8 h2_9 h2_10 h2_11 h2_12 h2_13).bind fun o97 => ((fG n (44 : Int) o97.2.2.2.2.2.2.2.2.2.2.2.2.2.2.1 o97.2.2.2.2.2.2.2.2.2.2.2.2.2.2.2.1).bind fun o98 => ((qa n o98.1 o98.2).bind fun o109 => ((fG n (44 : Int) o109.2.2.2.2.2.1 o109.2.2.2.2.2.2).bind fun o110 => ((qa n o110.1 o110.2).bind fun o111 => (K (o97.1, o97.2.1, o97.2.2.1, o97.2.2.2.1, o97.2.2.2.2.1, o97.2.2.2.2.2.1, o97.2.2.2.2.2.2.1, o97.2.2.2.2.2.2.2.1, o97.2.2.2.2.2.2.2.2.1, o97.2.2.2.2.2.2.2.2.2.1, o97.2.2.2.2.2.2.2.2.2.2.1, o97.2.2.2.2.2.2.2.2.2.2.2.1, o97.2.2.2.2.2.2.2.2.2.2.2.2.1, o97.2.2.2.2.2.2.2.2.2.2.2.2.2.1, o111.2.2.2.2.2.1, o111.2.2.2.2.2.2, o97.2.2.2.2.2.2.2.2.2.2.2.2.2.2.2.2.1, o97.2.2.2.2.2.2.2.2.2.2.2.2.2.2.2.2.2.1, o97.2.2.2.2.2.2.2.2.2.2.2.2.2.2.2.2.2.2.1, o97.2.2.2.2.2.2.2.2.2.2.2.2.2.2.2.2.2.2.2.1, o109.1, o109.2.1, o109.2.2.1, o109.2.2.2.1, o109.2.2.2.2.1, o111.1, o111.2.1, o111.2.2.1, o111.2.2.2.1, o111.2.2.2.2.1)))))))) (K (h0_0, h0_1, h0_2, h0_3, h0_4, h0_5, h0_6, h0_7, h0_8, h0_9, h0_10, h0_11, h0_12, h0_13, h1_0, h1_1, h2_0, h2_1, h2_2, h2_3, h2_4, h2_5, h2_6, h2_7, h2_8, h2_9, h2_10, h2_11, h2_12, h2_13))
def wH n h0_0 h0_1 h0_2 h0_3 h0_4 h0_5 h0_6 h0_7 h0_8 h0_9 h0_10 h0_11 h0_12 h0_13 h1_0 h1_1 h2_0 h2_1 h2_2 h2_3 h2_4 h2_5 h2_6 h2_7 h2_8 h2_9 h2_10 h2_11 h2_12 h2_13 := pE n h0_0 h0_1 h0_2 h0_3 h0_4 h0_5 h0_6 h0_7 h0_8 h0_9 h0_10 h0_11 h0_12 h0_13 h1_0 h1_1 h2_0 h2_1 h2_2 h2_3 h2_4 h2_5 h2_6 h2_7 h2_8 h2_9 h2_10 h2_11 h2_12 h2_13 _ some
def BD : PS := ⟨[2], [(4, .q 1 0), (5, .q 2 0)], some [.c 87 [.s, .s, .n, .n, .c, .n, .n, .n, .n, .c, .n, .n, .n, .n], .c 147 [.s, .b], .c 87 [.s, .s, .n, .n, .c, .n, .n, .n, .n, .c, .n, .n, .n, .n]], [⟨.normal, [2, 4, 5], [], [.c 87 [.s, .s, .n, .n, .c, .n, .n, .n, .n, .c, .n, .n, .n, .n], .c 147 [.s, .b], .c 87 [.s, .s, .n, .n, .c, .n, .n, .n, .n, .c, .n, .n, .n, .n]], none⟩], none, none⟩
theorem Lg (n : Nat) : Snd ⟨Tryz.prog, 0, 70⟩ (BC.x (zF n)) (fb Tryz.f54 2911) := iY (S := BC) (b := sU n) (.s (.r [(4, .cl 88 (xL n))]) (.s (.r [(1, .cl 87 (qw n))]) .a)) (acl (sU n) (by intros; unfold sU; simp only [ay])) (ai (II n) (ai (rV n) trivial))
theorem Lh (n : Nat) : Snd ⟨Tryz.prog, 0, 70⟩ (BD.x (wH n)) (fb Tryz.f54 95) := iY (S := BD) (b := pE n) (.s .a (.s (.s (.r [(1, .cl 86 (w9 n))]) (.s .a (.s (.p (BC.x (zF n))) (.s (.r [(1, .cl 89 (jI n))]) (.s (.r [(1, .cl 90 (xM n))]) (.s (.r [(1, .cl 89 (jI n))]) (.r [(1, .cl 90 (xM n))]))))))) .a)) (acl (pE n) (by intros; unfold pE; simp only [ay])) (ai (zf n) (ai (Lg n) (ai (jN n) (ai (Af n) (ai (jN n) (ai (Af n) trivial))))))
def xO (n : Nat) (a0 : Str) (R : Type) (K : (Str × Str × Int × Int × Int × Int × Int × Int × Int × Int × Int × Int × Int × Int × Int) → Option R) : Option R := cond (decide ((a0.length : Int) > (100 : Int))) (K (([] : Str), ([] : Str), (0 : Int), (0 : Int), (0 : Int), (0 : Int), (0 : Int), (0 : Int), (0 : Int), (0 : Int), (0 : Int), (0 : Int), (0 : Int), (0 : Int), (70 : Int))) ((oI n a0 false).bind fun o75 => ((bv n (24 : Int) o75.2.1 o75.2.2).bind fun o93 => ((wH n ([] : Str) ([] : Str) (0 : Int) (0 : Int) (0 : Int) (0 : Int) (0 : Int) (0 : Int) (0 : Int) (0 : Int) (0 : Int) (0 : Int) (0 : Int) (0 : Int) o93.2.1 o93.2.2 o75.1 ([] : Str) (IntKind.i64.wrap (0 - o93.1)) (0 : Int) (0 : Int) (0 : Int) (0 : Int) (0 : Int) (0 : Int) (0 : Int) (0 : Int) (0 : Int) (0 : Int) (0 : Int)).bind fun o112 => (cond o112.2.2.2.2.2.2.2.2.2.2.2.2.2.2.2.1 (K (([] : Str), ([] : Str), (0 : Int), (0 : Int), (0 : Int), (0 : Int), (0 : Int), (0 : Int), (0 : Int), (0 : Int), (0 : Int), (0 : Int), (0 : Int), (0 : Int), (70 : Int))) (cond (!(o112.2.2.2.2.2.2.2.2.2.2.2.2.2.2.1 == ([] : Str))) (K (([] : Str), ([] : Str), (0 : Int), (0 : Int), (0 : Int), (0 : Int), (0 : Int), (0 : Int), (0 : Int), (0 : Int), (0 : Int), (0 : Int), (0 : Int), (0 : Int), (70 : Int))) ((uU n o112.2.2.2.2.2.2.2.2.2.2.2.2.2.2.2.2.1 o112.2.2.2.2.2.2.2.2.2.2.2.2.2.2.2.2.2.1 o112.2.2.2.2.2.2.2.2.2.2.2.2.2.2.2.2.2.2.1 o112.2.2.2.2.2.2.2.2.2.2.2.2.2.2.2.2.2.2.2.1 o112.2.2.2.2.2.2.2.2.2.2.2.2.2.2.2.2.2.2.2.2.1 o112.2.2.2.2.2.2.2.2.2.2.2.2.2.2.2.2.2.2.2.2.2.1 o112.2.2.2.2.2.2.2.2.2.2.2.2.2.2.2.2.2.2.2.2.2.2.1 o112.2.2.2.2.2.2.2.2.2.2.2.2.2.2.2.2.2.2.2.2.2.2.2.1 o112.2.2.2.2.2.2.2.2.2.2.2.2.2.2.2.2.2.2.2.2.2.2.2.2.1 o112.2.2.2.2.2.2.2.2.2.2.2.2.2.2.2.2.2.2.2.2.2.2.2.2.2.1 o112.2.2.2.2.2.2.2.2.2.2.2.2.2.2.2.2.2.2.2.2.2.2.2.2.2.2.1 o112.2.2.2.2.2.2.2.2.2.2.2.2.2.2.2.2.2.2.2.2.2.2.2.2.2.2.2.1 o112.2.2.2.2.2.2.2.2.2.2.2.2.2.2.2.2.2.2.2.2.2.2.2.2.2.2.2.2.1 o112.2.2.2.2.2.2.2.2.2.2.2.2.2.2.2.2.2.2.2.2.2.2.2.2.2.2.2.2.2).bind fun o127 => (cond (!o127) (K (([] : Str), ([] : Str), (0 : Int), (0 : Int), (0 : Int), (0 : Int), (0 : Int), (0 : Int), (0 : Int), (0 : Int), (0 : Int), (0 : Int), (0 : Int), (0 : Int), (70 : Int))) (K (o112.2.2.2.2.2.2.2.2.2.2.2.2.2.2.2.2.1, o112.2.2.2.2.2.2.2.2.2.2.2.2.2.2.2.2.2.1, o112.2.2.2.2.2.2.2.2.2.2.2.2.2.2.2.2.2.2.1, o112.2.2.2.2.2.2.2.2.2.2.2.2.2.2.2.2.2.2.2.1, o112.2.2.2.2.2.2.2.2.2.2.2.2.2.2.2.2.2.2.2.2.1, o112.2.2.2.2.2.2.2.2.2.2.2.2.2.2.2.2.2.2.2.2.2.1, o112.2.2.2.2.2.2.2.2.2.2.2.2.2.2.2.2.2.2.2.2.2.2.1, o112.2.2.2.2.2.2.2.2.2.2.2.2.2.2.2.2.2.2.2.2.2.2.2.1, o112.2.2.2.2.2.2.2.2.2.2.2.2.2.2.2.2.2.2.2.2.2.2.2.2.1, o112.2.2.2.2.2.2.2.2.2.2.2.2.2.2.2.2.2.2.2.2.2.2.2.2.2.1, o112.2.2.2.2.2.2.2.2.2.2.2.2.2.2.2.2.2.2.2.2.2.2.2.2.2.2.1, o112.2.2.2.2.2.2.2.2.2.2.2.2.2.2.2.2.2.2.2.2.2.2.2.2.2.2.2.1, o112.2.2.2.2.2.2.2.2.2.2.2.2.2.2.2.2.2.2.2.2.2.2.2.2.2.2.2.2.1, o112.2.2.2.2.2.2.2.2.2.2.2.2.2.2.2.2.2.2.2.2.2.2.2.2.2.2.2.2.2, (0 : Int))))))))))
def BF n a0 := xO n a0 _ some
def Kq : FS := ⟨[.s], [], [([.a [.s, .s, .n, .n, .c, .n, .n, .n, .n, .c, .n, .n, .n, .n], .n], [])]⟩
def JL (n : Nat) : FSpec := Kq.sp (BF n)
theorem Ml (n : Nat) : FSound Tryz.prog 54 (JL n) := fs2 (S := Kq) (b := xO n) Tryz.func54 rfl rfl [.cell 2 87 14 true, .tmp 3] (.s .a (.s .a (.s .a (.s (.r [(1, .cl 86 (w9 n))]) (.s (.r [(1, .cl 87 (qw n))]) (.s (.p (BD.x (wH n))) (.s (.s (.r [(13, .cl 61 (Er n))]) .a) .a))))))) (nt1 (xO n) (by intros; unfold xO; simp only [ay])) (ai (zf n) (ai (rV n) (ai (Lh n) (ai (Gj n) trivial))))
def Gl (n : Nat) (a0 : List (List AV)) (a1 a2 : List Int) (a3 : Str) (R : Type) (K : ((Int) ⊕ W5 ⊕ ((List (List AV)) × (List Int) × (List Int) × Str)) → Option R) : Option R := (Bn n a0 a1 a2 a3).bind fun o47 => (cond (!o47) (K (Sum.inl (2 : Int))) (cond (decide (a0.length * 32 ≤ 140737488355328)) (cond (decide (a1.length * 8 ≤ 140737488355328)) (cond (decide (a2.length * 8 ≤ 140737488355328)) (cond (!(a3 == ([] : Str))) ((BF n a3).bind fun o128 => (cond (o128.2.2.2.2.2.2.2.2.2.2.2.2.2.2 != (0 : Int)) (K (Sum.inl o128.2.2.2.2.2.2.2.2.2.2.2.2.2.2)) (K (Sum.inr (Sum.inl (a0, a1, a2, a3, o128.1, o128.2.1, o128.2.2.1, o128.2.2.2.1, o128.2.2.2.2.1, o128.2.2.2.2.2.1, o128.2.2.2.2.2.2.1, o128.2.2.2.2.2.2.2.1, o128.2.2.2.2.2.2.2.2.1, o128.2.2.2.2.2.2.2.2.2.1, o128.2.2.2.2.2.2.2.2.2.2.1, o128.2.2.2.2.2.2.2.2.2.2.2.1, o128.2.2.2.2.2.2.2.2.2.2.2.2.1, o128.2.2.2.2.2.2.2.2.2.2.2.2.2.1)))))) (K (Sum.inr (Sum.inr (a0, a1, a2, a3))))) none) none) none))
def CX n a0 a1 a2 a3 := Gl n a0 a1 a2 a3 _ some
def Qf : FS := ⟨[.a [.L false 3, .l .i64, .l .i64, .s]], [], [([.x (.ptr none), .n], []), ([.q 0 0, .x (.int .i64 (0 : Int))], [.c 82 [.L false 3, .l .i64, .l .i64, .s, .q 1 0], .c 87 [.s, .s, .n, .n, .c, .n, .n, .n, .n, .c, .n, .n, .n, .n]]), ([.q 0 0, .x (.int .i64 (0 : Int))], [.c 82 [.L false 3, .l .i64, .l .i64, .s, .x (.ptr none)]])]⟩
def Qg (n : Nat) : FSpec := Qf.sp (CX n)
theorem Uv (n : Nat) : FSound Tryz.prog 27 (Qg n) := fs2 (S := Qf) (b := Gl n) Tryz.func27 rfl rfl [.tmp 2, .tmp 3] (.s .a (.s (.s (.r [(1, .cl 50 (HY n))]) .a) (.s (.d [(2, .cl 51 (EJ n)), (5, .cl 52 (EK n)), (8, .cl 53 (EL n)), (10, .tk [12]), (12, .tk [15]), (14, .tk [18])] [(0, .part [0]), (1, .part [0]), (3, .part [0]), (4, .part [0]), (6, .part [0]), (7, .part [0]), (9, .part [0]), (10, .part [0]), (11, .part [0]), (12, .part [0]), (13, .part [0]), (14, .part [0])]) (.s .a (.s (.s .a (.s (.s (.r [(2, .cl 54 (JL n)), (5, .tk [29])]) .a) .a)) .a))))) (nt4 (Gl n) (by intros; unfold Gl; simp only [ay])) (ai (IB n) (ai (Jm n) (ai (Jn n) (ai (Jo n) (ai (Ml n) trivial)))))
def Kr (n : Nat) : FSpec := Zy 2 (Qg n)
theorem Kt (n : Nat) : FSound Tryz.prog 27 (Kr n) := OE (Uv n)
def gm (n : Nat) (x4 : Int) (h0_0 : List (List AV)) (h0_1 h0_2 : List Int) (h0_3 : Str) (h1_0 : List (List AV)) (h1_1 h1_2 : List Int) (h1_3 : Str) (h2_0 : List (List AV)) (h2_1 h2_2 : List Int) (h2_3 : Str) (R : Type) (A_ : Int → (List (List AV)) → (List Int) → (List Int) → Str → (List (List AV)) → (List Int) → (List Int) → Str → (List (List AV)) → (List Int) → (List Int) → Str → Option R) (K : W6 → Option R) : Option R := cond (decide (x4 < (h0_0.length : Int))) (cond (decide (0 ≤ x4)) ((h0_0[x4.toNat]?).bind fun e132 => (unc e132 fun c133 r134 => yu .i64 c133 fun x135 => unc r134 fun c136 r137 => yV c136 fun x138 => unc r137 fun c139 r140 => yX c139 fun x141 => unn r140 (cond (decide ((h2_0.length + ([[.int .i64 x135, .bool x138, .str x141]] : List (List AV)).length) * 32 ≤ 140737488355328)) (A_ (IntKind.i64.wrap (x4 + (1 : Int))) h0_0 h0_1 h0_2 h0_3 h1_0 h1_1 h1_2 h1_3 (h2_0 ++ ([[.int .i64 x135, .bool x138, .str x141]] : List (List AV))) h2_1 h2_2 h2_3) none))) none) (K (h0_0, h0_1, h0_2, h0_3, h1_0, h1_1, h1_2, h1_3, h2_0, h2_1, h2_2, h2_3))
def dm (n : Nat) : Nat → Int → (List (List AV)) → (List Int) → (List Int) → Str → (List (List AV)) → (List Int) → (List Int) → Str → (List (List AV)) → (List Int) → (List Int) → Str → Option (W6)
 | 0, _, _, _, _, _, _, _, _, _, _, _, _, _ => none
 | m + 1, x4, h0_0, h0_1, h0_2, h0_3, h1_0, h1_1, h1_2, h1_3, h2_0, h2_1, h2_2, h2_3 => gm n x4 h0_0 h0_1 h0_2 h0_3 h1_0 h1_1 h1_2 h1_3 h2_0 h2_1 h2_2 h2_3 _ (dm n m) some
def rW : PS := ⟨[2], [(1, .q 0 0), (3, .q 2 0), (4, .n)], some [.c 26 [.L false 3, .l .i64, .l .i64, .s], .c 30 [.L true 3, .I true .i64, .I true .i64, .s], .c 30 [.L true 3, .l .i64, .l .i64, .s]], [⟨(.exit 0), [2, 3], [], [.c 26 [.L false 3, .l .i64, .l .i64, .s], .c 30 [.L true 3, .I true .i64, .I true .i64, .s], .c 30 [.L true 3, .l .i64, .l .i64, .s]], none⟩], none, none⟩
theorem E5 (n : Nat) : Snd ⟨Tryz.prog, 0, 30⟩ (rW.x (dm n n)) (fb Tryz.f29 43) := mK (S := rW) (b := gm n) (f := dm n) n (.s .a (.s (.u (.d [(1, .lt), (8, .tk [20]), (10, .tk [27])] [(0, .part [2]), (1, .part [2]), (2, .part [0]), (3, .part [0]), (6, .no), (9, .part [2]), (10, .part [2])])) .a)) (acx (gm n) (by intros; unfold gm; simp only [ay])) trivial
def lG (n : Nat) (a0 : List (List AV)) (a1 a2 : List Int) (a3 : Str) (R : Type) (K : ((List (List AV)) × (List Int) × (List Int) × Str) → Option R) : Option R := (dm n n (0 : Int) a0 a1 a2 a3 ([] : List (List AV)) ([] : List Int) ([] : List Int) ([] : Str) ([] : List (List AV)) a1 a2 a3).bind fun o142 => (K (o142.2.2.2.2.2.2.2.2.1, o142.2.2.2.2.2.2.2.2.2.1, o142.2.2.2.2.2.2.2.2.2.2.1, o142.2.2.2.2.2.2.2.2.2.2.2))
def ja n a0 a1 a2 a3 := lG n a0 a1 a2 a3 _ some
def BG : FS := ⟨[.a [.L false 3, .l .i64, .l .i64, .s]], [], [([.a [.L false 3, .l .i64, .l .i64, .s]], [])]⟩
def Ag (n : Nat) : FSpec := BG.sp (ja n)
theorem Gm (n : Nat) : FSound Tryz.prog 29 (Ag n) := fs2 (S := BG) (b := lG n) Tryz.func29 rfl rfl [.cell 2 30 4 true] (.s .a (.s (.r [(8, .tk [11])]) (.s (.s .a (.u (.p (rW.x (dm n n))))) .a))) (nt4 (lG n) (by intros; unfold lG; simp only [ay])) (ai (E5 n) trivial)
def iH (n : Nat) (x0 : Str) (x3 x4 x11 : Int) (R : Type) (K : (Bool) → Option R) : Option R := cond (decide (0 ≤ x11)) ((x0[x11.toNat]?).bind fun b144 => (cond (decide ((b144.toNat : Int) < x3)) (K true) (cond (decide (0 ≤ x11)) ((x0[x11.toNat]?).bind fun b145 => (K (decide ((b145.toNat : Int) > x4)))) none))) none
def jU n x0 x3 x4 x11 := iH n x0 x3 x4 x11 _ some
def qP : PS := ⟨[1, 2], [(0, .s), (3, .c), (4, .c), (11, .n)], none, [⟨.normal, [0, 1, 2, 3, 4, 11], [(29, .b)], [], none⟩], none, none⟩
def eP (n : Nat) (x0 : Str) (x3 x4 x11 : Int) (R : Type) (A_ : Str → Int → Int → Int → Option R) (K : ((Unit) ⊕ (Unit)) → Option R) : Option R := cond (decide (x11 < (x0.length : Int))) ((jU n x0 x3 x4 x11).bind fun o146 => (cond o146 (K (Sum.inl ())) (A_ x0 x3 x4 (IntKind.i64.wrap (x11 + (1 : Int)))))) (K (Sum.inr ()))
def cu (n : Nat) : Nat → Str → Int → Int → Int → Option ((Unit) ⊕ (Unit))
 | 0, _, _, _, _ => none
 | m + 1, x0, x3, x4, x11 => eP n x0 x3 x4 x11 _ (cu n m) some
def qQ : PS := ⟨[1, 2], [(0, .s), (3, .c), (4, .c), (11, .n)], none, [⟨.ret, [], [(10, .x (.bool false))], [], none⟩, ⟨(.exit 0), [0, 1, 2], [], [], none⟩], none, none⟩
theorem Es (n : Nat) : Snd ⟨Tryz.prog, 0, 40⟩ (qP.x (jU n)) (fb Tryz.f91 549) := iY (S := qP) (b := iH n) .a (nt4 (iH n) (by intros; unfold iH; simp only [ay])) trivial
theorem Et (n : Nat) : Snd ⟨Tryz.prog, 0, 40⟩ (qQ.x (cu n n)) (fb Tryz.f91 21) := mK (S := qQ) (b := eP n) (f := cu n) n (.s .a (.s (.u (.s (.p (qP.x (jU n))) .a)) .a)) (nl4 (eP n) (by intros; unfold eP; simp only [ay])) (ai (Es n) trivial)
def kC (n : Nat) (a0 : Str) (a1 a2 a3 a4 : Int) (R : Type) (K : Bool → Option R) : Option R := (cu n n a0 a3 a4 (0 : Int)).bind fun o147 => (Sum.elim (fun o148 => K false) (fun o149 => cond (decide ((a0.length : Int) ≥ a1)) (K (decide ((a0.length : Int) ≤ a2))) (K false)) o147)
def kD n a0 a1 a2 a3 a4 := kC n a0 a1 a2 a3 a4 _ some
def Ah : FS := ⟨[.s, .n, .n, .c, .c], [], [([.b], [])]⟩
def uj (n : Nat) : FSpec := Ah.sp (kD n)
theorem xh (n : Nat) : FSound Tryz.prog 91 (uj n) := fs2 (S := Ah) (b := kC n) Tryz.func91 rfl rfl [.tmp 10] (.s .a (.s (.s .a (.u (.p (qQ.x (cu n n))))) .a)) (nt5 (kC n) (by intros; unfold kC; simp only [ay])) (ai (Et n) trivial)
def jm (n : Nat) (h0_0 : List (List AV)) (h0_1 h0_2 : List Int) (h0_3 : Str) (R : Type) (K : W0 → Option R) : Option R := cond (decide ((h0_0.length : Int) < (1 : Int))) (K (true, h0_0, h0_1, h0_2, h0_3)) (cond (decide ((h0_0.length : Int) > (255 : Int))) (K (true, h0_0, h0_1, h0_2, h0_3)) (cond (decide ((h0_1.length : Int) > (4000 : Int))) (K (true, h0_0, h0_1, h0_2, h0_3)) (cond ((h0_1.length : Int) != (h0_2.length : Int)) (K (true, h0_0, h0_1, h0_2, h0_3)) ((kD n h0_3 (0 : Int) (100 : Int) (32 : Int) (126 : Int)).bind fun o150 => (K (!o150, h0_0, h0_1, h0_2, h0_3))))))
def pF n h0_0 h0_1 h0_2 h0_3 := jm n h0_0 h0_1 h0_2 h0_3 _ some
def rX : PS := ⟨[], [(1, .q 0 0)], some [.c 30 [.L false 3, .l .i64, .l .i64, .s]], [⟨.normal, [1], [(36, .b)], [.c 30 [.L false 3, .l .i64, .l .i64, .s]], none⟩], none, none⟩
def jo (n : Nat) (x4 : Int) (h0_0 : List (List AV)) (h0_1 h0_2 : List Int) (h0_3 : Str) (R : Type) (K : W0 → Option R) : Option R := cond (decide (0 ≤ x4)) ((h0_0[x4.toNat]?).bind fun e162 => (unc e162 fun c163 r164 => yu .i64 c163 fun x165 => unc r164 fun c166 r167 => yV c166 fun x168 => unc r167 fun c169 r170 => yX c169 fun x171 => unn r170 (cond (decide (x165 < (-89999 : Int))) (K (true, h0_0, h0_1, h0_2, h0_3)) (cond (decide (0 ≤ x4)) ((h0_0[x4.toNat]?).bind fun e172 => (unc e172 fun c173 r174 => yu .i64 c173 fun x175 => unc r174 fun c176 r177 => yV c176 fun x178 => unc r177 fun c179 r180 => yX c179 fun x181 => unn r180 (cond (decide (x175 > (93599 : Int))) (K (true, h0_0, h0_1, h0_2, h0_3)) (cond (decide (0 ≤ x4)) ((h0_0[x4.toNat]?).bind fun e182 => (unc e182 fun c183 r184 => yu .i64 c183 fun x185 => unc r184 fun c186 r187 => yV c186 fun x188 => unc r187 fun c189 r190 => yX c189 fun x191 => unn r190 ((kD n x191 (1 : Int) (15 : Int) (33 : Int) (126 : Int)).bind fun o192 => (K (!o192, h0_0, h0_1, h0_2, h0_3))))) none)))) none)))) none
def kE n x4 h0_0 h0_1 h0_2 h0_3 := jo n x4 h0_0 h0_1 h0_2 h0_3 _ some
def rY : PS := ⟨[3], [(1, .q 0 0), (4, .n)], some [.c 30 [.L false 3, .l .i64, .l .i64, .s]], [⟨.normal, [1, 3, 4], [(79, .b)], [.c 30 [.L false 3, .l .i64, .l .i64, .s]], none⟩], none, none⟩
def gp (n : Nat) (x3 x4 : Int) (h0_0 : List (List AV)) (h0_1 h0_2 : List Int) (h0_3 : Str) (R : Type) (A_ : Int → Int → (List (List AV)) → (List Int) → (List Int) → Str → Option R) (K : (((List (List AV)) × (List Int) × (List Int) × Str) ⊕ W1) → Option R) : Option R := cond (decide (x4 < (h0_0.length : Int))) (cond (decide (0 ≤ x4)) ((h0_0[x4.toNat]?).bind fun e152 => (unc e152 fun c153 r154 => yu .i64 c153 fun x155 => unc r154 fun c156 r157 => yV c156 fun x158 => unc r157 fun c159 r160 => yX c159 fun x161 => unn r160 ((kE n x4 h0_0 h0_1 h0_2 h0_3).bind fun o193 => (cond o193.1 (K (Sum.inl (o193.2.1, o193.2.2.1, o193.2.2.2.1, o193.2.2.2.2))) (A_ (IntKind.i64.wrap ((IntKind.i64.wrap (x3 + (x161.length : Int))) + (1 : Int))) (IntKind.i64.wrap (x4 + (1 : Int))) o193.2.1 o193.2.2.1 o193.2.2.2.1 o193.2.2.2.2))))) none) (K (Sum.inr (x3, h0_0, h0_1, h0_2, h0_3)))
def dw (n : Nat) : Nat → Int → Int → (List (List AV)) → (List Int) → (List Int) → Str → Option (((List (List AV)) × (List Int) × (List Int) × Str) ⊕ W1)
 | 0, _, _, _, _, _, _ => none
 | m + 1, x3, x4, h0_0, h0_1, h0_2, h0_3 => gp n x3 x4 h0_0 h0_1 h0_2 h0_3 _ (dw n m) some
def rZ : PS := ⟨[], [(1, .q 0 0), (3, .n), (4, .n)], some [.c 30 [.L false 3, .l .i64, .l .i64, .s]], [⟨.ret, [], [(2, .x (.bool false))], [.c 30 [.L false 3, .l .i64, .l .i64, .s]], none⟩, ⟨(.exit 0), [1], [(3, .n)], [.c 30 [.L false 3, .l .i64, .l .i64, .s]], none⟩], none, none⟩
def gq (n : Nat) (x3 x5 : Int) (h0_0 : List (List AV)) (h0_1 h0_2 : List Int) (h0_3 : Str) (R : Type) (K : W0 → Option R) : Option R := cond (decide (x3 > (256 : Int))) (K (true, h0_0, h0_1, h0_2, h0_3)) (cond (decide (0 ≤ x5)) ((h0_2[x5.toNat]?).bind fun e197 => (cond (decide (e197 < (0 : Int))) (K (true, h0_0, h0_1, h0_2, h0_3)) (cond (decide (0 ≤ x5)) ((h0_2[x5.toNat]?).bind fun e198 => (cond (decide (e198 ≥ (h0_0.length : Int))) (K (true, h0_0, h0_1, h0_2, h0_3)) (cond (decide (x5 > (0 : Int))) (cond (decide (0 ≤ x5)) ((h0_1[x5.toNat]?).bind fun e199 => (cond (decide (0 ≤ (IntKind.i64.wrap (x5 - (1 : Int))))) ((h0_1[(IntKind.i64.wrap (x5 - (1 : Int))).toNat]?).bind fun e200 => (K (decide (e199 ≤ e200), h0_0, h0_1, h0_2, h0_3))) none)) none) (K (false, h0_0, h0_1, h0_2, h0_3))))) none))) none)
def iB n x3 x5 h0_0 h0_1 h0_2 h0_3 := gq n x3 x5 h0_0 h0_1 h0_2 h0_3 _ some
def r9 : PS := ⟨[], [(1, .q 0 0), (3, .n), (5, .n)], some [.c 30 [.L false 3, .l .i64, .l .i64, .s]], [⟨.normal, [1, 3, 5], [(125, .b)], [.c 30 [.L false 3, .l .i64, .l .i64, .s]], none⟩], none, none⟩
def dG (n : Nat) (x3 x5 : Int) (h0_0 : List (List AV)) (h0_1 h0_2 : List Int) (h0_3 : Str) (R : Type) (A_ : Int → Int → (List (List AV)) → (List Int) → (List Int) → Str → Option R) (K : (((List (List AV)) × (List Int) × (List Int) × Str) ⊕ ((List (List AV)) × (List Int) × (List Int) × Str)) → Option R) : Option R := cond (decide (x5 < (h0_1.length : Int))) ((iB n x3 x5 h0_0 h0_1 h0_2 h0_3).bind fun o201 => (cond o201.1 (K (Sum.inl (o201.2.1, o201.2.2.1, o201.2.2.2.1, o201.2.2.2.2))) (A_ x3 (IntKind.i64.wrap (x5 + (1 : Int))) o201.2.1 o201.2.2.1 o201.2.2.2.1 o201.2.2.2.2))) (K (Sum.inr (h0_0, h0_1, h0_2, h0_3)))
def bL (n : Nat) : Nat → Int → Int → (List (List AV)) → (List Int) → (List Int) → Str → Option (((List (List AV)) × (List Int) × (List Int) × Str) ⊕ ((List (List AV)) × (List Int) × (List Int) × Str))
 | 0, _, _, _, _, _, _ => none
 | m + 1, x3, x5, h0_0, h0_1, h0_2, h0_3 => dG n x3 x5 h0_0 h0_1 h0_2 h0_3 _ (bL n m) some
def si : PS := ⟨[], [(1, .q 0 0), (3, .n), (5, .n)], some [.c 30 [.L false 3, .l .i64, .l .i64, .s]], [⟨.ret, [], [(2, .x (.bool false))], [.c 30 [.L false 3, .l .i64, .l .i64, .s]], none⟩, ⟨(.exit 2), [3], [], [.c 30 [.L false 3, .l .i64, .l .i64, .s]], none⟩], none, none⟩
theorem E8 (n : Nat) : Snd ⟨Tryz.prog, 0, 128⟩ (rY.x (kE n)) (fb Tryz.f55 5271) := iY (S := rY) (b := jo n) (.r [(23, .cl 91 (uj n))]) (nt5 (jo n) (by intros; unfold jo; simp only [ay])) (ai (xh n) trivial)
theorem E9 (n : Nat) : Snd ⟨Tryz.prog, 0, 128⟩ (r9.x (iB n)) (fb Tryz.f55 4399) := iY (S := r9) (b := gq n) (.d [] [(3, .look), (7, .no), (11, .look), (15, .no), (16, .look), (25, .look), (29, .no), (30, .look), (35, .no)]) (nt6 (gq n) (by intros; unfold gq; simp only [ay])) trivial
theorem Fa (n : Nat) : Snd ⟨Tryz.prog, 0, 128⟩ (rX.x (pF n)) (fb Tryz.f55 9) := iY (S := rX) (b := jm n) (.r [(28, .cl 91 (uj n))]) (nt4 (jm n) (by intros; unfold jm; simp only [ay])) (ai (xh n) trivial)
theorem Fb (n : Nat) : Snd ⟨Tryz.prog, 0, 128⟩ (rZ.x (dw n n)) (fb Tryz.f55 87) := mK (S := rZ) (b := gp n) (f := dw n) n (.s .a (.s (.u (.s .a (.s (.p (rY.x (kE n))) .a))) .a)) (nl6 (gp n) (by intros; unfold gp; simp only [ay])) (ai (E8 n) trivial)
theorem Fe (n : Nat) : Snd ⟨Tryz.prog, 0, 128⟩ (si.x (bL n n)) (fb Tryz.f55 175) := mK (S := si) (b := dG n) (f := bL n) n (.s .a (.s (.u (.s (.p (r9.x (iB n))) .a)) .a)) (nl6 (dG n) (by intros; unfold dG; simp only [ay])) (ai (E9 n) trivial)
def lH (n : Nat) (a0 : List (List AV)) (a1 a2 : List Int) (a3 : Str) (R : Type) (K : Bool → Option R) : Option R := (pF n a0 a1 a2 a3).bind fun o151 => (cond o151.1 (K false) ((dw n n (0 : Int) (0 : Int) o151.2.1 o151.2.2.1 o151.2.2.2.1 o151.2.2.2.2).bind fun o194 => (Sum.elim (fun o195 => K false) (fun o196 => (bL n n o196.1 (0 : Int) o196.2.1 o196.2.2.1 o196.2.2.2.1 o196.2.2.2.2).bind fun o202 => (Sum.elim (fun o203 => K false) (fun o204 => K (decide (o196.1 ≤ (256 : Int)))) o202)) o194)))
def lI n a0 a1 a2 a3 := lH n a0 a1 a2 a3 _ some
def BH : FS := ⟨[.a [.L false 3, .l .i64, .l .i64, .s]], [], [([.b], [])]⟩
def uV (n : Nat) : FSpec := BH.sp (lI n)
theorem xP (n : Nat) : FSound Tryz.prog 55 (uV n) := fs2 (S := BH) (b := lH n) Tryz.func55 rfl rfl [.tmp 2] (.s .a (.s (.s (.p (rX.x (pF n))) .a) (.s .a (.s (.s .a (.u (.p (rZ.x (dw n n))))) (.s (.s .a (.u (.p (si.x (bL n n))))) .a))))) (nt4 (lH n) (by intros; unfold lH; simp only [ay])) (ai (Fa n) (ai (Fb n) (ai (Fe n) trivial)))
def eQ (n : Nat) (x1 : Int) (h0_0 : Str) (h0_1 : Int) (h0_2 : Bool) (R : Type) (K : (Bool × Str × Int × Bool) → Option R) : Option R := cond (decide (h0_1 ≥ (h0_0.length : Int))) (K (true, h0_0, h0_1, h0_2)) (cond (decide (0 ≤ h0_1)) ((h0_0[h0_1.toNat]?).bind fun b206 => (K ((b206.toNat : Int) != x1, h0_0, h0_1, h0_2))) none)
def ko n x1 h0_0 h0_1 h0_2 := eQ n x1 h0_0 h0_1 h0_2 _ some
def nT : PS := ⟨[], [(0, .q 0 0), (1, .c)], some [.c 156 [.s, .n, .b]], [⟨.normal, [0], [(27, .b)], [.c 156 [.s, .n, .b]], none⟩], none, none⟩
theorem BI (n : Nat) : Snd ⟨Tryz.prog, 1, 35⟩ (nT.x (ko n)) (fb Tryz.f131 9) := iY (S := nT) (b := eQ n) (.d [] [(0, .look), (1, .look), (2, .look), (4, .look), (5, .look), (6, .look), (11, .look), (12, .look), (13, .look), (15, .look), (16, .look), (17, .look)]) (nt4 (eQ n) (by intros; unfold eQ; simp only [ay])) trivial
def ic (n : Nat) (a0 : Int) (h0 : Str) (h1 : Int) (h2 : Bool) (R : Type) (K : (Bool × Str × Int × Bool) → Option R) : Option R := (ko n a0 h0 h1 h2).bind fun o207 => (cond o207.1 (K (false, o207.2.1, o207.2.2.1, o207.2.2.2)) (K (true, o207.2.1, IntKind.i64.wrap (o207.2.2.1 + (1 : Int)), o207.2.2.2)))
def aG n a0 h0 h1 h2 := ic n a0 h0 h1 h2 _ some
def xk : FS := ⟨[.q 0 0, .c], [.c 156 [.s, .n, .b]], [([.b], [.c 156 [.s, .n, .b]])]⟩
def aN (n : Nat) : FSpec := xk.sp (aG n)
theorem aK (n : Nat) : FSound Tryz.prog 131 (aN n) := fs2 (S := xk) (b := ic n) Tryz.func131 rfl rfl [.tmp 4] (.s .a (.s (.s (.p (nT.x (ko n))) .a) .a)) (nt4 (ic n) (by intros; unfold ic; simp only [ay])) (ai (BI n) trivial)
def gJ (n : Nat) (a0 : Int) (h0 : Str) (h1 : Int) (h2 : Bool) (R : Type) (K : (Str × Int × Bool) → Option R) : Option R := (aG n a0 h0 h1 h2).bind fun o212 => (cond (!o212.1) (K (o212.2.1, o212.2.2.1, true)) (K (o212.2.1, o212.2.2.1, o212.2.2.2)))
def bn n a0 h0 h1 h2 := gJ n a0 h0 h1 h2 _ some
def wI : FS := ⟨[.q 0 0, .c], [.c 156 [.s, .n, .b]], [([], [.c 156 [.s, .n, .b]])]⟩
def dx (n : Nat) : FSpec := wI.sp (bn n)
theorem dK (n : Nat) : FSound Tryz.prog 95 (dx n) := fs2 (S := wI) (b := gJ n) Tryz.func95 rfl rfl [] (.s (.r [(2, .cl 131 (aN n))]) .a) (nt4 (gJ n) (by intros; unfold gJ; simp only [ay])) (ai (aK n) trivial)
def pG (n : Nat) (a0 : Int) (R : Type) (K : Bool → Option R) : Option R := cond (decide (a0 ≥ (65 : Int))) (cond (decide (a0 ≤ (90 : Int))) (K true) (cond (decide (a0 ≥ (97 : Int))) (K (decide (a0 ≤ (122 : Int)))) (K false))) (cond (decide (a0 ≥ (97 : Int))) (K (decide (a0 ≤ (122 : Int)))) (K false))
def iC n a0 := pG n a0 _ some
def Ai : FS := ⟨[.c], [], [([.b], [])]⟩
def uk (n : Nat) : FSpec := Ai.sp (iC n)
theorem xm (n : Nat) : FSound Tryz.prog 132 (uk n) := fs2 (S := Ai) (b := pG n) Tryz.func132 rfl rfl [.tmp 2] .a (nt1 (pG n) (by intros; unfold pG; simp only [ay])) trivial
def qx (n : Nat) (a0 : Int) (R : Type) (K : Bool → Option R) : Option R := cond (decide (a0 ≥ (48 : Int))) (K (decide (a0 ≤ (57 : Int)))) (K false)
def gD n a0 := qx n a0 _ some
def BJ : FS := ⟨[.c], [], [([.b], [])]⟩
def uW (n : Nat) : FSpec := BJ.sp (gD n)
theorem xQ (n : Nat) : FSound Tryz.prog 144 (uW n) := fs2 (S := BJ) (b := qx n) Tryz.func144 rfl rfl [.tmp 2] .a (nt1 (qx n) (by intros; unfold qx; simp only [ay])) trivial
def jV (n : Nat) (x0 : Str) (x3 : Int) (R : Type) (K : (Bool) → Option R) : Option R := cond (decide (0 ≤ x3)) ((x0[x3.toNat]?).bind fun b214 => ((iC n (b214.toNat : Int)).bind fun o215 => (cond (!o215) (cond (decide (0 ≤ x3)) ((x0[x3.toNat]?).bind fun b216 => ((gD n (b216.toNat : Int)).bind fun o217 => (cond (!o217) (cond (decide (0 ≤ x3)) ((x0[x3.toNat]?).bind fun b218 => (cond ((b218.toNat : Int) != (43 : Int)) (cond (decide (0 ≤ x3)) ((x0[x3.toNat]?).bind fun b219 => (K ((b219.toNat : Int) != (45 : Int)))) none) (K false))) none) (K false)))) none) (K false)))) none
def qy n x0 x3 := jV n x0 x3 _ some
def ul : PS := ⟨[], [(0, .s), (3, .n)], none, [⟨.normal, [0, 3], [(33, .b)], [], none⟩], none, none⟩
def jW (n : Nat) (x0 : Str) (x3 : Int) (R : Type) (A_ : Str → Int → Option R) (K : ((Unit) ⊕ (Unit)) → Option R) : Option R := cond (decide (x3 < (x0.length : Int))) ((qy n x0 x3).bind fun o220 => (cond o220 (K (Sum.inl ())) (A_ x0 (IntKind.i64.wrap (x3 + (1 : Int)))))) (K (Sum.inr ()))
def gF (n : Nat) : Nat → Str → Int → Option ((Unit) ⊕ (Unit))
 | 0, _, _ => none
 | m + 1, x0, x3 => jW n x0 x3 _ (gF n m) some
def um : PS := ⟨[], [(0, .s), (3, .n)], none, [⟨.ret, [], [(2, .x (.bool false))], [], none⟩, ⟨(.exit 0), [0], [], [], none⟩], none, none⟩
theorem Gn (n : Nat) : Snd ⟨Tryz.prog, 0, 42⟩ (ul.x (qy n)) (fb Tryz.f105 549) := iY (S := ul) (b := jV n) (.r [(3, .cl 132 (uk n)), (9, .cl 144 (uW n))]) (nt2 (jV n) (by intros; unfold jV; simp only [ay])) (ai (xm n) (ai (xQ n) trivial))
theorem Gp (n : Nat) : Snd ⟨Tryz.prog, 0, 42⟩ (um.x (gF n n)) (fb Tryz.f105 21) := mK (S := um) (b := jW n) (f := gF n) n (.s .a (.s (.u (.s (.p (ul.x (qy n))) .a)) .a)) (nl2 (jW n) (by intros; unfold jW; simp only [ay])) (ai (Gn n) trivial)
def nE (n : Nat) (a0 : Str) (R : Type) (K : Bool → Option R) : Option R := (gF n n a0 (0 : Int)).bind fun o221 => (Sum.elim (fun o222 => K false) (fun o223 => cond (decide ((a0.length : Int) ≥ (3 : Int))) (K (decide ((a0.length : Int) ≤ (10 : Int)))) (K false)) o221)
def gX n a0 := nE n a0 _ some
def Cu : FS := ⟨[.s], [], [([.b], [])]⟩
def lJ (n : Nat) : FSpec := Cu.sp (gX n)
theorem mY (n : Nat) : FSound Tryz.prog 105 (lJ n) := fs2 (S := Cu) (b := nE n) Tryz.func105 rfl rfl [.tmp 2] (.s .a (.s (.s .a (.u (.p (um.x (gF n n))))) .a)) (nt1 (nE n) (by intros; unfold nE; simp only [ay])) (ai (Gp n) trivial)
def gK (n : Nat) (h0 : Str) (h1 : Int) (h2 : Bool) (R : Type) (K : (Int × Str × Int × Bool) → Option R) : Option R := cond (decide (h1 < (h0.length : Int))) (cond (decide (0 ≤ h1)) ((h0[h1.toNat]?).bind fun b226 => (K ((b226.toNat : Int), h0, h1, h2))) none) (K ((0 : Int), h0, h1, h2))
def bS n h0 h1 h2 := gK n h0 h1 h2 _ some
def wJ : FS := ⟨[.q 0 0], [.c 156 [.s, .n, .b]], [([.c], [.c 156 [.s, .n, .b]])]⟩
def fH (n : Nat) : FSpec := wJ.sp (bS n)
theorem ig (n : Nat) : FSound Tryz.prog 94 (fH n) := fs2 (S := wJ) (b := gK n) Tryz.func94 rfl rfl [.tmp 2] (.s .a (.s (.s (.d [] [(0, .look), (1, .look), (2, .look), (4, .look), (5, .look), (6, .look)]) (.s (.s (.d [] [(0, .look), (1, .look), (2, .look), (4, .look), (5, .look), (6, .look)]) .a) .a)) .a)) (nt3 (gK n) (by intros; unfold gK; simp only [ay])) trivial
def ek (n : Nat) (h0_0 : Str) (h0_1 : Int) (h0_2 : Bool) (R : Type) (K : (Bool × Str × Int × Bool) → Option R) : Option R := cond (decide (h0_1 < (h0_0.length : Int))) (cond (decide (0 ≤ h0_1)) ((h0_0[h0_1.toNat]?).bind fun b209 => (K ((b209.toNat : Int) != (62 : Int), h0_0, h0_1, h0_2))) none) (K (false, h0_0, h0_1, h0_2))
def jE n h0_0 h0_1 h0_2 := ek n h0_0 h0_1 h0_2 _ some
def mP : PS := ⟨[3], [(0, .q 0 0)], some [.c 156 [.s, .n, .b]], [⟨.normal, [0, 3], [(37, .b)], [.c 156 [.s, .n, .b]], none⟩], none, none⟩
def eB (n : Nat) (h0_0 : Str) (h0_1 : Int) (h0_2 : Bool) (R : Type) (A_ : Str → Int → Bool → Option R) (K : (Str × Int × Bool) → Option R) : Option R := (jE n h0_0 h0_1 h0_2).bind fun o210 => (cond o210.1 (A_ o210.2.1 (IntKind.i64.wrap (o210.2.2.1 + (1 : Int))) o210.2.2.2) (K (o210.2.1, o210.2.2.1, o210.2.2.2)))
def bG (n : Nat) : Nat → Str → Int → Bool → Option ((Str × Int × Bool))
 | 0, _, _, _ => none
 | m + 1, h0_0, h0_1, h0_2 => eB n h0_0 h0_1 h0_2 _ (bG n m) some
def mQ : PS := ⟨[3], [(0, .q 0 0)], some [.c 156 [.s, .n, .b]], [⟨(.exit 0), [0, 3], [], [.c 156 [.s, .n, .b]], none⟩], none, none⟩
def eD (n : Nat) (x4 h0_0 : Str) (h0_1 : Int) (h0_2 : Bool) (R : Type) (K : (Str × Int × Bool) → Option R) : Option R := cond h0_2 (K (h0_0, h0_1, true)) ((gX n x4).bind fun o224 => (K (h0_0, h0_1, !o224)))
def jF n x4 h0_0 h0_1 h0_2 := eD n x4 h0_0 h0_1 h0_2 _ some
def mR : PS := ⟨[], [(0, .q 0 0), (4, .s)], some [.c 156 [.s, .n, .b]], [⟨.normal, [4], [], [.c 156 [.s, .n, .b]], none⟩], none, none⟩
def eF (n : Nat) (h0_0 : Str) (h0_1 : Int) (h0_2 : Bool) (R : Type) (A_ : Str → Int → Bool → Option R) (K : (Str × Int × Bool) → Option R) : Option R := (bS n h0_0 h0_1 h0_2).bind fun o227 => ((iC n o227.1).bind fun o228 => (cond o228 (A_ o227.2.1 (IntKind.i64.wrap (o227.2.2.1 + (1 : Int))) o227.2.2.2) (K (o227.2.1, o227.2.2.1, o227.2.2.2))))
def bH (n : Nat) : Nat → Str → Int → Bool → Option ((Str × Int × Bool))
 | 0, _, _, _ => none
 | m + 1, h0_0, h0_1, h0_2 => eF n h0_0 h0_1 h0_2 _ (bH n m) some
def mU : PS := ⟨[3], [(0, .q 0 0)], some [.c 156 [.s, .n, .b]], [⟨(.exit 2), [0, 3], [], [.c 156 [.s, .n, .b]], none⟩], none, none⟩
theorem AL (n : Nat) : Snd ⟨Tryz.prog, 1, 103⟩ (mP.x (jE n)) (fb Tryz.f92 2091) := iY (S := mP) (b := ek n) (.d [] [(0, .look), (1, .look), (2, .look), (4, .look), (5, .look), (6, .look), (11, .look), (12, .look), (13, .look), (15, .look), (16, .look), (17, .look)]) (nt3 (ek n) (by intros; unfold ek; simp only [ay])) trivial
theorem AO (n : Nat) : Snd ⟨Tryz.prog, 1, 103⟩ (mQ.x (bG n n)) (fb Tryz.f92 299) := mK (S := mQ) (b := eB n) (f := bG n) n (.s (.s (.p (mP.x (jE n))) .a) .a) (nl3 (eB n) (by intros; unfold eB; simp only [ay])) (ai (AL n) trivial)
theorem AP (n : Nat) : Snd ⟨Tryz.prog, 1, 103⟩ (mR.x (jF n)) (fb Tryz.f92 1515) := iY (S := mR) (b := eD n) (.r [(7, .cl 105 (lJ n))]) (nt4 (eD n) (by intros; unfold eD; simp only [ay])) (ai (mY n) trivial)
theorem AQ (n : Nat) : Snd ⟨Tryz.prog, 1, 103⟩ (mU.x (bH n n)) (fb Tryz.f92 39) := mK (S := mU) (b := eF n) (f := bH n) n (.s (.s (.r [(1, .cl 94 (fH n)), (2, .cl 132 (uk n))]) .a) .a) (nl3 (eF n) (by intros; unfold eF; simp only [ay])) (ai (ig n) (ai (xm n) trivial))
def gL (n : Nat) (h0 : Str) (h1 : Int) (h2 : Bool) (R : Type) (K : (Str × Str × Int × Bool) → Option R) : Option R := (aG n (60 : Int) h0 h1 h2).bind fun o208 => (cond o208.1 ((bG n n o208.2.1 o208.2.2.1 o208.2.2.2).bind fun o211 => (cond (decide (0 ≤ o211.2.1)) (cond (decide (o211.2.1 ≤ (o211.1.length : Int))) (cond (decide (0 ≤ o208.2.2.1)) (cond (decide (o208.2.2.1 ≤ (o211.2.1.toNat : Int))) ((bn n (62 : Int) o211.1 o211.2.1 o211.2.2).bind fun o213 => ((jF n ((o211.1.take o211.2.1.toNat).drop o208.2.2.1.toNat) o213.1 o213.2.1 o213.2.2).bind fun o225 => (K ((o211.1.take o211.2.1.toNat).drop o208.2.2.1.toNat, o225.1, o225.2.1, o225.2.2)))) none) none) none) none)) ((bH n n o208.2.1 o208.2.2.1 o208.2.2.2).bind fun o229 => (cond (decide (0 ≤ o229.2.1)) (cond (decide (o229.2.1 ≤ (o229.1.length : Int))) (cond (decide (0 ≤ h1)) (cond (decide (h1 ≤ (o229.2.1.toNat : Int))) (cond o229.2.2 (K ((o229.1.take o229.2.1.toNat).drop h1.toNat, o229.1, o229.2.1, true)) ((gX n ((o229.1.take o229.2.1.toNat).drop h1.toNat)).bind fun o230 => (K ((o229.1.take o229.2.1.toNat).drop h1.toNat, o229.1, o229.2.1, !o230)))) none) none) none) none)))
def gM n h0 h1 h2 := gL n h0 h1 h2 _ some
def wK : FS := ⟨[.q 0 0], [.c 156 [.s, .n, .b]], [([.s], [.c 156 [.s, .n, .b]])]⟩
def oJ (n : Nat) : FSpec := wK.sp (gM n)
theorem sV (n : Nat) : FSound Tryz.prog 92 (oJ n) := fs2 (S := wK) (b := gL n) Tryz.func92 rfl rfl [.tmp 2] (.s .a (.s .a (.s (.s (.r [(1, .cl 131 (aN n))]) (.s (.s .a (.s (.u (.p (mQ.x (bG n n)))) (.s (.d [] [(0, .look), (1, .look), (2, .look), (5, .look), (6, .look), (7, .look)]) (.s (.r [(1, .cl 95 (dx n))]) (.s (.p (mR.x (jF n))) .a))))) .a)) (.s (.u (.p (mU.x (bH n n)))) (.s (.d [] [(0, .look), (1, .look), (2, .look), (5, .look), (6, .look), (7, .look)]) (.s (.r [(7, .cl 105 (lJ n))]) .a)))))) (nt3 (gL n) (by intros; unfold gL; simp only [ay])) (ai (aK n) (ai (AO n) (ai (dK n) (ai (AP n) (ai (AQ n) (ai (mY n) trivial))))))
def dE (n : Nat) (x2 x8 : Int) (h0_0 : Str) (h0_1 : Int) (h0_2 : Bool) (R : Type) (K : (Bool × Str × Int × Bool) → Option R) : Option R := cond (decide (x8 < x2)) ((bS n h0_0 h0_1 h0_2).bind fun o235 => ((gD n o235.1).bind fun o236 => (K (o236, o235.2.1, o235.2.2.1, o235.2.2.2)))) (K (false, h0_0, h0_1, h0_2))
def iE n x2 x8 h0_0 h0_1 h0_2 := dE n x2 x8 h0_0 h0_1 h0_2 _ some
def kZ : PS := ⟨[1, 7], [(0, .q 0 0), (2, .n), (8, .n)], some [.c 156 [.s, .n, .b]], [⟨.normal, [0, 1, 2, 7, 8], [(16, .b)], [.c 156 [.s, .n, .b]], none⟩], none, none⟩
def dF (n : Nat) (x2 x7 x8 : Int) (h0_0 : Str) (h0_1 : Int) (h0_2 : Bool) (R : Type) (A_ : Int → Int → Int → Str → Int → Bool → Option R) (K : W7 → Option R) : Option R := (iE n x2 x8 h0_0 h0_1 h0_2).bind fun o237 => (cond o237.1 ((bS n o237.2.1 o237.2.2.1 o237.2.2.2).bind fun o238 => (A_ x2 (IntKind.i64.wrap ((IntKind.i64.wrap ((IntKind.i64.wrap ((10 : Int) * x7)) + (IntKind.i64.wrap o238.1))) - (48 : Int))) (IntKind.i64.wrap (x8 + (1 : Int))) o238.2.1 (IntKind.i64.wrap (o238.2.2.1 + (1 : Int))) o238.2.2.2)) (K (x7, x8, o237.2.1, o237.2.2.1, o237.2.2.2)))
def aS (n : Nat) : Nat → Int → Int → Int → Str → Int → Bool → Option (W7)
 | 0, _, _, _, _, _, _ => none
 | m + 1, x2, x7, x8, h0_0, h0_1, h0_2 => dF n x2 x7 x8 h0_0 h0_1 h0_2 _ (aS n m) some
def lg : PS := ⟨[1], [(0, .q 0 0), (2, .n), (7, .n), (8, .n)], some [.c 156 [.s, .n, .b]], [⟨(.exit 0), [0, 1], [(7, .n), (8, .n)], [.c 156 [.s, .n, .b]], none⟩], none, none⟩
theorem zg (n : Nat) : Snd ⟨Tryz.prog, 1, 46⟩ (kZ.x (iE n)) (fb Tryz.f133 131) := iY (S := kZ) (b := dE n) (.r [(5, .cl 94 (fH n)), (6, .cl 144 (uW n))]) (nt5 (dE n) (by intros; unfold dE; simp only [ay])) (ai (ig n) (ai (xQ n) trivial))
theorem zh (n : Nat) : Snd ⟨Tryz.prog, 1, 46⟩ (lg.x (aS n n)) (fb Tryz.f133 19) := mK (S := lg) (b := dF n) (f := aS n) n (.s (.s (.p (kZ.x (iE n))) .a) (.u (.s (.r [(3, .cl 94 (fH n))]) .a))) (nl6 (dF n) (by intros; unfold dF; simp only [ay])) (ai (zg n) (ai (ig n) trivial))
def eT (n : Nat) (a0 a1 : Int) (h0 : Str) (h1 : Int) (h2 : Bool) (R : Type) (K : (Int × Str × Int × Bool) → Option R) : Option R := (aS n n a1 (0 : Int) (0 : Int) h0 h1 h2).bind fun o239 => (cond o239.2.2.2.2 (K (o239.1, o239.2.2.1, o239.2.2.2.1, true)) (K (o239.1, o239.2.2.1, o239.2.2.2.1, decide (o239.2.1 < a0))))
def au n a0 a1 h0 h1 h2 := eT n a0 a1 h0 h1 h2 _ some
def uX : FS := ⟨[.q 0 0, .n, .n], [.c 156 [.s, .n, .b]], [([.n], [.c 156 [.s, .n, .b]])]⟩
def aL (n : Nat) : FSpec := uX.sp (au n)
theorem aM (n : Nat) : FSound Tryz.prog 133 (aL n) := fs2 (S := uX) (b := eT n) Tryz.func133 rfl rfl [.tmp 6] (.s .a (.s .a (.s (.u (.p (lg.x (aS n n)))) .a))) (nt5 (eT n) (by intros; unfold eT; simp only [ay])) (ai (zh n) trivial)
def dL (n : Nat) (x5 : Int) (h0_0 : Str) (h0_1 : Int) (h0_2 : Bool) (R : Type) (K : (Int × Str × Int × Bool) → Option R) : Option R := (aG n (45 : Int) h0_0 h0_1 h0_2).bind fun o232 => (cond o232.1 (K ((-1 : Int), o232.2.1, o232.2.2.1, o232.2.2.2)) ((aG n (43 : Int) o232.2.1 o232.2.2.1 o232.2.2.2).bind fun o233 => (K (x5, o233.2.1, o233.2.2.1, o233.2.2.2))))
def eU n x5 h0_0 h0_1 h0_2 := dL n x5 h0_0 h0_1 h0_2 _ some
def lK : PS := ⟨[1], [(0, .q 0 0), (5, .n)], some [.c 156 [.s, .n, .b]], [⟨.normal, [0, 1], [(5, .n)], [.c 156 [.s, .n, .b]], none⟩], none, none⟩
def dM (n : Nat) (x7 x8 : Int) (h0_0 : Str) (h0_1 : Int) (h0_2 : Bool) (R : Type) (K : W7 → Option R) : Option R := (aG n (58 : Int) h0_0 h0_1 h0_2).bind fun o241 => (cond o241.1 ((au n (2 : Int) (2 : Int) o241.2.1 o241.2.2.1 o241.2.2.2).bind fun o242 => ((aG n (58 : Int) o242.2.1 o242.2.2.1 o242.2.2.2).bind fun o243 => (cond o243.1 ((au n (2 : Int) (2 : Int) o243.2.1 o243.2.2.1 o243.2.2.2).bind fun o244 => (K (o242.1, o244.1, o244.2.1, o244.2.2.1, o244.2.2.2))) (K (o242.1, x8, o243.2.1, o243.2.2.1, o243.2.2.2))))) (K (x7, x8, o241.2.1, o241.2.2.1, o241.2.2.2)))
def jb n x7 x8 h0_0 h0_1 h0_2 := dM n x7 x8 h0_0 h0_1 h0_2 _ some
def lL : PS := ⟨[1, 5, 6], [(0, .q 0 0), (7, .n), (8, .n)], some [.c 156 [.s, .n, .b]], [⟨.normal, [0, 1, 5, 6], [(7, .n), (8, .n)], [.c 156 [.s, .n, .b]], none⟩], none, none⟩
def dN (n : Nat) (x1 x6 x7 x8 : Int) (h0_0 : Str) (h0_1 : Int) (h0_2 : Bool) (R : Type) (K : (Str × Int × Bool) → Option R) : Option R := cond h0_2 (K (h0_0, h0_1, true)) (cond (decide (x6 > x1)) (K (h0_0, h0_1, true)) (cond (decide (x7 > (59 : Int))) (K (h0_0, h0_1, true)) (K (h0_0, h0_1, decide (x8 > (59 : Int))))))
def eX n x1 x6 x7 x8 h0_0 h0_1 h0_2 := dN n x1 x6 x7 x8 h0_0 h0_1 h0_2 _ some
def lM : PS := ⟨[5], [(0, .q 0 0), (1, .n), (6, .n), (7, .n), (8, .n)], some [.c 156 [.s, .n, .b]], [⟨.normal, [5, 6, 7, 8], [], [.c 156 [.s, .n, .b]], none⟩], none, none⟩
theorem zM (n : Nat) : Snd ⟨Tryz.prog, 1, 52⟩ (lK.x (eU n)) (fb Tryz.f93 11) := iY (S := lK) (b := dL n) (.s (.r [(1, .cl 131 (aN n))]) (.s .a (.r [(1, .cl 131 (aN n))]))) (nt4 (dL n) (by intros; unfold dL; simp only [ay])) (ai (aK n) (ai (aK n) trivial))
theorem zN (n : Nat) : Snd ⟨Tryz.prog, 1, 52⟩ (lL.x (jb n)) (fb Tryz.f93 47) := iY (S := lL) (b := dM n) (.s (.r [(1, .cl 131 (aN n))]) (.s (.s (.r [(1, .cl 133 (aL n))]) (.s (.r [(1, .cl 131 (aN n))]) (.s (.r [(1, .cl 133 (aL n))]) .a))) .a)) (nt5 (dM n) (by intros; unfold dM; simp only [ay])) (ai (aK n) (ai (aM n) (ai (aK n) (ai (aM n) trivial))))
theorem zO (n : Nat) : Snd ⟨Tryz.prog, 1, 52⟩ (lM.x (eX n)) (fb Tryz.f93 95) := iY (S := lM) (b := dN n) .a (nt7 (dN n) (by intros; unfold dN; simp only [ay])) trivial
def fI (n : Nat) (a0 : Int) (h0 : Str) (h1 : Int) (h2 : Bool) (R : Type) (K : (Int × Str × Int × Bool) → Option R) : Option R := (eU n (1 : Int) h0 h1 h2).bind fun o234 => ((au n (1 : Int) (3 : Int) o234.2.1 o234.2.2.1 o234.2.2.2).bind fun o240 => ((jb n (0 : Int) (0 : Int) o240.2.1 o240.2.2.1 o240.2.2.2).bind fun o245 => ((eX n a0 o240.1 o245.1 o245.2.1 o245.2.2.1 o245.2.2.2.1 o245.2.2.2.2).bind fun o246 => (K (IntKind.i64.wrap (o234.1 * (IntKind.i64.wrap ((IntKind.i64.wrap ((IntKind.i64.wrap ((3600 : Int) * o240.1)) + (IntKind.i64.wrap ((60 : Int) * o245.1)))) + o245.2.1))), o246.1, o246.2.1, o246.2.2)))))
def aJ n a0 h0 h1 h2 := fI n a0 h0 h1 h2 _ some
def vD : FS := ⟨[.q 0 0, .n], [.c 156 [.s, .n, .b]], [([.n], [.c 156 [.s, .n, .b]])]⟩
def jc (n : Nat) : FSpec := vD.sp (aJ n)
theorem lh (n : Nat) : FSound Tryz.prog 93 (jc n) := fs2 (S := vD) (b := fI n) Tryz.func93 rfl rfl [.tmp 4] (.s .a (.s .a (.s (.p (lK.x (eU n))) (.s (.r [(1, .cl 133 (aL n))]) (.s (.p (lL.x (jb n))) (.s (.p (lM.x (eX n))) .a)))))) (nt4 (fI n) (by intros; unfold fI; simp only [ay])) (ai (zM n) (ai (aM n) (ai (zN n) (ai (zO n) trivial))))
def kG (n : Nat) (h0_0 h0_1 h0_2 h0_3 h0_4 : Int) (R : Type) (K : W2 → Option R) : Option R := cond (decide (h0_4 < (-604799 : Int))) (K (true, h0_0, h0_1, h0_2, h0_3, h0_4)) (K (decide (h0_4 > (604799 : Int)), h0_0, h0_1, h0_2, h0_3, h0_4))
def rJ n h0_0 h0_1 h0_2 h0_3 h0_4 := kG n h0_0 h0_1 h0_2 h0_3 h0_4 _ some
def uY : PS := ⟨[], [(1, .q 0 0)], some [.c 32 [.c, .n, .n, .n, .n]], [⟨.normal, [1], [(10, .b)], [.c 32 [.c, .n, .n, .n, .n]], none⟩], none, none⟩
theorem GZ (n : Nat) : Snd ⟨Tryz.prog, 0, 83⟩ (uY.x (rJ n)) (fb Tryz.f107 9) := iY (S := uY) (b := kG n) .a (nt5 (kG n) (by intros; unfold kG; simp only [ay])) trivial
def oK (n : Nat) (a0 a1 a2 a3 a4 : Int) (R : Type) (K : Bool → Option R) : Option R := (rJ n a0 a1 a2 a3 a4).bind fun o267 => (cond o267.1 (K false) (cond (o267.2.1 == (1 : Int)) (cond (o267.2.2.1 == (0 : Int)) (cond (o267.2.2.2.1 == (0 : Int)) (cond (decide (o267.2.2.2.2.1 ≥ (1 : Int))) (K (decide (o267.2.2.2.2.1 ≤ (365 : Int)))) (K false)) (K false)) (K false)) (cond (o267.2.1 == (2 : Int)) (cond (o267.2.2.1 == (0 : Int)) (cond (o267.2.2.2.1 == (0 : Int)) (cond (decide (o267.2.2.2.2.1 ≥ (0 : Int))) (K (decide (o267.2.2.2.2.1 ≤ (365 : Int)))) (K false)) (K false)) (K false)) (cond (o267.2.1 == (3 : Int)) (cond (decide (o267.2.2.1 ≥ (1 : Int))) (cond (decide (o267.2.2.1 ≤ (12 : Int))) (cond (decide (o267.2.2.2.1 ≥ (1 : Int))) (cond (decide (o267.2.2.2.1 ≤ (5 : Int))) (cond (decide (o267.2.2.2.2.1 ≥ (0 : Int))) (K (decide (o267.2.2.2.2.1 ≤ (6 : Int)))) (K false)) (K false)) (K false)) (K false)) (K false)) (K false)))))
def iI n a0 a1 a2 a3 a4 := oK n a0 a1 a2 a3 a4 _ some
def DN : FS := ⟨[.a [.c, .n, .n, .n, .n]], [], [([.b], [])]⟩
def rM (n : Nat) : FSpec := DN.sp (iI n)
theorem uo (n : Nat) : FSound Tryz.prog 107 (rM n) := fs2 (S := DN) (b := oK n) Tryz.func107 rfl rfl [.tmp 2] (.s .a (.s (.s (.p (uY.x (rJ n))) .a) .a)) (nt5 (oK n) (by intros; unfold oK; simp only [ay])) (ai (GZ n) trivial)
def eY (n : Nat) (h0_0 : Str) (h0_1 : Int) (h0_2 : Bool) (h1_0 h1_1 h1_2 h1_3 h1_4 h2_0 h2_1 h2_2 h2_3 h2_4 : Int) (R : Type) (K : W8 → Option R) : Option R := (aG n (74 : Int) h0_0 h0_1 h0_2).bind fun o254 => (cond o254.1 ((au n (1 : Int) (3 : Int) o254.2.1 o254.2.2.1 o254.2.2.2).bind fun o255 => (K (o255.2.1, o255.2.2.1, o255.2.2.2, h1_0, h1_1, h1_2, h1_3, h1_4, (1 : Int), h2_1, h2_2, o255.1, h2_4))) ((aG n (77 : Int) o254.2.1 o254.2.2.1 o254.2.2.2).bind fun o256 => (cond o256.1 ((au n (1 : Int) (3 : Int) o256.2.1 o256.2.2.1 o256.2.2.2).bind fun o257 => ((bn n (46 : Int) o257.2.1 o257.2.2.1 o257.2.2.2).bind fun o258 => ((au n (1 : Int) (3 : Int) o258.1 o258.2.1 o258.2.2).bind fun o259 => ((bn n (46 : Int) o259.2.1 o259.2.2.1 o259.2.2.2).bind fun o260 => ((au n (1 : Int) (3 : Int) o260.1 o260.2.1 o260.2.2).bind fun o261 => (K (o261.2.1, o261.2.2.1, o261.2.2.2, h1_0, h1_1, h1_2, h1_3, h1_4, (3 : Int), o257.1, o259.1, o261.1, h2_4))))))) ((au n (1 : Int) (3 : Int) o256.2.1 o256.2.2.1 o256.2.2.2).bind fun o262 => (K (o262.2.1, o262.2.2.1, o262.2.2.2, h1_0, h1_1, h1_2, h1_3, h1_4, (2 : Int), h2_1, h2_2, o262.1, h2_4))))))
def kr n h0_0 h0_1 h0_2 h1_0 h1_1 h1_2 h1_3 h1_4 h2_0 h2_1 h2_2 h2_3 h2_4 := eY n h0_0 h0_1 h0_2 h1_0 h1_1 h1_2 h1_3 h1_4 h2_0 h2_1 h2_2 h2_3 h2_4 _ some
def nU : PS := ⟨[2], [(0, .q 0 0), (3, .q 2 0)], some [.c 156 [.s, .n, .b], .c 32 [.c, .n, .n, .n, .n], .c 32 [.c, .n, .n, .n, .n]], [⟨.normal, [0, 2, 3], [], [.c 156 [.s, .n, .b], .c 32 [.c, .n, .n, .n, .n], .c 32 [.c, .n, .n, .n, .n]], none⟩], none, none⟩
def eZ (n : Nat) (h0_0 : Str) (h0_1 : Int) (h0_2 : Bool) (h1_0 h1_1 h1_2 h1_3 h1_4 h2_0 h2_1 h2_2 h2_3 h2_4 : Int) (R : Type) (K : W8 → Option R) : Option R := (aG n (47 : Int) h0_0 h0_1 h0_2).bind fun o264 => (cond o264.1 ((aJ n (167 : Int) o264.2.1 o264.2.2.1 o264.2.2.2).bind fun o265 => (K (o265.2.1, o265.2.2.1, o265.2.2.2, h1_0, h1_1, h1_2, h1_3, h1_4, h2_0, h2_1, h2_2, h2_3, o265.1))) (K (o264.2.1, o264.2.2.1, o264.2.2.2, h1_0, h1_1, h1_2, h1_3, h1_4, h2_0, h2_1, h2_2, h2_3, h2_4)))
def gN n h0_0 h0_1 h0_2 h1_0 h1_1 h1_2 h1_3 h1_4 h2_0 h2_1 h2_2 h2_3 h2_4 := eZ n h0_0 h0_1 h0_2 h1_0 h1_1 h1_2 h1_3 h1_4 h2_0 h2_1 h2_2 h2_3 h2_4 _ some
def nV : PS := ⟨[2], [(0, .q 0 0), (3, .q 2 0)], some [.c 156 [.s, .n, .b], .c 32 [.c, .n, .n, .n, .n], .c 32 [.c, .n, .n, .n, .n]], [⟨.normal, [0, 2, 3], [], [.c 156 [.s, .n, .b], .c 32 [.c, .n, .n, .n, .n], .c 32 [.c, .n, .n, .n, .n]], none⟩], none, none⟩
theorem BK (n : Nat) : Snd ⟨Tryz.prog, 1, 51⟩ (nU.x (kr n)) (fb Tryz.f96 11) := iY (S := nU) (b := eY n) (.u (.s (.r [(1, .cl 131 (aN n))]) (.s (.s .a (.r [(1, .cl 133 (aL n))])) (.s (.r [(1, .cl 131 (aN n))]) (.s (.s .a (.s (.r [(1, .cl 133 (aL n))]) (.s (.r [(1, .cl 95 (dx n))]) (.s (.r [(1, .cl 133 (aL n))]) (.s (.r [(1, .cl 95 (dx n))]) (.r [(1, .cl 133 (aL n))])))))) (.s .a (.r [(1, .cl 133 (aL n))]))))))) (acj (eY n) (by intros; unfold eY; simp only [ay])) (ai (aK n) (ai (aM n) (ai (aK n) (ai (aM n) (ai (dK n) (ai (aM n) (ai (dK n) (ai (aM n) (ai (aM n) trivial)))))))))
theorem BL (n : Nat) : Snd ⟨Tryz.prog, 1, 51⟩ (nV.x (gN n)) (fb Tryz.f96 23) := iY (S := nV) (b := eZ n) (.s (.r [(1, .cl 131 (aN n))]) (.s (.r [(1, .cl 93 (jc n))]) .a)) (acj (eZ n) (by intros; unfold eZ; simp only [ay])) (ai (aK n) (ai (lh n) trivial))
def ik (n : Nat) (h0 : Str) (h1 : Int) (h2 : Bool) (R : Type) (K : (Int × Int × Int × Int × Int × Str × Int × Bool) → Option R) : Option R := (kr n h0 h1 h2 (0 : Int) (0 : Int) (0 : Int) (0 : Int) (0 : Int) (0 : Int) (0 : Int) (0 : Int) (0 : Int) (7200 : Int)).bind fun o263 => ((gN n o263.1 o263.2.1 o263.2.2.1 o263.2.2.2.1 o263.2.2.2.2.1 o263.2.2.2.2.2.1 o263.2.2.2.2.2.2.1 o263.2.2.2.2.2.2.2.1 o263.2.2.2.2.2.2.2.2.1 o263.2.2.2.2.2.2.2.2.2.1 o263.2.2.2.2.2.2.2.2.2.2.1 o263.2.2.2.2.2.2.2.2.2.2.2.1 o263.2.2.2.2.2.2.2.2.2.2.2.2).bind fun o266 => (cond o266.2.2.1 (K (o266.2.2.2.2.2.2.2.2.1, o266.2.2.2.2.2.2.2.2.2.1, o266.2.2.2.2.2.2.2.2.2.2.1, o266.2.2.2.2.2.2.2.2.2.2.2.1, o266.2.2.2.2.2.2.2.2.2.2.2.2, o266.1, o266.2.1, true)) ((iI n o266.2.2.2.2.2.2.2.2.1 o266.2.2.2.2.2.2.2.2.2.1 o266.2.2.2.2.2.2.2.2.2.2.1 o266.2.2.2.2.2.2.2.2.2.2.2.1 o266.2.2.2.2.2.2.2.2.2.2.2.2).bind fun o268 => (K (o266.2.2.2.2.2.2.2.2.1, o266.2.2.2.2.2.2.2.2.2.1, o266.2.2.2.2.2.2.2.2.2.2.1, o266.2.2.2.2.2.2.2.2.2.2.2.1, o266.2.2.2.2.2.2.2.2.2.2.2.2, o266.1, o266.2.1, !o268)))))
def il n h0 h1 h2 := ik n h0 h1 h2 _ some
def xn : FS := ⟨[.q 0 0], [.c 156 [.s, .n, .b]], [([.a [.c, .n, .n, .n, .n]], [.c 156 [.s, .n, .b]])]⟩
def pX (n : Nat) : FSpec := xn.sp (il n)
theorem uF (n : Nat) : FSound Tryz.prog 96 (pX n) := fs2 (S := xn) (b := ik n) Tryz.func96 rfl rfl [.cell 2 32 5 true] (.s .a (.s .a (.s (.p (nU.x (kr n))) (.s (.p (nV.x (gN n))) (.s (.r [(7, .cl 107 (rM n))]) .a))))) (nt3 (ik n) (by intros; unfold ik; simp only [ay])) (ai (BK n) (ai (BL n) (ai (uo n) trivial)))
def oL (n : Nat) (a0 : Int) (R : Type) (K : Bool → Option R) : Option R := cond (decide (a0 ≥ (-89999 : Int))) (K (decide (a0 ≤ (89999 : Int)))) (K false)
def oM n a0 := oL n a0 _ some
def DR : FS := ⟨[.n], [], [([.b], [])]⟩
def xg (n : Nat) : FSpec := DR.sp (oM n)
theorem zi (n : Nat) : FSound Tryz.prog 106 (xg n) := fs2 (S := DR) (b := oL n) Tryz.func106 rfl rfl [.tmp 2] .a (nt1 (oL n) (by intros; unfold oL; simp only [ay])) trivial
def jq (n : Nat) (h0_0 h0_1 : Str) (h0_2 h0_3 h0_4 h0_5 h0_6 h0_7 h0_8 h0_9 h0_10 h0_11 h0_12 h0_13 : Int) (R : Type) (K : W3 → Option R) : Option R := (gX n h0_0).bind fun o273 => (cond (!o273) (K (true, h0_0, h0_1, h0_2, h0_3, h0_4, h0_5, h0_6, h0_7, h0_8, h0_9, h0_10, h0_11, h0_12, h0_13)) ((oM n h0_2).bind fun o274 => (K (!o274, h0_0, h0_1, h0_2, h0_3, h0_4, h0_5, h0_6, h0_7, h0_8, h0_9, h0_10, h0_11, h0_12, h0_13))))
def pJ n h0_0 h0_1 h0_2 h0_3 h0_4 h0_5 h0_6 h0_7 h0_8 h0_9 h0_10 h0_11 h0_12 h0_13 := jq n h0_0 h0_1 h0_2 h0_3 h0_4 h0_5 h0_6 h0_7 h0_8 h0_9 h0_10 h0_11 h0_12 h0_13 _ some
def sj : PS := ⟨[], [(1, .q 0 0)], some [.c 34 [.s, .s, .n, .n, .c, .n, .n, .n, .n, .c, .n, .n, .n, .n]], [⟨.normal, [1], [(12, .b)], [.c 34 [.s, .s, .n, .n, .c, .n, .n, .n, .n, .c, .n, .n, .n, .n]], none⟩], none, none⟩
def jr (n : Nat) (h0_0 h0_1 : Str) (h0_2 h0_3 h0_4 h0_5 h0_6 h0_7 h0_8 h0_9 h0_10 h0_11 h0_12 h0_13 : Int) (R : Type) (K : W3 → Option R) : Option R := cond (h0_3 == (0 : Int)) (cond ((h0_4 == (0 : Int)) && ((h0_5 == (0 : Int)) && ((h0_6 == (0 : Int)) && ((h0_7 == (0 : Int)) && ((h0_8 == (0 : Int)) && true))))) (K (((h0_9 == (0 : Int)) && ((h0_10 == (0 : Int)) && ((h0_11 == (0 : Int)) && ((h0_12 == (0 : Int)) && ((h0_13 == (0 : Int)) && true))))), h0_0, h0_1, h0_2, h0_3, h0_4, h0_5, h0_6, h0_7, h0_8, h0_9, h0_10, h0_11, h0_12, h0_13)) (K (false, h0_0, h0_1, h0_2, h0_3, h0_4, h0_5, h0_6, h0_7, h0_8, h0_9, h0_10, h0_11, h0_12, h0_13))) (K (false, h0_0, h0_1, h0_2, h0_3, h0_4, h0_5, h0_6, h0_7, h0_8, h0_9, h0_10, h0_11, h0_12, h0_13))
def pK n h0_0 h0_1 h0_2 h0_3 h0_4 h0_5 h0_6 h0_7 h0_8 h0_9 h0_10 h0_11 h0_12 h0_13 := jr n h0_0 h0_1 h0_2 h0_3 h0_4 h0_5 h0_6 h0_7 h0_8 h0_9 h0_10 h0_11 h0_12 h0_13 _ some
def su : PS := ⟨[], [(1, .q 0 0)], some [.c 34 [.s, .s, .n, .n, .c, .n, .n, .n, .n, .c, .n, .n, .n, .n]], [⟨.normal, [], [(2, .b)], [.c 34 [.s, .s, .n, .n, .c, .n, .n, .n, .n, .c, .n, .n, .n, .n]], none⟩], none, none⟩
theorem Ff (n : Nat) : Snd ⟨Tryz.prog, 0, 49⟩ (sj.x (pJ n)) (fb Tryz.f69 9) := iY (S := sj) (b := jq n) (.r [(2, .cl 105 (lJ n)), (7, .cl 106 (xg n))]) (Zw (jq n) (by intros; unfold jq; simp only [ay])) (ai (mY n) (ai (zi n) trivial))
theorem Fg (n : Nat) : Snd ⟨Tryz.prog, 0, 49⟩ (su.x (pK n)) (fb Tryz.f69 75) := iY (S := su) (b := jr n) .a (Zw (jr n) (by intros; unfold jr; simp only [ay])) trivial
def lN (n : Nat) (a0 a1 : Str) (a2 a3 a4 a5 a6 a7 a8 a9 a10 a11 a12 a13 : Int) (R : Type) (K : Bool → Option R) : Option R := (pJ n a0 a1 a2 a3 a4 a5 a6 a7 a8 a9 a10 a11 a12 a13).bind fun o275 => (cond o275.1 (K false) (cond (o275.2.2.1 == ([] : Str)) ((pK n o275.2.1 o275.2.2.1 o275.2.2.2.1 o275.2.2.2.2.1 o275.2.2.2.2.2.1 o275.2.2.2.2.2.2.1 o275.2.2.2.2.2.2.2.1 o275.2.2.2.2.2.2.2.2.1 o275.2.2.2.2.2.2.2.2.2.1 o275.2.2.2.2.2.2.2.2.2.2.1 o275.2.2.2.2.2.2.2.2.2.2.2.1 o275.2.2.2.2.2.2.2.2.2.2.2.2.1 o275.2.2.2.2.2.2.2.2.2.2.2.2.2.1 o275.2.2.2.2.2.2.2.2.2.2.2.2.2.2).bind fun o276 => (K o276.1)) ((gX n o275.2.2.1).bind fun o277 => (cond o277 ((oM n o275.2.2.2.2.1).bind fun o278 => (cond o278 ((iI n o275.2.2.2.2.2.1 o275.2.2.2.2.2.2.1 o275.2.2.2.2.2.2.2.1 o275.2.2.2.2.2.2.2.2.1 o275.2.2.2.2.2.2.2.2.2.1).bind fun o279 => (cond o279 ((iI n o275.2.2.2.2.2.2.2.2.2.2.1 o275.2.2.2.2.2.2.2.2.2.2.2.1 o275.2.2.2.2.2.2.2.2.2.2.2.2.1 o275.2.2.2.2.2.2.2.2.2.2.2.2.2.1 o275.2.2.2.2.2.2.2.2.2.2.2.2.2.2).bind fun o280 => (K o280)) (K false))) (K false))) (K false)))))
def jd n a0 a1 a2 a3 a4 a5 a6 a7 a8 a9 a10 a11 a12 a13 := lN n a0 a1 a2 a3 a4 a5 a6 a7 a8 a9 a10 a11 a12 a13 _ some
def BM : FS := ⟨[.a [.s, .s, .n, .n, .c, .n, .n, .n, .n, .c, .n, .n, .n, .n]], [], [([.b], [])]⟩
def uZ (n : Nat) : FSpec := BM.sp (jd n)
theorem xR (n : Nat) : FSound Tryz.prog 69 (uZ n) := fs2 (S := BM) (b := lN n) Tryz.func69 rfl rfl [.tmp 2] (.s .a (.s (.s (.p (sj.x (pJ n))) .a) (.s (.s .a (.s (.s (.p (su.x (pK n))) .a) .a)) (.s (.r [(2, .cl 105 (lJ n)), (6, .cl 106 (xg n)), (11, .cl 107 (rM n)), (16, .cl 107 (rM n))]) .a)))) (Zw (lN n) (by intros; unfold lN; simp only [ay])) (ai (Ff n) (ai (Fg n) (ai (mY n) (ai (zi n) (ai (uo n) (ai (uo n) trivial))))))
def gu (n : Nat) (x0 h0_0 h0_1 : Str) (h0_2 h0_3 h0_4 h0_5 h0_6 h0_7 h0_8 h0_9 h0_10 h0_11 h0_12 h0_13 : Int) (h1_0 : Str) (h1_1 : Int) (h1_2 : Bool) (h2_0 h2_1 : Str) (h2_2 h2_3 h2_4 h2_5 h2_6 h2_7 h2_8 h2_9 h2_10 h2_11 h2_12 h2_13 : Int) (R : Type) (K : (Bool × Str × Str × Int × Int × Int × Int × Int × Int × Int × Int × Int × Int × Int × Int × Str × Int × Bool × Str × Str × Int × Int × Int × Int × Int × Int × Int × Int × Int × Int × Int × Int) → Option R) : Option R := cond (decide (h1_1 < (x0.length : Int))) (K (!h1_2, h0_0, h0_1, h0_2, h0_3, h0_4, h0_5, h0_6, h0_7, h0_8, h0_9, h0_10, h0_11, h0_12, h0_13, h1_0, h1_1, h1_2, h2_0, h2_1, h2_2, h2_3, h2_4, h2_5, h2_6, h2_7, h2_8, h2_9, h2_10, h2_11, h2_12, h2_13)) (K (false, h0_0, h0_1, h0_2, h0_3, h0_4, h0_5, h0_6, h0_7, h0_8, h0_9, h0_10, h0_11, h0_12, h0_13, h1_0, h1_1, h1_2, h2_0, h2_1, h2_2, h2_3, h2_4, h2_5, h2_6, h2_7, h2_8, h2_9, h2_10, h2_11, h2_12, h2_13))
def kH n x0 h0_0 h0_1 h0_2 h0_3 h0_4 h0_5 h0_6 h0_7 h0_8 h0_9 h0_10 h0_11 h0_12 h0_13 h1_0 h1_1 h1_2 h2_0 h2_1 h2_2 h2_3 h2_4 h2_5 h2_6 h2_7 h2_8 h2_9 h2_10 h2_11 h2_12 h2_13 := gu n x0 h0_0 h0_1 h0_2 h0_3 h0_4 h0_5 h0_6 h0_7 h0_8 h0_9 h0_10 h0_11 h0_12 h0_13 h1_0 h1_1 h1_2 h2_0 h2_1 h2_2 h2_3 h2_4 h2_5 h2_6 h2_7 h2_8 h2_9 h2_10 h2_11 h2_12 h2_13 _ some
def sw : PS := ⟨[2, 5], [(0, .s), (4, .q 1 0)], some [.c 34 [.s, .s, .n, .n, .c, .n, .n, .n, .n, .c, .n, .n, .n, .n], .c 156 [.s, .n, .b], .c 34 [.s, .s, .n, .n, .c, .n, .n, .n, .n, .c, .n, .n, .n, .n]], [⟨.normal, [0, 2, 4, 5], [(33, .b)], [.c 34 [.s, .s, .n, .n, .c, .n, .n, .n, .n, .c, .n, .n, .n, .n], .c 156 [.s, .n, .b], .c 34 [.s, .s, .n, .n, .c, .n, .n, .n, .n, .c, .n, .n, .n, .n]], none⟩], none, none⟩
def jv (n : Nat) (h0_0 h0_1 : Str) (h0_2 h0_3 h0_4 h0_5 h0_6 h0_7 h0_8 h0_9 h0_10 h0_11 h0_12 h0_13 : Int) (h1_0 : Str) (h1_1 : Int) (h1_2 : Bool) (h2_0 h2_1 : Str) (h2_2 h2_3 h2_4 h2_5 h2_6 h2_7 h2_8 h2_9 h2_10 h2_11 h2_12 h2_13 : Int) (R : Type) (K : W9 → Option R) : Option R := (bS n h1_0 h1_1 h1_2).bind fun o250 => (cond (o250.1 != (44 : Int)) ((aJ n (24 : Int) o250.2.1 o250.2.2.1 o250.2.2.2).bind fun o251 => (K (h0_0, h0_1, h0_2, h0_3, h0_4, h0_5, h0_6, h0_7, h0_8, h0_9, h0_10, h0_11, h0_12, h0_13, o251.2.1, o251.2.2.1, o251.2.2.2, h2_0, h2_1, h2_2, IntKind.i64.wrap (0 - o251.1), h2_4, h2_5, h2_6, h2_7, h2_8, h2_9, h2_10, h2_11, h2_12, h2_13))) (K (h0_0, h0_1, h0_2, h0_3, h0_4, h0_5, h0_6, h0_7, h0_8, h0_9, h0_10, h0_11, h0_12, h0_13, o250.2.1, o250.2.2.1, o250.2.2.2, h2_0, h2_1, h2_2, h2_3, h2_4, h2_5, h2_6, h2_7, h2_8, h2_9, h2_10, h2_11, h2_12, h2_13)))
def pM n h0_0 h0_1 h0_2 h0_3 h0_4 h0_5 h0_6 h0_7 h0_8 h0_9 h0_10 h0_11 h0_12 h0_13 h1_0 h1_1 h1_2 h2_0 h2_1 h2_2 h2_3 h2_4 h2_5 h2_6 h2_7 h2_8 h2_9 h2_10 h2_11 h2_12 h2_13 := jv n h0_0 h0_1 h0_2 h0_3 h0_4 h0_5 h0_6 h0_7 h0_8 h0_9 h0_10 h0_11 h0_12 h0_13 h1_0 h1_1 h1_2 h2_0 h2_1 h2_2 h2_3 h2_4 h2_5 h2_6 h2_7 h2_8 h2_9 h2_10 h2_11 h2_12 h2_13 _ some
def sD : PS := ⟨[0, 2], [(4, .q 1 0), (5, .q 2 0)], some [.c 34 [.s, .s, .n, .n, .c, .n, .n, .n, .n, .c, .n, .n, .n, .n], .c 156 [.s, .n, .b], .c 34 [.s, .s, .n, .n, .c, .n, .n, .n, .n, .c, .n, .n, .n, .n]], [⟨.normal, [0, 2, 4, 5], [], [.c 34 [.s, .s, .n, .n, .c, .n, .n, .n, .n, .c, .n, .n, .n, .n], .c 156 [.s, .n, .b], .c 34 [.s, .s, .n, .n, .c, .n, .n, .n, .n, .c, .n, .n, .n, .n]], none⟩], none, none⟩
def gy (n : Nat) (x0 h0_0 h0_1 : Str) (h0_2 h0_3 h0_4 h0_5 h0_6 h0_7 h0_8 h0_9 h0_10 h0_11 h0_12 h0_13 : Int) (h1_0 : Str) (h1_1 : Int) (h1_2 : Bool) (h2_0 h2_1 : Str) (h2_2 h2_3 h2_4 h2_5 h2_6 h2_7 h2_8 h2_9 h2_10 h2_11 h2_12 h2_13 : Int) (R : Type) (K : W9 → Option R) : Option R := (kH n x0 h0_0 h0_1 h0_2 h0_3 h0_4 h0_5 h0_6 h0_7 h0_8 h0_9 h0_10 h0_11 h0_12 h0_13 h1_0 h1_1 h1_2 h2_0 h2_1 h2_2 h2_3 h2_4 h2_5 h2_6 h2_7 h2_8 h2_9 h2_10 h2_11 h2_12 h2_13).bind fun o248 => (cond o248.1 ((gM n o248.2.2.2.2.2.2.2.2.2.2.2.2.2.2.2.1 o248.2.2.2.2.2.2.2.2.2.2.2.2.2.2.2.2.1 o248.2.2.2.2.2.2.2.2.2.2.2.2.2.2.2.2.2.1).bind fun o249 => ((pM n o248.2.1 o248.2.2.1 o248.2.2.2.1 o248.2.2.2.2.1 o248.2.2.2.2.2.1 o248.2.2.2.2.2.2.1 o248.2.2.2.2.2.2.2.1 o248.2.2.2.2.2.2.2.2.1 o248.2.2.2.2.2.2.2.2.2.1 o248.2.2.2.2.2.2.2.2.2.2.1 o248.2.2.2.2.2.2.2.2.2.2.2.1 o248.2.2.2.2.2.2.2.2.2.2.2.2.1 o248.2.2.2.2.2.2.2.2.2.2.2.2.2.1 o248.2.2.2.2.2.2.2.2.2.2.2.2.2.2.1 o249.2.1 o249.2.2.1 o249.2.2.2 o248.2.2.2.2.2.2.2.2.2.2.2.2.2.2.2.2.2.2.1 o249.1 o248.2.2.2.2.2.2.2.2.2.2.2.2.2.2.2.2.2.2.2.2.1 (IntKind.i64.wrap (o248.2.2.2.2.2.2.2.2.2.2.2.2.2.2.2.2.2.2.2.2.1 + (3600 : Int))) o248.2.2.2.2.2.2.2.2.2.2.2.2.2.2.2.2.2.2.2.2.2.2.1 o248.2.2.2.2.2.2.2.2.2.2.2.2.2.2.2.2.2.2.2.2.2.2.2.1 o248.2.2.2.2.2.2.2.2.2.2.2.2.2.2.2.2.2.2.2.2.2.2.2.2.1 o248.2.2.2.2.2.2.2.2.2.2.2.2.2.2.2.2.2.2.2.2.2.2.2.2.2.1 o248.2.2.2.2.2.2.2.2.2.2.2.2.2.2.2.2.2.2.2.2.2.2.2.2.2.2.1 o248.2.2.2.2.2.2.2.2.2.2.2.2.2.2.2.2.2.2.2.2.2.2.2.2.2.2.2.1 o248.2.2.2.2.2.2.2.2.2.2.2.2.2.2.2.2.2.2.2.2.2.2.2.2.2.2.2.2.1 o248.2.2.2.2.2.2.2.2.2.2.2.2.2.2.2.2.2.2.2.2.2.2.2.2.2.2.2.2.2.1 o248.2.2.2.2.2.2.2.2.2.2.2.2.2.2.2.2.2.2.2.2.2.2.2.2.2.2.2.2.2.2.1 o248.2.2.2.2.2.2.2.2.2.2.2.2.2.2.2.2.2.2.2.2.2.2.2.2.2.2.2.2.2.2.2).bind fun o252 => ((bn n (44 : Int) o252.2.2.2.2.2.2.2.2.2.2.2.2.2.2.1 o252.2.2.2.2.2.2.2.2.2.2.2.2.2.2.2.1 o252.2.2.2.2.2.2.2.2.2.2.2.2.2.2.2.2.1).bind fun o253 => ((il n o253.1 o253.2.1 o253.2.2).bind fun o269 => ((bn n (44 : Int) o269.2.2.2.2.2.1 o269.2.2.2.2.2.2.1 o269.2.2.2.2.2.2.2).bind fun o270 => ((il n o270.1 o270.2.1 o270.2.2).bind fun o271 => (K (o252.1, o252.2.1, o252.2.2.1, o252.2.2.2.1, o252.2.2.2.2.1, o252.2.2.2.2.2.1, o252.2.2.2.2.2.2.1, o252.2.2.2.2.2.2.2.1, o252.2.2.2.2.2.2.2.2.1, o252.2.2.2.2.2.2.2.2.2.1, o252.2.2.2.2.2.2.2.2.2.2.1, o252.2.2.2.2.2.2.2.2.2.2.2.1, o252.2.2.2.2.2.2.2.2.2.2.2.2.1, o252.2.2.2.2.2.2.2.2.2.2.2.2.2.1, o271.2.2.2.2.2.1, o271.2.2.2.2.2.2.1, o271.2.2.2.2.2.2.2, o252.2.2.2.2.2.2.2.2.2.2.2.2.2.2.2.2.2.1, o252.2.2.2.2.2.2.2.2.2.2.2.2.2.2.2.2.2.2.1, o252.2.2.2.2.2.2.2.2.2.2.2.2.2.2.2.2.2.2.2.1, o252.2.2.2.2.2.2.2.2.2.2.2.2.2.2.2.2.2.2.2.2.1, o269.1, o269.2.1, o269.2.2.1, o269.2.2.2.1, o269.2.2.2.2.1, o271.1, o271.2.1, o271.2.2.1, o271.2.2.2.1, o271.2.2.2.2.1)))))))) (K (o248.2.1, o248.2.2.1, o248.2.2.2.1, o248.2.2.2.2.1, o248.2.2.2.2.2.1, o248.2.2.2.2.2.2.1, o248.2.2.2.2.2.2.2.1, o248.2.2.2.2.2.2.2.2.1, o248.2.2.2.2.2.2.2.2.2.1, o248.2.2.2.2.2.2.2.2.2.2.1, o248.2.2.2.2.2.2.2.2.2.2.2.1, o248.2.2.2.2.2.2.2.2.2.2.2.2.1, o248.2.2.2.2.2.2.2.2.2.2.2.2.2.1, o248.2.2.2.2.2.2.2.2.2.2.2.2.2.2.1, o248.2.2.2.2.2.2.2.2.2.2.2.2.2.2.2.1, o248.2.2.2.2.2.2.2.2.2.2.2.2.2.2.2.2.1, o248.2.2.2.2.2.2.2.2.2.2.2.2.2.2.2.2.2.1, o248.2.2.2.2.2.2.2.2.2.2.2.2.2.2.2.2.2.2.1, o248.2.2.2.2.2.2.2.2.2.2.2.2.2.2.2.2.2.2.2.1, o248.2.2.2.2.2.2.2.2.2.2.2.2.2.2.2.2.2.2.2.2.1, o248.2.2.2.2.2.2.2.2.2.2.2.2.2.2.2.2.2.2.2.2.2.1, o248.2.2.2.2.2.2.2.2.2.2.2.2.2.2.2.2.2.2.2.2.2.2.1, o248.2.2.2.2.2.2.2.2.2.2.2.2.2.2.2.2.2.2.2.2.2.2.2.1, o248.2.2.2.2.2.2.2.2.2.2.2.2.2.2.2.2.2.2.2.2.2.2.2.2.1, o248.2.2.2.2.2.2.2.2.2.2.2.2.2.2.2.2.2.2.2.2.2.2.2.2.2.1, o248.2.2.2.2.2.2.2.2.2.2.2.2.2.2.2.2.2.2.2.2.2.2.2.2.2.2.1, o248.2.2.2.2.2.2.2.2.2.2.2.2.2.2.2.2.2.2.2.2.2.2.2.2.2.2.2.1, o248.2.2.2.2.2.2.2.2.2.2.2.2.2.2.2.2.2.2.2.2.2.2.2.2.2.2.2.2.1, o248.2.2.2.2.2.2.2.2.2.2.2.2.2.2.2.2.2.2.2.2.2.2.2.2.2.2.2.2.2.1, o248.2.2.2.2.2.2.2.2.2.2.2.2.2.2.2.2.2.2.2.2.2.2.2.2.2.2.2.2.2.2.1, o248.2.2.2.2.2.2.2.2.2.2.2.2.2.2.2.2.2.2.2.2.2.2.2.2.2.2.2.2.2.2.2)))
def kI n x0 h0_0 h0_1 h0_2 h0_3 h0_4 h0_5 h0_6 h0_7 h0_8 h0_9 h0_10 h0_11 h0_12 h0_13 h1_0 h1_1 h1_2 h2_0 h2_1 h2_2 h2_3 h2_4 h2_5 h2_6 h2_7 h2_8 h2_9 h2_10 h2_11 h2_12 h2_13 := gy n x0 h0_0 h0_1 h0_2 h0_3 h0_4 h0_5 h0_6 h0_7 h0_8 h0_9 h0_10 h0_11 h0_12 h0_13 h1_0 h1_1 h1_2 h2_0 h2_1 h2_2 h2_3 h2_4 h2_5 h2_6 h2_7 h2_8 h2_9 h2_10 h2_11 h2_12 h2_13 _ some
def sF : PS := ⟨[2], [(0, .s), (4, .q 1 0), (5, .q 2 0)], some [.c 34 [.s, .s, .n, .n, .c, .n, .n, .n, .n, .c, .n, .n, .n, .n], .c 156 [.s, .n, .b], .c 34 [.s, .s, .n, .n, .c, .n, .n, .n, .n, .c, .n, .n, .n, .n]], [⟨.normal, [0, 2, 4, 5], [], [.c 34 [.s, .s, .n, .n, .c, .n, .n, .n, .n, .c, .n, .n, .n, .n], .c 156 [.s, .n, .b], .c 34 [.s, .s, .n, .n, .c, .n, .n, .n, .n, .c, .n, .n, .n, .n]], none⟩], none, none⟩
theorem Fh (n : Nat) : Snd ⟨Tryz.prog, 0, 78⟩ (sw.x (kH n)) (fb Tryz.f56 159) := iY (S := sw) (b := gu n) .a (acm (gu n) (by intros; unfold gu; simp only [ay])) trivial
theorem Fj (n : Nat) : Snd ⟨Tryz.prog, 0, 78⟩ (sD.x (pM n)) (fb Tryz.f56 2911) := iY (S := sD) (b := jv n) (.s (.r [(1, .cl 94 (fH n))]) (.s (.r [(1, .cl 93 (jc n))]) .a)) (acG (jv n) (by intros; unfold jv; simp only [ay])) (ai (ig n) (ai (lh n) trivial))
theorem Fp (n : Nat) : Snd ⟨Tryz.prog, 0, 78⟩ (sF.x (kI n)) (fb Tryz.f56 95) := iY (S := sF) (b := gy n) (.s (.p (sw.x (kH n))) (.s (.s (.r [(1, .cl 92 (oJ n))]) (.s .a (.s (.p (sD.x (pM n))) (.s (.r [(1, .cl 95 (dx n))]) (.s (.r [(1, .cl 96 (pX n))]) (.s (.r [(1, .cl 95 (dx n))]) (.r [(1, .cl 96 (pX n))]))))))) .a)) (acm (gy n) (by intros; unfold gy; simp only [ay])) (ai (Fh n) (ai (sV n) (ai (Fj n) (ai (dK n) (ai (uF n) (ai (dK n) (ai (uF n) trivial)))))))
def lQ (n : Nat) (a0 : Str) (R : Type) (K : (Str × Str × Int × Int × Int × Int × Int × Int × Int × Int × Int × Int × Int × Int × Bool) → Option R) : Option R := cond (decide ((a0.length : Int) > (100 : Int))) (K (([] : Str), ([] : Str), (0 : Int), (0 : Int), (0 : Int), (0 : Int), (0 : Int), (0 : Int), (0 : Int), (0 : Int), (0 : Int), (0 : Int), (0 : Int), (0 : Int), false)) ((gM n a0 (0 : Int) false).bind fun o231 => ((aJ n (24 : Int) o231.2.1 o231.2.2.1 o231.2.2.2).bind fun o247 => ((kI n a0 ([] : Str) ([] : Str) (0 : Int) (0 : Int) (0 : Int) (0 : Int) (0 : Int) (0 : Int) (0 : Int) (0 : Int) (0 : Int) (0 : Int) (0 : Int) (0 : Int) o247.2.1 o247.2.2.1 o247.2.2.2 o231.1 ([] : Str) (IntKind.i64.wrap (0 - o247.1)) (0 : Int) (0 : Int) (0 : Int) (0 : Int) (0 : Int) (0 : Int) (0 : Int) (0 : Int) (0 : Int) (0 : Int) (0 : Int)).bind fun o272 => (cond o272.2.2.2.2.2.2.2.2.2.2.2.2.2.2.2.2.1 (K (([] : Str), ([] : Str), (0 : Int), (0 : Int), (0 : Int), (0 : Int), (0 : Int), (0 : Int), (0 : Int), (0 : Int), (0 : Int), (0 : Int), (0 : Int), (0 : Int), false)) (cond (o272.2.2.2.2.2.2.2.2.2.2.2.2.2.2.2.1 != (a0.length : Int)) (K (([] : Str), ([] : Str), (0 : Int), (0 : Int), (0 : Int), (0 : Int), (0 : Int), (0 : Int), (0 : Int), (0 : Int), (0 : Int), (0 : Int), (0 : Int), (0 : Int), false)) ((jd n o272.2.2.2.2.2.2.2.2.2.2.2.2.2.2.2.2.2.1 o272.2.2.2.2.2.2.2.2.2.2.2.2.2.2.2.2.2.2.1 o272.2.2.2.2.2.2.2.2.2.2.2.2.2.2.2.2.2.2.2.1 o272.2.2.2.2.2.2.2.2.2.2.2.2.2.2.2.2.2.2.2.2.1 o272.2.2.2.2.2.2.2.2.2.2.2.2.2.2.2.2.2.2.2.2.2.1 o272.2.2.2.2.2.2.2.2.2.2.2.2.2.2.2.2.2.2.2.2.2.2.1 o272.2.2.2.2.2.2.2.2.2.2.2.2.2.2.2.2.2.2.2.2.2.2.2.1 o272.2.2.2.2.2.2.2.2.2.2.2.2.2.2.2.2.2.2.2.2.2.2.2.2.1 o272.2.2.2.2.2.2.2.2.2.2.2.2.2.2.2.2.2.2.2.2.2.2.2.2.2.1 o272.2.2.2.2.2.2.2.2.2.2.2.2.2.2.2.2.2.2.2.2.2.2.2.2.2.2.1 o272.2.2.2.2.2.2.2.2.2.2.2.2.2.2.2.2.2.2.2.2.2.2.2.2.2.2.2.1 o272.2.2.2.2.2.2.2.2.2.2.2.2.2.2.2.2.2.2.2.2.2.2.2.2.2.2.2.2.1 o272.2.2.2.2.2.2.2.2.2.2.2.2.2.2.2.2.2.2.2.2.2.2.2.2.2.2.2.2.2.1 o272.2.2.2.2.2.2.2.2.2.2.2.2.2.2.2.2.2.2.2.2.2.2.2.2.2.2.2.2.2.2).bind fun o281 => (cond (!o281) (K (([] : Str), ([] : Str), (0 : Int), (0 : Int), (0 : Int), (0 : Int), (0 : Int), (0 : Int), (0 : Int), (0 : Int), (0 : Int), (0 : Int), (0 : Int), (0 : Int), false)) (K (o272.2.2.2.2.2.2.2.2.2.2.2.2.2.2.2.2.2.1, o272.2.2.2.2.2.2.2.2.2.2.2.2.2.2.2.2.2.2.1, o272.2.2.2.2.2.2.2.2.2.2.2.2.2.2.2.2.2.2.2.1, o272.2.2.2.2.2.2.2.2.2.2.2.2.2.2.2.2.2.2.2.2.1, o272.2.2.2.2.2.2.2.2.2.2.2.2.2.2.2.2.2.2.2.2.2.1, o272.2.2.2.2.2.2.2.2.2.2.2.2.2.2.2.2.2.2.2.2.2.2.1, o272.2.2.2.2.2.2.2.2.2.2.2.2.2.2.2.2.2.2.2.2.2.2.2.1, o272.2.2.2.2.2.2.2.2.2.2.2.2.2.2.2.2.2.2.2.2.2.2.2.2.1, o272.2.2.2.2.2.2.2.2.2.2.2.2.2.2.2.2.2.2.2.2.2.2.2.2.2.1, o272.2.2.2.2.2.2.2.2.2.2.2.2.2.2.2.2.2.2.2.2.2.2.2.2.2.2.1, o272.2.2.2.2.2.2.2.2.2.2.2.2.2.2.2.2.2.2.2.2.2.2.2.2.2.2.2.1, o272.2.2.2.2.2.2.2.2.2.2.2.2.2.2.2.2.2.2.2.2.2.2.2.2.2.2.2.2.1, o272.2.2.2.2.2.2.2.2.2.2.2.2.2.2.2.2.2.2.2.2.2.2.2.2.2.2.2.2.2.1, o272.2.2.2.2.2.2.2.2.2.2.2.2.2.2.2.2.2.2.2.2.2.2.2.2.2.2.2.2.2.2, true)))))))))
def qz n a0 := lQ n a0 _ some
def BN : FS := ⟨[.s], [], [([.a [.s, .s, .n, .n, .c, .n, .n, .n, .n, .c, .n, .n, .n, .n], .b], [])]⟩
def Aj (n : Nat) : FSpec := BN.sp (qz n)
theorem Gq (n : Nat) : FSound Tryz.prog 56 (Aj n) := fs2 (S := BN) (b := lQ n) Tryz.func56 rfl rfl [.cell 2 34 14 true, .tmp 3] (.s .a (.s .a (.s .a (.s (.r [(1, .cl 92 (oJ n))]) (.s (.r [(1, .cl 93 (jc n))]) (.s (.p (sF.x (kI n))) (.s (.s (.r [(15, .cl 69 (uZ n))]) .a) .a))))))) (nt1 (lQ n) (by intros; unfold lQ; simp only [ay])) (ai (sV n) (ai (lh n) (ai (Fp n) (ai (xR n) trivial))))
def kJ (n : Nat) (a0 : List (List AV)) (a1 a2 : List Int) (a3 : Str) (R : Type) (K : ((List (List AV)) × (List Int) × (List Int) × Str × Str × Str × Int × Int × Int × Int × Int × Int × Int × Int × Int × Int × Int × Int × Bool × Int) → Option R) : Option R := (lI n a0 a1 a2 a3).bind fun o205 => (cond (!o205) (K (([] : List (List AV)), ([] : List Int), ([] : List Int), ([] : Str), ([] : Str), ([] : Str), (0 : Int), (0 : Int), (0 : Int), (0 : Int), (0 : Int), (0 : Int), (0 : Int), (0 : Int), (0 : Int), (0 : Int), (0 : Int), (0 : Int), false, (2 : Int))) (cond (a3 == ([] : Str)) (K (a0, a1, a2, a3, ([] : Str), ([] : Str), (0 : Int), (0 : Int), (0 : Int), (0 : Int), (0 : Int), (0 : Int), (0 : Int), (0 : Int), (0 : Int), (0 : Int), (0 : Int), (0 : Int), false, (0 : Int))) ((qz n a3).bind fun o282 => (cond (!o282.2.2.2.2.2.2.2.2.2.2.2.2.2.2) (K (([] : List (List AV)), ([] : List Int), ([] : List Int), ([] : Str), ([] : Str), ([] : Str), (0 : Int), (0 : Int), (0 : Int), (0 : Int), (0 : Int), (0 : Int), (0 : Int), (0 : Int), (0 : Int), (0 : Int), (0 : Int), (0 : Int), false, (70 : Int))) (K (a0, a1, a2, a3, o282.1, o282.2.1, o282.2.2.1, o282.2.2.2.1, o282.2.2.2.2.1, o282.2.2.2.2.2.1, o282.2.2.2.2.2.2.1, o282.2.2.2.2.2.2.2.1, o282.2.2.2.2.2.2.2.2.1, o282.2.2.2.2.2.2.2.2.2.1, o282.2.2.2.2.2.2.2.2.2.2.1, o282.2.2.2.2.2.2.2.2.2.2.2.1, o282.2.2.2.2.2.2.2.2.2.2.2.2.1, o282.2.2.2.2.2.2.2.2.2.2.2.2.2.1, true, (0 : Int)))))))
def fJ n a0 a1 a2 a3 := kJ n a0 a1 a2 a3 _ some
def DT : FS := ⟨[.a [.L false 3, .l .i64, .l .i64, .s]], [], [([.a [.L false 3, .l .i64, .l .i64, .s, .s, .s, .n, .n, .c, .n, .n, .n, .n, .c, .n, .n, .n, .n, .b, .x (.bool false)], .n], [])]⟩
def Cv (n : Nat) : FSpec := DT.sp (fJ n)
theorem H7 (n : Nat) : FSound Tryz.prog 28 (Cv n) := fs2 (S := DT) (b := kJ n) Tryz.func28 rfl rfl [.cell 2 36 20 true, .tmp 3] (.s .a (.s (.s (.r [(1, .cl 55 (uV n))]) (.s (.s (.r [(1, .tk [9])]) .a) .a)) (.s .a (.s (.r [(2, .cl 56 (Aj n)), (5, .tk [15])]) (.s (.s .a (.s (.s (.r [(1, .tk [23])]) .a) .a)) .a))))) (nt4 (kJ n) (by intros; unfold kJ; simp only [ay])) (ai (xP n) (ai (Gq n) trivial))
def BO (n : Nat) (a0 a1 : Int) (R : Type) (K : Int → Option R) : Option R := cond (a1 == 0) none (cond (decide ((Int.tmod a0 a1) < (0 : Int))) (cond (a1 == 0) none (K (IntKind.i64.wrap ((IntKind.i64.wrap (Int.tdiv a0 a1)) - (1 : Int))))) (cond (a1 == 0) none (K (IntKind.i64.wrap (Int.tdiv a0 a1)))))
def qA n a0 a1 := BO n a0 a1 _ some
def Nj : FS := ⟨[.n, .n], [], [([.n], [])]⟩
def uq (n : Nat) : FSpec := Nj.sp (qA n)
theorem qJ (n : Nat) : FSound Tryz.prog 39 (uq n) := fs2 (S := Nj) (b := BO n) Tryz.func39 rfl rfl [.tmp 4] .a (nt2 (BO n) (by intros; unfold BO; simp only [ay])) trivial
def nW (n : Nat) (a0 : Int) (R : Type) (K : Unit → Option R) : Option R := K ()
def kw n a0 := nW n a0 _ some
def Gr : FS := ⟨[.x (.ptr none), .n], [], [([.x (.int .i64 (0 : Int))], [])]⟩
def qc (n : Nat) : FSpec := Gr.sp (kw n)
theorem qB (n : Nat) : FSound Tryz.prog 12 (qc n) := fs2 (S := Gr) (b := nW n) Tryz.func12 rfl rfl [.tmp 4] (.s .a (.s .a (.s .a (.s .a (.s (.s (.p Hy) (.s (.s (.d [] [(0, .no), (3, .no), (5, .no), (6, .no)]) .a) .a)) (.s (.d [] [(0, .no), (5, .no), (6, .no), (10, .no), (11, .no), (15, .no)]) .a)))))) (nt1 (nW n) (by intros; unfold nW; simp only [ay])) (ai (yA (c := ⟨Tryz.prog, 0, 52⟩) (cd := (Tryz.f12.body.getD .skip).a2.a2.a2.a2.a1.a1)) trivial)
def BP (n : Nat) (a0 : Int) (R : Type) (K : Int → Option R) : Option R := K (Int.fdiv (IntKind.u64.wrap a0) (2 ^ 63))
def BQ n a0 := BP n a0 _ some
def Nk : FS := ⟨[.n], [], [([.i .u64], [])]⟩
def H8 (n : Nat) : FSpec := Nk.sp (BQ n)
theorem IL (n : Nat) : FSound Tryz.prog 75 (H8 n) := fs2 (S := Nk) (b := BP n) Tryz.func75 rfl rfl [.tmp 2] .a (nt1 (BP n) (by intros; unfold BP; simp only [ay])) trivial
def wW (n : Nat) (x0 x1 : Int) (R : Type) (K : (Bool) → Option R) : Option R := cond (x1 == (0 : Int)) (K true) (cond (x1 == (-1 : Int)) (K (x0 == (-9223372036854775808 : Int))) (K false))
def DU n x0 x1 := wW n x0 x1 _ some
def H9 : PS := ⟨[], [(0, .n), (1, .n)], none, [⟨.normal, [0, 1], [(16, .b)], [], none⟩], none, none⟩
def wX (n : Nat) (x1 x5 : Int) (R : Type) (K : (Bool) → Option R) : Option R := cond (x5 != (0 : Int)) ((BQ n x5).bind fun o296 => ((BQ n x1).bind fun o297 => (K (o296 != o297)))) (K false)
def DV n x1 x5 := wX n x1 x5 _ some
def Ia : PS := ⟨[4], [(1, .n), (5, .n)], none, [⟨.normal, [1, 4, 5], [(31, .b)], [], none⟩], none, none⟩
theorem OX (n : Nat) : Snd ⟨Tryz.prog, 0, 39⟩ (H9.x (DU n)) (fb Tryz.f40 9) := iY (S := H9) (b := wW n) .a (nt2 (wW n) (by intros; unfold wW; simp only [ay])) trivial
theorem OY (n : Nat) : Snd ⟨Tryz.prog, 0, 39⟩ (Ia.x (DV n)) (fb Tryz.f40 39) := iY (S := Ia) (b := wX n) (.r [(4, .cl 75 (H8 n)), (6, .cl 75 (H8 n))]) (nt2 (wX n) (by intros; unfold wX; simp only [ay])) (ai (IL n) (ai (IL n) trivial))
def CY (n : Nat) (a0 a1 : Int) (R : Type) (K : (Int × Int × Bool) → Option R) : Option R := (DU n a0 a1).bind fun o295 => (cond o295 (K ((0 : Int), (0 : Int), false)) (cond (a1 == 0) none (cond (a1 == 0) none ((DV n a1 (Int.tmod a0 a1)).bind fun o298 => (cond o298 (K (IntKind.i64.wrap ((IntKind.i64.wrap (Int.tdiv a0 a1)) - (1 : Int)), IntKind.i64.wrap ((Int.tmod a0 a1) + a1), true)) (K (IntKind.i64.wrap (Int.tdiv a0 a1), Int.tmod a0 a1, true)))))))
def zP n a0 a1 := CY n a0 a1 _ some
def Qh : FS := ⟨[.n, .n], [], [([.n, .n, .b], [])]⟩
def Ku (n : Nat) : FSpec := Qh.sp (zP n)
theorem Kv (n : Nat) : FSound Tryz.prog 40 (Ku n) := fs2 (S := Qh) (b := CY n) Tryz.func40 rfl rfl [.tmp 4, .tmp 5, .tmp 6] (.s .a (.s (.s (.p (H9.x (DU n))) .a) (.s .a (.s (.s (.p (Ia.x (DV n))) .a) .a)))) (nt2 (CY n) (by intros; unfold CY; simp only [ay])) (ai (OX n) (ai (OY n) trivial))
def xS (n : Nat) (a0 : Int) (R : Type) (K : Int → Option R) : Option R := K (IntKind.i64.wrap (Int.tdiv (IntKind.i64.wrap ((IntKind.i64.wrap ((153 : Int) * (Int.tmod (IntKind.i64.wrap (a0 + (9 : Int))) (12 : Int)))) + (2 : Int))) (5 : Int)))
def Gs n a0 := xS n a0 _ some
def Kw : FS := ⟨[.n], [], [([.n], [])]⟩
def JM (n : Nat) : FSpec := Kw.sp (Gs n)
theorem Mm (n : Nat) : FSound Tryz.prog 110 (JM n) := fs2 (S := Kw) (b := xS n) Tryz.func110 rfl rfl [.tmp 2] .a (nt1 (xS n) (by intros; unfold xS; simp only [ay])) trivial
def wL (n : Nat) (x3 h0_0 h0_1 h0_2 : Int) (R : Type) (K : (Int × Int × Int × Int) → Option R) : Option R := cond (decide (h0_1 ≤ (2 : Int))) (K (IntKind.i64.wrap (x3 - (1 : Int)), h0_0, h0_1, h0_2)) (K (x3, h0_0, h0_1, h0_2))
def Dq n x3 h0_0 h0_1 h0_2 := wL n x3 h0_0 h0_1 h0_2 _ some
def Eu : PS := ⟨[], [(1, .q 0 0), (3, .n)], some [.c 45 [.n, .n, .n]], [⟨.normal, [1], [(3, .n)], [.c 45 [.n, .n, .n]], none⟩], none, none⟩
theorem Nl (n : Nat) : Snd ⟨Tryz.prog, 0, 37⟩ (Eu.x (Dq n)) (fb Tryz.f76 11) := iY (S := Eu) (b := wL n) .a (nt4 (wL n) (by intros; unfold wL; simp only [ay])) trivial
def BR (n : Nat) (a0 a1 a2 : Int) (R : Type) (K : Int → Option R) : Option R := (Dq n a0 a0 a1 a2).bind fun o300 => ((Gs n o300.2.2.1).bind fun o301 => (K (IntKind.i64.wrap ((IntKind.i64.wrap ((IntKind.i64.wrap ((IntKind.i64.wrap ((IntKind.i64.wrap ((IntKind.i64.wrap ((IntKind.i64.wrap (Int.tdiv o300.1 (400 : Int))) * (146097 : Int))) + (IntKind.i64.wrap ((IntKind.i64.wrap ((IntKind.i64.wrap ((Int.tmod o300.1 (400 : Int)) * (365 : Int))) + (IntKind.i64.wrap (Int.tdiv (Int.tmod o300.1 (400 : Int)) (4 : Int))))) - (IntKind.i64.wrap (Int.tdiv (Int.tmod o300.1 (400 : Int)) (100 : Int))))))) + o301)) + o300.2.2.2)) - (1 : Int))) - (719468 : Int)))))
def vQ n a0 a1 a2 := BR n a0 a1 a2 _ some
def Nn : FS := ⟨[.a [.n, .n, .n]], [], [([.n], [])]⟩
def zk (n : Nat) : FSpec := Nn.sp (vQ n)
theorem yD (n : Nat) : FSound Tryz.prog 76 (zk n) := fs2 (S := Nn) (b := BR n) Tryz.func76 rfl rfl [.tmp 2] (.s .a (.s .a (.s (.p (Eu.x (Dq n))) (.s .a (.s (.d [(7, .cl 110 (JM n))] [(5, .peek [0] [0]), (6, .peek [0] [0]), (7, .part []), (9, .peek [0] [0]), (10, .peek [0] [0])]) .a))))) (nt3 (BR n) (by intros; unfold BR; simp only [ay])) (ai (Nl n) (ai (Mm n) trivial))
def wY (n : Nat) (x0 : Int) (R : Type) (K : (Bool) → Option R) : Option R := (vQ n (1 : Int) (1 : Int) (1 : Int)).bind fun o302 => (cond (decide (x0 < o302)) (K true) ((vQ n (9999 : Int) (12 : Int) (31 : Int)).bind fun o303 => (K (decide (x0 > o303)))))
def DW n x0 := wY n x0 _ some
def Ib : PS := ⟨[2], [(0, .n)], none, [⟨.normal, [0, 2], [(18, .b)], [], none⟩], none, none⟩
theorem OZ (n : Nat) : Snd ⟨Tryz.prog, 0, 74⟩ (Ib.x (DW n)) (fb Tryz.f41 9) := iY (S := Ib) (b := wY n) (.r [(2, .cl 76 (zk n)), (7, .cl 76 (zk n))]) (nt1 (wY n) (by intros; unfold wY; simp only [ay])) (ai (yD n) (ai (yD n) trivial))
def CZ (n : Nat) (a0 : Int) (R : Type) (K : (Int × Int × Int × Int) → Option R) : Option R := (DW n a0).bind fun o304 => (cond o304 (K ((0 : Int), (0 : Int), (0 : Int), (6 : Int))) (cond (decide ((IntKind.i64.wrap ((Int.tmod (IntKind.i64.wrap ((IntKind.i64.wrap (Int.tdiv (IntKind.i64.wrap ((IntKind.i64.wrap ((5 : Int) * (IntKind.i64.wrap ((Int.tmod (IntKind.i64.wrap (a0 + (719468 : Int))) (146097 : Int)) - (IntKind.i64.wrap ((IntKind.i64.wrap ((IntKind.i64.wrap ((365 : Int) * (IntKind.i64.wrap (Int.tdiv (IntKind.i64.wrap ((IntKind.i64.wrap ((IntKind.i64.wrap ((Int.tmod (IntKind.i64.wrap (a0 + (719468 : Int))) (146097 : Int)) - (IntKind.i64.wrap (Int.tdiv (Int.tmod (IntKind.i64.wrap (a0 + (719468 : Int))) (146097 : Int)) (1460 : Int))))) + (IntKind.i64.wrap (Int.tdiv (Int.tmod (IntKind.i64.wrap (a0 + (719468 : Int))) (146097 : Int)) (36524 : Int))))) - (IntKind.i64.wrap (Int.tdiv (Int.tmod (IntKind.i64.wrap (a0 + (719468 : Int))) (146097 : Int)) (146096 : Int))))) (365 : Int))))) + (IntKind.i64.wrap (Int.tdiv (IntKind.i64.wrap (Int.tdiv (IntKind.i64.wrap ((IntKind.i64.wrap ((IntKind.i64.wrap ((Int.tmod (IntKind.i64.wrap (a0 + (719468 : Int))) (146097 : Int)) - (IntKind.i64.wrap (Int.tdiv (Int.tmod (IntKind.i64.wrap (a0 + (719468 : Int))) (146097 : Int)) (1460 : Int))))) + (IntKind.i64.wrap (Int.tdiv (Int.tmod (IntKind.i64.wrap (a0 + (719468 : Int))) (146097 : Int)) (36524 : Int))))) - (IntKind.i64.wrap (Int.tdiv (Int.tmod (IntKind.i64.wrap (a0 + (719468 : Int))) (146097 : Int)) (146096 : Int))))) (365 : Int))) (4 : Int))))) - (IntKind.i64.wrap (Int.tdiv (IntKind.i64.wrap (Int.tdiv (IntKind.i64.wrap ((IntKind.i64.wrap ((IntKind.i64.wrap ((Int.tmod (IntKind.i64.wrap (a0 + (719468 : Int))) (146097 : Int)) - (IntKind.i64.wrap (Int.tdiv (Int.tmod (IntKind.i64.wrap (a0 + (719468 : Int))) (146097 : Int)) (1460 : Int))))) + (IntKind.i64.wrap (Int.tdiv (Int.tmod (IntKind.i64.wrap (a0 + (719468 : Int))) (146097 : Int)) (36524 : Int))))) - (IntKind.i64.wrap (Int.tdiv (Int.tmod (IntKind.i64.wrap (a0 + (719468 : Int))) (146097 : Int)) (146096 : Int))))) (365 : Int))) (100 : Int))))))))) + (2 : Int))) (153 : Int))) + (2 : Int))) (12 : Int)) + (1 : Int))) ≤ (2 : Int))) (K (IntKind.i64.wrap ((IntKind.i64.wrap ((IntKind.i64.wrap ((IntKind.i64.wrap (Int.tdiv (IntKind.i64.wrap (a0 + (719468 : Int))) (146097 : Int))) * (400 : Int))) + (IntKind.i64.wrap (Int.tdiv (IntKind.i64.wrap ((IntKind.i64.wrap ((IntKind.i64.wrap ((Int.tmod (IntKind.i64.wrap (a0 + (719468 : Int))) (146097 : Int)) - (IntKind.i64.wrap (Int.tdiv (Int.tmod (IntKind.i64.wrap (a0 + (719468 : Int))) (146097 : Int)) (1460 : Int))))) + (IntKind.i64.wrap (Int.tdiv (Int.tmod (IntKind.i64.wrap (a0 + (719468 : Int))) (146097 : Int)) (36524 : Int))))) - (IntKind.i64.wrap (Int.tdiv (Int.tmod (IntKind.i64.wrap (a0 + (719468 : Int))) (146097 : Int)) (146096 : Int))))) (365 : Int))))) + (1 : Int)), IntKind.i64.wrap ((Int.tmod (IntKind.i64.wrap ((IntKind.i64.wrap (Int.tdiv (IntKind.i64.wrap ((IntKind.i64.wrap ((5 : Int) * (IntKind.i64.wrap ((Int.tmod (IntKind.i64.wrap (a0 + (719468 : Int))) (146097 : Int)) - (IntKind.i64.wrap ((IntKind.i64.wrap ((IntKind.i64.wrap ((365 : Int) * (IntKind.i64.wrap (Int.tdiv (IntKind.i64.wrap ((IntKind.i64.wrap ((IntKind.i64.wrap ((Int.tmod (IntKind.i64.wrap (a0 + (719468 : Int))) (146097 : Int)) - (IntKind.i64.wrap (Int.tdiv (Int.tmod (IntKind.i64.wrap (a0 + (719468 : Int))) (146097 : Int)) (1460 : Int))))) + (IntKind.i64.wrap (Int.tdiv (Int.tmod (IntKind.i64.wrap (a0 + (719468 : Int))) (146097 : Int)) (36524 : Int))))) - (IntKind.i64.wrap (Int.tdiv (Int.tmod (IntKind.i64.wrap (a0 + (719468 : Int))) (146097 : Int)) (146096 : Int))))) (365 : Int))))) + (IntKind.i64.wrap (Int.tdiv (IntKind.i64.wrap (Int.tdiv (IntKind.i64.wrap ((IntKind.i64.wrap ((IntKind.i64.wrap ((Int.tmod (IntKind.i64.wrap (a0 + (719468 : Int))) (146097 : Int)) - (IntKind.i64.wrap (Int.tdiv (Int.tmod (IntKind.i64.wrap (a0 + (719468 : Int))) (146097 : Int)) (1460 : Int))))) + (IntKind.i64.wrap (Int.tdiv (Int.tmod (IntKind.i64.wrap (a0 + (719468 : Int))) (146097 : Int)) (36524 : Int))))) - (IntKind.i64.wrap (Int.tdiv (Int.tmod (IntKind.i64.wrap (a0 + (719468 : Int))) (146097 : Int)) (146096 : Int))))) (365 : Int))) (4 : Int))))) - (IntKind.i64.wrap (Int.tdiv (IntKind.i64.wrap (Int.tdiv (IntKind.i64.wrap ((IntKind.i64.wrap ((IntKind.i64.wrap ((Int.tmod (IntKind.i64.wrap (a0 + (719468 : Int))) (146097 : Int)) - (IntKind.i64.wrap (Int.tdiv (Int.tmod (IntKind.i64.wrap (a0 + (719468 : Int))) (146097 : Int)) (1460 : Int))))) + (IntKind.i64.wrap (Int.tdiv (Int.tmod (IntKind.i64.wrap (a0 + (719468 : Int))) (146097 : Int)) (36524 : Int))))) - (IntKind.i64.wrap (Int.tdiv (Int.tmod (IntKind.i64.wrap (a0 + (719468 : Int))) (146097 : Int)) (146096 : Int))))) (365 : Int))) (100 : Int))))))))) + (2 : Int))) (153 : Int))) + (2 : Int))) (12 : Int)) + (1 : Int)), IntKind.i64.wrap ((IntKind.i64.wrap ((IntKind.i64.wrap ((Int.tmod (IntKind.i64.wrap (a0 + (719468 : Int))) (146097 : Int)) - (IntKind.i64.wrap ((IntKind.i64.wrap ((IntKind.i64.wrap ((365 : Int) * (IntKind.i64.wrap (Int.tdiv (IntKind.i64.wrap ((IntKind.i64.wrap ((IntKind.i64.wrap ((Int.tmod (IntKind.i64.wrap (a0 + (719468 : Int))) (146097 : Int)) - (IntKind.i64.wrap (Int.tdiv (Int.tmod (IntKind.i64.wrap (a0 + (719468 : Int))) (146097 : Int)) (1460 : Int))))) + (IntKind.i64.wrap (Int.tdiv (Int.tmod (IntKind.i64.wrap (a0 + (719468 : Int))) (146097 : Int)) (36524 : Int))))) - (IntKind.i64.wrap (Int.tdiv (Int.tmod (IntKind.i64.wrap (a0 + (719468 : Int))) (146097 : Int)) (146096 : Int))))) (365 : Int))))) + (IntKind.i64.wrap (Int.tdiv (IntKind.i64.wrap (Int.tdiv (IntKind.i64.wrap ((IntKind.i64.wrap ((IntKind.i64.wrap ((Int.tmod (IntKind.i64.wrap (a0 + (719468 : Int))) (146097 : Int)) - (IntKind.i64.wrap (Int.tdiv (Int.tmod (IntKind.i64.wrap (a0 + (719468 : Int))) (146097 : Int)) (1460 : Int))))) + (IntKind.i64.wrap (Int.tdiv (Int.tmod (IntKind.i64.wrap (a0 + (719468 : Int))) (146097 : Int)) (36524 : Int))))) - (IntKind.i64.wrap (Int.tdiv (Int.tmod (IntKind.i64.wrap (a0 + (719468 : Int))) (146097 : Int)) (146096 : Int))))) (365 : Int))) (4 : Int))))) - (IntKind.i64.wrap (Int.tdiv (IntKind.i64.wrap (Int.tdiv (IntKind.i64.wrap ((IntKind.i64.wrap ((IntKind.i64.wrap ((Int.tmod (IntKind.i64.wrap (a0 + (719468 : Int))) (146097 : Int)) - (IntKind.i64.wrap (Int.tdiv (Int.tmod (IntKind.i64.wrap (a0 + (719468 : Int))) (146097 : Int)) (1460 : Int))))) + (IntKind.i64.wrap (Int.tdiv (Int.tmod (IntKind.i64.wrap (a0 + (719468 : Int))) (146097 : Int)) (36524 : Int))))) - (IntKind.i64.wrap (Int.tdiv (Int.tmod (IntKind.i64.wrap (a0 + (719468 : Int))) (146097 : Int)) (146096 : Int))))) (365 : Int))) (100 : Int))))))) - (IntKind.i64.wrap (Int.tdiv (IntKind.i64.wrap ((IntKind.i64.wrap ((153 : Int) * (IntKind.i64.wrap (Int.tdiv (IntKind.i64.wrap ((IntKind.i64.wrap ((5 : Int) * (IntKind.i64.wrap ((Int.tmod (IntKind.i64.wrap (a0 + (719468 : Int))) (146097 : Int)) - (IntKind.i64.wrap ((IntKind.i64.wrap ((IntKind.i64.wrap ((365 : Int) * (IntKind.i64.wrap (Int.tdiv (IntKind.i64.wrap ((IntKind.i64.wrap ((IntKind.i64.wrap ((Int.tmod (IntKind.i64.wrap (a0 + (719468 : Int))) (146097 : Int)) - (IntKind.i64.wrap (Int.tdiv (Int.tmod (IntKind.i64.wrap (a0 + (719468 : Int))) (146097 : Int)) (1460 : Int))))) + (IntKind.i64.wrap (Int.tdiv (Int.tmod (IntKind.i64.wrap (a0 + (719468 : Int))) (146097 : Int)) (36524 : Int))))) - (IntKind.i64.wrap (Int.tdiv (Int.tmod (IntKind.i64.wrap (a0 + (719468 : Int))) (146097 : Int)) (146096 : Int))))) (365 : Int))))) + (IntKind.i64.wrap (Int.tdiv (IntKind.i64.wrap (Int.tdiv (IntKind.i64.wrap ((IntKind.i64.wrap ((IntKind.i64.wrap ((Int.tmod (IntKind.i64.wrap (a0 + (719468 : Int))) (146097 : Int)) - (IntKind.i64.wrap (Int.tdiv (Int.tmod (IntKind.i64.wrap (a0 + (719468 : Int))) (146097 : Int)) (1460 : Int))))) + (IntKind.i64.wrap (Int.tdiv (Int.tmod (IntKind.i64.wrap (a0 + (719468 : Int))) (146097 : Int)) (36524 : Int))))) - (IntKind.i64.wrap (Int.tdiv (Int.tmod (IntKind.i64.wrap (a0 + (719468 : Int))) (146097 : Int)) (146096 : Int))))) (365 : Int))) (4 : Int))))) - (IntKind.i64.wrap (Int.tdiv (IntKind.i64.wrap (Int.tdiv (IntKind.i64.wrap ((IntKind.i64.wrap ((IntKind.i64.wrap ((Int.tmod (IntKind.i64.wrap (a0 + (719468 : Int))) (146097 : Int)) - (IntKind.i64.wrap (Int.tdiv (Int.tmod (IntKind.i64.wrap (a0 + (719468 : Int))) (146097 : Int)) (1460 : Int))))) + (IntKind.i64.wrap (Int.tdiv (Int.tmod (IntKind.i64.wrap (a0 + (719468 : Int))) (146097 : Int)) (36524 : Int))))) - (IntKind.i64.wrap (Int.tdiv (Int.tmod (IntKind.i64.wrap (a0 + (719468 : Int))) (146097 : Int)) (146096 : Int))))) (365 : Int))) (100 : Int))))))))) + (2 : Int))) (153 : Int))))) + (2 : Int))) (5 : Int))))) + (1 : Int)), (0 : Int))) (K (IntKind.i64.wrap ((IntKind.i64.wrap ((IntKind.i64.wrap (Int.tdiv (IntKind.i64.wrap (a0 + (719468 : Int))) (146097 : Int))) * (400 : Int))) + (IntKind.i64.wrap (Int.tdiv (IntKind.i64.wrap ((IntKind.i64.wrap ((IntKind.i64.wrap ((Int.tmod (IntKind.i64.wrap (a0 + (719468 : Int))) (146097 : Int)) - (IntKind.i64.wrap (Int.tdiv (Int.tmod (IntKind.i64.wrap (a0 + (719468 : Int))) (146097 : Int)) (1460 : Int))))) + (IntKind.i64.wrap (Int.tdiv (Int.tmod (IntKind.i64.wrap (a0 + (719468 : Int))) (146097 : Int)) (36524 : Int))))) - (IntKind.i64.wrap (Int.tdiv (Int.tmod (IntKind.i64.wrap (a0 + (719468 : Int))) (146097 : Int)) (146096 : Int))))) (365 : Int)))), IntKind.i64.wrap ((Int.tmod (IntKind.i64.wrap ((IntKind.i64.wrap (Int.tdiv (IntKind.i64.wrap ((IntKind.i64.wrap ((5 : Int) * (IntKind.i64.wrap ((Int.tmod (IntKind.i64.wrap (a0 + (719468 : Int))) (146097 : Int)) - (IntKind.i64.wrap ((IntKind.i64.wrap ((IntKind.i64.wrap ((365 : Int) * (IntKind.i64.wrap (Int.tdiv (IntKind.i64.wrap ((IntKind.i64.wrap ((IntKind.i64.wrap ((Int.tmod (IntKind.i64.wrap (a0 + (719468 : Int))) (146097 : Int)) - (IntKind.i64.wrap (Int.tdiv (Int.tmod (IntKind.i64.wrap (a0 + (719468 : Int))) (146097 : Int)) (1460 : Int))))) + (IntKind.i64.wrap (Int.tdiv (Int.tmod (IntKind.i64.wrap (a0 + (719468 : Int))) (146097 : Int)) (36524 : Int))))) - (IntKind.i64.wrap (Int.tdiv (Int.tmod (IntKind.i64.wrap (a0 + (719468 : Int))) (146097 : Int)) (146096 : Int))))) (365 : Int))))) + (IntKind.i64.wrap (Int.tdiv (IntKind.i64.wrap (Int.tdiv (IntKind.i64.wrap ((IntKind.i64.wrap ((IntKind.i64.wrap ((Int.tmod (IntKind.i64.wrap (a0 + (719468 : Int))) (146097 : Int)) - (IntKind.i64.wrap (Int.tdiv (Int.tmod (IntKind.i64.wrap (a0 + (719468 : Int))) (146097 : Int)) (1460 : Int))))) + (IntKind.i64.wrap (Int.tdiv (Int.tmod (IntKind.i64.wrap (a0 + (719468 : Int))) (146097 : Int)) (36524 : Int))))) - (IntKind.i64.wrap (Int.tdiv (Int.tmod (IntKind.i64.wrap (a0 + (719468 : Int))) (146097 : Int)) (146096 : Int))))) (365 : Int))) (4 : Int))))) - (IntKind.i64.wrap (Int.tdiv (IntKind.i64.wrap (Int.tdiv (IntKind.i64.wrap ((IntKind.i64.wrap ((IntKind.i64.wrap ((Int.tmod (IntKind.i64.wrap (a0 + (719468 : Int))) (146097 : Int)) - (IntKind.i64.wrap (Int.tdiv (Int.tmod (IntKind.i64.wrap (a0 + (719468 : Int))) (146097 : Int)) (1460 : Int))))) + (IntKind.i64.wrap (Int.tdiv (Int.tmod (IntKind.i64.wrap (a0 + (719468 : Int))) (146097 : Int)) (36524 : Int))))) - (IntKind.i64.wrap (Int.tdiv (Int.tmod (IntKind.i64.wrap (a0 + (719468 : Int))) (146097 : Int)) (146096 : Int))))) (365 : Int))) (100 : Int))))))))) + (2 : Int))) (153 : Int))) + (2 : Int))) (12 : Int)) + (1 : Int)), IntKind.i64.wrap ((IntKind.i64.wrap ((IntKind.i64.wrap ((Int.tmod (IntKind.i64.wrap (a0 + (719468 : Int))) (146097 : Int)) - (IntKind.i64.wrap ((IntKind.i64.wrap ((IntKind.i64.wrap ((365 : Int) * (IntKind.i64.wrap (Int.tdiv (IntKind.i64.wrap ((IntKind.i64.wrap ((IntKind.i64.wrap ((Int.tmod (IntKind.i64.wrap (a0 + (719468 : Int))) (146097 : Int)) - (IntKind.i64.wrap (Int.tdiv (Int.tmod (IntKind.i64.wrap (a0 + (719468 : Int))) (146097 : Int)) (1460 : Int))))) + (IntKind.i64.wrap (Int.tdiv (Int.tmod (IntKind.i64.wrap (a0 + (719468 : Int))) (146097 : Int)) (36524 : Int))))) - (IntKind.i64.wrap (Int.tdiv (Int.tmod (IntKind.i64.wrap (a0 + (719468 : Int))) (146097 : Int)) (146096 : Int))))) (365 : Int))))) + (IntKind.i64.wrap (Int.tdiv (IntKind.i64.wrap (Int.tdiv (IntKind.i64.wrap ((IntKind.i64.wrap ((IntKind.i64.wrap ((Int.tmod (IntKind.i64.wrap (a0 + (719468 : Int))) (146097 : Int)) - (IntKind.i64.wrap (Int.tdiv (Int.tmod (IntKind.i64.wrap (a0 + (719468 : Int))) (146097 : Int)) (1460 : Int))))) + (IntKind.i64.wrap (Int.tdiv (Int.tmod (IntKind.i64.wrap (a0 + (719468 : Int))) (146097 : Int)) (36524 : Int))))) - (IntKind.i64.wrap (Int.tdiv (Int.tmod (IntKind.i64.wrap (a0 + (719468 : Int))) (146097 : Int)) (146096 : Int))))) (365 : Int))) (4 : Int))))) - (IntKind.i64.wrap (Int.tdiv (IntKind.i64.wrap (Int.tdiv (IntKind.i64.wrap ((IntKind.i64.wrap ((IntKind.i64.wrap ((Int.tmod (IntKind.i64.wrap (a0 + (719468 : Int))) (146097 : Int)) - (IntKind.i64.wrap (Int.tdiv (Int.tmod (IntKind.i64.wrap (a0 + (719468 : Int))) (146097 : Int)) (1460 : Int))))) + (IntKind.i64.wrap (Int.tdiv (Int.tmod (IntKind.i64.wrap (a0 + (719468 : Int))) (146097 : Int)) (36524 : Int))))) - (IntKind.i64.wrap (Int.tdiv (Int.tmod (IntKind.i64.wrap (a0 + (719468 : Int))) (146097 : Int)) (146096 : Int))))) (365 : Int))) (100 : Int))))))) - (IntKind.i64.wrap (Int.tdiv (IntKind.i64.wrap ((IntKind.i64.wrap ((153 : Int) * (IntKind.i64.wrap (Int.tdiv (IntKind.i64.wrap ((IntKind.i64.wrap ((5 : Int) * (IntKind.i64.wrap ((Int.tmod (IntKind.i64.wrap (a0 + (719468 : Int))) (146097 : Int)) - (IntKind.i64.wrap ((IntKind.i64.wrap ((IntKind.i64.wrap ((365 : Int) * (IntKind.i64.wrap (Int.tdiv (IntKind.i64.wrap ((IntKind.i64.wrap ((IntKind.i64.wrap ((Int.tmod (IntKind.i64.wrap (a0 + (719468 : Int))) (146097 : Int)) - (IntKind.i64.wrap (Int.tdiv (Int.tmod (IntKind.i64.wrap (a0 + (719468 : Int))) (146097 : Int)) (1460 : Int))))) + (IntKind.i64.wrap (Int.tdiv (Int.tmod (IntKind.i64.wrap (a0 + (719468 : Int))) (146097 : Int)) (36524 : Int))))) - (IntKind.i64.wrap (Int.tdiv (Int.tmod (IntKind.i64.wrap (a0 + (719468 : Int))) (146097 : Int)) (146096 : Int))))) (365 : Int))))) + (IntKind.i64.wrap (Int.tdiv (IntKind.i64.wrap (Int.tdiv (IntKind.i64.wrap ((IntKind.i64.wrap ((IntKind.i64.wrap ((Int.tmod (IntKind.i64.wrap (a0 + (719468 : Int))) (146097 : Int)) - (IntKind.i64.wrap (Int.tdiv (Int.tmod (IntKind.i64.wrap (a0 + (719468 : Int))) (146097 : Int)) (1460 : Int))))) + (IntKind.i64.wrap (Int.tdiv (Int.tmod (IntKind.i64.wrap (a0 + (719468 : Int))) (146097 : Int)) (36524 : Int))))) - (IntKind.i64.wrap (Int.tdiv (Int.tmod (IntKind.i64.wrap (a0 + (719468 : Int))) (146097 : Int)) (146096 : Int))))) (365 : Int))) (4 : Int))))) - (IntKind.i64.wrap (Int.tdiv (IntKind.i64.wrap (Int.tdiv (IntKind.i64.wrap ((IntKind.i64.wrap ((IntKind.i64.wrap ((Int.tmod (IntKind.i64.wrap (a0 + (719468 : Int))) (146097 : Int)) - (IntKind.i64.wrap (Int.tdiv (Int.tmod (IntKind.i64.wrap (a0 + (719468 : Int))) (146097 : Int)) (1460 : Int))))) + (IntKind.i64.wrap (Int.tdiv (Int.tmod (IntKind.i64.wrap (a0 + (719468 : Int))) (146097 : Int)) (36524 : Int))))) - (IntKind.i64.wrap (Int.tdiv (Int.tmod (IntKind.i64.wrap (a0 + (719468 : Int))) (146097 : Int)) (146096 : Int))))) (365 : Int))) (100 : Int))))))))) + (2 : Int))) (153 : Int))))) + (2 : Int))) (5 : Int))))) + (1 : Int)), (0 : Int)))))
def xU n a0 := CZ n a0 _ some
def Qi : FS := ⟨[.n], [], [([.a [.n, .n, .n], .n], [])]⟩
def Ky (n : Nat) : FSpec := Qi.sp (xU n)
theorem Kz (n : Nat) : FSound Tryz.prog 41 (Ky n) := fs2 (S := Qi) (b := CZ n) Tryz.func41 rfl rfl [.cell 2 45 3 true, .tmp 3] (.s .a (.s (.s (.p (Ib.x (DW n))) .a) .a)) (nt1 (CZ n) (by intros; unfold CZ; simp only [ay])) (ai (OZ n) trivial)
def sW (n : Nat) (a0 : Int) (R : Type) (K : W11 → Option R) : Option R := (zP n a0 (86400000000 : Int)).bind fun o299 => ((xU n o299.1).bind fun o305 => (cond (o305.2.2.2 != (0 : Int)) (K ((0 : Int), (0 : Int), (0 : Int), (0 : Int), (0 : Int), (0 : Int), (0 : Int), o305.2.2.2)) (K (o305.1, o305.2.1, o305.2.2.1, IntKind.i64.wrap (Int.tdiv (IntKind.i64.wrap (Int.tdiv o299.2.1 (1000000 : Int))) (3600 : Int)), Int.tmod (IntKind.i64.wrap (Int.tdiv (IntKind.i64.wrap (Int.tdiv o299.2.1 (1000000 : Int))) (60 : Int))) (60 : Int), Int.tmod (IntKind.i64.wrap (Int.tdiv o299.2.1 (1000000 : Int))) (60 : Int), Int.tmod o299.2.1 (1000000 : Int), (0 : Int)))))
def bA n a0 := sW n a0 _ some
def Ho : FS := ⟨[.n], [], [([.a [.n, .n, .n, .n, .n, .n, .n], .n], [])]⟩
def qR (n : Nat) : FSpec := Ho.sp (bA n)
theorem rO (n : Nat) : FSound Tryz.prog 18 (qR n) := fs2 (S := Ho) (b := sW n) Tryz.func18 rfl rfl [.cell 2 47 7 true, .tmp 3] (.s .a (.s (.r [(1, .cl 40 (Ku n)), (5, .tk [10])]) (.s (.r [(1, .cl 41 (Ky n)), (4, .tk [16])]) .a))) (nt1 (sW n) (by intros; unfold sW; simp only [ay])) (ai (Kv n) (ai (Kz n) trivial))
def sZ (n : Nat) (a0 : Int) (R : Type) (K : W11 → Option R) : Option R := (qA n a0 (1000000 : Int)).bind fun o293 => ((kw n o293).bind fun o294 => (cond ((decide ((IntKind.i64.wrap (a0 + (IntKind.i64.wrap ((0 : Int) * (1000000 : Int))))) < a0)) == (decide ((IntKind.i64.wrap ((0 : Int) * (1000000 : Int))) < (0 : Int)))) ((bA n (IntKind.i64.wrap (a0 + (IntKind.i64.wrap ((0 : Int) * (1000000 : Int)))))).bind fun o306 => (K (o306.1, o306.2.1, o306.2.2.1, o306.2.2.2.1, o306.2.2.2.2.1, o306.2.2.2.2.2.1, o306.2.2.2.2.2.2.1, o306.2.2.2.2.2.2.2))) (K ((0 : Int), (0 : Int), (0 : Int), (0 : Int), (0 : Int), (0 : Int), (0 : Int), (6 : Int)))))
def pO n a0 := sZ n a0 _ some
def BS : FS := ⟨[.x (.ptr none), .n], [], [([.a [.n, .n, .n, .n, .n, .n, .n], .n], [])]⟩
def zQ (n : Nat) : FSpec := BS.sp (pO n)
theorem Cw (n : Nat) : FSound Tryz.prog 17 (zQ n) := fs2 (S := BS) (b := sZ n) Tryz.func17 rfl rfl [.cell 4 47 7 true, .tmp 5] (.s .a (.s (.r [(2, .cl 39 (uq n)), (3, .cl 12 (qc n))]) (.s (.s .a (.s .a (.s (.s (.r [(1, .cl 18 (qR n)), (3, .tk [23])]) .a) .a))) .a))) (nt1 (sZ n) (by intros; unfold sZ; simp only [ay])) (ai (qJ n) (ai (qB n) (ai (rO n) trivial)))
def BU (n : Nat) (a0 : Int) (R : Type) (K : Bool → Option R) : Option R := cond ((Int.tmod a0 (4 : Int)) == (0 : Int)) (cond ((Int.tmod a0 (100 : Int)) != (0 : Int)) (K true) (K ((Int.tmod a0 (400 : Int)) == (0 : Int)))) (K false)
def Fq n a0 := BU n a0 _ some
def Np : FS := ⟨[.n], [], [([.b], [])]⟩
def LC (n : Nat) : FSpec := Np.sp (Fq n)
theorem Oa (n : Nat) : FSound Tryz.prog 154 (LC n) := fs2 (S := Np) (b := BU n) Tryz.func154 rfl rfl [.tmp 2] .a (nt1 (BU n) (by intros; unfold BU; simp only [ay])) trivial
def wM (n : Nat) (x0 x1 : Int) (R : Type) (K : (Bool) → Option R) : Option R := cond (decide (x0 < (1 : Int))) (K true) (cond (decide (x0 > (9999 : Int))) (K true) (cond (decide (x1 < (1 : Int))) (K true) (K (decide (x1 > (12 : Int))))))
def zl n x0 x1 := wM n x0 x1 _ some
def Ev : PS := ⟨[], [(0, .n), (1, .n)], none, [⟨.normal, [0, 1], [(18, .b)], [], none⟩], none, none⟩
theorem Nq (n : Nat) : Snd ⟨Tryz.prog, 0, 29⟩ (Ev.x (zl n)) (fb Tryz.f111 9) := iY (S := Ev) (b := wM n) .a (nt2 (wM n) (by intros; unfold wM; simp only [ay])) trivial
def BV (n : Nat) (a0 a1 : Int) (R : Type) (K : Int → Option R) : Option R := (zl n a0 a1).bind fun o311 => (cond o311 (K (0 : Int)) (cond (a1 == (2 : Int)) ((Fq n a0).bind fun o312 => (cond o312 (K (29 : Int)) (cond (decide (0 ≤ (IntKind.i64.wrap (a1 - (1 : Int))))) ((([.int .i64 (31 : Int), .int .i64 (28 : Int), .int .i64 (31 : Int), .int .i64 (30 : Int), .int .i64 (31 : Int), .int .i64 (30 : Int), .int .i64 (31 : Int), .int .i64 (31 : Int), .int .i64 (30 : Int), .int .i64 (31 : Int), .int .i64 (30 : Int), .int .i64 (31 : Int)] : List AV)[(IntKind.i64.wrap (a1 - (1 : Int))).toNat]?).bind fun c313 => (yu .i64 c313 fun x314 => K x314)) none))) (cond (decide (0 ≤ (IntKind.i64.wrap (a1 - (1 : Int))))) ((([.int .i64 (31 : Int), .int .i64 (28 : Int), .int .i64 (31 : Int), .int .i64 (30 : Int), .int .i64 (31 : Int), .int .i64 (30 : Int), .int .i64 (31 : Int), .int .i64 (31 : Int), .int .i64 (30 : Int), .int .i64 (31 : Int), .int .i64 (30 : Int), .int .i64 (31 : Int)] : List AV)[(IntKind.i64.wrap (a1 - (1 : Int))).toNat]?).bind fun c315 => (yu .i64 c315 fun x316 => K x316)) none)))
def yE n a0 a1 := BV n a0 a1 _ some
def Nr : FS := ⟨[.n, .n], [], [([.n], [])]⟩
def Dr (n : Nat) : FSpec := Nr.sp (yE n)
theorem C8 (n : Nat) : FSound Tryz.prog 111 (Dr n) := fs2 (S := Nr) (b := BV n) Tryz.func111 rfl rfl [.tmp 4] (.s .a (.s (.s (.p (Ev.x (zl n))) .a) (.s (.s (.r [(4, .cl 154 (LC n))]) .a) .a))) (nt2 (BV n) (by intros; unfold BV; simp only [ay])) (ai (Nq n) (ai (Oa n) trivial))
def zm (n : Nat) (a0 a1 a2 : Int) (R : Type) (K : Bool → Option R) : Option R := cond (decide (a2 ≥ (1 : Int))) ((yE n a0 a1).bind fun o317 => (K (decide (a2 ≤ o317)))) (K false)
def zn n a0 a1 a2 := zm n a0 a1 a2 _ some
def LF : FS := ⟨[.a [.n, .n, .n]], [], [([.b], [])]⟩
def Gt (n : Nat) : FSpec := LF.sp (zn n)
theorem Hq (n : Nat) : FSound Tryz.prog 78 (Gt n) := fs2 (S := LF) (b := zm n) Tryz.func78 rfl rfl [.tmp 2] (.s .a (.s (.d [(10, .cl 111 (Dr n))] [(0, .peek [0] [0]), (1, .peek [0] [0]), (4, .peek [0] [0]), (5, .peek [0] [0]), (6, .peek [0] [0]), (7, .peek [0] [0]), (8, .peek [0] [0]), (9, .peek [0] [0]), (10, .part [])]) .a)) (nt3 (zm n) (by intros; unfold zm; simp only [ay])) (ai (C8 n) trivial)
def BX (n : Nat) (a0 a1 a2 : Int) (R : Type) (K : (Int × Int) → Option R) : Option R := (zn n a0 a1 a2).bind fun o318 => (cond (!o318) (K ((0 : Int), (30 : Int))) ((vQ n a0 a1 a2).bind fun o319 => (K (o319, (0 : Int)))))
def yF n a0 a1 a2 := BX n a0 a1 a2 _ some
def Ns : FS := ⟨[.a [.n, .n, .n]], [], [([.n, .n], [])]⟩
def Dt (n : Nat) : FSpec := Ns.sp (yF n)
theorem C9 (n : Nat) : FSound Tryz.prog 43 (Dt n) := fs2 (S := Ns) (b := BX n) Tryz.func43 rfl rfl [.tmp 2, .tmp 3] (.s .a (.s (.s (.r [(1, .cl 78 (Gt n))]) .a) (.s (.r [(1, .cl 76 (zk n))]) .a))) (nt3 (BX n) (by intros; unfold BX; simp only [ay])) (ai (Hq n) (ai (yD n) trivial))
def yG (n : Nat) (x5 h0_0 h0_1 h0_2 h0_3 h0_4 h0_5 h0_6 : Int) (R : Type) (K : W12 → Option R) : Option R := cond (x5 != (0 : Int)) (K (true, h0_0, h0_1, h0_2, h0_3, h0_4, h0_5, h0_6)) (cond (decide ((JZ false h0_3 [h0_4, h0_5, h0_6]) < (0 : Int))) (K (true, h0_0, h0_1, h0_2, h0_3, h0_4, h0_5, h0_6)) (cond (decide (h0_3 > (23 : Int))) (K (true, h0_0, h0_1, h0_2, h0_3, h0_4, h0_5, h0_6)) (cond (decide ((if h0_4 < h0_5 then h0_5 else h0_4) > (59 : Int))) (K (true, h0_0, h0_1, h0_2, h0_3, h0_4, h0_5, h0_6)) (K (decide (h0_6 ≥ (1000000 : Int)), h0_0, h0_1, h0_2, h0_3, h0_4, h0_5, h0_6)))))
def Gu n x5 h0_0 h0_1 h0_2 h0_3 h0_4 h0_5 h0_6 := yG n x5 h0_0 h0_1 h0_2 h0_3 h0_4 h0_5 h0_6 _ some
def Da : PS := ⟨[4], [(1, .q 0 0), (5, .n)], some [.c 47 [.n, .n, .n, .n, .n, .n, .n]], [⟨.normal, [1, 4], [(43, .b)], [.c 47 [.n, .n, .n, .n, .n, .n, .n]], none⟩], none, none⟩
theorem Mo (n : Nat) : Snd ⟨Tryz.prog, 0, 61⟩ (Da.x (Gu n)) (fb Tryz.f21 19) := iY (S := Da) (b := yG n) .a (nt8 (yG n) (by intros; unfold yG; simp only [ay])) trivial
def Du (n : Nat) (a0 a1 a2 a3 a4 a5 a6 : Int) (R : Type) (K : (Int × Int) → Option R) : Option R := (yF n a0 a1 a2).bind fun o320 => ((Gu n o320.2 a0 a1 a2 a3 a4 a5 a6).bind fun o321 => (cond o321.1 (K ((0 : Int), (30 : Int))) (K (IntKind.i64.wrap ((IntKind.i64.wrap ((IntKind.i64.wrap (o320.1 * (86400000000 : Int))) + (IntKind.i64.wrap ((IntKind.i64.wrap ((IntKind.i64.wrap ((IntKind.i64.wrap ((IntKind.i64.wrap (o321.2.2.2.2.1 * (60 : Int))) + o321.2.2.2.2.2.1)) * (60 : Int))) + o321.2.2.2.2.2.2.1)) * (1000000 : Int))))) + o321.2.2.2.2.2.2.2), (0 : Int)))))
def ut n a0 a1 a2 a3 a4 a5 a6 := Du n a0 a1 a2 a3 a4 a5 a6 _ some
def LG : FS := ⟨[.a [.n, .n, .n, .n, .n, .n, .n]], [], [([.n, .n], [])]⟩
def BZ (n : Nat) : FSpec := LG.sp (ut n)
theorem Ca (n : Nat) : FSound Tryz.prog 21 (BZ n) := fs2 (S := LG) (b := Du n) Tryz.func21 rfl rfl [.tmp 2, .tmp 3] (.s .a (.s (.r [(2, .cl 43 (Dt n)), (5, .tk [6])]) (.s (.s (.p (Da.x (Gu n))) .a) .a))) (nt7 (Du n) (by intros; unfold Du; simp only [ay])) (ai (C9 n) (ai (Mo n) trivial))
def qd (n : Nat) (R : Type) (K : (List Int) → Option R) : Option R := K ([(0 : Int)] : List Int)
def uN n := qd n _ some
def EQ : FS := ⟨[.x (.ptr none)], [], [([.I true .i64], [])]⟩
def xV (n : Nat) : FSpec := EQ.sp (uN n)
theorem Ak (n : Nat) : FSound Tryz.prog 15 (xV n) := fs2 (S := EQ) (b := qd n) Tryz.func15 rfl rfl [.tmp 2] (.s .a (.s (.s .a (.s (.s (.r [(1, .tk [8])]) .a) .a)) (.s .a (.s (.s .a (.u (.p Hy))) .a)))) (nt0 (qd n) (by intros; unfold qd; simp only [ay])) (ai (yA (c := ⟨Tryz.prog, 0, 57⟩) (cd := (Tryz.f15.body.getD .skip).a2.a2.a2.a1.a2.a1)) trivial)
def jy (n : Nat) (a0 : List Int) (R : Type) (K : (List Int) → Option R) : Option R := K a0
def jA n a0 := jy n a0 _ some
def yJ : FS := ⟨[.l .i64], [], [([.f (.func 77) [] [.q 0 0]], [.c 24 [.l .i64]])]⟩
def lS (n : Nat) : FSpec := yJ.sp (jA n)
theorem oN (n : Nat) : FSound Tryz.prog 42 (lS n) := fs2 (S := yJ) (b := jy n) Tryz.func42 rfl rfl [.tmp 2] .a (nt1 (jy n) (by intros; unfold jy; simp only [ay])) trivial
def pQ (n : Nat) (a0 a1 h0 : Int) (h1 : List Int) (R : Type) (K : (Int × (List Int)) → Option R) : Option R := cond (decide ((IntKind.i64.wrap (h0 - (IntKind.i64.wrap (a1 * (1000000 : Int))))) ≥ (-10000000000000000 : Int))) (cond (decide ((IntKind.i64.wrap (h0 - (IntKind.i64.wrap (a1 * (1000000 : Int))))) ≤ (100000000000000000 : Int))) ((qA n (IntKind.i64.wrap (h0 - (IntKind.i64.wrap (a1 * (1000000 : Int))))) (1000000 : Int)).bind fun o326 => ((kw n o326).bind fun o327 => (cond ((0 : Int) == a1) (cond (decide ((h1.length + ([IntKind.i64.wrap (h0 - (IntKind.i64.wrap (a1 * (1000000 : Int))))] : List Int).length) * 8 ≤ 140737488355328)) (K (h0, h1 ++ ([IntKind.i64.wrap (h0 - (IntKind.i64.wrap (a1 * (1000000 : Int))))] : List Int))) none) (K (h0, h1))))) (K (h0, h1))) (K (h0, h1))
def Al n a0 a1 h0 h1 := pQ n a0 a1 h0 h1 _ some
def Am : FS := ⟨[.n, .n, .q 0 0, .q 1 0, .q 2 0], [.c 27 [.x (.ptr none)], .c 2 [.n], .c 23 [.I true .i64]], [([.x (.bool true)], [.c 27 [.x (.ptr none)], .c 2 [.n], .c 23 [.I true .i64]])]⟩
def zo (n : Nat) : FSpec := Am.sp (Al n)
theorem Fs (n : Nat) : RSound Tryz.prog 0 (zo n) := Vy (S := Am) (b := pQ n) (nt := 48) (ps := [23, 24]) (sl := [2, 6, 8]) (ca := (Tryz.f20.body.getD .skip).a2.a2.a2.a2.a1.a2.a1.ra) (cb := (Tryz.f20.body.getD .skip).a2.a2.a2.a2.a1.a2.a1.rb) (by kernel_rfl) .a (.u (.s .a (.s (.d [(9, .cl 39 (uq n)), (10, .cl 12 (qc n))] [(7, .peek [0] [0]), (9, .part []), (10, .part [])]) (.s (.r [(0, .lt), (3, .tk [43]), (4, .tk [46])]) .a)))) (nt4 (pQ n) (by intros; unfold pQ; simp only [ay])) trivial (ai (qJ n) (ai (qB n) trivial))
def je (n : Nat) (x3 : Int) (h1_0 : List Int) (h3_0 : Int) (h4_0 : List Int) (R : Type) (A_ : Int → (List Int) → Int → (List Int) → Option R) (K : ((List Int) × Int × (List Int)) → Option R) : Option R := cond (decide (x3 ≥ (0 : Int))) (cond (decide (0 ≤ x3)) ((h1_0[x3.toNat]?).bind fun e325 => ((Al n x3 e325 h3_0 h4_0).bind fun o328 => (A_ (IntKind.i64.wrap (x3 - (1 : Int))) h1_0 o328.1 o328.2))) none) (K (h1_0, h3_0, h4_0))
def gP (n : Nat) : Nat → Int → (List Int) → Int → (List Int) → Option (((List Int) × Int × (List Int)))
 | 0, _, _, _, _ => none
 | m + 1, x3, h1_0, h3_0, h4_0 => je n x3 h1_0 h3_0 h4_0 _ (gP n m) some
def nX : PS := ⟨[], [(0, .x (.yld 0)), (1, .q 1 0), (3, .n)], some [.lp 0 [.q 2 0, .q 3 0, .q 4 0], .c 24 [.l .i64], .c 27 [.x (.ptr none)], .c 2 [.n], .c 23 [.I true .i64]], [⟨(.exit 0), [], [], [.lp 0 [.q 2 0, .q 3 0, .q 4 0], .c 24 [.l .i64], .c 27 [.x (.ptr none)], .c 2 [.n], .c 23 [.I true .i64]], none⟩], none, none⟩
theorem Cb (n : Nat) : Snd ⟨Tryz.prog, 5, 19⟩ (nX.x (gP n n)) (fb Tryz.f77 5) := mK (S := nX) (b := je n) (f := gP n) n (.s .a (.s (.u (.s (.r [(6, .cy 0 (zo n))]) .a)) .a)) (nl4 (je n) (by intros; unfold je; simp only [ay])) (ai (Fs n) trivial)
def kW (n : Nat) (h0 : List Int) (h1 : Int) (h2 : List Int) (R : Type) (K : ((List Int) × Int × (List Int)) → Option R) : Option R := (gP n n (IntKind.i64.wrap ((h0.length : Int) - (1 : Int))) h0 h1 h2).bind fun o329 => (K (o329.1, o329.2.1, o329.2.2))
def xq n h0 h1 h2 := kW n h0 h1 h2 _ some
def xu : FS := ⟨[.x (.yld 0), .q 1 0], [.lp 0 [.q 2 0, .q 3 0, .q 4 0], .c 24 [.l .i64], .c 27 [.x (.ptr none)], .c 2 [.n], .c 23 [.I true .i64]], [([], [.lp 0 [.q 2 0, .q 3 0, .q 4 0], .c 24 [.l .i64], .c 27 [.x (.ptr none)], .c 2 [.n], .c 23 [.I true .i64]])]⟩
def wN (n : Nat) : FSpec := xu.sp (xq n)
theorem Ck (n : Nat) : FSound Tryz.prog 77 (wN n) := fs2 (S := xu) (b := kW n) Tryz.func77 rfl rfl [] (.s .a (.u (.p (nX.x (gP n n))))) (nt3 (kW n) (by intros; unfold kW; simp only [ay])) (ai (Cb n) trivial)
def tq (n : Nat) (a0 a1 a2 a3 a4 a5 a6 : Int) (R : Type) (K : ((List Int) × Int) → Option R) : Option R := (ut n a0 a1 a2 a3 a4 a5 a6).bind fun o322 => (cond (o322.2 != (0 : Int)) (K (([] : List Int), o322.2)) ((uN n ).bind fun o323 => ((jA n o323).bind fun o324 => ((xq n o324 o322.1 ([] : List Int)).bind fun o330 => (K (o330.2.2, (0 : Int)))))))
def xW n a0 a1 a2 a3 a4 a5 a6 := tq n a0 a1 a2 a3 a4 a5 a6 _ some
def xX : FS := ⟨[.x (.ptr none), .a [.n, .n, .n, .n, .n, .n, .n]], [], [([.I true .i64, .n], [])]⟩
def Cy (n : Nat) : FSpec := xX.sp (xW n)
theorem Ic (n : Nat) : FSound Tryz.prog 20 (Cy n) := fs2 (S := xX) (b := tq n) Tryz.func20 rfl rfl [.tmp 4, .tmp 5] (.s .a (.s (.r [(1, .cl 21 (BZ n)), (4, .tk [12])]) (.s .a (.s .a (.s (.s (.r [(1, .cl 15 (xV n)), (2, .cl 42 (lS n))]) (.u (.p (NJ 0 [2, 6, 8] (wN n) 77 (.tmp 22))))) (.s (.r [(0, .lt), (1, .tk [47])]) .a)))))) (nt7 (tq n) (by intros; unfold tq; simp only [ay])) (ai (Ca n) (ai (Ak n) (ai (oN n) (ai (Md (c := ⟨Tryz.prog, 0, 48⟩) (key := 0) (ts := [2, 6, 8]) (u := 22) (cd := (Tryz.f20.body.getD .skip).a2.a2.a2.a2.a1.a2.a1) (by kernel_rfl) (by kernel_rfl) (Ck n)) trivial))))
def bU (n : Nat) (h0 : List (Int × Int)) (R : Type) (K : (List (Int × Int)) → Option R) : Option R := K h0
def bV n h0 := bU n h0 _ some
def uG : FS := ⟨[.x (.map (some 0))], [.mI], [([.f (.func 74) [] [.q 1 0]], [.mI, .c 92 [.x (.map (some 0))]])]⟩
def lT (n : Nat) : FSpec := uG.sp (bV n)
theorem qI (n : Nat) : FSound Tryz.prog 38 (lT n) := fs2 (S := uG) (b := bU n) Tryz.func38 rfl rfl [.tmp 2] .a (nt1 (bU n) (by intros; unfold bU; simp only [ay])) trivial
def xY (n : Nat) : FSpec := Mi 74
theorem Ao (n : Nat) : FSound Tryz.prog 37 (xY n) := QT
def gT (n : Nat) (x15 : List (List AV)) (x16 x17 : Int) (h0_0 : List (List AV)) (h0_1 h0_2 : List Int) (h0_3 h1_0 h1_1 : Str) (h1_2 h1_3 h1_4 h1_5 h1_6 h1_7 h1_8 h1_9 h1_10 h1_11 h1_12 h1_13 : Int) (h2_0 : List (Int × Int)) (R : Type) (A_ : (List (List AV)) → Int → Int → (List (List AV)) → (List Int) → (List Int) → Str → Str → Str → Int → Int → Int → Int → Int → Int → Int → Int → Int → Int → Int → Int → (List (Int × Int)) → Option R) (K : W13 → Option R) : Option R := cond (decide (x17 < x16)) (cond (decide (0 ≤ x17)) ((x15[x17.toNat]?).bind fun e348 => (unc e348 fun c349 r350 => yu .i64 c349 fun x351 => unc r350 fun c352 r353 => yV c352 fun x354 => unc r353 fun c355 r356 => yX c355 fun x357 => unn r356 (cond (sM x351 && sM (1 : Int)) (A_ x15 x16 (IntKind.i64.wrap (x17 + (1 : Int))) h0_0 h0_1 h0_2 h0_3 h1_0 h1_1 h1_2 h1_3 h1_4 h1_5 h1_6 h1_7 h1_8 h1_9 h1_10 h1_11 h1_12 h1_13 (zH h2_0 x351 (1 : Int))) none))) none) (K (h0_0, h0_1, h0_2, h0_3, h1_0, h1_1, h1_2, h1_3, h1_4, h1_5, h1_6, h1_7, h1_8, h1_9, h1_10, h1_11, h1_12, h1_13, h2_0))
def dO (n : Nat) : Nat → (List (List AV)) → Int → Int → (List (List AV)) → (List Int) → (List Int) → Str → Str → Str → Int → Int → Int → Int → Int → Int → Int → Int → Int → Int → Int → Int → (List (Int × Int)) → Option (W13)
 | 0, _, _, _, _, _, _, _, _, _, _, _, _, _, _, _, _, _, _, _, _, _, _ => none
 | m + 1, x15, x16, x17, h0_0, h0_1, h0_2, h0_3, h1_0, h1_1, h1_2, h1_3, h1_4, h1_5, h1_6, h1_7, h1_8, h1_9, h1_10, h1_11, h1_12, h1_13, h2_0 => gT n x15 x16 x17 h0_0 h0_1 h0_2 h0_3 h1_0 h1_1 h1_2 h1_3 h1_4 h1_5 h1_6 h1_7 h1_8 h1_9 h1_10 h1_11 h1_12 h1_13 h2_0 _ (dO n m) some
def uu : PS := ⟨[], [(0, .q 0 0), (3, .x (.map (some 2))), (15, .L false 3), (16, .n), (17, .n)], some [.c 82 [.L false 3, .l .i64, .l .i64, .s, .q 1 0], .c 87 [.s, .s, .n, .n, .c, .n, .n, .n, .n, .c, .n, .n, .n, .n], .mI], [⟨(.exit 0), [0, 3], [], [.c 82 [.L false 3, .l .i64, .l .i64, .s, .q 1 0], .c 87 [.s, .s, .n, .n, .c, .n, .n, .n, .n, .c, .n, .n, .n, .n], .mI], none⟩], (some 2), (some 2)⟩
theorem Gv (n : Nat) : Snd ⟨Tryz.prog, 2, 57⟩ (uu.x (dO n n)) (fb Tryz.f15 87) := mK (S := uu) (b := gT n) (f := dO n) n (.s .a (.s .a (.s (.u (.s .a (.r [(3, .mi)]))) .a))) (aaS (gT n) (by intros; unfold gT; simp only [ay])) trivial
def nG (n : Nat) (h0 : List (List AV)) (h1 h2 : List Int) (h3 h4 h5 : Str) (h6 h7 h8 h9 h10 h11 h12 h13 h14 h15 h16 h17 : Int) (R : Type) (K : ((List Int) × (List (List AV)) × (List Int) × (List Int) × Str × Str × Str × Int × Int × Int × Int × Int × Int × Int × Int × Int × Int × Int × Int) → Option R) : Option R := (dO n n h0 (h0.length : Int) (0 : Int) h0 h1 h2 h3 h4 h5 h6 h7 h8 h9 h10 h11 h12 h13 h14 h15 h16 h17 ([] : List (Int × Int))).bind fun o358 => (cond (sM o358.2.2.2.2.2.2.1 && sM (1 : Int)) (cond (!(o358.2.2.2.2.2.1 == ([] : Str))) (cond (sM o358.2.2.2.2.2.2.2.1 && sM (1 : Int)) ((bV n (zH (zH o358.2.2.2.2.2.2.2.2.2.2.2.2.2.2.2.2.2.2 o358.2.2.2.2.2.2.1 (1 : Int)) o358.2.2.2.2.2.2.2.1 (1 : Int))).bind fun o359 => (cond (decide (o359.length * 8 ≤ 140737488355328) && o359.all fun p => sM p.1 && sM p.2) (K ((o359.map (·.1)).mergeSort leI, o358.1, o358.2.1, o358.2.2.1, o358.2.2.2.1, o358.2.2.2.2.1, o358.2.2.2.2.2.1, o358.2.2.2.2.2.2.1, o358.2.2.2.2.2.2.2.1, o358.2.2.2.2.2.2.2.2.1, o358.2.2.2.2.2.2.2.2.2.1, o358.2.2.2.2.2.2.2.2.2.2.1, o358.2.2.2.2.2.2.2.2.2.2.2.1, o358.2.2.2.2.2.2.2.2.2.2.2.2.1, o358.2.2.2.2.2.2.2.2.2.2.2.2.2.1, o358.2.2.2.2.2.2.2.2.2.2.2.2.2.2.1, o358.2.2.2.2.2.2.2.2.2.2.2.2.2.2.2.1, o358.2.2.2.2.2.2.2.2.2.2.2.2.2.2.2.2.1, o358.2.2.2.2.2.2.2.2.2.2.2.2.2.2.2.2.2.1)) none)) none) ((bV n (zH o358.2.2.2.2.2.2.2.2.2.2.2.2.2.2.2.2.2.2 o358.2.2.2.2.2.2.1 (1 : Int))).bind fun o360 => (cond (decide (o360.length * 8 ≤ 140737488355328) && o360.all fun p => sM p.1 && sM p.2) (K ((o360.map (·.1)).mergeSort leI, o358.1, o358.2.1, o358.2.2.1, o358.2.2.2.1, o358.2.2.2.2.1, o358.2.2.2.2.2.1, o358.2.2.2.2.2.2.1, o358.2.2.2.2.2.2.2.1, o358.2.2.2.2.2.2.2.2.1, o358.2.2.2.2.2.2.2.2.2.1, o358.2.2.2.2.2.2.2.2.2.2.1, o358.2.2.2.2.2.2.2.2.2.2.2.1, o358.2.2.2.2.2.2.2.2.2.2.2.2.1, o358.2.2.2.2.2.2.2.2.2.2.2.2.2.1, o358.2.2.2.2.2.2.2.2.2.2.2.2.2.2.1, o358.2.2.2.2.2.2.2.2.2.2.2.2.2.2.2.1, o358.2.2.2.2.2.2.2.2.2.2.2.2.2.2.2.2.1, o358.2.2.2.2.2.2.2.2.2.2.2.2.2.2.2.2.2.1)) none))) none)
def nH n h0 h1 h2 h3 h4 h5 h6 h7 h8 h9 h10 h11 h12 h13 h14 h15 h16 h17 := nG n h0 h1 h2 h3 h4 h5 h6 h7 h8 h9 h10 h11 h12 h13 h14 h15 h16 h17 _ some
def Cz : FS := ⟨[.q 0 0], [.c 82 [.L false 3, .l .i64, .l .i64, .s, .q 1 0], .c 87 [.s, .s, .n, .n, .c, .n, .n, .n, .n, .c, .n, .n, .n, .n]], [([.I true .i64], [.c 82 [.L false 3, .l .i64, .l .i64, .s, .q 1 0], .c 87 [.s, .s, .n, .n, .c, .n, .n, .n, .n, .c, .n, .n, .n, .n]])]⟩
def vR (n : Nat) : FSpec := Cz.sp (nH n)
theorem yK (n : Nat) : FSound Tryz.prog 15 (vR n) := fs2 (S := Cz) (b := nG n) Tryz.func15 rfl rfl [.tmp 2] (.s .a (.s .a (.s (.r [(0, .mi)]) (.s (.s .a (.u (.p (uu.x (dO n n))))) (.s (.s .a (.s (.s (.r [(8, .mi)]) (.s .a (.s (.r [(8, .mi)]) .a))) .a)) (.s (.r [(1, .cl 38 (lT n)), (2, .cl 37 (xY n)), (3, .tk [56])]) .a)))))) (acB (nG n) (by intros; unfold nG; simp only [ay])) (ai (Gv n) (ai (qI n) (ai (Ao n) trivial)))
def lU (n : Nat) (h0 : Int) (h1 : List (List AV)) (h2 h3 : List Int) (h4 h5 h6 : Str) (h7 h8 h9 h10 h11 h12 h13 h14 h15 h16 h17 h18 : Int) (R : Type) (K : (Bool × Int × (List (List AV)) × (List Int) × (List Int) × Str × Str × Str × Int × Int × Int × Int × Int × Int × Int × Int × Int × Int × Int × Int) → Option R) : Option R := cond ((h2.length : Int) == (0 : Int)) (K (true, h0, h1, h2, h3, h4, h5, h6, h7, h8, h9, h10, h11, h12, h13, h14, h15, h16, h17, h18)) (cond (decide (0 ≤ (IntKind.i64.wrap ((h2.length : Int) - (1 : Int))))) ((h2[(IntKind.i64.wrap ((h2.length : Int) - (1 : Int))).toNat]?).bind fun e365 => (K (decide (e365 ≤ h0), h0, h1, h2, h3, h4, h5, h6, h7, h8, h9, h10, h11, h12, h13, h14, h15, h16, h17, h18))) none)
def qC n h0 h1 h2 h3 h4 h5 h6 h7 h8 h9 h10 h11 h12 h13 h14 h15 h16 h17 h18 := lU n h0 h1 h2 h3 h4 h5 h6 h7 h8 h9 h10 h11 h12 h13 h14 h15 h16 h17 h18 _ some
def Cc : FS := ⟨[.q 0 0, .q 1 0], [.c 27 [.q 2 0], .c 2 [.n], .c 82 [.L false 3, .l .i64, .l .i64, .s, .q 3 0], .c 87 [.s, .s, .n, .n, .c, .n, .n, .n, .n, .c, .n, .n, .n, .n]], [([.b], [.c 27 [.q 2 0], .c 2 [.n], .c 82 [.L false 3, .l .i64, .l .i64, .s, .q 3 0], .c 87 [.s, .s, .n, .n, .c, .n, .n, .n, .n, .c, .n, .n, .n, .n]])]⟩
def Ap (n : Nat) : FSpec := Cc.sp (qC n)
theorem Gw (n : Nat) : FSound Tryz.prog 32 (Ap n) := fs2 (S := Cc) (b := lU n) Tryz.func32 rfl rfl [.tmp 2] (.s .a (.s (.d [] [(1, .look), (2, .look), (3, .look), (4, .look), (10, .look), (11, .look), (12, .look), (13, .look), (16, .look), (17, .look), (18, .look), (19, .look), (24, .no)]) .a)) (Zx (lU n) (by intros; unfold lU; simp only [ay])) trivial
def xZ (n : Nat) (a0 a1 : Int) (R : Type) (K : Int → Option R) : Option R := cond (a1 == 0) none (cond (decide ((Int.tmod a0 a1) < (0 : Int))) (cond (a1 == 0) none (K (IntKind.i64.wrap ((IntKind.i64.wrap (Int.tdiv a0 a1)) - (1 : Int))))) (cond (a1 == 0) none (K (IntKind.i64.wrap (Int.tdiv a0 a1)))))
def yc n a0 a1 := xZ n a0 a1 _ some
def KA : FS := ⟨[.n, .n], [], [([.n], [])]⟩
def JN (n : Nat) : FSpec := KA.sp (yc n)
theorem Mq (n : Nat) : FSound Tryz.prog 62 (JN n) := fs2 (S := KA) (b := xZ n) Tryz.func62 rfl rfl [.tmp 4] .a (nt2 (xZ n) (by intros; unfold xZ; simp only [ay])) trivial
def wO (n : Nat) (a0 a1 a2 : Int) (R : Type) (K : Int → Option R) : Option R := (zn n a0 a1 a2).bind fun o376 => (cond (!o376) (K (0 : Int)) ((vQ n a0 a1 a2).bind fun o377 => ((zP n (IntKind.i64.wrap (o377 + (3 : Int))) (7 : Int)).bind fun o378 => (K (IntKind.i64.wrap (o378.2.1 + (1 : Int)))))))
def zG n a0 a1 a2 := wO n a0 a1 a2 _ some
def JO : FS := ⟨[.a [.n, .n, .n]], [], [([.n], [])]⟩
def IM (n : Nat) : FSpec := JO.sp (zG n)
theorem Li (n : Nat) : FSound Tryz.prog 143 (IM n) := fs2 (S := JO) (b := wO n) Tryz.func143 rfl rfl [.tmp 2] (.s .a (.s (.s (.r [(1, .cl 78 (Gt n))]) .a) (.s (.r [(1, .cl 76 (zk n)), (3, .cl 40 (Ku n)), (7, .tk [9])]) .a))) (nt3 (wO n) (by intros; unfold wO; simp only [ay])) (ai (Hq n) (ai (yD n) (ai (Kv n) trivial)))
def oO (n : Nat) (x7 : Bool) (h0_0 h0_1 h0_2 h0_3 h0_4 : Int) (R : Type) (K : W2 → Option R) : Option R := cond x7 (K (decide (h0_3 > (59 : Int)), h0_0, h0_1, h0_2, h0_3, h0_4)) (K (false, h0_0, h0_1, h0_2, h0_3, h0_4))
def vS n x7 h0_0 h0_1 h0_2 h0_3 h0_4 := oO n x7 h0_0 h0_1 h0_2 h0_3 h0_4 _ some
def yf : PS := ⟨[5], [(2, .q 0 0), (7, .b)], some [.c 85 [.c, .n, .n, .n, .n]], [⟨.normal, [2, 5], [(35, .b)], [.c 85 [.c, .n, .n, .n, .n]], none⟩], none, none⟩
def kK (n : Nat) (x9 x10 : Int) (R : Type) (A_ : Int → Int → Option R) (K : (Int) → Option R) : Option R := cond (decide (x9 ≥ x10)) (A_ (IntKind.i64.wrap (x9 - (7 : Int))) x10) (K x9)
def iJ (n : Nat) : Nat → Int → Int → Option ((Int))
 | 0, _, _ => none
 | m + 1, x9, x10 => kK n x9 x10 _ (iJ n m) some
def yg : PS := ⟨[8], [(9, .n), (10, .n)], none, [⟨(.exit 1), [8], [(9, .n)], [], none⟩], none, none⟩
theorem Jp (n : Nat) : Snd ⟨Tryz.prog, 0, 80⟩ (yf.x (vS n)) (fb Tryz.f104 4567) := iY (S := yf) (b := oO n) .a (nt6 (oO n) (by intros; unfold oO; simp only [ay])) trivial
theorem Jq (n : Nat) : Snd ⟨Tryz.prog, 0, 80⟩ (yg.x (iJ n n)) (fb Tryz.f104 1407) := mK (S := yg) (b := kK n) (f := iJ n) n .a (nl2 (kK n) (by intros; unfold kK; simp only [ay])) trivial
def tu (n : Nat) (a0 a1 a2 a3 a4 a5 : Int) (R : Type) (K : Int → Option R) : Option R := (yF n a5 (1 : Int) (1 : Int)).bind fun o373 => ((yE n a5 (2 : Int)).bind fun o374 => (cond (a0 == (2 : Int)) (K (IntKind.i64.wrap (o373.1 + a3))) (cond (a0 == (1 : Int)) ((vS n (o374 == (29 : Int)) a0 a1 a2 a3 a4).bind fun o375 => (cond o375.1 (K (IntKind.i64.wrap (o373.1 + o375.2.2.2.2.1))) (K (IntKind.i64.wrap ((IntKind.i64.wrap (o373.1 + o375.2.2.2.2.1)) - (1 : Int)))))) ((zG n a5 a1 (1 : Int)).bind fun o379 => ((yE n a5 a1).bind fun o380 => ((iJ n n (IntKind.i64.wrap ((Int.tmod (IntKind.i64.wrap ((IntKind.i64.wrap (a3 + (7 : Int))) - (Int.tmod o379 (7 : Int)))) (7 : Int)) + (IntKind.i64.wrap ((7 : Int) * (IntKind.i64.wrap (a2 - (1 : Int))))))) o380).bind fun o381 => ((yF n a5 a1 (1 : Int)).bind fun o382 => (K (IntKind.i64.wrap (o382.1 + o381))))))))))
def xw n a0 a1 a2 a3 a4 a5 := tu n a0 a1 a2 a3 a4 a5 _ some
def Hr : FS := ⟨[.a [.c, .n, .n, .n, .n], .n], [], [([.n], [])]⟩
def Gx (n : Nat) : FSpec := Hr.sp (xw n)
theorem JX (n : Nat) : FSound Tryz.prog 104 (Gx n) := fs2 (S := Hr) (b := tu n) Tryz.func104 rfl rfl [.tmp 4] (.s .a (.s (.r [(2, .cl 43 (Dt n)), (5, .tk [11])]) (.s (.r [(1, .cl 111 (Dr n))]) (.s (.s .a (.u (.s .a (.s .a (.s .a (.s (.s (.s (.p (yf.x (vS n))) .a) .a) .a)))))) (.s .a (.s (.d [(4, .cl 143 (IM n))] [(0, .peek [0] [0]), (1, .peek [0] [0]), (3, .peek [1] [1]), (4, .part [])]) (.s (.r [(3, .cl 111 (Dr n))]) (.s (.s .a (.u (.p (yg.x (iJ n n))))) (.s (.r [(1, .cl 43 (Dt n)), (4, .tk [72])]) .a))))))))) (nt6 (tu n) (by intros; unfold tu; simp only [ay])) (ai (C9 n) (ai (C8 n) (ai (Jp n) (ai (Li n) (ai (C8 n) (ai (Jq n) (ai (C9 n) trivial)))))))
def qU (n : Nat) (x1 : Int) (R : Type) (K : (Bool) → Option R) : Option R := cond (decide (x1 < (2 : Int))) (K true) (K (decide (x1 > (9998 : Int))))
def yH n x1 := qU n x1 _ some
def zR : PS := ⟨[2], [(1, .n)], none, [⟨.normal, [1, 2], [(10, .b)], [], none⟩], none, none⟩
theorem KC (n : Nat) : Snd ⟨Tryz.prog, 0, 24⟩ (zR.x (yH n)) (fb Tryz.f64 89) := iY (S := zR) (b := qU n) .a (nt1 (qU n) (by intros; unfold qU; simp only [ay])) trivial
def wP (n : Nat) (a0 a1 a2 a3 a4 a5 : Int) (R : Type) (K : (Int × Int) → Option R) : Option R := (nS n a0 a1 a2 a3 a4).bind fun o371 => (cond (!o371) (K ((0 : Int), (2 : Int))) ((yH n a5).bind fun o372 => (cond o372 (K ((0 : Int), (30 : Int))) ((xw n a0 a1 a2 a3 a4 a5).bind fun o383 => (K (IntKind.i64.wrap ((IntKind.i64.wrap (o383 * (86400 : Int))) + a4), (0 : Int)))))))
def wQ n a0 a1 a2 a3 a4 a5 := wP n a0 a1 a2 a3 a4 a5 _ some
def JP : FS := ⟨[.a [.c, .n, .n, .n, .n], .n], [], [([.n, .n], [])]⟩
def Db (n : Nat) : FSpec := JP.sp (wQ n)
theorem ER (n : Nat) : FSound Tryz.prog 64 (Db n) := fs2 (S := JP) (b := wP n) Tryz.func64 rfl rfl [.tmp 4, .tmp 5] (.s .a (.s (.u (.s (.r [(1, .cl 103 (uM n))]) (.s .a (.s (.p (zR.x (yH n))) .a)))) (.s (.d [(2, .cl 104 (Gx n))] [(0, .peek [0] [0]), (2, .part []), (4, .peek [0] [0]), (5, .peek [0] [0])]) .a))) (nt6 (wP n) (by intros; unfold wP; simp only [ay])) (ai (vP n) (ai (KC n) (ai (JX n) trivial)))
def zq (n : Nat) (a0 : Int) (a1 : Bool) (h0 : Int) (h1 : Bool) (h2 : Int) (h3 : Bool) (R : Type) (K : (Int × Bool × Int × Bool) → Option R) : Option R := cond (decide (a0 ≤ h0)) (cond (!h1) (K (h0, true, a0, a1)) (cond (decide (a0 > h2)) (K (h0, true, a0, a1)) (cond (a0 == h2) (cond (!a1) (K (h0, true, a0, a1)) (K (h0, h1, h2, h3))) (K (h0, h1, h2, h3))))) (K (h0, h1, h2, h3))
def zt n a0 a1 h0 h1 h2 h3 := zq n a0 a1 h0 h1 h2 h3 _ some
def LH : FS := ⟨[.n, .b, .q 0 0, .q 1 0, .q 2 0, .q 3 0], [.c 2 [.n], .c 4 [.b], .c 2 [.n], .c 4 [.b]], [([], [.c 2 [.n], .c 4 [.b], .c 2 [.n], .c 4 [.b]])]⟩
def Gy (n : Nat) : FSpec := LH.sp (zt n)
theorem Ht (n : Nat) : FSound Tryz.prog 63 (Gy n) := fs2 (S := LH) (b := zq n) Tryz.func63 rfl rfl [] .a (nt6 (zq n) (by intros; unfold zq; simp only [ay])) trivial
def u6 (n : Nat) (x13 : Int) (h0_0 h0_1 : Str) (h0_2 h0_3 h0_4 h0_5 h0_6 h0_7 h0_8 h0_9 h0_10 h0_11 h0_12 h0_13 h1_0 h2_0 h2_1 h2_2 h3_0 : Int) (h4_0 h5_0 : Bool) (R : Type) (A_ : Int → Str → Str → Int → Int → Int → Int → Int → Int → Int → Int → Int → Int → Int → Int → Int → Int → Int → Int → Int → Bool → Bool → Option R) (K : W14 → Option R) : Option R := cond (decide (x13 < (IntKind.i64.wrap (h2_0 + (2 : Int))))) ((wQ n h0_4 h0_5 h0_6 h0_7 h0_8 x13).bind fun o384 => ((wQ n h0_9 h0_10 h0_11 h0_12 h0_13 x13).bind fun o385 => ((zt n (IntKind.i64.wrap (o384.1 - h0_2)) true h1_0 h5_0 h3_0 h4_0).bind fun o386 => ((zt n (IntKind.i64.wrap (o385.1 - h0_3)) false o386.1 o386.2.1 o386.2.2.1 o386.2.2.2).bind fun o387 => (A_ (IntKind.i64.wrap (x13 + (1 : Int))) h0_0 h0_1 h0_2 h0_3 h0_4 h0_5 h0_6 h0_7 h0_8 h0_9 h0_10 h0_11 h0_12 h0_13 o387.1 h2_0 h2_1 h2_2 o387.2.2.1 o387.2.2.2 o387.2.1))))) (K (h0_0, h0_1, h0_2, h0_3, h0_4, h0_5, h0_6, h0_7, h0_8, h0_9, h0_10, h0_11, h0_12, h0_13, h1_0, h2_0, h2_1, h2_2, h3_0, h4_0, h5_0))
def nZ (n : Nat) : Nat → Int → Str → Str → Int → Int → Int → Int → Int → Int → Int → Int → Int → Int → Int → Int → Int → Int → Int → Int → Int → Bool → Bool → Option (W14)
 | 0, _, _, _, _, _, _, _, _, _, _, _, _, _, _, _, _, _, _, _, _, _, _ => none
 | m + 1, x13, h0_0, h0_1, h0_2, h0_3, h0_4, h0_5, h0_6, h0_7, h0_8, h0_9, h0_10, h0_11, h0_12, h0_13, h1_0, h2_0, h2_1, h2_2, h3_0, h4_0, h5_0 => u6 n x13 h0_0 h0_1 h0_2 h0_3 h0_4 h0_5 h0_6 h0_7 h0_8 h0_9 h0_10 h0_11 h0_12 h0_13 h1_0 h2_0 h2_1 h2_2 h3_0 h4_0 h5_0 _ (nZ n m) some
def Gz : PS := ⟨[10], [(2, .q 0 0), (7, .q 2 0), (12, .f (.func 63) [] [.q 1 0, .q 5 0, .q 3 0, .q 4 0]), (13, .n)], some [.c 87 [.s, .s, .n, .n, .c, .n, .n, .n, .n, .c, .n, .n, .n, .n], .c 2 [.n], .c 45 [.n, .n, .n], .c 2 [.n], .c 4 [.b], .c 4 [.b]], [⟨(.exit 1), [2, 10], [], [.c 87 [.s, .s, .n, .n, .c, .n, .n, .n, .n, .c, .n, .n, .n, .n], .c 2 [.n], .c 45 [.n, .n, .n], .c 2 [.n], .c 4 [.b], .c 4 [.b]], none⟩], none, none⟩
theorem Ob (n : Nat) : Snd ⟨Tryz.prog, 0, 82⟩ (Gz.x (nZ n n)) (fb Tryz.f33 1407) := mK (S := Gz) (b := u6 n) (f := nZ n) n (.s .a (.s (.u (.s (.r [(3, .cl 64 (Db n)), (6, .tk [51])]) (.s (.r [(3, .cl 64 (Db n)), (6, .tk [58])]) (.s (.r [(5, .cl 63 (Gy n))]) (.r [(5, .cl 63 (Gy n))]))))) .a)) (aaS (u6 n) (by intros; unfold u6; simp only [ay])) (ai (ER n) (ai (ER n) (ai (Ht n) (ai (Ht n) trivial))))
def yh (n : Nat) (a0 a1 : Str) (a2 a3 a4 a5 a6 a7 a8 a9 a10 a11 a12 a13 a14 : Int) (R : Type) (K : (Int × Bool) → Option R) : Option R := (uU n a0 a1 a2 a3 a4 a5 a6 a7 a8 a9 a10 a11 a12 a13).bind fun o368 => (cond (!o368) (K ((0 : Int), false)) (cond (a1 == ([] : Str)) (K (a2, false)) ((yc n (IntKind.i64.wrap ((if (-10000000000 : Int) < (if a14 < (100000000000 : Int) then a14 else (100000000000 : Int)) then (if a14 < (100000000000 : Int) then a14 else (100000000000 : Int)) else (-10000000000 : Int)) + a2)) (86400 : Int)).bind fun o369 => ((xU n o369).bind fun o370 => ((nZ n n (IntKind.i64.wrap (o370.1 - (2 : Int))) a0 a1 a2 a3 a4 a5 a6 a7 a8 a9 a10 a11 a12 a13 (if (-10000000000 : Int) < (if a14 < (100000000000 : Int) then a14 else (100000000000 : Int)) then (if a14 < (100000000000 : Int) then a14 else (100000000000 : Int)) else (-10000000000 : Int)) o370.1 o370.2.1 o370.2.2.1 (0 : Int) false false).bind fun o388 => (cond o388.2.2.2.2.2.2.2.2.2.2.2.2.2.2.2.2.2.2.2.1 (K (o388.2.2.2.1, true)) (K (o388.2.2.1, false))))))))
def tC n a0 a1 a2 a3 a4 a5 a6 a7 a8 a9 a10 a11 a12 a13 a14 := yh n a0 a1 a2 a3 a4 a5 a6 a7 a8 a9 a10 a11 a12 a13 a14 _ some
def OI : FS := ⟨[.a [.s, .s, .n, .n, .c, .n, .n, .n, .n, .c, .n, .n, .n, .n], .n], [], [([.n, .b], [])]⟩
def Nt (n : Nat) : FSpec := OI.sp (tC n)
theorem O0 (n : Nat) : FSound Tryz.prog 33 (Nt n) := fs2 (S := OI) (b := yh n) Tryz.func33 rfl rfl [.tmp 4, .tmp 5] (.s .a (.s (.u (.s (.r [(1, .cl 61 (Er n))]) .a)) (.s .a (.s (.r [(4, .cl 62 (JN n)), (5, .cl 41 (Ky n)), (8, .tk [31])]) (.s .a (.s .a (.s .a (.s (.s .a (.u (.p (Gz.x (nZ n n))))) .a)))))))) (ack (yh n) (by intros; unfold yh; simp only [ay])) (ai (Gj n) (ai (Mq n) (ai (Kz n) (ai (Ob n) trivial))))
def DX (n : Nat) (a0 : Int) (h0 : List (List AV)) (h1 h2 : List Int) (h3 : Str) (h4 : Int) (R : Type) (K : (Bool × (List (List AV)) × (List Int) × (List Int) × Str × Int) → Option R) : Option R := cond (decide (0 ≤ a0)) ((h1[a0.toNat]?).bind fun e391 => (K (decide (e391 > h4), h0, h1, h2, h3, h4))) none
def KD n a0 h0 h1 h2 h3 h4 := DX n a0 h0 h1 h2 h3 h4 _ some
def OJ : FS := ⟨[.n, .q 0 0, .q 1 0], [.c 26 [.L false 3, .l .i64, .l .i64, .s], .c 2 [.n]], [([.b], [.c 26 [.L false 3, .l .i64, .l .i64, .s], .c 2 [.n]])]⟩
def Nu (n : Nat) : FSpec := OJ.sp (KD n)
theorem O1 (n : Nat) : FSound Tryz.prog 66 (Nu n) := fs2 (S := OJ) (b := DX n) Tryz.func66 rfl rfl [.tmp 4] (.s .a (.s (.d [] [(0, .look), (4, .no)]) .a)) (nt6 (DX n) (by intros; unfold DX; simp only [ay])) trivial
def nY (n : Nat) (x5 x6 : Int) (h0_0 : List (List AV)) (h0_1 h0_2 : List Int) (h0_3 : Str) (h1_0 : Int) (R : Type) (A_ : Int → Int → (List (List AV)) → (List Int) → (List Int) → Str → Int → Option R) (K : W15 → Option R) : Option R := cond (decide (x5 < x6)) ((KD n (IntKind.i64.wrap (Int.fdiv (IntKind.u64.wrap (IntKind.i64.wrap (x5 + x6))) (2 ^ 1))) h0_0 h0_1 h0_2 h0_3 h1_0).bind fun o392 => (cond (!o392.1) (A_ (IntKind.i64.wrap ((IntKind.i64.wrap (Int.fdiv (IntKind.u64.wrap (IntKind.i64.wrap (x5 + x6))) (2 ^ 1))) + (1 : Int))) x6 o392.2.1 o392.2.2.1 o392.2.2.2.1 o392.2.2.2.2.1 o392.2.2.2.2.2) (A_ x5 (IntKind.i64.wrap (Int.fdiv (IntKind.u64.wrap (IntKind.i64.wrap (x5 + x6))) (2 ^ 1))) o392.2.1 o392.2.2.1 o392.2.2.2.1 o392.2.2.2.2.1 o392.2.2.2.2.2))) (K (x5, h0_0, h0_1, h0_2, h0_3, h1_0))
def lV (n : Nat) : Nat → Int → Int → (List (List AV)) → (List Int) → (List Int) → Str → Int → Option (W15)
 | 0, _, _, _, _, _, _, _ => none
 | m + 1, x5, x6, h0_0, h0_1, h0_2, h0_3, h1_0 => nY n x5 x6 h0_0 h0_1 h0_2 h0_3 h1_0 _ (lV n m) some
def Dc : PS := ⟨[], [(1, .f (.func 66) [] [.q 0 0, .q 1 0]), (5, .n), (6, .n)], some [.c 26 [.L false 3, .l .i64, .l .i64, .s], .c 2 [.n]], [⟨(.exit 0), [], [(5, .n)], [.c 26 [.L false 3, .l .i64, .l .i64, .s], .c 2 [.n]], none⟩], none, none⟩
theorem Mr (n : Nat) : Snd ⟨Tryz.prog, 2, 26⟩ (Dc.x (lV n n)) (fb Tryz.f65 19) := mK (S := Dc) (b := nY n) (f := lV n) n (.s .a (.u (.s .a (.s (.r [(2, .cl 66 (Nu n))]) .a)))) (nl7 (nY n) (by intros; unfold nY; simp only [ay])) (ai (O1 n) trivial)
def zu (n : Nat) (a0 : Int) (h0 : List (List AV)) (h1 h2 : List Int) (h3 : Str) (h4 : Int) (R : Type) (K : W15 → Option R) : Option R := (lV n n (0 : Int) a0 h0 h1 h2 h3 h4).bind fun o393 => (K (o393.1, o393.2.1, o393.2.2.1, o393.2.2.2.1, o393.2.2.2.2.1, o393.2.2.2.2.2))
def Ie n a0 h0 h1 h2 h3 h4 := zu n a0 h0 h1 h2 h3 h4 _ some
def LJ : FS := ⟨[.n, .f (.func 66) [] [.q 0 0, .q 1 0]], [.c 26 [.L false 3, .l .i64, .l .i64, .s], .c 2 [.n]], [([.n], [.c 26 [.L false 3, .l .i64, .l .i64, .s], .c 2 [.n]])]⟩
def KE (n : Nat) : FSpec := LJ.sp (Ie n)
theorem Nv (n : Nat) : FSound Tryz.prog 65 (KE n) := fs2 (S := LJ) (b := zu n) Tryz.func65 rfl rfl [.tmp 4] (.s .a (.s .a (.s (.u (.p (Dc.x (lV n n)))) .a))) (nt6 (zu n) (by intros; unfold zu; simp only [ay])) (ai (Mr n) trivial)
def DY (n : Nat) (a0 : Int) (a1 : Bool) (a2 : Str) (R : Type) (K : Bool → Option R) : Option R := K (!a1)
def KF n a0 a1 a2 := DY n a0 a1 a2 _ some
def OL : FS := ⟨[.a [.n, .b, .s]], [], [([.b], [])]⟩
def Nw (n : Nat) : FSpec := OL.sp (KF n)
theorem O3 (n : Nat) : FSound Tryz.prog 68 (Nw n) := fs2 (S := OL) (b := DY n) Tryz.func68 rfl rfl [.tmp 2] .a (nt3 (DY n) (by intros; unfold DY; simp only [ay])) trivial
def u7 (n : Nat) (x0 : List (List AV)) (x7 x8 : Int) (R : Type) (A_ : (List (List AV)) → Int → Int → Option R) (K : ((Int) ⊕ (Unit)) → Option R) : Option R := cond (decide (x8 < x7)) (cond (decide (0 ≤ x8)) ((x0[x8.toNat]?).bind fun e396 => (unc e396 fun c397 r398 => yu .i64 c397 fun x399 => unc r398 fun c400 r401 => yV c400 fun x402 => unc r401 fun c403 r404 => yX c403 fun x405 => unn r404 ((KF n x399 x402 x405).bind fun o406 => (cond o406 (K (Sum.inl x8)) (A_ x0 x7 (IntKind.i64.wrap (x8 + (1 : Int)))))))) none) (K (Sum.inr ()))
def tF (n : Nat) : Nat → (List (List AV)) → Int → Int → Option ((Int) ⊕ (Unit))
 | 0, _, _, _ => none
 | m + 1, x0, x7, x8 => u7 n x0 x7 x8 _ (tF n m) some
def GA : PS := ⟨[], [(0, .L false 3), (1, .f (.func 68) [] []), (7, .n), (8, .n)], some [], [⟨.ret, [], [(4, .n)], [], none⟩, ⟨(.exit 0), [], [], [], none⟩], none, none⟩
theorem Oc (n : Nat) : Snd ⟨Tryz.prog, 0, 19⟩ (GA.x (tF n n)) (fb Tryz.f67 21) := mK (S := GA) (b := u7 n) (f := tF n) n (.s .a (.s .a (.s (.u (.s .a (.s (.r [(5, .cl 68 (Nw n))]) .a))) .a))) (nl3 (u7 n) (by intros; unfold u7; simp only [ay])) (ai (O3 n) trivial)
def DZ (n : Nat) (a0 : List (List AV)) (R : Type) (K : Int → Option R) : Option R := (tF n n a0 (a0.length : Int) (0 : Int)).bind fun o407 => (Sum.elim (fun o408 => K o408) (fun o409 => K (-1 : Int)) o407)
def KG n a0 := DZ n a0 _ some
def OM : FS := ⟨[.L false 3, .f (.func 68) [] []], [], [([.n], [])]⟩
def Ny (n : Nat) : FSpec := OM.sp (KG n)
theorem O4 (n : Nat) : FSound Tryz.prog 67 (Ny n) := fs2 (S := OM) (b := DZ n) Tryz.func67 rfl rfl [.tmp 4] (.s .a (.s (.s .a (.u (.p (GA.x (tF n n))))) .a)) (nt1 (DZ n) (by intros; unfold DZ; simp only [ay])) (ai (Oc n) trivial)
def IP (n : Nat) (a0 : List (List AV)) (a1 a2 : List Int) (a3 : Str) (a4 : Int) (R : Type) (K : Int → Option R) : Option R := (Bn n a0 a1 a2 a3).bind fun o390 => (cond (!o390) (K (0 : Int)) ((Ie n (a1.length : Int) a0 a1 a2 a3 a4).bind fun o394 => (cond (decide (o394.1 > (0 : Int))) (cond (decide (0 ≤ (IntKind.i64.wrap (o394.1 - (1 : Int))))) ((o394.2.2.2.1[(IntKind.i64.wrap (o394.1 - (1 : Int))).toNat]?).bind fun e395 => (K e395)) none) ((KG n o394.2.1).bind fun o410 => (K (if (0 : Int) < o410 then o410 else (0 : Int)))))))
def IQ n a0 a1 a2 a3 a4 := IP n a0 a1 a2 a3 a4 _ some
def RF : FS := ⟨[.a [.L false 3, .l .i64, .l .i64, .s], .n], [], [([.n], [])]⟩
def Ms (n : Nat) : FSpec := RF.sp (IQ n)
theorem LM (n : Nat) : FSound Tryz.prog 34 (Ms n) := fs2 (S := RF) (b := IP n) Tryz.func34 rfl rfl [.tmp 4] (.s .a (.s (.s (.r [(1, .cl 50 (HY n))]) .a) (.s (.r [(4, .cl 65 (KE n))]) (.s .a (.s (.r [(2, .cl 67 (Ny n))]) .a))))) (nt5 (IP n) (by intros; unfold IP; simp only [ay])) (ai (IB n) (ai (Nv n) (ai (O4 n) trivial)))
def kL (n : Nat) (h0_0 : List (List AV)) (h0_1 h0_2 : List Int) (h0_3 h1_0 h1_1 : Str) (h1_2 h1_3 h1_4 h1_5 h1_6 h1_7 h1_8 h1_9 h1_10 h1_11 h1_12 h1_13 h3_0 : Int) (R : Type) (K : (Bool × (List (List AV)) × (List Int) × (List Int) × Str × Str × Str × Int × Int × Int × Int × Int × Int × Int × Int × Int × Int × Int × Int × Int) → Option R) : Option R := (qC n h3_0 h0_0 h0_1 h0_2 h0_3 h1_0 h1_1 h1_2 h1_3 h1_4 h1_5 h1_6 h1_7 h1_8 h1_9 h1_10 h1_11 h1_12 h1_13).bind fun o366 => (K (o366.1, o366.2.2.1, o366.2.2.2.1, o366.2.2.2.2.1, o366.2.2.2.2.2.1, o366.2.2.2.2.2.2.1, o366.2.2.2.2.2.2.2.1, o366.2.2.2.2.2.2.2.2.1, o366.2.2.2.2.2.2.2.2.2.1, o366.2.2.2.2.2.2.2.2.2.2.1, o366.2.2.2.2.2.2.2.2.2.2.2.1, o366.2.2.2.2.2.2.2.2.2.2.2.2.1, o366.2.2.2.2.2.2.2.2.2.2.2.2.2.1, o366.2.2.2.2.2.2.2.2.2.2.2.2.2.2.1, o366.2.2.2.2.2.2.2.2.2.2.2.2.2.2.2.1, o366.2.2.2.2.2.2.2.2.2.2.2.2.2.2.2.2.1, o366.2.2.2.2.2.2.2.2.2.2.2.2.2.2.2.2.2.1, o366.2.2.2.2.2.2.2.2.2.2.2.2.2.2.2.2.2.2.1, o366.2.2.2.2.2.2.2.2.2.2.2.2.2.2.2.2.2.2.2, o366.2.1))
def rP n h0_0 h0_1 h0_2 h0_3 h1_0 h1_1 h1_2 h1_3 h1_4 h1_5 h1_6 h1_7 h1_8 h1_9 h1_10 h1_11 h1_12 h1_13 h3_0 := kL n h0_0 h0_1 h0_2 h0_3 h1_0 h1_1 h1_2 h1_3 h1_4 h1_5 h1_6 h1_7 h1_8 h1_9 h1_10 h1_11 h1_12 h1_13 h3_0 _ some
def ve : PS := ⟨[5], [(2, .q 2 0), (6, .f (.func 32) [] [.q 2 0, .q 3 0])], some [.c 82 [.L false 3, .l .i64, .l .i64, .s, .q 1 0], .c 87 [.s, .s, .n, .n, .c, .n, .n, .n, .n, .c, .n, .n, .n, .n], .c 27 [.q 0 0], .c 2 [.n]], [⟨.normal, [2, 5], [(23, .b)], [.c 82 [.L false 3, .l .i64, .l .i64, .s, .q 1 0], .c 87 [.s, .s, .n, .n, .c, .n, .n, .n, .n, .c, .n, .n, .n, .n], .c 27 [.q 0 0], .c 2 [.n]], none⟩], none, none⟩
theorem G5 (n : Nat) : Snd ⟨Tryz.prog, 2, 52⟩ (ve.x (rP n)) (fb Tryz.f12 79) := iY (S := ve) (b := kL n) (.r [(7, .cl 32 (Ap n))]) (Zx (kL n) (by intros; unfold kL; simp only [ay])) (ai (Gw n) trivial)
def oP (n : Nat) (a0 : Int) (h0 : List (List AV)) (h1 h2 : List Int) (h3 h4 h5 : Str) (h6 h7 h8 h9 h10 h11 h12 h13 h14 h15 h16 h17 : Int) (R : Type) (K : (Int × (List (List AV)) × (List Int) × (List Int) × Str × Str × Str × Int × Int × Int × Int × Int × Int × Int × Int × Int × Int × Int × Int) → Option R) : Option R := (rP n h0 h1 h2 h3 h4 h5 h6 h7 h8 h9 h10 h11 h12 h13 h14 h15 h16 h17 (if (-10000000000 : Int) < (if a0 < (100000000000 : Int) then a0 else (100000000000 : Int)) then (if a0 < (100000000000 : Int) then a0 else (100000000000 : Int)) else (-10000000000 : Int))).bind fun o367 => (cond o367.1 ((tC n o367.2.2.2.2.2.1 o367.2.2.2.2.2.2.1 o367.2.2.2.2.2.2.2.1 o367.2.2.2.2.2.2.2.2.1 o367.2.2.2.2.2.2.2.2.2.1 o367.2.2.2.2.2.2.2.2.2.2.1 o367.2.2.2.2.2.2.2.2.2.2.2.1 o367.2.2.2.2.2.2.2.2.2.2.2.2.1 o367.2.2.2.2.2.2.2.2.2.2.2.2.2.1 o367.2.2.2.2.2.2.2.2.2.2.2.2.2.2.1 o367.2.2.2.2.2.2.2.2.2.2.2.2.2.2.2.1 o367.2.2.2.2.2.2.2.2.2.2.2.2.2.2.2.2.1 o367.2.2.2.2.2.2.2.2.2.2.2.2.2.2.2.2.2.1 o367.2.2.2.2.2.2.2.2.2.2.2.2.2.2.2.2.2.2.1 o367.2.2.2.2.2.2.2.2.2.2.2.2.2.2.2.2.2.2.2).bind fun o389 => (K (o389.1, o367.2.1, o367.2.2.1, o367.2.2.2.1, o367.2.2.2.2.1, o367.2.2.2.2.2.1, o367.2.2.2.2.2.2.1, o367.2.2.2.2.2.2.2.1, o367.2.2.2.2.2.2.2.2.1, o367.2.2.2.2.2.2.2.2.2.1, o367.2.2.2.2.2.2.2.2.2.2.1, o367.2.2.2.2.2.2.2.2.2.2.2.1, o367.2.2.2.2.2.2.2.2.2.2.2.2.1, o367.2.2.2.2.2.2.2.2.2.2.2.2.2.1, o367.2.2.2.2.2.2.2.2.2.2.2.2.2.2.1, o367.2.2.2.2.2.2.2.2.2.2.2.2.2.2.2.1, o367.2.2.2.2.2.2.2.2.2.2.2.2.2.2.2.2.1, o367.2.2.2.2.2.2.2.2.2.2.2.2.2.2.2.2.2.1, o367.2.2.2.2.2.2.2.2.2.2.2.2.2.2.2.2.2.2.1))) ((IQ n o367.2.1 o367.2.2.1 o367.2.2.2.1 o367.2.2.2.2.1 o367.2.2.2.2.2.2.2.2.2.2.2.2.2.2.2.2.2.2.2).bind fun o411 => (cond (decide (0 ≤ o411)) ((o367.2.1[o411.toNat]?).bind fun e412 => (unc e412 fun c413 r414 => yu .i64 c413 fun x415 => unc r414 fun c416 r417 => yV c416 fun x418 => unc r417 fun c419 r420 => yX c419 fun x421 => unn r420 (K (x415, o367.2.1, o367.2.2.1, o367.2.2.2.1, o367.2.2.2.2.1, o367.2.2.2.2.2.1, o367.2.2.2.2.2.2.1, o367.2.2.2.2.2.2.2.1, o367.2.2.2.2.2.2.2.2.1, o367.2.2.2.2.2.2.2.2.2.1, o367.2.2.2.2.2.2.2.2.2.2.1, o367.2.2.2.2.2.2.2.2.2.2.2.1, o367.2.2.2.2.2.2.2.2.2.2.2.2.1, o367.2.2.2.2.2.2.2.2.2.2.2.2.2.1, o367.2.2.2.2.2.2.2.2.2.2.2.2.2.2.1, o367.2.2.2.2.2.2.2.2.2.2.2.2.2.2.2.1, o367.2.2.2.2.2.2.2.2.2.2.2.2.2.2.2.2.1, o367.2.2.2.2.2.2.2.2.2.2.2.2.2.2.2.2.2.1, o367.2.2.2.2.2.2.2.2.2.2.2.2.2.2.2.2.2.2.1)))) none)))
def fK n a0 h0 h1 h2 h3 h4 h5 h6 h7 h8 h9 h10 h11 h12 h13 h14 h15 h16 h17 := oP n a0 h0 h1 h2 h3 h4 h5 h6 h7 h8 h9 h10 h11 h12 h13 h14 h15 h16 h17 _ some
def D5 : FS := ⟨[.q 0 0, .n], [.c 82 [.L false 3, .l .i64, .l .i64, .s, .q 1 0], .c 87 [.s, .s, .n, .n, .c, .n, .n, .n, .n, .c, .n, .n, .n, .n]], [([.n], [.c 82 [.L false 3, .l .i64, .l .i64, .s, .q 1 0], .c 87 [.s, .s, .n, .n, .c, .n, .n, .n, .n, .c, .n, .n, .n, .n]])]⟩
def nI (n : Nat) : FSpec := D5.sp (fK n)
theorem og (n : Nat) : FSound Tryz.prog 12 (nI n) := fs2 (S := D5) (b := oP n) Tryz.func12 rfl rfl [.tmp 4] (.s .a (.s .a (.s .a (.s .a (.s (.s (.p (ve.x (rP n))) (.s (.s (.d [(7, .cl 33 (Nt n))] [(0, .peek [0, 1, 2] [2]), (1, .peek [0, 1] [0]), (2, .peek [0, 1] [0]), (3, .peek [0, 1] [0]), (4, .peek [1] [1]), (5, .peek [1] [1]), (6, .peek [3] [3]), (7, .part [])]) .a) .a)) (.s (.d [(12, .cl 34 (Ms n))] [(0, .peek [0, 1, 2] [2]), (1, .peek [0, 1] [0]), (2, .peek [0, 1] [0]), (3, .peek [0, 1] [0]), (4, .peek [0, 1] [0]), (5, .peek [0, 1] [0]), (6, .peek [0, 1, 2] [2]), (7, .peek [0, 1] [0]), (8, .peek [0, 1] [0]), (9, .peek [0, 1] [0]), (10, .peek [0, 1] [0]), (11, .peek [3] [3]), (12, .part []), (15, .no)]) .a)))))) (Zx (oP n) (by intros; unfold oP; simp only [ay])) (ai (G5 n) (ai (O0 n) (ai (LM n) trivial)))
def jB (n : Nat) (a0 a1 h0 : Int) (h1 : List Int) (h2 : List (List AV)) (h3 h4 : List Int) (h5 h6 h7 : Str) (h8 h9 h10 h11 h12 h13 h14 h15 h16 h17 h18 h19 : Int) (R : Type) (K : (Int × (List Int) × (List (List AV)) × (List Int) × (List Int) × Str × Str × Str × Int × Int × Int × Int × Int × Int × Int × Int × Int × Int × Int × Int) → Option R) : Option R := cond (decide ((IntKind.i64.wrap (h0 - (IntKind.i64.wrap (a1 * (1000000 : Int))))) ≥ (-10000000000000000 : Int))) (cond (decide ((IntKind.i64.wrap (h0 - (IntKind.i64.wrap (a1 * (1000000 : Int))))) ≤ (100000000000000000 : Int))) ((qA n (IntKind.i64.wrap (h0 - (IntKind.i64.wrap (a1 * (1000000 : Int))))) (1000000 : Int)).bind fun o364 => ((fK n o364 h2 h3 h4 h5 h6 h7 h8 h9 h10 h11 h12 h13 h14 h15 h16 h17 h18 h19).bind fun o422 => (cond (o422.1 == a1) (cond (decide ((h1.length + ([IntKind.i64.wrap (h0 - (IntKind.i64.wrap (a1 * (1000000 : Int))))] : List Int).length) * 8 ≤ 140737488355328)) (K (h0, h1 ++ ([IntKind.i64.wrap (h0 - (IntKind.i64.wrap (a1 * (1000000 : Int))))] : List Int), o422.2.1, o422.2.2.1, o422.2.2.2.1, o422.2.2.2.2.1, o422.2.2.2.2.2.1, o422.2.2.2.2.2.2.1, o422.2.2.2.2.2.2.2.1, o422.2.2.2.2.2.2.2.2.1, o422.2.2.2.2.2.2.2.2.2.1, o422.2.2.2.2.2.2.2.2.2.2.1, o422.2.2.2.2.2.2.2.2.2.2.2.1, o422.2.2.2.2.2.2.2.2.2.2.2.2.1, o422.2.2.2.2.2.2.2.2.2.2.2.2.2.1, o422.2.2.2.2.2.2.2.2.2.2.2.2.2.2.1, o422.2.2.2.2.2.2.2.2.2.2.2.2.2.2.2.1, o422.2.2.2.2.2.2.2.2.2.2.2.2.2.2.2.2.1, o422.2.2.2.2.2.2.2.2.2.2.2.2.2.2.2.2.2.1, o422.2.2.2.2.2.2.2.2.2.2.2.2.2.2.2.2.2.2)) none) (K (h0, h1, o422.2.1, o422.2.2.1, o422.2.2.2.1, o422.2.2.2.2.1, o422.2.2.2.2.2.1, o422.2.2.2.2.2.2.1, o422.2.2.2.2.2.2.2.1, o422.2.2.2.2.2.2.2.2.1, o422.2.2.2.2.2.2.2.2.2.1, o422.2.2.2.2.2.2.2.2.2.2.1, o422.2.2.2.2.2.2.2.2.2.2.2.1, o422.2.2.2.2.2.2.2.2.2.2.2.2.1, o422.2.2.2.2.2.2.2.2.2.2.2.2.2.1, o422.2.2.2.2.2.2.2.2.2.2.2.2.2.2.1, o422.2.2.2.2.2.2.2.2.2.2.2.2.2.2.2.1, o422.2.2.2.2.2.2.2.2.2.2.2.2.2.2.2.2.1, o422.2.2.2.2.2.2.2.2.2.2.2.2.2.2.2.2.2.1, o422.2.2.2.2.2.2.2.2.2.2.2.2.2.2.2.2.2.2))))) (K (h0, h1, h2, h3, h4, h5, h6, h7, h8, h9, h10, h11, h12, h13, h14, h15, h16, h17, h18, h19))) (K (h0, h1, h2, h3, h4, h5, h6, h7, h8, h9, h10, h11, h12, h13, h14, h15, h16, h17, h18, h19))
def mZ n a0 a1 h0 h1 h2 h3 h4 h5 h6 h7 h8 h9 h10 h11 h12 h13 h14 h15 h16 h17 h18 h19 := jB n a0 a1 h0 h1 h2 h3 h4 h5 h6 h7 h8 h9 h10 h11 h12 h13 h14 h15 h16 h17 h18 h19 _ some
def yL : FS := ⟨[.n, .n, .q 0 0, .q 1 0, .q 2 0], [.c 27 [.q 3 0], .c 2 [.n], .c 23 [.I true .i64], .c 82 [.L false 3, .l .i64, .l .i64, .s, .q 4 0], .c 87 [.s, .s, .n, .n, .c, .n, .n, .n, .n, .c, .n, .n, .n, .n]], [([.x (.bool true)], [.c 27 [.q 3 0], .c 2 [.n], .c 23 [.I true .i64], .c 82 [.L false 3, .l .i64, .l .i64, .s, .q 4 0], .c 87 [.s, .s, .n, .n, .c, .n, .n, .n, .n, .c, .n, .n, .n, .n]])]⟩
def yj (n : Nat) : FSpec := yL.sp (mZ n)
theorem D6 (n : Nat) : RSound Tryz.prog 0 (yj n) := Vy (S := yL) (b := jB n) (nt := 48) (ps := [23, 24]) (sl := [2, 6, 8]) (ca := (Tryz.f20.body.getD .skip).a2.a2.a2.a2.a1.a2.a1.ra) (cb := (Tryz.f20.body.getD .skip).a2.a2.a2.a2.a1.a2.a1.rb) (by kernel_rfl) .a (.u (.s .a (.s (.d [(9, .cl 39 (uq n)), (10, .cl 12 (nI n))] [(7, .peek [0, 3, 4] [0]), (9, .part []), (10, .part [3, 4])]) (.s (.r [(0, .lt), (3, .tk [43]), (4, .tk [46])]) .a)))) (abO (jB n) (by intros; unfold jB; simp only [ay])) trivial (ai (qJ n) (ai (og n) trivial))
def bM (n : Nat) (x3 : Int) (h1_0 : List Int) (h3_0 : Int) (h4_0 : List Int) (h5_0 : List (List AV)) (h5_1 h5_2 : List Int) (h5_3 h6_0 h6_1 : Str) (h6_2 h6_3 h6_4 h6_5 h6_6 h6_7 h6_8 h6_9 h6_10 h6_11 h6_12 h6_13 : Int) (R : Type) (A_ : Int → (List Int) → Int → (List Int) → (List (List AV)) → (List Int) → (List Int) → Str → Str → Str → Int → Int → Int → Int → Int → Int → Int → Int → Int → Int → Int → Int → Option R) (K : W16 → Option R) : Option R := cond (decide (x3 ≥ (0 : Int))) (cond (decide (0 ≤ x3)) ((h1_0[x3.toNat]?).bind fun e363 => ((mZ n x3 e363 h3_0 h4_0 h5_0 h5_1 h5_2 h5_3 h6_0 h6_1 h6_2 h6_3 h6_4 h6_5 h6_6 h6_7 h6_8 h6_9 h6_10 h6_11 h6_12 h6_13).bind fun o423 => (A_ (IntKind.i64.wrap (x3 - (1 : Int))) h1_0 o423.1 o423.2.1 o423.2.2.1 o423.2.2.2.1 o423.2.2.2.2.1 o423.2.2.2.2.2.1 o423.2.2.2.2.2.2.1 o423.2.2.2.2.2.2.2.1 o423.2.2.2.2.2.2.2.2.1 o423.2.2.2.2.2.2.2.2.2.1 o423.2.2.2.2.2.2.2.2.2.2.1 o423.2.2.2.2.2.2.2.2.2.2.2.1 o423.2.2.2.2.2.2.2.2.2.2.2.2.1 o423.2.2.2.2.2.2.2.2.2.2.2.2.2.1 o423.2.2.2.2.2.2.2.2.2.2.2.2.2.2.1 o423.2.2.2.2.2.2.2.2.2.2.2.2.2.2.2.1 o423.2.2.2.2.2.2.2.2.2.2.2.2.2.2.2.2.1 o423.2.2.2.2.2.2.2.2.2.2.2.2.2.2.2.2.2.1 o423.2.2.2.2.2.2.2.2.2.2.2.2.2.2.2.2.2.2.1 o423.2.2.2.2.2.2.2.2.2.2.2.2.2.2.2.2.2.2.2))) none) (K (h1_0, h3_0, h4_0, h5_0, h5_1, h5_2, h5_3, h6_0, h6_1, h6_2, h6_3, h6_4, h6_5, h6_6, h6_7, h6_8, h6_9, h6_10, h6_11, h6_12, h6_13))
def aV (n : Nat) : Nat → Int → (List Int) → Int → (List Int) → (List (List AV)) → (List Int) → (List Int) → Str → Str → Str → Int → Int → Int → Int → Int → Int → Int → Int → Int → Int → Int → Int → Option (W16)
 | 0, _, _, _, _, _, _, _, _, _, _, _, _, _, _, _, _, _, _, _, _, _, _ => none
 | m + 1, x3, h1_0, h3_0, h4_0, h5_0, h5_1, h5_2, h5_3, h6_0, h6_1, h6_2, h6_3, h6_4, h6_5, h6_6, h6_7, h6_8, h6_9, h6_10, h6_11, h6_12, h6_13 => bM n x3 h1_0 h3_0 h4_0 h5_0 h5_1 h5_2 h5_3 h6_0 h6_1 h6_2 h6_3 h6_4 h6_5 h6_6 h6_7 h6_8 h6_9 h6_10 h6_11 h6_12 h6_13 _ (aV n m) some
def lW : PS := ⟨[], [(0, .x (.yld 0)), (1, .q 1 0), (3, .n)], some [.lp 0 [.q 2 0, .q 3 0, .q 4 0], .c 24 [.l .i64], .c 27 [.q 5 0], .c 2 [.n], .c 23 [.I true .i64], .c 82 [.L false 3, .l .i64, .l .i64, .s, .q 6 0], .c 87 [.s, .s, .n, .n, .c, .n, .n, .n, .n, .c, .n, .n, .n, .n]], [⟨(.exit 0), [], [], [.lp 0 [.q 2 0, .q 3 0, .q 4 0], .c 24 [.l .i64], .c 27 [.q 5 0], .c 2 [.n], .c 23 [.I true .i64], .c 82 [.L false 3, .l .i64, .l .i64, .s, .q 6 0], .c 87 [.s, .s, .n, .n, .c, .n, .n, .n, .n, .c, .n, .n, .n, .n]], none⟩], none, none⟩
theorem zS (n : Nat) : Snd ⟨Tryz.prog, 7, 19⟩ (lW.x (aV n n)) (fb Tryz.f77 5) := mK (S := lW) (b := bM n) (f := aV n) n (.s .a (.s (.u (.s (.r [(6, .cy 0 (yj n))]) .a)) .a)) (aaS (bM n) (by intros; unfold bM; simp only [ay])) (ai (D6 n) trivial)
def fM (n : Nat) (h0 : List Int) (h1 : Int) (h2 : List Int) (h3 : List (List AV)) (h4 h5 : List Int) (h6 h7 h8 : Str) (h9 h10 h11 h12 h13 h14 h15 h16 h17 h18 h19 h20 : Int) (R : Type) (K : W16 → Option R) : Option R := (aV n n (IntKind.i64.wrap ((h0.length : Int) - (1 : Int))) h0 h1 h2 h3 h4 h5 h6 h7 h8 h9 h10 h11 h12 h13 h14 h15 h16 h17 h18 h19 h20).bind fun o424 => (K (o424.1, o424.2.1, o424.2.2.1, o424.2.2.2.1, o424.2.2.2.2.1, o424.2.2.2.2.2.1, o424.2.2.2.2.2.2.1, o424.2.2.2.2.2.2.2.1, o424.2.2.2.2.2.2.2.2.1, o424.2.2.2.2.2.2.2.2.2.1, o424.2.2.2.2.2.2.2.2.2.2.1, o424.2.2.2.2.2.2.2.2.2.2.2.1, o424.2.2.2.2.2.2.2.2.2.2.2.2.1, o424.2.2.2.2.2.2.2.2.2.2.2.2.2.1, o424.2.2.2.2.2.2.2.2.2.2.2.2.2.2.1, o424.2.2.2.2.2.2.2.2.2.2.2.2.2.2.2.1, o424.2.2.2.2.2.2.2.2.2.2.2.2.2.2.2.2.1, o424.2.2.2.2.2.2.2.2.2.2.2.2.2.2.2.2.2.1, o424.2.2.2.2.2.2.2.2.2.2.2.2.2.2.2.2.2.2.1, o424.2.2.2.2.2.2.2.2.2.2.2.2.2.2.2.2.2.2.2.1, o424.2.2.2.2.2.2.2.2.2.2.2.2.2.2.2.2.2.2.2.2))
def oQ n h0 h1 h2 h3 h4 h5 h6 h7 h8 h9 h10 h11 h12 h13 h14 h15 h16 h17 h18 h19 h20 := fM n h0 h1 h2 h3 h4 h5 h6 h7 h8 h9 h10 h11 h12 h13 h14 h15 h16 h17 h18 h19 h20 _ some
def vE : FS := ⟨[.x (.yld 0), .q 1 0], [.lp 0 [.q 2 0, .q 3 0, .q 4 0], .c 24 [.l .i64], .c 27 [.q 5 0], .c 2 [.n], .c 23 [.I true .i64], .c 82 [.L false 3, .l .i64, .l .i64, .s, .q 6 0], .c 87 [.s, .s, .n, .n, .c, .n, .n, .n, .n, .c, .n, .n, .n, .n]], [([], [.lp 0 [.q 2 0, .q 3 0, .q 4 0], .c 24 [.l .i64], .c 27 [.q 5 0], .c 2 [.n], .c 23 [.I true .i64], .c 82 [.L false 3, .l .i64, .l .i64, .s, .q 6 0], .c 87 [.s, .s, .n, .n, .c, .n, .n, .n, .n, .c, .n, .n, .n, .n]])]⟩
def vg (n : Nat) : FSpec := vE.sp (oQ n)
theorem AR (n : Nat) : FSound Tryz.prog 77 (vg n) := fs2 (S := vE) (b := fM n) Tryz.func77 rfl rfl [] (.s .a (.u (.p (lW.x (aV n n))))) (aaT (fM n) (by intros; unfold fM; simp only [ay])) (ai (zS n) trivial)
def lX (n : Nat) (a0 a1 a2 a3 a4 a5 a6 : Int) (h0 : List (List AV)) (h1 h2 : List Int) (h3 h4 h5 : Str) (h6 h7 h8 h9 h10 h11 h12 h13 h14 h15 h16 h17 : Int) (R : Type) (K : ((List Int) × Int × (List (List AV)) × (List Int) × (List Int) × Str × Str × Str × Int × Int × Int × Int × Int × Int × Int × Int × Int × Int × Int × Int) → Option R) : Option R := (ut n a0 a1 a2 a3 a4 a5 a6).bind fun o337 => (cond (o337.2 != (0 : Int)) (K (([] : List Int), o337.2, h0, h1, h2, h3, h4, h5, h6, h7, h8, h9, h10, h11, h12, h13, h14, h15, h16, h17)) ((nH n h0 h1 h2 h3 h4 h5 h6 h7 h8 h9 h10 h11 h12 h13 h14 h15 h16 h17).bind fun o361 => ((jA n o361.1).bind fun o362 => ((oQ n o362 o337.1 ([] : List Int) o361.2.1 o361.2.2.1 o361.2.2.2.1 o361.2.2.2.2.1 o361.2.2.2.2.2.1 o361.2.2.2.2.2.2.1 o361.2.2.2.2.2.2.2.1 o361.2.2.2.2.2.2.2.2.1 o361.2.2.2.2.2.2.2.2.2.1 o361.2.2.2.2.2.2.2.2.2.2.1 o361.2.2.2.2.2.2.2.2.2.2.2.1 o361.2.2.2.2.2.2.2.2.2.2.2.2.1 o361.2.2.2.2.2.2.2.2.2.2.2.2.2.1 o361.2.2.2.2.2.2.2.2.2.2.2.2.2.2.1 o361.2.2.2.2.2.2.2.2.2.2.2.2.2.2.2.1 o361.2.2.2.2.2.2.2.2.2.2.2.2.2.2.2.2.1 o361.2.2.2.2.2.2.2.2.2.2.2.2.2.2.2.2.2.1 o361.2.2.2.2.2.2.2.2.2.2.2.2.2.2.2.2.2.2).bind fun o425 => (K (o425.2.2.1, (0 : Int), o425.2.2.2.1, o425.2.2.2.2.1, o425.2.2.2.2.2.1, o425.2.2.2.2.2.2.1, o425.2.2.2.2.2.2.2.1, o425.2.2.2.2.2.2.2.2.1, o425.2.2.2.2.2.2.2.2.2.1, o425.2.2.2.2.2.2.2.2.2.2.1, o425.2.2.2.2.2.2.2.2.2.2.2.1, o425.2.2.2.2.2.2.2.2.2.2.2.2.1, o425.2.2.2.2.2.2.2.2.2.2.2.2.2.1, o425.2.2.2.2.2.2.2.2.2.2.2.2.2.2.1, o425.2.2.2.2.2.2.2.2.2.2.2.2.2.2.2.1, o425.2.2.2.2.2.2.2.2.2.2.2.2.2.2.2.2.1, o425.2.2.2.2.2.2.2.2.2.2.2.2.2.2.2.2.2.1, o425.2.2.2.2.2.2.2.2.2.2.2.2.2.2.2.2.2.2.1, o425.2.2.2.2.2.2.2.2.2.2.2.2.2.2.2.2.2.2.2.1, o425.2.2.2.2.2.2.2.2.2.2.2.2.2.2.2.2.2.2.2.2))))))
def lY n a0 a1 a2 a3 a4 a5 a6 h0 h1 h2 h3 h4 h5 h6 h7 h8 h9 h10 h11 h12 h13 h14 h15 h16 h17 := lX n a0 a1 a2 a3 a4 a5 a6 h0 h1 h2 h3 h4 h5 h6 h7 h8 h9 h10 h11 h12 h13 h14 h15 h16 h17 _ some
def vT : FS := ⟨[.q 0 0, .a [.n, .n, .n, .n, .n, .n, .n]], [.c 82 [.L false 3, .l .i64, .l .i64, .s, .q 1 0], .c 87 [.s, .s, .n, .n, .c, .n, .n, .n, .n, .c, .n, .n, .n, .n]], [([.I true .i64, .n], [.c 82 [.L false 3, .l .i64, .l .i64, .s, .q 1 0], .c 87 [.s, .s, .n, .n, .c, .n, .n, .n, .n, .c, .n, .n, .n, .n]])]⟩
def Aq (n : Nat) : FSpec := vT.sp (lY n)
theorem GD (n : Nat) : FSound Tryz.prog 20 (Aq n) := fs2 (S := vT) (b := lX n) Tryz.func20 rfl rfl [.tmp 4, .tmp 5] (.s .a (.s (.r [(1, .cl 21 (BZ n)), (4, .tk [12])]) (.s .a (.s .a (.s (.s (.r [(1, .cl 15 (vR n)), (2, .cl 42 (lS n))]) (.u (.p (NJ 0 [2, 6, 8] (vg n) 77 (.tmp 22))))) (.s (.r [(0, .lt), (1, .tk [47])]) .a)))))) (acE (lX n) (by intros; unfold lX; simp only [ay])) (ai (Ca n) (ai (yK n) (ai (oN n) (ai (Md (c := ⟨Tryz.prog, 2, 48⟩) (key := 0) (ts := [2, 6, 8]) (u := 22) (cd := (Tryz.f20.body.getD .skip).a2.a2.a2.a2.a1.a2.a1) (by kernel_rfl) (by kernel_rfl) (AR n)) trivial))))
def gU (n : Nat) (x15 : List (List AV)) (x16 x17 : Int) (h0_0 : List (List AV)) (h0_1 h0_2 : List Int) (h0_3 : Str) (h1_0 : List (Int × Int)) (R : Type) (A_ : (List (List AV)) → Int → Int → (List (List AV)) → (List Int) → (List Int) → Str → (List (Int × Int)) → Option R) (K : W17 → Option R) : Option R := cond (decide (x17 < x16)) (cond (decide (0 ≤ x17)) ((x15[x17.toNat]?).bind fun e441 => (unc e441 fun c442 r443 => yu .i64 c442 fun x444 => unc r443 fun c445 r446 => yV c445 fun x447 => unc r446 fun c448 r449 => yX c448 fun x450 => unn r449 (cond (sM x444 && sM (1 : Int)) (A_ x15 x16 (IntKind.i64.wrap (x17 + (1 : Int))) h0_0 h0_1 h0_2 h0_3 (zH h1_0 x444 (1 : Int))) none))) none) (K (h0_0, h0_1, h0_2, h0_3, h1_0))
def dP (n : Nat) : Nat → (List (List AV)) → Int → Int → (List (List AV)) → (List Int) → (List Int) → Str → (List (Int × Int)) → Option (W17)
 | 0, _, _, _, _, _, _, _, _ => none
 | m + 1, x15, x16, x17, h0_0, h0_1, h0_2, h0_3, h1_0 => gU n x15 x16 x17 h0_0 h0_1 h0_2 h0_3 h1_0 _ (dP n m) some
def uw : PS := ⟨[], [(0, .q 0 0), (3, .x (.map (some 1))), (15, .L false 3), (16, .n), (17, .n)], some [.c 82 [.L false 3, .l .i64, .l .i64, .s, .x (.ptr none)], .mI], [⟨(.exit 0), [0, 3], [], [.c 82 [.L false 3, .l .i64, .l .i64, .s, .x (.ptr none)], .mI], none⟩], (some 1), (some 1)⟩
theorem GG (n : Nat) : Snd ⟨Tryz.prog, 1, 57⟩ (uw.x (dP n n)) (fb Tryz.f15 87) := mK (S := uw) (b := gU n) (f := dP n) n (.s .a (.s .a (.s (.u (.s .a (.r [(3, .mi)]))) .a))) (nl8 (gU n) (by intros; unfold gU; simp only [ay])) trivial
def nJ (n : Nat) (h0 : List (List AV)) (h1 h2 : List Int) (h3 : Str) (R : Type) (K : ((List Int) × (List (List AV)) × (List Int) × (List Int) × Str) → Option R) : Option R := (dP n n h0 (h0.length : Int) (0 : Int) h0 h1 h2 h3 ([] : List (Int × Int))).bind fun o451 => ((bV n o451.2.2.2.2).bind fun o452 => (cond (decide (o452.length * 8 ≤ 140737488355328) && o452.all fun p => sM p.1 && sM p.2) (K ((o452.map (·.1)).mergeSort leI, o451.1, o451.2.1, o451.2.2.1, o451.2.2.2.1)) none))
def nK n h0 h1 h2 h3 := nJ n h0 h1 h2 h3 _ some
def CB : FS := ⟨[.q 0 0], [.c 82 [.L false 3, .l .i64, .l .i64, .s, .x (.ptr none)]], [([.I true .i64], [.c 82 [.L false 3, .l .i64, .l .i64, .s, .x (.ptr none)]])]⟩
def vU (n : Nat) : FSpec := CB.sp (nK n)
theorem yM (n : Nat) : FSound Tryz.prog 15 (vU n) := fs2 (S := CB) (b := nJ n) Tryz.func15 rfl rfl [.tmp 2] (.s .a (.s .a (.s (.r [(0, .mi)]) (.s (.s .a (.u (.p (uw.x (dP n n))))) (.s .a (.s (.r [(1, .cl 38 (lT n)), (2, .cl 37 (xY n)), (3, .tk [56])]) .a)))))) (nt4 (nJ n) (by intros; unfold nJ; simp only [ay])) (ai (GG n) (ai (qI n) (ai (Ao n) trivial)))
def kM (n : Nat) (h0_0 : List (List AV)) (h0_1 h0_2 : List Int) (h0_3 : Str) (h2_0 : Int) (R : Type) (K : W18 → Option R) : Option R := K (h0_0, h0_1, h0_2, h0_3, h2_0)
def rQ n h0_0 h0_1 h0_2 h0_3 h2_0 := kM n h0_0 h0_1 h0_2 h0_3 h2_0 _ some
def vk : PS := ⟨[5], [(2, .q 1 0), (6, .f (.func 32) [] [.q 1 0, .q 2 0])], some [.c 82 [.L false 3, .l .i64, .l .i64, .s, .x (.ptr none)], .c 27 [.q 0 0], .c 2 [.n]], [⟨.normal, [2, 5], [(23, .x (.bool false))], [.c 82 [.L false 3, .l .i64, .l .i64, .s, .x (.ptr none)], .c 27 [.q 0 0], .c 2 [.n]], none⟩], none, none⟩
theorem G6 (n : Nat) : Snd ⟨Tryz.prog, 1, 52⟩ (vk.x (rQ n)) (fb Tryz.f12 79) := iY (S := vk) (b := kM n) .a (nt5 (kM n) (by intros; unfold kM; simp only [ay])) trivial
def oU (n : Nat) (a0 : Int) (h0 : List (List AV)) (h1 h2 : List Int) (h3 : Str) (R : Type) (K : W1 → Option R) : Option R := (rQ n h0 h1 h2 h3 (if (-10000000000 : Int) < (if a0 < (100000000000 : Int) then a0 else (100000000000 : Int)) then (if a0 < (100000000000 : Int) then a0 else (100000000000 : Int)) else (-10000000000 : Int))).bind fun o457 => ((IQ n o457.1 o457.2.1 o457.2.2.1 o457.2.2.2.1 o457.2.2.2.2).bind fun o458 => (cond (decide (0 ≤ o458)) ((o457.1[o458.toNat]?).bind fun e459 => (unc e459 fun c460 r461 => yu .i64 c460 fun x462 => unc r461 fun c463 r464 => yV c463 fun x465 => unc r464 fun c466 r467 => yX c466 fun x468 => unn r467 (K (x462, o457.1, o457.2.1, o457.2.2.1, o457.2.2.2.1)))) none))
def iK n a0 h0 h1 h2 h3 := oU n a0 h0 h1 h2 h3 _ some
def D7 : FS := ⟨[.q 0 0, .n], [.c 82 [.L false 3, .l .i64, .l .i64, .s, .x (.ptr none)]], [([.n], [.c 82 [.L false 3, .l .i64, .l .i64, .s, .x (.ptr none)]])]⟩
def nL (n : Nat) : FSpec := D7.sp (iK n)
theorem oh (n : Nat) : FSound Tryz.prog 12 (nL n) := fs2 (S := D7) (b := oU n) Tryz.func12 rfl rfl [.tmp 4] (.s .a (.s .a (.s .a (.s .a (.s (.s (.p (vk.x (rQ n))) (.s (.s (.d [] [(0, .no), (3, .no), (5, .no), (6, .no)]) .a) .a)) (.s (.d [(12, .cl 34 (Ms n))] [(0, .peek [0, 1] [1]), (1, .peek [0] [0]), (2, .peek [0] [0]), (3, .peek [0] [0]), (4, .peek [0] [0]), (5, .peek [0] [0]), (6, .peek [0, 1] [1]), (7, .peek [0] [0]), (8, .peek [0] [0]), (9, .peek [0] [0]), (10, .peek [0] [0]), (11, .peek [2] [2]), (12, .part []), (15, .no)]) .a)))))) (nt5 (oU n) (by intros; unfold oU; simp only [ay])) (ai (G6 n) (ai (LM n) trivial))
def ng (n : Nat) (a0 a1 h0 : Int) (h1 : List Int) (h2 : List (List AV)) (h3 h4 : List Int) (h5 : Str) (R : Type) (K : (Int × (List Int) × (List (List AV)) × (List Int) × (List Int) × Str) → Option R) : Option R := cond (decide ((IntKind.i64.wrap (h0 - (IntKind.i64.wrap (a1 * (1000000 : Int))))) ≥ (-10000000000000000 : Int))) (cond (decide ((IntKind.i64.wrap (h0 - (IntKind.i64.wrap (a1 * (1000000 : Int))))) ≤ (100000000000000000 : Int))) ((qA n (IntKind.i64.wrap (h0 - (IntKind.i64.wrap (a1 * (1000000 : Int))))) (1000000 : Int)).bind fun o456 => ((iK n o456 h2 h3 h4 h5).bind fun o469 => (cond (o469.1 == a1) (cond (decide ((h1.length + ([IntKind.i64.wrap (h0 - (IntKind.i64.wrap (a1 * (1000000 : Int))))] : List Int).length) * 8 ≤ 140737488355328)) (K (h0, h1 ++ ([IntKind.i64.wrap (h0 - (IntKind.i64.wrap (a1 * (1000000 : Int))))] : List Int), o469.2.1, o469.2.2.1, o469.2.2.2.1, o469.2.2.2.2)) none) (K (h0, h1, o469.2.1, o469.2.2.1, o469.2.2.2.1, o469.2.2.2.2))))) (K (h0, h1, h2, h3, h4, h5))) (K (h0, h1, h2, h3, h4, h5))
def yN n a0 a1 h0 h1 h2 h3 h4 h5 := ng n a0 a1 h0 h1 h2 h3 h4 h5 _ some
def yO : FS := ⟨[.n, .n, .q 0 0, .q 1 0, .q 2 0], [.c 27 [.q 3 0], .c 2 [.n], .c 23 [.I true .i64], .c 82 [.L false 3, .l .i64, .l .i64, .s, .x (.ptr none)]], [([.x (.bool true)], [.c 27 [.q 3 0], .c 2 [.n], .c 23 [.I true .i64], .c 82 [.L false 3, .l .i64, .l .i64, .s, .x (.ptr none)]])]⟩
def yl (n : Nat) : FSpec := yO.sp (yN n)
theorem D8 (n : Nat) : RSound Tryz.prog 0 (yl n) := Vy (S := yO) (b := ng n) (nt := 48) (ps := [23, 24]) (sl := [2, 6, 8]) (ca := (Tryz.f20.body.getD .skip).a2.a2.a2.a2.a1.a2.a1.ra) (cb := (Tryz.f20.body.getD .skip).a2.a2.a2.a2.a1.a2.a1.rb) (by kernel_rfl) .a (.u (.s .a (.s (.d [(9, .cl 39 (uq n)), (10, .cl 12 (nL n))] [(7, .peek [0, 3] [0]), (9, .part []), (10, .part [3])]) (.s (.r [(0, .lt), (3, .tk [43]), (4, .tk [46])]) .a)))) (nt8 (ng n) (by intros; unfold ng; simp only [ay])) trivial (ai (qJ n) (ai (oh n) trivial))
def iq (n : Nat) (x3 : Int) (h1_0 : List Int) (h3_0 : Int) (h4_0 : List Int) (h5_0 : List (List AV)) (h5_1 h5_2 : List Int) (h5_3 : Str) (R : Type) (A_ : Int → (List Int) → Int → (List Int) → (List (List AV)) → (List Int) → (List Int) → Str → Option R) (K : W19 → Option R) : Option R := cond (decide (x3 ≥ (0 : Int))) (cond (decide (0 ≤ x3)) ((h1_0[x3.toNat]?).bind fun e455 => ((yN n x3 e455 h3_0 h4_0 h5_0 h5_1 h5_2 h5_3).bind fun o470 => (A_ (IntKind.i64.wrap (x3 - (1 : Int))) h1_0 o470.1 o470.2.1 o470.2.2.1 o470.2.2.2.1 o470.2.2.2.2.1 o470.2.2.2.2.2))) none) (K (h1_0, h3_0, h4_0, h5_0, h5_1, h5_2, h5_3))
def fe (n : Nat) : Nat → Int → (List Int) → Int → (List Int) → (List (List AV)) → (List Int) → (List Int) → Str → Option (W19)
 | 0, _, _, _, _, _, _, _, _ => none
 | m + 1, x3, h1_0, h3_0, h4_0, h5_0, h5_1, h5_2, h5_3 => iq n x3 h1_0 h3_0 h4_0 h5_0 h5_1 h5_2 h5_3 _ (fe n m) some
def lZ : PS := ⟨[], [(0, .x (.yld 0)), (1, .q 1 0), (3, .n)], some [.lp 0 [.q 2 0, .q 3 0, .q 4 0], .c 24 [.l .i64], .c 27 [.q 5 0], .c 2 [.n], .c 23 [.I true .i64], .c 82 [.L false 3, .l .i64, .l .i64, .s, .x (.ptr none)]], [⟨(.exit 0), [], [], [.lp 0 [.q 2 0, .q 3 0, .q 4 0], .c 24 [.l .i64], .c 27 [.q 5 0], .c 2 [.n], .c 23 [.I true .i64], .c 82 [.L false 3, .l .i64, .l .i64, .s, .x (.ptr none)]], none⟩], none, none⟩
theorem zT (n : Nat) : Snd ⟨Tryz.prog, 6, 19⟩ (lZ.x (fe n n)) (fb Tryz.f77 5) := mK (S := lZ) (b := iq n) (f := fe n) n (.s .a (.s (.u (.s (.r [(6, .cy 0 (yl n))]) .a)) .a)) (nl8 (iq n) (by intros; unfold iq; simp only [ay])) (ai (D8 n) trivial)
def jG (n : Nat) (h0 : List Int) (h1 : Int) (h2 : List Int) (h3 : List (List AV)) (h4 h5 : List Int) (h6 : Str) (R : Type) (K : W19 → Option R) : Option R := (fe n n (IntKind.i64.wrap ((h0.length : Int) - (1 : Int))) h0 h1 h2 h3 h4 h5 h6).bind fun o471 => (K (o471.1, o471.2.1, o471.2.2.1, o471.2.2.2.1, o471.2.2.2.2.1, o471.2.2.2.2.2.1, o471.2.2.2.2.2.2))
def vF n h0 h1 h2 h3 h4 h5 h6 := jG n h0 h1 h2 h3 h4 h5 h6 _ some
def vG : FS := ⟨[.x (.yld 0), .q 1 0], [.lp 0 [.q 2 0, .q 3 0, .q 4 0], .c 24 [.l .i64], .c 27 [.q 5 0], .c 2 [.n], .c 23 [.I true .i64], .c 82 [.L false 3, .l .i64, .l .i64, .s, .x (.ptr none)]], [([], [.lp 0 [.q 2 0, .q 3 0, .q 4 0], .c 24 [.l .i64], .c 27 [.q 5 0], .c 2 [.n], .c 23 [.I true .i64], .c 82 [.L false 3, .l .i64, .l .i64, .s, .x (.ptr none)]])]⟩
def vo (n : Nat) : FSpec := vG.sp (vF n)
theorem AU (n : Nat) : FSound Tryz.prog 77 (vo n) := fs2 (S := vG) (b := jG n) Tryz.func77 rfl rfl [] (.s .a (.u (.p (lZ.x (fe n n))))) (nt7 (jG n) (by intros; unfold jG; simp only [ay])) (ai (zT n) trivial)
def qD (n : Nat) (a0 a1 a2 a3 a4 a5 a6 : Int) (h0 : List (List AV)) (h1 h2 : List Int) (h3 : Str) (R : Type) (K : ((List Int) × Int × (List (List AV)) × (List Int) × (List Int) × Str) → Option R) : Option R := (ut n a0 a1 a2 a3 a4 a5 a6).bind fun o430 => (cond (o430.2 != (0 : Int)) (K (([] : List Int), o430.2, h0, h1, h2, h3)) ((nK n h0 h1 h2 h3).bind fun o453 => ((jA n o453.1).bind fun o454 => ((vF n o454 o430.1 ([] : List Int) o453.2.1 o453.2.2.1 o453.2.2.2.1 o453.2.2.2.2).bind fun o472 => (K (o472.2.2.1, (0 : Int), o472.2.2.2.1, o472.2.2.2.2.1, o472.2.2.2.2.2.1, o472.2.2.2.2.2.2))))))
def vV n a0 a1 a2 a3 a4 a5 a6 h0 h1 h2 h3 := qD n a0 a1 a2 a3 a4 a5 a6 h0 h1 h2 h3 _ some
def Ce : FS := ⟨[.q 0 0, .a [.n, .n, .n, .n, .n, .n, .n]], [.c 82 [.L false 3, .l .i64, .l .i64, .s, .x (.ptr none)]], [([.I true .i64, .n], [.c 82 [.L false 3, .l .i64, .l .i64, .s, .x (.ptr none)]])]⟩
def Ar (n : Nat) : FSpec := Ce.sp (vV n)
theorem GH (n : Nat) : FSound Tryz.prog 20 (Ar n) := fs2 (S := Ce) (b := qD n) Tryz.func20 rfl rfl [.tmp 4, .tmp 5] (.s .a (.s (.r [(1, .cl 21 (BZ n)), (4, .tk [12])]) (.s .a (.s .a (.s (.s (.r [(1, .cl 15 (vU n)), (2, .cl 42 (lS n))]) (.u (.p (NJ 0 [2, 6, 8] (vo n) 77 (.tmp 22))))) (.s (.r [(0, .lt), (1, .tk [47])]) .a)))))) (acz (qD n) (by intros; unfold qD; simp only [ay])) (ai (Ca n) (ai (yM n) (ai (oN n) (ai (Md (c := ⟨Tryz.prog, 1, 48⟩) (key := 0) (ts := [2, 6, 8]) (u := 22) (cd := (Tryz.f20.body.getD .skip).a2.a2.a2.a2.a1.a2.a1) (by kernel_rfl) (by kernel_rfl) (AU n)) trivial))))
def qV (n : Nat) : FSpec := RA xX.p (Cy n) (RA vT.p (Aq n) (Ar n))
theorem vH (n : Nat) : FSound Tryz.prog 20 (qV n) := Hm (Ic n) (Hm (GD n) (GH n))
def l5 (n : Nat) (R : Type) (K : Bool → Option R) : Option R := (pO n (0 : Int)).bind fun o307 => ((CX n ([[.int .i64 (0 : Int), .bool false, .str ([88] : Str)]] : List (List AV)) ([] : List Int) ([] : List Int) ([67, 69, 84, 45, 49, 67, 69, 83, 84, 44, 77, 51, 46, 53, 46, 48, 44, 77, 49, 48, 46, 53, 46, 48, 47, 51] : Str)).bind fun o308 => (Sum.elim (fun o309 => (xW n (2026 : Int) (3 : Int) (29 : Int) (2 : Int) (30 : Int) (0 : Int) (0 : Int)).bind fun o331 => ((xW n (2026 : Int) (10 : Int) (25 : Int) (2 : Int) (30 : Int) (0 : Int) (0 : Int)).bind fun o332 => (cond (o307.2.2.2.2.2.2.2 == (0 : Int)) (cond ((o307.1 == (1970 : Int)) && ((o307.2.1 == (1 : Int)) && ((o307.2.2.1 == (1 : Int)) && ((o307.2.2.2.1 == (0 : Int)) && ((o307.2.2.2.2.1 == (0 : Int)) && ((o307.2.2.2.2.2.1 == (0 : Int)) && ((o307.2.2.2.2.2.2.1 == (0 : Int)) && true))))))) (cond (o309 == (0 : Int)) (cond (o331.2 == (0 : Int)) (cond ((o331.1.length : Int) == (0 : Int)) (cond (o332.2 == (0 : Int)) (cond ((o332.1.length : Int) == (2 : Int)) ((o332.1[1]?).bind fun e333 => ((o332.1[0]?).bind fun e334 => (K ((IntKind.i64.wrap (e333 - e334)) == (3600000000 : Int))))) (K false)) (K false)) (K false)) (K false)) (K false)) (K false)) (K false)))) (fun o310 => Sum.elim (fun o335 => (lY n (2026 : Int) (3 : Int) (29 : Int) (2 : Int) (30 : Int) (0 : Int) (0 : Int) o335.1 o335.2.1 o335.2.2.1 o335.2.2.2.1 o335.2.2.2.2.1 o335.2.2.2.2.2.1 o335.2.2.2.2.2.2.1 o335.2.2.2.2.2.2.2.1 o335.2.2.2.2.2.2.2.2.1 o335.2.2.2.2.2.2.2.2.2.1 o335.2.2.2.2.2.2.2.2.2.2.1 o335.2.2.2.2.2.2.2.2.2.2.2.1 o335.2.2.2.2.2.2.2.2.2.2.2.2.1 o335.2.2.2.2.2.2.2.2.2.2.2.2.2.1 o335.2.2.2.2.2.2.2.2.2.2.2.2.2.2.1 o335.2.2.2.2.2.2.2.2.2.2.2.2.2.2.2.1 o335.2.2.2.2.2.2.2.2.2.2.2.2.2.2.2.2.1 o335.2.2.2.2.2.2.2.2.2.2.2.2.2.2.2.2.2).bind fun o426 => ((lY n (2026 : Int) (10 : Int) (25 : Int) (2 : Int) (30 : Int) (0 : Int) (0 : Int) o426.2.2.1 o426.2.2.2.1 o426.2.2.2.2.1 o426.2.2.2.2.2.1 o426.2.2.2.2.2.2.1 o426.2.2.2.2.2.2.2.1 o426.2.2.2.2.2.2.2.2.1 o426.2.2.2.2.2.2.2.2.2.1 o426.2.2.2.2.2.2.2.2.2.2.1 o426.2.2.2.2.2.2.2.2.2.2.2.1 o426.2.2.2.2.2.2.2.2.2.2.2.2.1 o426.2.2.2.2.2.2.2.2.2.2.2.2.2.1 o426.2.2.2.2.2.2.2.2.2.2.2.2.2.2.1 o426.2.2.2.2.2.2.2.2.2.2.2.2.2.2.2.1 o426.2.2.2.2.2.2.2.2.2.2.2.2.2.2.2.2.1 o426.2.2.2.2.2.2.2.2.2.2.2.2.2.2.2.2.2.1 o426.2.2.2.2.2.2.2.2.2.2.2.2.2.2.2.2.2.2.1 o426.2.2.2.2.2.2.2.2.2.2.2.2.2.2.2.2.2.2.2).bind fun o427 => (cond (o307.2.2.2.2.2.2.2 == (0 : Int)) (cond ((o307.1 == (1970 : Int)) && ((o307.2.1 == (1 : Int)) && ((o307.2.2.1 == (1 : Int)) && ((o307.2.2.2.1 == (0 : Int)) && ((o307.2.2.2.2.1 == (0 : Int)) && ((o307.2.2.2.2.2.1 == (0 : Int)) && ((o307.2.2.2.2.2.2.1 == (0 : Int)) && true))))))) (cond (o426.2.1 == (0 : Int)) (cond ((o426.1.length : Int) == (0 : Int)) (cond (o427.2.1 == (0 : Int)) (cond ((o427.1.length : Int) == (2 : Int)) ((o427.1[1]?).bind fun e428 => ((o427.1[0]?).bind fun e429 => (K ((IntKind.i64.wrap (e428 - e429)) == (3600000000 : Int))))) (K false)) (K false)) (K false)) (K false)) (K false)) (K false)))) (fun o336 => (vV n (2026 : Int) (3 : Int) (29 : Int) (2 : Int) (30 : Int) (0 : Int) (0 : Int) o336.1 o336.2.1 o336.2.2.1 o336.2.2.2).bind fun o473 => ((vV n (2026 : Int) (10 : Int) (25 : Int) (2 : Int) (30 : Int) (0 : Int) (0 : Int) o473.2.2.1 o473.2.2.2.1 o473.2.2.2.2.1 o473.2.2.2.2.2).bind fun o474 => (cond (o307.2.2.2.2.2.2.2 == (0 : Int)) (cond ((o307.1 == (1970 : Int)) && ((o307.2.1 == (1 : Int)) && ((o307.2.2.1 == (1 : Int)) && ((o307.2.2.2.1 == (0 : Int)) && ((o307.2.2.2.2.1 == (0 : Int)) && ((o307.2.2.2.2.2.1 == (0 : Int)) && ((o307.2.2.2.2.2.2.1 == (0 : Int)) && true))))))) (cond (o473.2.1 == (0 : Int)) (cond ((o473.1.length : Int) == (0 : Int)) (cond (o474.2.1 == (0 : Int)) (cond ((o474.1.length : Int) == (2 : Int)) ((o474.1[1]?).bind fun e475 => ((o474.1[0]?).bind fun e476 => (K ((IntKind.i64.wrap (e475 - e476)) == (3600000000 : Int))))) (K false)) (K false)) (K false)) (K false)) (K false)) (K false)))) o310) o308))
def aT n := l5 n _ some
def Cf : FS := ⟨[], [], [([.b], [])]⟩
def pR (n : Nat) : FSpec := Cf.sp (aT n)
theorem qW (n : Nat) : FSound Tryz.prog 10 (pR n) := fs2 (S := Cf) (b := l5 n) Tryz.func10 rfl rfl [.tmp 0] (.s .a (.s .a (.s (.r [(1, .cl 17 (zQ n)), (4, .tk [10])]) (.s (.r [(2, .tk [17]), (3, .cl 27 (Kr n)), (6, .tk [15])]) (.s (.r [(3, .cl 20 (qV n)), (4, .tk [26]), (6, .tk [22])]) (.s (.r [(3, .cl 20 (qV n)), (4, .tk [33]), (6, .tk [29])]) (.s (.d [] [(33, .no), (36, .no)]) .a))))))) (nt0 (l5 n) (by intros; unfold l5; simp only [ay])) (ai (Cw n) (ai (Kt n) (ai (vH n) (ai (vH n) trivial))))
end Go.Proofs.YtiegmpnagcdgoaaGreatDoor.H
namespace Go.Proofs.YtiegmpnagcdgoaaGreatDoor.H
open Go.Sh Go.RowKit
set_option linter.unusedVariables false
set_option linter.unusedSimpArgs false
set_option maxHeartbeats 4000000
set_option maxRecDepth 100000
def jX (n : Nat) (h0_0 : List (List AV)) (h0_1 h0_2 : List Int) (h0_3 : Str) (h1_0 : List (List AV)) (h1_1 h1_2 : List Int) (h1_3 h1_4 h1_5 : Str) (h1_6 h1_7 h1_8 h1_9 h1_10 h1_11 h1_12 h1_13 h1_14 h1_15 h1_16 h1_17 : Int) (h1_18 h1_19 : Bool) (R : Type) (K : W10 → Option R) : Option R := cond (decide ((h0_0.length : Int) > (40 : Int))) (K (true, h0_0, h0_1, h0_2, h0_3, h1_0, h1_1, h1_2, h1_3, h1_4, h1_5, h1_6, h1_7, h1_8, h1_9, h1_10, h1_11, h1_12, h1_13, h1_14, h1_15, h1_16, h1_17, h1_18, h1_19)) (K (decide ((h0_1.length : Int) > (300 : Int)), h0_0, h0_1, h0_2, h0_3, h1_0, h1_1, h1_2, h1_3, h1_4, h1_5, h1_6, h1_7, h1_8, h1_9, h1_10, h1_11, h1_12, h1_13, h1_14, h1_15, h1_16, h1_17, h1_18, h1_19))
def qE n h0_0 h0_1 h0_2 h0_3 h1_0 h1_1 h1_2 h1_3 h1_4 h1_5 h1_6 h1_7 h1_8 h1_9 h1_10 h1_11 h1_12 h1_13 h1_14 h1_15 h1_16 h1_17 h1_18 h1_19 := jX n h0_0 h0_1 h0_2 h0_3 h1_0 h1_1 h1_2 h1_3 h1_4 h1_5 h1_6 h1_7 h1_8 h1_9 h1_10 h1_11 h1_12 h1_13 h1_14 h1_15 h1_16 h1_17 h1_18 h1_19 _ some
def uy : PS := ⟨[5], [(2, .q 0 0)], some [.c 26 [.L false 3, .l .i64, .l .i64, .s], .c 36 [.L true 3, .I true .i64, .I true .i64, .s, .s, .s, .n, .n, .c, .n, .n, .n, .n, .c, .n, .n, .n, .n, .b, .b]], [⟨.normal, [2, 5], [(22, .b)], [.c 26 [.L false 3, .l .i64, .l .i64, .s], .c 36 [.L true 3, .I true .i64, .I true .i64, .s, .s, .s, .n, .n, .c, .n, .n, .n, .n, .c, .n, .n, .n, .n, .b, .b]], none⟩], none, none⟩
theorem GI (n : Nat) : Snd ⟨Tryz.prog, 0, 43⟩ (uy.x (qE n)) (fb Tryz.f9 19) := iY (S := uy) (b := jX n) .a (acD (jX n) (by intros; unfold jX; simp only [ay])) trivial
def nM (n : Nat) (a0 : List (List AV)) (a1 a2 : List Int) (a3 : Str) (a4 : Bool) (R : Type) (K : (((List (List AV)) × (List Int) × (List Int) × Str × Str × Str × Int × Int × Int × Int × Int × Int × Int × Int × Int × Int × Int × Int × Bool × Bool × Bool) ⊕ ((List (List AV)) × (List Int) × (List Int) × Str × Str × Str × Int × Int × Int × Int × Int × Int × Int × Int × Int × Int × Int × Int × Bool × Bool × (List (List AV)) × (List Int) × (List Int) × Str × Str × Str × Int × Int × Int × Int × Int × Int × Int × Int × Int × Int × Int × Int) ⊕ ((List (List AV)) × (List Int) × (List Int) × Str × Str × Str × Int × Int × Int × Int × Int × Int × Int × Int × Int × Int × Int × Int × Bool × Bool × (List (List AV)) × (List Int) × (List Int) × Str)) → Option R) : Option R := cond a4 (K (Sum.inl (([] : List (List AV)), ([] : List Int), ([] : List Int), ([] : Str), ([] : Str), ([] : Str), (0 : Int), (0 : Int), (0 : Int), (0 : Int), (0 : Int), (0 : Int), (0 : Int), (0 : Int), (0 : Int), (0 : Int), (0 : Int), (0 : Int), false, true, true))) ((qE n a0 a1 a2 a3 ([] : List (List AV)) ([] : List Int) ([] : List Int) ([] : Str) ([] : Str) ([] : Str) (0 : Int) (0 : Int) (0 : Int) (0 : Int) (0 : Int) (0 : Int) (0 : Int) (0 : Int) (0 : Int) (0 : Int) (0 : Int) (0 : Int) false false).bind fun o1 => (cond o1.1 (K (Sum.inl (([] : List (List AV)), ([] : List Int), ([] : List Int), ([] : Str), ([] : Str), ([] : Str), (0 : Int), (0 : Int), (0 : Int), (0 : Int), (0 : Int), (0 : Int), (0 : Int), (0 : Int), (0 : Int), (0 : Int), (0 : Int), (0 : Int), false, false, false))) ((CX n o1.2.1 o1.2.2.1 o1.2.2.2.1 o1.2.2.2.2.1).bind fun o129 => (Sum.elim (fun o130 => (ja n o1.2.1 o1.2.2.1 o1.2.2.2.1 o1.2.2.2.2.1).bind fun o143 => ((fJ n o143.1 o143.2.1 o143.2.2.1 o143.2.2.2).bind fun o283 => (cond (o130 == (0 : Int)) (K (Sum.inl (o283.1, o283.2.1, o283.2.2.1, o283.2.2.2.1, o283.2.2.2.2.1, o283.2.2.2.2.2.1, o283.2.2.2.2.2.2.1, o283.2.2.2.2.2.2.2.1, o283.2.2.2.2.2.2.2.2.1, o283.2.2.2.2.2.2.2.2.2.1, o283.2.2.2.2.2.2.2.2.2.2.1, o283.2.2.2.2.2.2.2.2.2.2.2.1, o283.2.2.2.2.2.2.2.2.2.2.2.2.1, o283.2.2.2.2.2.2.2.2.2.2.2.2.2.1, o283.2.2.2.2.2.2.2.2.2.2.2.2.2.2.1, o283.2.2.2.2.2.2.2.2.2.2.2.2.2.2.2.1, o283.2.2.2.2.2.2.2.2.2.2.2.2.2.2.2.2.1, o283.2.2.2.2.2.2.2.2.2.2.2.2.2.2.2.2.2.1, o283.2.2.2.2.2.2.2.2.2.2.2.2.2.2.2.2.2.2.1, false, o283.2.2.2.2.2.2.2.2.2.2.2.2.2.2.2.2.2.2.2 == (0 : Int)))) (K (Sum.inl (o283.1, o283.2.1, o283.2.2.1, o283.2.2.2.1, o283.2.2.2.2.1, o283.2.2.2.2.2.1, o283.2.2.2.2.2.2.1, o283.2.2.2.2.2.2.2.1, o283.2.2.2.2.2.2.2.2.1, o283.2.2.2.2.2.2.2.2.2.1, o283.2.2.2.2.2.2.2.2.2.2.1, o283.2.2.2.2.2.2.2.2.2.2.2.1, o283.2.2.2.2.2.2.2.2.2.2.2.2.1, o283.2.2.2.2.2.2.2.2.2.2.2.2.2.1, o283.2.2.2.2.2.2.2.2.2.2.2.2.2.2.1, o283.2.2.2.2.2.2.2.2.2.2.2.2.2.2.2.1, o283.2.2.2.2.2.2.2.2.2.2.2.2.2.2.2.2.1, o283.2.2.2.2.2.2.2.2.2.2.2.2.2.2.2.2.2.1, o283.2.2.2.2.2.2.2.2.2.2.2.2.2.2.2.2.2.2.1, false, false)))))) (fun o131 => Sum.elim (fun o284 => (ja n o1.2.1 o1.2.2.1 o1.2.2.2.1 o1.2.2.2.2.1).bind fun o286 => ((fJ n o286.1 o286.2.1 o286.2.2.1 o286.2.2.2).bind fun o287 => (K (Sum.inr (Sum.inl (o287.1, o287.2.1, o287.2.2.1, o287.2.2.2.1, o287.2.2.2.2.1, o287.2.2.2.2.2.1, o287.2.2.2.2.2.2.1, o287.2.2.2.2.2.2.2.1, o287.2.2.2.2.2.2.2.2.1, o287.2.2.2.2.2.2.2.2.2.1, o287.2.2.2.2.2.2.2.2.2.2.1, o287.2.2.2.2.2.2.2.2.2.2.2.1, o287.2.2.2.2.2.2.2.2.2.2.2.2.1, o287.2.2.2.2.2.2.2.2.2.2.2.2.2.1, o287.2.2.2.2.2.2.2.2.2.2.2.2.2.2.1, o287.2.2.2.2.2.2.2.2.2.2.2.2.2.2.2.1, o287.2.2.2.2.2.2.2.2.2.2.2.2.2.2.2.2.1, o287.2.2.2.2.2.2.2.2.2.2.2.2.2.2.2.2.2.1, o287.2.2.2.2.2.2.2.2.2.2.2.2.2.2.2.2.2.2.1, o287.2.2.2.2.2.2.2.2.2.2.2.2.2.2.2.2.2.2.2 == (0 : Int), o284.1, o284.2.1, o284.2.2.1, o284.2.2.2.1, o284.2.2.2.2.1, o284.2.2.2.2.2.1, o284.2.2.2.2.2.2.1, o284.2.2.2.2.2.2.2.1, o284.2.2.2.2.2.2.2.2.1, o284.2.2.2.2.2.2.2.2.2.1, o284.2.2.2.2.2.2.2.2.2.2.1, o284.2.2.2.2.2.2.2.2.2.2.2.1, o284.2.2.2.2.2.2.2.2.2.2.2.2.1, o284.2.2.2.2.2.2.2.2.2.2.2.2.2.1, o284.2.2.2.2.2.2.2.2.2.2.2.2.2.2.1, o284.2.2.2.2.2.2.2.2.2.2.2.2.2.2.2.1, o284.2.2.2.2.2.2.2.2.2.2.2.2.2.2.2.2.1, o284.2.2.2.2.2.2.2.2.2.2.2.2.2.2.2.2.2)))))) (fun o285 => (ja n o1.2.1 o1.2.2.1 o1.2.2.2.1 o1.2.2.2.2.1).bind fun o288 => ((fJ n o288.1 o288.2.1 o288.2.2.1 o288.2.2.2).bind fun o289 => (K (Sum.inr (Sum.inr (o289.1, o289.2.1, o289.2.2.1, o289.2.2.2.1, o289.2.2.2.2.1, o289.2.2.2.2.2.1, o289.2.2.2.2.2.2.1, o289.2.2.2.2.2.2.2.1, o289.2.2.2.2.2.2.2.2.1, o289.2.2.2.2.2.2.2.2.2.1, o289.2.2.2.2.2.2.2.2.2.2.1, o289.2.2.2.2.2.2.2.2.2.2.2.1, o289.2.2.2.2.2.2.2.2.2.2.2.2.1, o289.2.2.2.2.2.2.2.2.2.2.2.2.2.1, o289.2.2.2.2.2.2.2.2.2.2.2.2.2.2.1, o289.2.2.2.2.2.2.2.2.2.2.2.2.2.2.2.1, o289.2.2.2.2.2.2.2.2.2.2.2.2.2.2.2.2.1, o289.2.2.2.2.2.2.2.2.2.2.2.2.2.2.2.2.2.1, o289.2.2.2.2.2.2.2.2.2.2.2.2.2.2.2.2.2.2.1, o289.2.2.2.2.2.2.2.2.2.2.2.2.2.2.2.2.2.2.2 == (0 : Int), o285.1, o285.2.1, o285.2.2.1, o285.2.2.2)))))) o131) o129))))
def gY n a0 a1 a2 a3 a4 := nM n a0 a1 a2 a3 a4 _ some
def CE : FS := ⟨[.a [.L false 3, .l .i64, .l .i64, .s], .b], [], [([.x (.ptr none), .a [.L false 3, .l .i64, .l .i64, .s, .s, .s, .n, .n, .c, .n, .n, .n, .n, .c, .n, .n, .n, .n, .b, .b], .b], []), ([.q 0 0, .a [.L false 3, .l .i64, .l .i64, .s, .s, .s, .n, .n, .c, .n, .n, .n, .n, .c, .n, .n, .n, .n, .b, .x (.bool false)], .b], [.c 82 [.L false 3, .l .i64, .l .i64, .s, .q 1 0], .c 87 [.s, .s, .n, .n, .c, .n, .n, .n, .n, .c, .n, .n, .n, .n]]), ([.q 0 0, .a [.L false 3, .l .i64, .l .i64, .s, .s, .s, .n, .n, .c, .n, .n, .n, .n, .c, .n, .n, .n, .n, .b, .x (.bool false)], .b], [.c 82 [.L false 3, .l .i64, .l .i64, .s, .x (.ptr none)]])]⟩
def CF (n : Nat) : FSpec := CE.sp (gY n)
theorem Jr (n : Nat) : FSound Tryz.prog 9 (CF n) := fs2 (S := CE) (b := nM n) Tryz.func9 rfl rfl [.tmp 4, .cell 5 36 20 true, .tmp 6] (.s .a (.s (.s .a (.s (.s (.r [(2, .tk [12])]) .a) .a)) (.s (.s (.p (uy.x (qE n))) (.s (.s (.r [(2, .tk [23])]) .a) .a)) (.s (.r [(1, .cl 27 (Kr n)), (4, .tk [24])]) (.s (.r [(1, .cl 29 (Ag n)), (2, .cl 28 (Cv n)), (5, .tk [29])]) (.s (.d [] [(0, .part [2, 3]), (1, .part [4]), (8, .part [2, 3]), (9, .part [1])]) .a)))))) (nt5 (nM n) (by intros; unfold nM; simp only [ay])) (ai (GI n) (ai (Kt n) (ai (Gm n) (ai (H7 n) trivial))))
def Cg (n : Nat) : FSpec := Zy 2 (CF n)
theorem G7 (n : Nat) : FSound Tryz.prog 9 (Cg n) := OE (Jr n)
def l7 (n : Nat) (a0 a1 : Int) (R : Type) (K : Int → Option R) : Option R := cond (a1 == 0) none (cond (a1 == 0) none (cond (decide ((Int.tmod a0 a1) < (0 : Int))) (K (IntKind.i64.wrap ((IntKind.i64.wrap (Int.tdiv a0 a1)) - (1 : Int)))) (K (IntKind.i64.wrap (Int.tdiv a0 a1)))))
def gG n a0 a1 := l7 n a0 a1 _ some
def Ch : FS := ⟨[.n, .n], [], [([.n], [])]⟩
def vv (n : Nat) : FSpec := Ch.sp (gG n)
theorem ym (n : Nat) : FSound Tryz.prog 11 (vv n) := fs2 (S := Ch) (b := l7 n) Tryz.func11 rfl rfl [.tmp 4] .a (nt2 (l7 n) (by intros; unfold l7; simp only [ay])) trivial
end Go.Proofs.YtiegmpnagcdgoaaGreatDoor.H
namespace Go.Proofs.YtiegmpnagcdgoaaGreatDoor.H
open Go.Sh Go.RowKit
set_option linter.unusedVariables false
set_option linter.unusedSimpArgs false
set_option maxHeartbeats 4000000
set_option maxRecDepth 100000
def l8 (n : Nat) (a0 a1 : Int) (R : Type) (K : Int → Option R) : Option R := cond (a1 == 0) none (cond (a1 == 0) none (cond (decide ((Int.tmod a0 a1) < (0 : Int))) (K (IntKind.i64.wrap ((IntKind.i64.wrap (Int.tdiv a0 a1)) - (1 : Int)))) (K (IntKind.i64.wrap (Int.tdiv a0 a1)))))
def l9 n a0 a1 := l8 n a0 a1 _ some
def Ci : FS := ⟨[.n, .n], [], [([.n], [])]⟩
def Au (n : Nat) : FSpec := Ci.sp (l9 n)
theorem GJ (n : Nat) : FSound Tryz.prog 71 (Au n) := fs2 (S := Ci) (b := l8 n) Tryz.func71 rfl rfl [.tmp 4] .a (nt2 (l8 n) (by intros; unfold l8; simp only [ay])) trivial
def nN (n : Nat) (a0 : Int) (R : Type) (K : Bool → Option R) : Option R := cond ((Int.tmod a0 (4 : Int)) == (0 : Int)) (cond ((Int.tmod a0 (100 : Int)) != (0 : Int)) (K true) (K ((Int.tmod a0 (400 : Int)) == (0 : Int)))) (K false)
def gZ n a0 := nN n a0 _ some
def CG : FS := ⟨[.n], [], [([.b], [])]⟩
def ma (n : Nat) : FSpec := CG.sp (gZ n)
theorem ni (n : Nat) : FSound Tryz.prog 83 (ma n) := fs2 (S := CG) (b := nN n) Tryz.func83 rfl rfl [.tmp 2] .a (nt1 (nN n) (by intros; unfold nN; simp only [ay])) trivial
def iL (n : Nat) (x3 x4 : Int) (R : Type) (K : (Int) → Option R) : Option R := (gZ n x4).bind fun o484 => (cond o484 (K (IntKind.i64.wrap ((IntKind.i64.wrap (x3 + (365 : Int))) + (1 : Int)))) (K (IntKind.i64.wrap (x3 + (365 : Int)))))
def ol n x3 x4 := iL n x3 x4 _ some
def qX : PS := ⟨[0], [(3, .n), (4, .n)], none, [⟨.normal, [0, 4], [(3, .n)], [], none⟩], none, none⟩
def fo (n : Nat) (x0 x3 x4 : Int) (R : Type) (A_ : Int → Int → Int → Option R) (K : (Int) → Option R) : Option R := cond (decide (x4 < x0)) ((ol n x3 x4).bind fun o485 => (A_ x0 o485 (IntKind.i64.wrap (x4 + (1 : Int))))) (K x3)
def bF (n : Nat) : Nat → Int → Int → Int → Option ((Int))
 | 0, _, _, _ => none
 | m + 1, x0, x3, x4 => fo n x0 x3 x4 _ (bF n m) some
def qY : PS := ⟨[], [(0, .n), (3, .n), (4, .n)], none, [⟨(.exit 0), [0], [(3, .n)], [], none⟩], none, none⟩
def iM (n : Nat) (x3 x5 : Int) (R : Type) (K : (Int) → Option R) : Option R := (gZ n x5).bind fun o487 => (cond o487 (K (IntKind.i64.wrap ((IntKind.i64.wrap (x3 - (365 : Int))) - (1 : Int)))) (K (IntKind.i64.wrap (x3 - (365 : Int)))))
def om n x3 x5 := iM n x3 x5 _ some
def qZ : PS := ⟨[], [(3, .n), (5, .n)], none, [⟨.normal, [5], [(3, .n)], [], none⟩], none, none⟩
def fq (n : Nat) (x3 x5 : Int) (R : Type) (A_ : Int → Int → Option R) (K : (Int) → Option R) : Option R := cond (decide (x5 < (1970 : Int))) ((om n x3 x5).bind fun o488 => (A_ o488 (IntKind.i64.wrap (x5 + (1 : Int))))) (K x3)
def cB (n : Nat) : Nat → Int → Int → Option ((Int))
 | 0, _, _ => none
 | m + 1, x3, x5 => fq n x3 x5 _ (cB n m) some
def q8 : PS := ⟨[], [(3, .n), (5, .n)], none, [⟨(.exit 2), [], [(3, .n)], [], none⟩], none, none⟩
theorem Ew (n : Nat) : Snd ⟨Tryz.prog, 0, 29⟩ (qX.x (ol n)) (fb Tryz.f82 331) := iY (S := qX) (b := iL n) (.u (.s .a (.s (.r [(1, .cl 83 (ma n))]) .a))) (nt2 (iL n) (by intros; unfold iL; simp only [ay])) (ai (ni n) trivial)
theorem Ey (n : Nat) : Snd ⟨Tryz.prog, 0, 29⟩ (qZ.x (om n)) (fb Tryz.f82 663) := iY (S := qZ) (b := iM n) (.u (.s .a (.s (.r [(1, .cl 83 (ma n))]) .a))) (nt2 (iM n) (by intros; unfold iM; simp only [ay])) (ai (ni n) trivial)
theorem Ez (n : Nat) : Snd ⟨Tryz.prog, 0, 29⟩ (qY.x (bF n n)) (fb Tryz.f82 43) := mK (S := qY) (b := fo n) (f := bF n) n (.s .a (.s (.p (qX.x (ol n))) .a)) (nl3 (fo n) (by intros; unfold fo; simp only [ay])) (ai (Ew n) trivial)
theorem EA (n : Nat) : Snd ⟨Tryz.prog, 0, 29⟩ (q8.x (cB n n)) (fb Tryz.f82 87) := mK (S := q8) (b := fq n) (f := cB n) n (.s .a (.s (.p (qZ.x (om n))) .a)) (nl2 (fq n) (by intros; unfold fq; simp only [ay])) (ai (Ey n) trivial)
def kN (n : Nat) (a0 : Int) (R : Type) (K : Int → Option R) : Option R := (bF n n a0 (0 : Int) (1970 : Int)).bind fun o486 => ((cB n n o486 a0).bind fun o489 => (K o489))
def dz n a0 := kN n a0 _ some
def Av : FS := ⟨[.n], [], [([.n], [])]⟩
def gV (n : Nat) : FSpec := Av.sp (dz n)
theorem iw (n : Nat) : FSound Tryz.prog 82 (gV n) := fs2 (S := Av) (b := kN n) Tryz.func82 rfl rfl [.tmp 2] (.s .a (.s .a (.s (.s .a (.u (.p (qY.x (bF n n))))) (.s (.s .a (.u (.p (q8.x (cB n n))))) .a)))) (nt1 (kN n) (by intros; unfold kN; simp only [ay])) (ai (Ez n) (ai (EA n) trivial))
def iN (n : Nat) (x0 x3 : Int) (R : Type) (A_ : Int → Int → Option R) (K : (Int) → Option R) : Option R := (dz n x3).bind fun o490 => (cond (decide (x0 < o490)) ((dz n x3).bind fun o491 => (A_ x0 (IntKind.i64.wrap ((IntKind.i64.wrap (x3 - (1 : Int))) - (IntKind.i64.wrap (Int.tdiv (IntKind.i64.wrap (o491 - x0)) (366 : Int))))))) (K x3))
def dX (n : Nat) : Nat → Int → Int → Option ((Int))
 | 0, _, _ => none
 | m + 1, x0, x3 => iN n x0 x3 _ (dX n m) some
def q9 : PS := ⟨[], [(0, .n), (3, .n)], none, [⟨(.exit 0), [0], [(3, .n)], [], none⟩], none, none⟩
def iO (n : Nat) (x0 x3 : Int) (R : Type) (A_ : Int → Int → Option R) (K : (Int) → Option R) : Option R := (dz n (IntKind.i64.wrap (x3 + (1 : Int)))).bind fun o493 => (cond (decide (x0 ≥ o493)) ((dz n (IntKind.i64.wrap (x3 + (1 : Int)))).bind fun o494 => (A_ x0 (IntKind.i64.wrap ((IntKind.i64.wrap (x3 + (1 : Int))) + (IntKind.i64.wrap (Int.tdiv (IntKind.i64.wrap (x0 - o494)) (366 : Int))))))) (K x3))
def dY (n : Nat) : Nat → Int → Int → Option ((Int))
 | 0, _, _ => none
 | m + 1, x0, x3 => iO n x0 x3 _ (dY n m) some
def rf : PS := ⟨[], [(0, .n), (3, .n)], none, [⟨(.exit 2), [], [(3, .n)], [], none⟩], none, none⟩
theorem EB (n : Nat) : Snd ⟨Tryz.prog, 0, 31⟩ (q9.x (dX n n)) (fb Tryz.f70 19) := mK (S := q9) (b := iN n) (f := dX n) n (.s (.s (.r [(2, .cl 82 (gV n))]) .a) (.u (.r [(3, .cl 82 (gV n))]))) (nl2 (iN n) (by intros; unfold iN; simp only [ay])) (ai (iw n) (ai (iw n) trivial))
theorem EC (n : Nat) : Snd ⟨Tryz.prog, 0, 31⟩ (rf.x (dY n n)) (fb Tryz.f70 39) := mK (S := rf) (b := iO n) (f := dY n) n (.s (.s (.r [(3, .cl 82 (gV n))]) .a) (.u (.r [(5, .cl 82 (gV n))]))) (nl2 (iO n) (by intros; unfold iO; simp only [ay])) (ai (iw n) (ai (iw n) trivial))
def kP (n : Nat) (a0 : Int) (R : Type) (K : Int → Option R) : Option R := (dX n n a0 (1970 : Int)).bind fun o492 => ((dY n n a0 o492).bind fun o495 => (K o495))
def kQ n a0 := kP n a0 _ some
def Aw : FS := ⟨[.n], [], [([.n], [])]⟩
def zw (n : Nat) : FSpec := Aw.sp (kQ n)
theorem Fu (n : Nat) : FSound Tryz.prog 70 (zw n) := fs2 (S := Aw) (b := kP n) Tryz.func70 rfl rfl [.tmp 2] (.s .a (.s .a (.s (.u (.p (q9.x (dX n n)))) (.s (.u (.p (rf.x (dY n n)))) .a)))) (nt1 (kP n) (by intros; unfold kP; simp only [ay])) (ai (EB n) (ai (EC n) trivial))
def oo (n : Nat) (x5 : Int) (R : Type) (K : (Bool) → Option R) : Option R := cond (x5 == (4 : Int)) (K true) (cond (x5 == (6 : Int)) (K true) (cond (x5 == (9 : Int)) (K true) (K (x5 == (11 : Int)))))
def vW n x5 := oo n x5 _ some
def uz : PS := ⟨[0], [(5, .n)], none, [⟨.normal, [0, 5], [(6, .b)], [], none⟩], none, none⟩
theorem GK (n : Nat) : Snd ⟨Tryz.prog, 0, 15⟩ (uz.x (vW n)) (fb Tryz.f84 37) := iY (S := uz) (b := oo n) .a (nt1 (oo n) (by intros; unfold oo; simp only [ay])) trivial
def nO (n : Nat) (a0 a1 : Int) (R : Type) (K : Int → Option R) : Option R := (vW n a1).bind fun o500 => (cond o500 (K (30 : Int)) (cond (a1 == (2 : Int)) ((gZ n a0).bind fun o501 => (cond o501 (K (29 : Int)) (K (28 : Int)))) (K (31 : Int))))
def nP n a0 a1 := nO n a0 a1 _ some
def CJ : FS := ⟨[.n, .n], [], [([.n], [])]⟩
def vX (n : Nat) : FSpec := CJ.sp (nP n)
theorem yP (n : Nat) : FSound Tryz.prog 84 (vX n) := fs2 (S := CJ) (b := nO n) Tryz.func84 rfl rfl [.tmp 4] (.s .a (.s (.s .a (.u (.s (.p (uz.x (vW n))) (.s .a (.s .a (.s (.s (.s (.r [(1, .cl 83 (ma n))]) .a) .a) .a)))))) .a)) (nt2 (nO n) (by intros; unfold nO; simp only [ay])) (ai (GK n) (ai (ni n) trivial))
def iP (n : Nat) (x1 h0_0 h0_1 h0_2 h0_3 h0_4 : Int) (R : Type) (K : W2 → Option R) : Option R := (gZ n x1).bind fun o498 => (cond o498 (K (decide (h0_3 > (59 : Int)), h0_0, h0_1, h0_2, h0_3, h0_4)) (K (false, h0_0, h0_1, h0_2, h0_3, h0_4)))
def oq n x1 h0_0 h0_1 h0_2 h0_3 h0_4 := iP n x1 h0_0 h0_1 h0_2 h0_3 h0_4 _ some
def rq : PS := ⟨[5], [(1, .n), (2, .q 0 0)], some [.c 32 [.c, .n, .n, .n, .n]], [⟨.normal, [2, 5], [(28, .b)], [.c 32 [.c, .n, .n, .n, .n]], none⟩], none, none⟩
def iQ (n : Nat) (x1 x5 x6 h0_0 h0_1 h0_2 h0_3 h0_4 : Int) (R : Type) (A_ : Int → Int → Int → Int → Int → Int → Int → Int → Option R) (K : W20 → Option R) : Option R := cond (decide (x6 < h0_1)) ((nP n x1 x6).bind fun o502 => (A_ x1 (IntKind.i64.wrap (x5 + o502)) (IntKind.i64.wrap (x6 + (1 : Int))) h0_0 h0_1 h0_2 h0_3 h0_4)) (K (x5, h0_0, h0_1, h0_2, h0_3, h0_4))
def dZ (n : Nat) : Nat → Int → Int → Int → Int → Int → Int → Int → Int → Option (W20)
 | 0, _, _, _, _, _, _, _, _ => none
 | m + 1, x1, x5, x6, h0_0, h0_1, h0_2, h0_3, h0_4 => iQ n x1 x5 x6 h0_0 h0_1 h0_2 h0_3 h0_4 _ (dZ n m) some
def ru : PS := ⟨[], [(1, .n), (2, .q 0 0), (5, .n), (6, .n)], some [.c 32 [.c, .n, .n, .n, .n]], [⟨(.exit 1), [1, 2], [(5, .n)], [.c 32 [.c, .n, .n, .n, .n]], none⟩], none, none⟩
def iR (n : Nat) (x8 x10 h0_0 h0_1 h0_2 h0_3 h0_4 : Int) (R : Type) (K : W2 → Option R) : Option R := cond (x10 == h0_3) (K (decide (x8 < h0_2), h0_0, h0_1, h0_2, h0_3, h0_4)) (K (false, h0_0, h0_1, h0_2, h0_3, h0_4))
def ou n x8 x10 h0_0 h0_1 h0_2 h0_3 h0_4 := iR n x8 x10 h0_0 h0_1 h0_2 h0_3 h0_4 _ some
def ry : PS := ⟨[1, 5, 7, 9], [(2, .q 0 0), (8, .n), (10, .n)], some [.c 32 [.c, .n, .n, .n, .n]], [⟨.normal, [1, 2, 5, 7, 8, 9], [(74, .b)], [.c 32 [.c, .n, .n, .n, .n]], none⟩], none, none⟩
def iT (n : Nat) (x5 x7 x8 x9 h0_0 h0_1 h0_2 h0_3 h0_4 : Int) (R : Type) (K : (Int × Int × Int × Int × Int × Int × Int) → Option R) : Option R := (ou n x8 (Int.tmod (IntKind.i64.wrap ((Int.tmod (IntKind.i64.wrap ((IntKind.i64.wrap (x5 + x9)) + (4 : Int))) (7 : Int)) + (7 : Int))) (7 : Int)) h0_0 h0_1 h0_2 h0_3 h0_4).bind fun o505 => (cond o505.1 (K (IntKind.i64.wrap (x5 + x9), IntKind.i64.wrap (x8 + (1 : Int)), o505.2.1, o505.2.2.1, o505.2.2.2.1, o505.2.2.2.2.1, o505.2.2.2.2.2)) (K (x7, x8, o505.2.1, o505.2.2.1, o505.2.2.2.1, o505.2.2.2.2.1, o505.2.2.2.2.2)))
def ow n x5 x7 x8 x9 h0_0 h0_1 h0_2 h0_3 h0_4 := iT n x5 x7 x8 x9 h0_0 h0_1 h0_2 h0_3 h0_4 _ some
def rz : PS := ⟨[1], [(2, .q 0 0), (5, .n), (7, .n), (8, .n), (9, .n)], some [.c 32 [.c, .n, .n, .n, .n]], [⟨.normal, [1, 2, 5, 9], [(7, .n), (8, .n)], [.c 32 [.c, .n, .n, .n, .n]], none⟩], none, none⟩
def iU (n : Nat) (x1 x5 x7 x8 x9 h0_0 h0_1 h0_2 h0_3 h0_4 : Int) (R : Type) (A_ : Int → Int → Int → Int → Int → Int → Int → Int → Int → Int → Option R) (K : W20 → Option R) : Option R := (nP n x1 h0_1).bind fun o504 => (cond (decide (x9 < o504)) ((ow n x5 x7 x8 x9 h0_0 h0_1 h0_2 h0_3 h0_4).bind fun o506 => (A_ x1 x5 o506.1 o506.2.1 (IntKind.i64.wrap (x9 + (1 : Int))) o506.2.2.1 o506.2.2.2.1 o506.2.2.2.2.1 o506.2.2.2.2.2.1 o506.2.2.2.2.2.2)) (K (x7, h0_0, h0_1, h0_2, h0_3, h0_4)))
def d9 (n : Nat) : Nat → Int → Int → Int → Int → Int → Int → Int → Int → Int → Int → Option (W20)
 | 0, _, _, _, _, _, _, _, _, _, _ => none
 | m + 1, x1, x5, x7, x8, x9, h0_0, h0_1, h0_2, h0_3, h0_4 => iU n x1 x5 x7 x8 x9 h0_0 h0_1 h0_2 h0_3 h0_4 _ (d9 n m) some
def rA : PS := ⟨[], [(1, .n), (2, .q 0 0), (5, .n), (7, .n), (8, .n), (9, .n)], some [.c 32 [.c, .n, .n, .n, .n]], [⟨(.exit 3), [2], [(7, .n)], [.c 32 [.c, .n, .n, .n, .n]], none⟩], none, none⟩
theorem ED (n : Nat) : Snd ⟨Tryz.prog, 0, 86⟩ (ry.x (ou n)) (fb Tryz.f49 5397483) := iY (S := ry) (b := iR n) .a (nt7 (iR n) (by intros; unfold iR; simp only [ay])) trivial
theorem EE (n : Nat) : Snd ⟨Tryz.prog, 0, 86⟩ (rz.x (ow n)) (fb Tryz.f49 678891) := iY (S := rz) (b := iT n) (.u (.s .a (.s (.p (ry.x (ou n))) .a))) (nt9 (iT n) (by intros; unfold iT; simp only [ay])) (ai (ED n) trivial)
theorem EF (n : Nat) : Snd ⟨Tryz.prog, 0, 86⟩ (rq.x (oq n)) (fb Tryz.f49 683) := iY (S := rq) (b := iP n) (.r [(1, .cl 83 (ma n))]) (nt6 (iP n) (by intros; unfold iP; simp only [ay])) (ai (ni n) trivial)
theorem EG (n : Nat) : Snd ⟨Tryz.prog, 0, 86⟩ (ru.x (dZ n n)) (fb Tryz.f49 21483) := mK (S := ru) (b := iQ n) (f := dZ n) n (.s .a (.s (.u (.r [(3, .cl 84 (vX n))])) .a)) (nl8 (iQ n) (by intros; unfold iQ; simp only [ay])) (ai (yP n) trivial)
theorem EH (n : Nat) : Snd ⟨Tryz.prog, 0, 86⟩ (rA.x (d9 n n)) (fb Tryz.f49 89067) := mK (S := rA) (b := iU n) (f := d9 n) n (.s (.s (.r [(4, .cl 84 (vX n))]) .a) (.s (.p (rz.x (ow n))) .a)) (acw (iU n) (by intros; unfold iU; simp only [ay])) (ai (yP n) (ai (EE n) trivial))
def kR (n : Nat) (a0 a1 a2 a3 a4 a5 : Int) (R : Type) (K : Int → Option R) : Option R := (dz n a5).bind fun o497 => (cond (a0 == (1 : Int)) ((oq n a5 a0 a1 a2 a3 a4).bind fun o499 => (cond o499.1 (K (IntKind.i64.wrap ((IntKind.i64.wrap ((IntKind.i64.wrap ((IntKind.i64.wrap ((IntKind.i64.wrap (o497 + a3)) - (1 : Int))) + (1 : Int))) * (86400 : Int))) + o499.2.2.2.2.2))) (K (IntKind.i64.wrap ((IntKind.i64.wrap ((IntKind.i64.wrap ((IntKind.i64.wrap (o497 + a3)) - (1 : Int))) * (86400 : Int))) + o499.2.2.2.2.2))))) (cond (a0 == (2 : Int)) (K (IntKind.i64.wrap ((IntKind.i64.wrap ((IntKind.i64.wrap (o497 + a3)) * (86400 : Int))) + a4))) (cond (a0 == (3 : Int)) ((dZ n n a5 o497 (1 : Int) a0 a1 a2 a3 a4).bind fun o503 => ((d9 n n a5 o503.1 (-1 : Int) (0 : Int) (0 : Int) o503.2.1 o503.2.2.1 o503.2.2.2.1 o503.2.2.2.2.1 o503.2.2.2.2.2).bind fun o507 => (K (IntKind.i64.wrap ((IntKind.i64.wrap (o507.1 * (86400 : Int))) + o507.2.2.2.2.2))))) (K (IntKind.i64.wrap ((IntKind.i64.wrap (o497 * (86400 : Int))) + a4))))))
def kT n a0 a1 a2 a3 a4 a5 := kR n a0 a1 a2 a3 a4 a5 _ some
def Ay : FS := ⟨[.a [.c, .n, .n, .n, .n], .n], [], [([.n], [])]⟩
def uA (n : Nat) : FSpec := Ay.sp (kT n)
theorem xx (n : Nat) : FSound Tryz.prog 49 (uA n) := fs2 (S := Ay) (b := kR n) Tryz.func49 rfl rfl [.tmp 4] (.s .a (.s (.r [(1, .cl 82 (gV n))]) (.s (.s .a (.u (.s .a (.s (.s .a (.s (.p (rq.x (oq n))) .a)) (.s .a (.s .a (.s .a (.s (.s (.s .a (.u (.p (ru.x (dZ n n))))) (.s .a (.s (.s .a (.u (.p (rA.x (d9 n n))))) .a))) .a)))))))) .a))) (nt6 (kR n) (by intros; unfold kR; simp only [ay])) (ai (iw n) (ai (EF n) (ai (EG n) (ai (EH n) trivial))))
def mf (n : Nat) (x6 x8 : Int) (x10 : Bool) (x12 : Int) (R : Type) (K : (Bool) → Option R) : Option R := cond (decide (x12 ≤ x6)) (cond (!x10) (K true) (K (decide (x12 > x8)))) (K false)
def tH n x6 x8 x10 x12 := mf n x6 x8 x10 x12 _ some
def vY : PS := ⟨[2, 7, 9, 11, 13], [(6, .n), (8, .n), (10, .b), (12, .n)], none, [⟨.normal, [2, 6, 7, 8, 9, 10, 11, 12, 13], [(64, .b)], [], none⟩], none, none⟩
def mg (n : Nat) (x6 x8 : Int) (x9 x10 : Bool) (x12 : Int) (R : Type) (K : (Int × Bool × Bool) → Option R) : Option R := (tH n x6 x8 x10 x12).bind fun o510 => (cond o510 (K (x12, true, true)) (K (x8, x9, x10)))
def oV n x6 x8 x9 x10 x12 := mg n x6 x8 x9 x10 x12 _ some
def vZ : PS := ⟨[2, 7, 11, 13], [(6, .n), (8, .n), (9, .b), (10, .b), (12, .n)], none, [⟨.normal, [2, 6, 7, 11, 13], [(8, .n), (9, .b), (10, .b)], [], none⟩], none, none⟩
def mh (n : Nat) (x6 x8 : Int) (x10 : Bool) (x13 : Int) (R : Type) (K : (Bool) → Option R) : Option R := cond (decide (x13 ≤ x6)) (cond (!x10) (K true) (K (decide (x13 ≥ x8)))) (K false)
def tJ n x6 x8 x10 x13 := mh n x6 x8 x10 x13 _ some
def wh : PS := ⟨[2, 7, 9, 11], [(6, .n), (8, .n), (10, .b), (13, .n)], none, [⟨.normal, [2, 6, 7, 8, 9, 10, 11, 13], [(77, .b)], [], none⟩], none, none⟩
def mq (n : Nat) (x6 x8 : Int) (x9 x10 : Bool) (x11 : Int) (h0_0 h0_1 : Str) (h0_2 h0_3 h0_4 h0_5 h0_6 h0_7 h0_8 h0_9 h0_10 h0_11 h0_12 h0_13 : Int) (R : Type) (K : (Int × Bool × Bool × Str × Str × Int × Int × Int × Int × Int × Int × Int × Int × Int × Int × Int × Int) → Option R) : Option R := (kT n h0_4 h0_5 h0_6 h0_7 h0_8 x11).bind fun o508 => ((kT n h0_9 h0_10 h0_11 h0_12 h0_13 x11).bind fun o509 => ((oV n x6 x8 x9 x10 (IntKind.i64.wrap (o508 - h0_2))).bind fun o511 => ((tJ n x6 o511.1 o511.2.2 (IntKind.i64.wrap (o509 - h0_3))).bind fun o512 => (cond o512 (K (IntKind.i64.wrap (o509 - h0_3), false, true, h0_0, h0_1, h0_2, h0_3, h0_4, h0_5, h0_6, h0_7, h0_8, h0_9, h0_10, h0_11, h0_12, h0_13)) (K (o511.1, o511.2.1, o511.2.2, h0_0, h0_1, h0_2, h0_3, h0_4, h0_5, h0_6, h0_7, h0_8, h0_9, h0_10, h0_11, h0_12, h0_13))))))
def tK n x6 x8 x9 x10 x11 h0_0 h0_1 h0_2 h0_3 h0_4 h0_5 h0_6 h0_7 h0_8 h0_9 h0_10 h0_11 h0_12 h0_13 := mq n x6 x8 x9 x10 x11 h0_0 h0_1 h0_2 h0_3 h0_4 h0_5 h0_6 h0_7 h0_8 h0_9 h0_10 h0_11 h0_12 h0_13 _ some
def wm : PS := ⟨[7], [(2, .q 0 0), (6, .n), (8, .n), (9, .b), (10, .b), (11, .n)], some [.c 34 [.s, .s, .n, .n, .c, .n, .n, .n, .n, .c, .n, .n, .n, .n]], [⟨.normal, [2, 6, 7, 11], [(8, .n), (9, .b), (10, .b)], [.c 34 [.s, .s, .n, .n, .c, .n, .n, .n, .n, .c, .n, .n, .n, .n]], none⟩], none, none⟩
def jf (n : Nat) (x6 x7 x8 : Int) (x9 x10 : Bool) (x11 : Int) (h0_0 h0_1 : Str) (h0_2 h0_3 h0_4 h0_5 h0_6 h0_7 h0_8 h0_9 h0_10 h0_11 h0_12 h0_13 : Int) (R : Type) (A_ : Int → Int → Int → Bool → Bool → Int → Str → Str → Int → Int → Int → Int → Int → Int → Int → Int → Int → Int → Int → Int → Option R) (K : W3 → Option R) : Option R := cond (decide (x11 ≤ (IntKind.i64.wrap (x7 + (1 : Int))))) ((tK n x6 x8 x9 x10 x11 h0_0 h0_1 h0_2 h0_3 h0_4 h0_5 h0_6 h0_7 h0_8 h0_9 h0_10 h0_11 h0_12 h0_13).bind fun o513 => (A_ x6 x7 o513.1 o513.2.1 o513.2.2.1 (IntKind.i64.wrap (x11 + (1 : Int))) o513.2.2.2.1 o513.2.2.2.2.1 o513.2.2.2.2.2.1 o513.2.2.2.2.2.2.1 o513.2.2.2.2.2.2.2.1 o513.2.2.2.2.2.2.2.2.1 o513.2.2.2.2.2.2.2.2.2.1 o513.2.2.2.2.2.2.2.2.2.2.1 o513.2.2.2.2.2.2.2.2.2.2.2.1 o513.2.2.2.2.2.2.2.2.2.2.2.2.1 o513.2.2.2.2.2.2.2.2.2.2.2.2.2.1 o513.2.2.2.2.2.2.2.2.2.2.2.2.2.2.1 o513.2.2.2.2.2.2.2.2.2.2.2.2.2.2.2.1 o513.2.2.2.2.2.2.2.2.2.2.2.2.2.2.2.2)) (K (x9, h0_0, h0_1, h0_2, h0_3, h0_4, h0_5, h0_6, h0_7, h0_8, h0_9, h0_10, h0_11, h0_12, h0_13))
def cK (n : Nat) : Nat → Int → Int → Int → Bool → Bool → Int → Str → Str → Int → Int → Int → Int → Int → Int → Int → Int → Int → Int → Int → Int → Option (W3)
 | 0, _, _, _, _, _, _, _, _, _, _, _, _, _, _, _, _, _, _, _, _ => none
 | m + 1, x6, x7, x8, x9, x10, x11, h0_0, h0_1, h0_2, h0_3, h0_4, h0_5, h0_6, h0_7, h0_8, h0_9, h0_10, h0_11, h0_12, h0_13 => jf n x6 x7 x8 x9 x10 x11 h0_0 h0_1 h0_2 h0_3 h0_4 h0_5 h0_6 h0_7 h0_8 h0_9 h0_10 h0_11 h0_12 h0_13 _ (cK n m) some
def wo : PS := ⟨[], [(2, .q 0 0), (6, .n), (7, .n), (8, .n), (9, .b), (10, .b), (11, .n)], some [.c 34 [.s, .s, .n, .n, .c, .n, .n, .n, .n, .c, .n, .n, .n, .n]], [⟨(.exit 0), [2], [(9, .b)], [.c 34 [.s, .s, .n, .n, .c, .n, .n, .n, .n, .c, .n, .n, .n, .n]], none⟩], none, none⟩
theorem Ig (n : Nat) : Snd ⟨Tryz.prog, 0, 84⟩ (vY.x (tH n)) (fb Tryz.f35 74943) := iY (S := vY) (b := mf n) .a (nt4 (mf n) (by intros; unfold mf; simp only [ay])) trivial
theorem Ih (n : Nat) : Snd ⟨Tryz.prog, 0, 84⟩ (vZ.x (oV n)) (fb Tryz.f35 42175) := iY (S := vZ) (b := mg n) (.s (.p (vY.x (tH n))) .a) (nt5 (mg n) (by intros; unfold mg; simp only [ay])) (ai (Ig n) trivial)
theorem Ii (n : Nat) : Snd ⟨Tryz.prog, 0, 84⟩ (wh.x (tJ n)) (fb Tryz.f35 91327) := iY (S := wh) (b := mh n) .a (nt4 (mh n) (by intros; unfold mh; simp only [ay])) trivial
theorem Ij (n : Nat) : Snd ⟨Tryz.prog, 0, 84⟩ (wm.x (tK n)) (fb Tryz.f35 5311) := iY (S := wm) (b := mq n) (.u (.s (.d [(3, .cl 49 (uA n)), (10, .cl 49 (uA n))] [(0, .peek [0] [0]), (1, .peek [0] [0]), (3, .part []), (4, .peek [0] [0]), (5, .peek [0] [0]), (7, .peek [0] [0]), (8, .peek [0] [0]), (10, .part []), (11, .peek [0] [0]), (12, .peek [0] [0])]) (.s (.p (vZ.x (oV n))) (.s (.p (wh.x (tJ n))) .a)))) (Zx (mq n) (by intros; unfold mq; simp only [ay])) (ai (xx n) (ai (xx n) (ai (Ih n) (ai (Ii n) trivial))))
theorem Ik (n : Nat) : Snd ⟨Tryz.prog, 0, 84⟩ (wo.x (cK n n)) (fb Tryz.f35 703) := mK (S := wo) (b := jf n) (f := cK n) n (.s .a (.s (.p (wm.x (tK n))) .a)) (acy (jf n) (by intros; unfold jf; simp only [ay])) (ai (Ij n) trivial)
def jC (n : Nat) (a0 a1 : Str) (a2 a3 a4 a5 a6 a7 a8 a9 a10 a11 a12 a13 a14 : Int) (R : Type) (K : (Int × Bool) → Option R) : Option R := (jd n a0 a1 a2 a3 a4 a5 a6 a7 a8 a9 a10 a11 a12 a13).bind fun o482 => (cond (!o482) (K ((0 : Int), false)) (cond (a1 == ([] : Str)) (K (a2, false)) ((l9 n (IntKind.i64.wrap ((if (-10000000000 : Int) < (if a14 < (100000000000 : Int) then a14 else (100000000000 : Int)) then (if a14 < (100000000000 : Int) then a14 else (100000000000 : Int)) else (-10000000000 : Int)) + a2)) (86400 : Int)).bind fun o483 => ((kQ n o483).bind fun o496 => ((cK n n (if (-10000000000 : Int) < (if a14 < (100000000000 : Int) then a14 else (100000000000 : Int)) then (if a14 < (100000000000 : Int) then a14 else (100000000000 : Int)) else (-10000000000 : Int)) o496 (0 : Int) false false (IntKind.i64.wrap (o496 - (2 : Int))) a0 a1 a2 a3 a4 a5 a6 a7 a8 a9 a10 a11 a12 a13).bind fun o514 => (cond o514.1 (K (o514.2.2.2.2.1, true)) (K (o514.2.2.2.1, false))))))))
def dB n a0 a1 a2 a3 a4 a5 a6 a7 a8 a9 a10 a11 a12 a13 a14 := jC n a0 a1 a2 a3 a4 a5 a6 a7 a8 a9 a10 a11 a12 a13 a14 _ some
def ES : FS := ⟨[.a [.s, .s, .n, .n, .c, .n, .n, .n, .n, .c, .n, .n, .n, .n], .n], [], [([.n, .b], [])]⟩
def D9 (n : Nat) : FSpec := ES.sp (dB n)
theorem IR (n : Nat) : FSound Tryz.prog 35 (D9 n) := fs2 (S := ES) (b := jC n) Tryz.func35 rfl rfl [.tmp 4, .tmp 5] (.s .a (.s (.s (.r [(1, .cl 69 (uZ n))]) .a) (.s .a (.s .a (.s (.r [(4, .cl 71 (Au n)), (5, .cl 70 (zw n))]) (.s .a (.s (.s .a (.u (.p (wo.x (cK n n))))) .a))))))) (ack (jC n) (by intros; unfold jC; simp only [ay])) (ai (xR n) (ai (GJ n) (ai (Fu n) (ai (Ik n) trivial))))
def jg (n : Nat) (x1 x5 : Int) (h0_0 : List (List AV)) (h0_1 h0_2 : List Int) (h0_3 : Str) (R : Type) (A_ : Int → Int → (List (List AV)) → (List Int) → (List Int) → Str → Option R) (K : (W1 ⊕ ((List (List AV)) × (List Int) × (List Int) × Str)) → Option R) : Option R := cond (decide (x5 ≥ (0 : Int))) (cond (decide (0 ≤ x5)) ((h0_1[x5.toNat]?).bind fun e517 => (cond (decide (e517 ≤ x1)) (cond (decide (0 ≤ x5)) ((h0_2[x5.toNat]?).bind fun e518 => (K (Sum.inl (e518, h0_0, h0_1, h0_2, h0_3)))) none) (A_ x1 (IntKind.i64.wrap (x5 - (1 : Int))) h0_0 h0_1 h0_2 h0_3))) none) (K (Sum.inr (h0_0, h0_1, h0_2, h0_3)))
def fO (n : Nat) : Nat → Int → Int → (List (List AV)) → (List Int) → (List Int) → Str → Option (W1 ⊕ ((List (List AV)) × (List Int) × (List Int) × Str))
 | 0, _, _, _, _, _, _ => none
 | m + 1, x1, x5, h0_0, h0_1, h0_2, h0_3 => jg n x1 x5 h0_0 h0_1 h0_2 h0_3 _ (fO n m) some
def wu : PS := ⟨[], [(1, .n), (2, .q 0 0), (5, .n)], some [.c 30 [.L false 3, .l .i64, .l .i64, .s]], [⟨.ret, [], [(4, .n)], [.c 30 [.L false 3, .l .i64, .l .i64, .s]], none⟩, ⟨(.exit 0), [2], [], [.c 30 [.L false 3, .l .i64, .l .i64, .s]], none⟩], none, none⟩
def jh (n : Nat) (x6 : Int) (h0_0 : List (List AV)) (h0_1 h0_2 : List Int) (h0_3 : Str) (R : Type) (A_ : Int → (List (List AV)) → (List Int) → (List Int) → Str → Option R) (K : (W1 ⊕ ((List (List AV)) × (List Int) × (List Int) × Str)) → Option R) : Option R := cond (decide (x6 < (h0_0.length : Int))) (cond (decide (0 ≤ x6)) ((h0_0[x6.toNat]?).bind fun e522 => (unc e522 fun c523 r524 => yu .i64 c523 fun x525 => unc r524 fun c526 r527 => yV c526 fun x528 => unc r527 fun c529 r530 => yX c529 fun x531 => unn r530 (cond (!x528) (K (Sum.inl (x6, h0_0, h0_1, h0_2, h0_3))) (A_ (IntKind.i64.wrap (x6 + (1 : Int))) h0_0 h0_1 h0_2 h0_3)))) none) (K (Sum.inr (h0_0, h0_1, h0_2, h0_3)))
def fP (n : Nat) : Nat → Int → (List (List AV)) → (List Int) → (List Int) → Str → Option (W1 ⊕ ((List (List AV)) × (List Int) × (List Int) × Str))
 | 0, _, _, _, _, _ => none
 | m + 1, x6, h0_0, h0_1, h0_2, h0_3 => jh n x6 h0_0 h0_1 h0_2 h0_3 _ (fP n m) some
def ww : PS := ⟨[], [(2, .q 0 0), (6, .n)], some [.c 30 [.L false 3, .l .i64, .l .i64, .s]], [⟨.ret, [], [(4, .n)], [.c 30 [.L false 3, .l .i64, .l .i64, .s]], none⟩, ⟨(.exit 2), [], [], [.c 30 [.L false 3, .l .i64, .l .i64, .s]], none⟩], none, none⟩
theorem Il (n : Nat) : Snd ⟨Tryz.prog, 0, 45⟩ (wu.x (fO n n)) (fb Tryz.f36 43) := mK (S := wu) (b := jg n) (f := fO n) n .a (nl6 (jg n) (by intros; unfold jg; simp only [ay])) trivial
theorem Im (n : Nat) : Snd ⟨Tryz.prog, 0, 45⟩ (ww.x (fP n n)) (fb Tryz.f36 87) := mK (S := ww) (b := jh n) (f := fP n) n .a (nl5 (jh n) (by intros; unfold jh; simp only [ay])) trivial
def qf (n : Nat) (a0 : List (List AV)) (a1 a2 : List Int) (a3 : Str) (a4 : Int) (R : Type) (K : Int → Option R) : Option R := (lI n a0 a1 a2 a3).bind fun o516 => (cond (!o516) (K (0 : Int)) ((fO n n a4 (IntKind.i64.wrap ((a1.length : Int) - (1 : Int))) a0 a1 a2 a3).bind fun o519 => (Sum.elim (fun o520 => K o520.1) (fun o521 => (fP n n (0 : Int) o521.1 o521.2.1 o521.2.2.1 o521.2.2.2).bind fun o532 => (Sum.elim (fun o533 => K o533.1) (fun o534 => K (0 : Int)) o532)) o519)))
def uO n a0 a1 a2 a3 a4 := qf n a0 a1 a2 a3 a4 _ some
def ET : FS := ⟨[.a [.L false 3, .l .i64, .l .i64, .s], .n], [], [([.n], [])]⟩
def Ea (n : Nat) : FSpec := ET.sp (uO n)
theorem IU (n : Nat) : FSound Tryz.prog 36 (Ea n) := fs2 (S := ET) (b := qf n) Tryz.func36 rfl rfl [.tmp 4] (.s .a (.s (.s (.r [(1, .cl 55 (uV n))]) .a) (.s (.s .a (.u (.p (wu.x (fO n n))))) (.s (.s .a (.u (.p (ww.x (fP n n))))) .a)))) (nt5 (qf n) (by intros; unfold qf; simp only [ay])) (ai (xP n) (ai (Il n) (ai (Im n) trivial)))
def bu (n : Nat) (x5 x6 : Int) (h0_0 : List (List AV)) (h0_1 h0_2 : List Int) (h0_3 h0_4 h0_5 : Str) (h0_6 h0_7 h0_8 h0_9 h0_10 h0_11 h0_12 h0_13 h0_14 h0_15 h0_16 h0_17 : Int) (h0_18 h0_19 : Bool) (R : Type) (K : W21 → Option R) : Option R := cond h0_18 (cond (x6 == (0 : Int)) (K (true, h0_0, h0_1, h0_2, h0_3, h0_4, h0_5, h0_6, h0_7, h0_8, h0_9, h0_10, h0_11, h0_12, h0_13, h0_14, h0_15, h0_16, h0_17, h0_18, h0_19)) (cond (decide (0 ≤ (IntKind.i64.wrap (x6 - (1 : Int))))) ((h0_1[(IntKind.i64.wrap (x6 - (1 : Int))).toNat]?).bind fun e480 => (K (decide (e480 ≤ x5), h0_0, h0_1, h0_2, h0_3, h0_4, h0_5, h0_6, h0_7, h0_8, h0_9, h0_10, h0_11, h0_12, h0_13, h0_14, h0_15, h0_16, h0_17, h0_18, h0_19))) none)) (K (false, h0_0, h0_1, h0_2, h0_3, h0_4, h0_5, h0_6, h0_7, h0_8, h0_9, h0_10, h0_11, h0_12, h0_13, h0_14, h0_15, h0_16, h0_17, h0_18, h0_19))
def bI n x5 x6 h0_0 h0_1 h0_2 h0_3 h0_4 h0_5 h0_6 h0_7 h0_8 h0_9 h0_10 h0_11 h0_12 h0_13 h0_14 h0_15 h0_16 h0_17 h0_18 h0_19 := bu n x5 x6 h0_0 h0_1 h0_2 h0_3 h0_4 h0_5 h0_6 h0_7 h0_8 h0_9 h0_10 h0_11 h0_12 h0_13 h0_14 h0_15 h0_16 h0_17 h0_18 h0_19 _ some
def mV : PS := ⟨[], [(2, .q 0 0), (5, .n), (6, .n)], some [.c 36 [.L false 3, .l .i64, .l .i64, .s, .s, .s, .n, .n, .c, .n, .n, .n, .n, .c, .n, .n, .n, .n, .b, .b]], [⟨.normal, [2, 5], [(34, .b)], [.c 36 [.L false 3, .l .i64, .l .i64, .s, .s, .s, .n, .n, .c, .n, .n, .n, .n, .c, .n, .n, .n, .n, .b, .b]], none⟩], none, none⟩
theorem AY (n : Nat) : Snd ⟨Tryz.prog, 0, 53⟩ (mV.x (bI n)) (fb Tryz.f13 79) := iY (S := mV) (b := bu n) .a (abO (bu n) (by intros; unfold bu; simp only [ay])) trivial
def aI (n : Nat) (a0 : List (List AV)) (a1 a2 : List Int) (a3 a4 a5 : Str) (a6 a7 a8 a9 a10 a11 a12 a13 a14 a15 a16 a17 : Int) (a18 a19 : Bool) (a20 : Int) (R : Type) (K : Int → Option R) : Option R := cond a19 (K (0 : Int)) ((bI n (if (-10000000000 : Int) < (if a20 < (100000000000 : Int) then a20 else (100000000000 : Int)) then (if a20 < (100000000000 : Int) then a20 else (100000000000 : Int)) else (-10000000000 : Int)) (a1.length : Int) a0 a1 a2 a3 a4 a5 a6 a7 a8 a9 a10 a11 a12 a13 a14 a15 a16 a17 a18 a19).bind fun o481 => (cond o481.1 ((dB n o481.2.2.2.2.2.1 o481.2.2.2.2.2.2.1 o481.2.2.2.2.2.2.2.1 o481.2.2.2.2.2.2.2.2.1 o481.2.2.2.2.2.2.2.2.2.1 o481.2.2.2.2.2.2.2.2.2.2.1 o481.2.2.2.2.2.2.2.2.2.2.2.1 o481.2.2.2.2.2.2.2.2.2.2.2.2.1 o481.2.2.2.2.2.2.2.2.2.2.2.2.2.1 o481.2.2.2.2.2.2.2.2.2.2.2.2.2.2.1 o481.2.2.2.2.2.2.2.2.2.2.2.2.2.2.2.1 o481.2.2.2.2.2.2.2.2.2.2.2.2.2.2.2.2.1 o481.2.2.2.2.2.2.2.2.2.2.2.2.2.2.2.2.2.1 o481.2.2.2.2.2.2.2.2.2.2.2.2.2.2.2.2.2.2.1 (if (-10000000000 : Int) < (if a20 < (100000000000 : Int) then a20 else (100000000000 : Int)) then (if a20 < (100000000000 : Int) then a20 else (100000000000 : Int)) else (-10000000000 : Int))).bind fun o515 => (K o515.1)) ((uO n o481.2.1 o481.2.2.1 o481.2.2.2.1 o481.2.2.2.2.1 (if (-10000000000 : Int) < (if a20 < (100000000000 : Int) then a20 else (100000000000 : Int)) then (if a20 < (100000000000 : Int) then a20 else (100000000000 : Int)) else (-10000000000 : Int))).bind fun o535 => (cond (decide (0 ≤ o535)) ((o481.2.1[o535.toNat]?).bind fun e536 => (unc e536 fun c537 r538 => yu .i64 c537 fun x539 => unc r538 fun c540 r541 => yV c540 fun x542 => unc r541 fun c543 r544 => yX c543 fun x545 => unn r544 (K x539))) none))))
def aj n a0 a1 a2 a3 a4 a5 a6 a7 a8 a9 a10 a11 a12 a13 a14 a15 a16 a17 a18 a19 a20 := aI n a0 a1 a2 a3 a4 a5 a6 a7 a8 a9 a10 a11 a12 a13 a14 a15 a16 a17 a18 a19 a20 _ some
def wR : FS := ⟨[.a [.L false 3, .l .i64, .l .i64, .s, .s, .s, .n, .n, .c, .n, .n, .n, .n, .c, .n, .n, .n, .n, .b, .b], .n], [], [([.n], [])]⟩
def aY (n : Nat) : FSpec := wR.sp (aj n)
theorem bg (n : Nat) : FSound Tryz.prog 13 (aY n) := fs2 (S := wR) (b := aI n) Tryz.func13 rfl rfl [.tmp 4] (.s .a (.s .a (.s .a (.s .a (.s (.s (.p (mV.x (bI n))) (.s (.s (.r [(3, .cl 35 (D9 n)), (6, .tk [35])]) .a) .a)) (.s (.d [(6, .cl 36 (Ea n))] [(0, .peek [0] [0]), (1, .peek [0] [0]), (2, .peek [0] [0]), (3, .peek [0] [0]), (4, .peek [0] [0]), (6, .part []), (9, .no)]) .a)))))) (aaT (aI n) (by intros; unfold aI; simp only [ay])) (ai (AY n) (ai (IR n) (ai (IU n) trivial)))
def bN (n : Nat) (x3 : List Int) (x4 : Int) (h0_0 : List (List AV)) (h0_1 h0_2 : List Int) (h0_3 h0_4 h0_5 : Str) (h0_6 h0_7 h0_8 h0_9 h0_10 h0_11 h0_12 h0_13 h0_14 h0_15 h0_16 h0_17 : Int) (h0_18 h0_19 : Bool) (R : Type) (A_ : (List Int) → Int → (List (List AV)) → (List Int) → (List Int) → Str → Str → Str → Int → Int → Int → Int → Int → Int → Int → Int → Int → Int → Int → Int → Bool → Bool → Option R) (K : W22 → Option R) : Option R := cond (decide (x4 < (h0_0.length : Int))) (cond (decide (0 ≤ x4)) ((h0_0[x4.toNat]?).bind fun e595 => (unc e595 fun c596 r597 => yu .i64 c596 fun x598 => unc r597 fun c599 r600 => yV c599 fun x601 => unc r600 fun c602 r603 => yX c602 fun x604 => unn r603 (cond (decide ((x3.length + ([x598] : List Int).length) * 8 ≤ 140737488355328)) (A_ (x3 ++ ([x598] : List Int)) (IntKind.i64.wrap (x4 + (1 : Int))) h0_0 h0_1 h0_2 h0_3 h0_4 h0_5 h0_6 h0_7 h0_8 h0_9 h0_10 h0_11 h0_12 h0_13 h0_14 h0_15 h0_16 h0_17 h0_18 h0_19) none))) none) (K (x3, h0_0, h0_1, h0_2, h0_3, h0_4, h0_5, h0_6, h0_7, h0_8, h0_9, h0_10, h0_11, h0_12, h0_13, h0_14, h0_15, h0_16, h0_17, h0_18, h0_19))
def aW (n : Nat) : Nat → (List Int) → Int → (List (List AV)) → (List Int) → (List Int) → Str → Str → Str → Int → Int → Int → Int → Int → Int → Int → Int → Int → Int → Int → Int → Bool → Bool → Option (W22)
 | 0, _, _, _, _, _, _, _, _, _, _, _, _, _, _, _, _, _, _, _, _, _, _ => none
 | m + 1, x3, x4, h0_0, h0_1, h0_2, h0_3, h0_4, h0_5, h0_6, h0_7, h0_8, h0_9, h0_10, h0_11, h0_12, h0_13, h0_14, h0_15, h0_16, h0_17, h0_18, h0_19 => bN n x3 x4 h0_0 h0_1 h0_2 h0_3 h0_4 h0_5 h0_6 h0_7 h0_8 h0_9 h0_10 h0_11 h0_12 h0_13 h0_14 h0_15 h0_16 h0_17 h0_18 h0_19 _ (aW n m) some
def mr : PS := ⟨[], [(1, .q 0 0), (3, .I true .i64), (4, .n)], some [.c 36 [.L false 3, .l .i64, .l .i64, .s, .s, .s, .n, .n, .c, .n, .n, .n, .n, .c, .n, .n, .n, .n, .b, .b]], [⟨(.exit 0), [1], [(3, .I true .i64)], [.c 36 [.L false 3, .l .i64, .l .i64, .s, .s, .s, .n, .n, .c, .n, .n, .n, .n, .c, .n, .n, .n, .n, .b, .b]], none⟩], none, none⟩
def bO (n : Nat) (x3 : List Int) (h0_0 : List (List AV)) (h0_1 h0_2 : List Int) (h0_3 h0_4 h0_5 : Str) (h0_6 h0_7 h0_8 h0_9 h0_10 h0_11 h0_12 h0_13 h0_14 h0_15 h0_16 h0_17 : Int) (h0_18 h0_19 : Bool) (R : Type) (K : W22 → Option R) : Option R := cond h0_18 (cond (decide ((x3.length + ([h0_6] : List Int).length) * 8 ≤ 140737488355328)) (cond (!(h0_5 == ([] : Str))) (cond (decide (((x3 ++ ([h0_6] : List Int)).length + ([h0_7] : List Int).length) * 8 ≤ 140737488355328)) (K ((x3 ++ ([h0_6] : List Int)) ++ ([h0_7] : List Int), h0_0, h0_1, h0_2, h0_3, h0_4, h0_5, h0_6, h0_7, h0_8, h0_9, h0_10, h0_11, h0_12, h0_13, h0_14, h0_15, h0_16, h0_17, h0_18, h0_19)) none) (K (x3 ++ ([h0_6] : List Int), h0_0, h0_1, h0_2, h0_3, h0_4, h0_5, h0_6, h0_7, h0_8, h0_9, h0_10, h0_11, h0_12, h0_13, h0_14, h0_15, h0_16, h0_17, h0_18, h0_19))) none) (K (x3, h0_0, h0_1, h0_2, h0_3, h0_4, h0_5, h0_6, h0_7, h0_8, h0_9, h0_10, h0_11, h0_12, h0_13, h0_14, h0_15, h0_16, h0_17, h0_18, h0_19))
def fu n x3 h0_0 h0_1 h0_2 h0_3 h0_4 h0_5 h0_6 h0_7 h0_8 h0_9 h0_10 h0_11 h0_12 h0_13 h0_14 h0_15 h0_16 h0_17 h0_18 h0_19 := bO n x3 h0_0 h0_1 h0_2 h0_3 h0_4 h0_5 h0_6 h0_7 h0_8 h0_9 h0_10 h0_11 h0_12 h0_13 h0_14 h0_15 h0_16 h0_17 h0_18 h0_19 _ some
def mD : PS := ⟨[], [(1, .q 0 0), (3, .I true .i64)], some [.c 36 [.L false 3, .l .i64, .l .i64, .s, .s, .s, .n, .n, .c, .n, .n, .n, .n, .c, .n, .n, .n, .n, .b, .b]], [⟨.normal, [], [(3, .I true .i64)], [.c 36 [.L false 3, .l .i64, .l .i64, .s, .s, .s, .n, .n, .c, .n, .n, .n, .n, .c, .n, .n, .n, .n, .b, .b]], none⟩], none, none⟩
def bP (n : Nat) (x3 : List Int) (x5 x5_1 : Nat) (x6 x7 : Int) (h0_0 : List Int) (R : Type) (K : (Bool × (List Int)) → Option R) : Option R := cond (decide (x7 < (x5 : Int))) (cond (decide (0 ≤ x7)) (cond (decide (x7 < (x5 : Int))) ((h0_0[Int.toNat x7 * 1]?).bind fun y608 => (cond (decide (0 ≤ x6)) ((x3[x6.toNat]?).bind fun e609 => (K (decide (y608 ≤ e609), h0_0))) none)) none) none) (K (false, h0_0))
def fA n x3 x5 x5_1 x6 x7 h0_0 := bP n x3 x5 x5_1 x6 x7 h0_0 _ some
def mE : PS := ⟨[8], [(3, .I true .i64), (5, .o 0 1), (6, .n), (7, .n)], some [.rN .i64], [⟨.normal, [3, 5, 6, 7, 8], [(69, .b)], [.rN .i64], none⟩], none, none⟩
def dQ (n : Nat) (x3 : List Int) (x5 x5_1 : Nat) (x6 x7 : Int) (x8 : Bool) (h0_0 : List Int) (R : Type) (K : (Bool × (List Int)) → Option R) : Option R := cond x8 (K (true, h0_0)) (cond (decide (0 ≤ x7)) (cond (decide (x7 < (x5 : Int))) ((h0_0[Int.toNat x7 * 1]?).bind fun y612 => (cond (decide (0 ≤ x6)) ((x3[x6.toNat]?).bind fun e613 => (K (y612 == e613, h0_0))) none)) none) none)
def ji n x3 x5 x5_1 x6 x7 x8 h0_0 := dQ n x3 x5 x5_1 x6 x7 x8 h0_0 _ some
def mF : PS := ⟨[], [(3, .I true .i64), (5, .o 0 1), (6, .n), (7, .n), (8, .b)], some [.rN .i64], [⟨.normal, [3, 5, 6, 7], [(8, .b)], [.rN .i64], none⟩], none, none⟩
def bQ (n : Nat) (x3 : List Int) (x5 x5_1 : Nat) (x6 x7 : Int) (x8 : Bool) (h0_0 : List Int) (R : Type) (A_ : (List Int) → Nat → Nat → Int → Int → Bool → (List Int) → Option R) (K : (Int × Bool × (List Int)) → Option R) : Option R := (fA n x3 x5 x5_1 x6 x7 h0_0).bind fun o610 => (cond o610.1 ((ji n x3 x5 x5_1 x6 x7 x8 o610.2).bind fun o614 => (A_ x3 x5 x5_1 x6 (IntKind.i64.wrap (x7 + (1 : Int))) o614.1 o614.2)) (K (x7, x8, o610.2)))
def aX (n : Nat) : Nat → (List Int) → Nat → Nat → Int → Int → Bool → (List Int) → Option ((Int × Bool × (List Int)))
 | 0, _, _, _, _, _, _, _ => none
 | m + 1, x3, x5, x5_1, x6, x7, x8, h0_0 => bQ n x3 x5 x5_1 x6 x7 x8 h0_0 _ (aX n m) some
def mG : PS := ⟨[], [(3, .I true .i64), (5, .o 0 1), (6, .n), (7, .n), (8, .b)], some [.rN .i64], [⟨(.exit 4), [3, 5, 6], [(7, .n), (8, .b)], [.rN .i64], none⟩], none, none⟩
def dR (n : Nat) (x3 : List Int) (x5 x5_1 : Nat) (x6 : Int) (h0_0 : List Int) (R : Type) (K : ((List Int) × Nat × Nat × Int × (List Int)) → Option R) : Option R := (aX n n x3 x5 x5_1 x6 (0 : Int) false h0_0).bind fun o615 => (cond (!o615.2.1) (cond (decide (0 ≤ o615.1)) (cond (decide (o615.1 ≤ (x5 : Int))) (cond (decide ((o615.1.toNat * 1) + (x5 - o615.1.toNat) ≤ o615.2.2.length)) (cond (decide ((([] : List Int).length + (x5 - o615.1.toNat)) * 8 ≤ 140737488355328)) (cond (decide (0 ≤ o615.1)) (cond (decide (o615.1 ≤ (x5 : Int))) (cond (decide (0 ≤ x6)) ((x3[x6.toNat]?).bind fun e616 => (cond (decide (x5_1 = o615.2.2.length) && (decide (0 < o615.1.toNat + ([e616] : List Int).length) || Nat.beq x5_1 0) && decide ((o615.1.toNat + ([e616] : List Int).length) * 8 ≤ 140737488355328)) (cond (decide (o615.1.toNat + ([e616] : List Int).length = (o615.2.2.take o615.1.toNat ++ ([e616] : List Int)).length) && (decide (0 < (o615.1.toNat + ([e616] : List Int).length) + (([] : List Int) ++ (o615.2.2.drop (o615.1.toNat * 1)).take (x5 - o615.1.toNat)).length) || Nat.beq (o615.1.toNat + ([e616] : List Int).length) 0) && decide (((o615.1.toNat + ([e616] : List Int).length) + (([] : List Int) ++ (o615.2.2.drop (o615.1.toNat * 1)).take (x5 - o615.1.toNat)).length) * 8 ≤ 140737488355328)) (K (x3, (o615.1.toNat + ([e616] : List Int).length) + (([] : List Int) ++ (o615.2.2.drop (o615.1.toNat * 1)).take (x5 - o615.1.toNat)).length, (o615.1.toNat + ([e616] : List Int).length) + (([] : List Int) ++ (o615.2.2.drop (o615.1.toNat * 1)).take (x5 - o615.1.toNat)).length, x6, (o615.2.2.take o615.1.toNat ++ ([e616] : List Int)).take (o615.1.toNat + ([e616] : List Int).length) ++ (([] : List Int) ++ (o615.2.2.drop (o615.1.toNat * 1)).take (x5 - o615.1.toNat)))) none) none)) none) none) none) none) none) none) none) (K (x3, x5, x5_1, x6, o615.2.2)))
def fB n x3 x5 x5_1 x6 h0_0 := dR n x3 x5 x5_1 x6 h0_0 _ some
def mH : PS := ⟨[], [(3, .I true .i64), (5, .o 0 1), (6, .n)], some [.rN .i64], [⟨.normal, [], [(3, .I true .i64), (5, .o 0 1), (6, .n)], [.rN .i64], (some 0)⟩], (some 0), none⟩
def bR (n : Nat) (x3 : List Int) (x5 x5_1 : Nat) (x6 : Int) (h0_0 : List Int) (R : Type) (A_ : (List Int) → Nat → Nat → Int → (List Int) → Option R) (K : (Nat × Nat × (List Int)) → Option R) : Option R := cond (decide (x6 < (x3.length : Int))) ((fB n x3 x5 x5_1 x6 h0_0).bind fun o617 => (A_ o617.1 o617.2.1 o617.2.2.1 (IntKind.i64.wrap (o617.2.2.2.1 + (1 : Int))) o617.2.2.2.2)) (K (x5, x5_1, h0_0))
def aO (n : Nat) : Nat → (List Int) → Nat → Nat → Int → (List Int) → Option ((Nat × Nat × (List Int)))
 | 0, _, _, _, _, _ => none
 | m + 1, x3, x5, x5_1, x6, h0_0 => bR n x3 x5 x5_1 x6 h0_0 _ (aO n m) some
def mJ : PS := ⟨[], [(3, .I true .i64), (5, .o 0 1), (6, .n)], some [.rN .i64], [⟨(.exit 2), [], [(5, .o 0 1)], [.rN .i64], none⟩], (some 0), none⟩
theorem zU (n : Nat) : Snd ⟨Tryz.prog, 0, 103⟩ (mE.x (fA n)) (fb Tryz.f16 533695) := iY (S := mE) (b := bP n) (.d [] [(1, .look), (2, .look), (5, .look), (7, .look), (12, .no)]) (nt6 (bP n) (by intros; unfold bP; simp only [ay])) trivial
theorem zV (n : Nat) : Snd ⟨Tryz.prog, 0, 103⟩ (mF.x (ji n)) (fb Tryz.f16 1189055) := iY (S := mF) (b := dQ n) (.d [] [(2, .look), (4, .look), (9, .no)]) (nt7 (dQ n) (by intros; unfold dQ; simp only [ay])) trivial
theorem zW (n : Nat) : Snd ⟨Tryz.prog, 0, 103⟩ (mG.x (aX n n)) (fb Tryz.f16 74943) := mK (S := mG) (b := bQ n) (f := aX n) n (.s (.s (.p (mE.x (fA n))) .a) (.u (.s (.p (mF.x (ji n))) .a))) (nl7 (bQ n) (by intros; unfold bQ; simp only [ay])) (ai (zU n) (ai (zV n) trivial))
theorem zX (n : Nat) : Snd ⟨Tryz.prog, 0, 103⟩ (mH.x (fB n)) (fb Tryz.f16 5311) := iY (S := mH) (b := dR n) (.u (.s .a (.s (.u (.p (mG.x (aX n n)))) (.s .a (.s (.s .a (.s (.r [(0, .tk [9]), (4, .am [86]), (5, .tk [90])]) (.d [(8, .ao), (9, .tk [9]), (10, .ao)] [(0, .look), (2, .look), (6, .no), (8, .all), (10, .all), (11, .look)]))) .a))))) (nt5 (dR n) (by intros; unfold dR; simp only [ay])) (ai (zW n) trivial)
theorem zY (n : Nat) : Snd ⟨Tryz.prog, 0, 103⟩ (mr.x (aW n n)) (fb Tryz.f16 87) := mK (S := mr) (b := bN n) (f := aW n) n (.s .a (.s (.u (.r [(0, .tk [3]), (9, .tk [21]), (10, .tk [30])])) .a)) (aaS (bN n) (by intros; unfold bN; simp only [ay])) trivial
theorem zZ (n : Nat) : Snd ⟨Tryz.prog, 0, 103⟩ (mD.x (fu n)) (fb Tryz.f16 47) := iY (S := mD) (b := bO n) (.s .a (.s (.s (.r [(0, .tk [3]), (5, .tk [33]), (6, .tk [38])]) (.s .a (.s (.r [(0, .tk [3]), (5, .tk [43]), (6, .tk [48])]) .a))) .a)) (aaT (bO n) (by intros; unfold bO; simp only [ay])) trivial
theorem Aa (n : Nat) : Snd ⟨Tryz.prog, 0, 103⟩ (mJ.x (aO n n)) (fb Tryz.f16 703) := mK (S := mJ) (b := bR n) (f := aO n) n (.s .a (.s (.p (mH.x (fB n))) .a)) (nl5 (bR n) (by intros; unfold bR; simp only [ay])) (ai (zX n) trivial)
def bJ (n : Nat) (a0 : List (List AV)) (a1 a2 : List Int) (a3 a4 a5 : Str) (a6 a7 a8 a9 a10 a11 a12 a13 a14 a15 a16 a17 : Int) (a18 a19 : Bool) (R : Type) (K : (List Int) → Option R) : Option R := cond a19 (K ([(0 : Int)] : List Int)) ((aW n n ([] : List Int) (0 : Int) a0 a1 a2 a3 a4 a5 a6 a7 a8 a9 a10 a11 a12 a13 a14 a15 a16 a17 a18 a19).bind fun o605 => ((fu n o605.1 o605.2.1 o605.2.2.1 o605.2.2.2.1 o605.2.2.2.2.1 o605.2.2.2.2.2.1 o605.2.2.2.2.2.2.1 o605.2.2.2.2.2.2.2.1 o605.2.2.2.2.2.2.2.2.1 o605.2.2.2.2.2.2.2.2.2.1 o605.2.2.2.2.2.2.2.2.2.2.1 o605.2.2.2.2.2.2.2.2.2.2.2.1 o605.2.2.2.2.2.2.2.2.2.2.2.2.1 o605.2.2.2.2.2.2.2.2.2.2.2.2.2.1 o605.2.2.2.2.2.2.2.2.2.2.2.2.2.2.1 o605.2.2.2.2.2.2.2.2.2.2.2.2.2.2.2.1 o605.2.2.2.2.2.2.2.2.2.2.2.2.2.2.2.2.1 o605.2.2.2.2.2.2.2.2.2.2.2.2.2.2.2.2.2.1 o605.2.2.2.2.2.2.2.2.2.2.2.2.2.2.2.2.2.2.1 o605.2.2.2.2.2.2.2.2.2.2.2.2.2.2.2.2.2.2.2.1 o605.2.2.2.2.2.2.2.2.2.2.2.2.2.2.2.2.2.2.2.2).bind fun o606 => ((aO n n o606.1 0 0 (0 : Int) ([] : List Int)).bind fun o618 => (cond (decide (o618.2.1 = o618.2.2.length)) (K (o618.2.2.take o618.1)) none))))
def aQ n a0 a1 a2 a3 a4 a5 a6 a7 a8 a9 a10 a11 a12 a13 a14 a15 a16 a17 a18 a19 := bJ n a0 a1 a2 a3 a4 a5 a6 a7 a8 a9 a10 a11 a12 a13 a14 a15 a16 a17 a18 a19 _ some
def vI : FS := ⟨[.a [.L false 3, .l .i64, .l .i64, .s, .s, .s, .n, .n, .c, .n, .n, .n, .n, .c, .n, .n, .n, .n, .b, .b]], [], [([.I true .i64], [])]⟩
def jk (n : Nat) : FSpec := vI.sp (aQ n)
theorem ll (n : Nat) : FSound Tryz.prog 16 (jk n) := fs2 (S := vI) (b := bJ n) Tryz.func16 rfl rfl [.tmp 2] (.s .a (.s (.s .a (.s (.s (.r [(1, .tk [12])]) .a) .a)) (.s .a (.s (.s .a (.u (.p (mr.x (aW n n))))) (.s (.p (mD.x (fu n))) (.s (.r [(0, .nl (some .i64) 1)]) (.s (.s .a (.u (.p (mJ.x (aO n n))))) (.s (.z [5] (.r [(0, .tk [5]), (1, .tk [102])])) .a)))))))) (acC (bJ n) (by intros; unfold bJ; simp only [ay])) (ai (zY n) (ai (zZ n) (ai (Aa n) trivial)))
def bX (n : Nat) (a0 : List (List AV)) (a1 a2 : List Int) (a3 a4 a5 : Str) (a6 a7 a8 a9 a10 a11 a12 a13 a14 a15 a16 a17 : Int) (a18 a19 : Bool) (a20 : Int) (R : Type) (K : Int → Option R) : Option R := (gG n a20 (1000000 : Int)).bind fun o631 => ((aj n a0 a1 a2 a3 a4 a5 a6 a7 a8 a9 a10 a11 a12 a13 a14 a15 a16 a17 a18 a19 o631).bind fun o632 => (K (IntKind.i64.wrap (a20 + (IntKind.i64.wrap (o632 * (1000000 : Int)))))))
def aP n a0 a1 a2 a3 a4 a5 a6 a7 a8 a9 a10 a11 a12 a13 a14 a15 a16 a17 a18 a19 a20 := bX n a0 a1 a2 a3 a4 a5 a6 a7 a8 a9 a10 a11 a12 a13 a14 a15 a16 a17 a18 a19 a20 _ some
def xz : FS := ⟨[.a [.L false 3, .l .i64, .l .i64, .s, .s, .s, .n, .n, .c, .n, .n, .n, .n, .c, .n, .n, .n, .n, .b, .b], .n], [], [([.n], [])]⟩
def wS (n : Nat) : FSpec := xz.sp (aP n)
theorem Cm (n : Nat) : FSound Tryz.prog 19 (wS n) := fs2 (S := xz) (b := bX n) Tryz.func19 rfl rfl [.tmp 4] (.s .a (.s (.d [(3, .cl 11 (vv n)), (4, .cl 13 (aY n))] [(1, .peek [0] [0]), (3, .part []), (4, .part [])]) .a)) (aaT (bX n) (by intros; unfold bX; simp only [ay])) (ai (ym n) (ai (bg n) trivial))
end Go.Proofs.YtiegmpnagcdgoaaGreatDoor.H
namespace Go.Proofs.YtiegmpnagcdgoaaGreatDoor.H
open Go.Sh Go.RowKit
set_option linter.unusedVariables false
set_option linter.unusedSimpArgs false
set_option maxHeartbeats 4000000
set_option maxRecDepth 100000
end Go.Proofs.YtiegmpnagcdgoaaGreatDoor.H
namespace Go.Sh
open Go.RowKit
set_option linter.unusedSimpArgs false
theorem aa {α : Type} {p : Prop} [Decidable p] (h : p) (x y : α) : cond (decide p) x y = x := by rw [decide_eq_true h]; rfl
theorem ah {α : Type} {p : Prop} [Decidable p] (h : ¬p) (x y : α) : cond (decide p) x y = y := by rw [decide_eq_false h]; rfl
theorem vJ (i : Nat) (h : i < 9223372036854775807) : IntKind.i64.wrap ((i : Int) + 1) = ((i + 1 : Nat) : Int) := by
 rw [IntWalk.i64_in _ (by omega)]
 omega
theorem GL {p : Nat → Prop} [DecidablePred p] (h : ((List.range 256).all fun x => decide (p x)) = true) (b : UInt8) : p b.toNat :=
 of_decide_eq_true (List.all_eq_true.1 h _ (List.mem_range.2 b.toNat_lt))
theorem Zz (c d : UInt8) : ((c.toNat : Int) == (d.toNat : Int)) = (c == d) := by
 rw [Bool.eq_iff_iff, beq_iff_eq, beq_iff_eq]
 constructor
 ·intro h
  exact UInt8.toNat_inj.1 (by omega)
 ·intro h
  rw [h]
theorem KH (c d : UInt8) : ((c.toNat : Int) != (d.toNat : Int)) = (c != d) := by rw [bne, bne, Zz]
theorem LP (s : Str) : (pU s).length = s.length := by simp [pU]
theorem jJ {α : Type} {s r : List α} {i : Nat} {c : α} (h : s.drop i = c :: r) : s[i]? = some c ∧ s.drop (i + 1) = r ∧ i < s.length := by
 have hi : i < s.length := by
  by_cases hi : i < s.length
  ·exact hi
  ·rw [List.drop_eq_nil_of_le (by omega)] at h; cases h
 rw [List.drop_eq_getElem_cons hi] at h
 injection h with h1 h2
 exact ⟨by rw [List.getElem?_eq_getElem hi, h1], h2, hi⟩
theorem drop_nil {α : Type} {s : List α} {i : Nat} (h : s.drop i = []) : s.length ≤ i := by simpa using h
end Go.Sh
namespace Go.Proofs.YtiegmpnagcdgoaaGreatDoor.H
open Go.Sh Go.RowKit
set_option linter.unusedSimpArgs false
set_option linter.unusedVariables false
def jH (b : UInt8) : Bool := (65 ≤ b && b ≤ 90) || (97 ≤ b && b ≤ 122)
def fC (b : UInt8) : Bool := 48 ≤ b && b ≤ 57
def JQ (b : UInt8) : Bool := jH b || fC b || b == 43 || b == 45
def xA (b : UInt8) : Bool := b != 62
theorem VA (n : Nat) (b : UInt8) : wF n (b.toNat : Int) = some (jH b) := by
 have h := GL (p := fun x => wF 0 (x : Int) = some (jH (UInt8.ofNat x))) (by decide +kernel) b
 rw [UInt8.ofNat_toNat] at h
 exact h
theorem XU (n : Nat) (b : UInt8) : xJ n (b.toNat : Int) = some (fC b) := by
 have h := GL (p := fun x => xJ 0 (x : Int) = some (fC (UInt8.ofNat x))) (by decide +kernel) b
 rw [UInt8.ofNat_toNat] at h
 exact h
theorem ZA (n : Nat) (b : UInt8) : ql n (b.toNat : Int) = some (xA b) := by
 have h := GL (p := fun x => ql 0 (x : Int) = some (xA (UInt8.ofNat x))) (by decide +kernel) b
 rw [UInt8.ofNat_toNat] at h
 exact h
theorem XV (n : Nat) (b : UInt8) : Bt n (b.toNat : Int) = some (!JQ b) := by
 have h := GL (p := fun x => Bt 0 (x : Int) = some (!JQ (UInt8.ofNat x))) (by decide +kernel) b
 rw [UInt8.ofNat_toNat] at h
 exact h
theorem aaW (b : UInt8) (hb : b.toNat < 128) : (Utf8.encode (IntKind.i32.wrap (b.toNat : Int))).data.toList = [b] := by
 have h := GL (p := fun x => x < 128 → (Utf8.encode (IntKind.i32.wrap (x : Int))).data.toList = [UInt8.ofNat x]) (by decide +kernel) b hb
 rw [UInt8.ofNat_toNat] at h
 exact h
def aA (c : UInt8) : Str → Bool × Str
 | [] => (false, [])
 | x :: r => if x = c then (true, r) else (false, x :: r)
theorem iV (c : UInt8) (r : Str) : (aA c r).2.length ≤ r.length := by
 cases r with
 | nil => simp [aA]
 | cons x r => by_cases h : x = c <;> simp [aA, h]
theorem Fv (n : Nat) (a : Int) (c : UInt8) (r : Str) (b : Bool) (ha : a = (c.toNat : Int) := by rfl) (hc : c.toNat < 128 := by decide) : bC n a r b = some ((aA c r).1, (aA c r).2, b) := by
 subst ha
 unfold bC pY yQ
 rw [aaW c hc]
 cases r with
 | nil => rfl
 | cons x r =>
  have hp : Lib.hasPrefix (x :: r) [c] = (c == x) := by simp [Lib.hasPrefix, List.isPrefixOf]
  by_cases h : x = c
  ·subst h; simp [aA, Lib.trimPrefix, hp]
  ·simp [aA, Lib.trimPrefix, hp, h, Ne.symm h]
theorem KI (n : Nat) (a : Int) (c : UInt8) (r : Str) (b : Bool) (ha : a = (c.toNat : Int) := by rfl) (hc : c.toNat < 128 := by decide) : fG n a r b = some ((aA c r).2, b || !(aA c r).1) := by
 unfold fG oG
 rw [Fv n a c r b ha hc]
 cases h : (aA c r).1 <;> cases b <;> simp [h]
theorem Uw (n : Nat) (x1 : Nat) (s : Str) (b : Bool) (hs : s.length < 9223372036854775808) : ∀ (m i : Nat), s.length - i < m → i ≤ s.length →
 iF n m (x1 : Int) (i : Int) s b = some (((i + (((s.drop i).take (x1 - i)).takeWhile xA).length : Nat) : Int), s, b)
 | 0, i, hm, _ => by omega
 | m + 1, i, hm, hi => by
  rw [iF, lu, sP, lq]
  cases hd : s.drop i with
  | nil =>
   have := drop_nil hd
   rw [ah (by omega)]
   simp
  | cons c r =>
   obtain ⟨h1, h2, h3⟩ := jJ hd
   rw [aa (by omega)]
   by_cases hx : i < x1
   ·rw [aa (by omega), aa (by omega), Int.toNat_natCast, h1]
    simp only [Option.bind_some, ZA]
    obtain ⟨k, hk⟩ : ∃ k, x1 - i = k + 1 := ⟨x1 - i - 1, by omega⟩
    rw [hk, List.take_succ_cons]
    cases hc : xA c with
    | false => rw [List.takeWhile_cons_of_neg (by simp [hc])]; simp
    | true =>
     rw [List.takeWhile_cons_of_pos (by simp [hc]), cond_true, vJ i (by omega), Uw n x1 s b hs m (i + 1) (by omega) (by omega), h2, show x1 - (i + 1) = k by omega]
     refine congrArg some (Prod.ext (congrArg (fun z : Nat => (z : Int)) ?_) rfl)
     simp only [List.length_cons]
     omega
   ·rw [ah (by omega)]
    simp [show x1 - i = 0 by omega]
theorem RG (n : Nat) (x1 : Nat) (s : Str) (b : Bool) (hs : s.length < 9223372036854775808) : ∀ (m i : Nat), s.length - i < m → i ≤ s.length →
 gz n m (x1 : Int) (i : Int) s b = some (((i + (((s.drop i).take (x1 - i)).takeWhile jH).length : Nat) : Int), s, b)
 | 0, i, hm, _ => by omega
 | m + 1, i, hm, hi => by
  rw [gz, jP, qm, jO]
  cases hd : s.drop i with
  | nil =>
   have := drop_nil hd
   rw [ah (by omega)]
   simp
  | cons c r =>
   obtain ⟨h1, h2, h3⟩ := jJ hd
   rw [aa (by omega)]
   by_cases hx : i < x1
   ·rw [aa (by omega), aa (by omega), Int.toNat_natCast, h1]
    simp only [Option.bind_some, VA]
    obtain ⟨k, hk⟩ : ∃ k, x1 - i = k + 1 := ⟨x1 - i - 1, by omega⟩
    rw [hk, List.take_succ_cons]
    cases hc : jH c with
    | false => rw [List.takeWhile_cons_of_neg (by simp [hc])]; simp
    | true =>
     rw [List.takeWhile_cons_of_pos (by simp [hc]), cond_true, vJ i (by omega), RG n x1 s b hs m (i + 1) (by omega) (by omega), h2, show x1 - (i + 1) = k by omega]
     refine congrArg some (Prod.ext (congrArg (fun z : Nat => (z : Int)) ?_) rfl)
     simp only [List.length_cons]
     omega
   ·rw [ah (by omega)]
    simp [show x1 - i = 0 by omega]
theorem RH (n : Nat) (x1 : Nat) (s : Str) (b : Bool) (hs : s.length < 9223372036854775808) : ∀ (m i : Nat), s.length - i < m → i ≤ s.length →
 gB n m (x1 : Int) (i : Int) s b = some (((i + (((s.drop i).take (x1 - i)).takeWhile fC).length : Nat) : Int), s, b)
 | 0, i, hm, _ => by omega
 | m + 1, i, hm, hi => by
  rw [gB, jR, qo, jQ]
  cases hd : s.drop i with
  | nil =>
   have := drop_nil hd
   rw [ah (by omega)]
   simp
  | cons c r =>
   obtain ⟨h1, h2, h3⟩ := jJ hd
   rw [aa (by omega)]
   by_cases hx : i < x1
   ·rw [aa (by omega), aa (by omega), Int.toNat_natCast, h1]
    simp only [Option.bind_some, XU]
    obtain ⟨k, hk⟩ : ∃ k, x1 - i = k + 1 := ⟨x1 - i - 1, by omega⟩
    rw [hk, List.take_succ_cons]
    cases hc : fC c with
    | false => rw [List.takeWhile_cons_of_neg (by simp [hc])]; simp
    | true =>
     rw [List.takeWhile_cons_of_pos (by simp [hc]), cond_true, vJ i (by omega), RH n x1 s b hs m (i + 1) (by omega) (by omega), h2, show x1 - (i + 1) = k by omega]
     refine congrArg some (Prod.ext (congrArg (fun z : Nat => (z : Int)) ?_) rfl)
     simp only [List.length_cons]
     omega
   ·rw [ah (by omega)]
    simp [show x1 - i = 0 by omega]
def ky (p : UInt8 → Bool) (k : Nat) (s : Str) : Str := (s.take k).takeWhile p
theorem K6 (p : UInt8 → Bool) (k : Nat) (s : Str) : s.take (ky p k s).length = ky p k s := by
 have h : ky p k s <+: s := (List.takeWhile_prefix p).trans (List.take_prefix k s)
 exact (List.prefix_iff_eq_take.1 h).symm
theorem yn (p : UInt8 → Bool) (k : Nat) (s : Str) : (ky p k s).length ≤ s.length ∧ (ky p k s).length ≤ k := by
 have h := (List.takeWhile_prefix p (l := s.take k)).length_le
 rw [List.length_take] at h
 unfold ky
 omega
theorem Ux (p : UInt8 → Bool) (k : Nat) (s : Str) : (ky p k s).all p = true := by
 exact List.all_takeWhile
theorem aaX (n k : Nat) (s : Str) (b : Bool) (hs : s.length < 9223372036854775808) (hn : s.length < n) : uJ n (k : Int) s b = some (ky xA k s, s.drop (ky xA k s).length, b) := by
 have hl := yn xA k s
 unfold uJ p8
 have h := Uw n k s b hs n 0 (by omega) (by omega)
 simp only [List.drop_zero, Nat.sub_zero, Nat.zero_add] at h
 rw [show (0 : Int) = ((0 : Nat) : Int) from rfl, h]
 simp only [Option.bind_some]
 change cond (decide ((0 : Int) ≤ ((ky xA k s).length : Int))) (cond (decide (((ky xA k s).length : Int) ≤ (s.length : Int))) _ _) _ = _
 rw [aa (by omega), aa (by omega)]
 change cond (decide ((0 : Int) ≤ ((ky xA k s).length : Int))) (cond (decide (((ky xA k s).length : Int) ≤ (s.length : Int))) (some ((s.take ((ky xA k s).length : Int).toNat).drop 0, s.drop ((ky xA k s).length : Int).toNat, b)) _) _ = _
 rw [aa (by omega), aa (by omega), Int.toNat_natCast, K6, List.drop_zero]
theorem ZB (n k : Nat) (s : Str) (b : Bool) (hs : s.length < 9223372036854775808) (hn : s.length < n) : rF n (k : Int) s b = some (ky jH k s, s.drop (ky jH k s).length, b) := by
 have hl := yn jH k s
 unfold rF ny
 have h := RG n k s b hs n 0 (by omega) (by omega)
 simp only [List.drop_zero, Nat.sub_zero, Nat.zero_add] at h
 rw [show (0 : Int) = ((0 : Nat) : Int) from rfl, h]
 simp only [Option.bind_some]
 change cond (decide ((0 : Int) ≤ ((ky jH k s).length : Int))) (cond (decide (((ky jH k s).length : Int) ≤ (s.length : Int))) _ _) _ = _
 rw [aa (by omega), aa (by omega)]
 change cond (decide ((0 : Int) ≤ ((ky jH k s).length : Int))) (cond (decide (((ky jH k s).length : Int) ≤ (s.length : Int))) (some ((s.take ((ky jH k s).length : Int).toNat).drop 0, s.drop ((ky jH k s).length : Int).toNat, b)) _) _ = _
 rw [aa (by omega), aa (by omega), Int.toNat_natCast, K6, List.drop_zero]
theorem ZC (n k : Nat) (s : Str) (b : Bool) (hs : s.length < 9223372036854775808) (hn : s.length < n) : rH n (k : Int) s b = some (ky fC k s, s.drop (ky fC k s).length, b) := by
 have hl := yn fC k s
 unfold rH nz
 have h := RH n k s b hs n 0 (by omega) (by omega)
 simp only [List.drop_zero, Nat.sub_zero, Nat.zero_add] at h
 rw [show (0 : Int) = ((0 : Nat) : Int) from rfl, h]
 simp only [Option.bind_some]
 change cond (decide ((0 : Int) ≤ ((ky fC k s).length : Int))) (cond (decide (((ky fC k s).length : Int) ≤ (s.length : Int))) _ _) _ = _
 rw [aa (by omega), aa (by omega)]
 change cond (decide ((0 : Int) ≤ ((ky fC k s).length : Int))) (cond (decide (((ky fC k s).length : Int) ≤ (s.length : Int))) (some ((s.take ((ky fC k s).length : Int).toNat).drop 0, s.drop ((ky fC k s).length : Int).toNat, b)) _) _ = _
 rw [aa (by omega), aa (by omega), Int.toNat_natCast, K6, List.drop_zero]
theorem Qj (n : Nat) (s : Str) (hs : s.length < 9223372036854775808) : ∀ (m i : Nat), s.length - i < m →
 ∃ o, bq n m (pU s) (s.length : Int) (i : Int) = some o ∧ ((s.drop i).all JQ = true → o = Sum.inr ()) ∧ ((s.drop i).all JQ = false → ∃ j : Nat, o = Sum.inl (j : Int))
 | 0, i, hm => by omega
 | m + 1, i, hm => by
  rw [bq, dC]
  cases hd : s.drop i with
  | nil =>
   have := drop_nil hd
   rw [ah (by omega)]
   exact ⟨_, rfl, by simp⟩
  | cons c r =>
   obtain ⟨h1, h2, h3⟩ := jJ hd
   have h4 : (pU s)[i]? = some (c.toNat : Int) := by simp [pU, h1]
   rw [aa (by omega), aa (by omega), Int.toNat_natCast, h4]
   simp only [Option.bind_some, XV, List.all_cons]
   rcases Bool.eq_false_or_eq_true (JQ c) with hc | hc
   ·rw [hc, Bool.not_true, cond_false, vJ i (by omega)]
    obtain ⟨o, h5, h6⟩ := Qj n s hs m (i + 1) (by omega)
    rw [h2] at h6
    exact ⟨o, h5, by simpa using h6⟩
   ·rw [hc]
    exact ⟨_, rfl, by simp, fun _ => ⟨i, rfl⟩⟩
def uB (s : Str) : Bool := decide (3 ≤ s.length) && decide (s.length ≤ 10) && s.all JQ
theorem aaY (n : Nat) (s : Str) (hs : s.length < 9223372036854775808) (hn : s.length < n) : EY n s = some (s.all JQ) := by
 unfold EY Bu kY dD nR eO
 obtain ⟨o, h1, h2, h3⟩ := Qj n s hs n 0 (by omega)
 rw [LP, show (0 : Int) = ((0 : Nat) : Int) from rfl, h1]
 rw [List.drop_zero] at h2 h3
 rcases Bool.eq_false_or_eq_true (s.all JQ) with h | h
 ·rw [h2 h, h]; rfl
 ·obtain ⟨j, rfl⟩ := h3 h
  rw [h]
  simp
theorem Nz (n : Nat) (s : Str) (hs : s.length < 9223372036854775808) (hn : s.length < n) : wV n s = some (uB s) := by
 unfold wV ze uB
 rw [aaY n s hs hn]
 by_cases h1 : 3 ≤ s.length
 ·rw [aa (by omega)]
  by_cases h2 : s.length ≤ 10
  ·rw [aa (by omega)]; simp [h1, h2]
  ·rw [ah (by omega)]; simp [h1, h2]
 ·rw [ah (by omega)]; simp [h1]
def aB (r : Str) : Str × Str × Bool :=
 let e := aA 60 r
 if e.1 = true then
  let w := ky xA e.2.length e.2
  let f := aA 62 (e.2.drop w.length)
  (w, f.2, !f.1 || !uB w)
 else
  let w := ky jH e.2.length e.2
  (w, e.2.drop w.length, !uB w)
theorem Od (r : Str) : (aB r).2.1.length ≤ r.length := by
 have h1 := iV 60 r
 unfold aB
 dsimp only
 split
 ·have h2 := iV 62 ((aA 60 r).2.drop (ky xA (aA 60 r).2.length (aA 60 r).2).length)
  simp only [List.length_drop] at h2
  dsimp only
  omega
 ·simp only [List.length_drop]; omega
theorem RI (n : Nat) (r : Str) (b : Bool) (hs : r.length < 9223372036854775808) (hn : r.length < n) : oI n r b = some ((aB r).1, (aB r).2.1, b || (aB r).2.2) := by
 have hl := iV 60 r
 unfold oI oH rG kz aB
 rw [Fv n 60 60 r b]
 simp only [Option.bind_some]
 cases he : (aA 60 r).1 with
 | true =>
  have h2 := yn xA (aA 60 r).2.length (aA 60 r).2
  rw [cond_true, aaX n _ _ b (by omega) (by omega)]
  simp only [Option.bind_some]
  rw [KI n 62 62]
  simp only [Option.bind_some, if_true, Nz n (ky xA (aA 60 r).2.length (aA 60 r).2) (by omega) (by omega)]
  cases b <;> cases (aA 62 ((aA 60 r).2.drop (ky xA (aA 60 r).2.length (aA 60 r).2).length)).1 <;> rfl
 | false =>
  have h2 := yn jH (aA 60 r).2.length (aA 60 r).2
  rw [cond_false, ZB n _ _ b (by omega) (by omega)]
  simp only [Option.bind_some, Bool.false_eq_true, if_false, Nz n (ky jH (aA 60 r).2.length (aA 60 r).2) (by omega) (by omega)]
  cases b <;> rfl
end Go.Proofs.YtiegmpnagcdgoaaGreatDoor.H
namespace Go.Proofs.YtiegmpnagcdgoaaGreatDoor.H
open Go.Sh Go.RowKit
set_option linter.unusedSimpArgs false
set_option linter.unusedVariables false
def Lj (d : Str) : Nat := d.foldl (fun a c => a * 10 + (c.toNat - 48)) 0
theorem XW (d : Str) (c : UInt8) : Lj (d ++ [c]) = Lj d * 10 + (c.toNat - 48) := by simp [Lj, List.foldl_append]
theorem Mt (c : UInt8) : fC c = true ↔ 48 ≤ c.toNat ∧ c.toNat ≤ 57 := by
 unfold fC
 simp only [Bool.and_eq_true, decide_eq_true_eq, UInt8.le_iff_toNat_le]
 exact Iff.rfl
theorem Qk : ∀ (l : Str) (acc k : Nat), acc < 10 ^ k → k + l.length ≤ 18 → l.all fC = true →
 Lib.parseUint10 acc l = .ok (l.foldl (fun a c => a * 10 + (c.toNat - 48)) acc) ∧ l.foldl (fun a c => a * 10 + (c.toNat - 48)) acc < 10 ^ (k + l.length)
 | [], acc, k, h, _, _ => ⟨rfl, h⟩
 | c :: r, acc, k, h, hk, hd => by
  simp only [List.all_cons, Bool.and_eq_true, Mt] at hd
  simp only [List.length_cons] at hk
  have h17 : 10 ^ k ≤ 10 ^ 17 := Nat.pow_le_pow_right (by omega) (by omega)
  have hp : (10 : Nat) ^ (k + 1) = 10 ^ k * 10 := Nat.pow_succ ..
  have h1 : acc * 10 + (c.toNat - 48) < 10 ^ (k + 1) := by omega
  have h2 := Qk r (acc * 10 + (c.toNat - 48)) (k + 1) h1 (by omega) hd.2
  rw [Lib.parseUint10, if_pos hd.1, if_neg (by omega), if_neg (by omega)]
  rw [show k + (c :: r).length = k + 1 + r.length by simp only [List.length_cons]; omega]
  exact h2
theorem Te (d : Str) (hl : d.length ≤ 18) (hd : d.all fC = true) : Lj d < 10 ^ d.length := by
 have := (Qk d 0 0 (by omega) (by omega) hd).2
 rwa [Nat.zero_add] at this
theorem ZE (n : Nat) (d : Str) (hl : d.length ≤ 3) (hd : d.all fC = true) : xK n d = some (Lj d : Int) := by
 unfold xK Ga
 rw [aa (by omega)]
 cases d with
 | nil => rfl
 | cons c r =>
  have h := (Qk (c :: r) 0 0 (by omega) (by omega) hd).1
  have h2 := Te (c :: r) (by omega) hd
  have h3 : (10 : Nat) ^ (c :: r).length ≤ 10 ^ 3 := Nat.pow_le_pow_right (by omega) hl
  have hc := hd
  simp only [List.all_cons, Bool.and_eq_true, Mt] at hc
  unfold Lib.atoiAll
  simp only
  rw [if_neg (by omega), Lib.parseMag, if_neg (by simp), h]
  change some (match (if ¬ (c.toNat = 45) ∧ 9223372036854775808 ≤ Lj (c :: r) then Lib.NumEnd.range else if c.toNat = 45 ∧ 9223372036854775808 < Lj (c :: r) then .range else .ok (if c.toNat = 45 then -(Lj (c :: r) : Int) else (Lj (c :: r) : Int))) with | .ok v => v | .range => _ | _ => 0) = _
  rw [if_neg (by omega), if_neg (by omega), if_neg (by omega)]
def dA (least most : Nat) (r : Str) : Nat × Str × Bool :=
 let d := ky fC most r
 (Lj d, r.drop d.length, decide (d.length < least))
theorem wT (a b : Nat) (r : Str) : (dA a b r).2.1.length ≤ r.length := by
 simp [dA, List.length_drop]
theorem Fw (a : Nat) (b : Nat) (r : Str) (hb : b ≤ 3) : (dA a b r).1 < 1000 := by
 have h1 := yn fC b r
 have h2 := Te (ky fC b r) (by omega) (Ux _ _ _)
 have h3 : (10 : Nat) ^ (ky fC b r).length ≤ 10 ^ 3 := Nat.pow_le_pow_right (by omega) (by omega)
 exact Nat.lt_of_lt_of_le h2 h3
theorem Js (n a b : Nat) (ha : a ≤ 3) (hb : b ≤ 3) (r : Str) (bad : Bool) (hs : r.length < 9223372036854775808) (hn : r.length < n) :
 aZ n (a : Int) (b : Int) r bad = some (((dA a b r).1 : Int), (dA a b r).2.1, bad || (dA a b r).2.2) := by
 have h1 := yn fC b r
 unfold aZ lw pz jl dA
 rw [ZC n b r bad hs hn]
 simp only [Option.bind_some]
 rw [ZE n _ (by omega) (Ux _ _ _)]
 have hd : decide (((ky fC b r).length : Int) < (a : Int)) = decide ((ky fC b r).length < a) := by rw [decide_eq_decide]; omega
 rw [hd]
 cases bad <;> rfl
def minS (r : Str) : Int × Str × Bool :=
 let e := aA 58 r
 if e.1 = true then
  let m := dA 2 2 e.2
  let f := aA 58 m.2.1
  if f.1 = true then
   let s := dA 2 2 f.2
   (60 * (m.1 : Int) + s.1, s.2.1, m.2.2 || decide (60 ≤ m.1) || s.2.2 || decide (60 ≤ s.1))
  else (60 * (m.1 : Int), f.2, m.2.2 || decide (60 ≤ m.1))
 else (0, e.2, false)
theorem ZF (r : Str) : (minS r).2.1.length ≤ r.length := by
 have h1 := iV 58 r
 have h2 := wT 2 2 (aA 58 r).2
 have h3 := iV 58 (dA 2 2 (aA 58 r).2).2.1
 have h4 := wT 2 2 (aA 58 (dA 2 2 (aA 58 r).2).2.1).2
 unfold minS
 dsimp only
 split
 ·split <;> dsimp only <;> omega
 ·exact h1
theorem WI (r : Str) : 0 ≤ (minS r).1 ∧ (minS r).1 < 70000 := by
 have h2 := Fw 2 2 (aA 58 r).2 (by omega)
 have h4 := Fw 2 2 (aA 58 (dA 2 2 (aA 58 r).2).2.1).2 (by omega)
 unfold minS
 dsimp only
 split
 ·split <;> dsimp only <;> omega
 ·simp
def vw (r : Str) : Int × Str :=
 let e := aA 45 r
 if e.1 = true then (-1, e.2) else (1, (aA 43 e.2).2)
theorem RJ (r : Str) : (vw r).2.length ≤ r.length := by
 have h1 := iV 45 r
 have h2 := iV 43 (aA 45 r).2
 unfold vw
 dsimp only
 split <;> dsimp only <;> omega
theorem Ql (r : Str) : (vw r).1 = -1 ∨ (vw r).1 = 1 := by
 unfold vw
 dsimp only
 split <;> simp
def dH (most : Nat) (r : Str) : Int × Str × Bool :=
 let g := vw r
 let h := dA 1 3 g.2
 let m := minS h.2.1
 (g.1 * (3600 * (h.1 : Int) + m.1), m.2.1, h.2.2 || decide (most < h.1) || m.2.2)
theorem Jt (most : Nat) (r : Str) : (dH most r).2.1.length ≤ r.length := by
 have h1 := RJ r
 have h2 := wT 1 3 (vw r).2
 have h3 := ZF (dA 1 3 (vw r).2).2.1
 unfold dH
 dsimp only
 omega
theorem K7 (most : Nat) (r : Str) : -4000000 < (dH most r).1 ∧ (dH most r).1 < 4000000 := by
 have h1 := Fw 1 3 (vw r).2 (by omega)
 have h2 := WI (dA 1 3 (vw r).2).2.1
 unfold dH
 dsimp only
 rcases Ql r with h | h <;> rw [h] <;> omega
theorem ZG (n : Nat) (r : Str) (b : Bool) : lC n 1 r b = some ((vw r).1, (vw r).2, b) := by
 unfold lC jS vw
 rw [Fv n 45 45]
 simp only [Option.bind_some]
 cases he : (aA 45 r).1 with
 | true => rfl
 | false =>
  simp only [cond_false]
  rw [Fv n 43 43]
  rfl
theorem wi (x : Int) (h : -9223372036854775808 ≤ x) (h2 : x ≤ 9223372036854775807) : IntKind.i64.wrap x = x := IntWalk.i64_in _ (by omega)
theorem aaZ (n : Nat) (x : Int) (r : Str) (b : Bool) (hx : 0 ≤ x) (hx2 : x < 10000000) (hs : r.length < 9223372036854775808) (hn : r.length + 5 < n) :
 bW n n x 60 r b = some (x + (minS r).1, (minS r).2.1, b || (minS r).2.2) := by
 obtain ⟨k, rfl⟩ : ∃ k, n = k + 3 := ⟨n - 3, by omega⟩
 have h1 := iV 58 r
 have h2 := wT 2 2 (aA 58 r).2
 have h2' := Fw 2 2 (aA 58 r).2 (by omega)
 have h3 := iV 58 (dA 2 2 (aA 58 r).2).2.1
 have h4 := wT 2 2 (aA 58 (dA 2 2 (aA 58 r).2).2.1).2
 have h4' := Fw 2 2 (aA 58 (dA 2 2 (aA 58 r).2).2.1).2 (by omega)
 have d60 : ∀ x : Nat, decide ((x : Int) ≥ (60 : Int)) = decide (60 ≤ x) := fun x => by rw [decide_eq_decide]; omega
 unfold minS
 rw [bW, dW, iZ, dV]
 rw [aa (by omega), Fv (k + 3) 58 58]
 simp only [Option.bind_some]
 cases he : (aA 58 r).1 with
 | false => simp
 | true =>
  simp only [cond_true, if_true]
  rw [show (2 : Int) = ((2 : Nat) : Int) from rfl, Js (k + 3) 2 2 (by omega) (by omega) _ _ (by omega) (by omega)]
  simp only [Option.bind_some]
  rw [lD, gQ]
  rw [show Int.tdiv 60 60 = 1 from rfl, wi 1 (by omega) (by omega), wi (60 * _) (by omega) (by omega), wi (x + _) (by omega) (by omega)]
  generalize hm : dA 2 2 (aA 58 r).2 = m at *
  have hj : ∀ b' : Bool, (cond b' (some (m.2.1, true)) (some (m.2.1, decide ((m.1 : Int) ≥ (60 : Int))))) = some (m.2.1, b' || decide (60 ≤ m.1)) := fun b' => by rw [d60]; cases b' <;> rfl
  rw [hj]
  simp only [Option.bind_some]
  rw [bW, dW, iZ, dV]
  rw [aa (by omega), Fv (k + 3) 58 58]
  simp only [Option.bind_some]
  cases hf : (aA 58 m.2.1).1 with
  | false => simp [Bool.or_assoc]
  | true =>
   simp only [cond_true, if_true]
   rw [show (2 : Int) = ((2 : Nat) : Int) from rfl, Js (k + 3) 2 2 (by omega) (by omega) _ _ (by omega) (by omega)]
   simp only [Option.bind_some]
   rw [lD, gQ]
   rw [show Int.tdiv 1 60 = 0 from rfl, wi 0 (by omega) (by omega), wi (1 * _) (by omega) (by omega), wi (x + 60 * _ + _) (by omega) (by omega)]
   generalize hs : dA 2 2 (aA 58 m.2.1).2 = s at *
   have hj : ∀ b' : Bool, (cond b' (some (s.2.1, true)) (some (s.2.1, decide ((s.1 : Int) ≥ (60 : Int))))) = some (s.2.1, b' || decide (60 ≤ s.1)) := fun b' => by rw [d60]; cases b' <;> rfl
   rw [hj]
   simp only [Option.bind_some]
   rw [bW, dW, iZ, dV]
   rw [ah (by omega)]
   simp only [Option.bind_some, cond_false, Bool.or_assoc, Int.one_mul, Int.add_assoc]
theorem Oe (n most : Nat) (r : Str) (b : Bool) (hs : r.length < 9223372036854775808) (hn : r.length + 5 < n) :
 bv n (most : Int) r b = some ((dH most r).1, (dH most r).2.1, b || (dH most r).2.2) := by
 have h1 := RJ r
 have h2 := wT 1 3 (vw r).2
 have h2' := Fw 1 3 (vw r).2 (by omega)
 have h3 := WI (dA 1 3 (vw r).2).2.1
 unfold bv nA dH
 rw [ZG]
 simp only [Option.bind_some]
 rw [show (aZ n (1 : Int) (3 : Int) (vw r).2 b) = _ from Js n 1 3 (by omega) (by omega) _ _ (by omega) (by omega)]
 simp only [Option.bind_some]
 rw [qp, jT]
 generalize dA 1 3 (vw r).2 = h at *
 have hd : decide ((h.1 : Int) > (most : Int)) = decide (most < h.1) := by rw [decide_eq_decide]; omega
 have hj : ∀ b' : Bool, (cond b' (some (h.2.1, true)) (some (h.2.1, decide ((h.1 : Int) > (most : Int))))) = some (h.2.1, b' || decide (most < h.1)) := fun b' => by rw [hd]; cases b' <;> rfl
 rw [hj]
 simp only [Option.bind_some]
 rw [wi ((h.1 : Int) * 3600) (by omega) (by omega), aaZ n _ _ _ (by omega) (by omega) (by omega) (by omega)]
 simp only [Option.bind_some]
 rw [Int.mul_comm (h.1 : Int) 3600]
 rcases Ql r with hg | hg <;> rw [hg] <;> rw [wi _ (by omega) (by omega)] <;> simp only [Bool.or_assoc]
end Go.Proofs.YtiegmpnagcdgoaaGreatDoor.H

/- bytes.Buffer, as it is written: its walks, told so that all other blocks are known to stay. -/
import Derived.Test.YtcbgfjghebopoaaDoorBU
import Derived.Shelf.Bytes.GrowSlice
import Derived.Shelf.Bytes.TryGrow
import Derived.Shelf.RegionOpenPlain
import Derived.Lib.AppendZeros
import Derived.Lib.Hide
import Derived.Lib.BufferGrow
import Derived.Laws.CopyRow
import Derived.Laws.IdiomCopy
import Derived.Laws.MakeOwn
import Derived.OwnWalk
import Derived.Defers
import Derived.Recover
import Derived.RegionTactic
import Derived.Deep.RegionWith
import Derived.Deep.Draws
import Derived.BigCall
import Derived.BigGuard
namespace Go.Sh
open Go.RowKit Go.Proofs Go.Shelf
set_option linter.unusedSimpArgs false
set_option linter.unusedVariables false
variable {P : Program} {ρ : Ren}

/-- Cells at the head of a block, whatever of it is frozen. -/
theorem head_cells {W : World} {g l : Nat} {cur : Array Value} {t : TypeId} {fz : Nat × Nat} (h : W.heap[g]? = some (.cells cur t fz)) : ∀ j v, (cur.toList.take l)[j]? = some v → W.cell? ((⟨g, 0, none⟩ : Addr).add j) = some v := fun j v hj => by
  rw [add_eq _ rfl]
  simp only [Nat.zero_add, World.cell?, h]
  rw [List.getElem?_take] at hj
  split at hj
  · simpa using hj
  · cases hj

set_option maxHeartbeats 6400000 in
set_option maxRecDepth 100000 in
/-- growSlice, of a row at the head of its block. -/
theorem slice_grown (L : LaysM.n290 P ρ) (g l c n : Nat) (cur : Array Value) (t : TypeId) (fz : Nat × Nat) (w : World) (hg : w.heap[g]? = some (.cells cur t fz)) (hcs : c ≤ cur.size) (hlc : l ≤ c) (hn : 1 ≤ n) (hlim : l + n ≤ 140737488355328) (hc2 : c ≤ 140737488355328) (h1 : ∀ v ∈ cur.toList.take l, v.oneCell' = true) :
    Calls P (ρ.f 290) #[.slice (some ⟨g, 0, none⟩) l c, .int .i64 n] w fun e w' => ∃ cap2 cells, e = .returned (.slice (some ⟨w.heap.size, 0, none⟩) l cap2) ∧ w'.heap[w.heap.size]? = some (.cells cells (ρ.t 5) (0, 0)) ∧
      cells.size = cap2 ∧ cells.toList.take l = cur.toList.take l ∧ l + n ≤ cap2 ∧ cap2 ≤ maxLen ∧ Below w.heap.size w w' := by
  have mixed := L.mixed
  have t5 := L.t5; have a5 := L.a5; have z5 := L.z5; have v5 := L.v5
  have t37 := L.t37; have a37 := L.a37; have z37 := L.z37; have v37 := L.v37
  have t3 := L.t3; have a3 := L.a3; have z3 := L.z3; have v3 := L.v3
  have t0 := L.t0; have a0 := L.a0; have z0 := L.z0; have v0 := L.v0
  have t4 := L.t4; have a4 := L.a4; have z4 := L.z4; have v4 := L.v4
  obtain ⟨i0, hi, hz0, hz1, hz2⟩ := info_parts L.i5
  have hsz1 : (P.info? (ρ.t 5)).map (·.size) = some 1 := by rw [hi]; simp [hz1]
  have hgl := (Array.getElem?_eq_some_iff.1 hg).1
  have hxl : (cur.toList.take l).length = l := by rw [List.length_take, Array.length_toList]; omega
  by_cases hC : l + n < 2 * c
  · have happ := Lib.run_append_nil_zeros (P := P) w (ρ.t 37) (ρ.t 3) (ρ.t 37) (ρ.t 5) i0 (.int .u8 0) .i64 .i64 L.t37 L.t3 hi hz0 (2 * c) (by omega) (by omega) (by omega) (by rw [hz2]; omega)
    rw [show (((2 * c : Nat)) : Int) = 2 * (c : Int) by omega] at happ
    generalize hcap : grownCap w (2 * c) 0 (ρ.t 5) = cap2 at happ
    have hge : 2 * c ≤ cap2 := by rw [← hcap]; exact grownCap_ge w _ 0 (ρ.t 5)
    have hle : cap2 ≤ maxLen := by rw [← hcap]; exact grownCap_le_maxLen w _ 0 (ρ.t 5) (by unfold maxLen; omega)
    generalize hZ : (Builtin.zeroCells (Value.int .u8 0).cells (2 * c) ++ Builtin.zeroCells (Value.int .u8 0).cells (cap2 - (2 * c))) = Z at happ
    have hZs : Z.size = cap2 := by rw [← hZ]; simp [size_zeroCells, Value.cells]; omega
    clear hcap hZ
    have hg1 : (w.alloc (.cells Z (ρ.t 5))).drew.heap[g]? = some (.cells cur t fz) := by show (w.alloc (.cells Z (ρ.t 5))).heap[g]? = _; rw [RowKit.Below.heap_alloc w _ g hgl]; exact hg
    have hcopy := run_copy_row (P := P) (w.alloc (.cells Z (ρ.t 5))).drew (ρ.t 37) (ρ.t 37) (ρ.t 3) (ρ.t 5) w.heap.size 0 (2 * c) cap2 ⟨g, 0, none⟩ l c Z (ρ.t 5) (cur.toList.take l) L.t37 hsz1 (heap_alloc_new w _) (by rw [hxl]; exact (Nat.min_eq_left (by omega)).symm) (head_cells hg1) (by rw [hxl]; omega) h1
    rw [hxl] at hcopy
    generalize hY : (Z.toList.take 0 ++ cur.toList.take l ++ Z.toList.drop (0 + l)).toArray = Y at hcopy
    go_enter_defers L.f290, Body.n290_ntmps ρ
    go_wp2_with (at_builtin; refine Lib.wpList_append_run _ rfl _ _ _ _ rfl _ _ rfl rfl _ _ happ ?_)
    refine leaves_cons (f := (ρ.f 324)) (args := #[]) (by simp) (Go.Proofs.enters_of L.f324 (by kernel_rfl) rfl _ _) ?_
    refine (Any.growSlice_catch_idle { L with } _).mono ?_
    rintro e u' w'' ⟨rfl, rfl, rfl⟩
    refine ⟨_, results_tmp rfl _ _ _, ?_⟩
    have hYl : Y.toList = cur.toList.take l ++ Z.toList.drop l := by rw [← hY]; simp
    refine ⟨cap2, Y, rfl, setRow_heap _ _ Z Y (ρ.t 5) (0, 0) (heap_alloc_new w _), ?_, ?_, by omega, hle, ⟨rfl, rfl, rfl, by simp, fun k hk => by rw [setRow_other _ _ _ _ (by omega)]; exact Below.heap_alloc w _ k hk⟩⟩
    · have : Y.toList.length = cap2 := by rw [hYl, List.length_append, hxl, List.length_drop, Array.length_toList, hZs]; omega
      simpa using this
    · rw [hYl, List.take_append_of_le_length (by rw [hxl]; exact Nat.le_refl _), List.take_of_length_le (by rw [hxl]; exact Nat.le_refl _)]
  · have happ := Lib.run_append_nil_zeros (P := P) w (ρ.t 37) (ρ.t 3) (ρ.t 37) (ρ.t 5) i0 (.int .u8 0) .i64 .i64 L.t37 L.t3 hi hz0 (l + n) (by omega) (by omega) (by omega) (by rw [hz2]; omega)
    rw [show (((l + n : Nat)) : Int) = (l : Int) + (n : Int) by omega] at happ
    generalize hcap : grownCap w (l + n) 0 (ρ.t 5) = cap2 at happ
    have hge : l + n ≤ cap2 := by rw [← hcap]; exact grownCap_ge w _ 0 (ρ.t 5)
    have hle : cap2 ≤ maxLen := by rw [← hcap]; exact grownCap_le_maxLen w _ 0 (ρ.t 5) (by unfold maxLen; omega)
    generalize hZ : (Builtin.zeroCells (Value.int .u8 0).cells (l + n) ++ Builtin.zeroCells (Value.int .u8 0).cells (cap2 - (l + n))) = Z at happ
    have hZs : Z.size = cap2 := by rw [← hZ]; simp [size_zeroCells, Value.cells]; omega
    clear hcap hZ
    have hg1 : (w.alloc (.cells Z (ρ.t 5))).drew.heap[g]? = some (.cells cur t fz) := by show (w.alloc (.cells Z (ρ.t 5))).heap[g]? = _; rw [RowKit.Below.heap_alloc w _ g hgl]; exact hg
    have hcopy := run_copy_row (P := P) (w.alloc (.cells Z (ρ.t 5))).drew (ρ.t 37) (ρ.t 37) (ρ.t 3) (ρ.t 5) w.heap.size 0 (l + n) cap2 ⟨g, 0, none⟩ l c Z (ρ.t 5) (cur.toList.take l) L.t37 hsz1 (heap_alloc_new w _) (by rw [hxl]; exact (Nat.min_eq_left (by omega)).symm) (head_cells hg1) (by rw [hxl]; omega) h1
    rw [hxl] at hcopy
    generalize hY : (Z.toList.take 0 ++ cur.toList.take l ++ Z.toList.drop (0 + l)).toArray = Y at hcopy
    go_enter_defers L.f290, Body.n290_ntmps ρ
    go_wp2_with (at_builtin; refine Lib.wpList_append_run _ rfl _ _ _ _ rfl _ _ rfl rfl _ _ happ ?_)
    refine leaves_cons (f := (ρ.f 324)) (args := #[]) (by simp) (Go.Proofs.enters_of L.f324 (by kernel_rfl) rfl _ _) ?_
    refine (Any.growSlice_catch_idle { L with } _).mono ?_
    rintro e u' w'' ⟨rfl, rfl, rfl⟩
    refine ⟨_, results_tmp rfl _ _ _, ?_⟩
    have hYl : Y.toList = cur.toList.take l ++ Z.toList.drop l := by rw [← hY]; simp
    refine ⟨cap2, Y, rfl, setRow_heap _ _ Z Y (ρ.t 5) (0, 0) (heap_alloc_new w _), ?_, ?_, by omega, hle, ⟨rfl, rfl, rfl, by simp, fun k hk => by rw [setRow_other _ _ _ _ (by omega)]; exact Below.heap_alloc w _ k hk⟩⟩
    · have : Y.toList.length = cap2 := by rw [hYl, List.length_append, hxl, List.length_drop, Array.length_toList, hZs]; omega
      simpa using this
    · rw [hYl, List.take_append_of_le_length (by rw [hxl]; exact Nat.le_refl _), List.take_of_length_le (by rw [hxl]; exact Nat.le_refl _)]

set_option maxRecDepth 100000 in
/-- Len. -/
theorem buf_len (L : LaysM.n181 P ρ) (b : Nat) (ao : Option Addr) (l cap : Nat) (w : World) (c0 : w.cell? ⟨b, 0, none⟩ = some (.slice ao l cap)) (c1 : w.cell? ⟨b, 1, none⟩ = some (.int .i64 0)) (hmax : l ≤ maxLen) :
    Calls P (ρ.f 181) #[.pointer (some ⟨b, 0, none⟩)] w fun e w' => e = .returned (.int .i64 l) ∧ ∃ n, w' = w.drewN n := by
  have mixed := L.mixed
  have t5 := L.t5; have a5 := L.a5; have z5 := L.z5; have v5 := L.v5
  have t130 := L.t130; have a130 := L.a130; have z130 := L.z130; have v130 := L.v130
  have t3 := L.t3; have a3 := L.a3; have z3 := L.z3; have v3 := L.v3
  have t0 := L.t0; have a0 := L.a0; have z0 := L.z0; have v0 := L.v0
  have t93 := L.t93; have u93 := run_underlying L.t93; have a93 := L.a93; have z93 := L.z93; have v93 := L.v93
  have t37 := L.t37; have a37 := L.a37; have z37 := L.z37; have v37 := L.v37
  unfold maxLen at hmax
  go_enter L.f181, Body.n181_ntmps ρ
  go_wp2
  go_region_o
  all_goals (go_wp2; go_ret; exact ⟨by simp, 1, rfl⟩)

/-- The buffer's block. -/
def BufB (T : TypeId) (b : Nat) (ao : Option Addr) (l cap : Nat) (lr : Int) (w : World) : Prop := w.heap[b]? = some (.cells #[.slice ao l cap, .int .i64 0, .int .i8 lr] T (0, 0))
theorem BufB.c0 {T : TypeId} {b : Nat} {ao : Option Addr} {l cap : Nat} {lr : Int} {w : World} (h : BufB T b ao l cap lr w) : w.cell? ⟨b, 0, none⟩ = some (.slice ao l cap) := by unfold BufB at h; simp [World.cell?, h]
theorem BufB.c1 {T : TypeId} {b : Nat} {ao : Option Addr} {l cap : Nat} {lr : Int} {w : World} (h : BufB T b ao l cap lr w) : w.cell? ⟨b, 1, none⟩ = some (.int .i64 0) := by unfold BufB at h; simp [World.cell?, h]
theorem BufB.c2 {T : TypeId} {b : Nat} {ao : Option Addr} {l cap : Nat} {lr : Int} {w : World} (h : BufB T b ao l cap lr w) : w.cell? ⟨b, 2, none⟩ = some (.int .i8 lr) := by unfold BufB at h; simp [World.cell?, h]
theorem BufB.f {T : TypeId} {b : Nat} {ao : Option Addr} {l cap : Nat} {lr : Int} {w : World} (h : BufB T b ao l cap lr w) (j : Nat) : w.frozen? ⟨b, j, none⟩ = false := by unfold BufB at h; simp [World.frozen?, h]
theorem BufB.lt {T : TypeId} {b : Nat} {ao : Option Addr} {l cap : Nat} {lr : Int} {w : World} (h : BufB T b ao l cap lr w) : b < w.heap.size := (Array.getElem?_eq_some_iff.1 h).1
theorem BufB.of_heap {T : TypeId} {b : Nat} {ao : Option Addr} {l cap : Nat} {lr : Int} {w w' : World} (h : BufB T b ao l cap lr w) (e : w'.heap[b]? = w.heap[b]?) : BufB T b ao l cap lr w' := by unfold BufB at h ⊢; rw [e]; exact h
theorem BufB.set0 {T : TypeId} {b : Nat} {ao ao' : Option Addr} {l cap l' cap' : Nat} {lr : Int} {w : World} (h : BufB T b ao l cap lr w) : BufB T b ao' l' cap' lr (w.setCell ⟨b, 0, none⟩ (.slice ao' l' cap')) := by
  unfold BufB at h ⊢
  rw [setCell_heap _ h]; rfl
theorem BufB.set1 {T : TypeId} {b : Nat} {ao : Option Addr} {l cap : Nat} {lr : Int} {w : World} (h : BufB T b ao l cap lr w) : BufB T b ao l cap lr (w.setCell ⟨b, 1, none⟩ (.int .i64 0)) := by
  unfold BufB at h ⊢
  rw [setCell_heap _ h]; rfl
theorem BufB.set2 {T : TypeId} {b : Nat} {ao : Option Addr} {l cap : Nat} {lr lr' : Int} {w : World} (h : BufB T b ao l cap lr w) : BufB T b ao l cap lr' (w.setCell ⟨b, 2, none⟩ (.int .i8 lr')) := by
  unfold BufB at h ⊢
  rw [setCell_heap _ h]; rfl
/-- Nothing but the buffer's block (and what is new) is another one. -/
def Only (b : Nat) (w w' : World) : Prop := w'.os = w.os ∧ w'.tape = w.tape ∧ w'.output = w.output ∧ w.heap.size ≤ w'.heap.size ∧ ∀ k, k < w.heap.size → k ≠ b → w'.heap[k]? = w.heap[k]?
theorem Only.refl (b : Nat) (w : World) : Only b w w := ⟨rfl, rfl, rfl, Nat.le_refl _, fun _ _ _ => rfl⟩
theorem Only.trans {b : Nat} {w w1 w2 : World} (h : Only b w w1) (k : Only b w1 w2) : Only b w w2 :=
  ⟨k.1.trans h.1, k.2.1.trans h.2.1, k.2.2.1.trans h.2.2.1, Nat.le_trans h.2.2.2.1 k.2.2.2.1, fun j hj hne => (k.2.2.2.2 j (Nat.lt_of_lt_of_le hj h.2.2.2.1) hne).trans (h.2.2.2.2 j hj hne)⟩
theorem Only.set {b j : Nat} {w w' : World} {v : Value} (h : Only b w w') : Only b w (w'.setCell ⟨b, j, none⟩ v) :=
  ⟨h.1, h.2.1, h.2.2.1, by simp [World.setCell]; exact h.2.2.2.1, fun k hk hne => (setCell_other v hne).trans (h.2.2.2.2 k hk hne)⟩
theorem Only.drewN {b n : Nat} {w w' : World} (h : Only b w w') : Only b w (w'.drewN n) := h
theorem Only.below {b n : Nat} {w w1 w2 : World} (h : Only b w w1) (hb : Below n w1 w2) (hn : w1.heap.size ≤ n) : Only b w w2 :=
  h.trans ⟨hb.os, hb.tape, hb.output, hb.size, fun k hk _ => hb.block k (by omega)⟩
/-- Behind grow: the row lies in a new block, and begins as it did. -/
def Grown (T e : TypeId) (b l n : Nat) (lr : Int) (old : List Value) (w w' : World) : Prop :=
  Only b w w' ∧ ∃ cap2 cells, BufB T b (some ⟨w.heap.size, 0, none⟩) (l + n) cap2 lr w' ∧ w'.heap[w.heap.size]? = some (.cells cells e (0, 0)) ∧ cells.size = cap2 ∧ cells.toList.take l = old ∧ l + n ≤ cap2 ∧ cap2 ≤ maxLen

set_option maxHeartbeats 6400000 in
set_option maxRecDepth 100000 in
/-- grow, no row yet, few bytes. -/
theorem buf_grow0 (L : LaysM.n252 P ρ) (T : TypeId) (b n : Nat) (lr : Int) (w : World) (hbk : BufB T b none 0 0 lr w) (hn : 1 ≤ n) (h64 : n ≤ 64) :
    Calls P (ρ.f 252) #[.pointer (some ⟨b, 0, none⟩), .int .i64 n] w fun e w' => e = .returned (.int .i64 0) ∧ Grown T (ρ.t 5) b 0 n lr [] w w' := by
  have mixed := L.mixed
  have t5 := L.t5; have a5 := L.a5; have z5 := L.z5; have v5 := L.v5
  have t130 := L.t130; have a130 := L.a130; have z130 := L.z130; have v130 := L.v130
  have t3 := L.t3; have a3 := L.a3; have z3 := L.z3; have v3 := L.v3
  have t4 := L.t4; have a4 := L.a4; have z4 := L.z4; have v4 := L.v4
  have t0 := L.t0; have a0 := L.a0; have z0 := L.z0; have v0 := L.v0
  have t93 := L.t93; have u93 := run_underlying L.t93; have a93 := L.a93; have z93 := L.z93; have v93 := L.v93
  have t131 := L.t131; have a131 := L.a131; have z131 := L.z131; have v131 := L.v131
  have t37 := L.t37; have a37 := L.a37; have z37 := L.z37; have v37 := L.v37
  have t75 := L.t75; have a75 := L.a75; have z75 := L.z75; have v75 := L.v75
  have e181 : ∀ args w, (callFunc (ρ.f 181) args).run P w = .ok (.enter (ρ.f 181) args) w := Go.Proofs.enters_of L.f181 (by kernel_rfl) rfl
  have e251 : ∀ args w, (callFunc (ρ.f 251) args).run P w = .ok (.enter (ρ.f 251) args) w := Go.Proofs.enters_of L.f251 (by kernel_rfl) rfl
  obtain ⟨i0, hi, hz0, hz1, hz2⟩ := info_parts L.i5
  obtain ⟨M, hM⟩ : ∃ M, M = madeCells (Value.int .u8 0).cells ((64 : Int).toNat * i0.size) := ⟨_, rfl⟩
  have hMs : M.size = 64 := by rw [hM, size_madeCells, hz1]; rfl
  have hmk : ∀ W : World, (Instr.makeSlice (ρ.t 37) (.int .i64 (n : Int)) (.int .i64 64)).run P W = .ok (.slice (some ⟨W.heap.size, 0, none⟩) n 64) (W.alloc (.cells M (ρ.t 5))) := fun W => by
    have h := run_makeSlice (P := P) W (ρ.t 37) (ρ.t 5) i0 (.int .u8 0) L.t37 hi hz0 .i64 .i64 (n : Int) 64 (by omega) (by omega) (by rw [hz1]; decide) (by rw [hz2]; decide) (by decide)
    rw [← hM] at h
    simpa using h
  clear hM
  have hnil : ∀ W, (binOp .eql (ρ.t 37) (.slice none 0 0) (.slice none 0 0)).run P W = .ok (.bool true) W := fun W => Lib.run_eql_slice_nil_nil W _ _ L.t37
  go_enter L.f252, Body.n252_ntmps ρ
  go_wp2_with (go_at_fn (ρ.f 181); refine (buf_len { L with } b none 0 0 _ hbk.c0 hbk.c1 (Nat.zero_le _)).mono ?_)
  rintro e W0 ⟨rfl, k, hW0⟩
  have hbk0 : BufB T b none 0 0 lr W0 := by rw [hW0]; exact hbk
  have c0 := hbk0.c0
  have c1 := hbk0.c1
  have f0 := hbk0.f 0
  have f1 := hbk0.f 1
  have hbW0 := hbk0.lt
  have c0a : ∀ o, (W0.alloc o).cell? ⟨b, 0, none⟩ = some (.slice none 0 0) := fun o => (World.cell?_of_block (a := ⟨b, 0, none⟩) (Below.heap_alloc W0 o b hbW0)).trans c0
  have f0a : ∀ o, (W0.alloc o).frozen? ⟨b, 0, none⟩ = false := fun o => (World.frozen?_of_block (a := ⟨b, 0, none⟩) (Below.heap_alloc W0 o b hbW0)).trans f0
  have HW0 := Lib.hid hW0
  clear hW0
  go_wp2_with (go_at_fn (ρ.f 251); refine (Any.Buffer_tryGrow_none { L with } b _ 0 0 n _ c0 (Nat.le_refl _) (Nat.zero_le _) (by omega)).mono ?_; rintro e w' ⟨rfl, rfl⟩)
  go_ret
  have hsz0 : w'.heap.size = w.heap.size := by rw [HW0.out]; rfl
  have hO : Only b w w' := by rw [HW0.out]; exact Only.refl b w
  refine ⟨rfl, (hO.set).trans ⟨rfl, rfl, rfl, by simp, fun k hk _ => Below.heap_alloc _ _ k hk⟩, 64, M, ?_, ?_, hMs, by simp, by omega, by unfold maxLen; omega⟩
  · rw [Nat.zero_add, ← hsz0]
    exact (hbk0.set0).of_heap (Below.heap_alloc _ _ b (by simp [World.setCell]; exact hbW0))
  · have h9 := heap_alloc_new (w'.setCell ⟨b, 0, none⟩ (.slice (some ⟨w'.heap.size, 0, none⟩) n 64)) (.cells M (ρ.t 5))
    rw [← hsz0]
    have h8 : (w'.setCell ⟨b, 0, none⟩ (.slice (some ⟨w'.heap.size, 0, none⟩) n 64)).heap.size = w'.heap.size := by simp [World.setCell]
    rw [h8] at h9
    exact h9

set_option maxHeartbeats 12800000 in
set_option maxRecDepth 100000 in
/-- grow, no row yet, many bytes. -/
theorem buf_grow1 (L : LaysM.n252 P ρ) (T : TypeId) (b n : Nat) (lr : Int) (w : World) (hbk : BufB T b none 0 0 lr w) (h64 : 64 < n) (hlim : n ≤ 140737488355328) :
    Calls P (ρ.f 252) #[.pointer (some ⟨b, 0, none⟩), .int .i64 n] w fun e w' => e = .returned (.int .i64 0) ∧ Grown T (ρ.t 5) b 0 n lr [] w w' := by
  have mixed := L.mixed
  have t5 := L.t5; have a5 := L.a5; have z5 := L.z5; have v5 := L.v5
  have t130 := L.t130; have a130 := L.a130; have z130 := L.z130; have v130 := L.v130
  have t3 := L.t3; have a3 := L.a3; have z3 := L.z3; have v3 := L.v3
  have t4 := L.t4; have a4 := L.a4; have z4 := L.z4; have v4 := L.v4
  have t0 := L.t0; have a0 := L.a0; have z0 := L.z0; have v0 := L.v0
  have t93 := L.t93; have u93 := run_underlying L.t93; have a93 := L.a93; have z93 := L.z93; have v93 := L.v93
  have t131 := L.t131; have a131 := L.a131; have z131 := L.z131; have v131 := L.v131
  have t37 := L.t37; have a37 := L.a37; have z37 := L.z37; have v37 := L.v37
  have t75 := L.t75; have a75 := L.a75; have z75 := L.z75; have v75 := L.v75
  have e181 : ∀ args w, (callFunc (ρ.f 181) args).run P w = .ok (.enter (ρ.f 181) args) w := Go.Proofs.enters_of L.f181 (by kernel_rfl) rfl
  have e251 : ∀ args w, (callFunc (ρ.f 251) args).run P w = .ok (.enter (ρ.f 251) args) w := Go.Proofs.enters_of L.f251 (by kernel_rfl) rfl
  have e290 : ∀ args w, (callFunc (ρ.f 290) args).run P w = .ok (.enter (ρ.f 290) args) w := Go.Proofs.enters_of L.f290 (by kernel_rfl) rfl
  have hn : 1 ≤ n := by omega
  have hnil : ∀ W, (binOp .eql (ρ.t 37) (.slice none 0 0) (.slice none 0 0)).run P W = .ok (.bool true) W := fun W => Lib.run_eql_slice_nil_nil W _ _ L.t37
  go_enter L.f252, Body.n252_ntmps ρ
  go_wp2_with (go_at_fn (ρ.f 181); refine (buf_len { L with } b none 0 0 _ hbk.c0 hbk.c1 (Nat.zero_le _)).mono ?_)
  rintro e W0 ⟨rfl, k, hW0⟩
  have hbk0 : BufB T b none 0 0 lr W0 := by rw [hW0]; exact hbk
  have c0 := hbk0.c0
  have c1 := hbk0.c1
  have f0 := hbk0.f 0
  have f1 := hbk0.f 1
  have HW0 := Lib.hid hW0
  clear hW0
  go_wp2_with (go_at_fn (ρ.f 251); refine (Any.Buffer_tryGrow_none { L with } b _ 0 0 n _ c0 (Nat.le_refl _) (Nat.zero_le _) (by omega)).mono ?_; rintro e w' ⟨rfl, rfl⟩)
  have hbW := hbk0.lt
  have hwn : IntKind.i64.wrap (n : Int) = n := by rw [IntKind.wrap_i64]; omega
  go_region_with_o (
      go_at_fn (ρ.f 290)
      refine (Any.bytes_growSlice_nil { L with } n _ hn hlim).mono ?_
      rintro e w2 ⟨cap2, cells, rfl, hN, hcsz, hcap2, hcm2, hbel⟩
      have hbk2 : BufB T b none 0 0 lr w2 := hbk0.of_heap (hbel.block b hbW)
      have d0 := hbk2.c0
      have d1 := hbk2.c1
      have e0 := hbk2.f 0
      have e1 := hbk2.f 1)
  all_goals (
    go_wp2
    go_ret
    have hsz0 : w'.heap.size = w.heap.size := by rw [HW0.out]; rfl
    have hO : Only b w w'.drew := by rw [HW0.out]; exact Only.refl b w
    refine ⟨rfl, (((hO.below hbel (by show w'.heap.size ≤ _; exact Nat.le_refl _)).set).set).set, cap2, cells, ?_, ?_, hcsz, by simp, by omega, hcm2⟩
    · rw [Nat.zero_add, ← hsz0]
      exact ((hbk2.set0).set1).set0
    · rw [← hsz0, setCell_other _ (by omega), setCell_other _ (by omega), setCell_other _ (by omega)]
      exact hN)

set_option maxHeartbeats 12800000 in
set_option maxRecDepth 100000 in
/-- grow, a row without room. -/
theorem buf_grow2 (L : LaysM.n252 P ρ) (T : TypeId) (b g l cap n : Nat) (lr : Int) (cur : Array Value) (t : TypeId) (fz : Nat × Nat) (w : World) (hbk : BufB T b (some ⟨g, 0, none⟩) l cap lr w) (hl0 : l ≠ 0)
    (hg : w.heap[g]? = some (.cells cur t fz)) (hlc : l ≤ cap) (hcm : cap ≤ maxLen) (hcs : cap ≤ cur.size) (h1 : ∀ v ∈ cur.toList.take l, v.oneCell' = true) (hn : 1 ≤ n) (hroom : cap - l < n) (hlim : l + n ≤ 140737488355328) :
    Calls P (ρ.f 252) #[.pointer (some ⟨b, 0, none⟩), .int .i64 n] w fun e w' => e = .returned (.int .i64 l) ∧ Grown T (ρ.t 5) b l n lr (cur.toList.take l) w w' := by
  have mixed := L.mixed
  have t5 := L.t5; have a5 := L.a5; have z5 := L.z5; have v5 := L.v5
  have t130 := L.t130; have a130 := L.a130; have z130 := L.z130; have v130 := L.v130
  have t3 := L.t3; have a3 := L.a3; have z3 := L.z3; have v3 := L.v3
  have t4 := L.t4; have a4 := L.a4; have z4 := L.z4; have v4 := L.v4
  have t0 := L.t0; have a0 := L.a0; have z0 := L.z0; have v0 := L.v0
  have t93 := L.t93; have u93 := run_underlying L.t93; have a93 := L.a93; have z93 := L.z93; have v93 := L.v93
  have t131 := L.t131; have a131 := L.a131; have z131 := L.z131; have v131 := L.v131
  have t37 := L.t37; have a37 := L.a37; have z37 := L.z37; have v37 := L.v37
  have t75 := L.t75; have a75 := L.a75; have z75 := L.z75; have v75 := L.v75
  have e181 : ∀ args w, (callFunc (ρ.f 181) args).run P w = .ok (.enter (ρ.f 181) args) w := Go.Proofs.enters_of L.f181 (by kernel_rfl) rfl
  have e251 : ∀ args w, (callFunc (ρ.f 251) args).run P w = .ok (.enter (ρ.f 251) args) w := Go.Proofs.enters_of L.f251 (by kernel_rfl) rfl
  have e290 : ∀ args w, (callFunc (ρ.f 290) args).run P w = .ok (.enter (ρ.f 290) args) w := Go.Proofs.enters_of L.f290 (by kernel_rfl) rfl
  have hnil : ∀ W, (binOp .eql (ρ.t 37) (.slice (some ⟨g, 0, none⟩) l cap) (.slice none 0 0)).run P W = .ok (.bool false) W := fun W => Lib.run_eql_slice_some_nil W _ _ _ L.t37
  go_enter L.f252, Body.n252_ntmps ρ
  go_wp2_with (go_at_fn (ρ.f 181); refine (buf_len { L with } b _ l cap _ hbk.c0 hbk.c1 (Nat.le_trans hlc hcm)).mono ?_)
  rintro e W0 ⟨rfl, k, hW0⟩
  have hbk0 : BufB T b (some ⟨g, 0, none⟩) l cap lr W0 := by rw [hW0]; exact hbk
  have hg0 : W0.heap[g]? = some (.cells cur t fz) := by rw [hW0]; exact hg
  have c0 := hbk0.c0
  have c1 := hbk0.c1
  have f0 := hbk0.f 0
  have f1 := hbk0.f 1
  have HW0 := Lib.hid hW0
  clear hW0
  have hcm' := hcm
  unfold maxLen at hcm'
  go_wp2_with (go_at_fn (ρ.f 251); refine (Any.Buffer_tryGrow_none { L with } b _ l cap n _ c0 hlc hcm hroom).mono ?_; rintro e w' ⟨rfl, rfl⟩)
  have hc2 : cap ≤ 140737488355328 := by omega
  have hbW := hbk0.lt
  have hwn : IntKind.i64.wrap (n : Int) = n := by rw [IntKind.wrap_i64]; omega
  go_region_with_o (
      go_at_fn (ρ.f 290)
      refine (slice_grown { L with } g l cap n cur t fz _ ?_ hcs hlc hn hlim hc2 h1).mono ?_
      exact hg0
      rintro e w2 ⟨cap2, cells, rfl, hN, hcsz, htk, hcap2, hcm2, hbel⟩
      have hbk2 : BufB T b (some ⟨g, 0, none⟩) l cap lr w2 := hbk0.of_heap (hbel.block b hbW)
      have d0 := hbk2.c0
      have d1 := hbk2.c1
      have e0 := hbk2.f 0
      have e1 := hbk2.f 1)
  all_goals (
    go_wp2
    go_ret
    have hsz0 : w'.heap.size = w.heap.size := by rw [HW0.out]; rfl
    have hO : Only b w w'.drew := by rw [HW0.out]; exact Only.refl b w
    refine ⟨rfl, (((hO.below hbel (by show w'.heap.size ≤ _; exact Nat.le_refl _)).set).set).set, cap2, cells, ?_, ?_, hcsz, htk, by omega, hcm2⟩
    · rw [← hsz0]
      exact ((hbk2.set0).set1).set0
    · rw [← hsz0, setCell_other _ (by omega), setCell_other _ (by omega), setCell_other _ (by omega)]
      exact hN)
end Go.Sh

/- bytes.Buffer: what its writing methods do. -/
import Derived.Test.YtcbgfjghebopoaaDoorBF
namespace Go.Sh
open Go.RowKit Go.Proofs Go.Shelf
set_option linter.unusedSimpArgs false
set_option linter.unusedVariables false
variable {P : Program} {ρ : Ren}

/-- A copy into a row, out of whatever an append takes. -/
theorem run_copy_src {W : World} {dT sT ty elem : TypeId} {i : TypeInfo} {g o n dLen dCap : Nat} {x : Value} {us : List Value} {cur : Array Value} {t : TypeId} (hu : P.underlying dT = some (.slice elem)) (hi : P.info? elem = some i) (hi1 : i.size = 1) (hsrc : Src P W 1 x n us) (hc : CellsAt W g cur t) (hle : n ≤ dLen) (hfit : o + n ≤ cur.size) :
    (Builtin.copy_ #[dT, sT] ty #[.slice (some ⟨g, o, none⟩) dLen dCap, x]).run P W = .ok (goInt n) (W.setRow g (cur.toList.take o ++ us ++ cur.toList.drop (o + n)).toArray) := by
  have hn : us.length = n := by have := hsrc.size; omega
  have hst := run_storeCells_C P g o t us 0 cur W hc (by omega) hsrc.one
  simp only [Nat.add_zero, hn] at hst
  have hmin : Nat.min n dLen = n := Nat.min_eq_left hle
  have h1 := hsrc.len
  have h2 := hsrc.cells
  simp [Builtin.copy_, run_underlying hu, sizeOf, typeInfo, hi, hi1, h1, h2, hmin, hst]

/-- What the buffer's row is ahead of a write. -/
def BufRow (b : Nat) (ao : Option Addr) (l cap : Nat) (old : List Value) (w : World) : Prop :=
  (ao = none ∧ l = 0 ∧ cap = 0 ∧ old = []) ∨ ∃ g cur t, ao = some ⟨g, 0, none⟩ ∧ l ≠ 0 ∧ g ≠ b ∧ CellsAt w g cur t ∧ cap ≤ cur.size ∧ l ≤ cap ∧ cap ≤ maxLen ∧ cur.toList.take l = old ∧ ∀ v ∈ old, v.oneCell' = true
/-- Behind a write. -/
def Wrote (T : TypeId) (b : Nat) (ao : Option Addr) (l c0 n : Nat) (all : List Value) (w w' : World) : Prop :=
  w'.os = w.os ∧ w'.tape = w.tape ∧ w'.output = w.output ∧ w.heap.size ≤ w'.heap.size ∧ ∃ g cap cur t lr, BufB T b (some ⟨g, 0, none⟩) (l + n) cap lr w' ∧ CellsAt w' g cur t ∧ cap ≤ cur.size ∧ l + n ≤ cap ∧ cap ≤ maxLen ∧ g ≠ b ∧ cur.toList.take (l + n) = all ∧
    ((ao = some ⟨g, 0, none⟩ ∧ cap = c0 ∧ cur.size = bsize w g ∧ tyOf w g = some t ∧ w'.heap.size = w.heap.size) ∨ g = w.heap.size) ∧ ∀ k, k < w.heap.size → k ≠ b → k ≠ g → w'.heap[k]? = w.heap[k]?
/-- Room has been made. -/
def Roomy (T : TypeId) (b : Nat) (ao : Option Addr) (l c0 n : Nat) (old : List Value) (w w1 : World) (g cap : Nat) : Prop :=
  Only b w w1 ∧ ∃ cur t lr, BufB T b (some ⟨g, 0, none⟩) (l + n) cap lr w1 ∧ CellsAt w1 g cur t ∧ cap ≤ cur.size ∧ l + n ≤ cap ∧ cap ≤ maxLen ∧ g ≠ b ∧ cur.toList.take l = old ∧ ((ao = some ⟨g, 0, none⟩ ∧ cap = c0 ∧ cur.size = bsize w g ∧ tyOf w g = some t ∧ w1.heap.size = w.heap.size) ∨ g = w.heap.size)
theorem Roomy.wrote {T : TypeId} {b : Nat} {ao : Option Addr} {l c0 n : Nat} {old us : List Value} {w w1 w2 : World} {g cap : Nat} (h : Roomy T b ao l c0 n old w w1 g cap) (hn : us.length = n) (hw : ∀ cur t, CellsAt w1 g cur t → ∃ new : Array Value, new.size = cur.size ∧ new.toList.take (l + n) = cur.toList.take l ++ us ∧ CellsAt w2 g new t) (hk : ∀ k, k ≠ g → w2.heap[k]? = w1.heap[k]?)
    (hs : w2.heap.size = w1.heap.size) (ho : w2.os = w1.os) (ht : w2.tape = w1.tape) (hout : w2.output = w1.output) : Wrote T b ao l c0 n (old ++ us) w w2 := by
  obtain ⟨h1, cur, t, lr, h2, h3, h4, h5, h6, h7, h8, h9⟩ := h
  obtain ⟨new, k1, k2, k3⟩ := hw cur t h3
  refine ⟨ho.trans h1.1, ht.trans h1.2.1, hout.trans h1.2.2.1, by rw [hs]; exact h1.2.2.2.1, g, cap, new, t, lr, h2.of_heap (hk b (Ne.symm h7)), k3, by omega, h5, h6, h7, by rw [k2, h8], h9.imp (fun h => ⟨h.1, h.2.1, by rw [k1]; exact h.2.2.1, h.2.2.2.1, by rw [hs]; exact h.2.2.2.2⟩) id, fun k k4 k5 k6 => (hk k k6).trans (h1.2.2.2.2 k k4 k5)⟩

/-- The two ways to room: tryGrow, or grow. -/
theorem buf_try (L : LaysM.n251 P ρ) (T : TypeId) (b : Nat) (ao : Option Addr) (l cap n : Nat) (lr : Int) (old : List Value) (w : World) (hbk : BufB T b ao l cap lr w) (hrow : BufRow b ao l cap old w) (hn : 1 ≤ n) :
    Calls P (ρ.f 251) #[.pointer (some ⟨b, 0, none⟩), .int .i64 n] w fun e w' => (e = .returned (.tuple #[.int .i64 l, .bool true]) ∧ ∃ g cap', Roomy T b ao l cap n old w w' g cap') ∨ (e = .returned (.tuple #[.int .i64 0, .bool false]) ∧ w' = w ∧ cap - l < n) := by
  have c0 := hbk.c0
  have f0 := hbk.f 0
  rcases hrow with ⟨rfl, rfl, rfl, rfl⟩ | ⟨g, cur, t, rfl, h0, hne, hc, h1, h2, h3, h4, h5⟩
  · refine (Any.Buffer_tryGrow_none { L with } b none 0 0 n w c0 (Nat.le_refl _) (Nat.zero_le _) (by omega)).mono ?_
    rintro e w' ⟨rfl, rfl⟩
    exact .inr ⟨rfl, rfl, by omega⟩
  · by_cases hr : n ≤ cap - l
    · refine (Any.Buffer_tryGrow_room { L with } b _ l cap n w c0 f0 h2 h3 hr).mono ?_
      rintro e w' ⟨rfl, rfl⟩
      exact .inl ⟨rfl, g, cap, (Only.refl b w).set, cur, t, lr, hbk.set0, hc.of_heap (setCell_other _ hne), h1, by omega, h3, hne, h4, .inl ⟨rfl, rfl, hc.bsz.symm, hc.ty, by simp [World.setCell]⟩⟩
    · refine (Any.Buffer_tryGrow_none { L with } b _ l cap n w c0 h2 h3 (by omega)).mono ?_
      rintro e w' ⟨rfl, rfl⟩
      exact .inr ⟨rfl, rfl, by omega⟩
theorem buf_grow (L : LaysM.n252 P ρ) (T : TypeId) (b : Nat) (ao : Option Addr) (l cap n : Nat) (lr : Int) (old : List Value) (w : World) (hbk : BufB T b ao l cap lr w) (hrow : BufRow b ao l cap old w) (hn : 1 ≤ n) (hno : cap - l < n) (hlim : l + n ≤ 140737488355328) :
    Calls P (ρ.f 252) #[.pointer (some ⟨b, 0, none⟩), .int .i64 n] w fun e w' => e = .returned (.int .i64 l) ∧ ∃ g cap', Roomy T b ao l cap n old w w' g cap' := by
  have hlt := hbk.lt
  have fin : ∀ w' : World, Grown T (ρ.t 5) b l n lr old w w' → ∃ g cap', Roomy T b ao l cap n old w w' g cap' := fun w' ⟨g1, cap2, cells, g2, g3, g4, g5, g6, g7⟩ => ⟨_, cap2, g1, cells, ρ.t 5, lr, g2, .plain g3, by omega, g6, g7, by omega, g5, .inr rfl⟩
  rcases hrow with ⟨rfl, rfl, rfl, rfl⟩ | ⟨g, cur, t, rfl, h0, hne, ⟨fz, hc, _⟩, h1, h2, h3, rfl, h5⟩
  · by_cases h64 : n ≤ 64
    · refine (buf_grow0 { L with } T b n lr w hbk hn h64).mono ?_
      rintro e w' ⟨rfl, h⟩
      exact ⟨rfl, fin w' h⟩
    · refine (buf_grow1 { L with } T b n lr w hbk (by omega) (by omega)).mono ?_
      rintro e w' ⟨rfl, h⟩
      exact ⟨rfl, fin w' h⟩
  · refine (buf_grow2 { L with } T b g l cap n lr cur t fz w hbk h0 hc h2 h3 h1 h5 hn hno hlim).mono ?_
    rintro e w' ⟨rfl, h⟩
    exact ⟨rfl, fin w' h⟩
/-- A row beside the buffer's block. -/
theorem BufRow.of_only {b : Nat} {ao : Option Addr} {l cap : Nat} {old : List Value} {w w' : World} (h : BufRow b ao l cap old w) (k : ∀ j, j ≠ b → w'.heap[j]? = w.heap[j]?) : BufRow b ao l cap old w' := by
  rcases h with h | ⟨g, cur, t, h1, h2, h3, h4, h5⟩
  · exact .inl h
  · exact .inr ⟨g, cur, t, h1, h2, h3, h4.of_heap (k g h3), h5⟩
/-- Behind the mark of the last read. -/
theorem Roomy.back {T : TypeId} {b : Nat} {ao : Option Addr} {l c0 n : Nat} {old : List Value} {w w1 : World} {g cap : Nat} {lr : Int} (hbw : b < w.heap.size) (hao : ∀ g, ao = some ⟨g, 0, none⟩ → g ≠ b) (h : Roomy T b ao l c0 n old (w.setCell ⟨b, 2, none⟩ (.int .i8 lr)) w1 g cap) : Roomy T b ao l c0 n old w w1 g cap := by
  obtain ⟨h1, cur, t, lr', h2, h3, h4, h5, h6, h7, h8, h9⟩ := h
  have hsz : (w.setCell ⟨b, 2, none⟩ (.int .i8 lr)).heap.size = w.heap.size := by simp [World.setCell]
  refine ⟨((Only.refl b w).set (j := 2) (v := .int .i8 lr)).trans h1, cur, t, lr', h2, h3, h4, h5, h6, h7, h8, h9.imp (fun h => ⟨h.1, h.2.1, ?_, ?_, h.2.2.2.2.trans hsz⟩) (fun h => h.trans hsz)⟩
  · have := h.2.2.1
    unfold bsize at this ⊢
    rw [setCell_other _ h7] at this
    exact this
  · rw [← h.2.2.2.1]
    exact (tyOf_block (setCell_other _ h7)).symm

set_option maxHeartbeats 6400000 in
set_option maxRecDepth 100000 in
/-- WriteByte. -/
theorem buf_writeByte (L : LaysM.n179 P ρ) (T : TypeId) (b : Nat) (ao : Option Addr) (l cap : Nat) (lr : Int) (old : List Value) (c : Int) (w : World) (hbk : BufB T b ao l cap lr w) (hrow : BufRow b ao l cap old w) (hlim : l + 1 ≤ 140737488355328) :
    Calls P (ρ.f 179) #[.pointer (some ⟨b, 0, none⟩), .int .u8 c] w fun e w' => e = .returned .nilIface ∧ Wrote T b ao l cap 1 (old ++ [.int .u8 c]) w w' := by
  have mixed := L.mixed
  have t5 := L.t5; have a5 := L.a5; have z5 := L.z5; have v5 := L.v5
  have t130 := L.t130; have a130 := L.a130; have z130 := L.z130; have v130 := L.v130
  have t75 := L.t75; have a75 := L.a75; have z75 := L.z75; have v75 := L.v75
  have t0 := L.t0; have a0 := L.a0; have z0 := L.z0; have v0 := L.v0
  have t93 := L.t93; have u93 := run_underlying L.t93; have a93 := L.a93; have z93 := L.z93; have v93 := L.v93
  have t91 := L.t91; have a91 := L.a91; have z91 := L.z91; have v91 := L.v91
  have t3 := L.t3; have a3 := L.a3; have z3 := L.z3; have v3 := L.v3
  have t131 := L.t131; have a131 := L.a131; have z131 := L.z131; have v131 := L.v131
  have t4 := L.t4; have a4 := L.a4; have z4 := L.z4; have v4 := L.v4
  have t37 := L.t37; have a37 := L.a37; have z37 := L.z37; have v37 := L.v37
  have e251 : ∀ args w, (callFunc (ρ.f 251) args).run P w = .ok (.enter (ρ.f 251) args) w := Go.Proofs.enters_of L.f251 (by kernel_rfl) rfl
  have e252 : ∀ args w, (callFunc (ρ.f 252) args).run P w = .ok (.enter (ρ.f 252) args) w := Go.Proofs.enters_of L.f252 (by kernel_rfl) rfl
  have c2 := hbk.c2
  have f2 := hbk.f 2
  have hbw := hbk.lt
  have hao : ∀ g, ao = some ⟨g, 0, none⟩ → g ≠ b := fun g hg => by
    rcases hrow with ⟨h, _⟩ | ⟨g', _, _, h, _, h2, _⟩
    · rw [h] at hg; cases hg
    · rw [h] at hg; injection hg with hg; injection hg with hg; rw [← hg]; exact h2
  have hb0 : BufB T b ao l cap 0 (w.setCell ⟨b, 2, none⟩ (.int .i8 0)) := hbk.set2
  have hr0 : BufRow b ao l cap old (w.setCell ⟨b, 2, none⟩ (.int .i8 0)) := hrow.of_only (fun j hj => setCell_other _ hj)
  have hT : ∀ W, BufB T b ao l cap 0 W → BufRow b ao l cap old W → Calls P (ρ.f 251) #[.pointer (some ⟨b, 0, none⟩), .int .i64 1] W _ := fun W hW hR => buf_try { L with } T b ao l cap 1 0 old W hW hR (Nat.le_refl _)
  have hG : ∀ W, BufB T b ao l cap 0 W → BufRow b ao l cap old W → cap - l < 1 → Calls P (ρ.f 252) #[.pointer (some ⟨b, 0, none⟩), .int .i64 1] W _ := fun W hW hR h => buf_grow { L with } T b ao l cap 1 0 old W hW hR (Nat.le_refl _) h hlim
  clear hbk hrow
  go_enter L.f179, Body.n179_ntmps ρ
  go_wp2_with (go_at_fn (ρ.f 251); refine (hT _ ?_ ?_).mono ?_)
  · exact hb0
  · exact hr0
  have tail : ∀ W1 g cap', Roomy T b ao l cap 1 old (w.setCell ⟨b, 2, none⟩ (.int .i8 0)) W1 g cap' → ∃ v, W1.cell? ⟨b, 0, none⟩ = some (.slice (some ⟨g, 0, none⟩) (l + 1) cap') ∧ W1.cell? ⟨g, l, none⟩ = some v ∧ W1.frozen? ⟨g, l, none⟩ = false ∧ cap' ≤ 9223372036854775807 ∧ l + 1 ≤ cap' ∧
      Wrote T b ao l cap 1 (old ++ [.int .u8 c]) w (W1.setCell ⟨g, l, none⟩ (.int .u8 c)) := fun W1 g cap' hR => by
    have hR' := hR.back hbw hao
    obtain ⟨h1, cur, t, lr', h2, h3, h4, h5, h6, h7, h8, h9⟩ := hR
    have hlt : l < cur.size := by omega
    obtain ⟨fz, hg, hz⟩ := h3
    refine ⟨cur[l], h2.c0, by simp [World.cell?, hg, hlt], ?_, by unfold maxLen at h6; omega, h5, hR'.wrote rfl (fun cur' t' h => ?_) (fun k hk => setCell_other _ hk) (by simp [World.setCell]) rfl rfl rfl⟩
    · obtain ⟨lo, hi⟩ := fz
      simp only at hz
      simp only [World.frozen?, hg, Bool.and_eq_false_iff, decide_eq_false_iff_not]
      omega
    · obtain ⟨rfl, rfl⟩ := CellsAt.uniq ⟨fz, hg, hz⟩ h
      refine ⟨cur'.setIfInBounds l (.int .u8 c), by simp, ?_, fz, setCell_heap _ hg, by simpa using hz⟩
      rw [Array.toList_setIfInBounds, List.take_set, List.take_add_one]
      have hcl : cur'.toList[l]? = some cur'[l] := by simp [hlt]
      rw [hcl]
      rw [List.set_append_right _ _ (by rw [List.length_take]; omega)]
      have : (cur'.toList.take l).length = l := by rw [List.length_take, Array.length_toList]; omega
      rw [this]; simp
  rintro e W1 (⟨rfl, g, cap', hR⟩ | ⟨rfl, rfl, hno⟩)
  · obtain ⟨v, d0, dg, fg, hcm, hle, hend⟩ := tail W1 g cap' hR
    clear hT hG c2 f2 hb0 hr0 tail hR
    go_wp2
    go_ret
    exact ⟨rfl, hend⟩
  · go_wp2_with (go_at_fn (ρ.f 252); refine (hG _ ?_ ?_ hno).mono ?_)
    · exact hb0
    · exact hr0
    rintro e W1 ⟨rfl, g, cap', hR⟩
    obtain ⟨v, d0, dg, fg, hcm, hle, hend⟩ := tail W1 g cap' hR
    clear hT hG c2 f2 hb0 hr0 tail hR
    go_wp2
    go_ret
    exact ⟨rfl, hend⟩


set_option maxHeartbeats 6400000 in
set_option maxRecDepth 100000 in
/-- WriteString. -/
theorem buf_writeString (L : LaysM.n178 P ρ) (T : TypeId) (b : Nat) (ao : Option Addr) (l cap : Nat) (lr : Int) (old us : List Value) (w : World) (s : ByteArray) (hbk : BufB T b ao l cap lr w) (hrow : BufRow b ao l cap old w) (hn : 1 ≤ s.size) (hlim : l + s.size ≤ 140737488355328) (hsrc : ∀ W, Only b w W → Src P W 1 (.string s) s.size us) :
    Calls P (ρ.f 178) #[.pointer (some ⟨b, 0, none⟩), .string s] w fun e w' => e = .returned (.tuple #[.int .i64 s.size, .nilIface]) ∧ Wrote T b ao l cap s.size (old ++ us) w w' := by
  have mixed := L.mixed
  have t5 := L.t5; have a5 := L.a5; have z5 := L.z5; have v5 := L.v5
  have t130 := L.t130; have a130 := L.a130; have z130 := L.z130; have v130 := L.v130
  have t75 := L.t75; have a75 := L.a75; have z75 := L.z75; have v75 := L.v75
  have t0 := L.t0; have a0 := L.a0; have z0 := L.z0; have v0 := L.v0
  have t93 := L.t93; have u93 := run_underlying L.t93; have a93 := L.a93; have z93 := L.z93; have v93 := L.v93
  have t91 := L.t91; have a91 := L.a91; have z91 := L.z91; have v91 := L.v91
  have t3 := L.t3; have a3 := L.a3; have z3 := L.z3; have v3 := L.v3
  have t131 := L.t131; have a131 := L.a131; have z131 := L.z131; have v131 := L.v131
  have t4 := L.t4; have a4 := L.a4; have z4 := L.z4; have v4 := L.v4
  have t37 := L.t37; have a37 := L.a37; have z37 := L.z37; have v37 := L.v37
  have t9 := L.t9; have a9 := L.a9; have z9 := L.z9; have v9 := L.v9
  have e251 : ∀ args w, (callFunc (ρ.f 251) args).run P w = .ok (.enter (ρ.f 251) args) w := Go.Proofs.enters_of L.f251 (by kernel_rfl) rfl
  have e252 : ∀ args w, (callFunc (ρ.f 252) args).run P w = .ok (.enter (ρ.f 252) args) w := Go.Proofs.enters_of L.f252 (by kernel_rfl) rfl
  have c2 := hbk.c2
  have f2 := hbk.f 2
  have hbw := hbk.lt
  have hao : ∀ g, ao = some ⟨g, 0, none⟩ → g ≠ b := fun g hg => by
    rcases hrow with ⟨h, _⟩ | ⟨g', _, _, h, _, h2, _⟩
    · rw [h] at hg; cases hg
    · rw [h] at hg; injection hg with hg; injection hg with hg; rw [← hg]; exact h2
  have hb0 : BufB T b ao l cap 0 (w.setCell ⟨b, 2, none⟩ (.int .i8 0)) := hbk.set2
  have hr0 : BufRow b ao l cap old (w.setCell ⟨b, 2, none⟩ (.int .i8 0)) := hrow.of_only (fun j hj => setCell_other _ hj)
  obtain ⟨i0, hi, hz0, hz1, hz2⟩ := info_parts L.i5
  have tail : ∀ W1 g cap', Roomy T b ao l cap s.size old (w.setCell ⟨b, 2, none⟩ (.int .i8 0)) W1 g cap' → ∃ W2, W1.cell? ⟨b, 0, none⟩ = some (.slice (some ⟨g, 0, none⟩) (l + s.size) cap') ∧ (Builtin.copy_ #[(ρ.t 37), (ρ.t 9)] (ρ.t 3) #[.slice (some ⟨g, l, none⟩) s.size (cap' - l), .string s]).run P W1 = .ok (goInt s.size) W2 ∧ cap' ≤ 9223372036854775807 ∧ l + s.size ≤ cap' ∧
      Wrote T b ao l cap s.size (old ++ us) w W2 := fun W1 g cap' hR => by
    have hR' := hR.back hbw hao
    have hsr := hsrc W1 hR'.1
    have hul : us.length = s.size := by have := hsr.size; omega
    obtain ⟨h1, cur, t, lr', h2, h3, h4, h5, h6, h7, h8, h9⟩ := hR
    refine ⟨_, h2.c0, run_copy_src L.t37 hi (by simpa using hz1) hsr h3 (Nat.le_refl _) (by omega), by unfold maxLen at h6; omega, h5, hR'.wrote hul (fun cur' t' h => ?_) (fun k hk => setRow_other _ _ _ _ hk) (by simp) rfl rfl rfl⟩
    obtain ⟨rfl, rfl⟩ := CellsAt.uniq h3 h
    refine ⟨_, ?_, ?_, h.setRow ?_⟩
    · simp only [List.size_toArray, List.length_append, List.length_take, List.length_drop, Array.length_toList, hul]; omega
    · simp only [List.toList_toArray]
      rw [List.take_append_of_le_length (by simp only [List.length_append, List.length_take, Array.length_toList]; omega), List.take_of_length_le (by simp only [List.length_append, List.length_take, Array.length_toList]; omega)]
    · simp only [List.size_toArray, List.length_append, List.length_take, List.length_drop, Array.length_toList, hul]; omega
  clear hbk hrow hsrc
  go_enter L.f178, Body.n178_ntmps ρ
  go_wp2_with (go_at_fn (ρ.f 251); refine (buf_try { L with } T b ao l cap s.size 0 old _ ?_ ?_ hn).mono ?_)
  · exact hb0
  · exact hr0
  rintro e W1 (⟨rfl, g, cap', hR⟩ | ⟨rfl, rfl, hno⟩)
  · obtain ⟨W2, d0, hcp, hcm, hle, hend⟩ := tail W1 g cap' hR
    have hne : ¬ cap' = l := by omega
    clear c2 f2 hb0 hr0 tail hR
    go_wp2
    go_ret2
    exact ⟨rfl, hend⟩
  · go_wp2_with (go_at_fn (ρ.f 252); refine (buf_grow { L with } T b ao l cap s.size 0 old _ ?_ ?_ hn hno hlim).mono ?_)
    · exact hb0
    · exact hr0
    rintro e W1 ⟨rfl, g, cap', hR⟩
    obtain ⟨W2, d0, hcp, hcm, hle, hend⟩ := tail W1 g cap' hR
    have hne : ¬ cap' = l := by omega
    clear c2 f2 hb0 hr0 tail hR
    go_wp2
    go_ret2
    exact ⟨rfl, hend⟩

set_option maxHeartbeats 6400000 in
set_option maxRecDepth 100000 in
/-- Write. -/
theorem buf_write (L : LaysM.n180 P ρ) (T : TypeId) (b : Nat) (ao : Option Addr) (l cap : Nat) (lr : Int) (old us : List Value) (w : World) (a : Addr) (n c : Nat) (hbk : BufB T b ao l cap lr w) (hrow : BufRow b ao l cap old w) (hn : 1 ≤ n) (hlim : l + n ≤ 140737488355328) (hsrc : ∀ W, Only b w W → Src P W 1 (.slice (some a) n c) n us) :
    Calls P (ρ.f 180) #[.pointer (some ⟨b, 0, none⟩), .slice (some a) n c] w fun e w' => e = .returned (.tuple #[.int .i64 n, .nilIface]) ∧ Wrote T b ao l cap n (old ++ us) w w' := by
  have mixed := L.mixed
  have t5 := L.t5; have a5 := L.a5; have z5 := L.z5; have v5 := L.v5
  have t130 := L.t130; have a130 := L.a130; have z130 := L.z130; have v130 := L.v130
  have t75 := L.t75; have a75 := L.a75; have z75 := L.z75; have v75 := L.v75
  have t0 := L.t0; have a0 := L.a0; have z0 := L.z0; have v0 := L.v0
  have t93 := L.t93; have u93 := run_underlying L.t93; have a93 := L.a93; have z93 := L.z93; have v93 := L.v93
  have t91 := L.t91; have a91 := L.a91; have z91 := L.z91; have v91 := L.v91
  have t3 := L.t3; have a3 := L.a3; have z3 := L.z3; have v3 := L.v3
  have t131 := L.t131; have a131 := L.a131; have z131 := L.z131; have v131 := L.v131
  have t4 := L.t4; have a4 := L.a4; have z4 := L.z4; have v4 := L.v4
  have t37 := L.t37; have a37 := L.a37; have z37 := L.z37; have v37 := L.v37
  have e251 : ∀ args w, (callFunc (ρ.f 251) args).run P w = .ok (.enter (ρ.f 251) args) w := Go.Proofs.enters_of L.f251 (by kernel_rfl) rfl
  have e252 : ∀ args w, (callFunc (ρ.f 252) args).run P w = .ok (.enter (ρ.f 252) args) w := Go.Proofs.enters_of L.f252 (by kernel_rfl) rfl
  have c2 := hbk.c2
  have f2 := hbk.f 2
  have hbw := hbk.lt
  have hao : ∀ g, ao = some ⟨g, 0, none⟩ → g ≠ b := fun g hg => by
    rcases hrow with ⟨h, _⟩ | ⟨g', _, _, h, _, h2, _⟩
    · rw [h] at hg; cases hg
    · rw [h] at hg; injection hg with hg; injection hg with hg; rw [← hg]; exact h2
  have hb0 : BufB T b ao l cap 0 (w.setCell ⟨b, 2, none⟩ (.int .i8 0)) := hbk.set2
  have hr0 : BufRow b ao l cap old (w.setCell ⟨b, 2, none⟩ (.int .i8 0)) := hrow.of_only (fun j hj => setCell_other _ hj)
  obtain ⟨i0, hi, hz0, hz1, hz2⟩ := info_parts L.i5
  have tail : ∀ W1 g cap', Roomy T b ao l cap n old (w.setCell ⟨b, 2, none⟩ (.int .i8 0)) W1 g cap' → ∃ W2, W1.cell? ⟨b, 0, none⟩ = some (.slice (some ⟨g, 0, none⟩) (l + n) cap') ∧ (Builtin.copy_ #[(ρ.t 37), (ρ.t 37)] (ρ.t 3) #[.slice (some ⟨g, l, none⟩) n (cap' - l), .slice (some a) n c]).run P W1 = .ok (goInt n) W2 ∧ cap' ≤ 9223372036854775807 ∧ l + n ≤ cap' ∧
      Wrote T b ao l cap n (old ++ us) w W2 := fun W1 g cap' hR => by
    have hR' := hR.back hbw hao
    have hsr := hsrc W1 hR'.1
    have hul : us.length = n := by have := hsr.size; omega
    obtain ⟨h1, cur, t, lr', h2, h3, h4, h5, h6, h7, h8, h9⟩ := hR
    refine ⟨_, h2.c0, run_copy_src L.t37 hi (by simpa using hz1) hsr h3 (Nat.le_refl _) (by omega), by unfold maxLen at h6; omega, h5, hR'.wrote hul (fun cur' t' h => ?_) (fun k hk => setRow_other _ _ _ _ hk) (by simp) rfl rfl rfl⟩
    obtain ⟨rfl, rfl⟩ := CellsAt.uniq h3 h
    refine ⟨_, ?_, ?_, h.setRow ?_⟩
    · simp only [List.size_toArray, List.length_append, List.length_take, List.length_drop, Array.length_toList, hul]; omega
    · simp only [List.toList_toArray]
      rw [List.take_append_of_le_length (by simp only [List.length_append, List.length_take, Array.length_toList]; omega), List.take_of_length_le (by simp only [List.length_append, List.length_take, Array.length_toList]; omega)]
    · simp only [List.size_toArray, List.length_append, List.length_take, List.length_drop, Array.length_toList, hul]; omega
  clear hbk hrow hsrc
  go_enter L.f180, Body.n180_ntmps ρ
  go_wp2_with (go_at_fn (ρ.f 251); refine (buf_try { L with } T b ao l cap n 0 old _ ?_ ?_ hn).mono ?_)
  · exact hb0
  · exact hr0
  rintro e W1 (⟨rfl, g, cap', hR⟩ | ⟨rfl, rfl, hno⟩)
  · obtain ⟨W2, d0, hcp, hcm, hle, hend⟩ := tail W1 g cap' hR
    have hne : ¬ cap' = l := by omega
    clear c2 f2 hb0 hr0 tail hR
    go_wp2
    go_ret2
    exact ⟨rfl, hend⟩
  · go_wp2_with (go_at_fn (ρ.f 252); refine (buf_grow { L with } T b ao l cap n 0 old _ ?_ ?_ hn hno hlim).mono ?_)
    · exact hb0
    · exact hr0
    rintro e W1 ⟨rfl, g, cap', hR⟩
    obtain ⟨W2, d0, hcp, hcm, hle, hend⟩ := tail W1 g cap' hR
    have hne : ¬ cap' = l := by omega
    clear c2 f2 hb0 hr0 tail hR
    go_wp2
    go_ret2
    exact ⟨rfl, hend⟩
end Go.Sh

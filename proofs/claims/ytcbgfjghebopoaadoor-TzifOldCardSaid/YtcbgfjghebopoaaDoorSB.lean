/- What a shadow is a shadow of: the relation between shadows and values, objects and blocks, and what stays as it is. -/
import Derived.Test.YtcbgfjghebopoaaDoorSA
import Derived.Test.YtcbgfjghebopoaaDoorS0
import Derived.Test.YtcbgfjghebopoaaDoorS2
namespace Go.Sh
open Go.RowKit

/-- What the shadow's names stand for: objects' blocks; of each block how many cells stay as they are. -/
structure Gh where
  obj : List Nat
  len : Nat → Nat

/-- These cells stand from a on, and stay as they are. -/
def Reads (g : Gh) (w : World) (a : Addr) (vs : List Value) : Prop :=
  a.spot = none ∧ a.off + vs.length ≤ g.len a.block ∧ ∀ j, j < vs.length → w.cell? ⟨a.block, a.off + j, none⟩ = vs[j]?

/-- A slice's cells. -/
def Row (g : Gh) (w : World) (own : Bool) (a : Option Addr) (n c sz : Nat) (vs : List Value) : Prop :=
  vs.length = n * sz ∧ n ≤ c ∧ 0 ≤ n ∧ (0 < vs.length → ∃ ad, a = some ad ∧ Reads g w ad vs) ∧
  (own = true → ∀ ad, a = some ad → ad.off = 0 ∧ ad.spot = none) ∧ (a = none → n = 0 ∧ c = 0) ∧ ∀ u ∈ vs, u.oneCell' = true

/-- A block of cells none of which is frozen. -/
def CellsAt (w : World) (b : Nat) (arr : Array Value) (t : TypeId) : Prop := ∃ fz : Nat × Nat, w.heap[b]? = some (.cells arr t fz) ∧ (fz.2 = fz.1 ∨ arr.size ≤ fz.1)
theorem CellsAt.of_heap {w w' : World} {b : Nat} {arr : Array Value} {t : TypeId} (e : w'.heap[b]? = w.heap[b]?) (h : CellsAt w b arr t) : CellsAt w' b arr t := by
  obtain ⟨fz, h1, h2⟩ := h
  exact ⟨fz, by rw [e]; exact h1, h2⟩
theorem CellsAt.lt {w : World} {b : Nat} {arr : Array Value} {t : TypeId} (h : CellsAt w b arr t) : b < w.heap.size := by
  obtain ⟨fz, h1, _⟩ := h
  exact (Array.getElem?_eq_some_iff.1 h1).1
theorem CellsAt.plain {w : World} {b : Nat} {arr : Array Value} {t : TypeId} (h : w.heap[b]? = some (.cells arr t (0, 0))) : CellsAt w b arr t := ⟨_, h, .inl rfl⟩
theorem CellsAt.uniq {w : World} {b : Nat} {arr arr' : Array Value} {t t' : TypeId} (h : CellsAt w b arr t) (h' : CellsAt w b arr' t') : arr' = arr ∧ t' = t := by
  obtain ⟨fz, h1, _⟩ := h
  obtain ⟨fz', h2, _⟩ := h'
  rw [h1] at h2
  injection h2 with h2
  injection h2 with e1 e2 e3
  exact ⟨e1.symm, e2.symm⟩
theorem CellsAt.cell {w : World} {b : Nat} {arr : Array Value} {t : TypeId} (h : CellsAt w b arr t) (j : Nat) : w.cell? ⟨b, j, none⟩ = arr[j]? := by
  obtain ⟨fz, h1, _⟩ := h
  simp [World.cell?, h1]
/-- How many cells a block has. -/
def bsize (w : World) (b : Nat) : Nat := match w.heap[b]? with
  | some (.cells arr _ _) => arr.size
  | _ => 0
theorem bsz_block {w w' : World} {b : Nat} (h : w'.heap[b]? = w.heap[b]?) : bsize w b ≤ bsize w' b := by unfold bsize; rw [h]; exact Nat.le_refl _
theorem bsz_cells {w : World} {b : Nat} {arr : Array Value} {t : TypeId} {f : Nat × Nat} (h : w.heap[b]? = some (.cells arr t f)) : bsize w b = arr.size := by unfold bsize; rw [h]
theorem CellsAt.bsz {w : World} {b : Nat} {arr : Array Value} {t : TypeId} (h : CellsAt w b arr t) : bsize w b = arr.size := by
  obtain ⟨fz, h1, _⟩ := h
  exact bsz_cells h1
theorem bsz_old {w w' : World} (h : ∀ k, k < w.heap.size → w'.heap[k]? = w.heap[k]?) (b : Nat) : bsize w b ≤ bsize w' b := by
  rcases Nat.lt_or_ge b w.heap.size with hb | hb
  · exact bsz_block (h b hb)
  · unfold bsize; rw [Array.getElem?_eq_none hb]; exact Nat.zero_le _
theorem bsz_one {w w' : World} {b : Nat} (h : ∀ k, k ≠ b → w'.heap[k]? = w.heap[k]?) (hb : bsize w b ≤ bsize w' b) (k : Nat) : bsize w k ≤ bsize w' k := by
  by_cases e : k = b
  · subst e; exact hb
  · exact bsz_block (h k e)
mutual
def VR (g : Gh) (w : World) : AV → Value → Prop
  | .undef, _ => True
  | .int k n, v => v = .int k n
  | .bool b, v => v = .bool b
  | .str l, v => ∃ s, v = .string s ∧ s.data.toList = l
  | .ints own k l, v => ∃ a n c, v = .slice a n c ∧ Row g w own a n c 1 (l.map (Value.int k))
  | .strs own l, v => ∃ a n c, v = .slice a n c ∧ Row g w own a n c 1 (l.map fun s => Value.string ⟨s.toArray⟩)
  | .sl own sz els, v => ∃ a n c vs, v = .slice a n c ∧ Row g w own a n c sz vs ∧ els.length = n ∧ (∀ e ∈ els, e.length = sz ∧ noPtrL e = true) ∧ VRss g w els vs
  | .eptr cs, v => ∃ a vs, v = .pointer (some a) ∧ Reads g w a vs ∧ VRs g w cs vs ∧ noPtrL cs = true
  | .ptr none, v => v = .pointer none
  | .ptr (some (id, off)), v => ∃ b, v = .pointer (some ⟨b, off, none⟩) ∧ g.obj[id]? = some b
  | .mut id off m _, v => ∃ a b c, v = .slice a m c ∧ (0 < m → a = some ⟨b, off, none⟩) ∧ m ≤ c ∧ g.obj[id]? = some b
  | .map none, v => v = .map none
  | .map (some id), v => ∃ b, v = .map (some b) ∧ g.obj[id]? = some b
  | .yld id, v => ∃ b, v = .func (.yield b) #[] #[] ∧ g.obj[id]? = some b
  | .mo id m tot sz, v => ∃ a b c, v = .slice a m c ∧ m ≤ c ∧ m ≤ tot ∧ g.obj[id]? = some b ∧ (tot = 0 → a = none ∧ c = 0) ∧ (0 < tot → a = some ⟨b, 0, none⟩ ∧ c * sz ≤ bsize w b)
  | .func fn first cap, v => ∃ xs ys, v = .func fn xs ys ∧ VRs g w first xs.toList ∧ VRs g w cap ys.toList
  | .nilFunc, v => v = .nilFunc
  | .nilIface, v => v = .nilIface
  | .iface t x, v => ∃ y, v = .iface t y ∧ VR g w x y
  | .agg cs, v => ∃ vs, v = .agg vs ∧ VRs g w cs vs.toList
  | .tuple cs, v => ∃ vs, v = .tuple vs ∧ VRs g w cs vs.toList
def VRs (g : Gh) (w : World) : List AV → List Value → Prop
  | [], vs => vs = []
  | c :: cs, vs => ∃ v us, vs = v :: us ∧ VR g w c v ∧ VRs g w cs us
def VRss (g : Gh) (w : World) : List (List AV) → List Value → Prop
  | [], vs => vs = []
  | e :: es, vs => ∃ p q, vs = p ++ q ∧ VRs g w e p ∧ VRss g w es q
end

/-- A row that may be appended to: its block, how many cells it has, how many there is room for. -/
abbrev Rec := Nat × Nat × Nat
mutual
def owns : AV → Value → List Rec
  | .ints true _ l, .slice (some a) _ c => [(a.block, l.length, c)]
  | .strs true l, .slice (some a) _ c => [(a.block, l.length, c)]
  | .sl true sz els, .slice (some a) _ c => [(a.block, els.length * sz, c * sz)]
  | .agg cs, .agg vs => ownsL cs vs.toList
  | .tuple cs, .tuple vs => ownsL cs vs.toList
  | _, _ => []
def ownsL : List AV → List Value → List Rec
  | c :: cs, v :: vs => owns c v ++ ownsL cs vs
  | _, _ => []
end
def oc (b : Nat) (l : List Rec) : Nat := l.countP fun r => r.1 == b
theorem oc_append (b : Nat) (l m : List Rec) : oc b (l ++ m) = oc b l + oc b m := by simp [oc, List.countP_append]
theorem oc_nil (b : Nat) : oc b [] = 0 := rfl
theorem oc_mem {r : Rec} {l : List Rec} (h : r ∈ l) : 0 < oc r.1 l := by
  unfold oc
  exact List.countP_pos_iff.2 ⟨r, h, by simp⟩

def OwnOK (g : Gh) (w : World) (r : Rec) : Prop :=
  g.len r.1 = r.2.1 ∧ r.2.1 ≤ r.2.2 ∧ ∃ arr t, CellsAt w r.1 arr t ∧ r.2.2 ≤ arr.size

/-- The type of a block's cells. -/
def tyOf (w : World) (b : Nat) : Option TypeId := match w.heap[b]? with
  | some (.cells _ t _) => some t
  | _ => none
theorem tyOf_block {w w' : World} {b : Nat} (h : w'.heap[b]? = w.heap[b]?) : tyOf w' b = tyOf w b := by unfold tyOf; rw [h]
theorem tyOf_cells {w : World} {b : Nat} {arr : Array Value} {t : TypeId} {f : Nat × Nat} (h : w.heap[b]? = some (.cells arr t f)) : tyOf w b = some t := by unfold tyOf; rw [h]
theorem CellsAt.ty {w : World} {b : Nat} {arr : Array Value} {t : TypeId} (h : CellsAt w b arr t) : tyOf w b = some t := by
  obtain ⟨fz, h1, _⟩ := h
  exact tyOf_cells h1
/-- A map's entries. -/
def EntR (g : Gh) (w : World) : List (AV × AV) → List MapEntry → Prop
  | [], es => es = []
  | (k, v) :: l, es => ∃ e rest, es = e :: rest ∧ VR g w k e.key ∧ VR g w v e.val ∧ EntR g w l rest
/-- An object's block. -/
def ObjR (g : Gh) (w : World) (b : Nat) : AObj → Prop
  | .cells t cs => ∃ arr, w.heap[b]? = some (.cells arr t (0, 0)) ∧ VRs g w cs arr.toList
  | .map es => ∃ entries clock, w.heap[b]? = some (.map entries clock) ∧ EntR g w es entries.toList
  | .rowS t xs => ∃ arr rest, w.heap[b]? = some (.cells arr t (0, 0)) ∧ arr.toList = (xs.map fun s => Value.string ⟨s.toArray⟩) ++ rest
  | .rowI t k xs => ∃ arr rest, w.heap[b]? = some (.cells arr t (0, 0)) ∧ arr.toList = xs.map (Value.int k) ++ rest
  | .rowC n els => els = [] ∨ ((∀ e ∈ els, e.length = n ∧ e.all AV.plain = true) ∧ ∃ arr t vs rest, CellsAt w b arr t ∧ arr.toList = vs ++ rest ∧ VRss g w els vs)
  | .loop key cs => ∃ r, w.heap[b]? = some (.loop r) ∧ r.state = .ready ∧ r.pending = none ∧ r.params.toList = (loopMeta key).params ∧ r.assign = (loopMeta key).assign ∧ r.body = (loopMeta key).body ∧ r.tmps.size = (loopMeta key).nt ∧
    VRs g w cs ((loopMeta key).slots.map fun t => r.tmps.getD t undef)
  | .rowN k xs => xs = [] ∨ ∃ arr t rest, CellsAt w b arr t ∧ arr.toList = xs.map (Value.int k) ++ rest
  | .buf 0 t l => ∃ x u, w.heap[b]? = some (.cells #[x, u] t (0, 0)) ∧ (x = .pointer none ∨ x = .pointer (some ⟨b, 0, none⟩)) ∧ VR g w (.ints true .u8 l) u ∧ (l = [] → u = .slice none 0 0) ∧ ∀ a n c, u = .slice (some a) n c → l ≠ [] → tyOf w a.block = some byteT
  | .buf 1 t l => ∃ (u : Value) (lr : Int), w.heap[b]? = some (.cells #[u, .int .i64 0, .int .i8 lr] t (0, 0)) ∧ VR g w (.ints true .u8 l) u ∧ (l = [] → u = .slice none 0 0) ∧ ∀ a n c, u = .slice a n c → c ≤ maxLen
  | .buf _ _ _ => False
  | .gone => True

def ownsO (w : World) (b : Nat) : AObj → List Rec
  | .cells _ cs => match w.heap[b]? with
    | some (.cells arr _ _) => ownsL cs arr.toList
    | _ => []
  | .buf 0 _ l => match w.heap[b]? with
    | some (.cells arr _ _) => owns (.ints true .u8 l) (arr.getD 1 undef)
    | _ => []
  | .buf 1 _ l => match w.heap[b]? with
    | some (.cells arr _ _) => owns (.ints true .u8 l) (arr.getD 0 undef)
    | _ => []
  | _ => []
def ownsH (w : World) : List AObj → List Nat → List Rec
  | o :: H, b :: bs => ownsO w b o ++ ownsH w H bs
  | _, _ => []
/-- The blocks of the objects that stand for one. -/
def lives : List AObj → List Nat → List Nat
  | o :: H, b :: bs => bif o.dead then lives H bs else b :: lives H bs
  | _, _ => []
def ObjsR (g : Gh) (w : World) : List AObj → List Nat → Prop
  | [], bs => bs = []
  | o :: H, bs => ∃ b cs, bs = b :: cs ∧ ObjR g w b o ∧ ObjsR g w H cs

/-- What the frame holds stays: the variables of packages. -/
def Keeps (F : Nat → Prop) (w : World) : Prop := ∃ bs : Array Obj, Good bs ∧ ∀ b, b < bs.size → F b ∧ w.heap[b]? = bs[b]?
theorem Keeps.step {F F' : Nat → Prop} {w w' : World} (h : Keeps F w) (hf : ∀ b, F b → F' b) (he : ∀ b, F b → w'.heap[b]? = w.heap[b]?) : Keeps F' w' := by
  obtain ⟨bs, h1, h2⟩ := h
  exact ⟨bs, h1, fun b hb => ⟨hf b (h2 b hb).1, (he b (h2 b hb).1).trans (h2 b hb).2⟩⟩
/-- The objects and the rows of one's own, in a world of which F isn't touched. -/
structure Core (F : Nat → Prop) (g : Gh) (H : List AObj) (os : List Rec) (w : World) : Prop where
  heap : ObjsR g w H g.obj
  own : ∀ r, r ∈ os ∨ r ∈ ownsH w H g.obj → OwnOK g w r
  dist : ∀ b, oc b os + oc b (ownsH w H g.obj) + (lives H g.obj).count b ≤ 1
  notF : ∀ b, F b → oc b os + oc b (ownsH w H g.obj) + (lives H g.obj).count b = 0
  objlen : ∀ b, b ∈ lives H g.obj → g.len b = 0
  lenlt : ∀ b, 0 < g.len b → b < w.heap.size
  flt : ∀ b, F b → b < w.heap.size
  good : Keeps F w

/-- What doesn't turn between two worlds. -/
structure Step (F : Nat → Prop) (g : Gh) (w : World) (g' : Gh) (w' : World) : Prop where
  cell : ∀ b j, j < g.len b → w'.cell? ⟨b, j, none⟩ = w.cell? ⟨b, j, none⟩
  ty : ∀ b, 0 < g.len b → tyOf w' b = tyOf w b
  bsz : ∀ b, bsize w b ≤ bsize w' b
  len : ∀ b, g.len b ≤ g'.len b
  frame : ∀ b, F b → w'.heap[b]? = w.heap[b]? ∧ g'.len b = g.len b
  size : w.heap.size ≤ w'.heap.size
  os : w'.os = w.os
  tape : w'.tape = w.tape
  output : w'.output = w.output

theorem Step.refl (F : Nat → Prop) (g : Gh) (w : World) : Step F g w g w := ⟨fun _ _ _ => rfl, fun _ _ => rfl, fun _ => Nat.le_refl _, fun _ => Nat.le_refl _, fun _ _ => ⟨rfl, rfl⟩, Nat.le_refl _, rfl, rfl, rfl⟩
theorem Step.trans {F : Nat → Prop} {g g1 g2 : Gh} {w w1 w2 : World} (h : Step F g w g1 w1) (k : Step F g1 w1 g2 w2) : Step F g w g2 w2 :=
  ⟨fun b j hj => (k.cell b j (Nat.lt_of_lt_of_le hj (h.len b))).trans (h.cell b j hj), fun b hb => (k.ty b (Nat.lt_of_lt_of_le hb (h.len b))).trans (h.ty b hb), fun b => Nat.le_trans (h.bsz b) (k.bsz b), fun b => Nat.le_trans (h.len b) (k.len b),
    fun b hb => ⟨(k.frame b hb).1.trans (h.frame b hb).1, (k.frame b hb).2.trans (h.frame b hb).2⟩, Nat.le_trans h.size k.size, k.os.trans h.os, k.tape.trans h.tape, k.output.trans h.output⟩
/-- Less may be framed. -/
theorem Step.weaken {F F' : Nat → Prop} {g g' : Gh} {w w' : World} (h : Step F g w g' w') (hf : ∀ b, F' b → F b) : Step F' g w g' w' :=
  ⟨h.cell, h.ty, h.bsz, h.len, fun b hb => h.frame b (hf b hb), h.size, h.os, h.tape, h.output⟩

/-- What the relation between values needs to go on holding. -/
structure Ext (g : Gh) (w : World) (g' : Gh) (w' : World) : Prop where
  cell : ∀ b j, j < g.len b → w'.cell? ⟨b, j, none⟩ = w.cell? ⟨b, j, none⟩
  ty : ∀ b, 0 < g.len b → tyOf w' b = tyOf w b
  bsz : ∀ b, bsize w b ≤ bsize w' b
  len : ∀ b, g.len b ≤ g'.len b
  obj : ∀ (i b : Nat), g.obj[i]? = some b → g'.obj[i]? = some b
theorem Ext.refl (g : Gh) (w : World) : Ext g w g w := ⟨fun _ _ _ => rfl, fun _ _ => rfl, fun _ => Nat.le_refl _, fun _ => Nat.le_refl _, fun _ _ h => h⟩
theorem Step.toExt {F : Nat → Prop} {g g' : Gh} {w w' : World} (h : Step F g w g' w') (ho : ∀ (i b : Nat), g.obj[i]? = some b → g'.obj[i]? = some b) : Ext g w g' w' := ⟨h.cell, h.ty, h.bsz, h.len, ho⟩

theorem Reads.ext {g g' : Gh} {w w' : World} (e : Ext g w g' w') {a : Addr} {vs : List Value} (h : Reads g w a vs) : Reads g' w' a vs :=
  ⟨h.1, Nat.le_trans h.2.1 (e.len _), fun j hj => (e.cell _ _ (by have := h.2.1; omega)).trans (h.2.2 j hj)⟩
theorem Row.ext {g g' : Gh} {w w' : World} (e : Ext g w g' w') {own : Bool} {a : Option Addr} {n c sz : Nat} {vs : List Value} (h : Row g w own a n c sz vs) : Row g' w' own a n c sz vs :=
  ⟨h.1, h.2.1, h.2.2.1, fun hp => let ⟨ad, h1, h2⟩ := h.2.2.2.1 hp; ⟨ad, h1, h2.ext e⟩, h.2.2.2.2⟩

mutual
theorem VR.ext {g g' : Gh} {w w' : World} (e : Ext g w g' w') : ∀ (a : AV) (v : Value), VR g w a v → VR g' w' a v
  | .undef, _, _ => trivial
  | .int .., _, h => h
  | .bool .., _, h => h
  | .str .., _, h => h
  | .ints .., _, h => by
    simp only [VR] at h ⊢
    obtain ⟨a, n, c, h1, h2⟩ := h
    exact ⟨a, n, c, h1, h2.ext e⟩
  | .strs .., _, h => by
    simp only [VR] at h ⊢
    obtain ⟨a, n, c, h1, h2⟩ := h
    exact ⟨a, n, c, h1, h2.ext e⟩
  | .sl own sz els, _, h => by
    simp only [VR] at h ⊢
    obtain ⟨a, n, c, vs, h1, h2, h3, h4, h5⟩ := h
    exact ⟨a, n, c, vs, h1, h2.ext e, h3, h4, VRss.ext e els vs h5⟩
  | .eptr cs, _, h => by
    simp only [VR] at h ⊢
    obtain ⟨a, vs, h1, h2, h3, h4⟩ := h
    exact ⟨a, vs, h1, h2.ext e, VRs.ext e cs vs h3, h4⟩
  | .ptr none, _, h => h
  | .ptr (some (id, off)), _, h => by
    simp only [VR] at h ⊢
    obtain ⟨b, h1, h2⟩ := h
    exact ⟨b, h1, e.obj _ _ h2⟩
  | .mut .., _, h => by
    simp only [VR] at h ⊢
    obtain ⟨a, b, c, h1, h2, h3, h4⟩ := h
    exact ⟨a, b, c, h1, h2, h3, e.obj _ _ h4⟩
  | .map none, _, h => h
  | .map (some id), _, h => by
    simp only [VR] at h ⊢
    obtain ⟨b, h1, h2⟩ := h
    exact ⟨b, h1, e.obj _ _ h2⟩
  | .yld _, _, h => by
    simp only [VR] at h ⊢
    obtain ⟨b, h1, h2⟩ := h
    exact ⟨b, h1, e.obj _ _ h2⟩
  | .mo .., _, h => by
    simp only [VR] at h ⊢
    obtain ⟨a, b, c, h1, h2, h3, h4, h5, h6⟩ := h
    exact ⟨a, b, c, h1, h2, h3, e.obj _ _ h4, h5, fun h0 => ⟨(h6 h0).1, Nat.le_trans (h6 h0).2 (e.bsz b)⟩⟩
  | .func fn first cap, _, h => by
    simp only [VR] at h ⊢
    obtain ⟨xs, ys, h1, h2, h3⟩ := h
    exact ⟨xs, ys, h1, VRs.ext e first _ h2, VRs.ext e cap _ h3⟩
  | .nilFunc, _, h => h
  | .nilIface, _, h => h
  | .iface t x, _, h => by
    simp only [VR] at h ⊢
    obtain ⟨y, h1, h2⟩ := h
    exact ⟨y, h1, VR.ext e x y h2⟩
  | .agg cs, _, h => by
    simp only [VR] at h ⊢
    obtain ⟨vs, h1, h2⟩ := h
    exact ⟨vs, h1, VRs.ext e cs _ h2⟩
  | .tuple cs, _, h => by
    simp only [VR] at h ⊢
    obtain ⟨vs, h1, h2⟩ := h
    exact ⟨vs, h1, VRs.ext e cs _ h2⟩
theorem VRs.ext {g g' : Gh} {w w' : World} (e : Ext g w g' w') : ∀ (cs : List AV) (vs : List Value), VRs g w cs vs → VRs g' w' cs vs
  | [], _, h => h
  | c :: cs, vs, h => by
    simp only [VRs] at h ⊢
    obtain ⟨v, us, h1, h2, h3⟩ := h
    exact ⟨v, us, h1, VR.ext e c v h2, VRs.ext e cs us h3⟩
theorem VRss.ext {g g' : Gh} {w w' : World} (e : Ext g w g' w') : ∀ (es : List (List AV)) (vs : List Value), VRss g w es vs → VRss g' w' es vs
  | [], _, h => h
  | c :: cs, vs, h => by
    simp only [VRss] at h ⊢
    obtain ⟨p, q, h1, h2, h3⟩ := h
    exact ⟨p, q, h1, VRs.ext e c p h2, VRss.ext e cs q h3⟩
end

theorem EntR.ext {g g' : Gh} {w w' : World} (e : Ext g w g' w') : ∀ {l : List (AV × AV)} {es : List MapEntry}, EntR g w l es → EntR g' w' l es
  | [], es, h => h
  | (k, v) :: l, es, h => by
    obtain ⟨x, rest, rfl, h1, h2, h3⟩ := h
    exact ⟨x, rest, rfl, VR.ext e _ _ h1, VR.ext e _ _ h2, h3.ext e⟩
mutual
theorem VR.disown {g : Gh} {w : World} : ∀ (a : AV) (v : Value), VR g w a v → VR g w (disown a) v
  | .undef, _, h => h
  | .int .., _, h => h
  | .bool .., _, h => h
  | .str .., _, h => h
  | .ints .., _, h => by
    simp only [VR, Sh.disown] at h ⊢
    obtain ⟨a, n, c, h1, h2⟩ := h
    exact ⟨a, n, c, h1, h2.1, h2.2.1, h2.2.2.1, h2.2.2.2.1, fun hh => (by simp at hh), h2.2.2.2.2.2⟩
  | .strs .., _, h => by
    simp only [VR, Sh.disown] at h ⊢
    obtain ⟨a, n, c, h1, h2⟩ := h
    exact ⟨a, n, c, h1, h2.1, h2.2.1, h2.2.2.1, h2.2.2.2.1, fun hh => (by simp at hh), h2.2.2.2.2.2⟩
  | .sl own sz els, _, h => by
    simp only [VR, Sh.disown] at h ⊢
    obtain ⟨a, n, c, vs, h1, h2, h3⟩ := h
    exact ⟨a, n, c, vs, h1, ⟨h2.1, h2.2.1, h2.2.2.1, h2.2.2.2.1, fun hh => (by simp at hh), h2.2.2.2.2.2⟩, h3⟩
  | .eptr cs, _, h => h
  | .ptr none, _, h => h
  | .ptr (some (id, off)), _, h => h
  | .mut .., _, h => h
  | .map none, _, h => h
  | .map (some id), _, h => h
  | .yld _, _, h => h
  | .mo .., _, h => h
  | .func fn first cap, _, h => by
    simp only [VR, Sh.disown] at h ⊢
    obtain ⟨xs, ys, h1, h2, h3⟩ := h
    exact ⟨xs, ys, h1, VRs.disown first _ h2, VRs.disown cap _ h3⟩
  | .nilFunc, _, h => h
  | .nilIface, _, h => h
  | .iface t x, _, h => by
    simp only [VR, Sh.disown] at h ⊢
    obtain ⟨y, h1, h2⟩ := h
    exact ⟨y, h1, VR.disown x y h2⟩
  | .agg cs, _, h => by
    simp only [VR, Sh.disown] at h ⊢
    obtain ⟨vs, h1, h2⟩ := h
    exact ⟨vs, h1, VRs.disown cs _ h2⟩
  | .tuple cs, _, h => by
    simp only [VR, Sh.disown] at h ⊢
    obtain ⟨vs, h1, h2⟩ := h
    exact ⟨vs, h1, VRs.disown cs _ h2⟩
theorem VRs.disown {g : Gh} {w : World} : ∀ (cs : List AV) (vs : List Value), VRs g w cs vs → VRs g w (disownL cs) vs
  | [], _, h => h
  | c :: cs, vs, h => by
    simp only [VRs, Sh.disownL] at h ⊢
    obtain ⟨v, us, h1, h2, h3⟩ := h
    exact ⟨v, us, h1, VR.disown c v h2, VRs.disown cs us h3⟩
end

mutual
theorem owns_disown : ∀ (a : AV) (v : Value), owns (disown a) v = []
  | .undef, v => by cases v <;> rfl
  | .int .., v => by cases v <;> rfl
  | .bool .., v => by cases v <;> rfl
  | .str .., v => by cases v <;> rfl
  | .ints .., v => by cases v <;> rfl
  | .strs .., v => by cases v <;> rfl
  | .sl .., v => by cases v <;> rfl
  | .eptr _, v => by cases v <;> rfl
  | .ptr _, v => by cases v <;> rfl
  | .mut .., v => by cases v <;> rfl
  | .map _, v => by cases v <;> rfl
  | .yld _, v => by cases v <;> rfl
  | .mo .., v => by cases v <;> rfl
  | .func .., v => by cases v <;> rfl
  | .nilFunc, v => by cases v <;> rfl
  | .nilIface, v => by cases v <;> rfl
  | .iface .., v => by cases v <;> rfl
  | .agg cs, v => by cases v <;> simp [disown, owns, ownsL_disown cs]
  | .tuple cs, v => by cases v <;> simp [disown, owns, ownsL_disown cs]
theorem ownsL_disown : ∀ (cs : List AV) (vs : List Value), ownsL (disownL cs) vs = []
  | [], vs => by cases vs <;> rfl
  | c :: cs, vs => by
    cases vs with
    | nil => rfl
    | cons v vs => simp [disownL, ownsL, owns_disown c, ownsL_disown cs]
end

theorem VRs.length {g : Gh} {w : World} : ∀ {cs : List AV} {vs : List Value}, VRs g w cs vs → cs.length = vs.length
  | [], vs, h => by simp only [VRs] at h; subst h; rfl
  | c :: cs, vs, h => by
    simp only [VRs] at h
    obtain ⟨v, us, rfl, _, h3⟩ := h
    simp [VRs.length h3]
theorem VRs.get {g : Gh} {w : World} : ∀ {cs : List AV} {vs : List Value}, VRs g w cs vs → ∀ (i : Nat) (c : AV), cs[i]? = some c → ∃ v, vs[i]? = some v ∧ VR g w c v
  | [], _, _, i, c, hc => by simp at hc
  | c :: cs, vs, h, i, c', hc => by
    simp only [VRs] at h
    obtain ⟨v, us, rfl, h2, h3⟩ := h
    cases i with
    | zero => simp at hc; subst hc; exact ⟨v, rfl, h2⟩
    | succ i => simp at hc; simpa using VRs.get h3 i c' hc
theorem VRs.append {g : Gh} {w : World} : ∀ {cs : List AV} {vs : List Value} {ds : List AV} {us : List Value}, VRs g w cs vs → VRs g w ds us → VRs g w (cs ++ ds) (vs ++ us)
  | [], vs, ds, us, h, k => by simp only [VRs] at h; subst h; simpa using k
  | c :: cs, vs, ds, us, h, k => by
    simp only [VRs] at h
    obtain ⟨v, us', rfl, h2, h3⟩ := h
    simp only [List.cons_append, VRs]
    exact ⟨v, us' ++ us, rfl, h2, VRs.append h3 k⟩
theorem VRs.drop {g : Gh} {w : World} : ∀ {cs : List AV} {vs : List Value} (n : Nat), VRs g w cs vs → VRs g w (cs.drop n) (vs.drop n)
  | [], vs, n, h => by simp only [VRs] at h; subst h; simp [VRs]
  | c :: cs, vs, n, h => by
    cases n with
    | zero => simpa using h
    | succ n =>
      simp only [VRs] at h
      obtain ⟨v, us', rfl, h2, h3⟩ := h
      simpa using VRs.drop n h3
theorem VRs.take {g : Gh} {w : World} : ∀ {cs : List AV} {vs : List Value} (n : Nat), VRs g w cs vs → VRs g w (cs.take n) (vs.take n)
  | [], vs, n, h => by simp only [VRs] at h; subst h; simp [VRs]
  | c :: cs, vs, n, h => by
    cases n with
    | zero => simp [VRs]
    | succ n =>
      simp only [VRs] at h
      obtain ⟨v, us', rfl, h2, h3⟩ := h
      simp only [List.take_succ_cons, VRs]
      exact ⟨v, _, rfl, h2, VRs.take n h3⟩

/-- Less of one's own may be told. -/
theorem Core.weaken {F : Nat → Prop} {g : Gh} {H : List AObj} {os os' : List Rec} {w : World} (h : Core F g H os w) (h1 : ∀ r, r ∈ os' → r ∈ os) (h2 : ∀ b, oc b os' ≤ oc b os) : Core F g H os' w :=
  ⟨h.heap, fun r hr => h.own r (hr.imp (h1 r) id), fun b => by have := h.dist b; have := h2 b; omega, fun b hb => by have := h.notF b hb; have := h2 b; omega, h.objlen, h.lenlt, h.flt, h.good⟩

/-- The slots' rows of one's own, from slot t on. -/
def slotOwns (s : St) : Nat → List Value → List Rec
  | _, [] => []
  | t, v :: vs => owns (s.get t) v ++ slotOwns s (t + 1) vs

end Go.Sh

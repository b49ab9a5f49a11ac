/- What the heap holds of packages' variables, for the functions that read them (strconv). -/
import Derived.Deep.LoopGhost
import Derived.Below
import Derived.Lib.ItoaNum
namespace Go.Sh
/-- The powers of ten; two errors. -/
def Good (bs : Array Obj) : Prop := (∃ u v t f, bs[1]? = some (.cells #[.iface u v] t f)) ∧ (∃ u v t f, bs[2]? = some (.cells #[.iface u v] t f)) ∧ ∃ t f, bs[3]? = some (.cells (Lib.pow10Tab.map fun z => Value.int .u64 z).toArray t f)
theorem good_cells {bs : Array Obj} {w : World} {b : Nat} {o : Obj} (h : ∀ b, b < bs.size → w.heap[b]? = bs[b]?) (hb : bs[b]? = some o) : w.heap[b]? = some o := by
  rw [h b (Array.getElem?_eq_some_iff.1 hb).1, hb]
theorem good_syntax {w : World} (h : ∃ bs : Array Obj, Good bs ∧ ∀ b, b < bs.size → w.heap[b]? = bs[b]?) : ∃ u v, w.cell? ⟨1, 0, none⟩ = some (.iface u v) := by
  obtain ⟨bs, ⟨⟨u, v, t, f, h1⟩, _, _⟩, h2⟩ := h
  exact ⟨u, v, by simp [World.cell?, good_cells h2 h1]⟩
theorem good_range {w : World} (h : ∃ bs : Array Obj, Good bs ∧ ∀ b, b < bs.size → w.heap[b]? = bs[b]?) : ∃ u v, w.cell? ⟨2, 0, none⟩ = some (.iface u v) := by
  obtain ⟨bs, ⟨_, ⟨u, v, t, f, h1⟩, _⟩, h2⟩ := h
  exact ⟨u, v, by simp [World.cell?, good_cells h2 h1]⟩
theorem good_pow {w : World} (h : ∃ bs : Array Obj, Good bs ∧ ∀ b, b < bs.size → w.heap[b]? = bs[b]?) : ∃ t f, w.heap[3]? = some (.cells (Lib.pow10Tab.map fun z => Value.int .u64 z).toArray t f) := by
  obtain ⟨bs, ⟨_, _, ⟨t, f, h1⟩⟩, h2⟩ := h
  exact ⟨t, f, good_cells h2 h1⟩
end Go.Sh

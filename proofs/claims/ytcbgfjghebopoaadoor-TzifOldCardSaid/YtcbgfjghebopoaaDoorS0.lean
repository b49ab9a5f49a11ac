/- What the heap holds of packages' variables, for the functions that read them (internal/bytealg.MaxLen). -/
import Derived.Deep.LoopGhost
import Derived.Below
namespace Go.Sh
/-- A number. -/
def Good (bs : Array Obj) : Prop := ∃ m t f, bs[1]? = some (.cells #[.int .i64 m] t f)
theorem good_max {w : World} (h : ∃ bs : Array Obj, Good bs ∧ ∀ b, b < bs.size → w.heap[b]? = bs[b]?) : ∃ m, w.cell? ⟨1, 0, none⟩ = some (.int .i64 m) := by
  obtain ⟨bs, ⟨m, t, f, h1⟩, h2⟩ := h
  have h3 : w.heap[1]? = some (.cells #[.int .i64 m] t f) := by rw [h2 1 (Array.getElem?_eq_some_iff.1 h1).1, h1]
  exact ⟨m, by simp [World.cell?, h3]⟩
end Go.Sh

/- Chapter 06: what the world's shape says of the heap: the library's variable holds a number. -/
import Derived.Test.YtcbgfjghebopoaaDoorS0
import Derived.Test.YtcbgfjghebopoaaDoorRows
import Derived.Shelf.Vars
import Derived.KernelRfl
namespace Go.Proofs.YtcbgfjghebopoaaDoor.H
open Go.Sh Go
theorem shape_good {W : World} (h : W.ShapedOpen Tryd.prog) : Good W.heap := by
  have h0 : ((begin Tryd.prog (fun _ _ => 0) default).world.heap[1]?).bind Obj.row? = some (#[.int .i64 0], 3) := by kernel_rfl
  obtain ⟨m, hm⟩ := cell_of_shapedOpen_int (g := 1) (t := 3) (zero := #[.int .i64 0]) (k := .i64) h (of_decide_eq_true (by kernel_rfl)) h0 rfl (by kernel_rfl) (by kernel_rfl) (by kernel_rfl)
  obtain ⟨cs, h1, h2, _⟩ := h.1 1 _ _ (of_decide_eq_true (by kernel_rfl)) h0
  obtain ⟨c, rfl⟩ : ∃ c, cs = #[c] := by
    obtain ⟨l⟩ := cs
    match l, h2 with
    | [c], _ => exact ⟨c, rfl⟩
  have : c = .int .i64 m := by simpa [World.cell?, h1] using hm
  subst this
  exact ⟨m, _, _, h1⟩
end Go.Proofs.YtcbgfjghebopoaaDoor.H

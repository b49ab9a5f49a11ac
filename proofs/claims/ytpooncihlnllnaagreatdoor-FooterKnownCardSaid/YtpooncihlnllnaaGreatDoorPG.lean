/- What a row's listed variables say of the heap. -/
import Derived.Lib.LaidTab
import Derived.MakeChecks
namespace Go.Sh
open Go

theorem laidVars_at {P : Program} {w : World} : ∀ {l : List (String × DataW Unit)} {ps : List MemPlace}, DataW.LaidVars P w l ps → ∀ {n : String} {d : DataW Unit}, (n, d) ∈ l →
    ∃ g t cs fuel p, P.globalNamed n = some g ∧ (P.globals[g]?).map (·.type) = some t ∧ w.var? P n = some cs ∧ DataW.trod (fun _ => ()) P w 0 (fun _ => true) false fuel t cs.toList = some (d, p)
  | [], _, _, n, d, hx => by cases hx
  | (m, e) :: r, _, h, n, d, hx => by
    obtain ⟨g, t, cs, fuel, p, q, h1, h2, h3, h4, h5, _⟩ := h
    rcases List.mem_cons.1 hx with hx | hx
    · injection hx with hn hd
      subst hn hd
      exact ⟨g, t, cs, fuel, p, h1, h2, h3, h4⟩
    · exact laidVars_at h5 hx
theorem var_block {P : Program} {w : World} {n : String} {g : Nat} {cs : Array Value} (hg : P.globalNamed n = some g) (h : w.var? P n = some cs) : ∃ t f, w.heap[g]? = some (.cells cs t f) := by
  simp only [World.var?, hg, Option.bind_some] at h
  split at h
  · rename_i cs' t f e
    injection h with h
    subst h
    exact ⟨t, f, e⟩
  · cases h
/-- A variable that holds an interface's value. -/
theorem laid_iface {P : Program} {w : World} {l : List (String × DataW Unit)} (h : laidMet P l w) {n s : String} {d : DataW Unit} (hx : (n, DataW.iface s d) ∈ l) {g : Nat} {t : TypeId} {ms : Array (String × TypeId)}
    (hg : P.globalNamed n = some g) (hty : (P.globals[g]?).map (·.type) = some t) (ht : P.underlying t = some (.interface ms)) : ∃ u v t' f, w.heap[g]? = some (.cells #[.iface u v] t' f) := by
  obtain ⟨ps, hl, _⟩ := h
  obtain ⟨g', t', cs, fuel, p, h1, h2, h3, h4⟩ := laidVars_at hl hx
  obtain rfl := Option.some.inj (hg.symm.trans h1)
  obtain rfl := Option.some.inj (hty.symm.trans h2)
  obtain ⟨u, f, hb⟩ := var_block hg h3
  obtain ⟨cs⟩ := cs
  cases fuel with
  | zero => simp [DataW.trod] at h4
  | succ fuel =>
    simp only [DataW.trod, ht] at h4
    match cs, h4, hb with
    | [.iface x v], _, hb => exact ⟨x, v, u, f, hb⟩
    | [.nilIface], h4, _ => simp at h4
    | [], h4, _ => simp at h4
    | a :: b :: r, h4, _ => simp at h4
    | [.bool _], h4, _ => simp at h4
    | [.int _ _], h4, _ => simp at h4
/-- A table of integers. -/
theorem laid_table {P : Program} {w : World} {l : List (String × DataW Unit)} (h : laidMet P l w) {n : String} {k : IntKind} {zs : List Int} (hx : (n, Lib.tabData k zs) ∈ l) {g m : Nat} {t e : TypeId}
    (hg : P.globalNamed n = some g) (hty : (P.globals[g]?).map (·.type) = some t) (ht : P.underlying t = some (.array m e)) (he : P.underlying e = some (.int k)) (hce : P.cellsOf e = 1) (hct : P.cellsOf t = m) :
    ∃ t' f, w.heap[g]? = some (.cells (zs.map fun z => Value.int k z).toArray t' f) := by
  obtain ⟨ps, hl, _⟩ := h
  obtain ⟨g', t', cs, fuel, p, h1, h2, h3, h4⟩ := laidVars_at hl hx
  obtain rfl := Option.some.inj (hg.symm.trans h1)
  obtain rfl := Option.some.inj (hty.symm.trans h2)
  obtain ⟨u, f, hb⟩ := var_block hg h3
  have := Lib.cells_of_tab ht he hce hct h4
  refine ⟨u, f, ?_⟩
  rw [hb, ← this]
end Go.Sh

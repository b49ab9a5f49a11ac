/- From a function's shadow to a call at a row's entry. -/
import Derived.Test.YtcbgfjghebopoaaDoorSW
namespace Go.Sh
open Go.RowKit
set_option linter.unusedSimpArgs false
set_option linter.unusedVariables false

theorem entry {P : Program} {f : FuncId} {sp : FSpec} (h : FSound P f sp) {args : List AV} {v0 : AV} {H0 : List AObj} (W : World) (vs : List Value) (g : Gh) (hg : g.obj = []) (hvs : VRs g W args vs) (hown : ownsL args vs = []) (hlen : ∀ b, 0 < g.len b → b < W.heap.size) (hgood : Good W.heap)
    (hsp : sp args [] (AV × List AObj) (fun v H => some (v, H)) = some (v0, H0)) : Calls P f vs.toArray W fun e W' => ∃ v', e = .returned v' ∧ (∃ g', VR g' W' v0 v') ∧ Below W.heap.size W W' := by
  obtain ⟨v, H', h1, h2⟩ := h.law args [] _ _ _ hsp
  injection h1 with h1
  injection h1 with h1 h3
  subst h1
  subst h3
  have hc : Core (fun b => b < W.heap.size) g [] (ownsL args vs) W := by
    rw [hown]
    refine ⟨by simp [ObjsR, hg], fun r hr => by simp [ownsH] at hr, fun b => by simp [oc_nil, ownsH, lives], fun b _ => by simp [oc_nil, ownsH, lives], fun b hb => by simp [lives] at hb, hlen, fun b hb => hb, W.heap, hgood, fun b hb => ⟨hb, rfl⟩⟩
  refine (h2 _ g vs W hvs hc).mono ?_
  rintro e W' ⟨v', g', rfl, k1, k2, k3, k4⟩
  exact ⟨v', rfl, ⟨g', k1⟩, ⟨k4.os, k4.tape, k4.output, k4.size, fun k hk => (k4.frame k hk).1⟩⟩
/-- A law function that tells true. -/
theorem entry_true {P : Program} {f : FuncId} {sp : FSpec} (h : FSound P f sp) {args : List AV} {H0 : List AObj} (W : World) (vs : List Value) (g : Gh) (hg : g.obj = []) (hvs : VRs g W args vs) (hown : ownsL args vs = []) (hlen : ∀ b, 0 < g.len b → b < W.heap.size) (hgood : Good W.heap)
    (hsp : sp args [] (AV × List AObj) (fun v H => some (v, H)) = some (.bool true, H0)) : Calls P f vs.toArray W fun e W' => e = .returned (.bool true) ∧ Below W.heap.size W W' := by
  refine (entry h W vs g hg hvs hown hlen hgood hsp).mono ?_
  rintro e W' ⟨v', rfl, ⟨g', hv⟩, hb⟩
  simp only [VR] at hv
  subst hv
  exact ⟨rfl, hb⟩
def noG : Gh := ⟨[], fun _ => 0⟩
theorem vr_of_str (g : Gh) (w : World) (s : ByteArray) : VR g w (.str s.data.toList) (.string s) := by simp only [VR]; exact ⟨s, rfl, rfl⟩
end Go.Sh

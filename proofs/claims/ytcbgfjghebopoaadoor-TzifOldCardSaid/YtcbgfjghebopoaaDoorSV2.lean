/- More functions of the library, from their contracts: strings.Split. -/
import Derived.Test.YtcbgfjghebopoaaDoorSV
import Derived.Lib.Split
namespace Go.Sh
open Go.RowKit
set_option linter.unusedSimpArgs false
set_option linter.unusedVariables false

theorem splitK_len (sep : Str) : ∀ (fuel : Nat) (s : Str), (Lib.splitK sep 0 (Lib.countFrom sep fuel s) s).length = Lib.countFrom sep fuel s + 1
  | 0, s => by simp [Lib.countFrom, Lib.splitK]
  | fuel + 1, s => by
    simp only [Lib.countFrom]
    by_cases h : (Lib.index s sep == -1) = true
    · rw [if_pos h]; simp [Lib.splitK]
    · rw [if_neg h, Nat.add_comm 1, Lib.splitK, if_neg h, List.length_cons]
      have := splitK_len sep fuel (s.drop ((Lib.index s sep).toNat + sep.length))
      rw [this]
theorem split_len (s sep : Str) : (Lib.split s sep).length = Lib.count s sep + 1 := splitK_len sep _ s
/-- strings.Split: a row that may turn. -/
def splitM_sp (t : TypeId) : FSpec := fun vs hs R K => match vs, hs with
  | [.str a0, .str a1], [] => cond (decide (a0.length < 4294967281) && !a1.isEmpty) (K (.mut 0 0 (Lib.split a0 a1).length 1) [.rowS t (Lib.split a0 a1)]) none
  | _, _ => none
theorem splitM_sound {P : Program} {f : FuncId} {t : TypeId} (he : ∀ (args : Array Value) (w : World), (callFunc f args).run P w = .ok (.enter f args) w)
    (hmany : ∀ (s sep : ByteArray) (w : World), (∃ bs : Array Obj, Good bs ∧ ∀ b, b < bs.size → w.heap[b]? = bs[b]?) → s.size < 4294967281 → 1 ≤ sep.size → Calls P f #[.string s, .string sep] w fun e w' =>
      e = .returned (.slice (some ⟨w.heap.size, 0, none⟩) (Lib.countB s sep + 1) (Lib.countB s sep + 1)) ∧ w' = w.alloc (.cells ((Lib.splitB sep 0 (Lib.countB s sep) s).map Value.string).toArray t)) : FSound P f (splitM_sp t) := by
  refine ⟨he, fun args H R k r hr => ?_⟩
  unfold splitM_sp at hr
  split at hr
  case h_2 => cases hr
  rename_i a0 a1
  obtain ⟨h1, h2⟩ | ⟨_, h2⟩ := cond_some hr
  case inr => cases h2
  simp only [Bool.and_eq_true, decide_eq_true_eq, Bool.not_eq_true', List.isEmpty_eq_false_iff] at h1
  refine ⟨_, _, h2, fun F g vs w hvs hc => ?_⟩
  obtain ⟨v0, _, rfl, h5, hvs⟩ := vrs_cons hvs
  obtain ⟨v1, _, rfl, h6, hvs⟩ := vrs_cons hvs
  obtain rfl := vrs_nil hvs
  obtain ⟨s, rfl, rfl⟩ := vr_str h5
  obtain ⟨sep, rfl, rfl⟩ := vr_str h6
  obtain ⟨bs, hb1, hb2⟩ := hc.good
  have hs : s.size < 4294967281 := by have := h1.1; simpa using this
  have hp : 1 ≤ sep.size := by have := List.length_pos_iff.2 h1.2; simp at this; omega
  refine (hmany s sep w ⟨bs, hb1, fun b hb => (hb2 b hb).2⟩ hs hp).mono ?_
  rintro e w' ⟨rfl, rfl⟩
  have hg0 : g.obj = [] := by
    have := hc.heap
    simp only [ObjsR] at this
    exact this
  have hc' := hc.weaken (os' := []) (fun r hr => by simp at hr) (fun b => by simp [oc_nil])
  have hbel : Below w.heap.size w (w.alloc (.cells ((Lib.splitB sep 0 (Lib.countB s sep) s).map Value.string).toArray t)) := ⟨rfl, rfl, rfl, by rw [World.size_alloc]; omega, fun k hk => heap_alloc_old w _ k hk⟩
  have hcount : Lib.countB s sep = Lib.count s.data.toList sep.data.toList := by first | rfl | simp [Lib.countB, Lib.toList_data] 
  have hdata := Lib.splitB_data sep 0 (Lib.countB s sep) s
  have hsplit : (Lib.splitB sep 0 (Lib.countB s sep) s).map (·.data.toList) = Lib.split s.data.toList sep.data.toList := by
    rw [hdata, hcount]; rfl
  have hrow : (Lib.split s.data.toList sep.data.toList).map (fun s => Value.string ⟨s.toArray⟩) = (Lib.splitB sep 0 (Lib.countB s sep) s).map Value.string := by
    rw [← hsplit, List.map_map]
    exact List.map_congr_left fun x _ => by simp
  obtain ⟨n1, n2⟩ := hc'.newAt (gb := w.heap.size) (ob := .rowS t (Lib.split s.data.toList sep.data.toList)) hbel (Nat.le_refl _) rfl (fun g' => by
    simp only [ObjR]
    exact ⟨_, [], heap_alloc_new w _, by rw [hrow]; simp⟩)
  refine ⟨_, ⟨g.obj ++ [w.heap.size], g.len⟩, rfl, ?_, ⟨_, rfl⟩, n2, n1⟩
  simp only [VR]
  refine ⟨_, w.heap.size, Lib.countB s sep + 1, ?_, fun _ => rfl, ?_, by rw [hg0]; rfl⟩
  · rw [split_len, hcount]
  · rw [split_len, hcount]; exact Nat.le_refl _
end Go.Sh

/- What operands and slots do to the shadow's relation. -/
import Derived.Test.YtcbgfjghebopoaaDoorSB
namespace Go.Sh
open Go.RowKit

/-! ### slots -/
theorem get_cons (d : Nat) (v : AV) (l : List (Nat × AV)) (H : List AObj) (t : Nat) : (⟨(d, v) :: l, H⟩ : St).get t = if d = t then v else (⟨l, H⟩ : St).get t := by
  show getS ((d, v) :: l) t = _
  by_cases h : d = t
  · subst h; simp [getS]
  · rw [if_neg h]
    show _ = getS l t
    have : (d == t) = false := beq_eq_false_iff_ne.2 h
    simp only [getS, this, cond_false]
theorem get_heap (l : List (Nat × AV)) (H H' : List AObj) (t : Nat) : (⟨l, H⟩ : St).get t = (⟨l, H'⟩ : St).get t := rfl

theorem slotOwns_congr {s s' : St} : ∀ (l : List Value) (i : Nat), (∀ t, i ≤ t → s.get t = s'.get t) → slotOwns s i l = slotOwns s' i l
  | [], _, _ => rfl
  | v :: l, i, h => by
    simp only [slotOwns]
    rw [h i (Nat.le_refl _), slotOwns_congr l (i + 1) (fun t ht => h t (by omega))]

theorem slotOwns_put {s s' : St} {d : Nat} (h : ∀ t, t ≠ d → s'.get t = s.get t) {v' : Value} : ∀ (l : List Value) (i : Nat), i ≤ d →
    (∀ b, oc b (slotOwns s' i (l.set (d - i) v')) ≤ oc b (owns (s'.get d) v') + oc b (slotOwns s i l)) ∧
    (∀ r, r ∈ slotOwns s' i (l.set (d - i) v') → r ∈ owns (s'.get d) v' ∨ r ∈ slotOwns s i l)
  | [], _, _ => ⟨fun b => by simp [slotOwns, oc_nil], fun r hr => by simp [slotOwns] at hr⟩
  | u :: l, i, hi => by
    by_cases e : i = d
    · subst e
      have hc : slotOwns s' (i + 1) l = slotOwns s (i + 1) l := slotOwns_congr l (i + 1) (fun t ht => h t (by omega))
      simp only [Nat.sub_self, List.set_cons_zero, slotOwns, hc]
      exact ⟨fun b => by simp only [oc_append]; omega, fun r hr => by simp only [List.mem_append] at hr ⊢; rcases hr with hr | hr <;> simp [hr]⟩
    · obtain ⟨k, hk⟩ : ∃ k, d - i = k + 1 := ⟨d - i - 1, by omega⟩
      have hk' : k = d - (i + 1) := by omega
      obtain ⟨h1, h2⟩ := slotOwns_put (s := s) (s' := s') h (v' := v') l (i + 1) (by omega)
      rw [hk]
      simp only [List.set_cons_succ, slotOwns, hk', h i (by omega)]
      exact ⟨fun b => by have := h1 b; simp only [oc_append]; omega, fun r hr => by
        simp only [List.mem_append] at hr ⊢
        rcases hr with hr | hr
        · simp [hr]
        · rcases h2 r hr with h3 | h3 <;> simp [h3]⟩

theorem owns_undef (a : AV) : owns a undef = [] := by
  show owns a (.tuple #[]) = []
  cases a with
  | ints o k l => cases o <;> rfl
  | strs o l => cases o <;> rfl
  | sl o sz els => cases o <;> rfl
  | tuple cs => cases cs <;> rfl
  | _ => rfl
/-- A slot that is given up. -/
theorem slotOwns_give {s s' : St} {d : Nat} (h : ∀ t, t ≠ d → s'.get t = s.get t) (hd : ∀ v, owns (s'.get d) v = []) : ∀ (l : List Value) (i : Nat), i ≤ d →
    (∀ b, oc b (owns (s.get d) (l.getD (d - i) undef)) + oc b (slotOwns s' i l) ≤ oc b (slotOwns s i l)) ∧
    (∀ r, r ∈ owns (s.get d) (l.getD (d - i) undef) ∨ r ∈ slotOwns s' i l → r ∈ slotOwns s i l)
  | [], i, _ => by
    have hu : owns (s.get d) undef = [] := owns_undef _
    exact ⟨fun b => by simp [slotOwns, oc_nil, hu], fun r hr => by simp [slotOwns, hu] at hr⟩
  | u :: l, i, hi => by
    by_cases e : i = d
    · subst e
      have hc : slotOwns s' (i + 1) l = slotOwns s (i + 1) l := slotOwns_congr l (i + 1) (fun t ht => h t (by omega))
      simp only [Nat.sub_self, List.getD_cons_zero, slotOwns, hc, hd, List.nil_append]
      exact ⟨fun b => by simp only [oc_append]; omega, fun r hr => by simpa [List.mem_append] using hr⟩
    · obtain ⟨k, hk⟩ : ∃ k, d - i = k + 1 := ⟨d - i - 1, by omega⟩
      have hk' : k = d - (i + 1) := by omega
      obtain ⟨h1, h2⟩ := slotOwns_give (s := s) (s' := s') h hd l (i + 1) (by omega)
      rw [hk]
      simp only [List.getD_cons_succ, slotOwns, hk', h i (by omega)]
      exact ⟨fun b => by have := h1 b; simp only [oc_append]; omega, fun r hr => by
        simp only [List.mem_append] at hr ⊢
        rcases hr with hr | hr | hr
        · exact .inr (h2 r (.inl hr))
        · exact .inl hr
        · exact .inr (h2 r (.inr hr))⟩

/-- A function's own numbers: the program, how many objects came in, how many slots it has. -/
structure Cx where
  P : Program
  nb : Nat
  nt : Nat

/-- The relation with rows of one's own in hand. -/
structure SimX (F : Nat → Prop) (nt : Nat) (g : Gh) (s : St) (a : Act) (w : World) (os : List Rec) : Prop where
  size : a.tmps.size = nt
  slots : ∀ t, VR g w (s.get t) (a.tmps.getD t undef)
  core : Core F g s.heap (os ++ slotOwns s 0 a.tmps.toList) w
theorem SimX.less {F : Nat → Prop} {nt : Nat} {g : Gh} {s : St} {a : Act} {w : World} {os os' : List Rec} (h : SimX F nt g s a w os) (h1 : ∀ r, r ∈ os' → r ∈ os) (h2 : ∀ b, oc b os' ≤ oc b os) : SimX F nt g s a w os' :=
  ⟨h.size, h.slots, h.core.weaken (fun r hr => by rw [List.mem_append] at hr ⊢; exact hr.imp (h1 r) id) (fun b => by have := h2 b; simp only [oc_append]; omega)⟩
theorem SimX.none {F : Nat → Prop} {nt : Nat} {g : Gh} {s : St} {a : Act} {w : World} {os : List Rec} (h : SimX F nt g s a w os) : SimX F nt g s a w [] := h.less (fun r hr => by simp at hr) (fun b => by simp [oc_nil])

/-- What an operation tells is put into a slot. -/
theorem SimX.put {F : Nat → Prop} {nt : Nat} {g : Gh} {s : St} {a : Act} {w : World} {v : AV} {v' : Value} (h : SimX F nt g s a w (owns v v')) (hv : VR g w v v') (d : Option Nat) (hlt : ∀ t, d = some t → t < nt) : SimX F nt g (s.put d v) (a.put d v') w [] := by
  cases d with
  | none => exact h.none
  | some d =>
    have hg : ∀ t, (s.put (some d) v).get t = if d = t then v else s.get t := fun t => get_cons d v s.slots s.heap t
    refine ⟨by simp [Act.put, h.size], fun t => ?_, ?_⟩
    · rw [hg]
      simp only [Act.put]
      rw [Array.getD_eq_getD_getElem?, Array.getElem?_setIfInBounds]
      by_cases e : d = t
      · subst e
        rw [if_pos rfl, if_pos rfl]
        rw [if_pos (by have := hlt d rfl; have := h.size; omega)]; exact hv
      · rw [if_neg e, if_neg e]
        have hs := h.slots t
        rwa [Array.getD_eq_getD_getElem?] at hs
    · have hp := slotOwns_put (s := s) (s' := s.put (some d) v) (d := d) (fun t ht => by rw [hg, if_neg (fun e => ht e.symm)]) (v' := v') a.tmps.toList 0 (Nat.zero_le _)
      have hl : (a.put (some d) v').tmps.toList = a.tmps.toList.set (d - 0) v' := by simp [Act.put]
      have hd : (s.put (some d) v).get d = v := by rw [hg, if_pos rfl]
      rw [hd] at hp
      rw [hl]
      exact h.core.weaken (fun r hr => by simpa [List.mem_append] using hp.2 r (by simpa using hr)) (fun b => by have := hp.1 b; simpa [oc_append] using this)
end Go.Sh

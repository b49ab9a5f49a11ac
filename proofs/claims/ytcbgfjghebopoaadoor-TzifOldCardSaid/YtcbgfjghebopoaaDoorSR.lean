/- Regions whose order is drawn: whatever order is picked, the shadow is the text order's. -/
import Derived.Test.YtcbgfjghebopoaaDoorSQ
import Derived.Orders
import Derived.OrdersIn
namespace Go.Sh
open Go.RowKit
set_option linter.unusedSimpArgs false
set_option linter.unusedVariables false
variable {c : Cx}

/-! ### rows set aside -/
theorem Core.setAside {F : Nat → Prop} {g : Gh} {H : List AObj} {os1 os2 : List Rec} {w : World} (h : Core F g H (os1 ++ os2) w) : Core (fun b => F b ∨ 0 < oc b os2) g H os1 w := by
  refine ⟨h.heap, fun r hr => h.own r (hr.imp (fun h => List.mem_append_left _ h) id), fun b => ?_, fun b hF => ?_, h.objlen, h.lenlt, fun b hF => ?_, h.good.step (fun _ h => .inl h) fun _ _ => rfl⟩
  · have := h.dist b
    simp only [oc_append] at this
    omega
  · rcases hF with hF | hF
    · have := h.notF b hF
      simp only [oc_append] at this
      omega
    · have := h.dist b
      simp only [oc_append] at this
      omega
  · rcases hF with hF | hF
    · exact h.flt b hF
    · obtain ⟨r, hr, hr2⟩ := List.countP_pos_iff.1 hF
      have := (h.own r (.inl (List.mem_append_right _ hr))).lt
      simp at hr2
      omega
theorem Core.takeBack {F : Nat → Prop} {g g' : Gh} {H H' : List AObj} {os1 os2 os1' : List Rec} {w w' : World} (h : Core F g H (os1 ++ os2) w) (hc : Core (fun b => F b ∨ 0 < oc b os2) g' H' os1' w') (hst : Step (fun b => F b ∨ 0 < oc b os2) g w g' w') : Core F g' H' (os1' ++ os2) w' := by
  refine ⟨hc.heap, fun r hr => ?_, fun b => ?_, fun b hF => ?_, hc.objlen, hc.lenlt, fun b hF => hc.flt b (.inl hF), h.good.step (fun _ h => h) fun b hF => (hst.frame b (.inl hF)).1⟩
  · rcases hr with hr | hr
    · rcases List.mem_append.1 hr with hr | hr
      · exact hc.own r (.inl hr)
      · obtain ⟨o1, o2, arr, t, o3, o4⟩ := h.own r (.inl (List.mem_append_right _ hr))
        obtain ⟨h1, h2⟩ := hst.frame r.1 (.inr (oc_mem hr))
        exact ⟨by rw [← o1]; exact h2, o2, arr, t, o3.of_heap h1, o4⟩
    · exact hc.own r (.inr hr)
  · have h1 := h.dist b
    have h2 := hc.dist b
    simp only [oc_append] at h1 ⊢
    rcases Nat.eq_zero_or_pos (oc b os2) with e | e
    · omega
    · have := hc.notF b (.inr e)
      omega
  · have h1 := h.notF b hF
    have h2 := hc.notF b (.inl hF)
    simp only [oc_append] at h1 ⊢
    omega

/-- Some slots, and the others. -/
theorem slotOwns_part {S L M : St} {rd : List Nat} (hL : ∀ t, L.get t = if t ∈ rd then S.get t else .undef) (hM : ∀ t, M.get t = if t ∈ rd then .undef else S.get t) : ∀ (l : List Value) (i : Nat),
    (∀ b, oc b (slotOwns S i l) = oc b (slotOwns L i l) + oc b (slotOwns M i l)) ∧ ∀ r, r ∈ slotOwns S i l ↔ r ∈ slotOwns L i l ∨ r ∈ slotOwns M i l
  | [], i => by simp [slotOwns, oc_nil]
  | v :: l, i => by
    obtain ⟨h1, h2⟩ := slotOwns_part hL hM l (i + 1)
    simp only [slotOwns, hL i, hM i]
    by_cases e : i ∈ rd
    · simp only [e, if_true, owns_undefA, List.nil_append]
      exact ⟨fun b => by have := h1 b; simp only [oc_append]; omega, fun r => by simp only [List.mem_append]; rw [h2 r]; simp [or_assoc]⟩
    · simp only [e, if_false, owns_undefA, List.nil_append]
      exact ⟨fun b => by have := h1 b; simp only [oc_append]; omega, fun r => by
        simp only [List.mem_append]; rw [h2 r]
        constructor
        · rintro (h | h | h) <;> simp [h]
        · rintro (h | h | h) <;> simp [h]⟩
theorem slotOwns_upd {S' L' M : St} {ch : List Nat} {d : Option Nat} (hS : ∀ t, S'.get t = if t ∈ ch then L'.get t else M.get t) (hd : ∀ t, d = some t → t ∈ ch) (v' : Value) : ∀ (l l' : List Value) (i : Nat), (∀ j, (d ≠ some (i + j)) → l'[j]? = l[j]?) → l'.length = l.length →
    (∀ b, oc b (slotOwns S' i l') ≤ oc b (slotOwns L' i l') + oc b (slotOwns M i l)) ∧ ∀ r, r ∈ slotOwns S' i l' → r ∈ slotOwns L' i l' ∨ r ∈ slotOwns M i l
  | [], l', i, _, hl => by
    have : l' = [] := List.length_eq_zero_iff.1 (by simpa using hl)
    subst this
    simp [slotOwns, oc_nil]
  | v :: l, [], i, _, hl => by simp at hl
  | v :: l, u :: l', i, hj, hl => by
    obtain ⟨h1, h2⟩ := slotOwns_upd hS hd v' l l' (i + 1) (fun j h => by have := hj (j + 1) (by rw [show i + (j + 1) = i + 1 + j by omega]; exact h); simpa using this) (by simpa using hl)
    simp only [slotOwns, hS i]
    by_cases e : i ∈ ch
    · simp only [e, if_true]
      exact ⟨fun b => by have := h1 b; simp only [oc_append]; omega, fun r hr => by
        simp only [List.mem_append] at hr ⊢
        rcases hr with h | h
        · simp [h]
        · rcases h2 r h with h | h <;> simp [h]⟩
    · simp only [e, if_false]
      have hu : u = v := by
        have := hj 0 (fun he => e (hd i (by simpa using he)))
        simpa using this
      subst hu
      exact ⟨fun b => by have := h1 b; simp only [oc_append]; omega, fun r hr => by
        simp only [List.mem_append] at hr ⊢
        rcases hr with h | h
        · simp [h]
        · rcases h2 r h with h | h <;> simp [h]⟩

/-! ### one operation, shown a part -/
def wp1 (c : Cx) (ro : Option Nat) (dn : Nat) (ops : Array Oper) (o : Oper) (a : Act) (w : World) (K : Act → World → Prop) (Q : Exit → Act → World → Prop) : Prop :=
  if Region.wanted o (yielded ops a.tmps) then o.wpIn (fw ro) dn c.P a w K Q else K (a.put o.dst undef) w
def OneSem (c : Cx) (ops : Array Oper) (o : Oper) (L L' : St) : Prop :=
  ∀ (F : Nat → Prop) (g : Gh) (a : Act) (w : World) (B : List Nat), B.length = B.length → B <+: g.obj → SimX F c.nt g L a w [] → ∀ (ro : Option Nat) (dn : Nat) (K : Act → World → Prop) (Q : Exit → Act → World → Prop),
    (∀ v' g' w', B <+: g'.obj → SimX F c.nt g' L' (a.put o.dst v') w' [] → Step F g w g' w' → K (a.put o.dst v') w') → wp1 c ro dn ops o a w K Q
theorem runOne_ok {ops : Array Oper} {R : Type} {k : St → Option R} {r : R} {p : AOper} {o : Oper} {s : St} (hd : fitD c.nt p.dst o.dst = true) (hg : fitG ops p.guard o.guard = true) (hok : OpOK c p.op o) (h : runOps [p] s R k = some r) : ∃ s', k s' = some r ∧ OneSem c ops o s s' := by
  obtain ⟨hdst, hdlt⟩ := fitD_ok hd
  have go : ∀ (s0 : St), (p.op.run s0 R fun v s' => k (s'.put p.dst v)) = some r → ∃ s', k s' = some r ∧
      ∀ (F : Nat → Prop) (g : Gh) (a : Act) (w : World) (B : List Nat), B.length = B.length → B <+: g.obj → SimX F c.nt g s0 a w [] → ∀ (ro : Option Nat) (dn : Nat) (K : Act → World → Prop) (Q : Exit → Act → World → Prop),
        (∀ v' g' w', B <+: g'.obj → SimX F c.nt g' s' (a.put o.dst v') w' [] → Step F g w g' w' → K (a.put o.dst v') w') → o.wpIn (fw ro) dn c.P a w K Q := by
    intro s0 h0
    obtain ⟨v, s1, h1, h2⟩ := hok s0 R _ r h0
    refine ⟨_, h1, fun F g a w B hB hp hs ro dn K Q hK => h2 F g a w B hB hp hs ro dn _ Q ?_⟩
    intro v' g' w' hv hp' hs' hst
    have hput := SimX.put hs' hv p.dst hdlt
    rw [hdst] at hput
    exact hK v' g' w' hp' (by rw [hdst]; exact hput) hst
  have skip : ∀ (s0 : St), k (s0.put p.dst (.tuple [])) = some r → ∃ s', k s' = some r ∧
      ∀ (F : Nat → Prop) (g : Gh) (a : Act) (w : World) (B : List Nat), B.length = B.length → B <+: g.obj → SimX F c.nt g s0 a w [] → ∀ (K : Act → World → Prop),
        (∀ v' g' w', B <+: g'.obj → SimX F c.nt g' s' (a.put o.dst v') w' [] → Step F g w g' w' → K (a.put o.dst v') w') → K (a.put o.dst undef) w := by
    intro s0 h0
    refine ⟨_, h0, fun F g a w B hB hp hs K hK => ?_⟩
    have hput := put_skip hs p.dst hdlt
    rw [hdst] at hput
    exact hK undef g w hp (by rw [hdst]; exact hput) (Step.refl _ _ _)
  simp only [runOps] at h
  cases hgp : p.guard with
  | none =>
    rw [hgp] at h hg
    have hgo : o.guard = none := by
      cases ho : o.guard with
      | none => rfl
      | some x => rw [ho] at hg; simp [fitG] at hg
    obtain ⟨s', h1, h2⟩ := go s h
    refine ⟨s', h1, fun F g a w B hB hp hs ro dn K Q hK => ?_⟩
    simp only [wp1, Region.wanted, hgo, if_true]
    exact h2 F g a w B hB hp hs ro dn K Q hK
  | some tw =>
    obtain ⟨t, want⟩ := tw
    rw [hgp] at h hg
    obtain ⟨j, hgo, hj⟩ : ∃ j, o.guard = some (j, want) ∧ (ops[j]?).bind (·.dst) = some t := by
      cases ho : o.guard with
      | none => rw [ho] at hg; simp [fitG] at hg
      | some x =>
        obtain ⟨j, w'⟩ := x
        rw [ho] at hg
        simp only [fitG, Bool.and_eq_true, decide_eq_true_eq, beq_iff_eq] at hg
        obtain ⟨h1, rfl⟩ := hg
        exact ⟨j, rfl, h1⟩
    simp only at h
    split at h
    · rename_i b hb
      have know : ∀ (b' : Bool), b = b' → ∀ (F : Nat → Prop) (g : Gh) (a : Act) (w : World), SimX F c.nt g s a w [] → SimX F c.nt g (s.know t b') a w [] ∧ yielded ops a.tmps j = some b' := by
        intro b' hbb F g a w hs
        have hsl := hs.slots t
        rw [hb] at hsl
        simp only [VR] at hsl
        rw [hbb] at hsl
        exact ⟨know_sim (x := .tmp t) (y := .tmp t) hs (by simp [fitX]) hsl, yielded_bool hj hsl⟩
      have yes : ∀ (b' : Bool), b = b' → b' = want → (p.op.run (s.know t b') R fun v s' => k (s'.put p.dst v)) = some r → ∃ s', k s' = some r ∧ OneSem c ops o s s' := by
        intro b' hbb hw h0
        obtain ⟨s', h1, h2⟩ := go _ h0
        refine ⟨s', h1, fun F g a w B hB hp hs ro dn K Q hK => ?_⟩
        obtain ⟨k1, k2⟩ := know b' hbb F g a w hs
        simp only [wp1, Region.wanted, hgo, k2, hw, beq_self_eq_true, if_true]
        exact h2 F g a w B hB hp k1 ro dn K Q hK
      have no : ∀ (b' : Bool), b = b' → b' ≠ want → k ((s.know t b').put p.dst (.tuple [])) = some r → ∃ s', k s' = some r ∧ OneSem c ops o s s' := by
        intro b' hbb hw h0
        obtain ⟨s', h1, h2⟩ := skip _ h0
        refine ⟨s', h1, fun F g a w B hB hp hs ro dn K Q hK => ?_⟩
        obtain ⟨k1, k2⟩ := know b' hbb F g a w hs
        have hne : (some b' == some want) = false := by simpa using hw
        simp only [wp1, Region.wanted, hgo, k2, hne, Bool.false_eq_true, if_false]
        exact h2 F g a w B hB hp k1 K hK
      cases want with
      | true =>
        simp only at h
        cases b with
        | true => exact yes true rfl rfl h
        | false => exact no false rfl (by simp) h
      | false =>
        simp only at h
        cases b with
        | true => exact no true rfl (by simp) h
        | false => exact yes false rfl rfl h
    · rename_i hb
      obtain ⟨s', h3, h4⟩ := skip _ h
      refine ⟨s', h3, fun F g a w B hB hp hs ro dn K Q hK => ?_⟩
      have hsl := hs.slots t
      rw [hb] at hsl
      simp only [VR] at hsl
      obtain ⟨vs, h5, h6⟩ := hsl
      simp only [VRs] at h6
      have h7 : vs = #[] := by cases vs; simpa using h6
      rw [h7] at h5
      have hy := yielded_none hj h5
      simp only [wp1, Region.wanted, hgo, hy]
      exact h4 F g a w B hB hp hs K hK
    · exact absurd h (by simp)
end Go.Sh

/- A function's results as objects: rows of one's own, of plain cells, that nothing else knows. -/
import Derived.Test.YtcbgfjghebopoaaDoorS1
import Derived.Test.YtcbgfjghebopoaaDoorSV
namespace Go.Sh
open Go.RowKit
set_option linter.unusedSimpArgs false
set_option linter.unusedVariables false

/-- A row of one's own as an object. -/
def mutK (id : Nat) (a : AV) {R : Type} (k : AV → AObj → Option R) : Option R := match a with
  | .sl true n els => cond (plainR n els) (k (.mut id 0 els.length n) (.rowC n els)) none
  | _ => none
/-- What stays as it is. -/
def keepK (a : AV) {R : Type} (k : Option R) : Option R := match a with
  | .sl true n els => cond (plainR n els) k none
  | .ints true _ _ => k
  | .strs true _ => k
  | .int _ _ => k
  | .bool _ => k
  | .str _ => k
  | _ => none
def mutRsK : List Bool → Nat → List AV → {R : Type} → (List AV → List AObj → Option R) → Option R
  | [], _, [], _, k => k [] []
  | true :: fs, id, r :: rs, _, k => mutK id r fun a o => mutRsK fs (id + 1) rs fun az os => k (a :: az) (o :: os)
  | false :: fs, id, r :: rs, _, k => keepK r (mutRsK fs id rs fun az os => k (r :: az) os)
  | _, _, _, _, _ => none
/-- A function's shadow, some results of which come as objects. -/
def mutRes (fs : List Bool) (sp : FSpec) : FSpec := fun vs hs R K => match hs with
  | [] => sp (disownL vs) [] R fun v H => match H with
    | [] => match v with
      | .tuple rs => mutRsK fs 0 rs fun az os => K (.tuple az) os
      | v => mutRsK fs 0 [v] fun az os => match az with
        | [a] => K a os
        | _ => none
    | _ :: _ => none
  | _ :: _ => none

/-- It is told by the numbers of its own blocks alone. -/
def simp1 : AV → Bool
  | .sl true n els => plainR n els
  | .ints true _ _ | .strs true _ | .int _ _ | .bool _ | .str _ => true
  | _ => false
theorem keepK_some {a : AV} {R : Type} {k : Option R} {r : R} (h : keepK a k = some r) : simp1 a = true ∧ k = some r := by
  unfold keepK at h
  split at h
  · obtain ⟨h1, h2⟩ | ⟨_, h2⟩ := cond_some h
    · exact ⟨h1, h2⟩
    · cases h2
  all_goals first | exact ⟨rfl, h⟩ | cases h
theorem mutK_some {id : Nat} {a : AV} {R : Type} {k : AV → AObj → Option R} {r : R} (h : mutK id a k = some r) : ∃ n els, a = .sl true n els ∧ plainR n els = true ∧ k (.mut id 0 els.length n) (.rowC n els) = some r := by
  unfold mutK at h
  split at h
  · obtain ⟨h1, h2⟩ | ⟨_, h2⟩ := cond_some h
    · exact ⟨_, _, rfl, h1, h2⟩
    · cases h2
  · cases h
theorem mutRs_def : ∀ (fs : List Bool) (id : Nat) (rs : List AV), (∃ az os, ∀ {R : Type} (k : List AV → List AObj → Option R), mutRsK fs id rs k = k az os) ∨ ∀ {R : Type} (k : List AV → List AObj → Option R), mutRsK fs id rs k = none
  | [], _, [] => .inl ⟨[], [], fun k => rfl⟩
  | [], _, _ :: _ => .inr fun k => by simp [mutRsK]
  | true :: _, _, [] => .inr fun k => by simp [mutRsK]
  | false :: _, _, [] => .inr fun k => by simp [mutRsK]
  | true :: fs, id, x :: rs => by
    have hx : (∃ a o, ∀ {R : Type} (k : AV → AObj → Option R), mutK id x k = k a o) ∨ ∀ {R : Type} (k : AV → AObj → Option R), mutK id x k = none := by
      unfold mutK
      split
      · rename_i n els
        cases plainR n els with
        | true => exact .inl ⟨_, _, fun k => rfl⟩
        | false => exact .inr fun k => rfl
      · exact .inr fun k => rfl
    rcases hx with ⟨a, o, hx⟩ | hx
    · rcases mutRs_def fs (id + 1) rs with ⟨az, os, h⟩ | h
      · exact .inl ⟨a :: az, o :: os, fun k => by rw [mutRsK, hx, h]⟩
      · exact .inr fun k => by rw [mutRsK, hx, h]
    · exact .inr fun k => by rw [mutRsK, hx]
  | false :: fs, id, x :: rs => by
    have hx : (∀ {R : Type} (k : Option R), keepK x k = k) ∨ ∀ {R : Type} (k : Option R), keepK x k = none := by
      unfold keepK
      split
      · rename_i n els
        cases plainR n els with
        | true => exact .inl fun k => rfl
        | false => exact .inr fun k => rfl
      all_goals first | exact .inl fun k => rfl | exact .inr fun k => rfl
    rcases hx with hx | hx
    · rcases mutRs_def fs id rs with ⟨az, os, h⟩ | h
      · exact .inl ⟨x :: az, os, fun k => by rw [mutRsK, hx, h]⟩
      · exact .inr fun k => by rw [mutRsK, hx, h]
    · exact .inr fun k => by rw [mutRsK, hx]
theorem plainR_of {n : Nat} {els : List (List AV)} (h : plainR n els = true) : ∀ e ∈ els, e.length = n ∧ e.all AV.plain = true := fun e he => by
  have := List.all_eq_true.1 h e he
  rw [Bool.and_eq_true] at this
  exact ⟨Nat.eq_of_beq_eq_true this.1, this.2⟩
theorem mutRs_simp : ∀ (fs : List Bool) (id : Nat) (rs : List AV) {R : Type} {k : List AV → List AObj → Option R} {r : R}, mutRsK fs id rs k = some r → ∀ a ∈ rs, simp1 a = true
  | [], _, [], _, _, _, _, a, ha => by cases ha
  | [], _, _ :: _, _, _, _, h, _, _ => by simp [mutRsK] at h
  | true :: _, _, [], _, _, _, _, a, ha => by cases ha
  | false :: _, _, [], _, _, _, _, a, ha => by cases ha
  | true :: fs, id, x :: rs, R, k, r, h, a, ha => by
    rw [mutRsK] at h
    obtain ⟨n, els, rfl, h1, h2⟩ := mutK_some h
    rcases List.mem_cons.1 ha with rfl | ha
    · exact h1
    · exact mutRs_simp fs (id + 1) rs h2 a ha
  | false :: fs, id, x :: rs, R, k, r, h, a, ha => by
    rw [mutRsK] at h
    obtain ⟨h1, h2⟩ := keepK_some h
    rcases List.mem_cons.1 ha with rfl | ha
    · exact h1
    · exact mutRs_simp fs id rs h2 a ha

theorem Row.at {g g2 : Gh} {w : World} {a : Option Addr} {n c sz : Nat} {vs : List Value} (h : Row g w true a n c sz vs) (hl : ∀ ad, a = some ad → g2.len ad.block = g.len ad.block) : Row g2 w true a n c sz vs :=
  ⟨h.1, h.2.1, h.2.2.1, fun hp => let ⟨ad, h1, h2⟩ := h.2.2.2.1 hp; ⟨ad, h1, h2.1, by rw [hl ad h1]; exact h2.2.1, h2.2.2⟩, h.2.2.2.2⟩
/-- Such a value stands as long as its own blocks are told of alike. -/
theorem VR.simp1 {g g2 : Gh} {w : World} {a : AV} {v : Value} (ha : simp1 a = true) (h : VR g w a v) (hl : ∀ r ∈ owns a v, g2.len r.1 = g.len r.1) : VR g2 w a v := by
  cases a with
  | int k n => exact h
  | bool b => exact h
  | str s => exact h
  | ints own k l =>
    cases own with
    | false => simp [Go.Sh.simp1] at ha
    | true =>
      simp only [VR] at h ⊢
      obtain ⟨ao, n, c, rfl, h2⟩ := h
      exact ⟨ao, n, c, rfl, h2.at fun ad he => by subst he; exact hl (ad.block, l.length, c) (by simp [owns])⟩
  | strs own l =>
    cases own with
    | false => simp [Go.Sh.simp1] at ha
    | true =>
      simp only [VR] at h ⊢
      obtain ⟨ao, n, c, rfl, h2⟩ := h
      exact ⟨ao, n, c, rfl, h2.at fun ad he => by subst he; exact hl (ad.block, l.length, c) (by simp [owns])⟩
  | sl own n els =>
    cases own with
    | false => simp [Go.Sh.simp1] at ha
    | true =>
      simp only [VR] at h ⊢
      obtain ⟨ao, m, c, vs, rfl, h2, h3, h4, h5⟩ := h
      exact ⟨ao, m, c, vs, rfl, h2.at fun ad he => by subst he; exact hl (ad.block, els.length * n, c * n) (by simp [owns]), h3, h4, VRss.plain' (fun e he => (plainR_of ha e he).2) _ h5⟩
  | _ => simp [Go.Sh.simp1] at ha
theorem VRs.simp1 {g g2 : Gh} {w : World} : ∀ {l : List AV} {vs : List Value}, (∀ a ∈ l, Go.Sh.simp1 a = true) → VRs g w l vs → (∀ r ∈ ownsL l vs, g2.len r.1 = g.len r.1) → VRs g2 w l vs
  | [], vs, _, h, _ => h
  | a :: l, vs, ha, h, hl => by
    simp only [VRs] at h ⊢
    obtain ⟨v, us, rfl, h1, h2⟩ := h
    refine ⟨v, us, rfl, VR.simp1 (ha a (by simp)) h1 (fun r hr => hl r (by simp [ownsL, hr])), VRs.simp1 (fun a h => ha a (by simp [h])) h2 (fun r hr => hl r (by simp [ownsL, hr]))⟩

theorem rowsC_move {g g2 : Gh} {w : World} : ∀ {H : List AObj} {bs : List Nat}, (∀ o ∈ H, ∃ n els, o = .rowC n els) → ObjsR g w H bs → ObjsR g2 w H bs
  | [], bs, _, h => h
  | o :: H, bs, ho, h => by
    simp only [ObjsR] at h ⊢
    obtain ⟨b, cs, rfl, h1, h2⟩ := h
    refine ⟨b, cs, rfl, ?_, rowsC_move (fun o h => ho o (by simp [h])) h2⟩
    obtain ⟨n, els, rfl⟩ := ho o (by simp)
    simp only [ObjR] at h1 ⊢
    rcases h1 with h1 | ⟨h1, arr, t, vs, rest, h5, h6, h7⟩
    · exact .inl h1
    · exact .inr ⟨h1, arr, t, vs, rest, h5, h6, VRss.plain' (fun e he => (h1 e he).2) _ h7⟩
theorem rowsC_owns {w : World} : ∀ {H : List AObj} {bs : List Nat}, (∀ o ∈ H, ∃ n els, o = .rowC n els) → ownsH w H bs = []
  | [], bs, _ => by cases bs <;> rfl
  | o :: H, [], _ => rfl
  | o :: H, b :: bs, ho => by
    obtain ⟨n, els, rfl⟩ := ho o (by simp)
    rw [ownsH, rowsC_owns (fun o h => ho o (by simp [h]))]
    rfl
/-- A row of one's own becomes an object: it is told of no more as it was. -/
theorem Core.thaw {F : Nat → Prop} {g : Gh} {H : List AObj} {os : List Rec} {w : World} {b n c sz : Nat} {els : List (List AV)} {vs : List Value} (h : Core F g H ((b, n, c) :: os) w) (hH : ∀ o ∈ H, ∃ n els, o = .rowC n els)
    (hpl : ∀ e ∈ els, e.length = sz ∧ e.all AV.plain = true) (hvs : VRss g w els vs) (hrd : Reads g w ⟨b, 0, none⟩ vs) : Core F ⟨g.obj ++ [b], fun k => if k = b then 0 else g.len k⟩ (H ++ [.rowC sz els]) os w := by
  obtain ⟨o1, o2, arr, t, o3, o4⟩ := h.own (b, n, c) (.inl (by simp))
  simp only at o1 o2 o3 o4
  have hown0 := rowsC_owns (w := w) (bs := g.obj) hH
  have hd := h.dist
  simp only [hown0, oc_nil, oc_cons, Nat.add_zero] at hd
  have hnF : ∀ k, F k → k ≠ b ∧ oc k os + (lives H g.obj).count k = 0 := fun k hk => by
    have := h.notF k hk
    simp only [hown0, oc_nil, oc_cons, Nat.add_zero] at this
    refine ⟨fun e => ?_, by omega⟩
    subst e
    simp at this
  have hlv : ∀ k, k ∈ lives H g.obj → k ≠ b := fun k hk e => by
    subst e
    have h1 := hd k
    have := List.count_pos_iff.2 hk
    simp only [if_true] at h1
    omega
  have hob : ObjR ⟨g.obj ++ [b], fun k => if k = b then 0 else g.len k⟩ w b (.rowC sz els) := by
    simp only [ObjR]
    refine .inr ⟨hpl, arr, t, vs, arr.toList.drop vs.length, o3, ?_, VRss.plain' (fun e he => (hpl e he).2) _ hvs⟩
    have hle : vs.length ≤ arr.size := by have := hrd.2.1; simp only at this; omega
    have : arr.toList.take vs.length = vs := by
      apply List.ext_getElem?
      intro j
      by_cases hj : j < vs.length
      · rw [List.getElem?_take, if_pos hj, ← hrd.2.2 j hj]
        rw [o3.cell]; simp
      · rw [List.getElem?_eq_none (by simp; omega), List.getElem?_eq_none (by omega)]
    conv => lhs; rw [← List.take_append_drop vs.length arr.toList, this]
  have hown1 : ownsH w (H ++ [.rowC sz els]) (g.obj ++ [b]) = [] := by rw [ownsH_append (g := g) h.heap.length, hown0]; rfl
  refine ⟨(rowsC_move hH h.heap).append hob, fun r hr => ?_, fun k => ?_, fun k hk => ?_, fun k hk => ?_, fun k hk => ?_, h.flt, h.good⟩
  · simp only [hown1] at hr
    have hr : r ∈ os := by simpa using hr
    obtain ⟨p1, p2, p3⟩ := h.own r (.inl (by simp [hr]))
    have hne : r.1 ≠ b := fun e => by
      have h1 := hd b
      have h2 := oc_mem hr
      rw [e] at h2
      simp only [if_true] at h1
      omega
    exact ⟨by simp [hne, p1], p2, p3⟩
  · simp only [hown1, oc_nil]
    rw [lives_append h.heap.length, List.count_append]
    have h1 := hd k
    have h2 := lives_one b k (.rowC sz els)
    by_cases e : k = b
    · subst e
      simp only [if_true] at h1
      omega
    · have := h2.2 e
      omega
  · simp only [hown1, oc_nil]
    rw [lives_append h.heap.length, List.count_append]
    obtain ⟨h1, h2⟩ := hnF k hk
    have := (lives_one b k (.rowC sz els)).2 h1
    omega
  · simp only at hk ⊢
    rw [lives_append h.heap.length] at hk
    rcases List.mem_append.1 hk with hk | hk
    · rw [if_neg (hlv k hk)]
      exact h.objlen k hk
    · have : k = b := by
        revert hk
        cases (AObj.rowC sz els).dead <;> simp
      rw [if_pos this]
  · simp only at hk
    by_cases e : k = b
    · rw [if_pos e] at hk; omega
    · rw [if_neg e] at hk
      exact h.lenlt k hk

theorem mut_rs {F : Nat → Prop} {w : World} : ∀ (fs : List Bool) (rs : List AV) (vs : List Value) (id : Nat) {R : Type} {k : List AV → List AObj → Option R} {r : R} (os0 : List Rec) (g : Gh) (H : List AObj), mutRsK fs id rs k = some r → H.length = id → (∀ o ∈ H, ∃ n els, o = .rowC n els) → VRs g w rs vs → Core F g H (ownsL rs vs ++ os0) w →
    ∃ az os g2, k az os = some r ∧ VRs g2 w az vs ∧ g.obj <+: g2.obj ∧ Core F g2 (H ++ os) (ownsL az vs ++ os0) w ∧ ∀ b, g2.len b = g.len b ∨ 0 < oc b (ownsL rs vs)
  | [], [], vs, id, R, k, r, os0, g, H, h, _, _, hv, hc => by
    rw [mutRsK] at h
    exact ⟨[], [], g, h, hv, List.prefix_refl _, by rw [List.append_nil]; exact hc, fun b => .inl rfl⟩
  | [], _ :: _, _, _, _, _, _, _, _, _, h, _, _, _, _ => by simp [mutRsK] at h
  | true :: _, [], _, _, _, _, _, _, _, _, h, _, _, _, _ => by simp [mutRsK] at h
  | false :: _, [], _, _, _, _, _, _, _, _, h, _, _, _, _ => by simp [mutRsK] at h
  | false :: fs, x :: rs, vs, id, R, k, r, os0, g, H, h, hl, hH, hv, hc => by
    rw [mutRsK] at h
    obtain ⟨h1, h2⟩ := keepK_some h
    simp only [VRs] at hv
    obtain ⟨v, us, rfl, hv1, hv2⟩ := hv
    have hc' : Core F g H (ownsL rs us ++ (owns x v ++ os0)) w := hc.weaken (fun r hr => by simp only [ownsL, List.mem_append] at hr ⊢; rcases hr with hr | hr | hr <;> simp [hr]) (fun b => by simp only [ownsL, oc_append]; omega)
    obtain ⟨az, os, g2, k1, k2, k3, k4, k5⟩ := mut_rs fs rs us id (owns x v ++ os0) g H h2 hl hH hv2 hc'
    have hx : VR g2 w x v := hv1.simp1 h1 fun q hq => by
      rcases k5 q.1 with e | e
      · exact e
      · have h3 := hc.dist q.1
        have h4 := oc_mem hq
        simp only [ownsL, oc_append] at h3
        omega
    refine ⟨x :: az, os, g2, k1, by simp only [VRs]; exact ⟨v, us, rfl, hx, k2⟩, k3, k4.weaken (fun r hr => by simp only [ownsL, List.mem_append] at hr ⊢; rcases hr with (hr | hr) | hr <;> simp [hr]) (fun b => by simp only [ownsL, oc_append]; omega), fun b => ?_⟩
    rcases k5 b with e | e
    · exact .inl e
    · exact .inr (by simp only [ownsL, oc_append]; omega)
  | true :: fs, x :: rs, vs, id, R, k, r, os0, g, H, h, hl, hH, hv, hc => by
    rw [mutRsK] at h
    obtain ⟨n, els, rfl, hpl, h2⟩ := mutK_some h
    have hpl' := plainR_of hpl
    have hsm := mutRs_simp fs (id + 1) rs h2
    simp only [VRs] at hv
    obtain ⟨v, us, rfl, hv1, hv2⟩ := hv
    simp only [VR] at hv1
    obtain ⟨ao, m, c, ws, rfl, hrow, hm, _, hws⟩ := hv1
    have hH' : ∀ o ∈ H ++ [AObj.rowC n els], ∃ n els, o = .rowC n els := fun o ho => by
      rcases List.mem_append.1 ho with ho | ho
      · exact hH o ho
      · rw [List.mem_singleton] at ho; exact ⟨n, els, ho⟩
    have hlen := hc.heap.length
    -- the object in the new telling
    have main : ∃ g1 bb, g1.obj = g.obj ++ [bb] ∧ Core F g1 (H ++ [.rowC n els]) (ownsL rs us ++ os0) w ∧ (0 < els.length → ao = some ⟨bb, 0, none⟩) ∧ (∀ b, g1.len b = g.len b ∨ ∃ ad, ao = some ad ∧ ad.block = b) := by
      by_cases he : els = []
      · subst he
        have hc2 : Core F g H (ownsL rs us ++ os0) w := hc.weaken (fun r hr => by simp only [ownsL, List.mem_append] at hr ⊢; rcases hr with hr | hr <;> simp [hr]) (fun b => by simp only [ownsL, oc_append]; omega)
        exact ⟨_, 0, rfl, hc2.addDead 0 rfl, fun h => absurd h (by simp), fun b => .inl rfl⟩
      · by_cases hwl : 0 < ws.length
        · obtain ⟨ad, rfl, hrd⟩ := hrow.2.2.2.1 hwl
          obtain ⟨ho, hs⟩ := hrow.2.2.2.2.1 rfl ad rfl
          obtain ⟨bb, of, sp⟩ := ad
          simp only at ho hs
          subst ho hs
          have hc2 : Core F g H ((bb, els.length * n, c * n) :: (ownsL rs us ++ os0)) w := by simpa only [ownsL, owns, List.append_assoc, List.singleton_append, List.cons_append, List.nil_append] using hc
          refine ⟨_, bb, rfl, hc2.thaw hH hpl' hws hrd, fun _ => rfl, fun b => ?_⟩
          by_cases e : b = bb
          · exact .inr ⟨_, rfl, e.symm⟩
          · exact .inl (by simp [e])
        · -- cells of no size
          have hw0 : ws = [] := List.length_eq_zero_iff.1 (by omega)
          have hn0 : n = 0 := by
            have h5 := hws.length (fun e he => (hpl' e he).1)
            have h6 : els.length * n = 0 := by rw [← h5, hw0]; rfl
            rcases Nat.mul_eq_zero.1 h6 with h6 | h6
            · exact absurd (List.length_eq_zero_iff.1 h6) he
            · exact h6
          have hm0 : 0 < m := by rw [← hm]; exact List.length_pos_iff.2 he
          cases ao with
          | none => have := hrow.2.2.2.2.2.1 rfl; omega
          | some ad =>
            obtain ⟨ho, hs⟩ := hrow.2.2.2.2.1 rfl ad rfl
            obtain ⟨bb, of, sp⟩ := ad
            simp only at ho hs
            subst ho hs
            have hc2 : Core F g H ((bb, els.length * n, c * n) :: (ownsL rs us ++ os0)) w := by simpa only [ownsL, owns, List.append_assoc, List.singleton_append, List.cons_append, List.nil_append] using hc
            refine ⟨_, bb, rfl, hc2.thaw hH hpl' hws ⟨rfl, by rw [hw0]; simp, fun j hj => by rw [hw0] at hj; simp at hj⟩, fun _ => rfl, fun b => ?_⟩
            by_cases e : b = bb
            · exact .inr ⟨_, rfl, e.symm⟩
            · exact .inl (by simp [e])
    obtain ⟨g1, bb, m1, m2, m3, m4⟩ := main
    have hown : ∀ ad, ao = some ad → 0 < oc ad.block (owns (.sl true n els) (.slice ao m c)) := fun ad he => by
      subst he
      exact oc_mem (r := (ad.block, els.length * n, c * n)) (by simp [owns])
    have hv2' : VRs g1 w rs us := hv2.simp1 hsm fun q hq => by
      rcases m4 q.1 with e | ⟨ad, e1, e2⟩
      · exact e
      · have h3 := hc.dist q.1
        have h4 := oc_mem hq
        have h5 := hown ad e1
        rw [e2] at h5
        simp only [ownsL, oc_append] at h3
        omega
    obtain ⟨az, os, g2, k1, k2, k3, k4, k5⟩ := mut_rs fs rs us (id + 1) os0 g1 (H ++ [.rowC n els]) h2 (by simp [hl]) hH' hv2' m2
    have hpre : g.obj <+: g2.obj := by
      refine List.IsPrefix.trans ?_ k3
      rw [m1]
      exact List.prefix_append _ _
    refine ⟨.mut id 0 els.length n :: az, .rowC n els :: os, g2, k1, ?_, hpre, ?_, fun b => ?_⟩
    · simp only [VRs]
      refine ⟨_, us, rfl, ?_, k2⟩
      simp only [VR]
      refine ⟨ao, bb, c, by rw [hm], fun h => m3 h, by rw [hm]; exact hrow.2.1, ?_⟩
      obtain ⟨t, ht⟩ := k3
      have hgl : g.obj.length = id := by rw [← hlen, hl]
      rw [← ht, m1, List.append_assoc, List.getElem?_append_right (by omega), hgl, Nat.sub_self]
      rfl
    · rw [List.append_assoc] at k4
      have e1 : ownsL (.mut id 0 els.length n :: az) (.slice ao m c :: us) = ownsL az us := by
        rw [ownsL]
        have : owns (.mut id 0 els.length n) (.slice ao m c) = [] := by cases ao <;> rfl
        rw [this]; rfl
      rw [e1]
      exact k4
    · rcases k5 b with e | e
      · rcases m4 b with e2 | ⟨ad, e1, e2⟩
        · exact .inl (e.trans e2)
        · refine .inr ?_
          have h5 := hown ad e1
          rw [e2] at h5
          simp only [ownsL, oc_append]
          omega
      · exact .inr (by simp only [ownsL, oc_append]; omega)

theorem mutRes_sound {P : Program} {f : FuncId} {sp : FSpec} (fs : List Bool) (h : FSound P f sp) : FSound P f (mutRes fs sp) := by
  refine ⟨h.1, fun args H R k r hr => ?_⟩
  unfold mutRes at hr
  split at hr
  case h_2 => cases hr
  obtain ⟨v, H', h1, h2⟩ := h.law _ _ _ _ _ hr
  split at h1
  case h_2 => cases h1
  have rest : ∀ (fs : List Bool) (rs : List AV) (k : List AV → List AObj → Option (List AV × List AObj)) (r : List AV × List AObj), mutRsK fs 0 rs k = some r → ∀ (F : Nat → Prop) (g : Gh) (us : List Value) (w w' : World), Core F g [] [] w → (∃ g', VRs g' w' rs us ∧ Core (fun b => b < w.heap.size) g' [] (ownsL rs us) w' ∧ Step (fun b => b < w.heap.size) g w g' w') →
      ∃ az os g2, k az os = some r ∧ VRs g2 w' az us ∧ g.obj <+: g2.obj ∧ Core F g2 os (ownsL az us) w' ∧ Step F g w g2 w' := by
    intro fs rs k r hk F g us w w' hc ⟨g', k1, k2, k3⟩
    have hg' : g'.obj = [] := by have := k2.heap; simpa only [ObjsR] using this
    have hg : g.obj = [] := by have := hc.heap; simpa only [ObjsR] using this
    obtain ⟨az, os, g2, e1, e2, e3, e4, e5⟩ := mut_rs fs rs us 0 [] g' [] hk rfl (fun o ho => by cases ho) k1 (by rw [List.append_nil]; exact k2)
    have hnew : ∀ b, b < w.heap.size → g2.len b = g'.len b := fun b hb => by
      rcases e5 b with e | e
      · exact e
      · have := k2.notF b hb
        omega
    have hold : ∀ b, 0 < g.len b → b < w.heap.size := hc.lenlt
    rw [List.nil_append, List.append_nil] at e4
    refine ⟨az, os, g2, e1, e2, by rw [hg]; exact List.nil_prefix, e4.weakF (fun b hb => hc.flt b hb) (hc.good.step (fun _ h => h) fun b hb => (k3.frame b (hc.flt b hb)).1), k3.cell, k3.ty, k3.bsz, fun b => ?_, fun b hb => ⟨(k3.frame b (hc.flt b hb)).1, by rw [hnew b (hc.flt b hb)]; exact (k3.frame b (hc.flt b hb)).2⟩, k3.size, k3.os, k3.tape, k3.output⟩
    rcases Nat.eq_zero_or_pos (g.len b) with e | e
    · omega
    · rw [hnew b (hold b e)]; exact k3.len b
  have pre : ∀ (F : Nat → Prop) (g : Gh) (vs : List Value) (w : World), VRs g w args vs → Core F g [] (ownsL args vs) w → Core F g [] [] w ∧ Calls P f vs.toArray w fun e w' => ∃ v' g', e = .returned v' ∧ VR g' w' v v' ∧ Core (fun b => b < w.heap.size) g' [] (owns v v') w' ∧ Step (fun b => b < w.heap.size) g w g' w' := by
    intro F g vs w hv hc
    have hc0 : Core F g [] [] w := hc.weaken (fun r hr => by cases hr) (fun b => by simp [oc_nil])
    refine ⟨hc0, ?_⟩
    have hg : g.obj = [] := by have := hc.heap; simpa only [ObjsR] using this
    have hc1 : Core (fun b => b < w.heap.size) g [] (ownsL (disownL args) vs) w := by
      rw [ownsL_disown]
      refine ⟨hc0.heap, hc0.own, hc0.dist, fun b _ => by simp [oc_nil, ownsH, lives], hc0.objlen, hc0.lenlt, fun b hb => hb, ?_⟩
      obtain ⟨bs, h1, h2⟩ := hc0.good
      exact ⟨bs, h1, fun b hb => ⟨hc0.flt b (h2 b hb).1, (h2 b hb).2⟩⟩
    refine (h2 (fun b => b < w.heap.size) g vs w (VRs.disown _ _ hv) hc1).mono ?_
    rintro e w' ⟨v', g', rfl, k1, _, k2, k3⟩
    exact ⟨v', g', rfl, k1, k2, k3⟩
  split at h1
  · -- several
    rename_i rs
    rcases mutRs_def fs 0 rs with ⟨az, os, hd⟩ | hd
    · rw [hd] at h1
      refine ⟨_, _, h1, fun F g vs w hv hc => ?_⟩
      obtain ⟨hc0, hcall⟩ := pre F g vs w hv hc
      refine hcall.mono ?_
      rintro e w' ⟨v', g', rfl, k1, k2, k3⟩
      simp only [VR] at k1
      obtain ⟨us, rfl, k1⟩ := k1
      obtain ⟨az', os', g2, e1, e2, e3, e4, e5⟩ := rest fs rs (fun a o => some (a, o)) (az, os) (hd _) F g us.toList w w' hc0 ⟨g', k1, k2, k3⟩
      injection e1 with e1
      injection e1 with e1 e1'
      subst e1; subst e1'
      exact ⟨_, g2, rfl, by simp only [VR]; exact ⟨us, rfl, e2⟩, e3, e4, e5⟩
    · rw [hd] at h1; cases h1
  · rcases mutRs_def fs 0 [v] with ⟨az, os, hd⟩ | hd
    · rw [hd] at h1
      split at h1
      case h_2 => cases h1
      rename_i a
      refine ⟨_, _, h1, fun F g vs w hv hc => ?_⟩
      obtain ⟨hc0, hcall⟩ := pre F g vs w hv hc
      refine hcall.mono ?_
      rintro e w' ⟨v', g', rfl, k1, k2, k3⟩
      obtain ⟨az', os', g2, e1, e2, e3, e4, e5⟩ := rest fs [v] (fun a o => some (a, o)) ([a], os) (hd _) F g [v'] w w' hc0 ⟨g', by simp only [VRs]; exact ⟨v', [], rfl, k1, rfl⟩, by simpa only [ownsL, List.append_nil] using k2, k3⟩
      injection e1 with e1
      injection e1 with e1 e1'
      subst e1; subst e1'
      simp only [VRs] at e2
      obtain ⟨v2, us, e6, e7, e8⟩ := e2
      injection e6 with e6 e9
      subst e6
      exact ⟨v', g2, rfl, e7, e3, by simpa only [ownsL, List.append_nil] using e4, e5⟩
    · rw [hd] at h1; cases h1
end Go.Sh

/- How objects come and turn. -/
import Derived.Test.YtikiibnmhmioiaaDoorSI
namespace Go.Sh
open Go.RowKit
set_option linter.unusedSimpArgs false
set_option linter.unusedVariables false

theorem ObjsR.append {g : Gh} {w : World} : ∀ {H : List AObj} {bs : List Nat} {o : AObj} {b : Nat}, ObjsR g w H bs → ObjR g w b o → ObjsR g w (H ++ [o]) (bs ++ [b])
  | [], bs, o, b, h, k => by simp only [ObjsR] at h; subst h; simp only [List.nil_append, ObjsR]; exact ⟨b, [], rfl, k, rfl⟩
  | x :: H, bs, o, b, h, k => by
    simp only [ObjsR] at h
    obtain ⟨b', cs, rfl, h1, h2⟩ := h
    simp only [List.cons_append, ObjsR]
    exact ⟨b', _, rfl, h1, ObjsR.append h2 k⟩
theorem ownsH_append {g : Gh} {w : World} : ∀ {H : List AObj} {bs : List Nat} {o : AObj} {b : Nat}, H.length = bs.length → ownsH w (H ++ [o]) (bs ++ [b]) = ownsH w H bs ++ ownsO w b o
  | [], bs, o, b, h => by cases bs <;> simp at h; simp [ownsH]
  | x :: H, bs, o, b, h => by
    cases bs with
    | nil => simp at h
    | cons b' bs => simp [ownsH, ownsH_append (g := g) (w := w) (H := H) (bs := bs) (o := o) (b := b) (by simpa using h)]

/-- A new object. -/
theorem Core.newObj {F : Nat → Prop} {g : Gh} {H : List AObj} {os : List Rec} {w w' : World} {cs : List AV} {arr : Array Value} {t : TypeId} (h : Core F g H (ownsL cs arr.toList ++ os) w) (hb : ∀ k, k < w.heap.size → w'.heap[k]? = w.heap[k]?) (hs : w.heap.size < w'.heap.size) (ho : w'.os = w.os) (ht : w'.tape = w.tape) (hout : w'.output = w.output)
    (hnew : w'.heap[w.heap.size]? = some (.cells arr t (0, 0))) (hv : VRs g w cs arr.toList) :
    ∃ g', g'.obj = g.obj ++ [w.heap.size] ∧ Ext g w g' w' ∧ Step F g w g' w' ∧ Core F g' (H ++ [.cells t cs]) os w' := by
  have hlt : ∀ b, b ∈ g.obj → b < w.heap.size := fun b hb => h.heap.lt b hb
  have hz : oc w.heap.size (ownsL cs arr.toList ++ os) + oc w.heap.size (ownsH w H g.obj) + g.obj.count w.heap.size = 0 := by
    have e1 : oc w.heap.size (ownsL cs arr.toList ++ os) = 0 := by
      rcases Nat.eq_zero_or_pos (oc w.heap.size (ownsL cs arr.toList ++ os)) with e | e
      · exact e
      · obtain ⟨r, hr, hr2⟩ := List.countP_pos_iff.1 e
        have := (h.own r (.inl hr)).lt
        simp at hr2
        omega
    have e2 : oc w.heap.size (ownsH w H g.obj) = 0 := by
      rcases Nat.eq_zero_or_pos (oc w.heap.size (ownsH w H g.obj)) with e | e
      · exact e
      · obtain ⟨r, hr, hr2⟩ := List.countP_pos_iff.1 e
        have := (h.own r (.inr hr)).lt
        simp at hr2
        omega
    have e3 : g.obj.count w.heap.size = 0 := List.count_eq_zero.2 (fun hm => by have := hlt _ hm; omega)
    omega
  obtain ⟨e1, e2, e3⟩ := h.grow hb hs ho ht hout 0
  have ext : Ext g w ⟨g.obj ++ [w.heap.size], (g.set w.heap.size 0).len⟩ w' := ⟨e1.cell, e1.ty, e1.len, fun i b hi => by
    have hl := (List.getElem?_eq_some_iff.1 hi).1
    simp only
    rw [List.getElem?_append_left hl]; exact hi⟩
  have ext2 : Ext (g.set w.heap.size 0) w' ⟨g.obj ++ [w.heap.size], (g.set w.heap.size 0).len⟩ w' := ⟨fun _ _ _ => rfl, fun _ _ => rfl, fun _ => Nat.le_refl _, ext.obj⟩
  have hobj := ObjsR.move ext2 H g.obj e3.heap (fun _ _ => rfl)
  have hO : ownsO w' w.heap.size (.cells t cs) = ownsL cs arr.toList := by simp only [ownsO, hnew]
  have hH : ownsH w' (H ++ [.cells t cs]) (g.obj ++ [w.heap.size]) = ownsH w' H g.obj ++ ownsL cs arr.toList := by
    rw [ownsH_append (g := g) h.heap.length, hO]
  have hHw : ownsH w' H (g.set w.heap.size 0).obj = ownsH w H g.obj := (ObjsR.move e1 H g.obj h.heap (fun b hb' => hb b (hlt b hb'))).2
  refine ⟨_, rfl, ext, ⟨e2.cell, e2.ty, e2.len, e2.frame, e2.size, e2.os, e2.tape, e2.output⟩, hobj.1.append ?_, fun r hr => ?_, fun b => ?_, fun b hF => ?_, fun b hb' => ?_, e3.lenlt, e3.flt, e3.good⟩
  · simp only [ObjR]
    exact ⟨arr, hnew, VRs.ext ext _ _ hv⟩
  · rw [hH] at hr
    have : OwnOK (g.set w.heap.size 0) w' r := by
      rcases hr with hr | hr
      · exact e3.own r (.inl (List.mem_append_right _ hr))
      · rcases List.mem_append.1 hr with hr | hr
        · exact e3.own r (.inr hr)
        · exact e3.own r (.inl (List.mem_append_left _ hr))
    exact this
  · simp only
    rw [hH]
    have h1 := e3.dist b
    rw [show (g.set w.heap.size 0).obj = g.obj from rfl] at h1 hHw
    simp only [oc_append, List.count_append] at h1 hz ⊢
    by_cases e : b = w.heap.size
    · subst e
      have : List.count w.heap.size [w.heap.size] = 1 := by simp
      rw [hHw]
      omega
    · have : List.count b [w.heap.size] = 0 := List.count_eq_zero.2 (by simpa using e)
      omega
  · simp only
    rw [hH]
    have h1 := e3.notF b hF
    have h2 := h.flt b hF
    rw [show (g.set w.heap.size 0).obj = g.obj from rfl] at h1
    simp only [oc_append, List.count_append] at h1 ⊢
    have : List.count b [w.heap.size] = 0 := List.count_eq_zero.2 (by simp; omega)
    omega
  · simp only at hb' ⊢
    rcases List.mem_append.1 hb' with hb' | hb'
    · exact e3.objlen b hb'
    · simp at hb'
      subst hb'
      simp [Gh.set]

theorem ObjsR.setObj {g g' : Gh} {w w' : World} (e : Ext g w g' w') {o' : AObj} : ∀ {H : List AObj} {bs : List Nat} {id : Nat} {b : Nat} {o : AObj}, ObjsR g w H bs → H[id]? = some o → bs[id]? = some b → bs.count b ≤ 1 → (∀ k, k ∈ bs → k ≠ b → w'.heap[k]? = w.heap[k]?) → ObjR g' w' b o' → ObjsR g' w' (H.set id o') bs
  | [], _, _, _, _, _, h, _, _, _, _ => by simp at h
  | x :: H, bs, id, b, o, h, hid, hbi, hc, hk, ho => by
    simp only [ObjsR] at h
    obtain ⟨b', cs, rfl, h1, h2⟩ := h
    cases id with
    | zero =>
      simp at hbi
      subst hbi
      have hn : b' ∉ cs := fun hm => by
        rw [List.count_cons_self] at hc
        have := List.count_pos_iff.2 hm
        omega
      simp only [List.set_cons_zero, ObjsR]
      exact ⟨b', cs, rfl, ho, (ObjsR.move e H cs h2 (fun k hm => hk k (by simp [hm]) (fun e => hn (e ▸ hm)))).1⟩
    | succ id =>
      simp at hbi hid
      have hmem : b ∈ cs := List.mem_of_getElem? hbi
      have hne : b' ≠ b := fun e => by
        subst e
        rw [List.count_cons_self] at hc
        have := List.count_pos_iff.2 hmem
        omega
      have hc' : cs.count b ≤ 1 := by
        rw [List.count_cons_of_ne hne] at hc
        exact hc
      simp only [List.set_cons_succ, ObjsR]
      refine ⟨b', cs, rfl, ?_, ObjsR.setObj e h2 hid hbi hc' (fun k hm hne => hk k (by simp [hm]) hne) ho⟩
      have := (ObjsR.move (g := g) (g' := g') (w := w) (w' := w') e [x] [b'] (by simp only [ObjsR]; exact ⟨b', [], rfl, h1, rfl⟩) (fun k hm => by simp at hm; subst hm; exact hk k (by simp) hne)).1
      simp only [ObjsR] at this
      obtain ⟨b2, _, e2, h3, _⟩ := this
      injection e2 with e2 _
      subst e2
      exact h3
theorem ownsH_congr {w w' : World} : ∀ {H : List AObj} {bs : List Nat}, (∀ k, k ∈ bs → w'.heap[k]? = w.heap[k]?) → ownsH w' H bs = ownsH w H bs
  | [], bs, _ => by cases bs <;> rfl
  | x :: H, [], _ => rfl
  | x :: H, b :: bs, h => by
    simp only [ownsH]
    rw [ownsH_congr (H := H) (fun k hk => h k (by simp [hk]))]
    congr 1
    cases x <;> simp only [ownsO, h b (by simp)]
theorem ownsH_set {w w' : World} {o' : AObj} : ∀ {H : List AObj} {bs : List Nat} {id : Nat} {b : Nat} {o : AObj}, H[id]? = some o → bs[id]? = some b → bs.count b ≤ 1 → (∀ k, k ∈ bs → k ≠ b → w'.heap[k]? = w.heap[k]?) →
    (∀ x, oc x (ownsH w' (H.set id o') bs) + oc x (ownsO w b o) = oc x (ownsH w H bs) + oc x (ownsO w' b o')) ∧ (∀ r, r ∈ ownsH w' (H.set id o') bs → r ∈ ownsH w H bs ∨ r ∈ ownsO w' b o') ∧ (∀ r, r ∈ ownsO w b o → r ∈ ownsH w H bs)
  | [], _, _, _, _, h, _, _, _ => by simp at h
  | x :: H, [], _, _, _, _, h, _, _ => by simp at h
  | x :: H, b' :: cs, id, b, o, hid, hbi, hc, hk => by
    cases id with
    | zero =>
      simp at hbi hid
      subst hbi
      subst hid
      have hn : b' ∉ cs := fun hm => by
        rw [List.count_cons_self] at hc
        have := List.count_pos_iff.2 hm
        omega
      have := ownsH_congr (w := w) (w' := w') (H := H) (bs := cs) (fun k hm => hk k (by simp [hm]) (fun e => hn (e ▸ hm)))
      simp only [List.set_cons_zero, ownsH, this]
      exact ⟨fun x => by simp only [oc_append]; omega, fun r hr => by simp only [List.mem_append] at hr ⊢; rcases hr with h | h <;> simp [h], fun r hr => by simp [hr]⟩
    | succ id =>
      simp at hbi hid
      have hmem : b ∈ cs := List.mem_of_getElem? hbi
      have hne : b' ≠ b := fun e => by
        subst e
        rw [List.count_cons_self] at hc
        have := List.count_pos_iff.2 hmem
        omega
      have hc' : cs.count b ≤ 1 := by
        rw [List.count_cons_of_ne hne] at hc
        exact hc
      obtain ⟨h1, h2, h3⟩ := ownsH_set (w := w) (w' := w') (o' := o') hid hbi hc' (fun k hm hne => hk k (by simp [hm]) hne)
      have h4 : ownsO w' b' x = ownsO w b' x := by cases x <;> simp only [ownsO, hk b' (by simp) hne]
      simp only [List.set_cons_succ, ownsH, h4]
      exact ⟨fun y => by have := h1 y; simp only [oc_append]; omega, fun r hr => by
        simp only [List.mem_append] at hr ⊢
        rcases hr with hr | hr
        · simp [hr]
        · rcases h2 r hr with h | h <;> simp [h], fun r hr => by simp [h3 r hr]⟩

/-- An object turns. -/
theorem Core.setObj {F : Nat → Prop} {g : Gh} {H : List AObj} {os os' : List Rec} {w w' : World} {id b : Nat} {t : TypeId} {cs cs' : List AV} {arr arr' : Array Value} (h : Core F g H os w) (hid : H[id]? = some (.cells t cs)) (hbi : g.obj[id]? = some b)
    (hw : w.heap[b]? = some (.cells arr t (0, 0))) (hw' : w'.heap[b]? = some (.cells arr' t (0, 0))) (hb : ∀ k, k ≠ b → w'.heap[k]? = w.heap[k]?) (hs : w'.heap.size = w.heap.size) (ho : w'.os = w.os) (ht : w'.tape = w.tape) (hout : w'.output = w.output)
    (hv : VRs g w cs' arr'.toList) (hcount : ∀ x, oc x os' + oc x (ownsL cs' arr'.toList) ≤ oc x os + oc x (ownsL cs arr.toList)) (hmem : ∀ r, r ∈ os' ∨ r ∈ ownsL cs' arr'.toList → r ∈ os ∨ r ∈ ownsL cs arr.toList) :
    Ext g w g w' ∧ Step F g w g w' ∧ Core F g (H.set id (.cells t cs')) os' w' := by
  have hmb : b ∈ g.obj := List.mem_of_getElem? hbi
  have hl0 := h.objlen b hmb
  have hd := h.dist b
  have hcb := List.count_pos_iff.2 hmb
  have ext : Ext g w g w' := ⟨fun k j hj => cell_of (hb k (fun e => by rw [e, hl0] at hj; omega)) j, fun k hk => tyOf_block (hb k (fun e => by rw [e, hl0] at hk; omega)), fun _ => Nat.le_refl _, fun _ _ h => h⟩
  have hFb : ¬ F b := fun hF => by have := h.notF b hF; omega
  have hO : ownsO w b (.cells t cs) = ownsL cs arr.toList := by simp only [ownsO, hw]
  have hO' : ownsO w' b (.cells t cs') = ownsL cs' arr'.toList := by simp only [ownsO, hw']
  obtain ⟨h1, h2, h3⟩ := ownsH_set (w := w) (w' := w') (o' := .cells t cs') hid hbi (by omega) (fun k _ hne => hb k hne)
  rw [hO'] at h1 h2
  rw [hO] at h1 h3
  refine ⟨ext, ⟨ext.cell, ext.ty, ext.len, fun k hF => ⟨hb k (fun e => hFb (e ▸ hF)), rfl⟩, by omega, ho, ht, hout⟩, ?_, fun r hr => ?_, fun x => ?_, fun x hF => ?_, h.objlen, fun x hx => by have := h.lenlt x hx; omega, fun x hF => by have := h.flt x hF; omega, h.good.step (fun _ h => h) fun k hF => hb k fun e => hFb (e ▸ hF)⟩
  · exact ObjsR.setObj ext h.heap hid hbi (by omega) (fun k _ hne => hb k hne) (by simp only [ObjR]; exact ⟨arr', hw', VRs.ext ext _ _ hv⟩)
  · have hin : r ∈ os ∨ r ∈ ownsH w H g.obj := by
      rcases hr with hr | hr
      · rcases hmem r (.inl hr) with h4 | h4
        · exact .inl h4
        · exact .inr (h3 r h4)
      · rcases h2 r hr with h4 | h4
        · exact .inr h4
        · rcases hmem r (.inr h4) with h5 | h5
          · exact .inl h5
          · exact .inr (h3 r h5)
    have hne : r.1 ≠ b := fun e => by
      rcases hin with h4 | h4
      · have := oc_mem h4; rw [e] at this; omega
      · have := oc_mem h4; rw [e] at this; omega
    obtain ⟨o1, o2, arr0, t0, o3, o4⟩ := h.own r hin
    exact ⟨o1, o2, arr0, t0, by rw [hb _ hne]; exact o3, o4⟩
  · have := h1 x; have := h.dist x; have := hcount x; omega
  · have := h1 x; have := h.notF x hF; have := hcount x; omega

/-- A new object. -/
theorem Core.newObjG {F : Nat → Prop} {g : Gh} {H : List AObj} {os os0 : List Rec} {w w' : World} {ob : AObj} (h : Core F g H (os0 ++ os) w) (hb : ∀ k, k < w.heap.size → w'.heap[k]? = w.heap[k]?) (hs : w.heap.size < w'.heap.size) (ho : w'.os = w.os) (ht : w'.tape = w.tape) (hout : w'.output = w.output)
    (hO : ownsO w' w.heap.size ob = os0) (hR : ∀ g', Ext g w g' w' → ObjR g' w' w.heap.size ob) :
    ∃ g', g'.obj = g.obj ++ [w.heap.size] ∧ Ext g w g' w' ∧ Step F g w g' w' ∧ Core F g' (H ++ [ob]) os w' := by
  have hlt : ∀ b, b ∈ g.obj → b < w.heap.size := fun b hb => h.heap.lt b hb
  have hz : oc w.heap.size (os0 ++ os) + oc w.heap.size (ownsH w H g.obj) + g.obj.count w.heap.size = 0 := by
    have e1 : oc w.heap.size (os0 ++ os) = 0 := by
      rcases Nat.eq_zero_or_pos (oc w.heap.size (os0 ++ os)) with e | e
      · exact e
      · obtain ⟨r, hr, hr2⟩ := List.countP_pos_iff.1 e
        have := (h.own r (.inl hr)).lt
        simp at hr2
        omega
    have e2 : oc w.heap.size (ownsH w H g.obj) = 0 := by
      rcases Nat.eq_zero_or_pos (oc w.heap.size (ownsH w H g.obj)) with e | e
      · exact e
      · obtain ⟨r, hr, hr2⟩ := List.countP_pos_iff.1 e
        have := (h.own r (.inr hr)).lt
        simp at hr2
        omega
    have e3 : g.obj.count w.heap.size = 0 := List.count_eq_zero.2 (fun hm => by have := hlt _ hm; omega)
    omega
  obtain ⟨e1, e2, e3⟩ := h.grow hb hs ho ht hout 0
  have ext : Ext g w ⟨g.obj ++ [w.heap.size], (g.set w.heap.size 0).len⟩ w' := ⟨e1.cell, e1.ty, e1.len, fun i b hi => by
    have hl := (List.getElem?_eq_some_iff.1 hi).1
    simp only
    rw [List.getElem?_append_left hl]; exact hi⟩
  have ext2 : Ext (g.set w.heap.size 0) w' ⟨g.obj ++ [w.heap.size], (g.set w.heap.size 0).len⟩ w' := ⟨fun _ _ _ => rfl, fun _ _ => rfl, fun _ => Nat.le_refl _, ext.obj⟩
  have hobj := ObjsR.move ext2 H g.obj e3.heap (fun _ _ => rfl)
  have hH : ownsH w' (H ++ [ob]) (g.obj ++ [w.heap.size]) = ownsH w' H g.obj ++ os0 := by
    rw [ownsH_append (g := g) h.heap.length, hO]
  have hHw : ownsH w' H (g.set w.heap.size 0).obj = ownsH w H g.obj := (ObjsR.move e1 H g.obj h.heap (fun b hb' => hb b (hlt b hb'))).2
  refine ⟨_, rfl, ext, ⟨e2.cell, e2.ty, e2.len, e2.frame, e2.size, e2.os, e2.tape, e2.output⟩, hobj.1.append ?_, fun r hr => ?_, fun b => ?_, fun b hF => ?_, fun b hb' => ?_, e3.lenlt, e3.flt, e3.good⟩
  · exact hR _ ext
  · rw [hH] at hr
    have : OwnOK (g.set w.heap.size 0) w' r := by
      rcases hr with hr | hr
      · exact e3.own r (.inl (List.mem_append_right _ hr))
      · rcases List.mem_append.1 hr with hr | hr
        · exact e3.own r (.inr hr)
        · exact e3.own r (.inl (List.mem_append_left _ hr))
    exact this
  · simp only
    rw [hH]
    have h1 := e3.dist b
    rw [show (g.set w.heap.size 0).obj = g.obj from rfl] at h1 hHw
    simp only [oc_append, List.count_append] at h1 hz ⊢
    by_cases e : b = w.heap.size
    · subst e
      have : List.count w.heap.size [w.heap.size] = 1 := by simp
      rw [hHw]
      omega
    · have : List.count b [w.heap.size] = 0 := List.count_eq_zero.2 (by simpa using e)
      omega
  · simp only
    rw [hH]
    have h1 := e3.notF b hF
    have h2 := h.flt b hF
    rw [show (g.set w.heap.size 0).obj = g.obj from rfl] at h1
    simp only [oc_append, List.count_append] at h1 ⊢
    have : List.count b [w.heap.size] = 0 := List.count_eq_zero.2 (by simp; omega)
    omega
  · simp only at hb' ⊢
    rcases List.mem_append.1 hb' with hb' | hb'
    · exact e3.objlen b hb'
    · simp at hb'
      subst hb'
      simp [Gh.set]

/-- An object turns. -/
theorem Core.setObjG {F : Nat → Prop} {g : Gh} {H : List AObj} {os os' os0 os1 : List Rec} {w w' : World} {id b : Nat} {ob ob' : AObj} (h : Core F g H os w) (hid : H[id]? = some ob) (hbi : g.obj[id]? = some b)
    (hb : ∀ k, k ≠ b → w'.heap[k]? = w.heap[k]?) (hs : w'.heap.size = w.heap.size) (ho : w'.os = w.os) (ht : w'.tape = w.tape) (hout : w'.output = w.output)
    (hO : ownsO w b ob = os0) (hO' : ownsO w' b ob' = os1) (hR : Ext g w g w' → ObjR g w' b ob') (hcount : ∀ x, oc x os' + oc x (os1) ≤ oc x os + oc x (os0)) (hmem : ∀ r, r ∈ os' ∨ r ∈ os1 → r ∈ os ∨ r ∈ os0) :
    Ext g w g w' ∧ Step F g w g w' ∧ Core F g (H.set id ob') os' w' := by
  have hmb : b ∈ g.obj := List.mem_of_getElem? hbi
  have hl0 := h.objlen b hmb
  have hd := h.dist b
  have hcb := List.count_pos_iff.2 hmb
  have ext : Ext g w g w' := ⟨fun k j hj => cell_of (hb k (fun e => by rw [e, hl0] at hj; omega)) j, fun k hk => tyOf_block (hb k (fun e => by rw [e, hl0] at hk; omega)), fun _ => Nat.le_refl _, fun _ _ h => h⟩
  have hFb : ¬ F b := fun hF => by have := h.notF b hF; omega
  obtain ⟨h1, h2, h3⟩ := ownsH_set (w := w) (w' := w') (o' := ob') hid hbi (by omega) (fun k _ hne => hb k hne)
  rw [hO'] at h1 h2
  rw [hO] at h1 h3
  refine ⟨ext, ⟨ext.cell, ext.ty, ext.len, fun k hF => ⟨hb k (fun e => hFb (e ▸ hF)), rfl⟩, by omega, ho, ht, hout⟩, ?_, fun r hr => ?_, fun x => ?_, fun x hF => ?_, h.objlen, fun x hx => by have := h.lenlt x hx; omega, fun x hF => by have := h.flt x hF; omega, h.good.step (fun _ h => h) fun k hF => hb k fun e => hFb (e ▸ hF)⟩
  · exact ObjsR.setObj ext h.heap hid hbi (by omega) (fun k _ hne => hb k hne) (hR ext)
  · have hin : r ∈ os ∨ r ∈ ownsH w H g.obj := by
      rcases hr with hr | hr
      · rcases hmem r (.inl hr) with h4 | h4
        · exact .inl h4
        · exact .inr (h3 r h4)
      · rcases h2 r hr with h4 | h4
        · exact .inr h4
        · rcases hmem r (.inr h4) with h5 | h5
          · exact .inl h5
          · exact .inr (h3 r h5)
    have hne : r.1 ≠ b := fun e => by
      rcases hin with h4 | h4
      · have := oc_mem h4; rw [e] at this; omega
      · have := oc_mem h4; rw [e] at this; omega
    obtain ⟨o1, o2, arr0, t0, o3, o4⟩ := h.own r hin
    exact ⟨o1, o2, arr0, t0, by rw [hb _ hne]; exact o3, o4⟩
  · have := h1 x; have := h.dist x; have := hcount x; omega
  · have := h1 x; have := h.notF x hF; have := hcount x; omega

end Go.Sh

/- How objects come and turn. -/
import Derived.Test.YtcbgfjghebopoaaDoorSI
namespace Go.Sh
open Go.RowKit
set_option linter.unusedSimpArgs false
set_option linter.unusedVariables false

theorem lives_one (n b : Nat) (o : AObj) : (bif o.dead then [] else [n]).count b ≤ 1 ∧ (b ≠ n → (bif o.dead then [] else [n]).count b = 0) := by
  cases o.dead with
  | true => exact ⟨by simp, fun _ => by simp⟩
  | false =>
    refine ⟨?_, fun h => List.count_eq_zero.2 (by simpa using h)⟩
    rw [cond_false]
    have := List.count_le_length (a := b) (l := [n])
    simpa using this
theorem lives_count_le (o : AObj) (H : List AObj) (b : Nat) (bs : List Nat) (x : Nat) : (lives H bs).count x ≤ (lives (o :: H) (b :: bs)).count x := by
  rw [lives]
  cases o.dead with
  | true => exact Nat.le_refl _
  | false => rw [cond_false]; exact List.count_le_count_cons
theorem lives_ne {o : AObj} {H : List AObj} {b : Nat} {bs : List Nat} {x : Nat} (h : (lives (o :: H) (b :: bs)).count x ≤ 1) (hm : x ∈ lives H bs) (hd : o.dead = false) : b ≠ x := fun e => by
  subst e
  rw [lives, hd, cond_false, List.count_cons_self] at h
  have := List.count_pos_iff.2 hm
  omega
theorem lives_set {o o' : AObj} (hd : o.dead = false) : ∀ {H : List AObj} {bs : List Nat} {id : Nat}, H[id]? = some o → ∀ x, (lives (H.set id o') bs).count x ≤ (lives H bs).count x
  | [], _, _, h, _ => by simp at h
  | y :: H, [], _, _, x => by cases ‹Nat› <;> simp [lives]
  | y :: H, b :: bs, 0, h, x => by
    simp at h
    subst h
    rw [List.set_cons_zero, lives, lives, hd]
    cases o'.dead with
    | true => exact List.count_le_count_cons
    | false => exact Nat.le_refl _
  | y :: H, b :: bs, id + 1, h, x => by
    simp at h
    have := lives_set (o' := o') hd (bs := bs) h x
    rw [List.set_cons_succ, lives, lives]
    cases y.dead with
    | true => exact this
    | false => rw [cond_false, cond_false, List.count_cons, List.count_cons]; omega
theorem lives_set_mem {o o' : AObj} (hd : o.dead = false) {H : List AObj} {bs : List Nat} {id : Nat} (h : H[id]? = some o) {x : Nat} (hx : x ∈ lives (H.set id o') bs) : x ∈ lives H bs := by
  have h1 := List.count_pos_iff.2 hx
  have h2 := lives_set (o' := o') hd (bs := bs) h x
  exact List.count_pos_iff.1 (by omega)
theorem ObjsR.append {g : Gh} {w : World} : ∀ {H : List AObj} {bs : List Nat} {o : AObj} {b : Nat}, ObjsR g w H bs → ObjR g w b o → ObjsR g w (H ++ [o]) (bs ++ [b])
  | [], bs, o, b, h, k => by simp only [ObjsR] at h; subst h; simp only [List.nil_append, ObjsR]; exact ⟨b, [], rfl, k, rfl⟩
  | x :: H, bs, o, b, h, k => by
    simp only [ObjsR] at h
    obtain ⟨b', cs, rfl, h1, h2⟩ := h
    simp only [List.cons_append, ObjsR]
    exact ⟨b', _, rfl, h1, ObjsR.append h2 k⟩
theorem ownsH_append {g : Gh} {w : World} : ∀ {H : List AObj} {bs : List Nat} {o : AObj} {b : Nat}, H.length = bs.length → ownsH w (H ++ [o]) (bs ++ [b]) = ownsH w H bs ++ ownsO w b o
  | [], bs, o, b, h => by cases bs <;> simp at h; simp [ownsH]
  | x :: H, bs, o, b, h => by
    cases bs with
    | nil => simp at h
    | cons b' bs => simp [ownsH, ownsH_append (g := g) (w := w) (H := H) (bs := bs) (o := o) (b := b) (by simpa using h)]

/-- A new object. -/
theorem Core.newObj {F : Nat → Prop} {g : Gh} {H : List AObj} {os : List Rec} {w w' : World} {cs : List AV} {arr : Array Value} {t : TypeId} (h : Core F g H (ownsL cs arr.toList ++ os) w) (hb : ∀ k, k < w.heap.size → w'.heap[k]? = w.heap[k]?) (hs : w.heap.size < w'.heap.size) (ho : w'.os = w.os) (ht : w'.tape = w.tape) (hout : w'.output = w.output)
    (hnew : w'.heap[w.heap.size]? = some (.cells arr t (0, 0))) (hv : VRs g w cs arr.toList) :
    ∃ g', g'.obj = g.obj ++ [w.heap.size] ∧ Ext g w g' w' ∧ Step F g w g' w' ∧ Core F g' (H ++ [.cells t cs]) os w' := by
  have hlt : ∀ b, b ∈ lives H g.obj → b < w.heap.size := fun b hb => h.heap.lt b hb
  have hz : oc w.heap.size (ownsL cs arr.toList ++ os) + oc w.heap.size (ownsH w H g.obj) + (lives H g.obj).count w.heap.size = 0 := by
    have e1 : oc w.heap.size (ownsL cs arr.toList ++ os) = 0 := by
      rcases Nat.eq_zero_or_pos (oc w.heap.size (ownsL cs arr.toList ++ os)) with e | e
      · exact e
      · obtain ⟨r, hr, hr2⟩ := List.countP_pos_iff.1 e
        have := (h.own r (.inl hr)).lt
        simp at hr2
        omega
    have e2 : oc w.heap.size (ownsH w H g.obj) = 0 := by
      rcases Nat.eq_zero_or_pos (oc w.heap.size (ownsH w H g.obj)) with e | e
      · exact e
      · obtain ⟨r, hr, hr2⟩ := List.countP_pos_iff.1 e
        have := (h.own r (.inr hr)).lt
        simp at hr2
        omega
    have e3 : (lives H g.obj).count w.heap.size = 0 := List.count_eq_zero.2 (fun hm => by have := hlt _ hm; omega)
    omega
  obtain ⟨e1, e2, e3⟩ := h.grow hb hs ho ht hout 0
  have ext : Ext g w ⟨g.obj ++ [w.heap.size], (g.set w.heap.size 0).len⟩ w' := ⟨e1.cell, e1.ty, e1.bsz, e1.len, fun i b hi => by
    have hl := (List.getElem?_eq_some_iff.1 hi).1
    simp only
    rw [List.getElem?_append_left hl]; exact hi⟩
  have ext2 : Ext (g.set w.heap.size 0) w' ⟨g.obj ++ [w.heap.size], (g.set w.heap.size 0).len⟩ w' := ⟨fun _ _ _ => rfl, fun _ _ => rfl, fun _ => Nat.le_refl _, fun _ => Nat.le_refl _, ext.obj⟩
  have hobj := ObjsR.move ext2 H g.obj e3.heap (fun _ _ => rfl)
  have hO : ownsO w' w.heap.size (.cells t cs) = ownsL cs arr.toList := by simp only [ownsO, hnew]
  have hH : ownsH w' (H ++ [.cells t cs]) (g.obj ++ [w.heap.size]) = ownsH w' H g.obj ++ ownsL cs arr.toList := by
    rw [ownsH_append (g := g) h.heap.length, hO]
  have hHw : ownsH w' H (g.set w.heap.size 0).obj = ownsH w H g.obj := (ObjsR.move e1 H g.obj h.heap (fun b hb' => hb b (hlt b hb'))).2
  refine ⟨_, rfl, ext, ⟨e2.cell, e2.ty, e2.bsz, e2.len, e2.frame, e2.size, e2.os, e2.tape, e2.output⟩, hobj.1.append ?_, fun r hr => ?_, fun b => ?_, fun b hF => ?_, fun b hb' => ?_, e3.lenlt, e3.flt, e3.good⟩
  · simp only [ObjR]
    exact ⟨arr, hnew, VRs.ext ext _ _ hv⟩
  · rw [hH] at hr
    have : OwnOK (g.set w.heap.size 0) w' r := by
      rcases hr with hr | hr
      · exact e3.own r (.inl (List.mem_append_right _ hr))
      · rcases List.mem_append.1 hr with hr | hr
        · exact e3.own r (.inr hr)
        · exact e3.own r (.inl (List.mem_append_left _ hr))
    exact this
  · simp only
    rw [hH, lives_append h.heap.length]
    have h1 := e3.dist b
    rw [show (g.set w.heap.size 0).obj = g.obj from rfl] at h1 hHw
    simp only [oc_append, List.count_append] at h1 hz ⊢
    have h9 := lives_one w.heap.size b (AObj.cells t cs)
    by_cases e : b = w.heap.size
    · subst e
      rw [hHw]
      omega
    · have := h9.2 e
      omega
  · simp only
    rw [hH, lives_append h.heap.length]
    have h1 := e3.notF b hF
    have h2 := h.flt b hF
    rw [show (g.set w.heap.size 0).obj = g.obj from rfl] at h1
    simp only [oc_append, List.count_append] at h1 ⊢
    have := (lives_one w.heap.size b (AObj.cells t cs)).2 (by omega)
    omega
  · simp only at hb' ⊢
    rw [lives_append h.heap.length] at hb'
    rcases List.mem_append.1 hb' with hb' | hb'
    · exact e3.objlen b hb'
    · have : b = w.heap.size := by
        revert hb'
        cases (AObj.cells t cs).dead <;> simp
      subst this
      simp [Gh.set]

theorem ObjsR.setObj {g g' : Gh} {w w' : World} (e : Ext g w g' w') {o' : AObj} : ∀ {H : List AObj} {bs : List Nat} {id : Nat} {b : Nat} {o : AObj}, ObjsR g w H bs → H[id]? = some o → bs[id]? = some b → o.dead = false → (lives H bs).count b ≤ 1 → (∀ k, k ∈ lives H bs → k ≠ b → w'.heap[k]? = w.heap[k]?) → ObjR g' w' b o' → ObjsR g' w' (H.set id o') bs
  | [], _, _, _, _, _, h, _, _, _, _, _ => by simp at h
  | x :: H, bs, id, b, o, h, hid, hbi, hd, hc, hk, ho => by
    simp only [ObjsR] at h
    obtain ⟨b', cs, rfl, h1, h2⟩ := h
    cases id with
    | zero =>
      simp at hbi hid
      subst hbi hid
      have hn : b' ∉ lives H cs := fun hm => lives_ne hc hm hd rfl
      simp only [List.set_cons_zero, ObjsR]
      exact ⟨b', cs, rfl, ho, (ObjsR.move e H cs h2 (fun k hm => hk k (lives_tail hm) (fun e => hn (e ▸ hm)))).1⟩
    | succ id =>
      simp at hbi hid
      have hmem : b ∈ lives H cs := lives_at hid hbi hd
      have hc' : (lives H cs).count b ≤ 1 := Nat.le_trans (lives_count_le ..) hc
      simp only [List.set_cons_succ, ObjsR]
      refine ⟨b', cs, rfl, ?_, ObjsR.setObj e h2 hid hbi hd hc' (fun k hm hne => hk k (lives_tail hm) hne) ho⟩
      cases hx : x.dead with
      | true => exact ObjR_dead hx
      | false =>
        have hne := lives_ne hc hmem hx
        have := (ObjsR.move (g := g) (g' := g') (w := w) (w' := w') e [x] [b'] (by simp only [ObjsR]; exact ⟨b', [], rfl, h1, rfl⟩) (fun k hm => by
          rcases lives_cases hm with ⟨_, rfl⟩ | hm
          · exact hk _ (lives_head hx) hne
          · simp [lives] at hm)).1
        simp only [ObjsR] at this
        obtain ⟨b2, _, e2, h3, _⟩ := this
        injection e2 with e2 _
        subst e2
        exact h3
theorem ownsO_congr {w w' : World} {b : Nat} {x : AObj} (h : w'.heap[b]? = w.heap[b]?) : ownsO w' b x = ownsO w b x := by
  cases x with
  | buf kd t l => match kd with
    | 0 | 1 | n + 2 => simp only [ownsO, h]
  | _ => simp only [ownsO, h]
theorem ownsH_congr {w w' : World} : ∀ {H : List AObj} {bs : List Nat}, (∀ k, k ∈ lives H bs → w'.heap[k]? = w.heap[k]?) → ownsH w' H bs = ownsH w H bs
  | [], bs, _ => by cases bs <;> rfl
  | x :: H, [], _ => rfl
  | x :: H, b :: bs, h => by
    simp only [ownsH]
    rw [ownsH_congr (H := H) (fun k hk => h k (lives_tail hk))]
    congr 1
    cases hx : x.dead with
    | true => rw [ownsO_dead hx, ownsO_dead hx]
    | false => exact ownsO_congr (h b (lives_head hx))
theorem ownsH_set {w w' : World} {o' : AObj} : ∀ {H : List AObj} {bs : List Nat} {id : Nat} {b : Nat} {o : AObj}, H[id]? = some o → bs[id]? = some b → o.dead = false → (lives H bs).count b ≤ 1 → (∀ k, k ∈ lives H bs → k ≠ b → w'.heap[k]? = w.heap[k]?) →
    (∀ x, oc x (ownsH w' (H.set id o') bs) + oc x (ownsO w b o) = oc x (ownsH w H bs) + oc x (ownsO w' b o')) ∧ (∀ r, r ∈ ownsH w' (H.set id o') bs → r ∈ ownsH w H bs ∨ r ∈ ownsO w' b o') ∧ (∀ r, r ∈ ownsO w b o → r ∈ ownsH w H bs)
  | [], _, _, _, _, h, _, _, _, _ => by simp at h
  | x :: H, [], _, _, _, _, h, _, _, _ => by simp at h
  | x :: H, b' :: cs, id, b, o, hid, hbi, hd, hc, hk => by
    cases id with
    | zero =>
      simp at hbi hid
      subst hbi
      subst hid
      have hn : b' ∉ lives H cs := fun hm => lives_ne hc hm hd rfl
      have := ownsH_congr (w := w) (w' := w') (H := H) (bs := cs) (fun k hm => hk k (lives_tail hm) (fun e => hn (e ▸ hm)))
      simp only [List.set_cons_zero, ownsH, this]
      exact ⟨fun x => by simp only [oc_append]; omega, fun r hr => by simp only [List.mem_append] at hr ⊢; rcases hr with h | h <;> simp [h], fun r hr => by simp [hr]⟩
    | succ id =>
      simp at hbi hid
      have hmem : b ∈ lives H cs := lives_at hid hbi hd
      have hc' : (lives H cs).count b ≤ 1 := Nat.le_trans (lives_count_le ..) hc
      obtain ⟨h1, h2, h3⟩ := ownsH_set (w := w) (w' := w') (o' := o') hid hbi hd hc' (fun k hm hne => hk k (lives_tail hm) hne)
      have h4 : ownsO w' b' x = ownsO w b' x := by
        cases hx : x.dead with
        | true => rw [ownsO_dead hx, ownsO_dead hx]
        | false => exact ownsO_congr (hk b' (lives_head hx) (lives_ne hc hmem hx))
      simp only [List.set_cons_succ, ownsH, h4]
      exact ⟨fun y => by have := h1 y; simp only [oc_append]; omega, fun r hr => by
        simp only [List.mem_append] at hr ⊢
        rcases hr with hr | hr
        · simp [hr]
        · rcases h2 r hr with h | h <;> simp [h], fun r hr => by simp [h3 r hr]⟩

/-- An object turns. -/
theorem Core.setObj {F : Nat → Prop} {g : Gh} {H : List AObj} {os os' : List Rec} {w w' : World} {id b : Nat} {t : TypeId} {cs cs' : List AV} {arr arr' : Array Value} (h : Core F g H os w) (hid : H[id]? = some (.cells t cs)) (hbi : g.obj[id]? = some b)
    (hw : w.heap[b]? = some (.cells arr t (0, 0))) (hw' : w'.heap[b]? = some (.cells arr' t (0, 0))) (hsz : arr'.size = arr.size) (hb : ∀ k, k ≠ b → w'.heap[k]? = w.heap[k]?) (hs : w'.heap.size = w.heap.size) (ho : w'.os = w.os) (ht : w'.tape = w.tape) (hout : w'.output = w.output)
    (hv : VRs g w cs' arr'.toList) (hcount : ∀ x, oc x os' + oc x (ownsL cs' arr'.toList) ≤ oc x os + oc x (ownsL cs arr.toList)) (hmem : ∀ r, r ∈ os' ∨ r ∈ ownsL cs' arr'.toList → r ∈ os ∨ r ∈ ownsL cs arr.toList) :
    Ext g w g w' ∧ Step F g w g w' ∧ Core F g (H.set id (.cells t cs')) os' w' := by
  have hmb : b ∈ lives H g.obj := lives_at hid hbi rfl
  have hl0 := h.objlen b hmb
  have hd := h.dist b
  have hcb := List.count_pos_iff.2 hmb
  have ext : Ext g w g w' := ⟨fun k j hj => cell_of (hb k (fun e => by rw [e, hl0] at hj; omega)) j, fun k hk => tyOf_block (hb k (fun e => by rw [e, hl0] at hk; omega)), bsz_one hb (by rw [bsz_cells hw, bsz_cells hw', hsz]; exact Nat.le_refl _), fun _ => Nat.le_refl _, fun _ _ h => h⟩
  have hFb : ¬ F b := fun hF => by have := h.notF b hF; omega
  have hO : ownsO w b (.cells t cs) = ownsL cs arr.toList := by simp only [ownsO, hw]
  have hO' : ownsO w' b (.cells t cs') = ownsL cs' arr'.toList := by simp only [ownsO, hw']
  obtain ⟨h1, h2, h3⟩ := ownsH_set (w := w) (w' := w') (o' := .cells t cs') hid hbi rfl (by omega) (fun k _ hne => hb k hne)
  rw [hO'] at h1 h2
  rw [hO] at h1 h3
  refine ⟨ext, ⟨ext.cell, ext.ty, ext.bsz, ext.len, fun k hF => ⟨hb k (fun e => hFb (e ▸ hF)), rfl⟩, by omega, ho, ht, hout⟩, ?_, fun r hr => ?_, fun x => ?_, fun x hF => ?_, fun x hx => h.objlen x (lives_set_mem rfl hid hx), fun x hx => by have := h.lenlt x hx; omega, fun x hF => by have := h.flt x hF; omega, h.good.step (fun _ h => h) fun k hF => hb k fun e => hFb (e ▸ hF)⟩
  · exact ObjsR.setObj ext h.heap hid hbi rfl (by omega) (fun k _ hne => hb k hne) (by simp only [ObjR]; exact ⟨arr', hw', VRs.ext ext _ _ hv⟩)
  · have hin : r ∈ os ∨ r ∈ ownsH w H g.obj := by
      rcases hr with hr | hr
      · rcases hmem r (.inl hr) with h4 | h4
        · exact .inl h4
        · exact .inr (h3 r h4)
      · rcases h2 r hr with h4 | h4
        · exact .inr h4
        · rcases hmem r (.inr h4) with h5 | h5
          · exact .inl h5
          · exact .inr (h3 r h5)
    have hne : r.1 ≠ b := fun e => by
      rcases hin with h4 | h4
      · have := oc_mem h4; rw [e] at this; omega
      · have := oc_mem h4; rw [e] at this; omega
    obtain ⟨o1, o2, arr0, t0, o3, o4⟩ := h.own r hin
    exact ⟨o1, o2, arr0, t0, o3.of_heap (hb _ hne), o4⟩
  · have := h1 x; have := h.dist x; have := hcount x; have := lives_set (o' := AObj.cells t cs') rfl (bs := g.obj) hid x; omega
  · have := h1 x; have := h.notF x hF; have := hcount x; have := lives_set (o' := AObj.cells t cs') rfl (bs := g.obj) hid x; omega

/-- A new object. -/
theorem Core.newObjG {F : Nat → Prop} {g : Gh} {H : List AObj} {os os0 : List Rec} {w w' : World} {ob : AObj} (h : Core F g H (os0 ++ os) w) (hb : ∀ k, k < w.heap.size → w'.heap[k]? = w.heap[k]?) (hs : w.heap.size < w'.heap.size) (ho : w'.os = w.os) (ht : w'.tape = w.tape) (hout : w'.output = w.output)
    (hO : ownsO w' w.heap.size ob = os0) (hR : ∀ g', Ext g w g' w' → ObjR g' w' w.heap.size ob) :
    ∃ g', g'.obj = g.obj ++ [w.heap.size] ∧ Ext g w g' w' ∧ Step F g w g' w' ∧ Core F g' (H ++ [ob]) os w' := by
  have hlt : ∀ b, b ∈ lives H g.obj → b < w.heap.size := fun b hb => h.heap.lt b hb
  have hz : oc w.heap.size (os0 ++ os) + oc w.heap.size (ownsH w H g.obj) + (lives H g.obj).count w.heap.size = 0 := by
    have e1 : oc w.heap.size (os0 ++ os) = 0 := by
      rcases Nat.eq_zero_or_pos (oc w.heap.size (os0 ++ os)) with e | e
      · exact e
      · obtain ⟨r, hr, hr2⟩ := List.countP_pos_iff.1 e
        have := (h.own r (.inl hr)).lt
        simp at hr2
        omega
    have e2 : oc w.heap.size (ownsH w H g.obj) = 0 := by
      rcases Nat.eq_zero_or_pos (oc w.heap.size (ownsH w H g.obj)) with e | e
      · exact e
      · obtain ⟨r, hr, hr2⟩ := List.countP_pos_iff.1 e
        have := (h.own r (.inr hr)).lt
        simp at hr2
        omega
    have e3 : (lives H g.obj).count w.heap.size = 0 := List.count_eq_zero.2 (fun hm => by have := hlt _ hm; omega)
    omega
  obtain ⟨e1, e2, e3⟩ := h.grow hb hs ho ht hout 0
  have ext : Ext g w ⟨g.obj ++ [w.heap.size], (g.set w.heap.size 0).len⟩ w' := ⟨e1.cell, e1.ty, e1.bsz, e1.len, fun i b hi => by
    have hl := (List.getElem?_eq_some_iff.1 hi).1
    simp only
    rw [List.getElem?_append_left hl]; exact hi⟩
  have ext2 : Ext (g.set w.heap.size 0) w' ⟨g.obj ++ [w.heap.size], (g.set w.heap.size 0).len⟩ w' := ⟨fun _ _ _ => rfl, fun _ _ => rfl, fun _ => Nat.le_refl _, fun _ => Nat.le_refl _, ext.obj⟩
  have hobj := ObjsR.move ext2 H g.obj e3.heap (fun _ _ => rfl)
  have hH : ownsH w' (H ++ [ob]) (g.obj ++ [w.heap.size]) = ownsH w' H g.obj ++ os0 := by
    rw [ownsH_append (g := g) h.heap.length, hO]
  have hHw : ownsH w' H (g.set w.heap.size 0).obj = ownsH w H g.obj := (ObjsR.move e1 H g.obj h.heap (fun b hb' => hb b (hlt b hb'))).2
  refine ⟨_, rfl, ext, ⟨e2.cell, e2.ty, e2.bsz, e2.len, e2.frame, e2.size, e2.os, e2.tape, e2.output⟩, hobj.1.append ?_, fun r hr => ?_, fun b => ?_, fun b hF => ?_, fun b hb' => ?_, e3.lenlt, e3.flt, e3.good⟩
  · exact hR _ ext
  · rw [hH] at hr
    have : OwnOK (g.set w.heap.size 0) w' r := by
      rcases hr with hr | hr
      · exact e3.own r (.inl (List.mem_append_right _ hr))
      · rcases List.mem_append.1 hr with hr | hr
        · exact e3.own r (.inr hr)
        · exact e3.own r (.inl (List.mem_append_left _ hr))
    exact this
  · simp only
    rw [hH, lives_append h.heap.length]
    have h1 := e3.dist b
    rw [show (g.set w.heap.size 0).obj = g.obj from rfl] at h1 hHw
    simp only [oc_append, List.count_append] at h1 hz ⊢
    have h9 := lives_one w.heap.size b ob
    by_cases e : b = w.heap.size
    · subst e
      rw [hHw]
      omega
    · have := h9.2 e
      omega
  · simp only
    rw [hH, lives_append h.heap.length]
    have h1 := e3.notF b hF
    have h2 := h.flt b hF
    rw [show (g.set w.heap.size 0).obj = g.obj from rfl] at h1
    simp only [oc_append, List.count_append] at h1 ⊢
    have := (lives_one w.heap.size b ob).2 (by omega)
    omega
  · simp only at hb' ⊢
    rw [lives_append h.heap.length] at hb'
    rcases List.mem_append.1 hb' with hb' | hb'
    · exact e3.objlen b hb'
    · have : b = w.heap.size := by
        revert hb'
        cases ob.dead <;> simp
      subst this
      simp [Gh.set]

/-- An object turns. -/
theorem Core.setObjG {F : Nat → Prop} {g : Gh} {H : List AObj} {os os' os0 os1 : List Rec} {w w' : World} {id b : Nat} {ob ob' : AObj} (h : Core F g H os w) (hid : H[id]? = some ob) (hbi : g.obj[id]? = some b) (hdd : ob.dead = false)
    (hb : ∀ k, k ≠ b → w'.heap[k]? = w.heap[k]?) (hbz : bsize w b ≤ bsize w' b) (hs : w'.heap.size = w.heap.size) (ho : w'.os = w.os) (ht : w'.tape = w.tape) (hout : w'.output = w.output)
    (hO : ownsO w b ob = os0) (hO' : ownsO w' b ob' = os1) (hR : Ext g w g w' → ObjR g w' b ob') (hcount : ∀ x, oc x os' + oc x (os1) ≤ oc x os + oc x (os0)) (hmem : ∀ r, r ∈ os' ∨ r ∈ os1 → r ∈ os ∨ r ∈ os0) :
    Ext g w g w' ∧ Step F g w g w' ∧ Core F g (H.set id ob') os' w' := by
  have hmb : b ∈ lives H g.obj := lives_at hid hbi hdd
  have hl0 := h.objlen b hmb
  have hd := h.dist b
  have hcb := List.count_pos_iff.2 hmb
  have ext : Ext g w g w' := ⟨fun k j hj => cell_of (hb k (fun e => by rw [e, hl0] at hj; omega)) j, fun k hk => tyOf_block (hb k (fun e => by rw [e, hl0] at hk; omega)), bsz_one hb hbz, fun _ => Nat.le_refl _, fun _ _ h => h⟩
  have hFb : ¬ F b := fun hF => by have := h.notF b hF; omega
  obtain ⟨h1, h2, h3⟩ := ownsH_set (w := w) (w' := w') (o' := ob') hid hbi hdd (by omega) (fun k _ hne => hb k hne)
  rw [hO'] at h1 h2
  rw [hO] at h1 h3
  refine ⟨ext, ⟨ext.cell, ext.ty, ext.bsz, ext.len, fun k hF => ⟨hb k (fun e => hFb (e ▸ hF)), rfl⟩, by omega, ho, ht, hout⟩, ?_, fun r hr => ?_, fun x => ?_, fun x hF => ?_, fun x hx => h.objlen x (lives_set_mem hdd hid hx), fun x hx => by have := h.lenlt x hx; omega, fun x hF => by have := h.flt x hF; omega, h.good.step (fun _ h => h) fun k hF => hb k fun e => hFb (e ▸ hF)⟩
  · exact ObjsR.setObj ext h.heap hid hbi hdd (by omega) (fun k _ hne => hb k hne) (hR ext)
  · have hin : r ∈ os ∨ r ∈ ownsH w H g.obj := by
      rcases hr with hr | hr
      · rcases hmem r (.inl hr) with h4 | h4
        · exact .inl h4
        · exact .inr (h3 r h4)
      · rcases h2 r hr with h4 | h4
        · exact .inr h4
        · rcases hmem r (.inr h4) with h5 | h5
          · exact .inl h5
          · exact .inr (h3 r h5)
    have hne : r.1 ≠ b := fun e => by
      rcases hin with h4 | h4
      · have := oc_mem h4; rw [e] at this; omega
      · have := oc_mem h4; rw [e] at this; omega
    obtain ⟨o1, o2, arr0, t0, o3, o4⟩ := h.own r hin
    exact ⟨o1, o2, arr0, t0, o3.of_heap (hb _ hne), o4⟩
  · have := h1 x; have := h.dist x; have := hcount x; have := lives_set (o' := ob') hdd (bs := g.obj) hid x; omega
  · have := h1 x; have := h.notF x hF; have := hcount x; have := lives_set (o' := ob') hdd (bs := g.obj) hid x; omega

end Go.Sh

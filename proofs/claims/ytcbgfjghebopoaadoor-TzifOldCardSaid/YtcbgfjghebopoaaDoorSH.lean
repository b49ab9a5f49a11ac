/- How the relation moves with the world: a new row, a longer row, a new object, a store. -/
import Derived.Test.YtcbgfjghebopoaaDoorSG
import Derived.Laws.AppendOwn
namespace Go.Sh
open Go.RowKit
set_option linter.unusedSimpArgs false
set_option linter.unusedVariables false

theorem oc_cons (b : Nat) (r : Rec) (l : List Rec) : oc b (r :: l) = (if r.1 = b then 1 else 0) + oc b l := by
  unfold oc
  rw [List.countP_cons]
  by_cases h : r.1 = b <;> simp [h]; omega

theorem lives_tail {o : AObj} {H : List AObj} {b : Nat} {bs : List Nat} {x : Nat} (h : x ∈ lives H bs) : x ∈ lives (o :: H) (b :: bs) := by
  rw [lives]
  cases o.dead with
  | true => exact h
  | false => exact List.mem_cons_of_mem _ h
theorem lives_head {o : AObj} {H : List AObj} {b : Nat} {bs : List Nat} (h : o.dead = false) : b ∈ lives (o :: H) (b :: bs) := by
  rw [lives, h]
  exact List.mem_cons_self ..
theorem lives_cases {o : AObj} {H : List AObj} {b : Nat} {bs : List Nat} {x : Nat} (h : x ∈ lives (o :: H) (b :: bs)) : (o.dead = false ∧ x = b) ∨ x ∈ lives H bs := by
  rw [lives] at h
  cases ho : o.dead with
  | true => rw [ho] at h; exact .inr h
  | false =>
    rw [ho] at h
    rcases List.mem_cons.1 h with h | h
    · exact .inl ⟨rfl, h⟩
    · exact .inr h
theorem lives_mem : ∀ {H : List AObj} {bs : List Nat} {x : Nat}, x ∈ lives H bs → x ∈ bs
  | [], _, _, h => by simp [lives] at h
  | o :: H, [], _, h => by simp [lives] at h
  | o :: H, b :: bs, x, h => by
    rcases lives_cases h with ⟨_, rfl⟩ | h
    · exact List.mem_cons_self ..
    · exact List.mem_cons_of_mem _ (lives_mem h)
theorem ownsO_dead {w : World} {b : Nat} {o : AObj} (h : o.dead = true) : ownsO w b o = [] := by
  cases o with
  | gone => rfl
  | rowC n els => rfl
  | rowN k xs => rfl
  | _ => simp [AObj.dead] at h
theorem ObjR_dead {g : Gh} {w : World} {b : Nat} {o : AObj} (h : o.dead = true) : ObjR g w b o := by
  cases o with
  | gone => trivial
  | rowC n els =>
    cases els with
    | nil => exact .inl rfl
    | cons a b => simp [AObj.dead] at h
  | rowN k xs =>
    cases xs with
    | nil => exact .inl rfl
    | cons a b => simp [AObj.dead] at h
  | _ => simp [AObj.dead] at h
theorem lives_append : ∀ {H : List AObj} {bs : List Nat} {o : AObj} {b : Nat}, H.length = bs.length → lives (H ++ [o]) (bs ++ [b]) = lives H bs ++ (bif o.dead then [] else [b])
  | [], bs, o, b, h => by
    cases bs with
    | nil => simp only [List.nil_append, lives]
    | cons c cs => simp at h
  | x :: H, bs, o, b, h => by
    cases bs with
    | nil => simp at h
    | cons c cs =>
      rw [List.cons_append, List.cons_append, lives, lives, lives_append (H := H) (bs := cs) (by simpa using h)]
      cases x.dead <;> rfl
theorem lives_at : ∀ {H : List AObj} {bs : List Nat} {i b : Nat} {o : AObj}, H[i]? = some o → bs[i]? = some b → o.dead = false → b ∈ lives H bs
  | [], _, _, _, _, h, _, _ => by simp at h
  | x :: H, [], _, _, _, _, h, _ => by simp at h
  | x :: H, c :: cs, 0, b, o, h1, h2, hd => by
    simp at h1 h2
    subst h1 h2
    exact lives_head hd
  | x :: H, c :: cs, i + 1, b, o, h1, h2, hd => by
    simp at h1 h2
    exact lives_tail (lives_at h1 h2 hd)
theorem ObjsR.move {g g' : Gh} {w w' : World} (e : Ext g w g' w') : ∀ (H : List AObj) (bs : List Nat), ObjsR g w H bs → (∀ b ∈ lives H bs, w'.heap[b]? = w.heap[b]?) → ObjsR g' w' H bs ∧ ownsH w' H bs = ownsH w H bs
  | [], bs, h, _ => by simp only [ObjsR] at h ⊢; subst h; exact ⟨rfl, rfl⟩
  | o :: H, bs, h, hb => by
    simp only [ObjsR] at h
    obtain ⟨b, cs, rfl, h1, h2⟩ := h
    obtain ⟨h3, h4⟩ := ObjsR.move e H cs h2 (fun b hb' => hb b (lives_tail hb'))
    cases hdead : o.dead with
    | true =>
      refine ⟨?_, by simp only [ownsH, h4]; rw [ownsO_dead hdead, ownsO_dead hdead]⟩
      simp only [ObjsR]
      exact ⟨b, cs, rfl, ObjR_dead hdead, h3⟩
    | false =>
    have hbb := hb b (lives_head hdead)
    refine ⟨?_, ?_⟩
    · simp only [ObjsR]
      refine ⟨b, cs, rfl, ?_, h3⟩
      cases o with
      | cells t xs =>
        simp only [ObjR] at h1 ⊢
        obtain ⟨arr, h5, h6⟩ := h1
        exact ⟨arr, by rw [hbb]; exact h5, VRs.ext e _ _ h6⟩
      | map es =>
        simp only [ObjR] at h1 ⊢
        obtain ⟨en, cl, h5, h6⟩ := h1
        exact ⟨en, cl, by rw [hbb]; exact h5, h6.ext e⟩
      | rowS t xs =>
        simp only [ObjR] at h1 ⊢
        obtain ⟨arr, rest, h5, h6⟩ := h1
        exact ⟨arr, rest, by rw [hbb]; exact h5, h6⟩
      | rowI t k xs =>
        simp only [ObjR] at h1 ⊢
        obtain ⟨arr, rest, h5, h6⟩ := h1
        exact ⟨arr, rest, by rw [hbb]; exact h5, h6⟩
      | loop key cs' =>
        simp only [ObjR] at h1 ⊢
        obtain ⟨r, h5, h6, h7, h8, h9, h10, h11, h12⟩ := h1
        exact ⟨r, by rw [hbb]; exact h5, h6, h7, h8, h9, h10, h11, VRs.ext e _ _ h12⟩
      | buf kd t l =>
        match kd, h1 with
        | 0, h1 =>
          simp only [ObjR] at h1 ⊢
          obtain ⟨x, u, h5, h6, h7, h0, h8⟩ := h1
          refine ⟨x, u, by rw [hbb]; exact h5, h6, VR.ext e _ _ h7, h0, fun a n c hu hl => ?_⟩
          rw [← h8 a n c hu hl]
          refine e.ty _ ?_
          subst hu
          simp only [VR] at h7
          obtain ⟨a', n', c', he, hr⟩ := h7
          injection he with he _ _
          subst he
          obtain ⟨ad, hd, hrd⟩ := hr.2.2.2.1 (by simpa using List.length_pos_iff.2 hl)
          injection hd with hd
          subst hd
          have := hrd.2.1
          have hl' := List.length_pos_iff.2 hl
          simp at this
          omega
        | 1, h1 =>
          simp only [ObjR] at h1 ⊢
          obtain ⟨x, u, h5, h7, h8, h9⟩ := h1
          exact ⟨x, u, by rw [hbb]; exact h5, VR.ext e _ _ h7, h8, h9⟩
        | n + 2, h1 => exact absurd h1 (by simp [ObjR])
      | rowC n els =>
        simp only [ObjR] at h1 ⊢
        rcases h1 with h1 | ⟨h1, arr, t, vs, rest, h5, h6, h7⟩
        · exact .inl h1
        · exact .inr ⟨h1, arr, t, vs, rest, h5.of_heap hbb, h6, VRss.ext e _ _ h7⟩
      | rowN k xs =>
        simp only [ObjR] at h1 ⊢
        rcases h1 with h1 | ⟨arr, t, rest, h5, h6⟩
        · exact .inl h1
        · exact .inr ⟨arr, t, rest, h5.of_heap hbb, h6⟩
      | gone => trivial
    · simp only [ownsH, h4]
      congr 1
      cases o with
      | buf kd t l => match kd with
        | 0 | 1 | n + 2 => simp only [ownsO, hbb]
      | _ => simp only [ownsO, hbb]
theorem ObjsR.lt {g : Gh} {w : World} : ∀ {H : List AObj} {bs : List Nat}, ObjsR g w H bs → ∀ b ∈ lives H bs, b < w.heap.size
  | [], bs, h, b, hb => by simp [lives] at hb
  | o :: H, bs, h, b, hb => by
    simp only [ObjsR] at h
    obtain ⟨b', cs, rfl, h1, h2⟩ := h
    rcases lives_cases hb with ⟨hdead, rfl⟩ | hb
    · cases o with
      | cells t xs =>
        simp only [ObjR] at h1
        obtain ⟨arr, h5, _⟩ := h1
        exact (Array.getElem?_eq_some_iff.1 h5).1
      | map es =>
        simp only [ObjR] at h1
        obtain ⟨en, cl, h5, _⟩ := h1
        exact (Array.getElem?_eq_some_iff.1 h5).1
      | rowS t xs =>
        simp only [ObjR] at h1
        obtain ⟨arr, rest, h5, _⟩ := h1
        exact (Array.getElem?_eq_some_iff.1 h5).1
      | rowI t k xs =>
        simp only [ObjR] at h1
        obtain ⟨arr, rest, h5, _⟩ := h1
        exact (Array.getElem?_eq_some_iff.1 h5).1
      | loop key cs' =>
        simp only [ObjR] at h1
        obtain ⟨r, h5, _⟩ := h1
        exact (Array.getElem?_eq_some_iff.1 h5).1
      | buf kd t l =>
        match kd, h1 with
        | 0, h1 | 1, h1 =>
          simp only [ObjR] at h1
          obtain ⟨x, u, h5, _⟩ := h1
          exact (Array.getElem?_eq_some_iff.1 h5).1
        | n + 2, h1 => exact absurd h1 (by simp [ObjR])
      | rowC n els =>
        simp only [ObjR] at h1
        rcases h1 with h1 | ⟨h1, arr, t, vs, rest, h5, h6, h7⟩
        · subst h1; simp [AObj.dead] at hdead
        · exact h5.lt
      | rowN k xs =>
        simp only [ObjR] at h1
        rcases h1 with h1 | ⟨arr, t, rest, h5, h6⟩
        · subst h1; simp [AObj.dead] at hdead
        · exact h5.lt
      | gone => simp [AObj.dead] at hdead
    · exact ObjsR.lt h2 b hb
theorem ObjsR.length {g : Gh} {w : World} : ∀ {H : List AObj} {bs : List Nat}, ObjsR g w H bs → H.length = bs.length
  | [], bs, h => by simp only [ObjsR] at h; subst h; rfl
  | o :: H, bs, h => by
    simp only [ObjsR] at h
    obtain ⟨b', cs, rfl, h1, h2⟩ := h
    simp [ObjsR.length h2]
theorem OwnOK.lt {g : Gh} {w : World} {r : Rec} (h : OwnOK g w r) : r.1 < w.heap.size := by
  obtain ⟨_, _, arr, t, h1, _⟩ := h
  exact h1.lt

/-- The ghost with another length of one block. -/
def Gh.set (g : Gh) (b n : Nat) : Gh := ⟨g.obj, fun k => if k = b then n else g.len k⟩

theorem cell_of {w w' : World} {b : Nat} (h : w'.heap[b]? = w.heap[b]?) (j : Nat) : w'.cell? ⟨b, j, none⟩ = w.cell? ⟨b, j, none⟩ := World.cell?_of_block (a := ⟨b, j, none⟩) h

/-- A block more. -/
theorem Core.grow {F : Nat → Prop} {g : Gh} {H : List AObj} {os : List Rec} {w w' : World} (h : Core F g H os w) (hb : ∀ k, k < w.heap.size → w'.heap[k]? = w.heap[k]?) (hs : w.heap.size < w'.heap.size) (ho : w'.os = w.os) (ht : w'.tape = w.tape) (hout : w'.output = w.output) (n : Nat) :
    Ext g w (g.set w.heap.size n) w' ∧ Step F g w (g.set w.heap.size n) w' ∧ Core F (g.set w.heap.size n) H os w' := by
  have hl : ∀ k, 0 < g.len k → k ≠ w.heap.size := fun k hk e => by have := h.lenlt k hk; omega
  have h0 : g.len w.heap.size = 0 := by
    rcases Nat.eq_zero_or_pos (g.len w.heap.size) with e | e
    · exact e
    · exact absurd rfl (hl _ e)
  have ext : Ext g w (g.set w.heap.size n) w' := ⟨fun b j hj => cell_of (hb b (h.lenlt b (by omega))) j, fun b hb' => tyOf_block (hb b (h.lenlt b hb')), bsz_old hb, fun b => by
    by_cases e : b = w.heap.size
    · subst e; rw [h0]; exact Nat.zero_le _
    · simp [Gh.set, e], fun i b hb => hb⟩
  have hobj := ObjsR.move ext H g.obj h.heap (fun b hb' => hb b (h.heap.lt b hb'))
  refine ⟨ext, ⟨ext.cell, ext.ty, ext.bsz, ext.len, fun b hF => ⟨hb b (h.flt b hF), ?_⟩, Nat.le_of_lt hs, ho, ht, hout⟩, ?_⟩
  · have := h.flt b hF
    simp [Gh.set, show b ≠ w.heap.size by omega]
  · refine ⟨hobj.1, fun r hr => ?_, fun b => ?_, fun b hF => ?_, fun b hb' => ?_, fun b hb' => ?_, fun b hF => Nat.lt_trans (h.flt b hF) hs, h.good.step (fun _ h => h) fun b hF => hb b (h.flt b hF)⟩
    · rw [show (g.set w.heap.size n).obj = g.obj from rfl, hobj.2] at hr
      have h1 := h.own r hr
      have h2 := h1.lt
      obtain ⟨h3, h4, arr, t, h5, h6⟩ := h1
      exact ⟨by simp [Gh.set, show r.1 ≠ w.heap.size by omega, h3], h4, arr, t, h5.of_heap (hb _ h2), h6⟩
    · rw [show (g.set w.heap.size n).obj = g.obj from rfl, hobj.2]; exact h.dist b
    · rw [show (g.set w.heap.size n).obj = g.obj from rfl, hobj.2]; exact h.notF b hF
    · have := h.heap.lt b hb'
      simp [Gh.set, show b ≠ w.heap.size by omega]
      exact h.objlen b hb'
    · by_cases e : b = w.heap.size
      · omega
      · simp [Gh.set, e] at hb'
        exact Nat.lt_trans (h.lenlt b hb') hs

/-- The new block as a row of one's own. -/
theorem Core.growOwn {F : Nat → Prop} {g : Gh} {H : List AObj} {os : List Rec} {w w' : World} (h : Core F g H os w) (hb : ∀ k, k < w.heap.size → w'.heap[k]? = w.heap[k]?) (hs : w.heap.size < w'.heap.size) (ho : w'.os = w.os) (ht : w'.tape = w.tape) (hout : w'.output = w.output) (n cp : Nat)
    {arr : Array Value} {t : TypeId} (hnew : CellsAt w' w.heap.size arr t) (hn : n ≤ cp) (hc : cp ≤ arr.size) :
    Ext g w (g.set w.heap.size n) w' ∧ Step F g w (g.set w.heap.size n) w' ∧ Core F (g.set w.heap.size n) H ((w.heap.size, n, cp) :: os) w' := by
  obtain ⟨h1, h2, h3⟩ := h.grow hb hs ho ht hout n
  have hz : oc w.heap.size os + oc w.heap.size (ownsH w' H (g.set w.heap.size n).obj) + (lives H (g.set w.heap.size n).obj).count w.heap.size = 0 := by
    have e1 : oc w.heap.size os = 0 := by
      rcases Nat.eq_zero_or_pos (oc w.heap.size os) with e | e
      · exact e
      · obtain ⟨r, hr, hr2⟩ := List.countP_pos_iff.1 e
        have := (h.own r (.inl hr)).lt
        simp at hr2
        omega
    have e2 : oc w.heap.size (ownsH w H g.obj) = 0 := by
      rcases Nat.eq_zero_or_pos (oc w.heap.size (ownsH w H g.obj)) with e | e
      · exact e
      · obtain ⟨r, hr, hr2⟩ := List.countP_pos_iff.1 e
        have := (h.own r (.inr hr)).lt
        simp at hr2
        omega
    have e3 : (lives H g.obj).count w.heap.size = 0 := List.count_eq_zero.2 (fun hm => by have := h.heap.lt _ hm; omega)
    have e4 := (ObjsR.move h1 H g.obj h.heap (fun b hb' => hb b (h.heap.lt b hb'))).2
    rw [show (g.set w.heap.size n).obj = g.obj from rfl, e1, e4, e2, e3]
  refine ⟨h1, h2, h3.heap, fun r hr => ?_, fun b => ?_, fun b hF => ?_, h3.objlen, h3.lenlt, h3.flt, h3.good⟩
  · rcases hr with hr | hr
    · rcases List.mem_cons.1 hr with rfl | hr
      · exact ⟨by simp [Gh.set], hn, arr, t, hnew, hc⟩
      · exact h3.own r (.inl hr)
    · exact h3.own r (.inr hr)
  · rw [oc_cons]
    by_cases e : w.heap.size = b
    · subst e; simp; omega
    · simp only [e, if_false]; have := h3.dist b; omega
  · rw [oc_cons]
    have := h.flt b hF
    have h5 := h3.notF b hF
    simp only [show w.heap.size ≠ b by omega, if_false]
    omega

/-- More is written into a row of one's own. -/
theorem Core.write {F : Nat → Prop} {g : Gh} {H : List AObj} {os : List Rec} {w w' : World} {b n cp n' : Nat} {arr arr' : Array Value} {t : TypeId} (h : Core F g H ((b, n, cp) :: os) w) (hw : CellsAt w b arr t)
    (hw' : CellsAt w' b arr' t) (hb : ∀ k, k ≠ b → w'.heap[k]? = w.heap[k]?) (hs : w'.heap.size = w.heap.size) (ho : w'.os = w.os) (ht : w'.tape = w.tape) (hout : w'.output = w.output)
    (hsz : arr'.size = arr.size) (hsame : ∀ j, j < n → arr'[j]? = arr[j]?) (hn : n ≤ n') (hn' : n' ≤ cp) :
    Ext g w (g.set b n') w' ∧ Step F g w (g.set b n') w' ∧ Core F (g.set b n') H ((b, n', cp) :: os) w' := by
  obtain ⟨o1, o2, arr0, t0, o3, o4⟩ := h.own (b, n, cp) (.inl (by simp))
  simp only at o1 o2 o3 o4
  have e0 : arr0 = arr := (hw.uniq o3).1
  subst e0
  have hd := h.dist b
  rw [oc_cons] at hd
  simp only [if_true] at hd
  have hob : ∀ k, k ∈ lives H g.obj → k ≠ b := fun k hk e => by
    subst e
    have := List.count_pos_iff.2 hk
    omega
  have ext : Ext g w (g.set b n') w' := ⟨fun k j hj => by
    by_cases e : k = b
    · subst e
      rw [o1] at hj
      rw [hw.cell, hw'.cell]
      exact hsame j hj
    · exact cell_of (hb k e) j, fun k _ => by
    by_cases e : k = b
    · subst e; rw [hw.ty, hw'.ty]
    · exact tyOf_block (hb k e), bsz_one hb (by rw [hw.bsz, hw'.bsz, hsz]; exact Nat.le_refl _), fun k => by
    by_cases e : k = b
    · subst e; simp [Gh.set, o1]; exact hn
    · simp [Gh.set, e], fun i b hb => hb⟩
  have hobj := ObjsR.move ext H g.obj h.heap (fun k hk => hb k (hob k hk))
  have hFb : ¬ F b := fun hF => by have := h.notF b hF; rw [oc_cons] at this; simp only [if_true] at this; omega
  refine ⟨ext, ⟨ext.cell, ext.ty, ext.bsz, ext.len, fun k hF => ?_, by omega, ho, ht, hout⟩, hobj.1, fun r hr => ?_, fun k => ?_, fun k hF => ?_, fun k hk => ?_, fun k hk => ?_, fun k hF => by have := h.flt k hF; omega, h.good.step (fun _ h => h) fun k hF => hb k fun e => hFb (e ▸ hF)⟩
  · have : k ≠ b := fun e => hFb (e ▸ hF)
    exact ⟨hb k this, by simp [Gh.set, this]⟩
  · rw [show (g.set b n').obj = g.obj from rfl, hobj.2] at hr
    have other : r ∈ os ∨ r ∈ ownsH w H g.obj → OwnOK (g.set b n') w' r := by
      intro hr
      have hne : r.1 ≠ b := fun e => by
        rcases hr with hr | hr
        · have := oc_mem hr; rw [e] at this; omega
        · have := oc_mem hr; rw [e] at this; omega
      obtain ⟨h3, h4, arr, t, h5, h6⟩ := h.own r (hr.imp (fun hr => by simp [hr]) id)
      exact ⟨by simp [Gh.set, hne, h3], h4, arr, t, h5.of_heap (hb _ hne), h6⟩
    rcases hr with hr | hr
    · rcases List.mem_cons.1 hr with rfl | hr
      · exact ⟨by simp [Gh.set], hn', arr', t, hw', by simp only; omega⟩
      · exact other (.inl hr)
    · exact other (.inr hr)
  · rw [show (g.set b n').obj = g.obj from rfl, hobj.2]
    have := h.dist k
    rw [oc_cons] at this ⊢
    exact this
  · rw [show (g.set b n').obj = g.obj from rfl, hobj.2]
    have := h.notF k hF
    rw [oc_cons] at this ⊢
    exact this
  · simp [Gh.set, hob k hk]
    exact h.objlen k hk
  · by_cases e : k = b
    · subst e
      have := hw.lt
      omega
    · simp [Gh.set, e] at hk
      have := h.lenlt k hk
      omega

/-- The relation in another world. -/
theorem SimX.move {F : Nat → Prop} {nt : Nat} {g g' : Gh} {s : St} {a : Act} {w w' : World} {os os' : List Rec} (h : SimX F nt g s a w os) (e : Ext g w g' w') (hc : Core F g' s.heap (os' ++ slotOwns s 0 a.tmps.toList) w') : SimX F nt g' s a w' os' :=
  ⟨h.size, fun t => VR.ext e _ _ (h.slots t), hc⟩
end Go.Sh

/- Regions whose order is drawn: operations by number, moved past each other. -/
import Derived.Test.YtpooncihlnllnaaDoorSR
namespace Go.Sh
open Go.RowKit
set_option linter.unusedSimpArgs false
set_option linter.unusedVariables false
variable {c : Cx}

/-- An operation of a drawn region with what it is shown and what it leaves. -/
structure It where
  i : Nat
  o : Oper
  d : DOper
  L : St
  L' : St
def It.isNo (x : It) : Bool := match x.d.ob with | .no => true | _ => false
def It.isAll (x : It) : Bool := match x.d.ob with | .all => true | _ => false
structure It.OK (c : Cx) (ops : Array Oper) (x : It) : Prop where
  here : ops[x.i]? = some x.o
  dst : x.d.op.dst = x.o.dst
  sem : OneSem c ops x.o x.L x.L'
  sub : ∀ t, t ∉ x.d.rd → x.L.get t = .undef
  noH : x.isNo = true → x.L.heap = []
  pre : x.isNo = true → ∀ t ∈ x.d.rd, below 0 (x.L.get t) = true
  keep : ∀ t, t ∉ x.d.wr → x.L'.get t = x.L.get t
  look : x.isNo = false → x.isAll = false → x.L'.heap = x.L.heap
  fine : x.isNo = true → ∀ t ∈ x.d.rd ++ x.d.wr, below 0 (x.L'.get t) = true
def It.upd (x : It) (S : St) : St := x.d.upd S x.L'
def It.fits (x : It) (S : St) : Prop := (∀ t ∈ x.d.rd, x.L.get t = S.get t) ∧ (x.isNo = false → x.L.heap = S.heap)

theorem get_over {f : Nat → AV} {l : List (Nat × AV)} {H H' : List AObj} (t : Nat) : ∀ (m : List Nat), (⟨m.map (fun t => (t, f t)) ++ l, H⟩ : St).get t = if t ∈ m then f t else (⟨l, H'⟩ : St).get t
  | [] => by simp; rfl
  | u :: m => by
    rw [List.map_cons, List.cons_append, get_cons]
    by_cases e : u = t
    · subst e; simp
    · rw [if_neg e, get_over (H' := H') t m]
      by_cases hm : t ∈ m
      · simp [hm]
      · simp [hm, Ne.symm e]
theorem It.upd_get (x : It) (S : St) (t : Nat) : (x.upd S).get t = if t ∈ x.d.rd ++ x.d.wr then x.L'.get t else S.get t := get_over (H' := S.heap) t _
theorem It.upd_heap (x : It) (S : St) : (x.upd S).heap = if x.isAll then x.L'.heap else S.heap := by
  unfold It.upd DOper.upd It.isAll
  cases x.d.ob <;> rfl
theorem It.OK.upd_get' {ops : Array Oper} {x : It} (hx : x.OK c ops) {S : St} (hf : x.fits S) (t : Nat) : (x.upd S).get t = if t ∈ x.d.wr then x.L'.get t else S.get t := by
  rw [x.upd_get]
  by_cases hw : t ∈ x.d.wr
  · simp [hw]
  · by_cases hr : t ∈ x.d.rd
    · simp only [List.mem_append, hr, hw, or_false, if_true, if_false]
      rw [hx.keep t hw, hf.1 t hr]
    · simp [hw, hr]

/-- One operation in the whole. -/
theorem It.OK.step {ops : Array Oper} {x : It} (hx : x.OK c ops) {S : St} (hf : x.fits S) {F : Nat → Prop} {g : Gh} {a : Act} {w : World} (hs : SimX F c.nt g S a w []) (K : Act → World → Prop) (Q : Exit → Act → World → Prop)
    (hK : ∀ v' g' w', g.obj <+: g'.obj → SimX F c.nt g' (x.upd S) (a.put x.o.dst v') w' [] → Step F g w g' w' → K (a.put x.o.dst v') w') : wp1 c ops x.o a w K Q := by
  have hLg : ∀ t, x.L.get t = if t ∈ x.d.rd then S.get t else .undef := fun t => by
    by_cases h : t ∈ x.d.rd
    · rw [if_pos h]; exact hf.1 t h
    · rw [if_neg h]; exact hx.sub t h
  have hMg : ∀ t, (⟨x.d.rd.map (fun t => (t, AV.undef)) ++ S.slots, S.heap⟩ : St).get t = if t ∈ x.d.rd then .undef else S.get t := fun t => get_over (f := fun _ => AV.undef) (H' := S.heap) t _
  obtain ⟨p1, p2⟩ := slotOwns_part hLg hMg a.tmps.toList 0
  have hcore : Core F g S.heap (slotOwns x.L 0 a.tmps.toList ++ slotOwns ⟨x.d.rd.map (fun t => (t, AV.undef)) ++ S.slots, S.heap⟩ 0 a.tmps.toList) w :=
    hs.core.weaken (fun r hr => by
      rw [List.nil_append]
      exact (p2 r).2 (List.mem_append.1 hr)) (fun b => by have := p1 b; simp only [oc_append, oc_nil, List.nil_append]; omega)
  -- the slots behind
  have slotsBehind : ∀ (v' : Value) (g' gj : Gh) (w' : World), (∀ t, t ∈ x.d.rd ++ x.d.wr → VR gj w' (x.L'.get t) ((a.put x.o.dst v').tmps.getD t undef)) → Ext g w gj w' → ∀ t, VR gj w' ((x.upd S).get t) ((a.put x.o.dst v').tmps.getD t undef) := by
    intro v' g' gj w' h1 h2 t
    rw [x.upd_get]
    by_cases hm : t ∈ x.d.rd ++ x.d.wr
    · rw [if_pos hm]; exact h1 t hm
    · rw [if_neg hm]
      have hne : x.o.dst ≠ some t := fun e => by
        rw [← hx.dst] at e
        exact hm (List.mem_append_right _ (by unfold DOper.wr; rw [e]; simp))
      have : (a.put x.o.dst v').tmps.getD t undef = a.tmps.getD t undef := by
        cases hd : x.o.dst with
        | none => rfl
        | some u =>
          rw [hd] at hne
          simp only [Act.put, Array.getD_eq_getD_getElem?]
          rw [Array.getElem?_setIfInBounds_ne (fun e => hne (by rw [e]))]
      rw [this]
      exact VR.ext h2 _ _ (hs.slots t)
  have ownsBehind : ∀ (v' : Value), (∀ b, oc b (slotOwns (x.upd S) 0 (a.put x.o.dst v').tmps.toList) ≤ oc b (slotOwns x.L' 0 (a.put x.o.dst v').tmps.toList) + oc b (slotOwns ⟨x.d.rd.map (fun t => (t, AV.undef)) ++ S.slots, S.heap⟩ 0 a.tmps.toList)) ∧
      ∀ r, r ∈ slotOwns (x.upd S) 0 (a.put x.o.dst v').tmps.toList → r ∈ slotOwns x.L' 0 (a.put x.o.dst v').tmps.toList ∨ r ∈ slotOwns ⟨x.d.rd.map (fun t => (t, AV.undef)) ++ S.slots, S.heap⟩ 0 a.tmps.toList := by
    intro v'
    refine slotOwns_upd (ch := x.d.rd ++ x.d.wr) (d := x.o.dst) (fun t => ?_) (fun t ht => ?_) v' a.tmps.toList _ 0 (fun j hj => ?_) ?_
    · rw [x.upd_get, hMg]
      by_cases hm : t ∈ x.d.rd ++ x.d.wr
      · rw [if_pos hm, if_pos hm]
      · rw [if_neg hm, if_neg hm, if_neg (fun h => hm (List.mem_append_left _ h))]
    · rw [← hx.dst] at ht
      exact List.mem_append_right _ (by unfold DOper.wr; rw [ht]; simp)
    · cases hd : x.o.dst with
      | none => rfl
      | some u =>
        rw [hd] at hj
        simp only [Act.put, Array.toList_setIfInBounds]
        rw [List.getElem?_set_ne (fun e => hj (by rw [Nat.zero_add, e]))]
    · cases x.o.dst <;> simp [Act.put]
  have size : ∀ v', (a.put x.o.dst v').tmps.size = c.nt := fun v' => by
    have := hs.size
    cases x.o.dst <;> simp [Act.put, this]
  have defers : ∀ v', (a.put x.o.dst v').defers = [] := fun v' => by
    have := hs.defers
    cases x.o.dst <;> simp [Act.put, this]
  cases hno : x.isNo with
  | true =>
    have hall : x.isAll = false := by
      unfold It.isNo at hno
      unfold It.isAll
      cases h : x.d.ob <;> rw [h] at hno <;> simp at hno ⊢
    have hsplit := hcore.split (ids := []) (hs := []) List.nodup_nil (by simp) rfl
    have zeroRen : ∀ (g1 g2 : Gh) (w : World), (∀ b, g1.len b ≤ g2.len b) → ∀ (v : AV) (u : Value), below 0 v = true → VR g1 w v u → VR g2 w v u := by
      intro g1 g2 w hl v u hb hv
      exact (VR.ren (g := g1) (g1 := g2) (f := fun i => if i < 0 then some i else none) hl (fun i j b h _ => by simp at h) (noPtr_ok hl) _ _ u (below_ren 0 v hb) hv).1
    have hsimL : SimX (Held F g S.heap [] (slotOwns ⟨x.d.rd.map (fun t => (t, AV.undef)) ++ S.slots, S.heap⟩ 0 a.tmps.toList) w) c.nt (partOf g []) x.L a w [] := by
      refine ⟨hs.size, fun t => ?_, by rw [hx.noH hno]; exact hsplit, hs.defers⟩
      by_cases h : t ∈ x.d.rd
      · have h1 := hs.slots t
        rw [← hf.1 t h] at h1
        exact zeroRen g (partOf g []) w (fun _ => Nat.le_refl _) _ _ (hx.pre hno t h) h1
      · rw [hx.sub t h]; simp only [VR]
    refine hx.sem _ _ a w (partOf g []).obj rfl (List.prefix_refl _) hsimL K Q ?_
    intro v' g' w' hp' hs' hst
    have hc1 := (hs'.core.first (n := 0) (by simp))
    simp only [List.take_zero, List.nil_append] at hc1
    obtain ⟨j1, j2, j3, j4⟩ := hcore.join (ids := []) (g1 := g'.first 0) (hs' := []) (hs'' := []) List.nodup_nil (by simp) hc1 ⟨hst.cell, hst.len, hst.frame, hst.size, hst.os, hst.tape, hst.output⟩ (by simp [partOf]) rfl
    obtain ⟨o1, o2⟩ := ownsBehind v'
    refine hK v' (joinOf g (g'.first 0) []) w' (by simp [joinOf, Gh.first]) ⟨size v', slotsBehind v' g' (joinOf g (g'.first 0) []) w' (fun t ht => zeroRen g' (joinOf g (g'.first 0) []) w' (fun _ => Nat.le_refl _) _ _ (hx.fine hno t ht) (hs'.slots t)) j3, ?_, defers v'⟩ j2
    rw [x.upd_heap, hall]
    have e : addObjs (putObjs S.heap [] []) (([] : List AObj).drop ([] : List Nat).length) = S.heap := by simp [addObjs, putObjs]
    rw [e] at j1
    exact j1.weaken (fun r hr => by
      rw [List.nil_append] at hr
      exact List.mem_append.2 (o2 r hr)) (fun b => by have := o1 b; simp only [oc_append, List.nil_append]; omega)
  | false =>
    have hLh := hf.2 hno
    have hsimL : SimX (fun b => F b ∨ 0 < oc b (slotOwns ⟨x.d.rd.map (fun t => (t, AV.undef)) ++ S.slots, S.heap⟩ 0 a.tmps.toList)) c.nt g x.L a w [] := by
      refine ⟨hs.size, fun t => ?_, by rw [hLh]; exact hcore.setAside, hs.defers⟩
      rw [hLg t]
      by_cases h : t ∈ x.d.rd
      · rw [if_pos h]; exact hs.slots t
      · rw [if_neg h]; simp only [VR]
    refine hx.sem _ _ a w g.obj rfl (List.prefix_refl _) hsimL K Q ?_
    intro v' g' w' hp' hs' hst
    have hc1 := hs'.core
    simp only [List.nil_append] at hc1
    have j1 := hcore.takeBack hc1 hst
    have j3 : Ext g w g' w' := hst.toExt (fun i b hb => by
      obtain ⟨t, ht⟩ := hp'
      rw [← ht, List.getElem?_append_left (List.getElem?_eq_some_iff.1 hb).1]
      exact hb)
    obtain ⟨o1, o2⟩ := ownsBehind v'
    refine hK v' g' w' hp' ⟨size v', slotsBehind v' g' _ w' (fun t _ => hs'.slots t) j3, ?_, defers v'⟩ (hst.weaken fun b hb => .inl hb)
    have e : (x.upd S).heap = x.L'.heap := by
      rw [x.upd_heap]
      cases hall : x.isAll with
      | true => rfl
      | false => rw [hx.look hno hall, hLh]; rfl
    rw [e]
    exact j1.weaken (fun r hr => by
      rw [List.nil_append] at hr
      exact List.mem_append.2 (o2 r hr)) (fun b => by have := o1 b; simp only [oc_append, List.nil_append]; omega)

/-! ### runs along a list -/
def DRun : List It → St → St → Prop
  | [], S, S' => (∀ t, S.get t = S'.get t) ∧ S.heap = S'.heap
  | x :: l, S, S' => x.fits S ∧ DRun l (x.upd S) S'
theorem fits_congr {x : It} {S T : St} (h1 : ∀ t, S.get t = T.get t) (h2 : S.heap = T.heap) (h : x.fits S) : x.fits T := ⟨fun t ht => (h.1 t ht).trans (h1 t), fun hn => (h.2 hn).trans h2⟩
theorem DRun.congr : ∀ {l : List It} {S T S' : St}, (∀ t, S.get t = T.get t) → S.heap = T.heap → DRun l S S' → DRun l T S'
  | [], S, T, S', h1, h2, h => ⟨fun t => (h1 t).symm.trans (h.1 t), h2.symm.trans h.2⟩
  | x :: l, S, T, S', h1, h2, h => ⟨fits_congr h1 h2 h.1, DRun.congr (S := x.upd S) (fun t => by rw [x.upd_get, x.upd_get, h1 t]) (by rw [x.upd_heap, x.upd_heap, h2]) h.2⟩

/-- Two operations that don't meet. -/
structure Apart (x y : It) : Prop where
  xy : ∀ t, t ∈ x.d.wr → t ∉ y.d.rd ∧ t ∉ y.d.wr
  yx : ∀ t, t ∈ y.d.wr → t ∉ x.d.rd ∧ t ∉ x.d.wr
  heapx : x.isAll = true → y.isNo = true
  heapy : y.isAll = true → x.isNo = true

theorem isAll_no {x : It} (h : x.isNo = true) : x.isAll = false := by
  unfold It.isNo at h
  unfold It.isAll
  cases hh : x.d.ob <;> rw [hh] at h <;> simp at h ⊢
theorem swap {ops : Array Oper} {x y : It} {l : List It} {S S' : St} (hx : x.OK c ops) (hy : y.OK c ops) (ha : Apart x y) (h : DRun (x :: y :: l) S S') : DRun (y :: x :: l) S S' := by
  obtain ⟨h1, h2, h3⟩ := h
  have hfy : y.fits S := by
    refine ⟨fun t ht => ?_, fun hn => ?_⟩
    · rw [h2.1 t ht, hx.upd_get' h1]
      rw [if_neg (fun hw => (ha.xy t hw).1 ht)]
    · rw [h2.2 hn, x.upd_heap]
      cases hall : x.isAll with
      | true => rw [ha.heapx hall] at hn; cases hn
      | false => rfl
  have hfx : x.fits (y.upd S) := by
    refine ⟨fun t ht => ?_, fun hn => ?_⟩
    · rw [h1.1 t ht, hy.upd_get' hfy]
      rw [if_neg (fun hw => (ha.yx t hw).1 ht)]
    · rw [h1.2 hn, y.upd_heap]
      cases hall : y.isAll with
      | true => rw [ha.heapy hall] at hn; cases hn
      | false => rfl
  refine ⟨hfy, hfx, DRun.congr (S := y.upd (x.upd S)) (fun t => ?_) ?_ h3⟩
  · rw [hy.upd_get' h2, hx.upd_get' h1, hx.upd_get' hfx, hy.upd_get' hfy]
    by_cases e1 : t ∈ y.d.wr
    · rw [if_pos e1, if_neg (fun e2 => (ha.xy t e2).2 e1), if_pos e1]
    · rw [if_neg e1]
      by_cases e2 : t ∈ x.d.wr
      · rw [if_pos e2, if_pos e2]
      · rw [if_neg e2, if_neg e2, if_neg e1]
  · rw [y.upd_heap, x.upd_heap, x.upd_heap, y.upd_heap]
    cases hax : x.isAll with
    | true => rw [isAll_no (ha.heapx hax)]; rfl
    | false => cases hay : y.isAll <;> rfl
/-- Moved to the front. -/
theorem bubble {ops : Array Oper} {y : It} (hy : y.OK c ops) {B : List It} {S' : St} : ∀ {A : List It} {S : St}, (∀ x ∈ A, x.OK c ops ∧ Apart x y) → DRun (A ++ y :: B) S S' → DRun (y :: (A ++ B)) S S'
  | [], S, _, h => h
  | x :: A, S, hA, h => by
    have h1 : DRun (x :: y :: (A ++ B)) S S' := ⟨h.1, bubble hy (fun z hz => hA z (by simp [hz])) h.2⟩
    obtain ⟨h2, h3⟩ := hA x (by simp)
    exact swap h2 hy h3 h1

/-- What is still to come, in text order. -/
structure Left (c : Cx) (ops : Array Oper) (listed : Array Bool) (T : List It) : Prop where
  ok : ∀ x ∈ T, x.OK c ops
  size : listed.size = ops.size
  mem : ∀ k, k < ops.size → (listed.getD k true = false ↔ ∃ x ∈ T, x.i = k)
  sorted : T.Pairwise fun x y => x.i < y.i
  free : T.Pairwise fun x y => (∃ e ∈ y.o.after, Region.binds .any e = true ∧ e.on = x.i) ∨ Apart x y
  back : ∀ x ∈ T, ∀ e ∈ x.o.after, Region.binds .any e = true → e.on < x.i

theorem lt_size {ops : Array Oper} {x : It} (h : x.OK c ops) : x.i < ops.size := (Array.getElem?_eq_some_iff.1 h.here).1
theorem ready_iff {ops : Array Oper} {listed : Array Bool} {i : Nat} {o : Oper} (hi : ops[i]? = some o) : i ∈ Region.ready .any ops listed ↔ listed.getD i true = false ∧ ∀ e ∈ o.after, Region.binds .any e = true → listed.getD e.on false = true := by
  unfold Region.ready
  have hlt : i < ops.size := (Array.getElem?_eq_some_iff.1 hi).1
  simp only [List.mem_filter, List.mem_range, hlt, true_and, hi, Option.map_some, Option.getD_some, Bool.and_eq_true, Bool.not_eq_true', Array.all_eq_true_iff_forall_mem, Bool.or_eq_true, Bool.not_eq_eq_eq_not, Bool.not_true]
  constructor
  · rintro ⟨h1, h2⟩
    exact ⟨h1, fun e he hb => (h2 e he).resolve_left (by simp [hb])⟩
  · rintro ⟨h1, h2⟩
    refine ⟨h1, fun e he => ?_⟩
    cases hb : Region.binds .any e with
    | true => exact .inr (h2 e he hb)
    | false => exact .inl rfl

theorem any_of_run {ops : Array Oper} {Q : Exit → Act → World → Prop} {S' : St} : ∀ (n : Nat) (T : List It) (listed : Array Bool) (S : St) (F : Nat → Prop) (g : Gh) (a : Act) (w : World), T.length = n → Left c ops listed T → DRun T S S' → SimX F c.nt g S a w [] →
    (∀ g' a' w', g.obj <+: g'.obj → SimX F c.nt g' S' a' w' [] → Step F g w g' w' → Q .normal a' w') → wpAny c.P .any ops Q n listed a w
  | 0, T, listed, S, F, g, a, w, hn, hl, hr, hs, hQ => by
    have hT : T = [] := List.length_eq_zero_iff.1 hn
    subst hT
    refine ⟨?_, hQ g a w (List.prefix_refl _) (hs.forget (fun t => .inl (hr.1 t).symm) hr.2.symm) (Step.refl _ _ _)⟩
    rw [List.eq_nil_iff_forall_not_mem]
    intro i hi
    have hlt : i < ops.size := by
      unfold Region.ready at hi
      simpa using (List.mem_filter.1 hi).1
    obtain ⟨h1, _⟩ := (ready_iff (Array.getElem?_eq_getElem hlt)).1 hi
    obtain ⟨x, hx, _⟩ := (hl.mem i hlt).1 h1
    simp at hx
  | n + 1, T, listed, S, F, g, a, w, hn, hl, hr, hs, hQ => by
    refine ⟨fun hnil => ?_, fun i hi => ?_⟩
    · -- the first is ready
      exfalso
      cases T with
      | nil => simp at hn
      | cons x T =>
        have hx := hl.ok x (by simp)
        have hmem : x.i ∈ Region.ready .any ops listed := (ready_iff hx.here).2 ⟨(hl.mem x.i (lt_size hx)).2 ⟨x, by simp, rfl⟩, fun e he hb => ?_⟩
        · rw [hnil] at hmem; simp at hmem
        · have hlt := hl.back x (by simp) e he hb
          have hlt2 := lt_size hx
          have hsz : e.on < listed.size := by rw [hl.size]; omega
          have : ¬ (listed.getD e.on true = false) := fun hf => by
            obtain ⟨y, hy, hyi⟩ := (hl.mem e.on (by omega)).1 hf
            rcases List.mem_cons.1 hy with rfl | hy
            · omega
            · have := (List.pairwise_cons.1 hl.sorted).1 y hy
              omega
          rw [Array.getD_eq_getD_getElem?, Array.getElem?_eq_getElem hsz] at this ⊢
          simpa using this
    · have hlt : i < ops.size := by
        unfold Region.ready at hi
        simpa using (List.mem_filter.1 hi).1
      obtain ⟨h1, h2⟩ := (ready_iff (Array.getElem?_eq_getElem hlt)).1 hi
      obtain ⟨y, hy, hyi⟩ := (hl.mem i hlt).1 h1
      obtain ⟨A, B, rfl⟩ := List.append_of_mem hy
      have hyok := hl.ok y hy
      have hoy : y.o = ops[i] := by
        have := hyok.here
        rw [hyi, Array.getElem?_eq_getElem hlt] at this
        injection this with this
        exact this.symm
      obtain ⟨hA1, hA2, hA3⟩ := List.pairwise_append.1 hl.free
      obtain ⟨hB1, hB2, hB3⟩ := List.pairwise_append.1 hl.sorted
      have hpre : ∀ x ∈ A, x.OK c ops ∧ Apart x y := fun x hx => by
        have hxok := hl.ok x (by simp [hx])
        refine ⟨hxok, (hA3 x hx y (by simp)).resolve_left ?_⟩
        rintro ⟨e, he, hb, heq⟩
        rw [hoy] at he
        have h3 := h2 e he hb
        have h4 := (hl.mem x.i (lt_size hxok)).2 ⟨x, by simp [hx], rfl⟩
        rw [heq] at h3
        have hsz : x.i < listed.size := by rw [hl.size]; exact lt_size hxok
        rw [Array.getD_eq_getD_getElem?, Array.getElem?_eq_getElem hsz] at h3 h4
        simp at h3 h4
        rw [h3] at h4
        cases h4
      have hrun := bubble hyok hpre hr
      have key : wp1 c ops y.o a w (wpAny c.P .any ops Q n (listed.setIfInBounds i true)) Q := by
        refine hyok.step hrun.1 hs _ Q fun v' g' w' hp' hs' hst => ?_
        refine any_of_run n (A ++ B) _ _ F g' _ w' (by simp at hn ⊢; omega) ?_ hrun.2 hs' (fun g'' a'' w'' hp'' hs'' hst' => hQ g'' a'' w'' (hp'.trans hp'') hs'' (hst.trans hst'))
        have hsubl : (A ++ B).Sublist (A ++ y :: B) := List.Sublist.append (List.Sublist.refl A) (List.sublist_cons_self y B)
        refine ⟨fun x hx => hl.ok x (hsubl.subset hx), by simp [hl.size], fun k hk => ?_, hl.sorted.sublist hsubl, hl.free.sublist hsubl, fun x hx => hl.back x (hsubl.subset hx)⟩
        have hsz : k < listed.size := by rw [hl.size]; exact hk
        by_cases hki : k = i
        · subst hki
          constructor
          · intro hf
            rw [Array.getD_eq_getD_getElem?, Array.getElem?_setIfInBounds_self_of_lt hsz] at hf
            simp at hf
          · rintro ⟨x, hx, hxi⟩
            exfalso
            rcases List.mem_append.1 hx with hx | hx
            · have := hB3 x hx y (by simp)
              omega
            · have := (List.pairwise_cons.1 hB2).1 x hx
              omega
        · rw [Array.getD_eq_getD_getElem?, Array.getElem?_setIfInBounds_ne (Ne.symm hki), ← Array.getD_eq_getD_getElem?, hl.mem k hk]
          constructor
          · rintro ⟨x, hx, hxi⟩
            refine ⟨x, ?_, hxi⟩
            simp only [List.mem_append, List.mem_cons] at hx ⊢
            rcases hx with hx | rfl | hx
            · exact .inl hx
            · omega
            · exact .inr hx
          · rintro ⟨x, hx, hxi⟩
            exact ⟨x, hsubl.subset hx, hxi⟩
      show wpOp c.P ops Q i _ a w
      unfold wpOp
      rw [Array.getElem?_eq_getElem hlt]
      simp only
      rw [hoy] at key
      exact key

/-! ### the check over a drawn region -/
def dis (l m : List Nat) : Bool := l.all fun t => !m.contains t
theorem dis_spec {l m : List Nat} (h : dis l m = true) : ∀ t ∈ l, t ∉ m := fun t ht hm => by
  have := List.all_eq_true.1 h t ht
  simp [hm] at this
def OB.isNo : OB → Bool | .no => true | _ => false
def OB.isAll : OB → Bool | .all => true | _ => false
/-- Do two operations not meet. -/
def apartB (x y : DOper) : Bool :=
  dis x.wr y.rd && dis x.wr y.wr && dis y.wr x.rd && (!x.ob.isAll || y.ob.isNo) && (!y.ob.isAll || x.ob.isNo)
def edgeB (y : Oper) (i : Nat) : Bool := y.after.any fun e => Region.binds .any e && e.on == i
/-- Behind number i: each waits for it or doesn't meet it. -/
def freeB (x : DOper) (i : Nat) : List DOper → List Oper → Bool
  | y :: ys, o :: os => (edgeB o i || apartB x y) && freeB x i ys os
  | _, _ => true
def drawnB : Nat → List DOper → List Oper → Bool
  | i, d :: ds, o :: os => (o.after.all fun e => !Region.binds .any e || Nat.blt e.on i) && freeB d i ds os && drawnB (i + 1) ds os
  | _, _, _ => true
def fitDr (nt : Nat) (ops : Array Oper) : List DOper → List Oper → Bool
  | [], [] => true
  | d :: ds, o :: os => fitD nt d.op.dst o.dst && fitG ops d.op.guard o.guard && fitDr nt ops ds os
  | _, _ => false
def DrOK (c : Cx) : List DOper → List Oper → Prop
  | d :: ds, o :: os => OpOK c d.op.op o ∧ DrOK c ds os
  | _, _ => True

/-- The items of a region, from number i on. -/
def Items : Nat → List DOper → List Oper → List It → Prop
  | i, d :: ds, o :: os, x :: xs => x.i = i ∧ x.o = o ∧ x.d = d ∧ Items (i + 1) ds os xs
  | _, [], [], [] => True
  | _, _, _, _ => False
theorem items_ge : ∀ {i : Nat} {ds : List DOper} {os : List Oper} {T : List It}, Items i ds os T → ∀ x ∈ T, i ≤ x.i ∧ x.i < i + os.length
  | i, [], [], [], _, x, hx => by simp at hx
  | i, [], [], _ :: _, h, _, _ => by simp [Items] at h
  | i, [], _ :: _, T, h, _, _ => by cases T <;> simp [Items] at h
  | i, _ :: _, [], T, h, _, _ => by cases T <;> simp [Items] at h
  | i, d :: ds, o :: os, [], h, _, _ => by simp [Items] at h
  | i, d :: ds, o :: os, y :: T, h, x, hx => by
    obtain ⟨h1, h2, h3, h4⟩ := h
    rcases List.mem_cons.1 hx with rfl | hx
    · simp; omega
    · have := items_ge h4 x hx
      simp; omega
theorem items_all : ∀ {i : Nat} {ds : List DOper} {os : List Oper} {T : List It}, Items i ds os T → ∀ k, i ≤ k → k < i + os.length → ∃ x ∈ T, x.i = k
  | i, [], [], [], _, k, h1, h2 => by simp at h2; omega
  | i, [], [], _ :: _, h, _, _, _ => by simp [Items] at h
  | i, [], _ :: _, T, h, _, _, _ => by cases T <;> simp [Items] at h
  | i, _ :: _, [], T, h, _, _, _ => by cases T <;> simp [Items] at h
  | i, d :: ds, o :: os, [], h, _, _, _ => by simp [Items] at h
  | i, d :: ds, o :: os, y :: T, h, k, h1, h2 => by
    obtain ⟨h3, _, _, h4⟩ := h
    by_cases e : k = i
    · exact ⟨y, by simp, by omega⟩
    · obtain ⟨x, hx, hxi⟩ := items_all h4 k (by omega) (by simp at h2; omega)
      exact ⟨x, by simp [hx], hxi⟩
theorem apart_of {x y : It} (h : apartB x.d y.d = true) : Apart x y := by
  simp only [apartB, Bool.and_eq_true] at h
  obtain ⟨⟨⟨⟨h1, h2⟩, h3⟩, h4⟩, h5⟩ := h
  refine ⟨fun t ht => ⟨dis_spec h1 t ht, dis_spec h2 t ht⟩, fun t ht => ⟨dis_spec h3 t ht, fun hx => dis_spec h2 t hx ht⟩, fun hx => ?_, fun hx => ?_⟩
  · unfold It.isAll at hx
    unfold It.isNo
    cases hxo : x.d.ob <;> rw [hxo] at hx h4 <;> cases hyo : y.d.ob <;> rw [hyo] at h4 <;> simp [OB.isAll, OB.isNo] at h4 hx ⊢
  · unfold It.isAll at hx
    unfold It.isNo
    cases hxo : y.d.ob <;> rw [hxo] at hx h5 <;> cases hyo : x.d.ob <;> rw [hyo] at h5 <;> simp [OB.isAll, OB.isNo] at h5 hx ⊢
theorem edge_of {o : Oper} {i : Nat} (h : edgeB o i = true) : ∃ e ∈ o.after, Region.binds .any e = true ∧ e.on = i := by
  unfold edgeB at h
  obtain ⟨e, he, h2⟩ := Array.any_eq_true'.1 h
  simp only [Bool.and_eq_true, beq_iff_eq] at h2
  exact ⟨e, he, h2⟩
theorem free_of {x : It} : ∀ {i : Nat} {ds : List DOper} {os : List Oper} {T : List It}, Items i ds os T → freeB x.d x.i ds os = true → ∀ y ∈ T, (∃ e ∈ y.o.after, Region.binds .any e = true ∧ e.on = x.i) ∨ Apart x y
  | i, [], [], [], _, _, y, hy => by simp at hy
  | i, [], [], _ :: _, h, _, _, _ => by simp [Items] at h
  | i, [], _ :: _, T, h, _, _, _ => by cases T <;> simp [Items] at h
  | i, _ :: _, [], T, h, _, _, _ => by cases T <;> simp [Items] at h
  | i, d :: ds, o :: os, [], h, _, _, _ => by simp [Items] at h
  | i, d :: ds, o :: os, z :: T, h, hf, y, hy => by
    obtain ⟨h1, h2, h3, h4⟩ := h
    simp only [freeB, Bool.and_eq_true, Bool.or_eq_true] at hf
    rcases List.mem_cons.1 hy with rfl | hy
    · rcases hf.1 with h5 | h5
      · exact .inl (by rw [h2]; exact edge_of h5)
      · exact .inr (apart_of (by rw [h3]; exact h5))
    · exact free_of h4 hf.2 y hy
theorem drawn_of : ∀ {i : Nat} {ds : List DOper} {os : List Oper} {T : List It}, Items i ds os T → drawnB i ds os = true → (T.Pairwise fun x y => x.i < y.i) ∧ (T.Pairwise fun x y => (∃ e ∈ y.o.after, Region.binds .any e = true ∧ e.on = x.i) ∨ Apart x y) ∧ ∀ x ∈ T, ∀ e ∈ x.o.after, Region.binds .any e = true → e.on < x.i
  | i, [], [], [], _, _ => by simp
  | i, [], [], _ :: _, h, _ => by simp [Items] at h
  | i, [], _ :: _, T, h, _ => by cases T <;> simp [Items] at h
  | i, _ :: _, [], T, h, _ => by cases T <;> simp [Items] at h
  | i, d :: ds, o :: os, [], h, _ => by simp [Items] at h
  | i, d :: ds, o :: os, x :: T, h, hd => by
    obtain ⟨h1, h2, h3, h4⟩ := h
    simp only [drawnB, Bool.and_eq_true] at hd
    obtain ⟨⟨hd1, hd2⟩, hd3⟩ := hd
    obtain ⟨k1, k2, k3⟩ := drawn_of h4 hd3
    refine ⟨List.pairwise_cons.2 ⟨fun y hy => by have := items_ge h4 y hy; omega, k1⟩, List.pairwise_cons.2 ⟨free_of h4 (by rw [h3, h1]; exact hd2), k2⟩, fun y hy => ?_⟩
    rcases List.mem_cons.1 hy with rfl | hy
    · intro e he hb
      rw [h2] at he
      have h5 := Array.all_eq_true_iff_forall_mem.1 hd1 e he
      simp only [hb, Bool.not_true, Bool.false_or] at h5
      rw [h1]
      exact Nat.le_of_ble_eq_true h5
    · exact k3 y hy

theorem runD_ok {ops : Array Oper} {R : Type} {k : St → Option R} {r : R} : ∀ (ds : List DOper) (os : List Oper) (i : Nat) (s : St), (∀ j, os[j]? = ops[i + j]?) → fitDr c.nt ops ds os = true → DrOK c ds os → runD ds s R k = some r →
    ∃ T S', Items i ds os T ∧ (∀ x ∈ T, x.OK c ops) ∧ DRun T s S' ∧ k S' = some r
  | [], [], i, s, _, _, _, h => ⟨[], s, by simp [Items], by simp, ⟨fun _ => rfl, rfl⟩, h⟩
  | [], _ :: _, _, _, _, h, _, _ => by simp [fitDr] at h
  | _ :: _, [], _, _, _, h, _, _ => by simp [fitDr] at h
  | d :: ds, o :: os, i, s, hj, hf, hok, h => by
    simp only [fitDr, Bool.and_eq_true] at hf
    obtain ⟨⟨hd, hg⟩, hrest⟩ := hf
    simp only [runD] at h
    obtain ⟨hpre, h1⟩ | ⟨_, h1⟩ := cond_some h
    case inr => exact absurd h1 (by simp)
    have h2 := runOne_keeps h1
    obtain ⟨L', h3, h4⟩ := runOne_ok (ops := ops) (o := o) hd hg hok.1 h2
    by_cases hk : (∀ t, t ∉ d.wr → L'.get t = (d.loc s).get t) ∧ (d.op.op.still = true → L'.heap = (d.loc s).heap)
    · rw [if_pos hk] at h3
      obtain ⟨hfine, h5⟩ | ⟨_, h5⟩ := cond_some h3
      case inr => exact absurd h5 (by simp)
      obtain ⟨T, S', h6, h7, h8, h9⟩ := runD_ok ds os (i + 1) (d.upd s L') (fun j => by have := hj (j + 1); simp only [List.getElem?_cons_succ] at this; rw [this]; congr 1; omega) hrest hok.2 h5
      have hloc : ∀ t, (d.loc s).get t = if t ∈ d.rd then s.get t else .undef := fun t => by
        have := get_over (f := s.get) (l := []) (H := (d.loc s).heap) (H' := []) t d.rd
        simp only [List.append_nil] at this
        exact this
      refine ⟨⟨i, o, d, d.loc s, L'⟩ :: T, S', ⟨rfl, rfl, rfl, h6⟩, fun x hx => ?_, ⟨⟨fun t ht => by rw [hloc, if_pos ht], fun hn => ?_⟩, h8⟩, h9⟩
      · rcases List.mem_cons.1 hx with rfl | hx
        · have h0 := hj 0
          refine ⟨by simpa using h0.symm, (fitD_ok hd).1, h4, fun t ht => by rw [hloc, if_neg ht], fun hn => ?_, fun hn t ht => ?_, hk.1, fun hn ha => ?_, fun hn t ht => ?_⟩
          · simp only [It.isNo] at hn
            simp only [DOper.loc]
            cases hob : d.ob <;> rw [hob] at hn <;> simp at hn ⊢
          · simp only [It.isNo] at hn
            rw [hloc, if_pos ht]
            unfold DOper.pre at hpre
            cases hob : d.ob <;> rw [hob] at hn hpre <;> simp at hn
            exact belowL_all hpre _ (List.mem_map.2 ⟨t, ht, rfl⟩)
          · simp only [It.isNo] at hn
            simp only [It.isAll] at ha
            refine hk.2 ?_
            unfold DOper.fine at hfine
            cases hob : d.ob <;> rw [hob] at hn ha hfine <;> simp at hn ha
            exact hfine
          · simp only [It.isNo] at hn
            unfold DOper.fine at hfine
            cases hob : d.ob <;> rw [hob] at hn hfine <;> simp at hn
            exact belowL_all hfine _ (List.mem_map.2 ⟨t, ht, rfl⟩)
        · exact h7 x hx
      · simp only [It.isNo] at hn
        simp only [DOper.loc]
        cases hob : d.ob <;> rw [hob] at hn <;> simp at hn ⊢
    · rw [if_neg hk] at h3
      exact absurd h3 (by simp)

theorem snd_drawn {id : Nat} {ds : List DOper} {l : List Oper} (hm : c.P.follows .mixedOrders = true) (hf : fitDr c.nt l.toArray ds l = true) (hd : drawnB 0 ds l = true) (hok : DrOK c ds l) : Snd c (edrawn ds) (.region id l.toArray true) := by
  intro s R k r h
  obtain ⟨T, S', h1, h2, h3, h4⟩ := runD_ok (ops := l.toArray) ds l 0 s (fun j => by simp) hf hok h
  refine ⟨.normal, S', h4, fun F g a w B hB hp hs => wp_region_any hm ?_⟩
  obtain ⟨k1, k2, k3⟩ := drawn_of h1 hd
  have hlen : T.length = l.toArray.size := by
    have : ∀ {i : Nat} {ds : List DOper} {os : List Oper} {T : List It}, Items i ds os T → T.length = os.length := by
      intro i ds os T
      induction T generalizing i ds os with
      | nil => intro h; cases ds <;> cases os <;> simp [Items] at h ⊢
      | cons x T ih =>
        intro h
        cases ds with
        | nil => cases os <;> simp [Items] at h
        | cons d ds =>
          cases os with
          | nil => simp [Items] at h
          | cons o os => simp [ih h.2.2.2]
    simpa using this h1
  have hdrew : SimX F c.nt g s a { w with drawn := w.drawn + 1 } [] := by
    have hext : Ext g w g { w with drawn := w.drawn + 1 } := ⟨fun _ _ _ => rfl, fun _ => Nat.le_refl _, fun _ _ h => h⟩
    have hobj := ObjsR.move hext s.heap g.obj hs.core.heap (fun _ _ => rfl)
    have hc := hs.core
    refine hs.move hext ⟨hobj.1, fun r hr => ?_, fun b => ?_, fun b hF => ?_, hc.objlen, hc.lenlt, hc.flt, hc.good.step (fun _ h => h) fun _ _ => rfl⟩
    · rw [hobj.2] at hr; exact hc.own r hr
    · rw [hobj.2]; exact hc.dist b
    · rw [hobj.2]; exact hc.notF b hF
  refine any_of_run l.toArray.size T (Array.replicate l.toArray.size false) s F g a _ hlen ⟨h2, by simp, fun k hk => ?_, k1, k2, k3⟩ h3 hdrew (fun g' a' w' hp' hs' hst => ⟨rfl, g', hp.trans hp', hs', hst.cell, hst.len, hst.frame, hst.size, hst.os, hst.tape, hst.output⟩)
  constructor
  · intro _
    exact items_all h1 k (Nat.zero_le _) (by simpa using hk)
  · intro _
    rw [Array.getD_eq_getD_getElem?, Array.getElem?_replicate, if_pos hk]
    rfl
end Go.Sh

/- Rows of one's own as objects: they turn, are cut short, appended to in place or not, and become rows again. -/
import Derived.Test.YtcbgfjghebopoaaDoorSZ
import Derived.Test.YtcbgfjghebopoaaDoorS1
import Derived.Test.YtcbgfjghebopoaaDoorSV3
namespace Go.Sh
open Go.RowKit
set_option linter.unusedSimpArgs false
set_option linter.unusedVariables false
variable {c : Cx} {o : Oper}

/-- A block that nobody claims. -/
def Free (F : Nat → Prop) (g : Gh) (H : List AObj) (os : List Rec) (w : World) (k : Nat) : Prop := ¬ F k ∧ oc k os + oc k (ownsH w H g.obj) + (lives H g.obj).count k = 0 ∧ g.len k = 0
theorem Core.free_ge {F : Nat → Prop} {g : Gh} {H : List AObj} {os : List Rec} {w : World} (h : Core F g H os w) {k : Nat} (hk : w.heap.size ≤ k) : Free F g H os w k := by
  refine ⟨fun hF => by have := h.flt k hF; omega, ?_, ?_⟩
  · have a1 : oc k os = 0 := by
      rcases Nat.eq_zero_or_pos (oc k os) with e | e
      · exact e
      · obtain ⟨r, hr, hr2⟩ := List.countP_pos_iff.1 e
        have := (h.own r (.inl hr)).lt
        simp at hr2
        omega
    have a2 : oc k (ownsH w H g.obj) = 0 := by
      rcases Nat.eq_zero_or_pos (oc k (ownsH w H g.obj)) with e | e
      · exact e
      · obtain ⟨r, hr, hr2⟩ := List.countP_pos_iff.1 e
        have := (h.own r (.inr hr)).lt
        simp at hr2
        omega
    have a3 : (lives H g.obj).count k = 0 := List.count_eq_zero.2 (fun hm => by have := h.heap.lt _ hm; omega)
    omega
  · rcases Nat.eq_zero_or_pos (g.len k) with e | e
    · exact e
    · have := h.lenlt k e; omega
/-- The world turns where nobody claims anything. -/
theorem Core.elsewhere {F : Nat → Prop} {g : Gh} {H : List AObj} {os : List Rec} {w w' : World} (h : Core F g H os w) (hk : ∀ k, k < w.heap.size → w'.heap[k]? = w.heap[k]? ∨ Free F g H os w k) (hbz : ∀ b, bsize w b ≤ bsize w' b)
    (hs : w.heap.size ≤ w'.heap.size) (ho : w'.os = w.os) (ht : w'.tape = w.tape) (hout : w'.output = w.output) : Ext g w g w' ∧ Step F g w g w' ∧ Core F g H os w' := by
  have hl : ∀ b, 0 < g.len b → w'.heap[b]? = w.heap[b]? := fun b hb => (hk b (h.lenlt b hb)).resolve_right (fun hf => by have := hf.2.2; omega)
  have hF : ∀ b, F b → w'.heap[b]? = w.heap[b]? := fun b hb => (hk b (h.flt b hb)).resolve_right (fun hf => hf.1 hb)
  have ext : Ext g w g w' := ⟨fun b j hj => cell_of (hl b (by omega)) j, fun b hb => tyOf_block (hl b hb), hbz, fun _ => Nat.le_refl _, fun _ _ h => h⟩
  have hobj := ObjsR.move ext H g.obj h.heap (fun b hb => (hk b (h.heap.lt b hb)).resolve_right (fun hf => by have := List.count_pos_iff.2 hb; have := hf.2.1; omega))
  refine ⟨ext, ⟨ext.cell, ext.ty, ext.bsz, ext.len, fun b hb => ⟨hF b hb, rfl⟩, hs, ho, ht, hout⟩, hobj.1, fun r hr => ?_, fun b => ?_, fun b hb => ?_, h.objlen, fun b hb => Nat.lt_of_lt_of_le (h.lenlt b hb) hs, fun b hb => Nat.lt_of_lt_of_le (h.flt b hb) hs, h.good.step (fun _ h => h) hF⟩
  · rw [hobj.2] at hr
    have h1 := h.own r hr
    obtain ⟨o1, o2, arr, t, o3, o4⟩ := h1
    exact ⟨o1, o2, arr, t, o3.of_heap ((hk r.1 o3.lt).resolve_right (fun hf => by
      have := hf.2.1
      rcases hr with hr | hr
      · have := oc_mem hr; omega
      · have := oc_mem hr; omega)), o4⟩
  · rw [hobj.2]; exact h.dist b
  · rw [hobj.2]; exact h.notF b hb

theorem ObjsR.gone {g : Gh} {w : World} : ∀ {H : List AObj} {bs : List Nat} (id : Nat), ObjsR g w H bs → ObjsR g w (H.set id .gone) bs
  | [], bs, id, h => by simpa using h
  | x :: H, bs, 0, h => by
    simp only [ObjsR] at h
    obtain ⟨b, cs, rfl, h1, h2⟩ := h
    simp only [List.set_cons_zero, ObjsR]
    exact ⟨b, cs, rfl, trivial, h2⟩
  | x :: H, bs, id + 1, h => by
    simp only [ObjsR] at h
    obtain ⟨b, cs, rfl, h1, h2⟩ := h
    simp only [List.set_cons_succ, ObjsR]
    exact ⟨b, cs, rfl, h1, ObjsR.gone id h2⟩
theorem lives_gone : ∀ {H : List AObj} {bs : List Nat} (id : Nat) (x : Nat), (lives (H.set id .gone) bs).count x ≤ (lives H bs).count x
  | [], bs, id, x => by simp
  | y :: H, [], id, x => by cases id <;> simp [lives]
  | y :: H, b :: bs, 0, x => by
    rw [List.set_cons_zero, lives, lives]
    cases y.dead with
    | true => exact Nat.le_refl _
    | false => exact List.count_le_count_cons
  | y :: H, b :: bs, id + 1, x => by
    have := lives_gone (H := H) (bs := bs) id x
    rw [List.set_cons_succ, lives, lives]
    cases y.dead with
    | true => exact this
    | false => simp only [cond_false, List.count_cons]; omega
theorem lives_gone_at : ∀ {H : List AObj} {bs : List Nat} {id b : Nat} {o : AObj}, H[id]? = some o → bs[id]? = some b → o.dead = false → (lives (H.set id .gone) bs).count b + 1 ≤ (lives H bs).count b
  | [], _, _, _, _, h, _, _ => by simp at h
  | x :: H, [], _, _, _, _, h, _ => by simp at h
  | x :: H, c :: cs, 0, b, o, h1, h2, hd => by
    simp at h1 h2
    subst h1 h2
    rw [List.set_cons_zero, lives, lives, hd]
    simp [AObj.dead]
  | x :: H, c :: cs, i + 1, b, o, h1, h2, hd => by
    simp at h1 h2
    have := lives_gone_at h1 h2 hd
    rw [List.set_cons_succ, lives, lives]
    cases x.dead with
    | true => exact this
    | false => simp only [cond_false, List.count_cons]; omega
theorem ownsH_gone {w : World} : ∀ {H : List AObj} {bs : List Nat} (id : Nat), (∀ x, oc x (ownsH w (H.set id .gone) bs) ≤ oc x (ownsH w H bs)) ∧ ∀ r, r ∈ ownsH w (H.set id .gone) bs → r ∈ ownsH w H bs
  | [], bs, id => by simp
  | y :: H, [], id => by cases id <;> simp [ownsH]
  | y :: H, b :: bs, 0 => by
    rw [List.set_cons_zero, ownsH, ownsH]
    exact ⟨fun x => by simp only [ownsO, oc_append, oc_nil]; omega, fun r hr => by simp only [ownsO, List.nil_append] at hr; exact List.mem_append_right _ hr⟩
  | y :: H, b :: bs, id + 1 => by
    obtain ⟨h1, h2⟩ := ownsH_gone (w := w) (H := H) (bs := bs) id
    rw [List.set_cons_succ, ownsH, ownsH]
    exact ⟨fun x => by have := h1 x; simp only [oc_append]; omega, fun r hr => by
      rcases List.mem_append.1 hr with hr | hr
      · exact List.mem_append_left _ hr
      · exact List.mem_append_right _ (h2 r hr)⟩
/-- An object is used no more. -/
theorem Core.setGone {F : Nat → Prop} {g : Gh} {H : List AObj} {os : List Rec} {w : World} (h : Core F g H os w) (id : Nat) : Core F g (H.set id .gone) os w ∧ ∀ (o : AObj) (b : Nat), H[id]? = some o → g.obj[id]? = some b → o.dead = false → Free F g (H.set id .gone) os w b := by
  obtain ⟨h1, h2⟩ := ownsH_gone (w := w) (H := H) (bs := g.obj) id
  refine ⟨⟨h.heap.gone id, fun r hr => h.own r (hr.imp_right (h2 r)), fun b => ?_, fun b hb => ?_, fun b hb => ?_, h.lenlt, h.flt, h.good⟩, fun o b ho hb hd => ?_⟩
  · have := h.dist b; have := h1 b; have := lives_gone (H := H) (bs := g.obj) id b; omega
  · have := h.notF b hb; have := h1 b; have := lives_gone (H := H) (bs := g.obj) id b; omega
  · have h3 := List.count_pos_iff.2 hb
    have := lives_gone (H := H) (bs := g.obj) id b
    exact h.objlen b (List.count_pos_iff.1 (by omega))
  · have hm := lives_at ho hb hd
    have h3 := List.count_pos_iff.2 hm
    have h4 := h.dist b
    have h5 := lives_gone_at ho hb hd
    have h6 := h1 b
    exact ⟨fun hF => by have := h.notF b hF; omega, by omega, h.objlen b hm⟩
/-- A block that nobody claims becomes a row of one's own. -/
theorem Core.addRec {F : Nat → Prop} {g : Gh} {H : List AObj} {os : List Rec} {w : World} {b k cp : Nat} {arr : Array Value} {t : TypeId} (h : Core F g H os w) (hf : Free F g H os w b) (hw : CellsAt w b arr t) (hk : k ≤ cp) (hc : cp ≤ arr.size) :
    Ext g w (g.set b k) w ∧ Step F g w (g.set b k) w ∧ Core F (g.set b k) H ((b, k, cp) :: os) w := by
  obtain ⟨f1, f2, f3⟩ := hf
  have ext : Ext g w (g.set b k) w := ⟨fun _ _ _ => rfl, fun _ _ => rfl, fun _ => Nat.le_refl _, fun x => by
    by_cases e : x = b
    · subst e; rw [f3]; exact Nat.zero_le _
    · simp [Gh.set, e], fun _ _ h => h⟩
  have hobj := ObjsR.move ext H g.obj h.heap (fun _ _ => rfl)
  refine ⟨ext, ⟨ext.cell, ext.ty, ext.bsz, ext.len, fun x hx => ⟨rfl, ?_⟩, Nat.le_refl _, rfl, rfl, rfl⟩, hobj.1, fun r hr => ?_, fun x => ?_, fun x hx => ?_, fun x hx => ?_, fun x hx => ?_, h.flt, h.good⟩
  · have : x ≠ b := fun e => f1 (e ▸ hx)
    simp [Gh.set, this]
  · have other : r ∈ os ∨ r ∈ ownsH w H g.obj → OwnOK (g.set b k) w r := fun hr => by
      have hne : r.1 ≠ b := fun e => by
        rcases hr with hr | hr
        · have := oc_mem hr; rw [e] at this; omega
        · have := oc_mem hr; rw [e] at this; omega
      obtain ⟨o1, o2, o3⟩ := h.own r hr
      exact ⟨by simp [Gh.set, hne, o1], o2, o3⟩
    rcases hr with hr | hr
    · rcases List.mem_cons.1 hr with rfl | hr
      · exact ⟨by simp [Gh.set], hk, arr, t, hw, hc⟩
      · exact other (.inl hr)
    · exact other (.inr hr)
  · have := h.dist x
    show oc x ((b, k, cp) :: os) + oc x (ownsH w H g.obj) + (lives H g.obj).count x ≤ 1
    rw [oc_cons]
    by_cases e : b = x
    · subst e; simp; omega
    · simp only [e, if_false]; omega
  · have := h.notF x hx
    show oc x ((b, k, cp) :: os) + oc x (ownsH w H g.obj) + (lives H g.obj).count x = 0
    rw [oc_cons]
    have e : b ≠ x := fun e => f1 (e ▸ hx)
    simp only [e, if_false]; omega
  · have e : x ≠ b := fun e => by subst e; have := List.count_pos_iff.2 (show x ∈ lives H g.obj from hx); omega
    simp [Gh.set, e]; exact h.objlen x hx
  · by_cases e : x = b
    · subst e; exact hw.lt
    · simp [Gh.set, e] at hx; exact h.lenlt x hx
/-- What was appended becomes an object. -/
theorem Core.newRow {F : Nat → Prop} {g : Gh} {H : List AObj} {os : List Rec} {w w' : World} {b' : Nat} {ob : AObj} (h : Core F g H os w) (hk : ∀ k, k < w.heap.size → w'.heap[k]? = w.heap[k]? ∨ Free F g H os w k) (hbz : ∀ b, bsize w b ≤ bsize w' b)
    (hs : w.heap.size ≤ w'.heap.size) (ho : w'.os = w.os) (ht : w'.tape = w.tape) (hout : w'.output = w.output) (hf : Free F g H os w b') (hO : ∀ w, ownsO w b' ob = []) (hR : ∀ g', ObjR g' w' b' ob) :
    Ext g w ⟨g.obj ++ [b'], g.len⟩ w' ∧ Step F g w ⟨g.obj ++ [b'], g.len⟩ w' ∧ Core F ⟨g.obj ++ [b'], g.len⟩ (H ++ [ob]) os w' := by
  obtain ⟨e1, e2, e3⟩ := h.elsewhere hk hbz hs ho ht hout
  have hobj := ObjsR.move e1 H g.obj h.heap (fun b hb => (hk b (h.heap.lt b hb)).resolve_right (fun hf => by have := List.count_pos_iff.2 hb; have := hf.2.1; omega))
  refine ⟨⟨e1.cell, e1.ty, e1.bsz, e1.len, fun i b hi => ?_⟩, ⟨e2.cell, e2.ty, e2.bsz, e2.len, e2.frame, e2.size, e2.os, e2.tape, e2.output⟩, e3.addObj (by rw [hobj.2]; exact hf.2.1) hf.1 hf.2.2 (hO _) (hR _)⟩
  simp only
  rw [List.getElem?_append_left (List.getElem?_eq_some_iff.1 hi).1]; exact hi

/-- A row's cells lie at the head of its block. -/
theorem row_prefix {g : Gh} {w : World} {b : Nat} {vs : List Value} {arr : Array Value} {t : TypeId} (hrd : Reads g w ⟨b, 0, none⟩ vs) (hle : vs.length ≤ arr.size) (hw : CellsAt w b arr t) : ∃ rest, arr.toList = vs ++ rest := by
  refine ⟨arr.toList.drop vs.length, ?_⟩
  have : arr.toList.take vs.length = vs := by
    apply List.ext_getElem?
    intro j
    by_cases hj : j < vs.length
    · rw [List.getElem?_take, if_pos hj, ← hrd.2.2 j hj, Nat.zero_add, hw.cell]
      simp
    · rw [List.getElem?_eq_none (by simp; omega), List.getElem?_eq_none (by omega)]
  conv => lhs; rw [← List.take_append_drop vs.length arr.toList, this]
/-- What an object of cells stands for. -/
def RowOb (ob : AObj) (z : Nat) (vs : List Value) : Prop := (∀ (w : World) (b : Nat), ownsO w b ob = []) ∧ (∀ (g : Gh) (w : World) (b : Nat) (arr : Array Value) (t : TypeId) (rest : List Value), CellsAt w b arr t → arr.toList = vs ++ rest → ObjR g w b ob)
theorem rowOb_N (kd : IntKind) (xs : List Int) : RowOb (.rowN kd xs) 1 (xs.map (Value.int kd)) := ⟨fun _ _ => rfl, fun g w b arr t rest hw ha => by simp only [ObjR]; exact .inr ⟨arr, t, rest, hw, ha⟩⟩
theorem plainR_all {n : Nat} {els : List (List AV)} (h : plainR n els = true) : ∀ e ∈ els, e.length = n ∧ e.all AV.plain = true := fun e he => by
  have := List.all_eq_true.1 h e he
  simp only [Bool.and_eq_true] at this
  exact ⟨Nat.eq_of_beq_eq_true this.1, this.2⟩
theorem rowOb_C {n : Nat} {els : List (List AV)} {g : Gh} {w : World} {vs : List Value} (h : ∀ e ∈ els, e.length = n ∧ e.all AV.plain = true) (hv : VRss g w els vs) : RowOb (.rowC n els) n vs :=
  ⟨fun _ _ => rfl, fun g' w' b arr t rest hw ha => by simp only [ObjR]; exact .inr ⟨h, arr, t, vs, rest, hw, ha, VRss.plain' (fun e he => (h e he).2) _ hv⟩⟩

theorem slotOwns_heap (sl : List (Nat × AV)) (H H' : List AObj) : ∀ (l : List Value) (i : Nat), slotOwns ⟨sl, H⟩ i l = slotOwns ⟨sl, H'⟩ i l
  | [], _ => rfl
  | v :: l, i => by simp only [slotOwns]; rw [slotOwns_heap sl H H' l]; rfl
/-- An append whose row is to be an object. -/
theorem obj_append {F : Nat → Prop} {nt : Nat} {g : Gh} {s : St} {a : Act} {w : World} {g1 : Gh} {H : List AObj} {ao : Option Addr} {n cp z m bytes : Nat} {vs us : List Value} {P : Program} {x : Value} {t u ty e : TypeId} {i : TypeInfo} {zr : Value} {du : TypeDesc} {ob : AObj} {sl : List (Nat × AV)}
    (ht : P.underlying t = some (.slice e)) (hu : P.underlying u = some du) (hdu : du = .string ∨ ∃ e', du = .slice e') (hi : P.info? e = some i) (hz : i.zero = some zr) (hsz : i.size = z) (hby : i.bytes = bytes) (hzs : zr.cells.size = z) (h0 : 0 < z) (hb0 : 0 < bytes)
    (hsize : a.tmps.size = nt) (hslots : ∀ t, VR g w ((⟨sl, H⟩ : St).get t) (a.tmps.getD t undef)) (hcore : Core F g H (slotOwns ⟨sl, H⟩ 0 a.tmps.toList) w) (hg1 : g1.obj = g.obj)
    (hc1 : Core F g1 H (recs ao (n * z) (cp * z) ++ slotOwns ⟨sl, H⟩ 0 a.tmps.toList) w) (hfr : ∀ ad, ao = some ad → Free F g H (slotOwns ⟨sl, H⟩ 0 a.tmps.toList) w ad.block)
    (hrow : Row g1 w true ao n cp z vs) (hsrc : Src P w z x m us) (hroom : (n + m) * bytes ≤ 140737488355328) (hpos : 0 < n + m) (hob : RowOb ob z (vs ++ us)) :
    ∃ ao' cp' w' b', (Builtin.append_ #[t, u] ty #[.slice ao n cp, x]).run P w = .ok (.slice ao' (n + m) cp') w' ∧ VR ⟨g.obj ++ [b'], g.len⟩ w' (.mo H.length (n + m) (n + m) z) (.slice ao' (n + m) cp') ∧ Step F g w ⟨g.obj ++ [b'], g.len⟩ w' ∧ SimX F nt ⟨g.obj ++ [b'], g.len⟩ ⟨sl, H ++ [ob]⟩ a w' [] := by
  obtain ⟨ao', cp', g', w', h1, h2, h3, h4, h5, h6, _, h8, _, h10⟩ := append_core (ty := ty) ht hu hdu hi hz hsz hby hzs h0 hb0 hc1 hrow hsrc hroom
  have hlen : (vs ++ us).length = (n + m) * z := by rw [List.length_append, hrow.1, hsrc.size, Nat.add_mul]
  have hp : 0 < (vs ++ us).length := by rw [hlen]; exact Nat.mul_pos hpos h0
  obtain ⟨ad, had, hrd⟩ := h2.2.2.2.1 hp
  obtain ⟨z1, z2⟩ := h2.2.2.2.2.1 rfl ad had
  obtain ⟨b', off, sp⟩ := ad
  simp only at z1 z2
  subst z1 z2
  subst had
  obtain ⟨o1, o2, arr, tt, o3, o4⟩ := h6.own (b', (n + m) * z, cp' * z) (.inl (by simp [recs]))
  simp only at o1 o2 o3 o4
  obtain ⟨rest, hrest⟩ := row_prefix hrd (by rw [hlen]; omega) o3
  have hfree : Free F g H (slotOwns ⟨sl, H⟩ 0 a.tmps.toList) w b' := by
    rcases h10 with h10 | ⟨ad', h10, h11⟩
    · exact hfr _ h10.symm
    · injection h10 with h10
      subst h10
      exact hcore.free_ge h11
  obtain ⟨k1, k2, k3⟩ := hcore.newRow (w' := w') (b' := b') (ob := ob) (fun k hk => by
    by_cases e : ∃ ad, ao = some ad ∧ k = ad.block
    · obtain ⟨ad, e1, e2⟩ := e
      exact .inr (e2 ▸ hfr ad e1)
    · exact .inl (h8 k hk fun ad e1 e2 => e ⟨ad, e1, e2⟩)) h4.bsz h4.size h4.os h4.tape h4.output hfree (fun w => hob.1 w b') (fun g' => hob.2 g' w' b' arr tt rest o3 hrest)
  refine ⟨_, cp', w', b', h1, ?_, k2, hsize, fun t => VR.ext k1 _ _ (hslots t), ?_⟩
  · simp only [VR]
    refine ⟨_, b', cp', rfl, h2.2.1, Nat.le_refl _, ?_, fun h => by omega, fun _ => ⟨rfl, by rw [o3.bsz]; exact o4⟩⟩
    rw [hcore.heap.length]; simp
  · rw [List.nil_append]
    show Core F _ (H ++ [ob]) (slotOwns ⟨sl, H ++ [ob]⟩ 0 a.tmps.toList) w'
    rw [slotOwns_heap sl (H ++ [ob]) H]
    exact k3

theorem ok_nilO {sh : Option IntKind} {z : Nat} (h : o.op = .move (.const (.slice none 0 0)) ∨ o.op = .assign (.const (.slice none 0 0))) : OpOK c (.nilO sh z) o := by
  intro s R k r hr
  have main : ∀ (ob : AObj) (zz : Nat), ob.dead = true → k (.mo s.heap.length 0 0 zz) ⟨s.slots, s.heap ++ [ob]⟩ = some r → ∃ v s', k v s' = some r ∧ OpSem c o s v s' := fun ob zz hd hk => by
    refine ⟨_, _, hk, OpSem.run fun F g a w B _ hp hs => ?_⟩
    have hc := hs.core.addDead (ob := ob) 0 hd
    have ext : Ext g w ⟨g.obj ++ [0], g.len⟩ w := ⟨fun _ _ _ => rfl, fun _ _ => rfl, fun _ => Nat.le_refl _, fun _ => Nat.le_refl _, fun i b hi => by
      simp only
      rw [List.getElem?_append_left (List.getElem?_eq_some_iff.1 hi).1]; exact hi⟩
    refine ⟨.slice none 0 0, ⟨g.obj ++ [0], g.len⟩, w, by rcases h with h | h <;> simp [execOp, h, Sem.run, Act.eval], ?_, hp.trans (List.prefix_append _ _), ⟨hs.size, fun t => VR.ext ext _ _ (hs.slots t), ?_⟩, ⟨ext.cell, ext.ty, ext.bsz, ext.len, fun _ _ => ⟨rfl, rfl⟩, Nat.le_refl _, rfl, rfl, rfl⟩⟩
    · simp only [VR]
      refine ⟨none, 0, 0, rfl, Nat.le_refl _, Nat.le_refl _, ?_, fun _ => ⟨rfl, rfl⟩, fun h => by omega⟩
      rw [hs.core.heap.length]; simp
    · rw [simx_put_heap]
      exact hc
  simp only [AOp.run] at hr
  split at hr
  · obtain ⟨_, h2⟩ | ⟨_, h2⟩ := cond_some hr
    · exact main _ _ rfl h2
    · cases h2
  · exact main _ _ rfl hr

theorem ok_appendN {z bytes : Nat} {x y : AX} {p q : Operand} {t u e : TypeId} {zr : Value} {cl : Call} {e' : TypeId} (h : o.op = .call cl) (hc : cl.callee = .builtin .append) (hargs : cl.args = #[p, q]) (hts : cl.argTypes = #[t, u]) (ht : c.P.underlying t = some (.slice e)) (hu : c.P.underlying u = some (.slice e'))
    (hi : (c.P.info? e).map (fun i => (i.size, i.bytes, i.zero)) = some (z, bytes, some zr)) (hzs : zr.cells.size = z) (h0 : 0 < z) (hb0 : 0 < bytes) (hx : fitX x p = true) (hy : fitX y q = true) : OpOK c (.appendN z bytes x y) o := by
  obtain ⟨i, hi1, hi2⟩ := Option.map_eq_some_iff.1 hi
  injection hi2 with hi2 hi3
  injection hi3 with hi3 hi4
  intro s R k r hr
  have key : ∀ (F : Nat → Prop) (g : Gh) (a : Act) (w : World) (B : List Nat) (ob : AObj) (ao bo : Option Addr) (m cp cq : Nat) (us : List Value) (own2 : Bool), B <+: g.obj → SimX F c.nt g (x.st s) a w (recs ao 0 (cp * z)) →
      a.eval p = .slice ao 0 cp → a.eval q = .slice bo m cq → Row g w true ao 0 cp z [] → Row g w own2 bo m cq z us → m * bytes ≤ 140737488355328 → 0 < m → RowOb ob z us →
      ∃ v' g' w', (execOp a.eval o).run c.P w = .ok (.value v') w' ∧ VR g' w' (.mo s.heap.length m m z) v' ∧ B <+: g'.obj ∧ SimX F c.nt g' ⟨(x.st s).slots, s.heap ++ [ob]⟩ a w' (owns (.mo s.heap.length m m z) v') ∧ Step F g w g' w' := by
    intro F g a w B ob ao bo m cp cq us own2 hpre hs hp hq hr1 hr2 hroom hpos hob
    have hheap : (x.st s).heap = s.heap := by cases x <;> rfl
    have hcore := hs.core
    rw [hheap] at hcore
    have hst : (⟨(x.st s).slots, s.heap⟩ : St) = x.st s := by rw [← hheap]
    obtain ⟨ao', cp', w', b', k1, k2, k3, k4⟩ := obj_append (F := F) (nt := c.nt) (s := s) (g := g) (g1 := g) (H := s.heap) (sl := (x.st s).slots) (ob := ob) (n := 0) (ty := o.type) (cp := cp) (vs := []) (us := us) ht hu (.inr ⟨e', rfl⟩) hi1 hi4 hi2 hi3 hzs h0 hb0 hs.size
      (by rw [hst]; exact hs.slots) (by rw [hst]; exact hcore.weaken (fun r hr => List.mem_append_right _ hr) (fun b => by rw [oc_append]; omega)) rfl (by rw [hst, Nat.zero_mul]; exact hcore) (fun ad had => by
        subst had
        rw [hst]
        have hin : (ad.block, 0, cp * z) ∈ recs (some ad) 0 (cp * z) := by simp [recs]
        have hd := hcore.dist ad.block
        have h1 : oc ad.block (recs (some ad) 0 (cp * z)) = 1 := by simp [recs, oc]
        rw [oc_append, h1] at hd
        exact ⟨fun hF => by have := hcore.notF _ hF; rw [oc_append, h1] at this; omega, by omega, (hcore.own _ (.inl (List.mem_append_left _ hin))).1⟩)
      hr1 hr2.src (by simpa using hroom) (by omega) (by simpa using hob)
    rw [Nat.zero_add] at k1 k2
    have hown : owns (.mo s.heap.length m m z) (.slice ao' m cp') = [] := by cases ao' <;> rfl
    refine ⟨_, _, w', ?_, k2, hpre.trans (List.prefix_append _ _), by rw [hown]; exact k4, k3⟩
    refine run_call_builtin h hc ?_
    rw [hargs, hts]
    simp only [builtin, List.map_toArray, List.map_cons, List.map_nil, hp, hq, Sem.run_bind, k1, Result.andThen]
    rfl
  simp only [AOp.run] at hr
  split at hr
  · rename_i kd l own2 km l2 hv hw
    obtain ⟨h1, hr2⟩ | ⟨_, hr2⟩ := cond_some hr
    case inr => exact absurd hr2 (by simp)
    obtain ⟨h2, hr3⟩ | ⟨_, hr3⟩ := cond_some hr2
    case inr => exact absurd hr3 (by simp)
    simp only [Bool.and_eq_true, beq_iff_eq, decide_eq_true_eq, List.isEmpty_iff, Bool.not_eq_true', List.isEmpty_eq_false_iff] at h1 h2
    obtain ⟨⟨⟨rfl, rfl⟩, rfl⟩, hne⟩ := h1
    refine ⟨_, _, hr3, OpSem.run fun F g a w B hB hpre hs => ?_⟩
    obtain ⟨h3, h4⟩ := AX.ok hs hx
    have h5 := ev_read h4 hy
    rw [hv] at h3 h4
    rw [hw] at h5
    simp only [VR] at h3 h5
    obtain ⟨ao, n, cp, e1, hr1⟩ := h3
    obtain ⟨bo, m, cq, e2, hr2⟩ := h5
    have hn : n = 0 := by have := hr1.1; simp at this; omega
    have hm : m = l2.length := by have := hr2.1; simp at this; exact this.symm
    subst hn; subst hm
    rw [e1, owns_ints, List.append_nil] at h4
    exact key F g a w B _ ao bo _ cp cq _ own2 hpre (by simpa using h4) e1 e2 hr1 hr2 h2 (List.length_pos_iff.2 hne) (rowOb_N _ _)
  · rename_i sz l own2 sm l2 hv hw
    obtain ⟨h1, hr2⟩ | ⟨_, hr2⟩ := cond_some hr
    case inr => exact absurd hr2 (by simp)
    obtain ⟨h2, hr3⟩ | ⟨_, hr3⟩ := cond_some hr2
    case inr => exact absurd hr3 (by simp)
    simp only [Bool.and_eq_true, beq_iff_eq, decide_eq_true_eq, List.isEmpty_iff, Bool.not_eq_true', List.isEmpty_eq_false_iff] at h1 h2
    obtain ⟨⟨⟨h1a, h1b⟩, rfl⟩, hne⟩ := h1
    obtain ⟨h2a, h2⟩ := h2
    subst h1a
    subst h1b
    refine ⟨_, _, hr3, OpSem.run fun F g a w B hB hpre hs => ?_⟩
    obtain ⟨h3, h4⟩ := AX.ok hs hx
    have h5 := ev_read h4 hy
    rw [hv] at h3 h4
    rw [hw] at h5
    simp only [VR] at h3 h5
    obtain ⟨ao, n, cp, vs, e1, hr1, hn, hsz1, hvs⟩ := h3
    obtain ⟨bo, m, cq, us, e2, hr2, hm, hsz2, hus⟩ := h5
    simp only [VRss] at hvs
    subst hvs
    have hn : n = 0 := by simpa using hn.symm
    subst hn; subst hm
    rw [e1, owns_sl, List.append_nil] at h4
    exact key F g a w B _ ao bo _ cp cq _ own2 hpre (by simpa using h4) e1 e2 hr1 hr2 h2 (List.length_pos_iff.2 hne) (rowOb_C (plainR_all h2a) hus)
  · exact absurd hr (by simp)

/-- A row's object, taken apart: its block is nobody's. -/
theorem mo_open {F : Nat → Prop} {g : Gh} {H : List AObj} {os : List Rec} {w : World} {id m tot z : Nat} {ob : AObj} {v : Value} {vs : List Value} (hc : Core F g H os w) (hob : H[id]? = some ob) (hO : ∀ w b, ownsO w b ob = [])
    (hcells : 0 < tot → ob.dead = false ∧ ∀ b, ObjR g w b ob → ∃ arr t rest, CellsAt w b arr t ∧ arr.toList = vs ++ rest) (hvs : vs.length = tot * z) (hone : ∀ u ∈ vs, u.oneCell' = true) (hv : VR g w (.mo id m tot z) v) :
    ∃ ao cp g1, v = .slice ao m cp ∧ g1.obj = g.obj ∧ Ext g w g1 w ∧ Step F g w g1 w ∧ Core F g (H.set id .gone) os w ∧ Core F g1 (H.set id .gone) (recs ao (m * z) (cp * z) ++ os) w ∧ (∀ ad, ao = some ad → Free F g (H.set id .gone) os w ad.block) ∧ Row g1 w true ao m cp z (vs.take (m * z)) ∧ m ≤ tot := by
  simp only [VR] at hv
  obtain ⟨ao, b, cp, rfl, h1, h2, h3, h4, h5⟩ := hv
  obtain ⟨k1, k2⟩ := hc.setGone id
  rcases Nat.eq_zero_or_pos tot with e | e
  · obtain ⟨rfl, rfl⟩ := h4 e
    have hm : m = 0 := by omega
    subst hm
    refine ⟨none, 0, g, rfl, rfl, Ext.refl _ _, Step.refl _ _ _, k1, by simpa [recs] using k1, fun ad h => (by cases h), ?_, by omega⟩
    simpa using row_nil g w true z
  · obtain ⟨rfl, h6⟩ := h5 e
    obtain ⟨hd, hcell⟩ := hcells e
    obtain ⟨arr, t, rest, hw, harr⟩ := hcell b (getObj_ok hc.heap id b _ hob h3)
    have hf := k2 ob b hob h3 hd
    rw [hw.bsz] at h6
    have hmz : m * z ≤ cp * z := Nat.mul_le_mul_right _ h1
    have hmt : m * z ≤ tot * z := Nat.mul_le_mul_right _ h2
    obtain ⟨e1, e2, e3⟩ := k1.addRec hf hw hmz h6
    have hlen : (vs.take (m * z)).length = m * z := by rw [List.length_take, hvs]; omega
    refine ⟨_, cp, g.set b (m * z), rfl, rfl, e1, e2, k1, by simpa [recs] using e3, fun ad h => by injection h with h; subst h; exact hf, ⟨hlen, h1, Nat.zero_le _, fun _ => ⟨_, rfl, rfl, by rw [hlen]; simp [Gh.set], fun j hj => ?_⟩, fun _ ad h => by injection h with h; subst h; exact ⟨rfl, rfl⟩, fun h => (by cases h), fun u hu => hone u (List.mem_of_mem_take hu)⟩, h2⟩
    rw [hlen] at hj
    rw [Nat.zero_add, hw.cell, List.getElem?_take, if_pos hj]
    have : arr.toList[j]? = vs[j]? := by rw [harr, List.getElem?_append_left (by omega)]
    simpa using this
theorem rowN_cells {g : Gh} {w : World} {kd : IntKind} {xs : List Int} (h : 0 < xs.length) : (AObj.rowN kd xs).dead = false ∧ ∀ b, ObjR g w b (.rowN kd xs) → ∃ arr t rest, CellsAt w b arr t ∧ arr.toList = xs.map (Value.int kd) ++ rest := by
  refine ⟨by cases xs with | nil => simp at h | cons a l => rfl, fun b hb => ?_⟩
  simp only [ObjR] at hb
  exact hb.resolve_left (fun e => by subst e; simp at h)
/-- The cells of a row of plain cells, told by the shadow alone. -/
def pv : AV → Value
  | .int k n => .int k n
  | .bool b => .bool b
  | .str s => .string ⟨s.toArray⟩
  | _ => .bool false
theorem pv_ok {g : Gh} {w : World} {a : AV} {v : Value} (hp : a.plain = true) (h : VR g w a v) : v = pv a := by
  cases a <;> simp [AV.plain] at hp <;> simp only [VR] at h
  · exact h
  · exact h
  · obtain ⟨s, rfl, rfl⟩ := h
    rfl
theorem pvs_ok {g : Gh} {w : World} : ∀ {cs : List AV} {vs : List Value}, cs.all AV.plain = true → VRs g w cs vs → vs = cs.map pv
  | [], vs, _, h => by simp only [VRs] at h; simp [h]
  | a :: cs, vs, hp, h => by
    simp only [List.all_cons, Bool.and_eq_true] at hp
    simp only [VRs] at h
    obtain ⟨v, us, rfl, h1, h2⟩ := h
    rw [pv_ok hp.1 h1, pvs_ok hp.2 h2]; rfl
theorem pvss_ok {g : Gh} {w : World} : ∀ {els : List (List AV)} {vs : List Value}, (∀ e ∈ els, e.all AV.plain = true) → VRss g w els vs → vs = els.flatMap fun e => e.map pv
  | [], vs, _, h => by simp only [VRss] at h; simp [h]
  | e :: els, vs, hp, h => by
    simp only [VRss] at h
    obtain ⟨p, q, rfl, h1, h2⟩ := h
    rw [pvs_ok (hp e (by simp)) h1, pvss_ok (fun e he => hp e (by simp [he])) h2]; rfl
theorem pv_back (g : Gh) (w : World) : ∀ {a : AV}, a.plain = true → VR g w a (pv a)
  | .int k n, _ => by simp [VR, pv]
  | .bool b, _ => by simp [VR, pv]
  | .str s, _ => by simp only [VR, pv]; exact ⟨_, rfl, by simp⟩
  | .undef, h | .ints .., h | .strs .., h | .sl .., h | .eptr .., h | .ptr .., h | .mut .., h | .map .., h | .yld .., h | .mo .., h | .func .., h | .nilFunc, h | .nilIface, h | .iface .., h | .agg .., h | .tuple .., h => by simp [AV.plain] at h
theorem pvs_back (g : Gh) (w : World) : ∀ {cs : List AV}, cs.all AV.plain = true → VRs g w cs (cs.map pv)
  | [], _ => by simp [VRs]
  | a :: cs, h => by
    simp only [List.all_cons, Bool.and_eq_true] at h
    simp only [List.map_cons, VRs]
    exact ⟨_, _, rfl, pv_back g w h.1, pvs_back g w h.2⟩
theorem pvss_back (g : Gh) (w : World) : ∀ {els : List (List AV)}, (∀ e ∈ els, e.all AV.plain = true) → VRss g w els (els.flatMap fun e => e.map pv)
  | [], _ => by simp [VRss]
  | e :: els, h => by
    simp only [List.flatMap_cons, VRss]
    exact ⟨_, _, rfl, pvs_back g w (h e (by simp)), pvss_back g w (fun e he => h e (by simp [he]))⟩
theorem pv_one : ∀ {a : AV}, a.plain = true → (pv a).oneCell' = true
  | .int k n, _ => rfl
  | .bool b, _ => rfl
  | .str s, _ => rfl
  | .undef, h | .ints .., h | .strs .., h | .sl .., h | .eptr .., h | .ptr .., h | .mut .., h | .map .., h | .yld .., h | .mo .., h | .func .., h | .nilFunc, h | .nilIface, h | .iface .., h | .agg .., h | .tuple .., h => by simp [AV.plain] at h
def rowCells (els : List (List AV)) : List Value := els.flatMap fun e => e.map pv
theorem rowCells_len {n : Nat} : ∀ {els : List (List AV)}, (∀ e ∈ els, e.length = n) → (rowCells els).length = els.length * n
  | [], _ => by simp [rowCells]
  | e :: els, h => by
    have := rowCells_len (els := els) (fun e he => h e (by simp [he]))
    unfold rowCells at this ⊢
    rw [List.flatMap_cons, List.length_append, this, List.length_map, h e (by simp), List.length_cons, Nat.add_mul]; omega
theorem rowCells_one {els : List (List AV)} (h : ∀ e ∈ els, e.all AV.plain = true) : ∀ u ∈ rowCells els, u.oneCell' = true := fun u hu => by
  obtain ⟨e, he, hu⟩ := List.mem_flatMap.1 hu
  obtain ⟨a, ha, rfl⟩ := List.mem_map.1 hu
  exact pv_one (List.all_eq_true.1 (h e he) a ha)
theorem rowCells_take {n : Nat} : ∀ {els : List (List AV)} (m : Nat), (∀ e ∈ els, e.length = n) → (rowCells els).take (m * n) = rowCells (els.take m)
  | [], m, _ => by simp [rowCells]
  | e :: els, m, h => by
    cases m with
    | zero => simp [rowCells]
    | succ m =>
      have := rowCells_take (els := els) m (fun e he => h e (by simp [he]))
      have he : (e.map pv).length = n := by simp [h e (by simp)]
      unfold rowCells at this ⊢
      rw [List.flatMap_cons, List.take_succ_cons, List.flatMap_cons, ← this, show (m + 1) * n = (e.map pv).length + m * n by rw [he, Nat.add_mul]; omega, List.take_length_add_append]
theorem rowCells_drop {n : Nat} : ∀ {els : List (List AV)} (m : Nat), (∀ e ∈ els, e.length = n) → (rowCells els).drop (m * n) = rowCells (els.drop m)
  | [], m, _ => by simp [rowCells]
  | e :: els, m, h => by
    cases m with
    | zero => simp [rowCells]
    | succ m =>
      have := rowCells_drop (els := els) m (fun e he => h e (by simp [he]))
      have he : (e.map pv).length = n := by simp [h e (by simp)]
      unfold rowCells at this ⊢
      rw [List.flatMap_cons, List.drop_succ_cons, ← this, show (m + 1) * n = (e.map pv).length + m * n by rw [he, Nat.add_mul]; omega, List.drop_length_add_append]
theorem rowC_cells {g : Gh} {w : World} {n : Nat} {els : List (List AV)} (h : 0 < els.length) : (AObj.rowC n els).dead = false ∧ ∀ b, ObjR g w b (.rowC n els) → ∃ arr t rest, CellsAt w b arr t ∧ arr.toList = rowCells els ++ rest := by
  refine ⟨by cases els with | nil => simp at h | cons a l => rfl, fun b hb => ?_⟩
  simp only [ObjR] at hb
  obtain ⟨h1, arr, t, vs, rest, h2, h3, h4⟩ := hb.resolve_left (fun e => by subst e; simp at h)
  exact ⟨arr, t, rest, h2, by rw [h3, pvss_ok (fun e he => (h1 e he).2) h4]; rfl⟩
theorem rowOb_C' {n : Nat} {els : List (List AV)} (h : ∀ e ∈ els, e.length = n ∧ e.all AV.plain = true) : RowOb (.rowC n els) n (rowCells els) :=
  ⟨fun _ _ => rfl, fun g' w' b arr t rest hw ha => by simp only [ObjR]; exact .inr ⟨h, arr, t, _, rest, hw, ha, pvss_back _ _ (fun e he => (h e he).2)⟩⟩
/-- What is known of an object's rows of plain cells. -/
theorem rowC_plain {g : Gh} {w : World} {b n : Nat} {els : List (List AV)} (h : ObjR g w b (.rowC n els)) : ∀ e ∈ els, e.length = n ∧ e.all AV.plain = true := by
  simp only [ObjR] at h
  rcases h with rfl | h
  · simp
  · exact h.1

theorem ok_appendO {z bytes : Nat} {x y : AX} {p q : Operand} {t u e : TypeId} {zr : Value} {cl : Call} {e' : TypeId} (h : o.op = .call cl) (hc : cl.callee = .builtin .append) (hargs : cl.args = #[p, q]) (hts : cl.argTypes = #[t, u]) (ht : c.P.underlying t = some (.slice e)) (hu : c.P.underlying u = some (.slice e'))
    (hi : (c.P.info? e).map (fun i => (i.size, i.bytes, i.zero)) = some (z, bytes, some zr)) (hzs : zr.cells.size = z) (h0 : 0 < z) (hb0 : 0 < bytes) (hx : fitX x p = true) (hy : fitX y q = true) : OpOK c (.appendO z bytes x y) o := by
  obtain ⟨i, hi1, hi2⟩ := Option.map_eq_some_iff.1 hi
  injection hi2 with hi2 hi3
  injection hi3 with hi3 hi4
  intro s R k r hr
  have key : ∀ (F : Nat → Prop) (g : Gh) (a : Act) (w : World) (B : List Nat) (ob ob' : AObj) (id n tot m : Nat) (bo : Option Addr) (cq : Nat) (vs us : List Value) (own2 : Bool), B <+: g.obj → SimX F c.nt g s a w [] → s.heap[id]? = some ob →
      VR g w (.mo id n tot z) (a.eval p) → a.eval q = .slice bo m cq → Row g w own2 bo m cq z us → (∀ w b, ownsO w b ob = []) → (0 < tot → ob.dead = false ∧ ∀ b, ObjR g w b ob → ∃ arr t rest, CellsAt w b arr t ∧ arr.toList = vs ++ rest) → vs.length = tot * z → (∀ u ∈ vs, u.oneCell' = true) →
      (n + m) * bytes ≤ 140737488355328 → 0 < n + m → RowOb ob' z (vs.take (n * z) ++ us) →
      ∃ v' g' w', (execOp a.eval o).run c.P w = .ok (.value v') w' ∧ VR g' w' (.mo s.heap.length (n + m) (n + m) z) v' ∧ B <+: g'.obj ∧ SimX F c.nt g' ⟨s.slots, s.heap.set id .gone ++ [ob']⟩ a w' (owns (.mo s.heap.length (n + m) (n + m) z) v') ∧ Step F g w g' w' := by
    intro F g a w B ob ob' id n tot m bo cq vs us own2 hpre hs hob hv hq hr2 hO hcl hvl h1 hroom hpos hob'
    have hcore := hs.core
    rw [List.nil_append] at hcore
    obtain ⟨ao, cp, g1, e1, e2, e3, e4, e5, e6, e7, e8, e9⟩ := mo_open hcore hob hO hcl hvl h1 hv
    obtain ⟨ao', cp', w', b', k1, k2, k3, k4⟩ := obj_append (F := F) (nt := c.nt) (s := s) (g := g) (g1 := g1) (H := s.heap.set id .gone) (sl := s.slots) (ob := ob') (n := n) (ty := o.type) (cp := cp) (vs := vs.take (n * z)) (us := us) ht hu (.inr ⟨e', rfl⟩) hi1 hi4 hi2 hi3 hzs h0 hb0 hs.size
      hs.slots (by rw [slotOwns_heap s.slots _ s.heap]; exact e5) e2 (by rw [slotOwns_heap s.slots _ s.heap]; exact e6) (by rw [slotOwns_heap s.slots _ s.heap]; exact e7) e8 hr2.src hroom hpos hob'
    rw [List.length_set] at k2
    have hown : owns (.mo s.heap.length (n + m) (n + m) z) (.slice ao' (n + m) cp') = [] := by cases ao' <;> rfl
    refine ⟨_, _, w', ?_, k2, hpre.trans (List.prefix_append _ _), by rw [hown]; exact k4, k3⟩
    refine run_call_builtin h hc ?_
    rw [hargs, hts]
    simp only [builtin, List.map_toArray, List.map_cons, List.map_nil, e1, hq, Sem.run_bind, k1, Result.andThen]
    rfl
  simp only [AOp.run] at hr
  split at hr
  case h_2 => exact absurd hr (by simp)
  rename_i id n tot sz hv
  split at hr
  · rename_i kd xs hob
    split at hr
    case h_2 => exact absurd hr (by simp)
    rename_i own2 km m hw
    obtain ⟨h1, hr2⟩ | ⟨_, hr2⟩ := cond_some hr
    case inr => exact absurd hr2 (by simp)
    obtain ⟨h2, hr3⟩ | ⟨_, hr3⟩ := cond_some hr2
    case inr => exact absurd hr3 (by simp)
    simp only [Bool.and_eq_true, beq_iff_eq, decide_eq_true_eq] at h1 h2
    obtain ⟨⟨hz1, hz2⟩, rfl⟩ := h1
    obtain ⟨⟨rfl, h2b⟩, h2c⟩ := h2
    subst hz2
    subst hz1
    refine ⟨_, _, hr3, OpSem.run fun F g a w B hB hpre hs => ?_⟩
    have h3 := ev_read hs hx
    have h5 := ev_read hs hy
    rw [hv] at h3
    rw [hw] at h5
    simp only [VR] at h5
    obtain ⟨bo, mm, cq, e2, hr2⟩ := h5
    have hm : mm = m.length := by have := hr2.1; simp at this; exact this.symm
    subst hm
    exact key F g a w B _ _ id n xs.length _ bo cq (xs.map (Value.int kd)) _ own2 hpre hs hob h3 e2 hr2 (fun _ _ => rfl) rowN_cells (by simp) (fun u hu => by obtain ⟨_, _, rfl⟩ := List.mem_map.1 hu; rfl) h2c h2b (by rw [Nat.mul_one, ← List.map_take, ← List.map_append]; exact rowOb_N _ _)
  · rename_i sc els hob
    split at hr
    case h_2 => exact absurd hr (by simp)
    rename_i own2 sm m hw
    obtain ⟨h1, hr2⟩ | ⟨_, hr2⟩ := cond_some hr
    case inr => exact absurd hr2 (by simp)
    obtain ⟨h2, hr3⟩ | ⟨_, hr3⟩ := cond_some hr2
    case inr => exact absurd hr3 (by simp)
    simp only [Bool.and_eq_true, beq_iff_eq, decide_eq_true_eq] at h1 h2
    obtain ⟨⟨hz1, hz2⟩, hz3⟩ := h1
    obtain ⟨⟨⟨rfl, h2b⟩, h2p⟩, h2c⟩ := h2
    subst hz1 hz2 hz3
    refine ⟨_, _, hr3, OpSem.run fun F g a w B hB hpre hs => ?_⟩
    have h3 := ev_read hs hx
    have h5 := ev_read hs hy
    rw [hv] at h3
    rw [hw] at h5
    have hpl : ∀ e ∈ els, e.length = z ∧ e.all AV.plain = true := by
      have h3' := h3
      simp only [VR] at h3'
      obtain ⟨_, b, _, _, _, _, hb, _⟩ := h3'
      exact rowC_plain (getObj_ok hs.core.heap id b _ hob hb)
    simp only [VR] at h5
    obtain ⟨bo, mm, cq, us, e2, hr2, hm, hsz2, hus⟩ := h5
    subst hm
    have hplm := plainR_all h2p
    have hus' := pvss_ok (fun e he => (hplm e he).2) hus
    subst hus'
    exact key F g a w B _ _ id n els.length _ bo cq (rowCells els) _ own2 hpre hs hob h3 e2 hr2 (fun _ _ => rfl) rowC_cells (rowCells_len fun e he => (hpl e he).1) (rowCells_one fun e he => (hpl e he).2) h2c h2b (by
      rw [rowCells_take n (fun e he => (hpl e he).1)]
      have : rowCells (els.take n) ++ (m.flatMap fun e => e.map pv) = rowCells (els.take n ++ m) := by unfold rowCells; rw [List.flatMap_append]
      rw [this]
      exact rowOb_C' fun e he => by
        rcases List.mem_append.1 he with he | he
        · exact hpl e (List.mem_of_mem_take he)
        · exact hplm e he)
  · exact absurd hr (by simp)

/-- Cells that lie somewhere, as a source of an append. -/
theorem src_cells {P : Program} {w : World} {b off m cq z : Nat} {us : List Value} {a : Option Addr} (ha : 0 < m → a = some ⟨b, off, none⟩) (hu : us.length = m * z) (h1 : ∀ u ∈ us, u.oneCell' = true) (hc : ∀ j, j < us.length → w.cell? ⟨b, off + j, none⟩ = us[j]?) : Src P w z (.slice a m cq) m us := by
  have hcell : ∀ w1 : World, (∀ b j, w1.cell? ⟨b, j, none⟩ = w.cell? ⟨b, j, none⟩) → (Builtin.firstCells z m (.slice a m cq)).run P w1 = .ok us.toArray w1 := by
    intro w1 hw1
    by_cases e0 : us = []
    · subst e0
      have hm : m * z = 0 := by simpa using hu.symm
      cases a with
      | none => simp [Builtin.firstCells]
      | some a => simp [Builtin.firstCells, hm, loadCells, loadCellsFrom]
    · have hp : 0 < m := by
        rcases Nat.eq_zero_or_pos m with e | e
        · subst e; simp at hu; exact absurd hu e0
        · exact e
      rw [ha hp]
      exact run_firstCells_some w1 z m ⟨b, off, none⟩ m cq us hu (fun j v hj => by
        have hlt : j < us.length := (List.getElem?_eq_some_iff.1 hj).1
        rw [add_eq _ rfl, hw1, hc j hlt, hj])
  exact ⟨by simp [Builtin.lenOf], hcell w (fun _ _ => rfl), hcell w.drew (fun _ _ => rfl), hu, h1⟩
theorem ok_appendM {z bytes : Nat} {x y : AX} {p q : Operand} {t u e : TypeId} {zr : Value} {cl : Call} {e' : TypeId} (h : o.op = .call cl) (hc : cl.callee = .builtin .append) (hargs : cl.args = #[p, q]) (hts : cl.argTypes = #[t, u]) (ht : c.P.underlying t = some (.slice e)) (hu : c.P.underlying u = some (.slice e'))
    (hi : (c.P.info? e).map (fun i => (i.size, i.bytes, i.zero)) = some (z, bytes, some zr)) (hzs : zr.cells.size = z) (h0 : 0 < z) (hb0 : 0 < bytes) (hx : fitX x p = true) (hy : fitX y q = true) : OpOK c (.appendM z bytes x y) o := by
  obtain ⟨i, hi1, hi2⟩ := Option.map_eq_some_iff.1 hi
  injection hi2 with hi2 hi3
  injection hi3 with hi3 hi4
  intro s R k r hr
  have key : ∀ (F : Nat → Prop) (g : Gh) (a : Act) (w : World) (B : List Nat) (v : AV) (ao : Option Addr) (n m cp : Nat) (yv : Value) (vs us : List Value), B <+: g.obj → SimX F c.nt g (x.st s) a w (recs ao (n * z) (cp * z)) →
      a.eval p = .slice ao n cp → a.eval q = yv → Row g w true ao n cp z vs → Src c.P w z yv m us → (n + m) * bytes ≤ 140737488355328 →
      (∀ (g' : Gh) (w' : World) (ao' : Option Addr) (cp' : Nat), Ext g w g' w' → Row g' w' true ao' (n + m) cp' z (vs ++ us) → VR g' w' v (.slice ao' (n + m) cp') ∧ owns v (.slice ao' (n + m) cp') = recs ao' ((n + m) * z) (cp' * z)) →
      ∃ v' g' w', (execOp a.eval o).run c.P w = .ok (.value v') w' ∧ VR g' w' v v' ∧ B <+: g'.obj ∧ SimX F c.nt g' (x.st s) a w' (owns v v') ∧ Step F g w g' w' := by
    intro F g a w B v ao n m cp yv vs us hpre hs hp hq hr1 hsrc hroom hv
    obtain ⟨ao', cp', g', w', h1, h2, h3, h4, h5, h6⟩ := append_effect (ty := o.type) ht hu (.inr ⟨e', rfl⟩) hi1 hi4 hi2 hi3 hzs h0 hb0 hs hr1 hsrc hroom
    obtain ⟨h7, h8⟩ := hv g' w' ao' cp' h3 h2
    refine ⟨_, g', w', ?_, h7, by rw [h5]; exact hpre, by rw [h8]; exact h6, h4⟩
    refine run_call_builtin h hc ?_
    rw [hargs, hts]
    simp only [builtin, List.map_toArray, List.map_cons, List.map_nil, hp, hq, Sem.run_bind, h1, Result.andThen]
    rfl
  have hheap : (x.st s).heap = s.heap := by cases x <;> rfl
  have hsy : ∀ v, y.ev s = v → (∃ id off m sm, v = .mut id off m sm) → y.ev (x.st s) = v := by
    rintro v hv ⟨id, off, m, sm, rfl⟩
    cases x with
    | take t =>
      cases y with
      | cst c => exact hv
      | tmp u =>
        simp only [AX.ev, AX.st] at hv ⊢
        show disown (getS ((t, disown (s.get t)) :: s.slots) u) = _
        simp only [getS]
        by_cases e : t = u
        · subst e
          simp only [beq_self_eq_true, cond_true]
          revert hv
          cases s.get t <;> simp [disown]
        · simp only [show (t == u) = false by simpa using e, cond_false]; exact hv
      | take u =>
        simp only [AX.ev, AX.st] at hv ⊢
        show getS ((t, disown (s.get t)) :: s.slots) u = _
        simp only [getS]
        by_cases e : t = u
        · subst e
          simp only [beq_self_eq_true, cond_true, hv, disown]
        · simp only [show (t == u) = false by simpa using e, cond_false]; exact hv
    | _ => exact hv
  simp only [AOp.run] at hr
  split at hr
  case h_2 => exact absurd hr (by simp)
  rename_i id off m sm hw
  have hw' := hsy _ hw ⟨_, _, _, _, rfl⟩
  split at hr
  · rename_i kd xs hob
    split at hr
    case h_2 => exact absurd hr (by simp)
    rename_i km l hv
    obtain ⟨h1, hr2⟩ | ⟨_, hr2⟩ := cond_some hr
    case inr => exact absurd hr2 (by simp)
    obtain ⟨h2, hr3⟩ | ⟨_, hr3⟩ := cond_some hr2
    case inr => exact absurd hr3 (by simp)
    simp only [Bool.and_eq_true, beq_iff_eq, decide_eq_true_eq] at h1 h2
    obtain ⟨⟨rfl, rfl⟩, h1c⟩ := h1
    refine ⟨_, _, hr3, OpSem.run fun F g a w B hB hpre hs => ?_⟩
    obtain ⟨h3, h4⟩ := AX.ok hs hx
    have h5 := ev_read h4 hy
    rw [hv] at h3 h4
    rw [hw'] at h5
    simp only [VR] at h3 h5
    obtain ⟨ao, n, cp, e1, hr1⟩ := h3
    obtain ⟨bo, b, cq, e2, hbo, hle, hb⟩ := h5
    have hn : n = l.length := by have := hr1.1; simp at this; exact this.symm
    subst hn
    have hobj := getObj_ok hs.core.heap id b _ hob hb
    rw [e1, owns_ints, List.append_nil] at h4
    have hul : ((xs.drop off).take m).length = m := by simp; omega
    refine key F g a w B _ ao _ m cp _ _ (((xs.drop off).take m).map (Value.int kd)) hpre (by simpa using h4) e1 e2 hr1 (src_cells hbo (by rw [List.length_map, hul, Nat.mul_one]) (fun u hu => by obtain ⟨_, _, rfl⟩ := List.mem_map.1 hu; rfl) (fun j hj => ?_)) h2 (fun g' w' ao' cp' he hrow => ⟨?_, ?_⟩)
    · rw [List.length_map, hul] at hj
      obtain ⟨arr, tt, rest, hcw, ha⟩ := (rowN_cells (g := g) (w := w) (kd := kd) (xs := xs) (by omega)).2 b hobj
      rw [hcw.cell]
      have : arr.toList[off + j]? = (xs.map (Value.int kd))[off + j]? := by rw [ha, List.getElem?_append_left (by simp; omega)]
      simp only [Array.getElem?_toList] at this
      rw [this]
      simp [List.getElem?_take, hj]
    · simp only [VR]
      exact ⟨_, _, _, rfl, by rw [List.map_append]; exact hrow⟩
    · rw [owns_ints]
      simp only [List.length_append, hul, Nat.mul_one]
  · rename_i sc els hob
    split at hr
    case h_2 => exact absurd hr (by simp)
    rename_i sz l hv
    obtain ⟨h1, hr2⟩ | ⟨_, hr2⟩ := cond_some hr
    case inr => exact absurd hr2 (by simp)
    obtain ⟨h2, hr3⟩ | ⟨_, hr3⟩ := cond_some hr2
    case inr => exact absurd hr3 (by simp)
    simp only [Bool.and_eq_true, beq_iff_eq, decide_eq_true_eq] at h1 h2
    obtain ⟨⟨⟨⟨q1, q2⟩, q3⟩, q4⟩, q5⟩ := h1
    subst q1 q2 q3
    generalize hd : off / z = d at *
    refine ⟨_, _, hr3, OpSem.run fun F g a w B hB hpre hs => ?_⟩
    obtain ⟨h3, h4⟩ := AX.ok hs hx
    have h5 := ev_read h4 hy
    rw [hv] at h3 h4
    rw [hw'] at h5
    simp only [VR] at h3 h5
    obtain ⟨ao, n, cp, vs, e1, hr1, hn, hsz1, hvs⟩ := h3
    obtain ⟨bo, b, cq, e2, hbo, hle, hb⟩ := h5
    subst hn
    have hobj := getObj_ok hs.core.heap id b _ hob hb
    have hpl := rowC_plain hobj
    rw [e1, owns_sl, List.append_nil] at h4
    have hlen : ∀ e ∈ (els.drop d).take m, e.length = z ∧ e.all AV.plain = true := fun e he => hpl e (List.mem_of_mem_drop (List.mem_of_mem_take he))
    have hul : ((els.drop d).take m).length = m := by simp; omega
    have hcl : (rowCells ((els.drop d).take m)).length = m * z := by rw [rowCells_len fun e he => (hlen e he).1, hul]
    refine key F g a w B _ ao _ m cp _ _ (rowCells ((els.drop d).take m)) hpre h4 e1 e2 hr1 (src_cells hbo hcl (rowCells_one fun e he => (hlen e he).2) (fun j hj => ?_)) h2 (fun g' w' ao' cp' he hrow => ⟨?_, ?_⟩)
    · rw [hcl] at hj
      have hm0 : 0 < m := by rcases Nat.eq_zero_or_pos m with e | e; · subst e; simp at hj
                             · exact e
      obtain ⟨arr, tt, rest, hcw, ha⟩ := (rowC_cells (g := g) (w := w) (n := z) (els := els) (by omega)).2 b hobj
      rw [hcw.cell]
      have hle2 : (d + m) * z ≤ els.length * z := Nat.mul_le_mul_right _ q5
      rw [Nat.add_mul] at hle2
      have : arr.toList[off + j]? = (rowCells els)[off + j]? := by rw [ha, List.getElem?_append_left (by rw [rowCells_len fun e he => (hpl e he).1]; omega)]
      simp only [Array.getElem?_toList] at this
      rw [this, ← rowCells_take m (fun e he => (hpl e (List.mem_of_mem_drop he)).1), ← rowCells_drop d (fun e he => (hpl e he).1), List.getElem?_take, if_pos hj, List.getElem?_drop, q4]
    · simp only [VR]
      refine ⟨_, _, _, _, rfl, hrow, by rw [List.length_append, hul], ?_, (VRss.ext he _ _ hvs).append (pvss_back _ _ fun e he => (hlen e he).2)⟩
      intro e he
      rcases List.mem_append.1 he with h | h
      · exact hsz1 e h
      · refine ⟨(hlen e h).1, ?_⟩
        have : ∀ (cs : List AV), cs.all AV.plain = true → noPtrL cs = true := by
          intro cs
          induction cs with
          | nil => intro _; rfl
          | cons a cs ih =>
            intro hh
            simp only [List.all_cons, Bool.and_eq_true] at hh
            have : noPtr a = true := by have := hh.1; cases a <;> simp [AV.plain] at this <;> rfl
            simp [noPtrL, this, ih hh.2]
        exact this e (hlen e h).2
    · rw [owns_sl]
      simp only [List.length_append, hul]
  · exact absurd hr (by simp)

/-! ### rows again -/
theorem frzS_some {t : Nat} {s : St} {R : Type} {k : St → Option R} {r : R} (h : frzS t s k = some r) : ∃ s', k s' = some r ∧ ∀ (F : Nat → Prop) (nt : Nat) (g : Gh) (a : Act) (w : World) (B : List Nat), B <+: g.obj → SimX F nt g s a w [] → ∃ g', B <+: g'.obj ∧ SimX F nt g' s' a w [] ∧ Step F g w g' w := by
  unfold frzS at h
  split at h
  case h_2 => cases h
  rename_i id m tot sz hg
  have main : ∀ (ob : AObj) (v : AV) (z : Nat) (vs : List Value), s.heap[id]? = some ob → sz = z → (∀ w b, ownsO w b ob = []) → (∀ (g : Gh) (w : World) (b : Nat), ObjR g w b ob → (0 < tot → ob.dead = false ∧ ∀ b, ObjR g w b ob → ∃ arr t rest, CellsAt w b arr t ∧ arr.toList = vs ++ rest) ∧ vs.length = tot * z ∧ (∀ u ∈ vs, u.oneCell' = true) ∧ (∀ (g' : Gh) (w : World) (ao : Option Addr) (cp : Nat), m ≤ tot → Row g' w true ao m cp z (vs.take (m * z)) → VR g' w v (.slice ao m cp) ∧ owns v (.slice ao m cp) = recs ao (m * z) (cp * z))) →
      ∀ (F : Nat → Prop) (nt : Nat) (g : Gh) (a : Act) (w : World) (B : List Nat), B <+: g.obj → SimX F nt g s a w [] → ∃ g', B <+: g'.obj ∧ SimX F nt g' ⟨(t, v) :: s.slots, s.heap.set id .gone⟩ a w [] ∧ Step F g w g' w := by
    intro ob v z vs hob hsz hO hp F nt g a w B hpre hs
    subst hsz
    have hv := hs.slots t
    rw [hg] at hv
    have hcore := hs.core
    rw [List.nil_append] at hcore
    have hv' := hv
    simp only [VR] at hv'
    obtain ⟨_, b, _, _, _, _, hb, _⟩ := hv'
    obtain ⟨p1, p2, p3, p4⟩ := hp g w b (getObj_ok hcore.heap id b _ hob hb)
    obtain ⟨ao, cp, g1, e1, e2, e3, e4, e5, e6, e7, e8, e9⟩ := mo_open hcore hob hO p1 p2 p3 hv
    obtain ⟨q1, q2⟩ := p4 g1 w ao cp e9 e8
    have hlt : t < nt := by
      rcases Nat.lt_or_ge t nt with h | h
      · exact h
      · have : a.tmps.getD t undef = undef := by
          rw [Array.getD_eq_getD_getElem?, Array.getElem?_eq_none (by rw [hs.size]; exact h)]; rfl
        rw [this] at e1
        cases e1
    have hsim : SimX F nt g1 ⟨s.slots, s.heap.set id .gone⟩ a w (owns v (a.tmps.getD t undef)) := ⟨hs.size, fun t' => VR.ext e3 _ _ (hs.slots t'), by rw [simx_put_heap, e1, q2]; exact e6⟩
    have hput := hsim.put (by rw [e1]; exact q1) (some t) (fun t' h => by injection h with h; subst h; exact hlt)
    have ha : a.put (some t) (a.tmps.getD t undef) = a := by
      have : a.tmps.setIfInBounds t (a.tmps.getD t undef) = a.tmps := by
        apply Array.ext'
        have hl : t < a.tmps.size := by rw [hs.size]; exact hlt
        simp only [Array.toList_setIfInBounds]
        rw [Array.getD_eq_getD_getElem?, Array.getElem?_eq_getElem hl]
        apply List.ext_getElem?
        intro j
        by_cases e : t = j
        · subst e; simp [hl]
        · simp [List.getElem?_set, e]
      simp only [Act.put, this]
    rw [ha] at hput
    exact ⟨g1, by rw [e2]; exact hpre, hput, e4⟩
  split at h
  · rename_i kd xs hob
    obtain ⟨h1, h2⟩ | ⟨_, h2⟩ := cond_some h
    case inr => cases h2
    simp only [Bool.and_eq_true, beq_iff_eq, decide_eq_true_eq] at h1
    refine ⟨_, h2, main _ _ 1 (xs.map (Value.int kd)) hob h1.1 (fun _ _ => rfl) fun g w b hR => ⟨by rw [h1.2]; exact rowN_cells, by simp [h1.2], fun u hu => by obtain ⟨_, _, rfl⟩ := List.mem_map.1 hu; rfl, fun g' w' ao cp hm hrow => ⟨?_, ?_⟩⟩⟩
    · simp only [VR]
      rw [Nat.mul_one, ← List.map_take] at hrow
      exact ⟨_, _, _, rfl, hrow⟩
    · rw [owns_ints]
      rw [List.length_take, ← h1.2, Nat.min_eq_left hm, Nat.mul_one, Nat.mul_one]
  · rename_i sc els hob
    obtain ⟨h1, h2⟩ | ⟨_, h2⟩ := cond_some h
    case inr => cases h2
    simp only [Bool.and_eq_true, beq_iff_eq, decide_eq_true_eq] at h1
    refine ⟨_, h2, main _ _ sc (rowCells els) hob h1.1 (fun _ _ => rfl) fun g w b hR => ?_⟩
    have hpl := rowC_plain hR
    refine ⟨by rw [h1.2]; exact rowC_cells, by rw [rowCells_len fun e he => (hpl e he).1, h1.2], rowCells_one fun e he => (hpl e he).2, fun g' w' ao cp hm hrow => ⟨?_, ?_⟩⟩
    · simp only [VR]
      rw [rowCells_take m fun e he => (hpl e he).1] at hrow
      refine ⟨_, _, _, _, rfl, hrow, by rw [List.length_take, ← h1.2]; exact Nat.min_eq_left hm, fun e he => ?_, pvss_back _ _ fun e he => (hpl e (List.mem_of_mem_take he)).2⟩
      have he := List.mem_of_mem_take he
      refine ⟨(hpl e he).1, ?_⟩
      have : ∀ (cs : List AV), cs.all AV.plain = true → noPtrL cs = true := by
        intro cs
        induction cs with
        | nil => intro _; rfl
        | cons a cs ih =>
          intro hh
          simp only [List.all_cons, Bool.and_eq_true] at hh
          have : noPtr a = true := by have := hh.1; cases a <;> simp [AV.plain] at this <;> rfl
          simp [noPtrL, this, ih hh.2]
      exact this e (hpl e he).2
    · rw [owns_sl, List.length_take, ← h1.2, Nat.min_eq_left hm]
  · cases h
theorem snd_frz {t : Nat} {x : Ex} {cd : Code} (hx : Snd c x cd) : Snd c (efrz t x) cd := by
  intro s R k r h
  obtain ⟨s1, h1, h2⟩ := frzS_some h
  obtain ⟨e, s2, h3, h4⟩ := hx s1 R k r h1
  refine ⟨e, s2, h3, fun F g a w B hB hp hs ro dn hro => ?_⟩
  obtain ⟨g', q1, q2, q3⟩ := h2 F c.nt g a w B hp hs
  refine wpIn_mono (h4 F g' a w B hB q1 q2 ro dn hro) ?_
  rintro e' a' w' ⟨rfl, h5⟩
  exact ⟨rfl, h5.trans (fun _ h => h) q3 (Dfs.refl _ _ _ _)⟩
def efrzs : List Nat → Ex → Ex
  | [], x => x
  | t :: ts, x => efrz t (efrzs ts x)
theorem snd_frzs {x : Ex} {cd : Code} (hx : Snd c x cd) : ∀ ts : List Nat, Snd c (efrzs ts x) cd
  | [] => hx
  | t :: ts => snd_frz (snd_frzs hx ts)

/-! ### a bytes.Buffer that is new, out of a literal -/
def isBuf1 : Value → Bool
  | .agg vs => match vs.toList with
    | [.slice none 0 0, .int .i64 0, .int .i8 0] => true
    | _ => false
  | _ => false
theorem isBuf1_ok {v : Value} (h : isBuf1 v = true) : v = .agg #[.slice none 0 0, .int .i64 0, .int .i8 0] := by
  unfold isBuf1 at h
  split at h
  · rename_i vs
    split at h
    · rename_i he
      congr 1
      apply Array.ext'
      simpa using he
    · cases h
  · cases h
theorem ok_buildB {t : TypeId} {fs : Array Field} {zr : Value} (h : o.op = .build t #[]) (hd : c.P.underlying t = some (.struct fs)) (hz : (c.P.info? t).bind (·.zero) = some zr) {pl : List (Nat × Nat)} (hpl : placesOf c.P fs = some pl) (hf : isBuf1 zr = true) : OpOK c .buildB o := by
  intro s R k r hr
  simp only [AOp.run] at hr
  obtain ⟨i, hi1, hi2⟩ := Option.bind_eq_some_iff.1 hz
  have hzr := isBuf1_ok hf
  refine ⟨_, _, hr, OpSem.run fun F g a w B _ hp hs => ?_⟩
  have hc := hs.core.addDead (ob := .rowN .u8 []) 0 rfl
  have ext : Ext g w ⟨g.obj ++ [0], g.len⟩ w := ⟨fun _ _ _ => rfl, fun _ _ => rfl, fun _ => Nat.le_refl _, fun _ => Nat.le_refl _, fun i b hi => by
    simp only
    rw [List.getElem?_append_left (List.getElem?_eq_some_iff.1 hi).1]; exact hi⟩
  have hown : owns (.agg [.mo s.heap.length 0 0 1, .int .i64 0, .int .i8 0]) (.agg #[.slice none 0 0, .int .i64 0, .int .i8 0]) = [] := rfl
  refine ⟨.agg #[.slice none 0 0, .int .i64 0, .int .i8 0], ⟨g.obj ++ [0], g.len⟩, w, ?_, ?_, hp.trans (List.prefix_append _ _), ⟨hs.size, fun t => VR.ext ext _ _ (hs.slots t), ?_⟩, ⟨ext.cell, ext.ty, ext.bsz, ext.len, fun _ _ => ⟨rfl, rfl⟩, Nat.le_refl _, rfl, rfl, rfl⟩⟩
  · simp only [execOp, h]
    refine run_value (run_build w t _ _ ?_)
    unfold Program.built
    unfold placesOf at hpl
    rw [hi1, hd]
    simp only [hi2, hpl, hzr]
    simp [Instr.fill, Value.cells]
  · simp only [VR]
    refine ⟨_, rfl, ?_⟩
    simp only [VRs, VR]
    refine ⟨_, _, rfl, ⟨none, 0, 0, rfl, Nat.le_refl _, Nat.le_refl _, ?_, fun _ => ⟨rfl, rfl⟩, fun h => by omega⟩, _, _, rfl, rfl, _, _, rfl, rfl, rfl⟩
    rw [hs.core.heap.length]; simp
  · rw [simx_put_heap, hown]
    exact hc
theorem ok_boxB {t : TypeId} {p : Operand} {x : AX} (h : o.op = .box t p) (hx : fitX x p = true) : OpOK c (.boxB t x) o := by
  intro s R k r hr
  simp only [AOp.run] at hr
  split at hr
  case h_2 => cases hr
  rename_i id hv
  refine ⟨_, _, hr, OpSem.run fun F g a w B hB hpre hs => ?_⟩
  have hp := ev_read hs hx
  rw [hv] at hp
  simp only [VR] at hp
  obtain ⟨vs, hp, hvs⟩ := hp
  simp only [VRs, VR] at hvs
  obtain ⟨v1, u1, e1, ⟨ao, b, cp, rfl, _, _, _, hnil, _⟩, v2, u2, rfl, rfl, v3, u3, rfl, rfl, rfl⟩ := hvs
  obtain ⟨rfl, rfl⟩ := hnil trivial
  have hcells : (a.eval p).cells = #[.slice none 0 0, .int .i64 0, .int .i8 0] := by
    rw [hp]
    apply Array.ext'
    simpa [Value.cells] using e1
  have hc := hs.core
  have hnew := heap_alloc_new w (.cells (a.eval p).cells t)
  rw [hcells] at hnew
  obtain ⟨g', e1, e2, e3, e4⟩ := Core.newObjG (os0 := []) (ob := .buf 1 t []) (w' := w.alloc (.cells (a.eval p).cells t)) hc (fun k hk => heap_alloc_old w _ k hk) (by simp) rfl rfl rfl (by
      simp only [ownsO]
      rw [hcells, hnew]
      rfl)
    (fun g' _ => by
      simp only [ObjR]
      refine ⟨_, 0, by rw [hcells]; exact hnew, ?_, fun _ => rfl, fun a n c h => by injection h with _ _ h; omega⟩
      simp only [VR]
      exact ⟨none, 0, 0, rfl, row_nil _ _ _ _⟩)
  refine ⟨.pointer (some ⟨w.heap.size, 0, none⟩), g', w.alloc (.cells (a.eval p).cells t), ?_, ?_, by rw [e1]; exact hpre.trans (List.prefix_append _ _), ?_, e3⟩
  · simp [execOp, h, Instr.box, newVar, newRow]
  · simp only [VR]
    refine ⟨_, rfl, ?_⟩
    rw [e1, hs.core.heap.length]
    simp
  · exact ⟨hs.size, fun t' => VR.ext e2 _ _ (hs.slots t'), by rw [simx_put_heap]; exact e4⟩
end Go.Sh

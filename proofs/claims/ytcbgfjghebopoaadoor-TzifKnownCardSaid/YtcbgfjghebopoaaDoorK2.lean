/- Texts of this session, joined and cut to what one statement needs, under short names. -/
import Derived.Test.YtcbgfjghebopoaaDoorK1
import Derived.Shelf.Strings.Builder1
import Derived.Lib.Split
import Derived.Shelf.LaysM
import Derived.Shelf.Bytes.Len
import Derived.Shelf.Bytes.TryGrow
import Derived.Shelf.Bytes.GrowSliceCatch
import Derived.Shelf.Bytes.GrowSlice
import Derived.Shelf.Strings.Search1
import Derived.Shelf.Bytes.ResetKept
import Derived.Shelf.Slices.Equal
import Derived.Shelf.Bytes.SlIndexSmall
import Derived.Shelf.Bytes.SlIndexAt
import Derived.Shelf.Bytes.SlSearch0
import Derived.Shelf.Bytes.SlSearch1
import Derived.Shelf.Bytes.SlSearch2
import Derived.Shelf.Bytes.SlIndexWhole
import Derived.Ground.SlbtProg
import Derived.Shelf.Bytes.SlCut
import Derived.Shelf.Bytes.Small
import Derived.Shelf.Bytes.IndexByte
import Derived.Test.YtcbgfjghebopoaaDoorProg
import Derived.Lib.IndexMore
import Derived.Shelf.RegionOpenPlain
import Derived.Lib.AppendZeros
import Derived.Lib.Hide
import Derived.Lib.BufferGrow
import Derived.Laws.CopyRow
import Derived.Laws.IdiomCopy
import Derived.Laws.MakeOwn
import Derived.OwnWalk
import Derived.Defers
import Derived.Recover
import Derived.RegionTactic
import Derived.Deep.RegionWith
import Derived.Deep.Draws
import Derived.BigCall
import Derived.BigGuard
namespace Go.Sh
open Go.RowKit
set_option linter.unusedSimpArgs false
set_option linter.unusedVariables false
variable {c : Cx} {o : Oper}
def OA (F : Nat → Prop) (g : Gh) (H : List AObj) (os : List Rec) (w : World) (k : Nat) : Prop := ¬ F k ∧ oc k os + oc k (bi w H g.obj) + (lives H g.obj).count k = 0 ∧ g.len k = 0
theorem Core.V9 {F : Nat → Prop} {g : Gh} {H : List AObj} {os : List Rec} {w : World} (h : Core F g H os w) {k : Nat} (hk : w.heap.size ≤ k) : OA F g H os w k := by
  refine ⟨fun hF => by have := h.flt k hF; omega, ?_, ?_⟩
  · have a1 : oc k os = 0 := by
      rcases Nat.eq_zero_or_pos (oc k os) with e | e
      · exact e
      · obtain ⟨r, hr, hr2⟩ := List.countP_pos_iff.1 e
        have := (h.own r (.inl hr)).lt
        simp at hr2
        omega
    have a2 : oc k (bi w H g.obj) = 0 := by
      rcases Nat.eq_zero_or_pos (oc k (bi w H g.obj)) with e | e
      · exact e
      · obtain ⟨r, hr, hr2⟩ := List.countP_pos_iff.1 e
        have := (h.own r (.inr hr)).lt
        simp at hr2
        omega
    have a3 : (lives H g.obj).count k = 0 := List.count_eq_zero.2 (fun hm => by have := h.heap.lt _ hm; omega)
    omega
  · rcases Nat.eq_zero_or_pos (g.len k) with e | e
    · exact e
    · have := h.lenlt k e; omega
theorem Core.elsewhere {F : Nat → Prop} {g : Gh} {H : List AObj} {os : List Rec} {w w' : World} (h : Core F g H os w) (hk : ∀ k, k < w.heap.size → w'.heap[k]? = w.heap[k]? ∨ OA F g H os w k) (hbz : ∀ b, kN w b ≤ kN w' b)
    (hs : w.heap.size ≤ w'.heap.size) (ho : w'.os = w.os) (ht : w'.tape = w.tape) (hout : w'.output = w.output) : Ext g w g w' ∧ Step F g w g w' ∧ Core F g H os w' := by
  have hl : ∀ b, 0 < g.len b → w'.heap[b]? = w.heap[b]? := fun b hb => (hk b (h.lenlt b hb)).resolve_right (fun hf => by have := hf.2.2; omega)
  have hF : ∀ b, F b → w'.heap[b]? = w.heap[b]? := fun b hb => (hk b (h.flt b hb)).resolve_right (fun hf => hf.1 hb)
  have ext : Ext g w g w' := ⟨fun b j hj => cell_of (hl b (by omega)) j, fun b hb => mQ (hl b hb), hbz, fun _ => Nat.le_refl _, fun _ _ h => h⟩
  have hobj := ObjsR.move ext H g.obj h.heap (fun b hb => (hk b (h.heap.lt b hb)).resolve_right (fun hf => by have := List.count_pos_iff.2 hb; have := hf.2.1; omega))
  refine ⟨ext, ⟨ext.cell, ext.ty, ext.bsz, ext.len, fun b hb => ⟨hF b hb, rfl⟩, hs, ho, ht, hout⟩, hobj.1, fun r hr => ?_, fun b => ?_, fun b hb => ?_, h.objlen, fun b hb => Nat.lt_of_lt_of_le (h.lenlt b hb) hs, fun b hb => Nat.lt_of_lt_of_le (h.flt b hb) hs, h.good.step (fun _ h => h) hF⟩
  · rw [hobj.2] at hr
    have h1 := h.own r hr
    obtain ⟨o1, o2, arr, t, o3, o4⟩ := h1
    exact ⟨o1, o2, arr, t, o3.of_heap ((hk r.1 o3.lt).resolve_right (fun hf => by
      have := hf.2.1
      rcases hr with hr | hr
      · have := uG hr; omega
      · have := uG hr; omega)), o4⟩
  · rw [hobj.2]; exact h.dist b
  · rw [hobj.2]; exact h.notF b hb
theorem ObjsR.gone {g : Gh} {w : World} : ∀ {H : List AObj} {bs : List Nat} (id : Nat), ObjsR g w H bs → ObjsR g w (H.set id .gone) bs
  | [], bs, id, h => by simpa using h
  | x :: H, bs, 0, h => by
    simp only [ObjsR] at h
    obtain ⟨b, cs, rfl, h1, h2⟩ := h
    simp only [List.set_cons_zero, ObjsR]
    exact ⟨b, cs, rfl, trivial, h2⟩
  | x :: H, bs, id + 1, h => by
    simp only [ObjsR] at h
    obtain ⟨b, cs, rfl, h1, h2⟩ := h
    simp only [List.set_cons_succ, ObjsR]
    exact ⟨b, cs, rfl, h1, ObjsR.gone id h2⟩
theorem ET : ∀ {H : List AObj} {bs : List Nat} (id : Nat) (x : Nat), (lives (H.set id .gone) bs).count x ≤ (lives H bs).count x
  | [], bs, id, x => by simp
  | y :: H, [], id, x => by cases id <;> simp [lives]
  | y :: H, b :: bs, 0, x => by
    rw [List.set_cons_zero, lives, lives]
    cases y.dead with
    | true => exact Nat.le_refl _
    | false => exact List.count_le_count_cons
  | y :: H, b :: bs, id + 1, x => by
    have := ET (H := H) (bs := bs) id x
    rw [List.set_cons_succ, lives, lives]
    cases y.dead with
    | true => exact this
    | false => simp only [cond_false, List.count_cons]; omega
theorem Ia : ∀ {H : List AObj} {bs : List Nat} {id b : Nat} {o : AObj}, H[id]? = some o → bs[id]? = some b → o.dead = false → (lives (H.set id .gone) bs).count b + 1 ≤ (lives H bs).count b
  | [], _, _, _, _, h, _, _ => by simp at h
  | x :: H, [], _, _, _, _, h, _ => by simp at h
  | x :: H, c :: cs, 0, b, o, h1, h2, hd => by
    simp at h1 h2
    subst h1 h2
    rw [List.set_cons_zero, lives, lives, hd]
    simp [AObj.dead]
  | x :: H, c :: cs, i + 1, b, o, h1, h2, hd => by
    simp at h1 h2
    have := Ia h1 h2 hd
    rw [List.set_cons_succ, lives, lives]
    cases x.dead with
    | true => exact this
    | false => simp only [cond_false, List.count_cons]; omega
theorem Mc {w : World} : ∀ {H : List AObj} {bs : List Nat} (id : Nat), (∀ x, oc x (bi w (H.set id .gone) bs) ≤ oc x (bi w H bs)) ∧ ∀ r, r ∈ bi w (H.set id .gone) bs → r ∈ bi w H bs
  | [], bs, id => by simp
  | y :: H, [], id => by cases id <;> simp [bi]
  | y :: H, b :: bs, 0 => by
    rw [List.set_cons_zero, bi, bi]
    exact ⟨fun x => by simp only [fC, ax, l7]; omega, fun r hr => by simp only [fC, List.nil_append] at hr; exact List.mem_append_right _ hr⟩
  | y :: H, b :: bs, id + 1 => by
    obtain ⟨h1, h2⟩ := Mc (w := w) (H := H) (bs := bs) id
    rw [List.set_cons_succ, bi, bi]
    exact ⟨fun x => by have := h1 x; simp only [ax]; omega, fun r hr => by
      rcases List.mem_append.1 hr with hr | hr
      · exact List.mem_append_left _ hr
      · exact List.mem_append_right _ (h2 r hr)⟩
theorem Core.Ru {F : Nat → Prop} {g : Gh} {H : List AObj} {os : List Rec} {w : World} (h : Core F g H os w) (id : Nat) : Core F g (H.set id .gone) os w ∧ ∀ (o : AObj) (b : Nat), H[id]? = some o → g.obj[id]? = some b → o.dead = false → OA F g (H.set id .gone) os w b := by
  obtain ⟨h1, h2⟩ := Mc (w := w) (H := H) (bs := g.obj) id
  refine ⟨⟨h.heap.gone id, fun r hr => h.own r (hr.imp_right (h2 r)), fun b => ?_, fun b hb => ?_, fun b hb => ?_, h.lenlt, h.flt, h.good⟩, fun o b ho hb hd => ?_⟩
  · have := h.dist b; have := h1 b; have := ET (H := H) (bs := g.obj) id b; omega
  · have := h.notF b hb; have := h1 b; have := ET (H := H) (bs := g.obj) id b; omega
  · have h3 := List.count_pos_iff.2 hb
    have := ET (H := H) (bs := g.obj) id b
    exact h.objlen b (List.count_pos_iff.1 (by omega))
  · have hm := kQ ho hb hd
    have h3 := List.count_pos_iff.2 hm
    have h4 := h.dist b
    have h5 := Ia ho hb hd
    have h6 := h1 b
    exact ⟨fun hF => by have := h.notF b hF; omega, by omega, h.objlen b hm⟩
theorem Core.Xe {F : Nat → Prop} {g : Gh} {H : List AObj} {os : List Rec} {w : World} {b k cp : Nat} {arr : Array Value} {t : TypeId} (h : Core F g H os w) (hf : OA F g H os w b) (hw : CellsAt w b arr t) (hk : k ≤ cp) (hc : cp ≤ arr.size) :
    Ext g w (g.set b k) w ∧ Step F g w (g.set b k) w ∧ Core F (g.set b k) H ((b, k, cp) :: os) w := by
  obtain ⟨f1, f2, f3⟩ := hf
  have ext : Ext g w (g.set b k) w := ⟨fun _ _ _ => rfl, fun _ _ => rfl, fun _ => Nat.le_refl _, fun x => by
    by_cases e : x = b
    · subst e; rw [f3]; exact Nat.zero_le _
    · simp [Gh.set, e], fun _ _ h => h⟩
  have hobj := ObjsR.move ext H g.obj h.heap (fun _ _ => rfl)
  refine ⟨ext, ⟨ext.cell, ext.ty, ext.bsz, ext.len, fun x hx => ⟨rfl, ?_⟩, Nat.le_refl _, rfl, rfl, rfl⟩, hobj.1, fun r hr => ?_, fun x => ?_, fun x hx => ?_, fun x hx => ?_, fun x hx => ?_, h.flt, h.good⟩
  · have : x ≠ b := fun e => f1 (e ▸ hx)
    simp [Gh.set, this]
  · have other : r ∈ os ∨ r ∈ bi w H g.obj → OwnOK (g.set b k) w r := fun hr => by
      have hne : r.1 ≠ b := fun e => by
        rcases hr with hr | hr
        · have := uG hr; rw [e] at this; omega
        · have := uG hr; rw [e] at this; omega
      obtain ⟨o1, o2, o3⟩ := h.own r hr
      exact ⟨by simp [Gh.set, hne, o1], o2, o3⟩
    rcases hr with hr | hr
    · rcases List.mem_cons.1 hr with rfl | hr
      · exact ⟨by simp [Gh.set], hk, arr, t, hw, hc⟩
      · exact other (.inl hr)
    · exact other (.inr hr)
  · have := h.dist x
    show oc x ((b, k, cp) :: os) + oc x (bi w H g.obj) + (lives H g.obj).count x ≤ 1
    rw [CL]
    by_cases e : b = x
    · subst e; simp; omega
    · simp only [e, if_false]; omega
  · have := h.notF x hx
    show oc x ((b, k, cp) :: os) + oc x (bi w H g.obj) + (lives H g.obj).count x = 0
    rw [CL]
    have e : b ≠ x := fun e => f1 (e ▸ hx)
    simp only [e, if_false]; omega
  · have e : x ≠ b := fun e => by subst e; have := List.count_pos_iff.2 (show x ∈ lives H g.obj from hx); omega
    simp [Gh.set, e]; exact h.objlen x hx
  · by_cases e : x = b
    · subst e; exact hw.lt
    · simp [Gh.set, e] at hx; exact h.lenlt x hx
theorem Core.newRow {F : Nat → Prop} {g : Gh} {H : List AObj} {os : List Rec} {w w' : World} {b' : Nat} {ob : AObj} (h : Core F g H os w) (hk : ∀ k, k < w.heap.size → w'.heap[k]? = w.heap[k]? ∨ OA F g H os w k) (hbz : ∀ b, kN w b ≤ kN w' b)
    (hs : w.heap.size ≤ w'.heap.size) (ho : w'.os = w.os) (ht : w'.tape = w.tape) (hout : w'.output = w.output) (hf : OA F g H os w b') (hO : ∀ w, fC w b' ob = []) (hR : ∀ g', ObjR g' w' b' ob) :
    Ext g w ⟨g.obj ++ [b'], g.len⟩ w' ∧ Step F g w ⟨g.obj ++ [b'], g.len⟩ w' ∧ Core F ⟨g.obj ++ [b'], g.len⟩ (H ++ [ob]) os w' := by
  obtain ⟨e1, e2, e3⟩ := h.elsewhere hk hbz hs ho ht hout
  have hobj := ObjsR.move e1 H g.obj h.heap (fun b hb => (hk b (h.heap.lt b hb)).resolve_right (fun hf => by have := List.count_pos_iff.2 hb; have := hf.2.1; omega))
  refine ⟨⟨e1.cell, e1.ty, e1.bsz, e1.len, fun i b hi => ?_⟩, ⟨e2.cell, e2.ty, e2.bsz, e2.len, e2.frame, e2.size, e2.os, e2.tape, e2.output⟩, e3.Xc (by rw [hobj.2]; exact hf.2.1) hf.1 hf.2.2 (hO _) (hR _)⟩
  simp only
  rw [List.getElem?_append_left (List.getElem?_eq_some_iff.1 hi).1]; exact hi
theorem Md {g : Gh} {w : World} {b : Nat} {vs : List Value} {arr : Array Value} {t : TypeId} (hrd : Reads g w ⟨b, 0, none⟩ vs) (hle : vs.length ≤ arr.size) (hw : CellsAt w b arr t) : ∃ rest, arr.toList = vs ++ rest := by
  refine ⟨arr.toList.drop vs.length, ?_⟩
  have : arr.toList.take vs.length = vs := by
    apply List.ext_getElem?
    intro j
    by_cases hj : j < vs.length
    · rw [List.getElem?_take, if_pos hj, ← hrd.2.2 j hj, Nat.zero_add, hw.cell]
      simp
    · rw [List.getElem?_eq_none (by simp; omega), List.getElem?_eq_none (by omega)]
  conv => lhs; rw [← List.take_append_drop vs.length arr.toList, this]
def NI (ob : AObj) (z : Nat) (vs : List Value) : Prop := (∀ (w : World) (b : Nat), fC w b ob = []) ∧ (∀ (g : Gh) (w : World) (b : Nat) (arr : Array Value) (t : TypeId) (rest : List Value), CellsAt w b arr t → arr.toList = vs ++ rest → ObjR g w b ob)
theorem Rv (kd : IntKind) (xs : List Int) : NI (.rowN kd xs) 1 (xs.map (Value.int kd)) := ⟨fun _ _ => rfl, fun g w b arr t rest hw ha => by simp only [ObjR]; exact .inr ⟨arr, t, rest, hw, ha⟩⟩
theorem Me {n : Nat} {els : List (List AV)} (h : QA n els = true) : ∀ e ∈ els, e.length = n ∧ e.all AV.plain = true := fun e he => by
  have := List.all_eq_true.1 h e he
  simp only [Bool.and_eq_true] at this
  exact ⟨Nat.eq_of_beq_eq_true this.1, this.2⟩
theorem Wd {n : Nat} {els : List (List AV)} {g : Gh} {w : World} {vs : List Value} (h : ∀ e ∈ els, e.length = n ∧ e.all AV.plain = true) (hv : VRss g w els vs) : NI (.rowC n els) n vs :=
  ⟨fun _ _ => rfl, fun g' w' b arr t rest hw ha => by simp only [ObjR]; exact .inr ⟨h, arr, t, vs, rest, hw, ha, VRss.EN (fun e he => (h e he).2) _ hv⟩⟩
theorem pY (sl : List (Nat × AV)) (H H' : List AObj) : ∀ (l : List Value) (i : Nat), ae ⟨sl, H⟩ i l = ae ⟨sl, H'⟩ i l
  | [], _ => rfl
  | v :: l, i => by simp only [ae]; rw [pY sl H H' l]; rfl
theorem Mf {F : Nat → Prop} {nt : Nat} {g : Gh} {s : St} {a : Act} {w : World} {g1 : Gh} {H : List AObj} {ao : Option Addr} {n cp z m bytes : Nat} {vs us : List Value} {P : Program} {x : Value} {t u ty e : TypeId} {i : TypeInfo} {zr : Value} {du : TypeDesc} {ob : AObj} {sl : List (Nat × AV)}
    (ht : P.underlying t = some (.slice e)) (hu : P.underlying u = some du) (hdu : du = .string ∨ ∃ e', du = .slice e') (hi : P.info? e = some i) (hz : i.zero = some zr) (hsz : i.size = z) (hby : i.bytes = bytes) (hzs : zr.cells.size = z) (h0 : 0 < z) (hb0 : 0 < bytes)
    (hsize : a.tmps.size = nt) (hslots : ∀ t, VR g w ((⟨sl, H⟩ : St).get t) (a.tmps.getD t undef)) (hcore : Core F g H (ae ⟨sl, H⟩ 0 a.tmps.toList) w) (hg1 : g1.obj = g.obj)
    (hc1 : Core F g1 H (recs ao (n * z) (cp * z) ++ ae ⟨sl, H⟩ 0 a.tmps.toList) w) (hfr : ∀ ad, ao = some ad → OA F g H (ae ⟨sl, H⟩ 0 a.tmps.toList) w ad.block)
    (hrow : Row g1 w true ao n cp z vs) (hsrc : Src P w z x m us) (hroom : (n + m) * bytes ≤ 140737488355328) (hpos : 0 < n + m) (hob : NI ob z (vs ++ us)) :
    ∃ ao' cp' w' b', (Builtin.append_ #[t, u] ty #[.slice ao n cp, x]).run P w = .ok (.slice ao' (n + m) cp') w' ∧ VR ⟨g.obj ++ [b'], g.len⟩ w' (.mo H.length (n + m) (n + m) z) (.slice ao' (n + m) cp') ∧ Step F g w ⟨g.obj ++ [b'], g.len⟩ w' ∧ SimX F nt ⟨g.obj ++ [b'], g.len⟩ ⟨sl, H ++ [ob]⟩ a w' [] := by
  obtain ⟨ao', cp', g', w', h1, h2, h3, h4, h5, h6, _, h8, _, h10⟩ := Gf (ty := ty) ht hu hdu hi hz hsz hby hzs h0 hb0 hc1 hrow hsrc hroom
  have hlen : (vs ++ us).length = (n + m) * z := by rw [List.length_append, hrow.1, hsrc.size, Nat.add_mul]
  have hp : 0 < (vs ++ us).length := by rw [hlen]; exact Nat.mul_pos hpos h0
  obtain ⟨ad, had, hrd⟩ := h2.2.2.2.1 hp
  obtain ⟨z1, z2⟩ := h2.2.2.2.2.1 rfl ad had
  obtain ⟨b', off, sp⟩ := ad
  simp only at z1 z2
  subst z1 z2
  subst had
  obtain ⟨o1, o2, arr, tt, o3, o4⟩ := h6.own (b', (n + m) * z, cp' * z) (.inl (by simp [recs]))
  simp only at o1 o2 o3 o4
  obtain ⟨rest, hrest⟩ := Md hrd (by rw [hlen]; omega) o3
  have hfree : OA F g H (ae ⟨sl, H⟩ 0 a.tmps.toList) w b' := by
    rcases h10 with h10 | ⟨ad', h10, h11⟩
    · exact hfr _ h10.symm
    · injection h10 with h10
      subst h10
      exact hcore.V9 h11
  obtain ⟨k1, k2, k3⟩ := hcore.newRow (w' := w') (b' := b') (ob := ob) (fun k hk => by
    by_cases e : ∃ ad, ao = some ad ∧ k = ad.block
    · obtain ⟨ad, e1, e2⟩ := e
      exact .inr (e2 ▸ hfr ad e1)
    · exact .inl (h8 k hk fun ad e1 e2 => e ⟨ad, e1, e2⟩)) h4.bsz h4.size h4.os h4.tape h4.output hfree (fun w => hob.1 w b') (fun g' => hob.2 g' w' b' arr tt rest o3 hrest)
  refine ⟨_, cp', w', b', h1, ?_, k2, hsize, fun t => VR.ext k1 _ _ (hslots t), ?_⟩
  · simp only [VR]
    refine ⟨_, b', cp', rfl, h2.2.1, Nat.le_refl _, ?_, fun h => by omega, fun _ => ⟨rfl, by rw [o3.bsz]; exact o4⟩⟩
    rw [hcore.heap.length]; simp
  · rw [List.nil_append]
    show Core F _ (H ++ [ob]) (ae ⟨sl, H ++ [ob]⟩ 0 a.tmps.toList) w'
    rw [pY sl (H ++ [ob]) H]
    exact k3
theorem Rw {sh : Option IntKind} {z : Nat} (h : o.op = .move (.const (.slice none 0 0)) ∨ o.op = .assign (.const (.slice none 0 0))) : bK c (.nilO sh z) o := by
  intro s R k r hr
  have main : ∀ (ob : AObj) (zz : Nat), ob.dead = true → k (.mo s.heap.length 0 0 zz) ⟨s.slots, s.heap ++ [ob]⟩ = some r → ∃ v s', k v s' = some r ∧ OpSem c o s v s' := fun ob zz hd hk => by
    refine ⟨_, _, hk, OpSem.run fun F g a w B _ hp hs => ?_⟩
    have hc := hs.core.Oy (ob := ob) 0 hd
    have ext : Ext g w ⟨g.obj ++ [0], g.len⟩ w := ⟨fun _ _ _ => rfl, fun _ _ => rfl, fun _ => Nat.le_refl _, fun _ => Nat.le_refl _, fun i b hi => by
      simp only
      rw [List.getElem?_append_left (List.getElem?_eq_some_iff.1 hi).1]; exact hi⟩
    refine ⟨.slice none 0 0, ⟨g.obj ++ [0], g.len⟩, w, by rcases h with h | h <;> simp [execOp, h, Sem.run, Act.eval], ?_, hp.trans (List.prefix_append _ _), ⟨hs.size, fun t => VR.ext ext _ _ (hs.slots t), ?_⟩, ⟨ext.cell, ext.ty, ext.bsz, ext.len, fun _ _ => ⟨rfl, rfl⟩, Nat.le_refl _, rfl, rfl, rfl⟩⟩
    · simp only [VR]
      refine ⟨none, 0, 0, rfl, Nat.le_refl _, Nat.le_refl _, ?_, fun _ => ⟨rfl, rfl⟩, fun h => by omega⟩
      rw [hs.core.heap.length]; simp
    · rw [cO]
      exact hc
  simp only [AOp.run] at hr
  split at hr
  · obtain ⟨_, h2⟩ | ⟨_, h2⟩ := af hr
    · exact main _ _ rfl h2
    · cases h2
  · exact main _ _ rfl hr
theorem QS {z bytes : Nat} {x y : AX} {p q : Operand} {t u e : TypeId} {zr : Value} {cl : Call} {e' : TypeId} (h : o.op = .call cl) (hc : cl.callee = .builtin .append) (hargs : cl.args = #[p, q]) (hts : cl.argTypes = #[t, u]) (ht : c.P.underlying t = some (.slice e)) (hu : c.P.underlying u = some (.slice e'))
    (hi : (c.P.info? e).map (fun i => (i.size, i.bytes, i.zero)) = some (z, bytes, some zr)) (hzs : zr.cells.size = z) (h0 : 0 < z) (hb0 : 0 < bytes) (hx : bB x p = true) (hy : bB y q = true) : bK c (.appendN z bytes x y) o := by
  obtain ⟨i, hi1, hi2⟩ := Option.map_eq_some_iff.1 hi
  injection hi2 with hi2 hi3
  injection hi3 with hi3 hi4
  intro s R k r hr
  have key : ∀ (F : Nat → Prop) (g : Gh) (a : Act) (w : World) (B : List Nat) (ob : AObj) (ao bo : Option Addr) (m cp cq : Nat) (us : List Value) (own2 : Bool), B <+: g.obj → SimX F c.nt g (x.st s) a w (recs ao 0 (cp * z)) →
      a.eval p = .slice ao 0 cp → a.eval q = .slice bo m cq → Row g w true ao 0 cp z [] → Row g w own2 bo m cq z us → m * bytes ≤ 140737488355328 → 0 < m → NI ob z us →
      ∃ v' g' w', (execOp a.eval o).run c.P w = .ok (.value v') w' ∧ VR g' w' (.mo s.heap.length m m z) v' ∧ B <+: g'.obj ∧ SimX F c.nt g' ⟨(x.st s).slots, s.heap ++ [ob]⟩ a w' (owns (.mo s.heap.length m m z) v') ∧ Step F g w g' w' := by
    intro F g a w B ob ao bo m cp cq us own2 hpre hs hp hq hr1 hr2 hroom hpos hob
    have hheap : (x.st s).heap = s.heap := by cases x <;> rfl
    have hcore := hs.core
    rw [hheap] at hcore
    have hst : (⟨(x.st s).slots, s.heap⟩ : St) = x.st s := by rw [← hheap]
    obtain ⟨ao', cp', w', b', k1, k2, k3, k4⟩ := Mf (F := F) (nt := c.nt) (s := s) (g := g) (g1 := g) (H := s.heap) (sl := (x.st s).slots) (ob := ob) (n := 0) (ty := o.type) (cp := cp) (vs := []) (us := us) ht hu (.inr ⟨e', rfl⟩) hi1 hi4 hi2 hi3 hzs h0 hb0 hs.size
      (by rw [hst]; exact hs.slots) (by rw [hst]; exact hcore.weaken (fun r hr => List.mem_append_right _ hr) (fun b => by rw [ax]; omega)) rfl (by rw [hst, Nat.zero_mul]; exact hcore) (fun ad had => by
        subst had
        rw [hst]
        have hin : (ad.block, 0, cp * z) ∈ recs (some ad) 0 (cp * z) := by simp [recs]
        have hd := hcore.dist ad.block
        have h1 : oc ad.block (recs (some ad) 0 (cp * z)) = 1 := by simp [recs, oc]
        rw [ax, h1] at hd
        exact ⟨fun hF => by have := hcore.notF _ hF; rw [ax, h1] at this; omega, by omega, (hcore.own _ (.inl (List.mem_append_left _ hin))).1⟩)
      hr1 hr2.src (by simpa using hroom) (by omega) (by simpa using hob)
    rw [Nat.zero_add] at k1 k2
    have hown : owns (.mo s.heap.length m m z) (.slice ao' m cp') = [] := by cases ao' <;> rfl
    refine ⟨_, _, w', ?_, k2, hpre.trans (List.prefix_append _ _), by rw [hown]; exact k4, k3⟩
    refine dC h hc ?_
    rw [hargs, hts]
    simp only [builtin, List.map_toArray, List.map_cons, List.map_nil, hp, hq, Sem.run_bind, k1, Result.andThen]
    rfl
  simp only [AOp.run] at hr
  split at hr
  · rename_i kd l own2 km l2 hv hw
    obtain ⟨h1, hr2⟩ | ⟨_, hr2⟩ := af hr
    case inr => exact absurd hr2 (by simp)
    obtain ⟨h2, hr3⟩ | ⟨_, hr3⟩ := af hr2
    case inr => exact absurd hr3 (by simp)
    simp only [Bool.and_eq_true, beq_iff_eq, decide_eq_true_eq, List.isEmpty_iff, Bool.not_eq_true', List.isEmpty_eq_false_iff] at h1 h2
    obtain ⟨⟨⟨rfl, rfl⟩, rfl⟩, hne⟩ := h1
    refine ⟨_, _, hr3, OpSem.run fun F g a w B hB hpre hs => ?_⟩
    obtain ⟨h3, h4⟩ := AX.ok hs hx
    have h5 := ak h4 hy
    rw [hv] at h3 h4
    rw [hw] at h5
    simp only [VR] at h3 h5
    obtain ⟨ao, n, cp, e1, hr1⟩ := h3
    obtain ⟨bo, m, cq, e2, hr2⟩ := h5
    have hn : n = 0 := by have := hr1.1; simp at this; omega
    have hm : m = l2.length := by have := hr2.1; simp at this; exact this.symm
    subst hn; subst hm
    rw [e1, mg, List.append_nil] at h4
    exact key F g a w B _ ao bo _ cp cq _ own2 hpre (by simpa using h4) e1 e2 hr1 hr2 h2 (List.length_pos_iff.2 hne) (Rv _ _)
  · rename_i sz l own2 sm l2 hv hw
    obtain ⟨h1, hr2⟩ | ⟨_, hr2⟩ := af hr
    case inr => exact absurd hr2 (by simp)
    obtain ⟨h2, hr3⟩ | ⟨_, hr3⟩ := af hr2
    case inr => exact absurd hr3 (by simp)
    simp only [Bool.and_eq_true, beq_iff_eq, decide_eq_true_eq, List.isEmpty_iff, Bool.not_eq_true', List.isEmpty_eq_false_iff] at h1 h2
    obtain ⟨⟨⟨h1a, h1b⟩, rfl⟩, hne⟩ := h1
    obtain ⟨h2a, h2⟩ := h2
    subst h1a
    subst h1b
    refine ⟨_, _, hr3, OpSem.run fun F g a w B hB hpre hs => ?_⟩
    obtain ⟨h3, h4⟩ := AX.ok hs hx
    have h5 := ak h4 hy
    rw [hv] at h3 h4
    rw [hw] at h5
    simp only [VR] at h3 h5
    obtain ⟨ao, n, cp, vs, e1, hr1, hn, hsz1, hvs⟩ := h3
    obtain ⟨bo, m, cq, us, e2, hr2, hm, hsz2, hus⟩ := h5
    simp only [VRss] at hvs
    subst hvs
    have hn : n = 0 := by simpa using hn.symm
    subst hn; subst hm
    rw [e1, EM, List.append_nil] at h4
    exact key F g a w B _ ao bo _ cp cq _ own2 hpre (by simpa using h4) e1 e2 hr1 hr2 h2 (List.length_pos_iff.2 hne) (Wd (Me h2a) hus)
  · exact absurd hr (by simp)
theorem Rx {F : Nat → Prop} {g : Gh} {H : List AObj} {os : List Rec} {w : World} {id m tot z : Nat} {ob : AObj} {v : Value} {vs : List Value} (hc : Core F g H os w) (hob : H[id]? = some ob) (hO : ∀ w b, fC w b ob = [])
    (hcells : 0 < tot → ob.dead = false ∧ ∀ b, ObjR g w b ob → ∃ arr t rest, CellsAt w b arr t ∧ arr.toList = vs ++ rest) (hvs : vs.length = tot * z) (hone : ∀ u ∈ vs, u.oneCell' = true) (hv : VR g w (.mo id m tot z) v) :
    ∃ ao cp g1, v = .slice ao m cp ∧ g1.obj = g.obj ∧ Ext g w g1 w ∧ Step F g w g1 w ∧ Core F g (H.set id .gone) os w ∧ Core F g1 (H.set id .gone) (recs ao (m * z) (cp * z) ++ os) w ∧ (∀ ad, ao = some ad → OA F g (H.set id .gone) os w ad.block) ∧ Row g1 w true ao m cp z (vs.take (m * z)) ∧ m ≤ tot := by
  simp only [VR] at hv
  obtain ⟨ao, b, cp, rfl, h1, h2, h3, h4, h5⟩ := hv
  obtain ⟨k1, k2⟩ := hc.Ru id
  rcases Nat.eq_zero_or_pos tot with e | e
  · obtain ⟨rfl, rfl⟩ := h4 e
    have hm : m = 0 := by omega
    subst hm
    refine ⟨none, 0, g, rfl, rfl, Ext.refl _ _, Step.refl _ _ _, k1, by simpa [recs] using k1, fun ad h => (by cases h), ?_, by omega⟩
    simpa using zL g w true z
  · obtain ⟨rfl, h6⟩ := h5 e
    obtain ⟨hd, hcell⟩ := hcells e
    obtain ⟨arr, t, rest, hw, harr⟩ := hcell b (bC hc.heap id b _ hob h3)
    have hf := k2 ob b hob h3 hd
    rw [hw.bsz] at h6
    have hmz : m * z ≤ cp * z := Nat.mul_le_mul_right _ h1
    have hmt : m * z ≤ tot * z := Nat.mul_le_mul_right _ h2
    obtain ⟨e1, e2, e3⟩ := k1.Xe hf hw hmz h6
    have hlen : (vs.take (m * z)).length = m * z := by rw [List.length_take, hvs]; omega
    refine ⟨_, cp, g.set b (m * z), rfl, rfl, e1, e2, k1, by simpa [recs] using e3, fun ad h => by injection h with h; subst h; exact hf, ⟨hlen, h1, Nat.zero_le _, fun _ => ⟨_, rfl, rfl, by rw [hlen]; simp [Gh.set], fun j hj => ?_⟩, fun _ ad h => by injection h with h; subst h; exact ⟨rfl, rfl⟩, fun h => (by cases h), fun u hu => hone u (List.mem_of_mem_take hu)⟩, h2⟩
    rw [hlen] at hj
    rw [Nat.zero_add, hw.cell, List.getElem?_take, if_pos hj]
    have : arr.toList[j]? = vs[j]? := by rw [harr, List.getElem?_append_left (by omega)]
    simpa using this
theorem IK {g : Gh} {w : World} {kd : IntKind} {xs : List Int} (h : 0 < xs.length) : (AObj.rowN kd xs).dead = false ∧ ∀ b, ObjR g w b (.rowN kd xs) → ∃ arr t rest, CellsAt w b arr t ∧ arr.toList = xs.map (Value.int kd) ++ rest := by
  refine ⟨by cases xs with | nil => simp at h | cons a l => rfl, fun b hb => ?_⟩
  simp only [ObjR] at hb
  exact hb.resolve_left (fun e => by subst e; simp at h)
def pv : AV → Value
  | .int k n => .int k n
  | .bool b => .bool b
  | .str s => .string ⟨s.toArray⟩
  | _ => .bool false
theorem XG {g : Gh} {w : World} {a : AV} {v : Value} (hp : a.plain = true) (h : VR g w a v) : v = pv a := by
  cases a <;> simp [AV.plain] at hp <;> simp only [VR] at h
  · exact h
  · exact h
  · obtain ⟨s, rfl, rfl⟩ := h
    rfl
theorem UD {g : Gh} {w : World} : ∀ {cs : List AV} {vs : List Value}, cs.all AV.plain = true → VRs g w cs vs → vs = cs.map pv
  | [], vs, _, h => by simp only [VRs] at h; simp [h]
  | a :: cs, vs, hp, h => by
    simp only [List.all_cons, Bool.and_eq_true] at hp
    simp only [VRs] at h
    obtain ⟨v, us, rfl, h1, h2⟩ := h
    rw [XG hp.1 h1, UD hp.2 h2]; rfl
theorem OC {g : Gh} {w : World} : ∀ {els : List (List AV)} {vs : List Value}, (∀ e ∈ els, e.all AV.plain = true) → VRss g w els vs → vs = els.flatMap fun e => e.map pv
  | [], vs, _, h => by simp only [VRss] at h; simp [h]
  | e :: els, vs, hp, h => by
    simp only [VRss] at h
    obtain ⟨p, q, rfl, h1, h2⟩ := h
    rw [UD (hp e (by simp)) h1, OC (fun e he => hp e (by simp [he])) h2]; rfl
theorem We (g : Gh) (w : World) : ∀ {a : AV}, a.plain = true → VR g w a (pv a)
  | .int k n, _ => by simp [VR, pv]
  | .bool b, _ => by simp [VR, pv]
  | .str s, _ => by simp only [VR, pv]; exact ⟨_, rfl, by simp⟩
  | .undef, h | .ints .., h | .strs .., h | .sl .., h | .eptr .., h | .ptr .., h | .mut .., h | .map .., h | .yld .., h | .mo .., h | .func .., h | .nilFunc, h | .nilIface, h | .iface .., h | .agg .., h | .tuple .., h => by simp [AV.plain] at h
theorem PS (g : Gh) (w : World) : ∀ {cs : List AV}, cs.all AV.plain = true → VRs g w cs (cs.map pv)
  | [], _ => by simp [VRs]
  | a :: cs, h => by
    simp only [List.all_cons, Bool.and_eq_true] at h
    simp only [List.map_cons, VRs]
    exact ⟨_, _, rfl, We g w h.1, PS g w h.2⟩
theorem Hg (g : Gh) (w : World) : ∀ {els : List (List AV)}, (∀ e ∈ els, e.all AV.plain = true) → VRss g w els (els.flatMap fun e => e.map pv)
  | [], _ => by simp [VRss]
  | e :: els, h => by
    simp only [List.flatMap_cons, VRss]
    exact ⟨_, _, rfl, PS g w (h e (by simp)), Hg g w (fun e he => h e (by simp [he]))⟩
theorem Xf : ∀ {a : AV}, a.plain = true → (pv a).oneCell' = true
  | .int k n, _ => rfl
  | .bool b, _ => rfl
  | .str s, _ => rfl
  | .undef, h | .ints .., h | .strs .., h | .sl .., h | .eptr .., h | .ptr .., h | .mut .., h | .map .., h | .yld .., h | .mo .., h | .func .., h | .nilFunc, h | .nilIface, h | .iface .., h | .agg .., h | .tuple .., h => by simp [AV.plain] at h
def fo (els : List (List AV)) : List Value := els.flatMap fun e => e.map pv
theorem vM {n : Nat} : ∀ {els : List (List AV)}, (∀ e ∈ els, e.length = n) → (fo els).length = els.length * n
  | [], _ => by simp [fo]
  | e :: els, h => by
    have := vM (els := els) (fun e he => h e (by simp [he]))
    unfold fo at this ⊢
    rw [List.flatMap_cons, List.length_append, this, List.length_map, h e (by simp), List.length_cons, Nat.add_mul]; omega
theorem EU {els : List (List AV)} (h : ∀ e ∈ els, e.all AV.plain = true) : ∀ u ∈ fo els, u.oneCell' = true := fun u hu => by
  obtain ⟨e, he, hu⟩ := List.mem_flatMap.1 hu
  obtain ⟨a, ha, rfl⟩ := List.mem_map.1 hu
  exact Xf (List.all_eq_true.1 (h e he) a ha)
theorem xY {n : Nat} : ∀ {els : List (List AV)} (m : Nat), (∀ e ∈ els, e.length = n) → (fo els).take (m * n) = fo (els.take m)
  | [], m, _ => by simp [fo]
  | e :: els, m, h => by
    cases m with
    | zero => simp [fo]
    | succ m =>
      have := xY (els := els) m (fun e he => h e (by simp [he]))
      have he : (e.map pv).length = n := by simp [h e (by simp)]
      unfold fo at this ⊢
      rw [List.flatMap_cons, List.take_succ_cons, List.flatMap_cons, ← this, show (m + 1) * n = (e.map pv).length + m * n by rw [he, Nat.add_mul]; omega, List.take_length_add_append]
theorem Ib {n : Nat} : ∀ {els : List (List AV)} (m : Nat), (∀ e ∈ els, e.length = n) → (fo els).drop (m * n) = fo (els.drop m)
  | [], m, _ => by simp [fo]
  | e :: els, m, h => by
    cases m with
    | zero => simp [fo]
    | succ m =>
      have := Ib (els := els) m (fun e he => h e (by simp [he]))
      have he : (e.map pv).length = n := by simp [h e (by simp)]
      unfold fo at this ⊢
      rw [List.flatMap_cons, List.drop_succ_cons, ← this, show (m + 1) * n = (e.map pv).length + m * n by rw [he, Nat.add_mul]; omega, List.drop_length_add_append]
theorem IL {g : Gh} {w : World} {n : Nat} {els : List (List AV)} (h : 0 < els.length) : (AObj.rowC n els).dead = false ∧ ∀ b, ObjR g w b (.rowC n els) → ∃ arr t rest, CellsAt w b arr t ∧ arr.toList = fo els ++ rest := by
  refine ⟨by cases els with | nil => simp at h | cons a l => rfl, fun b hb => ?_⟩
  simp only [ObjR] at hb
  obtain ⟨h1, arr, t, vs, rest, h2, h3, h4⟩ := hb.resolve_left (fun e => by subst e; simp at h)
  exact ⟨arr, t, rest, h2, by rw [h3, OC (fun e he => (h1 e he).2) h4]; rfl⟩
theorem UE {n : Nat} {els : List (List AV)} (h : ∀ e ∈ els, e.length = n ∧ e.all AV.plain = true) : NI (.rowC n els) n (fo els) :=
  ⟨fun _ _ => rfl, fun g' w' b arr t rest hw ha => by simp only [ObjR]; exact .inr ⟨h, arr, t, _, rest, hw, ha, Hg _ _ (fun e he => (h e he).2)⟩⟩
theorem IM {g : Gh} {w : World} {b n : Nat} {els : List (List AV)} (h : ObjR g w b (.rowC n els)) : ∀ e ∈ els, e.length = n ∧ e.all AV.plain = true := by
  simp only [ObjR] at h
  rcases h with rfl | h
  · simp
  · exact h.1
theorem QT {z bytes : Nat} {x y : AX} {p q : Operand} {t u e : TypeId} {zr : Value} {cl : Call} {e' : TypeId} (h : o.op = .call cl) (hc : cl.callee = .builtin .append) (hargs : cl.args = #[p, q]) (hts : cl.argTypes = #[t, u]) (ht : c.P.underlying t = some (.slice e)) (hu : c.P.underlying u = some (.slice e'))
    (hi : (c.P.info? e).map (fun i => (i.size, i.bytes, i.zero)) = some (z, bytes, some zr)) (hzs : zr.cells.size = z) (h0 : 0 < z) (hb0 : 0 < bytes) (hx : bB x p = true) (hy : bB y q = true) : bK c (.appendO z bytes x y) o := by
  obtain ⟨i, hi1, hi2⟩ := Option.map_eq_some_iff.1 hi
  injection hi2 with hi2 hi3
  injection hi3 with hi3 hi4
  intro s R k r hr
  have key : ∀ (F : Nat → Prop) (g : Gh) (a : Act) (w : World) (B : List Nat) (ob ob' : AObj) (id n tot m : Nat) (bo : Option Addr) (cq : Nat) (vs us : List Value) (own2 : Bool), B <+: g.obj → SimX F c.nt g s a w [] → s.heap[id]? = some ob →
      VR g w (.mo id n tot z) (a.eval p) → a.eval q = .slice bo m cq → Row g w own2 bo m cq z us → (∀ w b, fC w b ob = []) → (0 < tot → ob.dead = false ∧ ∀ b, ObjR g w b ob → ∃ arr t rest, CellsAt w b arr t ∧ arr.toList = vs ++ rest) → vs.length = tot * z → (∀ u ∈ vs, u.oneCell' = true) →
      (n + m) * bytes ≤ 140737488355328 → (0 < n + m ∨ tot = 0) → (n + m = 0 → ob'.dead = true) → NI ob' z (vs.take (n * z) ++ us) →
      ∃ v' g' w', (execOp a.eval o).run c.P w = .ok (.value v') w' ∧ VR g' w' (.mo s.heap.length (n + m) (n + m) z) v' ∧ B <+: g'.obj ∧ SimX F c.nt g' ⟨s.slots, s.heap.set id .gone ++ [ob']⟩ a w' (owns (.mo s.heap.length (n + m) (n + m) z) v') ∧ Step F g w g' w' := by
    intro F g a w B ob ob' id n tot m bo cq vs us own2 hpre hs hob hv hq hr2 hO hcl hvl h1 hroom hpos hdd hob'
    have hcore := hs.core
    rw [List.nil_append] at hcore
    by_cases hz0 : n + m = 0
    · have ht0 : tot = 0 := hpos.resolve_left (by omega)
      obtain rfl : n = 0 := by omega
      obtain rfl : m = 0 := by omega
      simp only [VR] at hv
      obtain ⟨a0, b0, c0, v1, v2, v3, v4, v5, v6⟩ := hv
      obtain ⟨rfl, rfl⟩ := v5 ht0
      obtain ⟨ao', cp', g2, w', k1, k2, k3, k4, k5, k6, k7, k8, k9, k10⟩ := Gf (ty := o.type) (ao := none) (n := 0) (cp := 0) (vs := []) (us := us) (os := ae s 0 a.tmps.toList) ht hu (.inr ⟨e', rfl⟩) hi1 hi4 hi2 hi3 hzs h0 hb0 (by simpa [recs] using hcore) (zL _ _ _ _) hr2.src (by omega)
      obtain ⟨rfl, rfl⟩ := k9 rfl rfl
      have hc2 : Core F g2 s.heap (ae s 0 a.tmps.toList) w' := by simpa [recs] using k6
      have hc3 := ((hc2.Ru id).1).Oy (ob := ob') 0 (hdd rfl)
      refine ⟨.slice none 0 0, ⟨g2.obj ++ [0], g2.len⟩, w', ?_, ?_, ?_, ⟨hs.size, fun t => ?_, ?_⟩, ⟨k4.cell, k4.ty, k4.bsz, k4.len, k4.frame, k4.size, k4.os, k4.tape, k4.output⟩⟩
      · refine dC h hc ?_
        rw [hargs, hts]
        simp only [builtin, List.map_toArray, List.map_cons, List.map_nil, v1, hq, Sem.run_bind, k1, Result.andThen]
        rfl
      · simp only [VR]
        refine ⟨none, 0, 0, rfl, Nat.le_refl _, Nat.le_refl _, ?_, fun _ => ⟨rfl, rfl⟩, fun h => by omega⟩
        rw [k5, hcore.heap.length]; simp
      · rw [k5]; exact hpre.trans (List.prefix_append _ _)
      · refine VR.ext (g' := ⟨g2.obj ++ [0], g2.len⟩) (⟨k3.cell, k3.ty, k3.bsz, k3.len, fun i b hi => ?_⟩) _ _ (hs.slots t)
        have := k3.obj i b hi
        simp only
        rw [List.getElem?_append_left (List.getElem?_eq_some_iff.1 this).1]; exact this
      · have e0 : owns (.mo s.heap.length (0 + 0) (0 + 0) z) (.slice none 0 0) = [] := rfl
        rw [e0, List.nil_append]
        show Core F _ (s.heap.set id .gone ++ [ob']) (ae ⟨s.slots, s.heap.set id .gone ++ [ob']⟩ 0 a.tmps.toList) w'
        rw [pY s.slots _ s.heap]
        exact hc3
    have hpos : 0 < n + m := by omega
    obtain ⟨ao, cp, g1, e1, e2, e3, e4, e5, e6, e7, e8, e9⟩ := Rx hcore hob hO hcl hvl h1 hv
    obtain ⟨ao', cp', w', b', k1, k2, k3, k4⟩ := Mf (F := F) (nt := c.nt) (s := s) (g := g) (g1 := g1) (H := s.heap.set id .gone) (sl := s.slots) (ob := ob') (n := n) (ty := o.type) (cp := cp) (vs := vs.take (n * z)) (us := us) ht hu (.inr ⟨e', rfl⟩) hi1 hi4 hi2 hi3 hzs h0 hb0 hs.size
      hs.slots (by rw [pY s.slots _ s.heap]; exact e5) e2 (by rw [pY s.slots _ s.heap]; exact e6) (by rw [pY s.slots _ s.heap]; exact e7) e8 hr2.src hroom hpos hob'
    rw [List.length_set] at k2
    have hown : owns (.mo s.heap.length (n + m) (n + m) z) (.slice ao' (n + m) cp') = [] := by cases ao' <;> rfl
    refine ⟨_, _, w', ?_, k2, hpre.trans (List.prefix_append _ _), by rw [hown]; exact k4, k3⟩
    refine dC h hc ?_
    rw [hargs, hts]
    simp only [builtin, List.map_toArray, List.map_cons, List.map_nil, e1, hq, Sem.run_bind, k1, Result.andThen]
    rfl
  simp only [AOp.run] at hr
  split at hr
  case h_2 => exact absurd hr (by simp)
  rename_i id n tot sz hv
  split at hr
  · rename_i kd xs hob
    split at hr
    case h_2 => exact absurd hr (by simp)
    rename_i own2 km m hw
    obtain ⟨h1, hr2⟩ | ⟨_, hr2⟩ := af hr
    case inr => exact absurd hr2 (by simp)
    obtain ⟨h2, hr3⟩ | ⟨_, hr3⟩ := af hr2
    case inr => exact absurd hr3 (by simp)
    simp only [Bool.and_eq_true, Bool.or_eq_true, beq_iff_eq, Nat.beq_eq, decide_eq_true_eq] at h1 h2
    obtain ⟨⟨hz1, hz2⟩, rfl⟩ := h1
    obtain ⟨⟨rfl, h2b⟩, h2c⟩ := h2
    subst hz2
    subst hz1
    refine ⟨_, _, hr3, OpSem.run fun F g a w B hB hpre hs => ?_⟩
    have h3 := ak hs hx
    have h5 := ak hs hy
    rw [hv] at h3
    rw [hw] at h5
    simp only [VR] at h5
    obtain ⟨bo, mm, cq, e2, hr2⟩ := h5
    have hm : mm = m.length := by have := hr2.1; simp at this; exact this.symm
    subst hm
    exact key F g a w B _ _ id n xs.length _ bo cq (xs.map (Value.int kd)) _ own2 hpre hs hob h3 e2 hr2 (fun _ _ => rfl) IK (by simp) (fun u hu => by obtain ⟨_, _, rfl⟩ := List.mem_map.1 hu; rfl) h2c h2b (fun h0 => by
        have e1 : (xs.take n ++ m) = [] := List.eq_nil_of_length_eq_zero (by rw [List.length_append, List.length_take]; omega)
        rw [e1]; rfl) (by rw [Nat.mul_one, ← List.map_take, ← List.map_append]; exact Rv _ _)
  · rename_i sc els hob
    split at hr
    case h_2 => exact absurd hr (by simp)
    rename_i own2 sm m hw
    obtain ⟨h1, hr2⟩ | ⟨_, hr2⟩ := af hr
    case inr => exact absurd hr2 (by simp)
    obtain ⟨h2, hr3⟩ | ⟨_, hr3⟩ := af hr2
    case inr => exact absurd hr3 (by simp)
    simp only [Bool.and_eq_true, Bool.or_eq_true, beq_iff_eq, Nat.beq_eq, decide_eq_true_eq] at h1 h2
    obtain ⟨⟨hz1, hz2⟩, hz3⟩ := h1
    obtain ⟨⟨⟨rfl, h2b⟩, h2p⟩, h2c⟩ := h2
    subst hz1 hz2 hz3
    refine ⟨_, _, hr3, OpSem.run fun F g a w B hB hpre hs => ?_⟩
    have h3 := ak hs hx
    have h5 := ak hs hy
    rw [hv] at h3
    rw [hw] at h5
    have hpl : ∀ e ∈ els, e.length = z ∧ e.all AV.plain = true := by
      have h3' := h3
      simp only [VR] at h3'
      obtain ⟨_, b, _, _, _, _, hb, _⟩ := h3'
      exact IM (bC hs.core.heap id b _ hob hb)
    simp only [VR] at h5
    obtain ⟨bo, mm, cq, us, e2, hr2, hm, hsz2, hus⟩ := h5
    subst hm
    have hplm := Me h2p
    have hus' := OC (fun e he => (hplm e he).2) hus
    subst hus'
    exact key F g a w B _ _ id n els.length _ bo cq (fo els) _ own2 hpre hs hob h3 e2 hr2 (fun _ _ => rfl) IL (vM fun e he => (hpl e he).1) (EU fun e he => (hpl e he).2) h2c h2b (fun h0 => by
        have e1 : (els.take n ++ m) = [] := List.eq_nil_of_length_eq_zero (by rw [List.length_append, List.length_take]; omega)
        rw [e1]; rfl) (by
      rw [xY n (fun e he => (hpl e he).1)]
      have : fo (els.take n) ++ (m.flatMap fun e => e.map pv) = fo (els.take n ++ m) := by unfold fo; rw [List.flatMap_append]
      rw [this]
      exact UE fun e he => by
        rcases List.mem_append.1 he with he | he
        · exact hpl e (List.mem_of_mem_take he)
        · exact hplm e he)
  · exact absurd hr (by simp)
theorem JY {P : Program} {w : World} {b off m cq z : Nat} {us : List Value} {a : Option Addr} (ha : 0 < m → a = some ⟨b, off, none⟩) (hu : us.length = m * z) (h1 : ∀ u ∈ us, u.oneCell' = true) (hc : ∀ j, j < us.length → w.cell? ⟨b, off + j, none⟩ = us[j]?) : Src P w z (.slice a m cq) m us := by
  have hcell : ∀ w1 : World, (∀ b j, w1.cell? ⟨b, j, none⟩ = w.cell? ⟨b, j, none⟩) → (Builtin.firstCells z m (.slice a m cq)).run P w1 = .ok us.toArray w1 := by
    intro w1 hw1
    by_cases e0 : us = []
    · subst e0
      have hm : m * z = 0 := by simpa using hu.symm
      cases a with
      | none => simp [Builtin.firstCells]
      | some a => simp [Builtin.firstCells, hm, loadCells, loadCellsFrom]
    · have hp : 0 < m := by
        rcases Nat.eq_zero_or_pos m with e | e
        · subst e; simp at hu; exact absurd hu e0
        · exact e
      rw [ha hp]
      exact run_firstCells_some w1 z m ⟨b, off, none⟩ m cq us hu (fun j v hj => by
        have hlt : j < us.length := (List.getElem?_eq_some_iff.1 hj).1
        rw [uH _ rfl, hw1, hc j hlt, hj])
  exact ⟨by simp [Builtin.lenOf], hcell w (fun _ _ => rfl), hcell w.drew (fun _ _ => rfl), hu, h1⟩
theorem QU {z bytes : Nat} {x y : AX} {p q : Operand} {t u e : TypeId} {zr : Value} {cl : Call} {e' : TypeId} (h : o.op = .call cl) (hc : cl.callee = .builtin .append) (hargs : cl.args = #[p, q]) (hts : cl.argTypes = #[t, u]) (ht : c.P.underlying t = some (.slice e)) (hu : c.P.underlying u = some (.slice e'))
    (hi : (c.P.info? e).map (fun i => (i.size, i.bytes, i.zero)) = some (z, bytes, some zr)) (hzs : zr.cells.size = z) (h0 : 0 < z) (hb0 : 0 < bytes) (hx : bB x p = true) (hy : bB y q = true) : bK c (.appendM z bytes x y) o := by
  obtain ⟨i, hi1, hi2⟩ := Option.map_eq_some_iff.1 hi
  injection hi2 with hi2 hi3
  injection hi3 with hi3 hi4
  intro s R k r hr
  have key : ∀ (F : Nat → Prop) (g : Gh) (a : Act) (w : World) (B : List Nat) (v : AV) (ao : Option Addr) (n m cp : Nat) (yv : Value) (vs us : List Value), B <+: g.obj → SimX F c.nt g (x.st s) a w (recs ao (n * z) (cp * z)) →
      a.eval p = .slice ao n cp → a.eval q = yv → Row g w true ao n cp z vs → Src c.P w z yv m us → (n + m) * bytes ≤ 140737488355328 →
      (∀ (g' : Gh) (w' : World) (ao' : Option Addr) (cp' : Nat), Ext g w g' w' → Row g' w' true ao' (n + m) cp' z (vs ++ us) → VR g' w' v (.slice ao' (n + m) cp') ∧ owns v (.slice ao' (n + m) cp') = recs ao' ((n + m) * z) (cp' * z)) →
      ∃ v' g' w', (execOp a.eval o).run c.P w = .ok (.value v') w' ∧ VR g' w' v v' ∧ B <+: g'.obj ∧ SimX F c.nt g' (x.st s) a w' (owns v v') ∧ Step F g w g' w' := by
    intro F g a w B v ao n m cp yv vs us hpre hs hp hq hr1 hsrc hroom hv
    obtain ⟨ao', cp', g', w', h1, h2, h3, h4, h5, h6⟩ := xX (ty := o.type) ht hu (.inr ⟨e', rfl⟩) hi1 hi4 hi2 hi3 hzs h0 hb0 hs hr1 hsrc hroom
    obtain ⟨h7, h8⟩ := hv g' w' ao' cp' h3 h2
    refine ⟨_, g', w', ?_, h7, by rw [h5]; exact hpre, by rw [h8]; exact h6, h4⟩
    refine dC h hc ?_
    rw [hargs, hts]
    simp only [builtin, List.map_toArray, List.map_cons, List.map_nil, hp, hq, Sem.run_bind, h1, Result.andThen]
    rfl
  have hheap : (x.st s).heap = s.heap := by cases x <;> rfl
  have hsy : ∀ v, y.ev s = v → (∃ id off m sm, v = .mut id off m sm) → y.ev (x.st s) = v := by
    rintro v hv ⟨id, off, m, sm, rfl⟩
    cases x with
    | take t =>
      cases y with
      | cst c => exact hv
      | tmp u =>
        simp only [AX.ev, AX.st] at hv ⊢
        show disown (Lh ((t, disown (s.get t)) :: s.slots) u) = _
        simp only [Lh]
        by_cases e : t = u
        · subst e
          simp only [beq_self_eq_true, cond_true]
          revert hv
          cases s.get t <;> simp [disown]
        · simp only [show (t == u) = false by simpa using e, cond_false]; exact hv
      | take u =>
        simp only [AX.ev, AX.st] at hv ⊢
        show Lh ((t, disown (s.get t)) :: s.slots) u = _
        simp only [Lh]
        by_cases e : t = u
        · subst e
          simp only [beq_self_eq_true, cond_true, hv, disown]
        · simp only [show (t == u) = false by simpa using e, cond_false]; exact hv
    | _ => exact hv
  simp only [AOp.run] at hr
  split at hr
  case h_2 => exact absurd hr (by simp)
  rename_i id off m sm hw
  have hw' := hsy _ hw ⟨_, _, _, _, rfl⟩
  split at hr
  · rename_i kd xs hob
    split at hr
    case h_2 => exact absurd hr (by simp)
    rename_i km l hv
    obtain ⟨h1, hr2⟩ | ⟨_, hr2⟩ := af hr
    case inr => exact absurd hr2 (by simp)
    obtain ⟨h2, hr3⟩ | ⟨_, hr3⟩ := af hr2
    case inr => exact absurd hr3 (by simp)
    simp only [Bool.and_eq_true, beq_iff_eq, decide_eq_true_eq] at h1 h2
    obtain ⟨⟨rfl, rfl⟩, h1c⟩ := h1
    refine ⟨_, _, hr3, OpSem.run fun F g a w B hB hpre hs => ?_⟩
    obtain ⟨h3, h4⟩ := AX.ok hs hx
    have h5 := ak h4 hy
    rw [hv] at h3 h4
    rw [hw'] at h5
    simp only [VR] at h3 h5
    obtain ⟨ao, n, cp, e1, hr1⟩ := h3
    obtain ⟨bo, b, cq, e2, hbo, hle, hb⟩ := h5
    have hn : n = l.length := by have := hr1.1; simp at this; exact this.symm
    subst hn
    have hobj := bC hs.core.heap id b _ hob hb
    rw [e1, mg, List.append_nil] at h4
    have hul : ((xs.drop off).take m).length = m := by simp; omega
    refine key F g a w B _ ao _ m cp _ _ (((xs.drop off).take m).map (Value.int kd)) hpre (by simpa using h4) e1 e2 hr1 (JY hbo (by rw [List.length_map, hul, Nat.mul_one]) (fun u hu => by obtain ⟨_, _, rfl⟩ := List.mem_map.1 hu; rfl) (fun j hj => ?_)) h2 (fun g' w' ao' cp' he hrow => ⟨?_, ?_⟩)
    · rw [List.length_map, hul] at hj
      obtain ⟨arr, tt, rest, hcw, ha⟩ := (IK (g := g) (w := w) (kd := kd) (xs := xs) (by omega)).2 b hobj
      rw [hcw.cell]
      have : arr.toList[off + j]? = (xs.map (Value.int kd))[off + j]? := by rw [ha, List.getElem?_append_left (by simp; omega)]
      simp only [Array.getElem?_toList] at this
      rw [this]
      simp [List.getElem?_take, hj]
    · simp only [VR]
      exact ⟨_, _, _, rfl, by rw [List.map_append]; exact hrow⟩
    · rw [mg]
      simp only [List.length_append, hul, Nat.mul_one]
  · rename_i sc els hob
    split at hr
    case h_2 => exact absurd hr (by simp)
    rename_i sz l hv
    obtain ⟨h1, hr2⟩ | ⟨_, hr2⟩ := af hr
    case inr => exact absurd hr2 (by simp)
    obtain ⟨h2, hr3⟩ | ⟨_, hr3⟩ := af hr2
    case inr => exact absurd hr3 (by simp)
    simp only [Bool.and_eq_true, beq_iff_eq, decide_eq_true_eq] at h1 h2
    obtain ⟨⟨⟨⟨q1, q2⟩, q3⟩, q4⟩, q5⟩ := h1
    subst q1 q2 q3
    generalize hd : off / z = d at *
    refine ⟨_, _, hr3, OpSem.run fun F g a w B hB hpre hs => ?_⟩
    obtain ⟨h3, h4⟩ := AX.ok hs hx
    have h5 := ak h4 hy
    rw [hv] at h3 h4
    rw [hw'] at h5
    simp only [VR] at h3 h5
    obtain ⟨ao, n, cp, vs, e1, hr1, hn, hsz1, hvs⟩ := h3
    obtain ⟨bo, b, cq, e2, hbo, hle, hb⟩ := h5
    subst hn
    have hobj := bC hs.core.heap id b _ hob hb
    have hpl := IM hobj
    rw [e1, EM, List.append_nil] at h4
    have hlen : ∀ e ∈ (els.drop d).take m, e.length = z ∧ e.all AV.plain = true := fun e he => hpl e (List.mem_of_mem_drop (List.mem_of_mem_take he))
    have hul : ((els.drop d).take m).length = m := by simp; omega
    have hcl : (fo ((els.drop d).take m)).length = m * z := by rw [vM fun e he => (hlen e he).1, hul]
    refine key F g a w B _ ao _ m cp _ _ (fo ((els.drop d).take m)) hpre h4 e1 e2 hr1 (JY hbo hcl (EU fun e he => (hlen e he).2) (fun j hj => ?_)) h2 (fun g' w' ao' cp' he hrow => ⟨?_, ?_⟩)
    · rw [hcl] at hj
      have hm0 : 0 < m := by rcases Nat.eq_zero_or_pos m with e | e; · subst e; simp at hj
                             · exact e
      obtain ⟨arr, tt, rest, hcw, ha⟩ := (IL (g := g) (w := w) (n := z) (els := els) (by omega)).2 b hobj
      rw [hcw.cell]
      have hle2 : (d + m) * z ≤ els.length * z := Nat.mul_le_mul_right _ q5
      rw [Nat.add_mul] at hle2
      have : arr.toList[off + j]? = (fo els)[off + j]? := by rw [ha, List.getElem?_append_left (by rw [vM fun e he => (hpl e he).1]; omega)]
      simp only [Array.getElem?_toList] at this
      rw [this, ← xY m (fun e he => (hpl e (List.mem_of_mem_drop he)).1), ← Ib d (fun e he => (hpl e he).1), List.getElem?_take, if_pos hj, List.getElem?_drop, q4]
    · simp only [VR]
      refine ⟨_, _, _, _, rfl, hrow, by rw [List.length_append, hul], ?_, (VRss.ext he _ _ hvs).append (Hg _ _ fun e he => (hlen e he).2)⟩
      intro e he
      rcases List.mem_append.1 he with h | h
      · exact hsz1 e h
      · refine ⟨(hlen e h).1, ?_⟩
        have : ∀ (cs : List AV), cs.all AV.plain = true → kF cs = true := by
          intro cs
          induction cs with
          | nil => intro _; rfl
          | cons a cs ih =>
            intro hh
            simp only [List.all_cons, Bool.and_eq_true] at hh
            have : rP a = true := by have := hh.1; cases a <;> simp [AV.plain] at this <;> rfl
            simp [kF, this, ih hh.2]
        exact this e (hlen e h).2
    · rw [EM]
      simp only [List.length_append, hul]
  · exact absurd hr (by simp)
theorem SQ {t : Nat} {s : St} {R : Type} {k : St → Option R} {r : R} (h : WT t s k = some r) : ∃ s', k s' = some r ∧ ∀ (F : Nat → Prop) (nt : Nat) (g : Gh) (a : Act) (w : World) (B : List Nat), B <+: g.obj → SimX F nt g s a w [] → ∃ g', B <+: g'.obj ∧ SimX F nt g' s' a w [] ∧ Step F g w g' w := by
  unfold WT at h
  split at h
  case h_2 => cases h
  rename_i id m tot sz hg
  have main : ∀ (ob : AObj) (v : AV) (z : Nat) (vs : List Value), s.heap[id]? = some ob → sz = z → (∀ w b, fC w b ob = []) → (∀ (g : Gh) (w : World) (b : Nat), ObjR g w b ob → (0 < tot → ob.dead = false ∧ ∀ b, ObjR g w b ob → ∃ arr t rest, CellsAt w b arr t ∧ arr.toList = vs ++ rest) ∧ vs.length = tot * z ∧ (∀ u ∈ vs, u.oneCell' = true) ∧ (∀ (g' : Gh) (w : World) (ao : Option Addr) (cp : Nat), m ≤ tot → Row g' w true ao m cp z (vs.take (m * z)) → VR g' w v (.slice ao m cp) ∧ owns v (.slice ao m cp) = recs ao (m * z) (cp * z))) →
      ∀ (F : Nat → Prop) (nt : Nat) (g : Gh) (a : Act) (w : World) (B : List Nat), B <+: g.obj → SimX F nt g s a w [] → ∃ g', B <+: g'.obj ∧ SimX F nt g' ⟨(t, v) :: s.slots, s.heap.set id .gone⟩ a w [] ∧ Step F g w g' w := by
    intro ob v z vs hob hsz hO hp F nt g a w B hpre hs
    subst hsz
    have hv := hs.slots t
    rw [hg] at hv
    have hcore := hs.core
    rw [List.nil_append] at hcore
    have hv' := hv
    simp only [VR] at hv'
    obtain ⟨_, b, _, _, _, _, hb, _⟩ := hv'
    obtain ⟨p1, p2, p3, p4⟩ := hp g w b (bC hcore.heap id b _ hob hb)
    obtain ⟨ao, cp, g1, e1, e2, e3, e4, e5, e6, e7, e8, e9⟩ := Rx hcore hob hO p1 p2 p3 hv
    obtain ⟨q1, q2⟩ := p4 g1 w ao cp e9 e8
    have hlt : t < nt := by
      rcases Nat.lt_or_ge t nt with h | h
      · exact h
      · have : a.tmps.getD t undef = undef := by
          rw [Array.getD_eq_getD_getElem?, Array.getElem?_eq_none (by rw [hs.size]; exact h)]; rfl
        rw [this] at e1
        cases e1
    have hsim : SimX F nt g1 ⟨s.slots, s.heap.set id .gone⟩ a w (owns v (a.tmps.getD t undef)) := ⟨hs.size, fun t' => VR.ext e3 _ _ (hs.slots t'), by rw [cO, e1, q2]; exact e6⟩
    have hput := hsim.put (by rw [e1]; exact q1) (some t) (fun t' h => by injection h with h; subst h; exact hlt)
    have ha : a.put (some t) (a.tmps.getD t undef) = a := by
      have : a.tmps.setIfInBounds t (a.tmps.getD t undef) = a.tmps := by
        apply Array.ext'
        have hl : t < a.tmps.size := by rw [hs.size]; exact hlt
        simp only [Array.toList_setIfInBounds]
        rw [Array.getD_eq_getD_getElem?, Array.getElem?_eq_getElem hl]
        apply List.ext_getElem?
        intro j
        by_cases e : t = j
        · subst e; simp [hl]
        · simp [List.getElem?_set, e]
      simp only [Act.put, this]
    rw [ha] at hput
    exact ⟨g1, by rw [e2]; exact hpre, hput, e4⟩
  split at h
  · rename_i kd xs hob
    obtain ⟨h1, h2⟩ | ⟨_, h2⟩ := af h
    case inr => cases h2
    simp only [Bool.and_eq_true, beq_iff_eq, decide_eq_true_eq] at h1
    refine ⟨_, h2, main _ _ 1 (xs.map (Value.int kd)) hob h1.1 (fun _ _ => rfl) fun g w b hR => ⟨by rw [h1.2]; exact IK, by simp [h1.2], fun u hu => by obtain ⟨_, _, rfl⟩ := List.mem_map.1 hu; rfl, fun g' w' ao cp hm hrow => ⟨?_, ?_⟩⟩⟩
    · simp only [VR]
      rw [Nat.mul_one, ← List.map_take] at hrow
      exact ⟨_, _, _, rfl, hrow⟩
    · rw [mg]
      rw [List.length_take, ← h1.2, Nat.min_eq_left hm, Nat.mul_one, Nat.mul_one]
  · rename_i sc els hob
    obtain ⟨h1, h2⟩ | ⟨_, h2⟩ := af h
    case inr => cases h2
    simp only [Bool.and_eq_true, beq_iff_eq, decide_eq_true_eq] at h1
    refine ⟨_, h2, main _ _ sc (fo els) hob h1.1 (fun _ _ => rfl) fun g w b hR => ?_⟩
    have hpl := IM hR
    refine ⟨by rw [h1.2]; exact IL, by rw [vM fun e he => (hpl e he).1, h1.2], EU fun e he => (hpl e he).2, fun g' w' ao cp hm hrow => ⟨?_, ?_⟩⟩
    · simp only [VR]
      rw [xY m fun e he => (hpl e he).1] at hrow
      refine ⟨_, _, _, _, rfl, hrow, by rw [List.length_take, ← h1.2]; exact Nat.min_eq_left hm, fun e he => ?_, Hg _ _ fun e he => (hpl e (List.mem_of_mem_take he)).2⟩
      have he := List.mem_of_mem_take he
      refine ⟨(hpl e he).1, ?_⟩
      have : ∀ (cs : List AV), cs.all AV.plain = true → kF cs = true := by
        intro cs
        induction cs with
        | nil => intro _; rfl
        | cons a cs ih =>
          intro hh
          simp only [List.all_cons, Bool.and_eq_true] at hh
          have : rP a = true := by have := hh.1; cases a <;> simp [AV.plain] at this <;> rfl
          simp [kF, this, ih hh.2]
      exact this e (hpl e he).2
    · rw [EM, List.length_take, ← h1.2, Nat.min_eq_left hm]
  · cases h
theorem Wh {t : Nat} {x : Ex} {cd : Code} (hx : Snd c x cd) : Snd c (Xz t x) cd := by
  intro s R k r h
  obtain ⟨s1, h1, h2⟩ := SQ h
  obtain ⟨e, s2, h3, h4⟩ := hx s1 R k r h1
  refine ⟨e, s2, h3, fun F g a w B hB hp hs ro dn hro => ?_⟩
  obtain ⟨g', q1, q2, q3⟩ := h2 F c.nt g a w B hp hs
  refine wpIn_mono (h4 F g' a w B hB q1 q2 ro dn hro) ?_
  rintro e' a' w' ⟨rfl, h5⟩
  exact ⟨rfl, h5.trans (fun _ h => h) q3 (Dfs.refl _ _ _ _)⟩
def UF : List Nat → Ex → Ex
  | [], x => x
  | t :: ts, x => Xz t (UF ts x)
theorem PT {x : Ex} {cd : Code} (hx : Snd c x cd) : ∀ ts : List Nat, Snd c (UF ts x) cd
  | [] => hx
  | t :: ts => Wh (PT hx ts)
def OD : Value → Bool
  | .agg vs => match vs.toList with
    | [.slice none 0 0, .int .i64 0, .int .i8 0] => true
    | _ => false
  | _ => false
theorem SS {v : Value} (h : OD v = true) : v = .agg #[.slice none 0 0, .int .i64 0, .int .i8 0] := by
  unfold OD at h
  split at h
  · rename_i vs
    split at h
    · rename_i he
      congr 1
      apply Array.ext'
      simpa using he
    · cases h
  · cases h
theorem SV {t : TypeId} {fs : Array Field} {zr : Value} (h : o.op = .build t #[]) (hd : c.P.underlying t = some (.struct fs)) (hz : (c.P.info? t).bind (·.zero) = some zr) {pl : List (Nat × Nat)} (hpl : placesOf c.P fs = some pl) (hf : OD zr = true) : bK c .buildB o := by
  intro s R k r hr
  simp only [AOp.run] at hr
  obtain ⟨i, hi1, hi2⟩ := Option.bind_eq_some_iff.1 hz
  have hzr := SS hf
  refine ⟨_, _, hr, OpSem.run fun F g a w B _ hp hs => ?_⟩
  have hc := hs.core.Oy (ob := .rowN .u8 []) 0 rfl
  have ext : Ext g w ⟨g.obj ++ [0], g.len⟩ w := ⟨fun _ _ _ => rfl, fun _ _ => rfl, fun _ => Nat.le_refl _, fun _ => Nat.le_refl _, fun i b hi => by
    simp only
    rw [List.getElem?_append_left (List.getElem?_eq_some_iff.1 hi).1]; exact hi⟩
  have hown : owns (.agg [.mo s.heap.length 0 0 1, .int .i64 0, .int .i8 0]) (.agg #[.slice none 0 0, .int .i64 0, .int .i8 0]) = [] := rfl
  refine ⟨.agg #[.slice none 0 0, .int .i64 0, .int .i8 0], ⟨g.obj ++ [0], g.len⟩, w, ?_, ?_, hp.trans (List.prefix_append _ _), ⟨hs.size, fun t => VR.ext ext _ _ (hs.slots t), ?_⟩, ⟨ext.cell, ext.ty, ext.bsz, ext.len, fun _ _ => ⟨rfl, rfl⟩, Nat.le_refl _, rfl, rfl, rfl⟩⟩
  · simp only [execOp, h]
    refine aK (run_build w t _ _ ?_)
    unfold Program.built
    unfold placesOf at hpl
    rw [hi1, hd]
    simp only [hi2, hpl, hzr]
    simp [Instr.fill, Value.cells]
  · simp only [VR]
    refine ⟨_, rfl, ?_⟩
    simp only [VRs, VR]
    refine ⟨_, _, rfl, ⟨none, 0, 0, rfl, Nat.le_refl _, Nat.le_refl _, ?_, fun _ => ⟨rfl, rfl⟩, fun h => by omega⟩, _, _, rfl, rfl, _, _, rfl, rfl, rfl⟩
    rw [hs.core.heap.length]; simp
  · rw [cO, hown]
    exact hc
theorem Wi {t : TypeId} {p : Operand} {x : AX} (h : o.op = .box t p) (hx : bB x p = true) : bK c (.boxB t x) o := by
  intro s R k r hr
  simp only [AOp.run] at hr
  split at hr
  case h_2 => cases hr
  rename_i id hv
  refine ⟨_, _, hr, OpSem.run fun F g a w B hB hpre hs => ?_⟩
  have hp := ak hs hx
  rw [hv] at hp
  simp only [VR] at hp
  obtain ⟨vs, hp, hvs⟩ := hp
  simp only [VRs, VR] at hvs
  obtain ⟨v1, u1, e1, ⟨ao, b, cp, rfl, _, _, _, hnil, _⟩, v2, u2, rfl, rfl, v3, u3, rfl, rfl, rfl⟩ := hvs
  obtain ⟨rfl, rfl⟩ := hnil trivial
  have hcells : (a.eval p).cells = #[.slice none 0 0, .int .i64 0, .int .i8 0] := by
    rw [hp]
    apply Array.ext'
    simpa [Value.cells] using e1
  have hc := hs.core
  have hnew := heap_alloc_new w (.cells (a.eval p).cells t)
  rw [hcells] at hnew
  obtain ⟨g', e1, e2, e3, e4⟩ := Core.Oi (os0 := []) (ob := .buf 1 t []) (w' := w.alloc (.cells (a.eval p).cells t)) hc (fun k hk => heap_alloc_old w _ (h := hk)) (by simp) rfl rfl rfl (by
      simp only [fC]
      rw [hcells, hnew]
      rfl)
    (fun g' _ => by
      simp only [ObjR]
      refine ⟨_, 0, by rw [hcells]; exact hnew, ?_, fun _ => rfl, fun a n c h => by injection h with _ _ h; omega⟩
      simp only [VR]
      exact ⟨none, 0, 0, rfl, zL _ _ _ _⟩)
  refine ⟨.pointer (some ⟨w.heap.size, 0, none⟩), g', w.alloc (.cells (a.eval p).cells t), ?_, ?_, by rw [e1]; exact hpre.trans (List.prefix_append _ _), ?_, e3⟩
  · simp [execOp, h, Instr.box, newVar, newRow]
  · simp only [VR]
    refine ⟨_, rfl, ?_⟩
    rw [e1, hs.core.heap.length]
    simp
  · exact ⟨hs.size, fun t' => VR.ext e2 _ _ (hs.slots t'), by rw [cO]; exact e4⟩
end Go.Sh
namespace Go.Sh
open Go.RowKit
set_option linter.unusedSimpArgs false
set_option linter.unusedVariables false
variable {c : Cx} {o : Oper}
def dD : AOp := .extract 0 (.cst .undef)
theorem MV {m : Nat} (h : Nat.blt 0 m = true) : 0 < m := Nat.le_of_ble_eq_true h
def IP (P : Program) : Nat → TypeId → List TypeId
  | 0, _ => []
  | n + 1, t => match P.underlying t with
    | some (.struct fs) => fs.toList.flatMap fun f => IP P n f.type
    | some (.array m e) => (List.replicate m (IP P n e)).flatten
    | _ => [t]
def XH (P : Program) (own : Bool) (t : TypeId) : Option AV := match P.underlying t with
  | some (.slice e) => match P.underlying e with
    | some (.int k) => some (.ints own k [])
    | some .string => some (.strs own [])
    | _ => some (.sl own (P.cellsOf e) [])
  | _ => none
def Wj (P : Program) (own : Bool) (t : TypeId) : Value → Option AV
  | .int k n => some (.int k n)
  | .bool b => some (.bool b)
  | .string s => some (.str s.data.toList)
  | .slice none 0 0 => XH P own t
  | .pointer none => some (.ptr none)
  | .map none => some (.map none)
  | .nilFunc => some .nilFunc
  | .nilIface => some .nilIface
  | _ => none
def OE (P : Program) (own : Bool) : List TypeId → List Value → Option (List AV)
  | t :: ts, v :: vs => (Wj P own t v).bind fun a => (OE P own ts vs).map (a :: ·)
  | [], [] => some []
  | _, _ => none
def Wl (P : Program) (own : Bool) (t : TypeId) : Value → Option AV
  | .agg vs => (OE P own (IP P 8 t) vs.toList).map .agg
  | v => Wj P own t v
theorem PU {P : Program} {own : Bool} {t : TypeId} {v : Value} {a : AV} (h : Wj P own t v = some a) : I6 a v = true := by
  unfold Wj at h
  split at h
  case h_4 =>
    unfold XH at h
    split at h
    · split at h <;> (injection h with h; subst h; rfl)
    · cases h
  all_goals first | (injection h with h; subst h; simp [I6]) | cases h
theorem Gs {P : Program} {own : Bool} : ∀ {ts : List TypeId} {vs : List Value} {az : List AV}, OE P own ts vs = some az → I7 az vs = true
  | t :: ts, v :: vs, az, h => by
    simp only [OE] at h
    obtain ⟨a, h1, h2⟩ := Option.bind_eq_some_iff.1 h
    obtain ⟨bs, h3, rfl⟩ := Option.map_eq_some_iff.1 h2
    simp [I7, PU h1, Gs h3]
  | [], [], az, h => by simp only [OE] at h; injection h with h; subst h; rfl
  | [], _ :: _, _, h => by simp [OE] at h
  | _ :: _, [], _, h => by simp [OE] at h
theorem PV {P : Program} {own : Bool} {t : TypeId} {v : Value} {a : AV} (h : Wl P own t v = some a) : I6 a v = true := by
  unfold Wl at h
  split at h
  · obtain ⟨bs, h1, rfl⟩ := Option.map_eq_some_iff.1 h
    simp [I6, Gs h1]
  · exact PU h
def axO (P : Program) (own : Bool) (tk : List Nat) (t : TypeId) : Operand → Option AX
  | .tmp n => some (match tk with
    | [] => .tmp n
    | u :: us => cond ((u :: us).contains n) (.take n) (.tmp n))
  | .const v => (Wl P own t v).map .cst
  | .func f => some (.cst (.func (.func f) [] []))
  | .global _ => none
theorem Hl {P : Program} {own : Bool} {tk : List Nat} {t : TypeId} {y : Operand} {x : AX} (h : axO P own tk t y = some x) : bB x y = true ∧ (tk = [] → x.free = true) := by
  unfold axO at h
  split at h
  · injection h with h
    subst h
    cases tk with
    | nil => exact ⟨by simp [bB], fun _ => rfl⟩
    | cons u us =>
      refine ⟨?_, fun h => by cases h⟩
      simp only
      cases (u :: us).contains _ <;> simp [bB]
  · obtain ⟨a, h1, rfl⟩ := Option.map_eq_some_iff.1 h
    exact ⟨by simp [bB, PV h1], fun _ => rfl⟩
  · injection h with h
    subst h
    exact ⟨by simp [bB], fun _ => rfl⟩
  · cases h
def axK (P : Program) (own : Bool) (tk : List Nat) (t : TypeId) (y : Operand) (k : AX → AOp) : AOp := match axO P own tk t y with
  | some x => k x
  | none => dD
theorem dL {P : Program} {own : Bool} {tk : List Nat} {t : TypeId} {y : Operand} {k : AX → AOp} (h : ∀ x, bB x y = true → (tk = [] → x.free = true) → bK c (k x) o) : bK c (axK P own tk t y k) o := by
  unfold axK
  split
  · rename_i x hx
    exact h x (Hl hx).1 (Hl hx).2
  · exact bD
def Xg (P : Program) : Option Operand → (Option AX → AOp) → AOp
  | none, k => k none
  | some y, k => axK P true [] 0 y fun x => k (some x)
theorem Ry {P : Program} {y : Option Operand} {k : Option AX → AOp} (h : ∀ x, QE x y = true → bK c (k x) o) : bK c (Xg P y k) o := by
  cases y with
  | none => exact h none rfl
  | some y => exact dL fun x hx _ => h (some x) hx
def QV (P : Program) (own : Bool) (tk : List Nat) : List TypeId → List Operand → Option (List AX)
  | t :: ts, y :: ys => (axO P own tk t y).bind fun x => (QV P own tk ts ys).map (x :: ·)
  | _, [] => some []
  | [], _ :: _ => none
theorem PW {P : Program} {own : Bool} {tk : List Nat} : ∀ {ts : List TypeId} {ys : List Operand} {xs : List AX}, QV P own tk ts ys = some xs → tJ xs ys = true
  | t :: ts, y :: ys, xs, h => by
    simp only [QV] at h
    obtain ⟨a, h1, h2⟩ := Option.bind_eq_some_iff.1 h
    obtain ⟨bs, h3, rfl⟩ := Option.map_eq_some_iff.1 h2
    simp [tJ, (Hl h1).1, PW h3]
  | [], [], xs, h => by simp only [QV] at h; injection h with h; subst h; rfl
  | _ :: _, [], xs, h => by simp only [QV] at h; injection h with h; subst h; rfl
  | [], _ :: _, _, h => by simp [QV] at h
def PX (P : Program) (own : Bool) (tk : List Nat) (ts : List TypeId) (ys : List Operand) (k : List AX → AOp) : AOp := match QV P own tk ts ys with
  | some xs => k xs
  | none => dD
theorem Hm {P : Program} {own : Bool} {tk : List Nat} {ts : List TypeId} {ys : List Operand} {k : List AX → AOp} (h : ∀ xs, tJ xs ys = true → bK c (k xs) o) : bK c (PX P own tk ts ys k) o := by
  unfold PX
  split
  · rename_i x hx
    exact h x (PW hx)
  · exact bD
def tyK (P : Program) (t : TypeId) (k : TypeDesc → AOp) : AOp := match P.underlying t with
  | some d => k d
  | none => dD
theorem jm {P : Program} {t : TypeId} {k : TypeDesc → AOp} (h : ∀ d, P.underlying t = some d → bK c (k d) o) : bK c (tyK P t k) o := by
  unfold tyK
  split
  · rename_i d hd
    exact h d hd
  · exact bD
def tiK (P : Program) (t : TypeId) (k : TypeInfo → AOp) : AOp := match P.info? t with
  | some d => k d
  | none => dD
theorem xG {P : Program} {t : TypeId} {k : TypeInfo → AOp} (h : ∀ d, P.info? t = some d → bK c (k d) o) : bK c (tiK P t k) o := by
  unfold tiK
  split
  · rename_i d hd
    exact h d hd
  · exact bD
def gd (b : Bool) (p : AOp) : AOp := cond b p dD
theorem nW {b : Bool} {p : AOp} (h : b = true → bK c p o) : bK c (gd b p) o := by
  cases b
  · exact bD
  · exact h rfl
def opK {α : Type} (x : Option α) (k : α → AOp) : AOp := match x with
  | some a => k a
  | none => dD
theorem l8 {α : Type} {x : Option α} {k : α → AOp} (h : ∀ a, x = some a → bK c (k a) o) : bK c (opK x k) o := by
  unfold opK
  split
  · exact h _ rfl
  · exact bD
def XI (P : Program) (b : BinOp) (t : TypeId) (p q : Operand) (t' : TypeId) : AOp :=
  axK P true [] t p fun x => axK P true [] t' q fun y => tyK P t fun d => match d with
    | .bool => match b with
      | .eql => .eqB false x y
      | .neq => .eqB true x y
      | _ => dD
    | .struct fs => opK (SE P 8 t) fun sh => gd (!P.eqGuardType P.depth t) (match b with
      | .eql => .eqA false sh x y
      | .neq => .eqA true sh x y
      | _ => dD)
    | .interface ms => match q with
      | .const .nilIface => gd (P.isIface t) (match b with
        | .eql => .isNil false x
        | .neq => .isNil true x
        | _ => dD)
      | _ => dD
    | d => match q with
      | .const v0 => (match Uy d v0 with
        | some kd => (match b with
          | .eql => .isNilP kd false x
          | .neq => .isNilP kd true x
          | _ => dD)
        | none => .bin b x y)
      | _ => .bin b x y
theorem Wm {b : BinOp} {t : TypeId} {p q : Operand} {t' : TypeId} (h : o.op = .binOp b t p q t') : bK c (XI c.P b t p q t') o := by
  refine dL fun x hx _ => dL fun y hy _ => jm fun d hd => ?_
  split
  · split
    · exact TU (neg := false) h hd hx hy
    · exact TU (neg := true) h hd hx hy
    · exact bD
  · refine l8 fun sh hsh => nW fun hg => ?_
    have hg' : c.P.eqGuardType c.P.depth t = false := by simpa using hg
    split
    · exact UB (neg := false) h hsh (by decide) hd rfl hg' hx hy
    · exact UB (neg := true) h hsh (by decide) hd rfl hg' hx hy
    · exact bD
  · split
    · refine nW fun hg => ?_
      split
      · exact PO (neg := false) h hg hx
      · exact PO (neg := true) h hg hx
      · exact bD
    · exact bD
  · split
    · split
      · rename_i hk
        split
        · exact NF (neg := false) h hd hk hx
        · exact NF (neg := true) h hd hk hx
        · exact bD
      · exact TS h hx hy
    · exact TS h hx hy
def WJ (P : Program) (tk : List Nat) (s d : TypeId) (p : Operand) : AOp :=
  axK P true tk s p fun x => tyK P s fun ds => tyK P d fun dd => match dd with
    | .int k => .conv k x
    | .string => match ds with
      | .string => .convS x
      | .slice e => tyK P e fun de => match de with
        | .int .u8 => .toStr x
        | _ => dD
      | .int _ => .rune x
      | _ => dD
    | .slice e => tyK P e fun de => match de with
      | .int .u8 => (match ds with
        | .slice _ => gd (Nat.beq s d) (.mark x)
        | _ => .toBytes x)
      | _ => dD
    | _ => dD
theorem UG {tk : List Nat} {s d : TypeId} {p : Operand} (h : o.op = .convert s d p) : bK c (WJ c.P tk s d p) o := by
  refine dL fun x hx _ => jm fun ds hs => jm fun dd hd => ?_
  split
  · exact VK h hs hd hx
  · split
    · exact TV h hs hd hx
    · refine jm fun de he => ?_
      split
      · exact T9 h hs he hd hx
      · exact bD
    · exact VL h hs hd hx
    · exact bD
  · refine jm fun de he => ?_
    split
    · split
      · refine nW fun hg => ?_
        have hg := Nat.eq_of_beq_eq_true hg
        subst hg
        exact V7 h hd he hx
      · exact QI h hs hd he hx
    · exact bD
  · exact bD
def Rz (P : Program) (t : TypeId) (p : Operand) (j : Nat) : AOp :=
  axK P true [] t p fun x => tyK P t fun d => match d with
    | .struct fs => opK fs[j]? fun f => tiK P f.type fun i => gd (Nat.blt 0 i.size) (.fieldA f.offset x)
    | _ => dD
theorem QW {t : TypeId} {p : Operand} {j : Nat} (h : o.op = .fieldAddr t p j) : bK c (Rz c.P t p j) o := by
  refine dL fun x hx _ => jm fun d hd => ?_
  split
  · refine l8 fun f hf => xG fun i hi => nW fun h0 => ?_
    exact Sg (z := i.size) h hd hf rfl (by rw [hi]; rfl) (MV h0) hx
  · exact bD
def RA (P : Program) (t : TypeId) (p : Operand) (j : Nat) : AOp :=
  axK P true [] t p fun x => tyK P t fun d => match d with
    | .struct fs => opK fs[j]? fun f => tyK P f.type fun df => tiK P f.type fun i => gd (Nat.blt 0 i.size) (.field f.offset i.size (mR df) x)
    | _ => dD
theorem QX {t : TypeId} {p : Operand} {j : Nat} (h : o.op = .field t p j) : bK c (RA c.P t p j) o := by
  refine dL fun x hx hf0 => jm fun d hd => ?_
  split
  · refine l8 fun f hf => jm fun df hdf => xG fun i hi => nW fun h0 => ?_
    exact TZ h hd hf rfl hdf rfl (by rw [hi]; rfl) (MV h0) hx (hf0 rfl)
  · exact bD
def WK (P : Program) (tk : Bool) (t : TypeId) (p : Operand) : AOp :=
  axK P true [] t p fun x => tyK P t fun d => tiK P t fun i => match tk with
    | false => .load i.size (mR d) x
    | true => gd (Nat.blt 0 i.size) (.loadT i.size (mR d) x)
theorem UH {tk : Bool} {t : TypeId} {p : Operand} (h : o.op = .load t p) : bK c (WK c.P tk t p) o := by
  refine dL fun x hx _ => jm fun d hd => xG fun i hi => ?_
  cases tk with
  | false => exact VN h hd rfl (by rw [hi]; rfl) hx
  | true => exact nW fun h0 => Ut h hd rfl (by rw [hi]; rfl) (MV h0) hx
def UI (P : Program) (own : Bool) (tk : List Nat) (t : TypeId) (p q : Operand) : AOp :=
  axK P true [] t p fun x => axK P own tk t q fun y => tiK P t fun i => .store i.size x y
theorem SX {own : Bool} {tk : List Nat} {t : TypeId} {p q : Operand} (h : o.op = .store t p q) : bK c (UI c.P own tk t p q) o :=
  dL fun x hx _ => dL fun y hy _ => xG fun i hi => Ud h (by rw [hi]; rfl) hx hy
def XJ (P : Program) (tk : List Nat) (t : TypeId) (p : Operand) : AOp :=
  axK P true tk t p fun x => tiK P t fun i => .box t i.size x
theorem Wn {tk : List Nat} {t : TypeId} {p : Operand} (h : o.op = .box t p) : bK c (XJ c.P tk t p) o :=
  dL fun x hx _ => xG fun i hi => WX h hx
def UJ (P : Program) (t : TypeId) : AOp :=
  opK ((P.info? t).bind (·.zero)) fun z => opK (OE P true (IP P 8 t) z.cells.toList) fun l => .alloc t l
theorem SY {t : TypeId} (h : o.op = .alloc t) : bK c (UJ c.P t) o :=
  l8 fun z hz => l8 fun l hl => Uc h hz (Gs hl)
def XK (P : Program) (t : TypeId) : AOp :=
  opK ((P.info? t).bind (·.zero)) fun z => gd (Oz z.cells.toList) (.allocO (.buf 0 t []))
theorem Wo {t : TypeId} (h : o.op = .alloc t) : bK c (XK c.P t) o :=
  l8 fun z hz => nW fun hg => SN h hz hg
def shT (P : Program) (t : TypeId) : Option SH := match P.underlying t with
  | some (.int k) => some (.int k)
  | some .bool => some .bool
  | some .string => some .str
  | some (.slice e) => match P.underlying e with
    | some (.int k) => some (.ints k)
    | some .string => some .strs
    | _ => some (.sl (P.cellsOf e))
  | _ => none
def Xh (P : Program) : List TypeId → Option (List SH)
  | [] => some []
  | t :: ts => (shT P t).bind fun s => (Xh P ts).map (s :: ·)
def UK (P : Program) (t : TypeId) (p : Operand) : AOp :=
  axK P true [] t p fun x => tyK P t fun d => tiK P t fun i => opK (Xh P (IP P 8 t)) fun sh => gd (Nat.blt 0 i.size && Nat.beq sh.length i.size) (.loadC sh i.size (mR d) x)
theorem S9 {t : TypeId} {p : Operand} (h : o.op = .load t p) : bK c (UK c.P t p) o := by
  refine dL fun x hx _ => jm fun d hd => xG fun i hi => l8 fun sh hsh => nW fun h0 => ?_
  rw [Bool.and_eq_true] at h0
  exact Ux h hd rfl (by rw [hi]; rfl) (Nat.eq_of_beq_eq_true h0.2) (MV h0.1) hx
def UL (P : Program) (t : TypeId) (p q : Operand) : AOp :=
  axK P true [] t p fun x => axK P true [] 0 q fun i => tyK P t fun d => match d with
    | .string => .idxS x i
    | .array m e => tyK P e fun de => gd (!mR de) (opK (shT P e) fun sh => gd ((P.info? e).map (·.size) == some 1) (.idxG m sh x i))
    | _ => dD
theorem Ta {t : TypeId} {p q : Operand} (h : o.op = .index t p q) : bK c (UL c.P t p q) o := by
  refine dL fun x hx _ => dL fun i hi _ => jm fun d hd => ?_
  split
  · exact VM h hd hx hi
  · refine jm fun de hde => nW fun ha => l8 fun sh hsh => nW fun hz => ?_
    exact V5 h hd hde (by simpa using ha) (by simpa using hz) hx hi
  · exact bD
def Xi : TypeDesc → Bool
  | .int _ | .string | .pointer _ => true
  | _ => false
def Mg (P : Program) (t : TypeId) (p q : Operand) : AOp :=
  axK P true [] t p fun x => axK P true [] 0 q fun i => tyK P t fun d => match d with
    | .array n e => tiK P e fun ie => .idxP ie.size n x i
    | .slice e => tyK P e fun de => tiK P e fun ie => gd (Nat.blt 0 ie.size) (match Xi de with
      | true => .idxA ie.size x i
      | false => opK (Xh P (IP P 8 e)) fun sh => .idxT ie.size sh x i)
    | _ => dD
theorem MW {t : TypeId} {p q : Operand} (h : o.op = .indexAddr t p q) : bK c (Mg c.P t p q) o := by
  refine dL fun x hx _ => dL fun i hi _ => jm fun d hd => ?_
  split
  · exact xG fun ie hie => V6 h hd (by rw [hie]; rfl) hx hi
  · refine jm fun de hde => xG fun ie hie => nW fun h0 => ?_
    have h0' : 0 < ie.size := MV h0
    split
    · exact Ri h hd (by rw [hie]; rfl) h0' hx hi
    · exact l8 fun sh hsh => V4 h hd (by rw [hie]; rfl) h0' hx hi
  · exact bD
def UM (P : Program) (t : TypeId) (p : Operand) (l h : Option Operand) : AOp :=
  axK P true [] t p fun x => Xg P l fun lo => Xg P h fun hi => tyK P t fun d => match d with
    | .string => .sliceS x lo hi
    | .slice e => tiK P e fun ie => gd (Nat.blt 0 ie.size) (.slice ie.size x lo hi)
    | _ => dD
theorem Tc {t : TypeId} {p : Operand} {l h : Option Operand} (ho : o.op = .slice t p l h none) : bK c (UM c.P t p l h) o := by
  refine dL fun x hx _ => Ry fun lo hl => Ry fun hi hh => jm fun d hd => ?_
  split
  · exact Si ho hd hx hl hh
  · exact xG fun ie hie => nW fun h0 => ok_slice ho hd (by rw [hie]; rfl) (MV h0) hx hl hh
  · exact bD
def Wp {α : Type} : Nat → List (Nat × α) → Bool
  | _, [] => true
  | i, (j, _) :: l => Nat.beq i j && Wp (i + 1) l
theorem RB {α : Type} : ∀ {l : List (Nat × α)} {i : Nat}, Wp i l = true → l = ((l.map (·.2)).zipIdx i).map fun x => (x.2, x.1)
  | [], _, _ => rfl
  | (j, a) :: l, i, h => by
    simp only [Wp, Bool.and_eq_true] at h
    have h1 := Nat.eq_of_beq_eq_true h.1
    subst h1
    have h2 := RB h.2
    simp only [List.map_cons, List.zipIdx_cons]
    rw [← h2]
def XL (P : Program) (t : TypeId) (n : Nat) (ps : List (Nat × Operand)) : AOp :=
  tyK P t fun d => match d with
    | .slice e => gd (Nat.beq n ps.length && Wp 0 ps) (tyK P e fun de => tiK P e fun ie => opK ie.zero fun z => PX P true [] (List.replicate ps.length e) (ps.map (·.2)) fun xs =>
      gd (Nat.blt 0 ie.size && Nat.ble (ps.length * ie.size) 16777216) (match de with
        | .int k => gd (Nat.beq ie.size 1) (.litI k xs)
        | .string => gd (Nat.beq ie.size 1) (.litS xs)
        | .pointer _ => gd (Nat.beq ie.size 1) (.litP e xs)
        | _ => .litC ie.size xs))
    | _ => dD
theorem Wq {t : TypeId} {n : Nat} {ps : Array (Nat × Operand)} (h : o.op = .buildSlice t n ps) : bK c (XL c.P t n ps.toList) o := by
  refine jm fun d hd => ?_
  split
  case h_2 => exact bD
  rename_i e
  refine nW fun hn => jm fun de hde => xG fun ie hie => l8 fun z hz => Hm fun xs hxs => nW fun hs => ?_
  simp only [Bool.and_eq_true] at hn hs
  have hn1 := Nat.eq_of_beq_eq_true hn.1
  have hn2 := RB hn.2
  have hop : o.op = .buildSlice t (ps.toList.map (·.2)).length (BO (ps.toList.map (·.2))).toArray := by
    rw [h]
    congr 1
    · simp [hn1]
    · apply Array.ext'
      simpa [BO] using hn2
  have h0 : 0 < ie.size := MV hs.1
  have hle : (ps.toList.map (·.2)).length * ie.size ≤ 16777216 := by simpa using Nat.le_of_ble_eq_true hs.2
  have hzz : ∀ m, Nat.beq ie.size m = true → (c.P.info? e).map (fun i => (i.size, i.zero)) = some (m, some z) := fun m hm => by
    rw [hie, ← Nat.eq_of_beq_eq_true hm, ← hz]; rfl
  have hle1 : (ps.toList.map (·.2)).length ≤ 16777216 := Nat.le_trans (Nat.le_mul_of_pos_right _ h0) hle
  split
  · exact nW fun h1 => VQ hop hd (hzz 1 h1) hle1 hxs
  · exact nW fun h1 => VS hop hd (hzz 1 h1) hle1 hxs
  · exact nW fun h1 => VU hop hd (hzz 1 h1) (by omega) hxs
  · exact VT hop hd (hzz _ (Nat.beq_refl _)) h0 hle hxs
def UN : Operand → Operand → Bool
  | .tmp a, .tmp b => Nat.beq a b
  | .const (.int k a), .const (.int l b) => decide (k = l) && decide (a = b)
  | _, _ => false
theorem UO {p q : Operand} (h : UN p q = true) : p = q := by
  unfold UN at h
  split at h
  · rw [Nat.eq_of_beq_eq_true h]
  · simp only [Bool.and_eq_true, decide_eq_true_eq] at h
    rw [h.1, h.2]
  · cases h
def WL (P : Program) (t : TypeId) (p q : Operand) : AOp :=
  gd (UN p q) (axK P true [] 0 p fun x => tyK P t fun d => match d with
    | .slice e => tiK P e fun ie => match ie.zero with
      | some (.int k z) => gd (decide (z = 0) && Nat.beq ie.size 1 && Nat.blt 0 ie.bytes) (.makeI k ie.bytes x)
      | _ => dD
    | _ => dD)
theorem UQ {t : TypeId} {p q : Operand} (h : o.op = .makeSlice t p q) : bK c (WL c.P t p q) o := by
  refine nW fun hpq => dL fun x hx _ => jm fun d hd => ?_
  have := UO hpq
  subst this
  split
  · refine xG fun ie hie => ?_
    split
    · rename_i k z hz
      refine nW fun hg => ?_
      simp only [Bool.and_eq_true, decide_eq_true_eq] at hg
      obtain ⟨⟨rfl, h1⟩, h2⟩ := hg
      exact Ua h hd (by rw [hie]; simp only [Option.map_some, Nat.eq_of_beq_eq_true h1, hz]) (MV h2) hx
    · exact bD
  · exact bD
def Mh (P : Program) (tk : List Nat) (fs : List Field) (pl : List (Nat × Nat)) : List (Nat × Operand) → Option (List (Nat × Nat × AX))
  | [] => some []
  | (i, p) :: qs => (pl[i]?).bind fun q => (fs[i]?).bind fun f => (axO P true tk f.type p).bind fun x => (Mh P tk fs pl qs).map ((q.1, q.2, x) :: ·)
theorem Mi {P : Program} {tk : List Nat} {fs : List Field} {pl : List (Nat × Nat)} : ∀ {qs : List (Nat × Operand)} {ps : List (Nat × Nat × AX)}, Mh P tk fs pl qs = some ps → yz ps qs pl = true
  | [], ps, h => by simp only [Mh] at h; injection h with h; subst h; rfl
  | (i, p) :: qs, ps, h => by
    simp only [Mh] at h
    obtain ⟨q, h1, h2⟩ := Option.bind_eq_some_iff.1 h
    obtain ⟨f, h3, h4⟩ := Option.bind_eq_some_iff.1 h2
    obtain ⟨x, h5, h6⟩ := Option.bind_eq_some_iff.1 h4
    obtain ⟨r, h7, rfl⟩ := Option.map_eq_some_iff.1 h6
    simp [yz, h1, (Hl h5).1, Mi h7]
def Mj (P : Program) (tk : List Nat) (e : TypeId) (z : Nat) : List (Nat × Operand) → Option (List (Nat × Nat × AX))
  | [] => some []
  | (i, p) :: qs => (axO P true tk e p).bind fun x => (Mj P tk e z qs).map ((i * z, z, x) :: ·)
theorem Mk {P : Program} {tk : List Nat} {e : TypeId} {z : Nat} : ∀ {qs : List (Nat × Operand)} {ps : List (Nat × Nat × AX)}, Mj P tk e z qs = some ps → uN z ps qs = true
  | [], ps, h => by simp only [Mj] at h; injection h with h; subst h; rfl
  | (i, p) :: qs, ps, h => by
    simp only [Mj] at h
    obtain ⟨x, h5, h6⟩ := Option.bind_eq_some_iff.1 h
    obtain ⟨r, h7, rfl⟩ := Option.map_eq_some_iff.1 h6
    simp [uN, (Hl h5).1, Mk h7]
def UR (P : Program) (tk : List Nat) (t : TypeId) (qs : List (Nat × Operand)) : AOp :=
  tyK P t fun d => opK ((P.info? t).bind (·.zero)) fun z => opK (OE P true (IP P 8 t) z.cells.toList) fun l => match d with
    | .struct fs => opK (placesOf P fs) fun pl => opK (Mh P tk fs.toList pl qs) fun ps => .build l ps
    | .array m e => tiK P e fun ie => opK (Mj P tk e ie.size qs) fun ps => .build l ps
    | _ => dD
theorem Td {tk : List Nat} {t : TypeId} {qs : Array (Nat × Operand)} (h : o.op = .build t qs) : bK c (UR c.P tk t qs.toList) o := by
  have h' : o.op = .build t qs.toList.toArray := by rw [h]
  refine jm fun d hd => l8 fun z hz => l8 fun l hl => ?_
  split
  · exact l8 fun pl hpl => l8 fun ps hps => Uu h' hd hz hpl (Gs hl) (Mi hps)
  · exact xG fun ie hie => l8 fun ps hps => SC h' hd hz (by rw [hie]; rfl) (Gs hl) (Mk hps)
  · exact bD
def keyD? : TypeDesc → Option Bool
  | .int _ => some true
  | .string => some false
  | _ => none
theorem keyD?_ok {d : TypeDesc} {b : Bool} (h : keyD? d = some b) : Uv b d = true := by
  unfold keyD? at h
  split at h
  · injection h with h; subst h; rfl
  · injection h with h; subst h; rfl
  · cases h
def Xj (P : Program) (t : TypeId) (m k v : Operand) : AOp :=
  tyK P t fun d => match d with
    | .map kt et => tyK P kt fun dk => opK (keyD? dk) fun b => axK P true [] t m fun x => axK P true [] kt k fun y => axK P true [] et v fun z => .mapPut b x y z
    | _ => dD
theorem RD {t : TypeId} {m k v : Operand} (h : o.op = .insert t m k v ∨ o.op = .mapUpdate t m k v) : bK c (Xj c.P t m k v) o := by
  refine jm fun d hd => ?_
  split
  · exact jm fun dk hk => l8 fun b hb => dL fun x hx _ => dL fun y hy _ => dL fun z hz _ => Sz h hd hk (keyD?_ok hb) hx hy hz
  · exact bD
def WM (P : Program) (t : TypeId) (m k : Operand) (ok : Bool) : AOp :=
  tyK P t fun d => match d with
    | .map kt et => tyK P kt fun dk => opK (keyD? dk) fun b => opK ((P.info? et).bind (·.zero)) fun z => opK (Wl P true et z) fun zv => axK P true [] t m fun x => axK P true [] kt k fun y => .lookup b ok zv x y
    | _ => dD
theorem UT {t : TypeId} {m k : Operand} {ok : Bool} (h : o.op = .lookup t m k ok) : bK c (WM c.P t m k ok) o := by
  refine jm fun d hd => ?_
  split
  · exact jm fun dk hk => l8 fun b hb => l8 fun z hz => l8 fun zv hzv => dL fun x hx _ => dL fun y hy _ => Sy h hd hk (keyD?_ok hb) hz (PV hzv) hx hy
  · exact bD
inductive HO where
  | no
  | tk (l : List Nat)
  | lt
  | lc
  | cl (f : FuncId) (sp : FSpec)
  | cy (key : Nat) (sp : FSpec)
  | bf (kind : Nat)
  | nl (sh : Option IntKind) (z : Nat)
  | an (l : List Nat)
  | ao
  | am (l : List Nat)
  | az (v : TypeId) (l : List Nat)
  | bb
  | nn
  | raw (p : AOp)
def HO.tks : HO → List Nat
  | .tk l => l
  | .an l => l
  | .am l => l
  | .az _ l => l
  | _ => []
def HO.own : HO → Bool
  | .nn => false
  | _ => true
def HO.isLt : HO → Bool
  | .lt => true
  | _ => false
def HO.OK (c : Cx) (o : Oper) : HO → Prop
  | .cl f sp => FSound c.P f sp
  | .cy key sp => RSound c.P key sp
  | .raw p => bK c p o
  | _ => True
def UU (P : Program) (h : HO) (cl : Call) : AOp := match cl.callee with
  | .builtin .len => match cl.args.toList, cl.argTypes.toList with
    | [p], [t] => axK P true [] t p fun x => tyK P t fun d => match d with
      | .slice _ => .len x
      | .string => .lenS x
      | _ => dD
    | _, _ => dD
  | .builtin .append => match cl.args.toList, cl.argTypes.toList with
    | [p, q], [t, u] => axK P true h.tks t p fun x => axK P true [] u q fun y => tyK P t fun d => match d with
      | .slice e => tiK P e fun ie => opK ie.zero fun z => gd (Nat.blt 0 ie.size && Nat.blt 0 ie.bytes && Nat.beq z.cells.size ie.size) (tyK P u fun du => match du with
        | .slice _ => (match h with
          | .an _ => .appendN ie.size ie.bytes x y
          | .ao => .appendO ie.size ie.bytes x y
          | .am _ => .appendM ie.size ie.bytes x y
          | _ => .append ie.size ie.bytes x y)
        | .string => gd (Nat.beq ie.size 1) (.appendS ie.bytes x y)
        | .int _ => (match h, z with
          | .az v _, .int .u8 0 => tyK P v fun dv => match dv with
            | .string => .appendZ ie.bytes x y
            | _ => dD
          | _, _ => dD)
        | _ => dD)
      | _ => dD
    | _, _ => dD
  | .builtin .max => match cl.args.toList with
    | [p, q] => axK P true [] (cl.argTypes.getD 0 0) p fun x => axK P true [] (cl.argTypes.getD 0 0) q fun y => .minmax true x y
    | _ => dD
  | .builtin .min => match cl.args.toList with
    | [p, q] => axK P true [] (cl.argTypes.getD 0 0) p fun x => axK P true [] (cl.argTypes.getD 0 0) q fun y => .minmax false x y
    | _ => dD
  | .value (.func f) => match h with
    | .cl g sp => gd (Nat.beq f g) (PX P false [] cl.argTypes.toList cl.args.toList fun xs => .call sp g xs)
    | _ => dD
  | .value fv => match h with
    | .cl g sp => axK P true [] 0 fv fun x => PX P false [] cl.argTypes.toList cl.args.toList fun xs => .callV sp g x xs
    | .cy key sp => gd (Nat.beq cl.args.toList.length (Ph key).length) (axK P true [] 0 fv fun x => PX P false [] cl.argTypes.toList cl.args.toList fun xs => .callY sp key x xs)
    | _ => dD
  | _ => dD
theorem qa {α : Type} {a : Array α} {l : List α} (h : a.toList = l) : a = l.toArray := by rw [← h]
theorem UV {h : HO} {cl : Call} (ho : o.op = .call cl) (hh : h.OK c o) : bK c (UU c.P h cl) o := by
  unfold UU
  split
  · rename_i hc
    split
    · rename_i p t h1 h2
      refine dL fun x hx _ => jm fun d hd => ?_
      split
      · exact WW ho hc (qa h1) (qa h2) hd hx
      · exact VO ho hc (qa h1) (qa h2) hd hx
      · exact bD
    · exact bD
  · rename_i hc
    split
    · rename_i p q t u h1 h2
      refine dL fun x hx _ => dL fun y hy hf => jm fun d hd => ?_
      split
      · refine xG fun ie hie => l8 fun z hz => nW fun hg => jm fun du hdu => ?_
        simp only [Bool.and_eq_true] at hg
        obtain ⟨⟨g1, g2⟩, g3⟩ := hg
        have g1' : 0 < ie.size := MV g1
        have g2' : 0 < ie.bytes := MV g2
        have g3' := Nat.eq_of_beq_eq_true g3
        split
        · split
          · exact QS ho hc (qa h1) (qa h2) hd hdu (by rw [hie, ← hz]; rfl) g3' g1' g2' hx hy
          · exact QT ho hc (qa h1) (qa h2) hd hdu (by rw [hie, ← hz]; rfl) g3' g1' g2' hx hy
          · exact QU ho hc (qa h1) (qa h2) hd hdu (by rw [hie, ← hz]; rfl) g3' g1' g2' hx hy
          · exact Sl ho hc (qa h1) (qa h2) hd hdu (by rw [hie, ← hz]; rfl) g3' g1' g2' hx hy (hf rfl)
        · refine nW fun g4 => ?_
          have g4' := Nat.eq_of_beq_eq_true g4
          exact QG ho hc (qa h1) (qa h2) hd hdu (by rw [hie, ← hz, ← g4']; rfl) (by rw [g3', g4']) g2' hx hy
        · split
          · rename_i v l
            refine jm fun dv hdv => ?_
            split
            · have e1 : ie.size = 1 := by rw [← g3']; rfl
              exact QH ho hc (qa h1) (qa h2) hd hdu hdv (by rw [hie]; simp only [Option.map_some]; rw [e1, hz]) g2' hx hy
            · exact bD
          · exact bD
        · exact bD
      · exact bD
    · exact bD
  · rename_i hc
    split
    · rename_i p q h1
      exact dL fun x hx _ => dL fun y hy _ => Nl (mx := true) ho hc (qa h1) hx hy
    · exact bD
  · rename_i hc
    split
    · rename_i p q h1
      exact dL fun x hx _ => dL fun y hy _ => Nl (mx := false) ho hc (qa h1) hx hy
    · exact bD
  · rename_i f hc
    split
    · refine nW fun hg => Hm fun xs hxs => ?_
      have := Nat.eq_of_beq_eq_true hg
      subst this
      exact VW ho hc (by simp) hh hxs
    · exact bD
  · rename_i fv _ hc
    split
    · exact dL fun x hx hf => Hm fun xs hxs => Ue ho hc (by simp) hh hx (hf rfl) hxs
    · refine nW fun hg => dL fun x hx hf => Hm fun xs hxs => ?_
      exact UC ho hc (by simp) hh (by rw [← Pi]; exact Nat.eq_of_beq_eq_true hg) hx hxs
    · exact bD
  · exact bD
def OG : Operand → Bool
  | .const (.slice none 0 0) => true
  | _ => false
theorem NJ {y : Operand} (h : OG y = true) : y = .const (.slice none 0 0) := by
  unfold OG at h
  split at h
  · rfl
  · cases h
def JZ (P : Program) (t : TypeId) (qs : List (Nat × Operand)) : AOp := match qs with
  | [] => tyK P t fun d => match d with
    | .struct fs => opK ((P.info? t).bind (·.zero)) fun z => opK (placesOf P fs) fun pl => gd (OD z) .buildB
    | _ => dD
  | _ => dD
theorem OH {t : TypeId} {qs : Array (Nat × Operand)} (h : o.op = .build t qs) : bK c (JZ c.P t qs.toList) o := by
  unfold JZ
  split
  · rename_i he
    have : qs = #[] := by apply Array.ext'; simpa using he
    subst this
    refine jm fun d hd => ?_
    split
    · exact l8 fun z hz => l8 fun pl hpl => nW fun hg => SV h hd hz hpl hg
    · exact bD
  · exact bD
def opA (P : Program) (h : HO) (o : Oper) : AOp := match h with
  | .raw p => p
  | h => match o.op with
    | .move y => (match h with | .nl sh z => gd (OG y) (.nilO sh z) | h => axK P h.own h.tks o.type y .mv)
    | .assign y => (match h with | .nl sh z => gd (OG y) (.nilO sh z) | h => axK P h.own h.tks o.type y .mv)
    | .nilCheck y => axK P true [] 0 y .chk
    | .pick a b e => axK P true [] 0 a fun x => axK P true [] o.type b fun y => axK P true [] o.type e fun z => .pick x y z
    | .binOp b t p q t' => XI P b t p q t'
    | .unOp b t p => axK P true [] t p fun x => .un b x
    | .convert s d p => WJ P h.tks s d p
    | .extract y i => axK P true h.tks 0 y fun x => .extract i x
    | .fieldAddr t p j => Rz P t p j
    | .field t p j => RA P t p j
    | .load t p => (match h with | .lc => UK P t p | _ => WK P h.isLt t p)
    | .store t p q => UI P h.own h.tks t p q
    | .box t p => (match h with | .bb => axK P true [] t p fun x => .boxB t x | h => XJ P h.tks t p)
    | .alloc t => (match h with | .bf _ => XK P t | _ => UJ P t)
    | .index t p q => UL P t p q
    | .indexAddr t p q => Mg P t p q
    | .slice t p l u none => UM P t p l u
    | .buildSlice t n ps => XL P t n ps.toList
    | .makeSlice t p q => WL P t p q
    | .build t ps => (match h with | .bb => JZ P t ps.toList | h => UR P h.tks t ps.toList)
    | .makeMap t none => .makeMap
    | .insert t m k v => Xj P t m k v
    | .mapUpdate t m k v => Xj P t m k v
    | .lookup t m k ok => WM P t m k ok
    | .makeFunc fn fs cs => PX P true [] (List.replicate fs.size 0) fs.toList fun ys => PX P true [] (List.replicate cs.size 0) cs.toList fun xs => .mkFunc fn ys xs
    | .call cl => UU P h cl
    | _ => dD
theorem UW {h : HO} (hh : h.OK c o) : bK c (opA c.P h o) o := by
  unfold opA
  split
  · exact hh
  · split
    · rename_i ho
      split
      · exact nW fun hg => Rw (.inl (by rw [ho, NJ hg]))
      · exact dL fun x hx _ => WG (.inl ho) hx
    · rename_i ho
      split
      · exact nW fun hg => Rw (.inr (by rw [ho, NJ hg]))
      · exact dL fun x hx _ => WG (.inr ho) hx
    · rename_i ho; exact dL fun x hx _ => WU ho hx
    · rename_i ho; exact dL fun x hx _ => dL fun y hy _ => dL fun z hz _ => VI ho hx hy hz
    · rename_i ho; exact Wm ho
    · rename_i ho; exact dL fun x hx _ => XC ho hx
    · rename_i ho; exact UG ho
    · rename_i ho; exact dL fun x hx _ => QF ho hx
    · rename_i ho; exact QW ho
    · rename_i ho; exact QX ho
    · rename_i ho
      split
      · exact S9 ho
      · exact UH ho
    · rename_i ho; exact SX ho
    · rename_i ho
      split
      · exact dL fun x hx _ => Wi ho hx
      · exact Wn ho
    · rename_i ho
      split
      · exact Wo ho
      · exact SY ho
    · rename_i ho; exact Ta ho
    · rename_i ho; exact MW ho
    · rename_i ho; exact Tc ho
    · rename_i ho; exact Wq ho
    · rename_i ho; exact UQ ho
    · rename_i ho
      split
      · exact OH ho
      · exact Td ho
    · rename_i ho; exact QO ho
    · rename_i ho; exact RD (.inl ho)
    · rename_i ho; exact RD (.inr ho)
    · rename_i ho; exact UT ho
    · rename_i fn fs cs ho
      exact Hm fun ys hys => Hm fun xs hxs => Sk (by simpa using ho) hys hxs
    · rename_i cl ho; exact UV ho hh
    · exact bD
end Go.Sh
namespace Go.Sh
theorem Ho {α β : Type} (b : Bool) (x y : Option α) (f : α → Option β) : (cond b x y).bind f = cond b (x.bind f) (y.bind f) := by cases b <;> rfl
theorem Te {α β γ δ : Type} (f : α → Option γ) (g : β → Option γ) (o : α ⊕ β) (J : γ → Option δ) : (Sum.elim f g o).bind J = Sum.elim (fun u => (f u).bind J) (fun v => (g v).bind J) o := by cases o <;> rfl
theorem UX {α β : Type} (l : List AV) (k : AV → List AV → Option α) (J : α → Option β) : (unc l k).bind J = unc l fun c r => (k c r).bind J := by cases l <;> rfl
theorem UY {α β : Type} (l : List AV) (k : Option α) (J : α → Option β) : (unn l k).bind J = unn l (k.bind J) := by cases l <;> rfl
theorem Tf {α β : Type} (kd : IntKind) (a : AV) (k : Int → Option α) (J : α → Option β) : (jR kd a k).bind J = jR kd a fun n => (k n).bind J := by
  unfold jR
  split
  · rw [Ho]; rfl
  · rfl
theorem Tg {α β : Type} (a : AV) (k : Bool → Option α) (J : α → Option β) : (l5 a k).bind J = l5 a fun n => (k n).bind J := by
  unfold l5
  split <;> rfl
theorem Ti {α β : Type} (a : AV) (k : Str → Option α) (J : α → Option β) : (l6 a k).bind J = l6 a fun n => (k n).bind J := by
  unfold l6
  split <;> rfl
theorem QY {α β : Type} (kd : IntKind) (a : AV) (k : List Int → Option α) (J : α → Option β) : (Ll kd a k).bind J = Ll kd a fun n => (k n).bind J := by
  unfold Ll
  split
  · rw [Ho]; rfl
  · rfl
theorem QZ {α β : Type} (a : AV) (k : List Str → Option α) (J : α → Option β) : (Lm a k).bind J = Lm a fun n => (k n).bind J := by
  unfold Lm
  split <;> rfl
theorem Q0 {α β : Type} (m : Nat) (a : AV) (k : List (List AV) → Option α) (J : α → Option β) : (Lp m a k).bind J = Lp m a fun n => (k n).bind J := by
  unfold Lp
  split
  · rw [Ho]; rfl
  · rfl
theorem aS : (∀ (α β : Type) (b : Bool) (x y : Option α) (f : α → Option β), (cond b x y).bind f = cond b (x.bind f) (y.bind f)) ∧
    (∀ (α β γ : Type) (x : Option α) (f : α → Option β) (g : β → Option γ), (x.bind f).bind g = x.bind fun y => (f y).bind g) ∧
    (∀ (α β : Type) (f : α → Option β), (none : Option α).bind f = none) ∧
    (∀ (α β γ δ : Type) (f : α → Option γ) (g : β → Option γ) (o : α ⊕ β) (J : γ → Option δ), (Sum.elim f g o).bind J = Sum.elim (fun u => (f u).bind J) (fun v => (g v).bind J) o) ∧
    (∀ (α β : Type) (l : List AV) (k : AV → List AV → Option α) (J : α → Option β), (unc l k).bind J = unc l fun c r => (k c r).bind J) ∧
    (∀ (α β : Type) (l : List AV) (k : Option α) (J : α → Option β), (unn l k).bind J = unn l (k.bind J)) ∧
    (∀ (α β : Type) (kd : IntKind) (a : AV) (k : Int → Option α) (J : α → Option β), (jR kd a k).bind J = jR kd a fun n => (k n).bind J) ∧
    (∀ (α β : Type) (a : AV) (k : Bool → Option α) (J : α → Option β), (l5 a k).bind J = l5 a fun n => (k n).bind J) ∧
    (∀ (α β : Type) (a : AV) (k : Str → Option α) (J : α → Option β), (l6 a k).bind J = l6 a fun n => (k n).bind J) ∧
    (∀ (α β : Type) (kd : IntKind) (a : AV) (k : List Int → Option α) (J : α → Option β), (Ll kd a k).bind J = Ll kd a fun n => (k n).bind J) ∧
    (∀ (α β : Type) (a : AV) (k : List Str → Option α) (J : α → Option β), (Lm a k).bind J = Lm a fun n => (k n).bind J) ∧
    (∀ (α β : Type) (m : Nat) (a : AV) (k : List (List AV) → Option α) (J : α → Option β), (Lp m a k).bind J = Lp m a fun n => (k n).bind J) :=
  ⟨fun _ _ => Ho, fun _ _ _ x f g => Option.bind_assoc x f g, fun _ _ _ => rfl, fun _ _ _ _ => Te, fun _ _ => UX, fun _ _ => UY, fun _ _ => Tf, fun _ _ => Tg, fun _ _ => Ti, fun _ _ => QY, fun _ _ => QZ, fun _ _ => Q0⟩
end Go.Sh
namespace Go.Sh
open Go.RowKit
set_option linter.unusedSimpArgs false
set_option linter.unusedVariables false
theorem entry {P : Program} {f : FuncId} {sp : FSpec} (h : FSound P f sp) {args : List AV} {v0 : AV} {H0 : List AObj} (W : World) (vs : List Value) (g : Gh) (hg : g.obj = []) (hvs : VRs g W args vs) (hown : aF args vs = []) (hlen : ∀ b, 0 < g.len b → b < W.heap.size) (hgood : Good W.heap)
    (hsp : sp args [] (AV × List AObj) (fun v H => some (v, H)) = some (v0, H0)) : Calls P f vs.toArray W fun e W' => ∃ v', e = .returned v' ∧ (∃ g', VR g' W' v0 v') ∧ Below W.heap.size W W' := by
  obtain ⟨v, H', h1, h2⟩ := h.law args [] _ _ _ hsp
  injection h1 with h1
  injection h1 with h1 h3
  subst h1
  subst h3
  have hc : Core (fun b => b < W.heap.size) g [] (aF args vs) W := by
    rw [hown]
    refine ⟨by simp [ObjsR, hg], fun r hr => by simp [bi] at hr, fun b => by simp [l7, bi, lives], fun b _ => by simp [l7, bi, lives], fun b hb => by simp [lives] at hb, hlen, fun b hb => hb, W.heap, hgood, fun b hb => ⟨hb, rfl⟩⟩
  refine (h2 _ g vs W hvs hc).mono ?_
  rintro e W' ⟨v', g', rfl, k1, k2, k3, k4⟩
  exact ⟨v', rfl, ⟨g', k1⟩, ⟨k4.os, k4.tape, k4.output, k4.size, fun k hk => (k4.frame k hk).1⟩⟩
theorem Q3 {P : Program} {f : FuncId} {sp : FSpec} (h : FSound P f sp) {args : List AV} {H0 : List AObj} (W : World) (vs : List Value) (g : Gh) (hg : g.obj = []) (hvs : VRs g W args vs) (hown : aF args vs = []) (hlen : ∀ b, 0 < g.len b → b < W.heap.size) (hgood : Good W.heap)
    (hsp : sp args [] (AV × List AObj) (fun v H => some (v, H)) = some (.bool true, H0)) : Calls P f vs.toArray W fun e W' => e = .returned (.bool true) ∧ Below W.heap.size W W' := by
  refine (entry h W vs g hg hvs hown hlen hgood hsp).mono ?_
  rintro e W' ⟨v', rfl, ⟨g', hv⟩, hb⟩
  simp only [VR] at hv
  subst hv
  exact ⟨rfl, hb⟩
end Go.Sh
namespace Go.Sh
open Go.RowKit
set_option linter.unusedSimpArgs false
set_option linter.unusedVariables false
variable {c : Cx}
def hOf (i : Nat) : List (Nat × HO) → HO
  | (j, h) :: _ => cond (Nat.beq i j) h .no
  | [] => .no
def RF (i : Nat) : List (Nat × HO) → List (Nat × HO)
  | (j, h) :: r => cond (Nat.beq i j) r ((j, h) :: r)
  | [] => []
def gOf (ops : Array Oper) : Option (Nat × Bool) → Option (Nat × Bool)
  | none => none
  | some (j, w) => some (((ops[j]?).bind (·.dst)).getD 0, w)
def PY (P : Program) (ops : Array Oper) : Nat → List (Nat × HO) → List Oper → List AOper
  | _, _, [] => []
  | i, hs, o :: os => ⟨o.dst, opA P (hOf i hs) o, gOf ops o.guard⟩ :: PY P ops (i + 1) (RF i hs) os
def NK : Operand → List Nat
  | .tmp t => [t]
  | _ => []
def Gt : List Operand → List Nat
  | [] => []
  | p :: ps => NK p ++ Gt ps
def UZ : Option Operand → List Nat
  | some p => NK p
  | none => []
def Xk : Op → List Nat
  | .move x | .assign x | .box _ x | .load _ x | .nilCheck x | .unOp _ _ x | .convert _ _ x | .makeInterface _ x | .fieldAddr _ x _ | .field _ x _ | .extract x _ => NK x
  | .pick a b e => Gt [a, b, e]
  | .build _ ps | .buildSlice _ _ ps => Gt (ps.toList.map (·.2))
  | .store _ a v | .binOp _ _ a v _ | .makeSlice _ a v | .indexAddr _ a v | .index _ a v | .lookup _ a v _ => Gt [a, v]
  | .makeFunc _ f cs => Gt f.toList ++ Gt cs.toList
  | .slice _ x l h _ => NK x ++ UZ l ++ UZ h
  | .mapUpdate _ m k v | .insert _ m k v => Gt [m, k, v]
  | .call cl => (match cl.callee with | .value f => NK f | .invoke r _ => NK r | .builtin _ => []) ++ Gt cl.args.toList
  | _ => []
def XW : Op → OB
  | .load .. | .lookup .. => .look
  | .store .. | .box .. | .alloc .. | .makeMap .. | .insert .. | .mapUpdate .. => .all
  | _ => .no
def bOf (i : Nat) (b : OB) : List (Nat × OB) → OB
  | (j, h) :: r => cond (Nat.beq i j) h (bOf i b r)
  | [] => b
def NL (P : Program) (ops : Array Oper) (bs : List (Nat × OB)) : Nat → List (Nat × HO) → List Oper → List DOper
  | _, _, [] => []
  | i, hs, o :: os => ⟨⟨o.dst, opA P (hOf i hs) o, gOf ops o.guard⟩, Xk o.op ++ (match gOf ops o.guard with | some (t, _) => [t] | none => []), bOf i (XW o.op) bs⟩ :: NL P ops bs (i + 1) (RF i hs) os
def Q4 (nt : Nat) (ops : Array Oper) : List Oper → Bool
  | [] => true
  | o :: os => (match o.dst with | none => true | some d => Nat.blt d nt) && (match o.guard with | none => true | some (j, _) => ((ops[j]?).bind (·.dst)).isSome) && Q4 nt ops os
theorem NM {nt : Nat} {d : Option Nat} (h : (match d with | none => true | some d => Nat.blt d nt) = true) : Om nt d d = true := by
  cases d with
  | none => rfl
  | some d => simp only [Om]; simp only at h; simp [h]
theorem RG {ops : Array Oper} {g : Option (Nat × Bool)} (h : (match g with | none => true | some (j, _) => ((ops[j]?).bind (·.dst)).isSome) = true) : LP ops (gOf ops g) g = true := by
  cases g with
  | none => rfl
  | some jw =>
    obtain ⟨j, w⟩ := jw
    simp only at h
    obtain ⟨t, ht⟩ := Option.isSome_iff_exists.1 h
    simp [gOf, LP, ht]
theorem RH {P : Program} {nt : Nat} {ops : Array Oper} : ∀ {os : List Oper} {i : Nat} {hs : List (Nat × HO)}, Q4 nt ops os = true → Pt nt ops (PY P ops i hs os) os = true
  | [], _, _, _ => rfl
  | o :: os, i, hs, h => by
    simp only [Q4, Bool.and_eq_true] at h
    obtain ⟨⟨h1, h2⟩, h3⟩ := h
    simp [PY, Pt, NM h1, RG h2, RH h3]
theorem PZ {P : Program} {nt : Nat} {ops : Array Oper} {bs : List (Nat × OB)} : ∀ {os : List Oper} {i : Nat} {hs : List (Nat × HO)}, Q4 nt ops os = true → FE nt ops (NL P ops bs i hs os) os = true
  | [], _, _, _ => rfl
  | o :: os, i, hs, h => by
    simp only [Q4, Bool.and_eq_true] at h
    obtain ⟨⟨h1, h2⟩, h3⟩ := h
    simp [NL, FE, NM h1, RG h2, PZ h3]
def HsK (c : Cx) (ops : List Oper) : List (Nat × HO) → Prop → Prop
  | [], K => K
  | (i, h) :: r, K => match h with
    | .cl f sp => FSound c.P f sp ∧ HsK c ops r K
    | .cy key sp => RSound c.P key sp ∧ HsK c ops r K
    | .raw p => bK c p ((ops[i]?).getD default) ∧ HsK c ops r K
    | _ => HsK c ops r K
theorem P5 {ops : List Oper} {i : Nat} : ∀ {hs : List (Nat × HO)} {K : Prop}, HsK c ops hs K → HsK c ops (RF i hs) K
  | [], K, h => h
  | (j, x) :: r, K, h => by
    simp only [RF]
    cases hb : Nat.beq i j with
    | false => exact h
    | true =>
      simp only [cond_true]
      simp only [HsK] at h
      split at h
      · exact h.2
      · exact h.2
      · exact h.2
      · exact h
theorem P6 {ops : List Oper} {i : Nat} {o : Oper} (ho : ops[i]? = some o) : ∀ {hs : List (Nat × HO)} {K : Prop}, HsK c ops hs K → (hOf i hs).OK c o
  | [], K, h => trivial
  | (j, x) :: r, K, h => by
    simp only [hOf]
    cases hb : Nat.beq i j with
    | false => exact trivial
    | true =>
      have := Nat.eq_of_beq_eq_true hb
      subst this
      simp only [cond_true]
      simp only [HsK] at h
      split at h
      · exact h.1
      · exact h.1
      · rw [ho] at h; exact h.1
      · rename_i h1 h2 h3
        cases x with
        | cl f sp => exact absurd rfl (h1 f sp)
        | cy f sp => exact absurd rfl (h2 f sp)
        | raw p => exact absurd rfl (h3 p)
        | _ => exact trivial
theorem P7 {ops : List Oper} : ∀ {hs : List (Nat × HO)} {K : Prop}, HsK c ops hs K → K
  | [], K, h => h
  | (j, x) :: r, K, h => by
    simp only [HsK] at h
    split at h
    · exact P7 h.2
    · exact P7 h.2
    · exact P7 h.2
    · exact P7 h
theorem P8 {ops : Array Oper} {K : Prop} : ∀ {os : List Oper} {i : Nat} {hs : List (Nat × HO)}, (∀ j, os[j]? = ops.toList[i + j]?) → HsK c ops.toList hs K → Rk c (PY c.P ops i hs os) os
  | [], _, _, _, _ => trivial
  | o :: os, i, hs, hj, h => ⟨UW (P6 (by have := hj 0; simpa using this.symm) h), P8 (fun j => by have := hj (j + 1); simpa [Nat.add_assoc, Nat.add_comm 1 j] using this) (P5 h)⟩
theorem RI {ops : Array Oper} {bs : List (Nat × OB)} {K : Prop} : ∀ {os : List Oper} {i : Nat} {hs : List (Nat × HO)}, (∀ j, os[j]? = ops.toList[i + j]?) → HsK c ops.toList hs K → V3 c (NL c.P ops bs i hs os) os
  | [], _, _, _, _ => trivial
  | o :: os, i, hs, hj, h => ⟨UW (P6 (by have := hj 0; simpa using this.symm) h), RI (fun j => by have := hj (j + 1); simpa [Nat.add_assoc, Nat.add_comm 1 j] using this) (P5 h)⟩
inductive HT where
  | a
  | r (hs : List (Nat × HO))
  | d (hs : List (Nat × HO)) (bs : List (Nat × OB))
  | s (x y : HT)
  | u (x : HT)
  | p (x : Ex)
  | z (ts : List Nat) (x : HT)
def HT.l : HT → HT
  | .s x _ => x
  | _ => .a
def HT.rt : HT → HT
  | .s _ y => y
  | _ => .a
def HT.in1 : HT → HT
  | .u x => x
  | _ => .a
def HT.hs : HT → List (Nat × HO)
  | .r hs => hs
  | .d hs _ => hs
  | .z _ x => x.hs
  | _ => []
def HT.bs : HT → List (Nat × OB)
  | .d _ bs => bs
  | .z _ x => x.bs
  | _ => []
def HT.zs : HT → List Nat
  | .z ts _ => ts
  | _ => []
def HT.ex : HT → Option Ex
  | .p x => some x
  | _ => none
def Gu : Ex := fun _ _ _ => none
theorem xH {cd : Code} : Snd c Gu cd := fun s R k r h => by cases h
def OI (P : Program) (y : Operand) (a b : Ex) : Ex := match axO P true [] 0 y with
  | some x => TN x a b
  | none => Gu
def XM (P : Program) (ops : Array Oper) (h : HT) : Bool → Ex
  | false => Rf (PY P ops 0 h.hs ops.toList)
  | true => TM (NL P ops h.bs 0 h.hs ops.toList)
def XN (P : Program) (ops : Array Oper) (h : HT) (b : Bool) : Ex := UF h.zs (XM P ops h b)
def Xl (c : Cx) (ops : Array Oper) (h : HT) : Bool → Bool
  | false => Q4 c.nt ops ops.toList
  | true => Q4 c.nt ops ops.toList && (c.P.follows .mixedOrders && IE 0 (NL c.P ops h.bs 0 h.hs ops.toList) ops.toList)
theorem D8 {id : Nat} {ops : Array Oper} {h : HT} {K : Prop} {dr : Bool} (hc : Xl c ops h dr = true) (hk : HsK c ops.toList h.hs K) : Snd c (XN c.P ops h dr) (.region id ops dr) ∧ K := by
  refine ⟨PT ?_ _, P7 hk⟩
  cases dr with
  | false => exact QL (l := ops.toList) (RH hc) (P8 (ops := ops) (fun j => by simp) hk)
  | true =>
    simp only [Xl, Bool.and_eq_true] at hc
    exact Sw (l := ops.toList) hc.2.1 (PZ hc.1) hc.2.2 (RI (ops := ops) (fun j => by simp) hk)
def comp (P : Program) : Code → HT → Ex
  | .skip, h => match h with
    | .p x => x
    | _ => WE
  | .ret, h => match h with
    | .p x => x
    | _ => Xy
  | .exit id, h => match h with
    | .p x => x
    | _ => WF id
  | .seq a b, h => match h with
    | .p x => x
    | h => WS (comp P a h.l) (comp P b h.rt)
  | .cond y a b, h => match h with
    | .p x => x
    | h => OI P y (comp P a h.l) (comp P b h.rt)
  | .block id a, h => match h with
    | .p x => x
    | h => QB id (comp P a h.in1)
  | .region id ops dr, h => match h with
    | .p x => x
    | h => XN P ops h dr
  | .loop a, h => match h with
    | .p x => x
    | _ => Gu
  | .rangeFunc .., h => match h with
    | .p x => x
    | _ => Gu
  | .scope .., h => match h with
    | .p x => x
    | _ => Gu
  | .label .., h => match h with
    | .p x => x
    | _ => Gu
  | .goto .., h => match h with
    | .p x => x
    | _ => Gu
  | .refuse .., h => match h with
    | .p x => x
    | _ => Gu
def chk (c : Cx) : Code → HT → Bool
  | .seq a b, h => match h with
    | .p _ => true
    | h => chk c a h.l && chk c b h.rt
  | .cond _ a b, h => match h with
    | .p _ => true
    | h => chk c a h.l && chk c b h.rt
  | .block _ a, h => match h with
    | .p _ => true
    | h => chk c a h.in1
  | .region _ ops dr, h => match h with
    | .p _ => true
    | h => Xl c ops h dr
  | _, _ => true
def HTK (c : Cx) : Code → HT → Prop → Prop
  | .seq a b, h, K => match h with
    | .p x => Snd c x (.seq a b) ∧ K
    | .s x y => HTK c a x (HTK c b y K)
    | _ => K
  | .cond p a b, h, K => match h with
    | .p x => Snd c x (.cond p a b) ∧ K
    | .s x y => HTK c a x (HTK c b y K)
    | _ => K
  | .block id a, h, K => match h with
    | .p x => Snd c x (.block id a) ∧ K
    | .u x => HTK c a x K
    | _ => K
  | .region id ops dr, h, K => match h with
    | .p x => Snd c x (.region id ops dr) ∧ K
    | .r hs => HsK c ops.toList hs K
    | .d hs _ => HsK c ops.toList hs K
    | .z _ x => HsK c ops.toList x.hs K
    | _ => K
  | cd, h, K => match h with
    | .p x => Snd c x cd ∧ K
    | _ => K
theorem Tj {p : Operand} {y z : Ex} {cy cz : Code} (hy : Snd c y cy) (hz : Snd c z cz) : Snd c (OI c.P p y z) (.cond p cy cz) := by
  unfold OI
  split
  · rename_i x hx
    exact Ui (Hl hx).1 hy hz
  · exact xH
theorem Bc {K : Prop} : ∀ {cd : Code}, HTK c cd .a K = K := fun {cd} => by cases cd <;> rfl
theorem vN : ∀ (cd : Code) (h : HT) (K : Prop), chk c cd h = true → HTK c cd h K → Snd c (comp c.P cd h) cd ∧ K
  | .skip, h, K, hc, hk => by cases h <;> first | exact hk | exact ⟨Ug, hk⟩
  | .ret, h, K, hc, hk => by cases h <;> first | exact hk | exact ⟨VX, hk⟩
  | .exit id, h, K, hc, hk => by cases h <;> first | exact hk | exact ⟨Uh, hk⟩
  | .loop a, h, K, hc, hk => by cases h <;> first | exact hk | exact ⟨xH, hk⟩
  | .rangeFunc .., h, K, hc, hk => by cases h <;> first | exact hk | exact ⟨xH, hk⟩
  | .scope .., h, K, hc, hk => by cases h <;> first | exact hk | exact ⟨xH, hk⟩
  | .label .., h, K, hc, hk => by cases h <;> first | exact hk | exact ⟨xH, hk⟩
  | .goto .., h, K, hc, hk => by cases h <;> first | exact hk | exact ⟨xH, hk⟩
  | .refuse .., h, K, hc, hk => by cases h <;> first | exact hk | exact ⟨xH, hk⟩
  | .seq a b, h, K, hc, hk => by
    have gen : ∀ h : HT, (chk c a h.l && chk c b h.rt) = true → HTK c a h.l (HTK c b h.rt K) → Snd c (WS (comp c.P a h.l) (comp c.P b h.rt)) (.seq a b) ∧ K := fun h hc hk => by
      simp only [Bool.and_eq_true] at hc
      obtain ⟨h1, h2⟩ := vN a _ _ hc.1 hk
      obtain ⟨h3, h4⟩ := vN b _ _ hc.2 h2
      exact ⟨VY h1 h3, h4⟩
    cases h with
    | p x => exact hk
    | s x y => exact gen (.s x y) hc hk
    | a => exact gen .a hc (by simp only [HT.l, HT.rt, Bc]; exact hk)
    | r hs => exact gen (.r hs) hc (by simp only [HT.l, HT.rt, Bc]; exact hk)
    | d hs bs => exact gen (.d hs bs) hc (by simp only [HT.l, HT.rt, Bc]; exact hk)
    | u x => exact gen (.u x) hc (by simp only [HT.l, HT.rt, Bc]; exact hk)
    | z ts x => exact gen (.z ts x) hc (by simp only [HT.l, HT.rt, Bc]; exact hk)
  | .cond p a b, h, K, hc, hk => by
    have gen : ∀ h : HT, (chk c a h.l && chk c b h.rt) = true → HTK c a h.l (HTK c b h.rt K) → Snd c (OI c.P p (comp c.P a h.l) (comp c.P b h.rt)) (.cond p a b) ∧ K := fun h hc hk => by
      simp only [Bool.and_eq_true] at hc
      obtain ⟨h1, h2⟩ := vN a _ _ hc.1 hk
      obtain ⟨h3, h4⟩ := vN b _ _ hc.2 h2
      exact ⟨Tj h1 h3, h4⟩
    cases h with
    | p x => exact hk
    | s x y => exact gen (.s x y) hc hk
    | a => exact gen .a hc (by simp only [HT.l, HT.rt, Bc]; exact hk)
    | r hs => exact gen (.r hs) hc (by simp only [HT.l, HT.rt, Bc]; exact hk)
    | d hs bs => exact gen (.d hs bs) hc (by simp only [HT.l, HT.rt, Bc]; exact hk)
    | u x => exact gen (.u x) hc (by simp only [HT.l, HT.rt, Bc]; exact hk)
    | z ts x => exact gen (.z ts x) hc (by simp only [HT.l, HT.rt, Bc]; exact hk)
  | .block id a, h, K, hc, hk => by
    have gen : ∀ h : HT, chk c a h.in1 = true → HTK c a h.in1 K → Snd c (QB id (comp c.P a h.in1)) (.block id a) ∧ K := fun h hc hk => by
      obtain ⟨h1, h2⟩ := vN a _ _ hc hk
      exact ⟨Sq h1, h2⟩
    cases h with
    | p x => exact hk
    | u x => exact gen (.u x) hc hk
    | a => exact gen .a hc (by simp only [HT.in1, Bc]; exact hk)
    | r hs => exact gen (.r hs) hc (by simp only [HT.in1, Bc]; exact hk)
    | d hs bs => exact gen (.d hs bs) hc (by simp only [HT.in1, Bc]; exact hk)
    | s x y => exact gen (.s x y) hc (by simp only [HT.in1, Bc]; exact hk)
    | z ts x => exact gen (.z ts x) hc (by simp only [HT.in1, Bc]; exact hk)
  | .region id ops dr, h, K, hc, hk => by
    cases h with
    | p x => exact hk
    | r hs => exact D8 (h := .r hs) hc hk
    | d hs bs => exact D8 (h := .d hs bs) hc hk
    | a => exact D8 (h := .a) hc hk
    | s x y => exact D8 (h := .s x y) hc hk
    | u x => exact D8 (h := .u x) hc hk
    | z ts x => exact D8 (h := .z ts x) hc hk
theorem ai {a b : Prop} (x : a) (y : b) : a ∧ b := ⟨x, y⟩
theorem aP (m : List Nat) {x : Ex} {cd : Code} (hx : Snd c x cd) : Snd c (aA (m, none) x) cd := LV (fun _ h => by cases h) hx
theorem xZ (m : List Nat) {x : Ex} {cd : Code} (hx : Snd c x cd) : Snd c (aA (m, some c.nb) x) cd := LV (fun _ h => by cases h; rfl) hx
def xOf {V C O : Type} (d : St → Option (V × C)) (f : V → Option O) (k : V → O → C → (R : Type) → (AExit → St → Option R) → Option R) : Ex := fun s R K => match d s with
  | some (v, H) => (f v).bind fun o => k v o H R K
  | none => none
theorem dA {V C O : Type} {d : St → Option (V × C)} {t : V → C → St} {k : V → O → C → (R : Type) → (AExit → St → Option R) → Option R} {b : V → (R : Type) → (O → Option R) → Option R} {f : V → Option O}
    {m : AExit → List Nat × Option Nat} {cd : Code} (ht : HT) (hd : ∀ s v H, d s = some (v, H) → s = t v H)
    (heq : ∀ v H R K, Pg m (comp c.P cd ht) (t v H) R K = b v R fun o => k v o H R K) (hnat : ∀ v R R' K J, (b v R K).bind J = b v R' fun o => (K o).bind J) (hf : ∀ v, f v = b v O some)
    (hm : ∀ e n, (m e).2 = some n → n = c.nb) {Q : Prop} (hc : chk c cd ht = true) (hq : HTK c cd ht True = Q) (hk : Q) : Snd c (xOf d f k) cd :=
  Uj (x := Pg m (comp c.P cd ht)) (fun s R K r h => by
    unfold xOf at h
    split at h
    · rename_i v H hds
      rw [hd s v H hds, heq]
      rw [hf, hnat] at h
      exact h
    · cases h) (Py hm (vN cd ht True hc (hq.symm ▸ hk)).1)
theorem P9 {V C O : Type} {x : Ex} {t : V → C → St} {k : V → O → C → (R : Type) → (AExit → St → Option R) → Option R} {b : V → (R : Type) → (V → Option R) → (O → Option R) → Option R} {f : Nat → V → Option O}
    (heq : ∀ v H R K, x (t v H) R K = b v R (fun z => K .normal (t z H)) fun o => k v o H R K) (hnat : ∀ v R R' A K J, (b v R A K).bind J = b v R' (fun z => (A z).bind J) fun o => (K o).bind J)
    (h0 : ∀ v, f 0 v = none) (hs : ∀ m v, f (m + 1) v = b v O (f m) some)
    (hk : ∀ v o H (R : Type) (L : St → Option R) (K : AExit → St → Option R), k v o H R (fun e s => match e with | .normal => L s | e => K e s) = k v o H R K)
    (hi : ∀ v H (R : Type) (K : AExit → St → Option R) (F : V → (O → Option R) → Option R) G, b v R (fun z => F z fun o => k z o H R K) G = b v R (fun z => F z fun o => k v o H R K) G) :
    ∀ (n : Nat) (v : V) (H : C) (R : Type) (K : AExit → St → Option R), DY x n (t v H) R K = (f n v).bind fun o => k v o H R K
  | 0, v, H, R, K => by rw [h0]; rfl
  | n + 1, v, H, R, K => by
    have ih := P9 heq hnat h0 hs hk hi n
    rw [hs, hnat]
    simp only [DY]
    rw [heq]
    have h1 : (fun z => DY x n (t z H) R K) = fun z => (f n z).bind fun o => k z o H R K := funext fun z => ih z H R K
    have h2 : (fun o => k v o H R fun e s => match e with | .normal => DY x n s R K | e => K e s) = fun o => (some o).bind fun o => k v o H R K := funext fun o => hk v o H R (fun s => DY x n s R K) K
    refine (congrArg (fun A => b v R A _) h1).trans ((hi v H R K (fun z q => (f n z).bind q) _).trans ?_)
    exact congrArg (fun A => b v R _ A) h2
theorem Q5 {cd : Code} (n : Nat) (ht : HT) {Q : Prop} (hc : chk c cd ht = true) (hq : HTK c cd ht True = Q) (hh : Q) : Snd c (DY (comp c.P cd ht) n) (.loop cd) := Ps n (vN cd ht True hc (hq.symm ▸ hh)).1
theorem aH {V C O : Type} {d : St → Option (V × C)} {t : V → C → St} {k : V → O → C → (R : Type) → (AExit → St → Option R) → Option R} {b : V → (R : Type) → (V → Option R) → (O → Option R) → Option R} {f : Nat → V → Option O} {g : V → Option O}
    {m : AExit → List Nat × Option Nat} {cd : Code} (n : Nat) (ht : HT) (hd : ∀ s v H, d s = some (v, H) → s = t v H)
    (heq : ∀ v H R K, Pg m (comp c.P cd ht) (t v H) R K = b v R (fun z => K .normal (t z H)) fun o => k v o H R K) (hnat : ∀ v R R' A K J, (b v R A K).bind J = b v R' (fun z => (A z).bind J) fun o => (K o).bind J)
    (h0 : ∀ v, f 0 v = none) (hs : ∀ m v, f (m + 1) v = b v O (f m) some) (hg : ∀ v, g v = f n v)
    (hk : ∀ v o H (R : Type) (L : St → Option R) (K : AExit → St → Option R), k v o H R (fun e s => match e with | .normal => L s | e => K e s) = k v o H R K)
    (hi : ∀ v H (R : Type) (K : AExit → St → Option R) (F : V → (O → Option R) → Option R) G, b v R (fun z => F z fun o => k z o H R K) G = b v R (fun z => F z fun o => k v o H R K) G)
    (hm : ∀ e n, (m e).2 = some n → n = c.nb) {Q : Prop} (hc : chk c cd ht = true) (hq : HTK c cd ht True = Q) (hh : Q) : Snd c (xOf d g k) (.loop cd) :=
  Uj (x := DY (Pg m (comp c.P cd ht)) n) (fun s R K r h => by
    unfold xOf at h
    split at h
    · rename_i v H hds
      rw [hg] at h
      rw [hd s v H hds, P9 heq hnat h0 hs hk hi n v H R K]
      exact h
    · cases h) (Ps n (Py hm (vN cd ht True hc (hq.symm ▸ hh)).1))
def iQ {V O : Type} (d : List AV → List AObj → Option V) (f : V → Option O) (e : O → AV) (h : O → List AObj) : FSpec := fun vs hs R K => match d vs hs with
  | some v => (f v).bind fun o => K (e o) (h o)
  | none => none
theorem aG {P : Program} {i : FuncId} {fn : Func} {cd : Code} {nb nt : Nat} {V O : Type} {d : List AV → List AObj → Option V} {t : V → St} {f : V → Option O} {b : V → (R : Type) → (O → Option R) → Option R} {e : O → AV} {h : O → List AObj} (ht : HT) {rs : List RV} {n : Option Nat}
    (hf : P.funcs[i]? = some fn) (hn : (fn.name == "runtime.NumGoroutine") = false) (hb : fn.body = some cd) (hnt : fn.ntmps = nt) (hres : fn.results = (rs.map RV.var).toArray) (hnn : ∀ m, n = some m → m = nb) (hnd : (RV.slots rs).Nodup) (hrv : QR P rs = true)
    (hd : ∀ vs hs v, d vs hs = some v → vs.length ≤ nt ∧ hs.length = nb ∧ (⟨A7 0 vs, hs⟩ : St) = t v)
    (heq : ∀ v R K, comp P cd ht (t v) R (fun x s => TP rs n x s K) = b v R fun o => K (e o) (h o)) (hnat : ∀ v R R' K J, (b v R K).bind J = b v R' fun o => (K o).bind J) (hfb : ∀ v, f v = b v O some)
    {Q : Prop} (hc : chk ⟨P, nb, nt⟩ cd ht = true) (hq : HTK ⟨P, nb, nt⟩ cd ht True = Q) (hh : Q) : FSound P i (iQ d f e h) :=
  SI (ex := comp P cd ht) (n := n) hf hn hb hnt hres hnn hnd hrv (vN (c := ⟨P, nb, nt⟩) cd ht True hc (hq.symm ▸ hh)).1 fun args H R k r hr => by
    unfold iQ at hr
    split at hr
    · rename_i v hv
      obtain ⟨h1, h2, h3⟩ := hd _ _ _ hv
      refine ⟨h1, h2, ?_⟩
      rw [h3, heq]
      rw [hfb, hnat] at hr
      exact hr
    · cases hr
end Go.Sh
namespace Go.Sh
open Go.RowKit Go.Proofs Go.Shelf
set_option linter.unusedSimpArgs false
set_option linter.unusedVariables false
theorem U0 {g : Gh} {w : World} {id off : Nat} {v : Value} (h : VR g w (.ptr (some (id, off))) v) : ∃ b, v = .pointer (some ⟨b, off, none⟩) ∧ g.obj[id]? = some b := by simpa only [VR] using h
theorem Tk {g : Gh} {w : World} {o : AObj} {bs : List Nat} (h : ObjsR g w [o] bs) : ∃ b, bs = [b] ∧ ObjR g w b o := by
  simp only [ObjsR] at h
  obtain ⟨b, cs, rfl, h1, h2⟩ := h
  subst h2
  exact ⟨b, rfl, h1⟩
theorem zN {w : World} {b j : Nat} {arr : Array Value} {t : TypeId} {f : Nat × Nat} (v : Value) (hw : w.heap[b]? = some (.cells arr t f)) : (w.setCell ⟨b, j, none⟩ v).heap[b]? = some (.cells (arr.setIfInBounds j v) t f) := by
  simp [World.setCell, Array.getElem?_modify, hw]
theorem dK {w : World} {b j k : Nat} (v : Value) (h : k ≠ b) : (w.setCell ⟨b, j, none⟩ v).heap[k]? = w.heap[k]? := by
  simp [World.setCell, Array.getElem?_modify, Ne.symm h]
structure WritesS (P : Program) (f : FuncId) (t ts tx : TypeId) : Prop where
  enters : ∀ (args : Array Value) (w : World), (callFunc f args).run P w = .ok (.enter f args) w
  slice : P.underlying ts = some (.slice Ni)
  str : P.underlying tx = some .string
  info : (P.info? Ni).map (fun i => (i.zero, i.size, i.bytes)) = some (some (.int .u8 0), 1, 1)
  walk : ∀ (b : Nat) (x : Value) (ao ao' : Option Addr) (n n' c c' : Nat) (s : ByteArray) (w w1 w2 : World), w.heap[b]? = some (.cells #[x, .slice ao n c] t (0, 0)) → (w1 = w.setCell ⟨b, 0, none⟩ (.pointer (some ⟨b, 0, none⟩)) ∧ x = .pointer none ∨ w1 = w ∧ x = .pointer (some ⟨b, 0, none⟩)) → w1.heap[b]? = some (.cells #[.pointer (some ⟨b, 0, none⟩), .slice ao n c] t (0, 0)) →
    (Builtin.append_ #[ts, tx] ts #[.slice ao n c, .string s]).run P w1 = .ok (.slice ao' n' c') w2 → w2.heap[b]? = some (.cells #[.pointer (some ⟨b, 0, none⟩), .slice ao n c] t (0, 0)) →
    Calls P f #[.pointer (some ⟨b, 0, none⟩), .string s] w fun e w' => e = .returned (.tuple #[.int .i64 s.size, .nilIface]) ∧ w' = w2.setCell ⟨b, 1, none⟩ (.slice ao' n' c')
def Ws (c : Int) : Obj := .cells #[.int .u8 c] Ni (0, 0)
structure WritesB (P : Program) (f : FuncId) (t ts : TypeId) : Prop where
  enters : ∀ (args : Array Value) (w : World), (callFunc f args).run P w = .ok (.enter f args) w
  slice : P.underlying ts = some (.slice Ni)
  info : (P.info? Ni).map (fun i => (i.zero, i.size, i.bytes)) = some (some (.int .u8 0), 1, 1)
  walk : ∀ (b : Nat) (x : Value) (ao ao' : Option Addr) (n n' c c' : Nat) (y : Int) (w w1 w2 : World), w.heap[b]? = some (.cells #[x, .slice ao n c] t (0, 0)) → (w1 = w.setCell ⟨b, 0, none⟩ (.pointer (some ⟨b, 0, none⟩)) ∧ x = .pointer none ∨ w1 = w ∧ x = .pointer (some ⟨b, 0, none⟩)) → w1.heap[b]? = some (.cells #[.pointer (some ⟨b, 0, none⟩), .slice ao n c] t (0, 0)) →
    (Builtin.append_ #[ts, ts] ts #[.slice ao n c, .slice (some ⟨w1.heap.size, 0, none⟩) 1 1]).run P (w1.alloc (Ws y)) = .ok (.slice ao' n' c') w2 → w2.heap[b]? = some (.cells #[.pointer (some ⟨b, 0, none⟩), .slice ao n c] t (0, 0)) →
    Calls P f #[.pointer (some ⟨b, 0, none⟩), .int .u8 y] w fun e w' => e = .returned .nilIface ∧ w' = w2.setCell ⟨b, 1, none⟩ (.slice ao' n' c')
theorem wpList_append_run {P : Program} {ops : Array Oper} {rest : List Oper} {o : Oper} {a : Act} {w w' : World} {Q : Exit → Act → World → Prop} (hgd : o.guard = none) (sl x : Operand) (t u : TypeId)
    (ho : o.op = .call { callee := .builtin .append, args := #[sl, x], argTypes := #[t, u] }) (v y v' : Value) (hs : a.eval sl = v) (hx : a.eval x = y) (hr : (Builtin.append_ #[t, u] o.type #[v, y]).run P w = .ok v' w') (h : wpList P ops Q rest (a.put o.dst v') w') : wpList P ops Q (o :: rest) a w := by
  refine wpList_plain hgd fun K hK => ?_
  unfold Oper.wp execOp
  simp only [ho, resolve, invoke, builtin, Sem.run_bind, Sem.run_pure, Result.andThen_ok, List.map_toArray, List.map_cons, List.map_nil, hs, hx, hr]
  exact hK _ _ h
end Go.Sh
namespace Go.Sh
open Go.RowKit
set_option linter.unusedSimpArgs false
set_option linter.unusedVariables false
end Go.Sh
namespace Go.Proofs
def Tryd.OJ : Go.Shelf.Ren := ⟨fun | 183 => 31 | n => n, fun | 130 => 95 | 37 => 37 | 0 => 0 | 93 => 66 | 3 => 3 | 5 => 5 | 91 => 64 | n => n, fun | n => n⟩
theorem Tryd.U1 : Go.Proofs.LaysM.n183 Tryd.prog Tryd.OJ := {
  mixed := by kernel_rfl
  f183 := Tryd.func31.trans (congrArg some (by kernel_rfl))
  t0 := Tryd.underlying0
  a0 := Tryd.isAgg0
  z0 := Tryd.sizeOf0
  v0 := Tryd.zeroValue0
  t3 := Tryd.underlying3
  a3 := Tryd.isAgg3
  z3 := Tryd.sizeOf3
  v3 := Tryd.zeroValue3
  t37 := Tryd.underlying37
  a37 := Tryd.isAgg37
  z37 := Tryd.sizeOf37
  v37 := Tryd.zeroValue37
  t93 := Tryd.underlying66
  a93 := Tryd.isAgg66
  z93 := Tryd.sizeOf66
  v93 := Tryd.zeroValue66
  t130 := Tryd.underlying95
  a130 := Tryd.isAgg95
  z130 := Tryd.sizeOf95
  v130 := Tryd.zeroValue95
  t5 := Tryd.underlying5
  a5 := Tryd.isAgg5
  z5 := Tryd.sizeOf5
  v5 := Tryd.zeroValue5
  t91 := Tryd.underlying64
  a91 := Tryd.isAgg64
  z91 := Tryd.sizeOf64
  v91 := Tryd.zeroValue64
  i0 := by kernel_rfl
  i3 := by kernel_rfl
  i5 := by kernel_rfl
  i37 := by kernel_rfl
  i91 := by kernel_rfl
  i93 := by kernel_rfl
  i130 := by kernel_rfl }
def Tryd.OL : Go.Shelf.Ren := ⟨fun | 179 => 42 | 251 => 43 | 252 => 44 | 181 => 54 | 184 => 55 | 290 => 56 | 324 => 68 | n => n, fun | 130 => 95 | 5 => 5 | 75 => 73 | 0 => 0 | 93 => 66 | 91 => 64 | 3 => 3 | 131 => 96 | 4 => 4 | 37 => 37 | 20 => 20 | 80 => 133 | 9 => 9 | n => n, fun | 14 => 0 | n => n⟩
theorem Tryd.U2 : Go.Proofs.LaysM.n179 Tryd.prog Tryd.OL := {
  mixed := by kernel_rfl
  f179 := Tryd.func42.trans (congrArg some (by kernel_rfl))
  f181 := Tryd.func54.trans (congrArg some (by kernel_rfl))
  f184 := Tryd.func55.trans (congrArg some (by kernel_rfl))
  f251 := Tryd.func43.trans (congrArg some (by kernel_rfl))
  f252 := Tryd.func44.trans (congrArg some (by kernel_rfl))
  f290 := Tryd.func56.trans (congrArg some (by kernel_rfl))
  f324 := Tryd.func68.trans (congrArg some (by kernel_rfl))
  t0 := Tryd.underlying0
  a0 := Tryd.isAgg0
  z0 := Tryd.sizeOf0
  v0 := Tryd.zeroValue0
  t3 := Tryd.underlying3
  a3 := Tryd.isAgg3
  z3 := Tryd.sizeOf3
  v3 := Tryd.zeroValue3
  t4 := Tryd.underlying4
  a4 := Tryd.isAgg4
  z4 := Tryd.sizeOf4
  v4 := Tryd.zeroValue4
  t5 := Tryd.underlying5
  a5 := Tryd.isAgg5
  z5 := Tryd.sizeOf5
  v5 := Tryd.zeroValue5
  t20 := Tryd.underlying20
  a20 := Tryd.isAgg20
  z20 := Tryd.sizeOf20
  v20 := Tryd.zeroValue20
  t37 := Tryd.underlying37
  a37 := Tryd.isAgg37
  z37 := Tryd.sizeOf37
  v37 := Tryd.zeroValue37
  t75 := Tryd.underlying73
  a75 := Tryd.isAgg73
  z75 := Tryd.sizeOf73
  v75 := Tryd.zeroValue73
  t91 := Tryd.underlying64
  a91 := Tryd.isAgg64
  z91 := Tryd.sizeOf64
  v91 := Tryd.zeroValue64
  t93 := Tryd.underlying66
  a93 := Tryd.isAgg66
  z93 := Tryd.sizeOf66
  v93 := Tryd.zeroValue66
  t130 := Tryd.underlying95
  a130 := Tryd.isAgg95
  z130 := Tryd.sizeOf95
  v130 := Tryd.zeroValue95
  t131 := Tryd.underlying96
  a131 := Tryd.isAgg96
  z131 := Tryd.sizeOf96
  v131 := Tryd.zeroValue96
  g14 := by kernel_rfl
  t9 := Tryd.underlying9
  a9 := Tryd.isAgg9
  z9 := Tryd.sizeOf9
  v9 := Tryd.zeroValue9
  t80 := Tryd.underlying133
  a80 := Tryd.isAgg133
  z80 := Tryd.sizeOf133
  v80 := Tryd.zeroValue133
  i0 := by kernel_rfl
  i3 := by kernel_rfl
  i4 := by kernel_rfl
  i5 := by kernel_rfl
  i9 := by kernel_rfl
  i20 := by kernel_rfl
  i37 := by kernel_rfl
  i75 := by kernel_rfl
  i80 := by kernel_rfl
  i91 := by kernel_rfl
  i93 := by kernel_rfl
  i130 := by kernel_rfl
  i131 := by kernel_rfl
  m14 := by kernel_rfl }
def Tryd.OM : Go.Shelf.Ren := ⟨fun | 178 => 30 | 251 => 43 | 252 => 44 | 181 => 54 | 184 => 55 | 290 => 56 | 324 => 68 | n => n, fun | 130 => 95 | 9 => 9 | 3 => 3 | 75 => 73 | 0 => 0 | 93 => 66 | 91 => 64 | 131 => 96 | 4 => 4 | 37 => 37 | 20 => 20 | 80 => 133 | 5 => 5 | n => n, fun | 14 => 0 | n => n⟩
theorem Tryd.U3 : Go.Proofs.LaysM.n178 Tryd.prog Tryd.OM := {
  mixed := by kernel_rfl
  f178 := Tryd.func30.trans (congrArg some (by kernel_rfl))
  f181 := Tryd.func54.trans (congrArg some (by kernel_rfl))
  f184 := Tryd.func55.trans (congrArg some (by kernel_rfl))
  f251 := Tryd.func43.trans (congrArg some (by kernel_rfl))
  f252 := Tryd.func44.trans (congrArg some (by kernel_rfl))
  f290 := Tryd.func56.trans (congrArg some (by kernel_rfl))
  f324 := Tryd.func68.trans (congrArg some (by kernel_rfl))
  t0 := Tryd.underlying0
  a0 := Tryd.isAgg0
  z0 := Tryd.sizeOf0
  v0 := Tryd.zeroValue0
  t3 := Tryd.underlying3
  a3 := Tryd.isAgg3
  z3 := Tryd.sizeOf3
  v3 := Tryd.zeroValue3
  t4 := Tryd.underlying4
  a4 := Tryd.isAgg4
  z4 := Tryd.sizeOf4
  v4 := Tryd.zeroValue4
  t9 := Tryd.underlying9
  a9 := Tryd.isAgg9
  z9 := Tryd.sizeOf9
  v9 := Tryd.zeroValue9
  t20 := Tryd.underlying20
  a20 := Tryd.isAgg20
  z20 := Tryd.sizeOf20
  v20 := Tryd.zeroValue20
  t37 := Tryd.underlying37
  a37 := Tryd.isAgg37
  z37 := Tryd.sizeOf37
  v37 := Tryd.zeroValue37
  t75 := Tryd.underlying73
  a75 := Tryd.isAgg73
  z75 := Tryd.sizeOf73
  v75 := Tryd.zeroValue73
  t91 := Tryd.underlying64
  a91 := Tryd.isAgg64
  z91 := Tryd.sizeOf64
  v91 := Tryd.zeroValue64
  t93 := Tryd.underlying66
  a93 := Tryd.isAgg66
  z93 := Tryd.sizeOf66
  v93 := Tryd.zeroValue66
  t130 := Tryd.underlying95
  a130 := Tryd.isAgg95
  z130 := Tryd.sizeOf95
  v130 := Tryd.zeroValue95
  t131 := Tryd.underlying96
  a131 := Tryd.isAgg96
  z131 := Tryd.sizeOf96
  v131 := Tryd.zeroValue96
  g14 := by kernel_rfl
  t5 := Tryd.underlying5
  a5 := Tryd.isAgg5
  z5 := Tryd.sizeOf5
  v5 := Tryd.zeroValue5
  t80 := Tryd.underlying133
  a80 := Tryd.isAgg133
  z80 := Tryd.sizeOf133
  v80 := Tryd.zeroValue133
  i0 := by kernel_rfl
  i3 := by kernel_rfl
  i4 := by kernel_rfl
  i5 := by kernel_rfl
  i9 := by kernel_rfl
  i20 := by kernel_rfl
  i37 := by kernel_rfl
  i75 := by kernel_rfl
  i80 := by kernel_rfl
  i91 := by kernel_rfl
  i93 := by kernel_rfl
  i130 := by kernel_rfl
  i131 := by kernel_rfl
  m14 := by kernel_rfl }
def Tryd.OO : Go.Shelf.Ren := ⟨fun | 180 => 27 | 251 => 43 | 252 => 44 | 181 => 54 | 184 => 55 | 290 => 56 | 324 => 68 | n => n, fun | 130 => 95 | 37 => 37 | 3 => 3 | 75 => 73 | 0 => 0 | 93 => 66 | 91 => 64 | 131 => 96 | 4 => 4 | 20 => 20 | 5 => 5 | 80 => 133 | 9 => 9 | n => n, fun | 14 => 0 | n => n⟩
theorem Tryd.U4 : Go.Proofs.LaysM.n180 Tryd.prog Tryd.OO := {
  mixed := by kernel_rfl
  f180 := Tryd.func27.trans (congrArg some (by kernel_rfl))
  f181 := Tryd.func54.trans (congrArg some (by kernel_rfl))
  f184 := Tryd.func55.trans (congrArg some (by kernel_rfl))
  f251 := Tryd.func43.trans (congrArg some (by kernel_rfl))
  f252 := Tryd.func44.trans (congrArg some (by kernel_rfl))
  f290 := Tryd.func56.trans (congrArg some (by kernel_rfl))
  f324 := Tryd.func68.trans (congrArg some (by kernel_rfl))
  t0 := Tryd.underlying0
  a0 := Tryd.isAgg0
  z0 := Tryd.sizeOf0
  v0 := Tryd.zeroValue0
  t3 := Tryd.underlying3
  a3 := Tryd.isAgg3
  z3 := Tryd.sizeOf3
  v3 := Tryd.zeroValue3
  t4 := Tryd.underlying4
  a4 := Tryd.isAgg4
  z4 := Tryd.sizeOf4
  v4 := Tryd.zeroValue4
  t20 := Tryd.underlying20
  a20 := Tryd.isAgg20
  z20 := Tryd.sizeOf20
  v20 := Tryd.zeroValue20
  t37 := Tryd.underlying37
  a37 := Tryd.isAgg37
  z37 := Tryd.sizeOf37
  v37 := Tryd.zeroValue37
  t75 := Tryd.underlying73
  a75 := Tryd.isAgg73
  z75 := Tryd.sizeOf73
  v75 := Tryd.zeroValue73
  t91 := Tryd.underlying64
  a91 := Tryd.isAgg64
  z91 := Tryd.sizeOf64
  v91 := Tryd.zeroValue64
  t93 := Tryd.underlying66
  a93 := Tryd.isAgg66
  z93 := Tryd.sizeOf66
  v93 := Tryd.zeroValue66
  t130 := Tryd.underlying95
  a130 := Tryd.isAgg95
  z130 := Tryd.sizeOf95
  v130 := Tryd.zeroValue95
  t131 := Tryd.underlying96
  a131 := Tryd.isAgg96
  z131 := Tryd.sizeOf96
  v131 := Tryd.zeroValue96
  g14 := by kernel_rfl
  t5 := Tryd.underlying5
  a5 := Tryd.isAgg5
  z5 := Tryd.sizeOf5
  v5 := Tryd.zeroValue5
  t9 := Tryd.underlying9
  a9 := Tryd.isAgg9
  z9 := Tryd.sizeOf9
  v9 := Tryd.zeroValue9
  t80 := Tryd.underlying133
  a80 := Tryd.isAgg133
  z80 := Tryd.sizeOf133
  v80 := Tryd.zeroValue133
  i0 := by kernel_rfl
  i3 := by kernel_rfl
  i4 := by kernel_rfl
  i5 := by kernel_rfl
  i9 := by kernel_rfl
  i20 := by kernel_rfl
  i37 := by kernel_rfl
  i75 := by kernel_rfl
  i80 := by kernel_rfl
  i91 := by kernel_rfl
  i93 := by kernel_rfl
  i130 := by kernel_rfl
  i131 := by kernel_rfl
  m14 := by kernel_rfl }
def Tryd.OP : Go.Shelf.Ren := ⟨fun | 4 => 64 | 5 => 70 | 6 => 71 | 7 => 72 | 8 => 73 | 9 => 74 | 10 => 75 | 11 => 76 | 12 => 77 | n => n, fun | 22 => 37 | 4 => 4 | 3 => 3 | 0 => 0 | 5 => 5 | 29 => 51 | 9 => 9 | 31 => 130 | 30 => 27 | n => n, fun | 0 => 1 | n => n⟩
theorem Tryd.U5 : Go.Proofs.SlLaysT.n4 Tryd.prog Tryd.OP := {
  mixed := by kernel_rfl
  f4 := Tryd.func64.trans (congrArg some (by kernel_rfl))
  f5 := Tryd.func70.trans (congrArg some (by kernel_rfl))
  f6 := Tryd.func71.trans (congrArg some (by kernel_rfl))
  f7 := Tryd.func72.trans (congrArg some (by kernel_rfl))
  f8 := Tryd.func73.trans (congrArg some (by kernel_rfl))
  f9 := Tryd.func74.trans (congrArg some (by kernel_rfl))
  f10 := Tryd.func75.trans (congrArg some (by kernel_rfl))
  f11 := Tryd.func76.trans (congrArg some (by kernel_rfl))
  f12 := Tryd.func77.trans (congrArg some (by kernel_rfl))
  t0 := Tryd.underlying0
  a0 := Tryd.isAgg0
  z0 := Tryd.sizeOf0
  v0 := Tryd.zeroValue0
  t3 := Tryd.underlying3
  a3 := Tryd.isAgg3
  z3 := Tryd.sizeOf3
  v3 := Tryd.zeroValue3
  t4 := Tryd.underlying4
  a4 := Tryd.isAgg4
  z4 := Tryd.sizeOf4
  v4 := Tryd.zeroValue4
  t5 := Tryd.underlying5
  a5 := Tryd.isAgg5
  z5 := Tryd.sizeOf5
  v5 := Tryd.zeroValue5
  t9 := Tryd.underlying9
  a9 := Tryd.isAgg9
  z9 := Tryd.sizeOf9
  v9 := Tryd.zeroValue9
  t22 := Tryd.underlying37
  a22 := Tryd.isAgg37
  z22 := Tryd.sizeOf37
  v22 := Tryd.zeroValue37
  t29 := Tryd.underlying51
  a29 := Tryd.isAgg51
  z29 := Tryd.sizeOf51
  v29 := Tryd.zeroValue51
  t30 := Tryd.underlying27
  a30 := Tryd.isAgg27
  z30 := Tryd.sizeOf27
  v30 := Tryd.zeroValue27
  t31 := Tryd.underlying130
  a31 := Tryd.isAgg130
  z31 := Tryd.sizeOf130
  v31 := Tryd.zeroValue130
  g0 := by kernel_rfl }
theorem Tryd.bytes_Cut_all (p1 p2 : Option Addr) (n c1 k c2 : Nat) (xs ys : List Int) (m : Int) (w : World) (hx : xs.length = n) (hy : ys.length = k) (hr1 : ∀ x ∈ xs, 0 ≤ x ∧ x < 256) (hr2 : ∀ y ∈ ys, 0 ≤ y ∧ y < 256) (h1 : Lib.BytesIn w p1 n xs) (h2 : Lib.BytesIn w p2 k ys) (hp1 : p1 = none → c1 = 0) (hcap : n ≤ c1) (hs : n < 4294967281) (hk : k ≤ 9223372036854775807) (hm : w.cell? ⟨1, 0, none⟩ = some (.int .i64 m)) :
    Calls Tryd.prog 64 #[.slice p1 n c1, .slice p2 k c2] w fun e w' => e = .returned (Lib.cutV p1 n c1 k (Lib.index (Lib.bytesOf xs) (Lib.bytesOf ys))) ∧ ∃ q, w' = w.drewN q := Any.bytes_Cut_all Tryd.U5 p1 p2 n c1 k c2 xs ys m w hx hy hr1 hr2 h1 h2 hp1 hcap hs hk hm
end Go.Proofs
namespace Go.Sh
open Go.RowKit Go.Proofs Go.Shelf
set_option linter.unusedSimpArgs false
set_option linter.unusedVariables false
def MX (xs ys : List Int) : Int := Lib.index (Lib.bytesOf xs) (Lib.bytesOf ys)
def EW (xs ys : List Int) : List Int × List Int × Bool := cond (decide (0 ≤ MX xs ys)) (xs.take (MX xs ys).toNat, xs.drop ((MX xs ys).toNat + ys.length), true) (xs, [], false)
def IQ (xs : List Int) : Bool := xs.all fun x => decide (0 ≤ x) && decide (x < 256)
theorem NP {xs : List Int} (h : IQ xs = true) : ∀ x ∈ xs, 0 ≤ x ∧ x < 256 := fun x hx => by
  have := List.all_eq_true.1 h x hx
  simpa using this
def Gv (n : Nat) (a0 a1 : List Int) : Option (List Int × List Int × Bool) := cond (IQ a0 && IQ a1 && decide (a0.length < 4294967281) && decide (a1.length ≤ 9223372036854775807)) (some (EW a0 a1)) none
def OQ (n : Nat) : FSpec := fun vs hs R K => match vs with
  | [.ints _ .u8 a0, .ints _ .u8 a1] => (Gv n a0 a1).bind fun o => K (.tuple [.ints false .u8 o.1, .ints false .u8 o.2.1, .bool o.2.2]) hs
  | _ => none
theorem Row.RJ {g : Gh} {w : World} {own : Bool} {a : Option Addr} {n c : Nat} {xs : List Int} (h : Row g w own a n c 1 (xs.map (Value.int .u8))) (hn : xs.length = n) : Lib.BytesIn w a n xs := fun hp => by
  obtain ⟨⟨b, o, sp⟩, rfl, hr⟩ := h.2.2.2.1 (by simp; omega)
  have := hr.1
  simp only at this
  subst this
  refine ⟨b, o, rfl, fun i hi => ?_⟩
  have h2 := hr.2.2 i (by simp; omega)
  simp only at h2
  rw [h2, List.getElem?_map]
  simp [List.getD, hn, hi]
theorem Q6 {P : Program} {f : FuncId} (n0 : Nat) (he : ∀ (args : Array Value) (w : World), (callFunc f args).run P w = .ok (.enter f args) w)
    (hc : ∀ (p1 p2 : Option Addr) (n c1 k c2 : Nat) (xs ys : List Int) (w : World), (∃ bs : Array Obj, Good bs ∧ ∀ b, b < bs.size → w.heap[b]? = bs[b]?) → xs.length = n → ys.length = k → (∀ x ∈ xs, 0 ≤ x ∧ x < 256) → (∀ y ∈ ys, 0 ≤ y ∧ y < 256) → Lib.BytesIn w p1 n xs → Lib.BytesIn w p2 k ys → (p1 = none → c1 = 0) → n ≤ c1 → n < 4294967281 → k ≤ 9223372036854775807 →
      Calls P f #[.slice p1 n c1, .slice p2 k c2] w fun e w' => e = .returned (Lib.cutV p1 n c1 k (Lib.index (Lib.bytesOf xs) (Lib.bytesOf ys))) ∧ ∃ q, w' = w.drewN q) : FSound P f (OQ n0) := by
  refine ⟨he, fun args H R k r h => ?_⟩
  unfold OQ at h
  split at h
  case h_2 => cases h
  rename_i o1 xs o2 ys
  obtain ⟨o, h1, h2⟩ := Option.bind_eq_some_iff.1 h
  unfold Gv at h1
  obtain ⟨h3, h4⟩ | ⟨_, h4⟩ := af h1
  case inr => cases h4
  injection h4 with h4
  subst h4
  simp only [Bool.and_eq_true, decide_eq_true_eq] at h3
  obtain ⟨⟨⟨q1, q2⟩, q3⟩, q4⟩ := h3
  refine ⟨_, _, h2, fun F g vs w hvs hcore => ?_⟩
  obtain ⟨v0, _, rfl, hv0, hv⟩ := Bb hvs
  obtain ⟨v1, _, rfl, hv1, hv⟩ := Bb hv
  obtain rfl := Jm hv
  simp only [VR] at hv0 hv1
  obtain ⟨a1, n1, c1, rfl, r1⟩ := hv0
  obtain ⟨a2, n2, c2, rfl, r2⟩ := hv1
  have e1 : xs.length = n1 := by have := r1.1; simp at this; omega
  have e2 : ys.length = n2 := by have := r2.1; simp at this; omega
  obtain ⟨bs, hb1, hb2⟩ := hcore.good
  refine (hc a1 a2 n1 c1 n2 c2 xs ys w ⟨bs, hb1, fun b hb => (hb2 b hb).2⟩ e1 e2 (NP q1) (NP q2) (r1.RJ e1) (r2.RJ e2) (fun h => (r1.2.2.2.2.2.1 h).2) r1.2.1 (by omega) (by omega)).mono ?_
  rintro e w' ⟨rfl, q, rfl⟩
  obtain ⟨k1, k2, k3⟩ := (hcore.weaken (os' := []) (fun r hr => by cases hr) (fun b => by simp [l7])).below (w' := w.drewN q) ⟨rfl, rfl, rfl, Nat.le_refl _, fun _ _ => rfl⟩
  have hI : Lib.index (Lib.bytesOf xs) (Lib.bytesOf ys) = MX xs ys := rfl
  rw [hI]
  have fin : ∀ (v : Value), VR g (w.drewN q) (.tuple [.ints false .u8 (EW xs ys).1, .ints false .u8 (EW xs ys).2.1, .bool (EW xs ys).2.2]) v → owns (.tuple [.ints false .u8 (EW xs ys).1, .ints false .u8 (EW xs ys).2.1, .bool (EW xs ys).2.2]) v = [] → ∃ v' g', Ending.returned v = .returned v' ∧ VR g' (w.drewN q) (.tuple [.ints false .u8 (EW xs ys).1, .ints false .u8 (EW xs ys).2.1, .bool (EW xs ys).2.2]) v' ∧ g.obj <+: g'.obj ∧ Core F g' H (owns (.tuple [.ints false .u8 (EW xs ys).1, .ints false .u8 (EW xs ys).2.1, .bool (EW xs ys).2.2]) v') (w.drewN q) ∧ Step F g w g' (w.drewN q) := fun v hv ho =>
    ⟨v, g, rfl, hv, List.prefix_refl _, by rw [ho]; exact k3, k2⟩
  have r1' : Row g (w.drewN q) o1 a1 n1 c1 1 (xs.map (Value.int .u8)) := r1.ext k1
  by_cases h0 : 0 ≤ MX xs ys
  · have hroom := Lib.index_room (Lib.bytesOf xs) (Lib.bytesOf ys) h0
    have l1 : (Lib.bytesOf xs).length = n1 := by simp [Lib.bytesOf, e1]
    have l2 : (Lib.bytesOf ys).length = n2 := by simp [Lib.bytesOf, e2]
    rw [l1, l2, hI] at hroom
    obtain ⟨i, hi⟩ : ∃ i : Nat, MX xs ys = i := ⟨_, (Int.toNat_of_nonneg h0).symm⟩
    have hcb : EW xs ys = (xs.take i, xs.drop (i + ys.length), true) := by unfold EW; rw [decide_eq_true h0, hi]; rfl
    rw [hcb] at fin ⊢
    unfold Lib.cutV
    rw [if_pos h0, hi, Int.toNat_natCast]
    rw [hi] at hroom
    refine fin _ ?_ ?_
    · simp only [VR]
      refine ⟨_, rfl, ?_⟩
      simp only [VRs, VR]
      refine ⟨_, _, rfl, ⟨a1, i, c1, rfl, ?_⟩, _, _, rfl, ⟨_, _, _, rfl, ?_⟩, _, _, rfl, rfl, rfl⟩
      · have := r1'.cut (a := 0) (b := i) (Nat.zero_le _) (by omega)
        simp only [Nat.zero_mul, List.drop_zero, Nat.mul_one, ← List.map_take] at this
        refine ⟨this.1, by have := r1.2.1; omega, Nat.zero_le _, fun hp => ?_, fun h => (by cases h), fun h => ?_, this.2.2.2.2.2.2⟩
        · obtain ⟨ad, e5, e6⟩ := r1'.2.2.2.1 (by simp at hp ⊢; omega)
          refine ⟨ad, e5, e6.1, ?_, fun j hj => ?_⟩
          · have := e6.2.1; simp at this ⊢; omega
          · rw [e6.2.2 j (by simp at hj ⊢; omega), List.map_take, List.getElem?_take, if_pos (by simp at hj; omega)]
        · have := r1.2.2.2.2.2.1 h; omega
      · have := r1'.cut (a := i + n2) (b := n1) (by omega) (Nat.le_refl _)
        simp only [Nat.mul_one] at this
        rw [List.take_of_length_le (by simp; omega), ← List.map_drop] at this
        rw [e2]
        exact this
    · rfl
  · have hcb : EW xs ys = (xs, [], false) := by unfold EW; rw [decide_eq_false h0]; rfl
    rw [hcb] at fin ⊢
    unfold Lib.cutV
    rw [if_neg h0]
    refine fin _ ?_ ?_
    · simp only [VR]
      refine ⟨_, rfl, ?_⟩
      simp only [VRs, VR]
      exact ⟨_, _, rfl, ⟨a1, n1, c1, rfl, r1'.1, r1'.2.1, r1'.2.2.1, r1'.2.2.2.1, fun h => (by cases h), r1'.2.2.2.2.2⟩, _, _, rfl, ⟨_, _, _, rfl, zL _ _ _ _⟩, _, _, rfl, rfl, rfl⟩
    · rfl
end Go.Sh
namespace Go.Sh
open Go.RowKit Go.Proofs Go.Shelf
set_option linter.unusedSimpArgs false
set_option linter.unusedVariables false
variable {P : Program} {ρ : Ren}
theorem Ml {W : World} {g l : Nat} {cur : Array Value} {t : TypeId} {fz : Nat × Nat} (h : W.heap[g]? = some (.cells cur t fz)) : ∀ j v, (cur.toList.take l)[j]? = some v → W.cell? ((⟨g, 0, none⟩ : Addr).add j) = some v := fun j v hj => by
  rw [uH _ rfl]
  simp only [Nat.zero_add, World.cell?, h]
  rw [List.getElem?_take] at hj
  split at hj
  · simpa using hj
  · cases hj
set_option maxHeartbeats 6400000 in
set_option maxRecDepth 100000 in
theorem Qa (L : LaysM.n290 P ρ) (g l c n : Nat) (cur : Array Value) (t : TypeId) (fz : Nat × Nat) (w : World) (hg : w.heap[g]? = some (.cells cur t fz)) (hcs : c ≤ cur.size) (hlc : l ≤ c) (hn : 1 ≤ n) (hlim : l + n ≤ 140737488355328) (hc2 : c ≤ 140737488355328) (h1 : ∀ v ∈ cur.toList.take l, v.oneCell' = true) :
    Calls P (ρ.f 290) #[.slice (some ⟨g, 0, none⟩) l c, .int .i64 n] w fun e w' => ∃ cap2 cells, e = .returned (.slice (some ⟨w.heap.size, 0, none⟩) l cap2) ∧ w'.heap[w.heap.size]? = some (.cells cells (ρ.t 5) (0, 0)) ∧
      cells.size = cap2 ∧ cells.toList.take l = cur.toList.take l ∧ l + n ≤ cap2 ∧ cap2 ≤ maxLen ∧ Below w.heap.size w w' := by
  have mixed := L.mixed
  have t5 := L.t5; have a5 := L.a5; have z5 := L.z5; have v5 := L.v5
  have t37 := L.t37; have a37 := L.a37; have z37 := L.z37; have v37 := L.v37
  have t3 := L.t3; have a3 := L.a3; have z3 := L.z3; have v3 := L.v3
  have t0 := L.t0; have a0 := L.a0; have z0 := L.z0; have v0 := L.v0
  have t4 := L.t4; have a4 := L.a4; have z4 := L.z4; have v4 := L.v4
  obtain ⟨i0, hi, hz0, hz1, hz2⟩ := info_parts L.i5
  have hsz1 : (P.info? (ρ.t 5)).map (·.size) = some 1 := by rw [hi]; simp [hz1]
  have hgl := (Array.getElem?_eq_some_iff.1 hg).1
  have hxl : (cur.toList.take l).length = l := by rw [List.length_take, Array.length_toList]; omega
  by_cases hC : l + n < 2 * c
  · have happ := Lib.run_append_nil_zeros (P := P) w (ρ.t 37) (ρ.t 3) (ρ.t 37) (ρ.t 5) i0 (.int .u8 0) .i64 .i64 L.t37 L.t3 hi hz0 (2 * c) (by omega) (by omega) (by omega) (by rw [hz2]; omega)
    rw [show (((2 * c : Nat)) : Int) = 2 * (c : Int) by omega] at happ
    generalize hcap : grownCap w (2 * c) 0 (ρ.t 5) = cap2 at happ
    have hge : 2 * c ≤ cap2 := by rw [← hcap]; exact grownCap_ge w _ 0 (ρ.t 5)
    have hle : cap2 ≤ maxLen := by rw [← hcap]; exact grownCap_le_maxLen w _ 0 (ρ.t 5) (by unfold maxLen; omega)
    generalize hZ : (Builtin.zeroCells (Value.int .u8 0).cells (2 * c) ++ Builtin.zeroCells (Value.int .u8 0).cells (cap2 - (2 * c))) = Z at happ
    have hZs : Z.size = cap2 := by rw [← hZ]; simp [size_zeroCells, Value.cells]; omega
    clear hcap hZ
    have hg1 : (w.alloc (.cells Z (ρ.t 5))).drew.heap[g]? = some (.cells cur t fz) := by show (w.alloc (.cells Z (ρ.t 5))).heap[g]? = _; rw [RowKit.Below.heap_alloc w _ g hgl]; exact hg
    have hcopy := run_copy_row (P := P) (w.alloc (.cells Z (ρ.t 5))).drew (ρ.t 37) (ρ.t 37) (ρ.t 3) (ρ.t 5) w.heap.size 0 (2 * c) cap2 ⟨g, 0, none⟩ l c Z (ρ.t 5) (cur.toList.take l) L.t37 hsz1 (heap_alloc_new w _) (by rw [hxl]; exact (Nat.min_eq_left (by omega)).symm) (Ml hg1) (by rw [hxl]; omega) h1
    rw [hxl] at hcopy
    generalize hY : (Z.toList.take 0 ++ cur.toList.take l ++ Z.toList.drop (0 + l)).toArray = Y at hcopy
    go_enter_defers L.f290, Body.n290_ntmps ρ
    go_wp2_with (at_builtin; refine Lib.wpList_append_run _ rfl _ _ _ _ rfl _ _ rfl rfl _ _ happ ?_)
    refine leaves_cons (f := (ρ.f 324)) (args := #[]) (by simp) (Go.Proofs.enters_of L.f324 (by kernel_rfl) rfl _ _) ?_
    refine (Any.growSlice_catch_idle { L with } _).mono ?_
    rintro e u' w'' ⟨rfl, rfl, rfl⟩
    refine ⟨_, results_tmp rfl _ _ _, ?_⟩
    have hYl : Y.toList = cur.toList.take l ++ Z.toList.drop l := by rw [← hY]; simp
    refine ⟨cap2, Y, rfl, setRow_heap _ _ Z Y (ρ.t 5) (0, 0) (heap_alloc_new w _), ?_, ?_, by omega, hle, ⟨rfl, rfl, rfl, by simp, fun k hk => by rw [setRow_other _ _ _ _ (by omega)]; exact Below.heap_alloc w _ k hk⟩⟩
    · have : Y.toList.length = cap2 := by rw [hYl, List.length_append, hxl, List.length_drop, Array.length_toList, hZs]; omega
      simpa using this
    · rw [hYl, List.take_append_of_le_length (by rw [hxl]; exact Nat.le_refl _), List.take_of_length_le (by rw [hxl]; exact Nat.le_refl _)]
  · have happ := Lib.run_append_nil_zeros (P := P) w (ρ.t 37) (ρ.t 3) (ρ.t 37) (ρ.t 5) i0 (.int .u8 0) .i64 .i64 L.t37 L.t3 hi hz0 (l + n) (by omega) (by omega) (by omega) (by rw [hz2]; omega)
    rw [show (((l + n : Nat)) : Int) = (l : Int) + (n : Int) by omega] at happ
    generalize hcap : grownCap w (l + n) 0 (ρ.t 5) = cap2 at happ
    have hge : l + n ≤ cap2 := by rw [← hcap]; exact grownCap_ge w _ 0 (ρ.t 5)
    have hle : cap2 ≤ maxLen := by rw [← hcap]; exact grownCap_le_maxLen w _ 0 (ρ.t 5) (by unfold maxLen; omega)
    generalize hZ : (Builtin.zeroCells (Value.int .u8 0).cells (l + n) ++ Builtin.zeroCells (Value.int .u8 0).cells (cap2 - (l + n))) = Z at happ
    have hZs : Z.size = cap2 := by rw [← hZ]; simp [size_zeroCells, Value.cells]; omega
    clear hcap hZ
    have hg1 : (w.alloc (.cells Z (ρ.t 5))).drew.heap[g]? = some (.cells cur t fz) := by show (w.alloc (.cells Z (ρ.t 5))).heap[g]? = _; rw [RowKit.Below.heap_alloc w _ g hgl]; exact hg
    have hcopy := run_copy_row (P := P) (w.alloc (.cells Z (ρ.t 5))).drew (ρ.t 37) (ρ.t 37) (ρ.t 3) (ρ.t 5) w.heap.size 0 (l + n) cap2 ⟨g, 0, none⟩ l c Z (ρ.t 5) (cur.toList.take l) L.t37 hsz1 (heap_alloc_new w _) (by rw [hxl]; exact (Nat.min_eq_left (by omega)).symm) (Ml hg1) (by rw [hxl]; omega) h1
    rw [hxl] at hcopy
    generalize hY : (Z.toList.take 0 ++ cur.toList.take l ++ Z.toList.drop (0 + l)).toArray = Y at hcopy
    go_enter_defers L.f290, Body.n290_ntmps ρ
    go_wp2_with (at_builtin; refine Lib.wpList_append_run _ rfl _ _ _ _ rfl _ _ rfl rfl _ _ happ ?_)
    refine leaves_cons (f := (ρ.f 324)) (args := #[]) (by simp) (Go.Proofs.enters_of L.f324 (by kernel_rfl) rfl _ _) ?_
    refine (Any.growSlice_catch_idle { L with } _).mono ?_
    rintro e u' w'' ⟨rfl, rfl, rfl⟩
    refine ⟨_, results_tmp rfl _ _ _, ?_⟩
    have hYl : Y.toList = cur.toList.take l ++ Z.toList.drop l := by rw [← hY]; simp
    refine ⟨cap2, Y, rfl, setRow_heap _ _ Z Y (ρ.t 5) (0, 0) (heap_alloc_new w _), ?_, ?_, by omega, hle, ⟨rfl, rfl, rfl, by simp, fun k hk => by rw [setRow_other _ _ _ _ (by omega)]; exact Below.heap_alloc w _ k hk⟩⟩
    · have : Y.toList.length = cap2 := by rw [hYl, List.length_append, hxl, List.length_drop, Array.length_toList, hZs]; omega
      simpa using this
    · rw [hYl, List.take_append_of_le_length (by rw [hxl]; exact Nat.le_refl _), List.take_of_length_le (by rw [hxl]; exact Nat.le_refl _)]
set_option maxRecDepth 100000 in
theorem OT (L : LaysM.n181 P ρ) (b : Nat) (ao : Option Addr) (l cap : Nat) (w : World) (c0 : w.cell? ⟨b, 0, none⟩ = some (.slice ao l cap)) (c1 : w.cell? ⟨b, 1, none⟩ = some (.int .i64 0)) (hmax : l ≤ maxLen) :
    Calls P (ρ.f 181) #[.pointer (some ⟨b, 0, none⟩)] w fun e w' => e = .returned (.int .i64 l) ∧ ∃ n, w' = w.drewN n := by
  have mixed := L.mixed
  have t5 := L.t5; have a5 := L.a5; have z5 := L.z5; have v5 := L.v5
  have t130 := L.t130; have a130 := L.a130; have z130 := L.z130; have v130 := L.v130
  have t3 := L.t3; have a3 := L.a3; have z3 := L.z3; have v3 := L.v3
  have t0 := L.t0; have a0 := L.a0; have z0 := L.z0; have v0 := L.v0
  have t93 := L.t93; have u93 := run_underlying L.t93; have a93 := L.a93; have z93 := L.z93; have v93 := L.v93
  have t37 := L.t37; have a37 := L.a37; have z37 := L.z37; have v37 := L.v37
  unfold maxLen at hmax
  go_enter L.f181, Body.n181_ntmps ρ
  go_wp2
  go_region_o
  all_goals (go_wp2; go_ret; exact ⟨by simp, 1, rfl⟩)
def BufB (T : TypeId) (b : Nat) (ao : Option Addr) (l cap : Nat) (lr : Int) (w : World) : Prop := w.heap[b]? = some (.cells #[.slice ao l cap, .int .i64 0, .int .i8 lr] T (0, 0))
theorem BufB.c0 {T : TypeId} {b : Nat} {ao : Option Addr} {l cap : Nat} {lr : Int} {w : World} (h : BufB T b ao l cap lr w) : w.cell? ⟨b, 0, none⟩ = some (.slice ao l cap) := by unfold BufB at h; simp [World.cell?, h]
theorem BufB.c1 {T : TypeId} {b : Nat} {ao : Option Addr} {l cap : Nat} {lr : Int} {w : World} (h : BufB T b ao l cap lr w) : w.cell? ⟨b, 1, none⟩ = some (.int .i64 0) := by unfold BufB at h; simp [World.cell?, h]
theorem BufB.c2 {T : TypeId} {b : Nat} {ao : Option Addr} {l cap : Nat} {lr : Int} {w : World} (h : BufB T b ao l cap lr w) : w.cell? ⟨b, 2, none⟩ = some (.int .i8 lr) := by unfold BufB at h; simp [World.cell?, h]
theorem BufB.f {T : TypeId} {b : Nat} {ao : Option Addr} {l cap : Nat} {lr : Int} {w : World} (h : BufB T b ao l cap lr w) (j : Nat) : w.frozen? ⟨b, j, none⟩ = false := by unfold BufB at h; simp [World.frozen?, h]
theorem BufB.lt {T : TypeId} {b : Nat} {ao : Option Addr} {l cap : Nat} {lr : Int} {w : World} (h : BufB T b ao l cap lr w) : b < w.heap.size := (Array.getElem?_eq_some_iff.1 h).1
theorem BufB.of_heap {T : TypeId} {b : Nat} {ao : Option Addr} {l cap : Nat} {lr : Int} {w w' : World} (h : BufB T b ao l cap lr w) (e : w'.heap[b]? = w.heap[b]?) : BufB T b ao l cap lr w' := by unfold BufB at h ⊢; rw [e]; exact h
theorem BufB.set0 {T : TypeId} {b : Nat} {ao ao' : Option Addr} {l cap l' cap' : Nat} {lr : Int} {w : World} (h : BufB T b ao l cap lr w) : BufB T b ao' l' cap' lr (w.setCell ⟨b, 0, none⟩ (.slice ao' l' cap')) := by
  unfold BufB at h ⊢
  rw [zN _ h]; rfl
theorem BufB.set1 {T : TypeId} {b : Nat} {ao : Option Addr} {l cap : Nat} {lr : Int} {w : World} (h : BufB T b ao l cap lr w) : BufB T b ao l cap lr (w.setCell ⟨b, 1, none⟩ (.int .i64 0)) := by
  unfold BufB at h ⊢
  rw [zN _ h]; rfl
theorem BufB.set2 {T : TypeId} {b : Nat} {ao : Option Addr} {l cap : Nat} {lr lr' : Int} {w : World} (h : BufB T b ao l cap lr w) : BufB T b ao l cap lr' (w.setCell ⟨b, 2, none⟩ (.int .i8 lr')) := by
  unfold BufB at h ⊢
  rw [zN _ h]; rfl
def Only (b : Nat) (w w' : World) : Prop := w'.os = w.os ∧ w'.tape = w.tape ∧ w'.output = w.output ∧ w.heap.size ≤ w'.heap.size ∧ ∀ k, k < w.heap.size → k ≠ b → w'.heap[k]? = w.heap[k]?
theorem Only.refl (b : Nat) (w : World) : Only b w w := ⟨rfl, rfl, rfl, Nat.le_refl _, fun _ _ _ => rfl⟩
theorem Only.trans {b : Nat} {w w1 w2 : World} (h : Only b w w1) (k : Only b w1 w2) : Only b w w2 :=
  ⟨k.1.trans h.1, k.2.1.trans h.2.1, k.2.2.1.trans h.2.2.1, Nat.le_trans h.2.2.2.1 k.2.2.2.1, fun j hj hne => (k.2.2.2.2 j (Nat.lt_of_lt_of_le hj h.2.2.2.1) hne).trans (h.2.2.2.2 j hj hne)⟩
theorem Only.set {b j : Nat} {w w' : World} {v : Value} (h : Only b w w') : Only b w (w'.setCell ⟨b, j, none⟩ v) :=
  ⟨h.1, h.2.1, h.2.2.1, by simp [World.setCell]; exact h.2.2.2.1, fun k hk hne => (dK v hne).trans (h.2.2.2.2 k hk hne)⟩
theorem Only.drewN {b n : Nat} {w w' : World} (h : Only b w w') : Only b w (w'.drewN n) := h
theorem Only.below {b n : Nat} {w w1 w2 : World} (h : Only b w w1) (hb : Below n w1 w2) (hn : w1.heap.size ≤ n) : Only b w w2 :=
  h.trans ⟨hb.os, hb.tape, hb.output, hb.size, fun k hk _ => hb.block k (by omega)⟩
def Grown (T e : TypeId) (b l n : Nat) (lr : Int) (old : List Value) (w w' : World) : Prop :=
  Only b w w' ∧ ∃ cap2 cells, BufB T b (some ⟨w.heap.size, 0, none⟩) (l + n) cap2 lr w' ∧ w'.heap[w.heap.size]? = some (.cells cells e (0, 0)) ∧ cells.size = cap2 ∧ cells.toList.take l = old ∧ l + n ≤ cap2 ∧ cap2 ≤ maxLen
set_option maxHeartbeats 6400000 in
set_option maxRecDepth 100000 in
theorem Tm (L : LaysM.n252 P ρ) (T : TypeId) (b n : Nat) (lr : Int) (w : World) (hbk : BufB T b none 0 0 lr w) (hn : 1 ≤ n) (h64 : n ≤ 64) :
    Calls P (ρ.f 252) #[.pointer (some ⟨b, 0, none⟩), .int .i64 n] w fun e w' => e = .returned (.int .i64 0) ∧ Grown T (ρ.t 5) b 0 n lr [] w w' := by
  have mixed := L.mixed
  have t5 := L.t5; have a5 := L.a5; have z5 := L.z5; have v5 := L.v5
  have t130 := L.t130; have a130 := L.a130; have z130 := L.z130; have v130 := L.v130
  have t3 := L.t3; have a3 := L.a3; have z3 := L.z3; have v3 := L.v3
  have t4 := L.t4; have a4 := L.a4; have z4 := L.z4; have v4 := L.v4
  have t0 := L.t0; have a0 := L.a0; have z0 := L.z0; have v0 := L.v0
  have t93 := L.t93; have u93 := run_underlying L.t93; have a93 := L.a93; have z93 := L.z93; have v93 := L.v93
  have t131 := L.t131; have a131 := L.a131; have z131 := L.z131; have v131 := L.v131
  have t37 := L.t37; have a37 := L.a37; have z37 := L.z37; have v37 := L.v37
  have t75 := L.t75; have a75 := L.a75; have z75 := L.z75; have v75 := L.v75
  have e181 : ∀ args w, (callFunc (ρ.f 181) args).run P w = .ok (.enter (ρ.f 181) args) w := Go.Proofs.enters_of L.f181 (by kernel_rfl) rfl
  have e251 : ∀ args w, (callFunc (ρ.f 251) args).run P w = .ok (.enter (ρ.f 251) args) w := Go.Proofs.enters_of L.f251 (by kernel_rfl) rfl
  obtain ⟨i0, hi, hz0, hz1, hz2⟩ := info_parts L.i5
  obtain ⟨M, hM⟩ : ∃ M, M = madeCells (Value.int .u8 0).cells ((64 : Int).toNat * i0.size) := ⟨_, rfl⟩
  have hMs : M.size = 64 := by rw [hM, size_madeCells, hz1]; rfl
  have hmk : ∀ W : World, (Instr.makeSlice (ρ.t 37) (.int .i64 (n : Int)) (.int .i64 64)).run P W = .ok (.slice (some ⟨W.heap.size, 0, none⟩) n 64) (W.alloc (.cells M (ρ.t 5))) := fun W => by
    have h := run_makeSlice (P := P) W (ρ.t 37) (ρ.t 5) i0 (.int .u8 0) L.t37 hi hz0 .i64 .i64 (n : Int) 64 (by omega) (by omega) (by rw [hz1]; decide) (by rw [hz2]; decide) (by decide)
    rw [← hM] at h
    simpa using h
  clear hM
  have hnil : ∀ W, (binOp .eql (ρ.t 37) (.slice none 0 0) (.slice none 0 0)).run P W = .ok (.bool true) W := fun W => Lib.run_eql_slice_nil_nil W _ _ L.t37
  go_enter L.f252, Body.n252_ntmps ρ
  go_wp2_with (go_at_fn (ρ.f 181); refine (OT { L with } b none 0 0 _ hbk.c0 hbk.c1 (Nat.zero_le _)).mono ?_)
  rintro e W0 ⟨rfl, k, hW0⟩
  have hbk0 : BufB T b none 0 0 lr W0 := by rw [hW0]; exact hbk
  have c0 := hbk0.c0
  have c1 := hbk0.c1
  have f0 := hbk0.f 0
  have f1 := hbk0.f 1
  have hbW0 := hbk0.lt
  have c0a : ∀ o, (W0.alloc o).cell? ⟨b, 0, none⟩ = some (.slice none 0 0) := fun o => (World.cell?_of_block (a := ⟨b, 0, none⟩) (Below.heap_alloc W0 o b hbW0)).trans c0
  have f0a : ∀ o, (W0.alloc o).frozen? ⟨b, 0, none⟩ = false := fun o => (World.frozen?_of_block (a := ⟨b, 0, none⟩) (Below.heap_alloc W0 o b hbW0)).trans f0
  have HW0 := Lib.hid hW0
  clear hW0
  go_wp2_with (go_at_fn (ρ.f 251); refine (Any.Buffer_tryGrow_none { L with } b _ 0 0 n _ c0 (Nat.le_refl _) (Nat.zero_le _) (by omega)).mono ?_; rintro e w' ⟨rfl, rfl⟩)
  go_ret
  have hsz0 : w'.heap.size = w.heap.size := by rw [HW0.out]; rfl
  have hO : Only b w w' := by rw [HW0.out]; exact Only.refl b w
  refine ⟨rfl, (hO.set).trans ⟨rfl, rfl, rfl, by simp, fun k hk _ => Below.heap_alloc _ _ k hk⟩, 64, M, ?_, ?_, hMs, by simp, by omega, by unfold maxLen; omega⟩
  · rw [Nat.zero_add, ← hsz0]
    exact (hbk0.set0).of_heap (Below.heap_alloc _ _ b (by simp [World.setCell]; exact hbW0))
  · have h9 := heap_alloc_new (w'.setCell ⟨b, 0, none⟩ (.slice (some ⟨w'.heap.size, 0, none⟩) n 64)) (.cells M (ρ.t 5))
    rw [← hsz0]
    have h8 : (w'.setCell ⟨b, 0, none⟩ (.slice (some ⟨w'.heap.size, 0, none⟩) n 64)).heap.size = w'.heap.size := by simp [World.setCell]
    rw [h8] at h9
    exact h9
set_option maxHeartbeats 12800000 in
set_option maxRecDepth 100000 in
theorem Tn (L : LaysM.n252 P ρ) (T : TypeId) (b n : Nat) (lr : Int) (w : World) (hbk : BufB T b none 0 0 lr w) (h64 : 64 < n) (hlim : n ≤ 140737488355328) :
    Calls P (ρ.f 252) #[.pointer (some ⟨b, 0, none⟩), .int .i64 n] w fun e w' => e = .returned (.int .i64 0) ∧ Grown T (ρ.t 5) b 0 n lr [] w w' := by
  have mixed := L.mixed
  have t5 := L.t5; have a5 := L.a5; have z5 := L.z5; have v5 := L.v5
  have t130 := L.t130; have a130 := L.a130; have z130 := L.z130; have v130 := L.v130
  have t3 := L.t3; have a3 := L.a3; have z3 := L.z3; have v3 := L.v3
  have t4 := L.t4; have a4 := L.a4; have z4 := L.z4; have v4 := L.v4
  have t0 := L.t0; have a0 := L.a0; have z0 := L.z0; have v0 := L.v0
  have t93 := L.t93; have u93 := run_underlying L.t93; have a93 := L.a93; have z93 := L.z93; have v93 := L.v93
  have t131 := L.t131; have a131 := L.a131; have z131 := L.z131; have v131 := L.v131
  have t37 := L.t37; have a37 := L.a37; have z37 := L.z37; have v37 := L.v37
  have t75 := L.t75; have a75 := L.a75; have z75 := L.z75; have v75 := L.v75
  have e181 : ∀ args w, (callFunc (ρ.f 181) args).run P w = .ok (.enter (ρ.f 181) args) w := Go.Proofs.enters_of L.f181 (by kernel_rfl) rfl
  have e251 : ∀ args w, (callFunc (ρ.f 251) args).run P w = .ok (.enter (ρ.f 251) args) w := Go.Proofs.enters_of L.f251 (by kernel_rfl) rfl
  have e290 : ∀ args w, (callFunc (ρ.f 290) args).run P w = .ok (.enter (ρ.f 290) args) w := Go.Proofs.enters_of L.f290 (by kernel_rfl) rfl
  have hn : 1 ≤ n := by omega
  have hnil : ∀ W, (binOp .eql (ρ.t 37) (.slice none 0 0) (.slice none 0 0)).run P W = .ok (.bool true) W := fun W => Lib.run_eql_slice_nil_nil W _ _ L.t37
  go_enter L.f252, Body.n252_ntmps ρ
  go_wp2_with (go_at_fn (ρ.f 181); refine (OT { L with } b none 0 0 _ hbk.c0 hbk.c1 (Nat.zero_le _)).mono ?_)
  rintro e W0 ⟨rfl, k, hW0⟩
  have hbk0 : BufB T b none 0 0 lr W0 := by rw [hW0]; exact hbk
  have c0 := hbk0.c0
  have c1 := hbk0.c1
  have f0 := hbk0.f 0
  have f1 := hbk0.f 1
  have HW0 := Lib.hid hW0
  clear hW0
  go_wp2_with (go_at_fn (ρ.f 251); refine (Any.Buffer_tryGrow_none { L with } b _ 0 0 n _ c0 (Nat.le_refl _) (Nat.zero_le _) (by omega)).mono ?_; rintro e w' ⟨rfl, rfl⟩)
  have hbW := hbk0.lt
  have hwn : IntKind.i64.wrap (n : Int) = n := by rw [IntKind.wrap_i64]; omega
  go_region_with_o (
      go_at_fn (ρ.f 290)
      refine (Any.bytes_growSlice_nil { L with } n _ hn hlim).mono ?_
      rintro e w2 ⟨cap2, cells, rfl, hN, hcsz, hcap2, hcm2, hbel⟩
      have hbk2 : BufB T b none 0 0 lr w2 := hbk0.of_heap (hbel.block b hbW)
      have d0 := hbk2.c0
      have d1 := hbk2.c1
      have e0 := hbk2.f 0
      have e1 := hbk2.f 1)
  all_goals (
    go_wp2
    go_ret
    have hsz0 : w'.heap.size = w.heap.size := by rw [HW0.out]; rfl
    have hO : Only b w w'.drew := by rw [HW0.out]; exact Only.refl b w
    refine ⟨rfl, (((hO.below hbel (by show w'.heap.size ≤ _; exact Nat.le_refl _)).set).set).set, cap2, cells, ?_, ?_, hcsz, by simp, by omega, hcm2⟩
    · rw [Nat.zero_add, ← hsz0]
      exact ((hbk2.set0).set1).set0
    · rw [← hsz0, dK _ (by omega), dK _ (by omega), dK _ (by omega)]
      exact hN)
set_option maxHeartbeats 12800000 in
set_option maxRecDepth 100000 in
theorem Tp (L : LaysM.n252 P ρ) (T : TypeId) (b g l cap n : Nat) (lr : Int) (cur : Array Value) (t : TypeId) (fz : Nat × Nat) (w : World) (hbk : BufB T b (some ⟨g, 0, none⟩) l cap lr w) (hl0 : l ≠ 0)
    (hg : w.heap[g]? = some (.cells cur t fz)) (hlc : l ≤ cap) (hcm : cap ≤ maxLen) (hcs : cap ≤ cur.size) (h1 : ∀ v ∈ cur.toList.take l, v.oneCell' = true) (hn : 1 ≤ n) (hroom : cap - l < n) (hlim : l + n ≤ 140737488355328) :
    Calls P (ρ.f 252) #[.pointer (some ⟨b, 0, none⟩), .int .i64 n] w fun e w' => e = .returned (.int .i64 l) ∧ Grown T (ρ.t 5) b l n lr (cur.toList.take l) w w' := by
  have mixed := L.mixed
  have t5 := L.t5; have a5 := L.a5; have z5 := L.z5; have v5 := L.v5
  have t130 := L.t130; have a130 := L.a130; have z130 := L.z130; have v130 := L.v130
  have t3 := L.t3; have a3 := L.a3; have z3 := L.z3; have v3 := L.v3
  have t4 := L.t4; have a4 := L.a4; have z4 := L.z4; have v4 := L.v4
  have t0 := L.t0; have a0 := L.a0; have z0 := L.z0; have v0 := L.v0
  have t93 := L.t93; have u93 := run_underlying L.t93; have a93 := L.a93; have z93 := L.z93; have v93 := L.v93
  have t131 := L.t131; have a131 := L.a131; have z131 := L.z131; have v131 := L.v131
  have t37 := L.t37; have a37 := L.a37; have z37 := L.z37; have v37 := L.v37
  have t75 := L.t75; have a75 := L.a75; have z75 := L.z75; have v75 := L.v75
  have e181 : ∀ args w, (callFunc (ρ.f 181) args).run P w = .ok (.enter (ρ.f 181) args) w := Go.Proofs.enters_of L.f181 (by kernel_rfl) rfl
  have e251 : ∀ args w, (callFunc (ρ.f 251) args).run P w = .ok (.enter (ρ.f 251) args) w := Go.Proofs.enters_of L.f251 (by kernel_rfl) rfl
  have e290 : ∀ args w, (callFunc (ρ.f 290) args).run P w = .ok (.enter (ρ.f 290) args) w := Go.Proofs.enters_of L.f290 (by kernel_rfl) rfl
  have hnil : ∀ W, (binOp .eql (ρ.t 37) (.slice (some ⟨g, 0, none⟩) l cap) (.slice none 0 0)).run P W = .ok (.bool false) W := fun W => Lib.run_eql_slice_some_nil W _ _ _ L.t37
  go_enter L.f252, Body.n252_ntmps ρ
  go_wp2_with (go_at_fn (ρ.f 181); refine (OT { L with } b _ l cap _ hbk.c0 hbk.c1 (Nat.le_trans hlc hcm)).mono ?_)
  rintro e W0 ⟨rfl, k, hW0⟩
  have hbk0 : BufB T b (some ⟨g, 0, none⟩) l cap lr W0 := by rw [hW0]; exact hbk
  have hg0 : W0.heap[g]? = some (.cells cur t fz) := by rw [hW0]; exact hg
  have c0 := hbk0.c0
  have c1 := hbk0.c1
  have f0 := hbk0.f 0
  have f1 := hbk0.f 1
  have HW0 := Lib.hid hW0
  clear hW0
  have hcm' := hcm
  unfold maxLen at hcm'
  go_wp2_with (go_at_fn (ρ.f 251); refine (Any.Buffer_tryGrow_none { L with } b _ l cap n _ c0 hlc hcm hroom).mono ?_; rintro e w' ⟨rfl, rfl⟩)
  have hc2 : cap ≤ 140737488355328 := by omega
  have hbW := hbk0.lt
  have hwn : IntKind.i64.wrap (n : Int) = n := by rw [IntKind.wrap_i64]; omega
  go_region_with_o (
      go_at_fn (ρ.f 290)
      refine (Qa { L with } g l cap n cur t fz _ ?_ hcs hlc hn hlim hc2 h1).mono ?_
      exact hg0
      rintro e w2 ⟨cap2, cells, rfl, hN, hcsz, htk, hcap2, hcm2, hbel⟩
      have hbk2 : BufB T b (some ⟨g, 0, none⟩) l cap lr w2 := hbk0.of_heap (hbel.block b hbW)
      have d0 := hbk2.c0
      have d1 := hbk2.c1
      have e0 := hbk2.f 0
      have e1 := hbk2.f 1)
  all_goals (
    go_wp2
    go_ret
    have hsz0 : w'.heap.size = w.heap.size := by rw [HW0.out]; rfl
    have hO : Only b w w'.drew := by rw [HW0.out]; exact Only.refl b w
    refine ⟨rfl, (((hO.below hbel (by show w'.heap.size ≤ _; exact Nat.le_refl _)).set).set).set, cap2, cells, ?_, ?_, hcsz, htk, by omega, hcm2⟩
    · rw [← hsz0]
      exact ((hbk2.set0).set1).set0
    · rw [← hsz0, dK _ (by omega), dK _ (by omega), dK _ (by omega)]
      exact hN)
end Go.Sh
namespace Go.Sh
open Go.RowKit Go.Proofs Go.Shelf
set_option linter.unusedSimpArgs false
set_option linter.unusedVariables false
variable {P : Program} {ρ : Ren}
theorem Jq {W : World} {dT sT ty elem : TypeId} {i : TypeInfo} {g o n dLen dCap : Nat} {x : Value} {us : List Value} {cur : Array Value} {t : TypeId} (hu : P.underlying dT = some (.slice elem)) (hi : P.info? elem = some i) (hi1 : i.size = 1) (hsrc : Src P W 1 x n us) (hc : CellsAt W g cur t) (hle : n ≤ dLen) (hfit : o + n ≤ cur.size) :
    (Builtin.copy_ #[dT, sT] ty #[.slice (some ⟨g, o, none⟩) dLen dCap, x]).run P W = .ok (goInt n) (W.setRow g (cur.toList.take o ++ us ++ cur.toList.drop (o + n)).toArray) := by
  have hn : us.length = n := by have := hsrc.size; omega
  have hst := rD P g o t us 0 cur W hc (by omega) hsrc.one
  simp only [Nat.add_zero, hn] at hst
  have hmin : Nat.min n dLen = n := Nat.min_eq_left hle
  have h1 := hsrc.len
  have h2 := hsrc.cells
  simp [Builtin.copy_, run_underlying hu, sizeOf, typeInfo, hi, hi1, h1, h2, hmin, hst]
def BufRow (b : Nat) (ao : Option Addr) (l cap : Nat) (old : List Value) (w : World) : Prop :=
  (ao = none ∧ l = 0 ∧ cap = 0 ∧ old = []) ∨ ∃ g cur t, ao = some ⟨g, 0, none⟩ ∧ l ≠ 0 ∧ g ≠ b ∧ CellsAt w g cur t ∧ cap ≤ cur.size ∧ l ≤ cap ∧ cap ≤ maxLen ∧ cur.toList.take l = old ∧ ∀ v ∈ old, v.oneCell' = true
def Wrote (T : TypeId) (b : Nat) (ao : Option Addr) (l c0 n : Nat) (all : List Value) (w w' : World) : Prop :=
  w'.os = w.os ∧ w'.tape = w.tape ∧ w'.output = w.output ∧ w.heap.size ≤ w'.heap.size ∧ ∃ g cap cur t lr, BufB T b (some ⟨g, 0, none⟩) (l + n) cap lr w' ∧ CellsAt w' g cur t ∧ cap ≤ cur.size ∧ l + n ≤ cap ∧ cap ≤ maxLen ∧ g ≠ b ∧ cur.toList.take (l + n) = all ∧
    ((ao = some ⟨g, 0, none⟩ ∧ cap = c0 ∧ cur.size = kN w g ∧ Dh w g = some t ∧ w'.heap.size = w.heap.size) ∨ g = w.heap.size) ∧ ∀ k, k < w.heap.size → k ≠ b → k ≠ g → w'.heap[k]? = w.heap[k]?
def Roomy (T : TypeId) (b : Nat) (ao : Option Addr) (l c0 n : Nat) (old : List Value) (w w1 : World) (g cap : Nat) : Prop :=
  Only b w w1 ∧ ∃ cur t lr, BufB T b (some ⟨g, 0, none⟩) (l + n) cap lr w1 ∧ CellsAt w1 g cur t ∧ cap ≤ cur.size ∧ l + n ≤ cap ∧ cap ≤ maxLen ∧ g ≠ b ∧ cur.toList.take l = old ∧ ((ao = some ⟨g, 0, none⟩ ∧ cap = c0 ∧ cur.size = kN w g ∧ Dh w g = some t ∧ w1.heap.size = w.heap.size) ∨ g = w.heap.size)
theorem Roomy.wrote {T : TypeId} {b : Nat} {ao : Option Addr} {l c0 n : Nat} {old us : List Value} {w w1 w2 : World} {g cap : Nat} (h : Roomy T b ao l c0 n old w w1 g cap) (hn : us.length = n) (hw : ∀ cur t, CellsAt w1 g cur t → ∃ new : Array Value, new.size = cur.size ∧ new.toList.take (l + n) = cur.toList.take l ++ us ∧ CellsAt w2 g new t) (hk : ∀ k, k ≠ g → w2.heap[k]? = w1.heap[k]?)
    (hs : w2.heap.size = w1.heap.size) (ho : w2.os = w1.os) (ht : w2.tape = w1.tape) (hout : w2.output = w1.output) : Wrote T b ao l c0 n (old ++ us) w w2 := by
  obtain ⟨h1, cur, t, lr, h2, h3, h4, h5, h6, h7, h8, h9⟩ := h
  obtain ⟨new, k1, k2, k3⟩ := hw cur t h3
  refine ⟨ho.trans h1.1, ht.trans h1.2.1, hout.trans h1.2.2.1, by rw [hs]; exact h1.2.2.2.1, g, cap, new, t, lr, h2.of_heap (hk b (Ne.symm h7)), k3, by omega, h5, h6, h7, by rw [k2, h8], h9.imp (fun h => ⟨h.1, h.2.1, by rw [k1]; exact h.2.2.1, h.2.2.2.1, by rw [hs]; exact h.2.2.2.2⟩) id, fun k k4 k5 k6 => (hk k k6).trans (h1.2.2.2.2 k k4 k5)⟩
theorem OU (L : LaysM.n251 P ρ) (T : TypeId) (b : Nat) (ao : Option Addr) (l cap n : Nat) (lr : Int) (old : List Value) (w : World) (hbk : BufB T b ao l cap lr w) (hrow : BufRow b ao l cap old w) (hn : 1 ≤ n) :
    Calls P (ρ.f 251) #[.pointer (some ⟨b, 0, none⟩), .int .i64 n] w fun e w' => (e = .returned (.tuple #[.int .i64 l, .bool true]) ∧ ∃ g cap', Roomy T b ao l cap n old w w' g cap') ∨ (e = .returned (.tuple #[.int .i64 0, .bool false]) ∧ w' = w ∧ cap - l < n) := by
  have c0 := hbk.c0
  have f0 := hbk.f 0
  rcases hrow with ⟨rfl, rfl, rfl, rfl⟩ | ⟨g, cur, t, rfl, h0, hne, hc, h1, h2, h3, h4, h5⟩
  · refine (Any.Buffer_tryGrow_none { L with } b none 0 0 n w c0 (Nat.le_refl _) (Nat.zero_le _) (by omega)).mono ?_
    rintro e w' ⟨rfl, rfl⟩
    exact .inr ⟨rfl, rfl, by omega⟩
  · by_cases hr : n ≤ cap - l
    · refine (Any.Buffer_tryGrow_room { L with } b _ l cap n w c0 f0 h2 h3 hr).mono ?_
      rintro e w' ⟨rfl, rfl⟩
      exact .inl ⟨rfl, g, cap, (Only.refl b w).set, cur, t, lr, hbk.set0, hc.of_heap (dK _ hne), h1, by omega, h3, hne, h4, .inl ⟨rfl, rfl, hc.bsz.symm, hc.ty, by simp [World.setCell]⟩⟩
    · refine (Any.Buffer_tryGrow_none { L with } b _ l cap n w c0 h2 h3 (by omega)).mono ?_
      rintro e w' ⟨rfl, rfl⟩
      exact .inr ⟨rfl, rfl, by omega⟩
theorem Mm (L : LaysM.n252 P ρ) (T : TypeId) (b : Nat) (ao : Option Addr) (l cap n : Nat) (lr : Int) (old : List Value) (w : World) (hbk : BufB T b ao l cap lr w) (hrow : BufRow b ao l cap old w) (hn : 1 ≤ n) (hno : cap - l < n) (hlim : l + n ≤ 140737488355328) :
    Calls P (ρ.f 252) #[.pointer (some ⟨b, 0, none⟩), .int .i64 n] w fun e w' => e = .returned (.int .i64 l) ∧ ∃ g cap', Roomy T b ao l cap n old w w' g cap' := by
  have hlt := hbk.lt
  have fin : ∀ w' : World, Grown T (ρ.t 5) b l n lr old w w' → ∃ g cap', Roomy T b ao l cap n old w w' g cap' := fun w' ⟨g1, cap2, cells, g2, g3, g4, g5, g6, g7⟩ => ⟨_, cap2, g1, cells, ρ.t 5, lr, g2, .plain g3, by omega, g6, g7, by omega, g5, .inr rfl⟩
  rcases hrow with ⟨rfl, rfl, rfl, rfl⟩ | ⟨g, cur, t, rfl, h0, hne, ⟨fz, hc, _⟩, h1, h2, h3, rfl, h5⟩
  · by_cases h64 : n ≤ 64
    · refine (Tm { L with } T b n lr w hbk hn h64).mono ?_
      rintro e w' ⟨rfl, h⟩
      exact ⟨rfl, fin w' h⟩
    · refine (Tn { L with } T b n lr w hbk (by omega) (by omega)).mono ?_
      rintro e w' ⟨rfl, h⟩
      exact ⟨rfl, fin w' h⟩
  · refine (Tp { L with } T b g l cap n lr cur t fz w hbk h0 hc h2 h3 h1 h5 hn hno hlim).mono ?_
    rintro e w' ⟨rfl, h⟩
    exact ⟨rfl, fin w' h⟩
theorem BufRow.OV {b : Nat} {ao : Option Addr} {l cap : Nat} {old : List Value} {w w' : World} (h : BufRow b ao l cap old w) (k : ∀ j, j ≠ b → w'.heap[j]? = w.heap[j]?) : BufRow b ao l cap old w' := by
  rcases h with h | ⟨g, cur, t, h1, h2, h3, h4, h5⟩
  · exact .inl h
  · exact .inr ⟨g, cur, t, h1, h2, h3, h4.of_heap (k g h3), h5⟩
theorem Roomy.back {T : TypeId} {b : Nat} {ao : Option Addr} {l c0 n : Nat} {old : List Value} {w w1 : World} {g cap : Nat} {lr : Int} (hbw : b < w.heap.size) (hao : ∀ g, ao = some ⟨g, 0, none⟩ → g ≠ b) (h : Roomy T b ao l c0 n old (w.setCell ⟨b, 2, none⟩ (.int .i8 lr)) w1 g cap) : Roomy T b ao l c0 n old w w1 g cap := by
  obtain ⟨h1, cur, t, lr', h2, h3, h4, h5, h6, h7, h8, h9⟩ := h
  have hsz : (w.setCell ⟨b, 2, none⟩ (.int .i8 lr)).heap.size = w.heap.size := by simp [World.setCell]
  refine ⟨((Only.refl b w).set (j := 2) (v := .int .i8 lr)).trans h1, cur, t, lr', h2, h3, h4, h5, h6, h7, h8, h9.imp (fun h => ⟨h.1, h.2.1, ?_, ?_, h.2.2.2.2.trans hsz⟩) (fun h => h.trans hsz)⟩
  · have := h.2.2.1
    unfold kN at this ⊢
    rw [dK _ h7] at this
    exact this
  · rw [← h.2.2.2.1]
    exact (mQ (dK _ h7)).symm
set_option maxHeartbeats 6400000 in
set_option maxRecDepth 100000 in
theorem MZ (L : LaysM.n179 P ρ) (T : TypeId) (b : Nat) (ao : Option Addr) (l cap : Nat) (lr : Int) (old : List Value) (c : Int) (w : World) (hbk : BufB T b ao l cap lr w) (hrow : BufRow b ao l cap old w) (hlim : l + 1 ≤ 140737488355328) :
    Calls P (ρ.f 179) #[.pointer (some ⟨b, 0, none⟩), .int .u8 c] w fun e w' => e = .returned .nilIface ∧ Wrote T b ao l cap 1 (old ++ [.int .u8 c]) w w' := by
  have mixed := L.mixed
  have t5 := L.t5; have a5 := L.a5; have z5 := L.z5; have v5 := L.v5
  have t130 := L.t130; have a130 := L.a130; have z130 := L.z130; have v130 := L.v130
  have t75 := L.t75; have a75 := L.a75; have z75 := L.z75; have v75 := L.v75
  have t0 := L.t0; have a0 := L.a0; have z0 := L.z0; have v0 := L.v0
  have t93 := L.t93; have u93 := run_underlying L.t93; have a93 := L.a93; have z93 := L.z93; have v93 := L.v93
  have t91 := L.t91; have a91 := L.a91; have z91 := L.z91; have v91 := L.v91
  have t3 := L.t3; have a3 := L.a3; have z3 := L.z3; have v3 := L.v3
  have t131 := L.t131; have a131 := L.a131; have z131 := L.z131; have v131 := L.v131
  have t4 := L.t4; have a4 := L.a4; have z4 := L.z4; have v4 := L.v4
  have t37 := L.t37; have a37 := L.a37; have z37 := L.z37; have v37 := L.v37
  have e251 : ∀ args w, (callFunc (ρ.f 251) args).run P w = .ok (.enter (ρ.f 251) args) w := Go.Proofs.enters_of L.f251 (by kernel_rfl) rfl
  have e252 : ∀ args w, (callFunc (ρ.f 252) args).run P w = .ok (.enter (ρ.f 252) args) w := Go.Proofs.enters_of L.f252 (by kernel_rfl) rfl
  have c2 := hbk.c2
  have f2 := hbk.f 2
  have hbw := hbk.lt
  have hao : ∀ g, ao = some ⟨g, 0, none⟩ → g ≠ b := fun g hg => by
    rcases hrow with ⟨h, _⟩ | ⟨g', _, _, h, _, h2, _⟩
    · rw [h] at hg; cases hg
    · rw [h] at hg; injection hg with hg; injection hg with hg; rw [← hg]; exact h2
  have hb0 : BufB T b ao l cap 0 (w.setCell ⟨b, 2, none⟩ (.int .i8 0)) := hbk.set2
  have hr0 : BufRow b ao l cap old (w.setCell ⟨b, 2, none⟩ (.int .i8 0)) := hrow.OV (fun j hj => dK _ hj)
  have hT : ∀ W, BufB T b ao l cap 0 W → BufRow b ao l cap old W → Calls P (ρ.f 251) #[.pointer (some ⟨b, 0, none⟩), .int .i64 1] W _ := fun W hW hR => OU { L with } T b ao l cap 1 0 old W hW hR (Nat.le_refl _)
  have hG : ∀ W, BufB T b ao l cap 0 W → BufRow b ao l cap old W → cap - l < 1 → Calls P (ρ.f 252) #[.pointer (some ⟨b, 0, none⟩), .int .i64 1] W _ := fun W hW hR h => Mm { L with } T b ao l cap 1 0 old W hW hR (Nat.le_refl _) h hlim
  clear hbk hrow
  go_enter L.f179, Body.n179_ntmps ρ
  go_wp2_with (go_at_fn (ρ.f 251); refine (hT _ ?_ ?_).mono ?_)
  · exact hb0
  · exact hr0
  have tail : ∀ W1 g cap', Roomy T b ao l cap 1 old (w.setCell ⟨b, 2, none⟩ (.int .i8 0)) W1 g cap' → ∃ v, W1.cell? ⟨b, 0, none⟩ = some (.slice (some ⟨g, 0, none⟩) (l + 1) cap') ∧ W1.cell? ⟨g, l, none⟩ = some v ∧ W1.frozen? ⟨g, l, none⟩ = false ∧ cap' ≤ 9223372036854775807 ∧ l + 1 ≤ cap' ∧
      Wrote T b ao l cap 1 (old ++ [.int .u8 c]) w (W1.setCell ⟨g, l, none⟩ (.int .u8 c)) := fun W1 g cap' hR => by
    have hR' := hR.back hbw hao
    obtain ⟨h1, cur, t, lr', h2, h3, h4, h5, h6, h7, h8, h9⟩ := hR
    have hlt : l < cur.size := by omega
    obtain ⟨fz, hg, hz⟩ := h3
    refine ⟨cur[l], h2.c0, by simp [World.cell?, hg, hlt], ?_, by unfold maxLen at h6; omega, h5, hR'.wrote rfl (fun cur' t' h => ?_) (fun k hk => dK _ hk) (by simp [World.setCell]) rfl rfl rfl⟩
    · obtain ⟨lo, hi⟩ := fz
      simp only at hz
      simp only [World.frozen?, hg, Bool.and_eq_false_iff, decide_eq_false_iff_not]
      omega
    · obtain ⟨rfl, rfl⟩ := CellsAt.uniq ⟨fz, hg, hz⟩ h
      refine ⟨cur'.setIfInBounds l (.int .u8 c), by simp, ?_, fz, zN _ hg, by simpa using hz⟩
      rw [Array.toList_setIfInBounds, List.take_set, List.take_add_one]
      have hcl : cur'.toList[l]? = some cur'[l] := by simp [hlt]
      rw [hcl]
      rw [List.set_append_right _ _ (by rw [List.length_take]; omega)]
      have : (cur'.toList.take l).length = l := by rw [List.length_take, Array.length_toList]; omega
      rw [this]; simp
  rintro e W1 (⟨rfl, g, cap', hR⟩ | ⟨rfl, rfl, hno⟩)
  · obtain ⟨v, d0, dg, fg, hcm, hle, hend⟩ := tail W1 g cap' hR
    clear hT hG c2 f2 hb0 hr0 tail hR
    go_wp2
    go_ret
    exact ⟨rfl, hend⟩
  · go_wp2_with (go_at_fn (ρ.f 252); refine (hG _ ?_ ?_ hno).mono ?_)
    · exact hb0
    · exact hr0
    rintro e W1 ⟨rfl, g, cap', hR⟩
    obtain ⟨v, d0, dg, fg, hcm, hle, hend⟩ := tail W1 g cap' hR
    clear hT hG c2 f2 hb0 hr0 tail hR
    go_wp2
    go_ret
    exact ⟨rfl, hend⟩
set_option maxHeartbeats 6400000 in
set_option maxRecDepth 100000 in
theorem KQ (L : LaysM.n178 P ρ) (T : TypeId) (b : Nat) (ao : Option Addr) (l cap : Nat) (lr : Int) (old us : List Value) (w : World) (s : ByteArray) (hbk : BufB T b ao l cap lr w) (hrow : BufRow b ao l cap old w) (hn : 1 ≤ s.size) (hlim : l + s.size ≤ 140737488355328) (hsrc : ∀ W, Only b w W → Src P W 1 (.string s) s.size us) :
    Calls P (ρ.f 178) #[.pointer (some ⟨b, 0, none⟩), .string s] w fun e w' => e = .returned (.tuple #[.int .i64 s.size, .nilIface]) ∧ Wrote T b ao l cap s.size (old ++ us) w w' := by
  have mixed := L.mixed
  have t5 := L.t5; have a5 := L.a5; have z5 := L.z5; have v5 := L.v5
  have t130 := L.t130; have a130 := L.a130; have z130 := L.z130; have v130 := L.v130
  have t75 := L.t75; have a75 := L.a75; have z75 := L.z75; have v75 := L.v75
  have t0 := L.t0; have a0 := L.a0; have z0 := L.z0; have v0 := L.v0
  have t93 := L.t93; have u93 := run_underlying L.t93; have a93 := L.a93; have z93 := L.z93; have v93 := L.v93
  have t91 := L.t91; have a91 := L.a91; have z91 := L.z91; have v91 := L.v91
  have t3 := L.t3; have a3 := L.a3; have z3 := L.z3; have v3 := L.v3
  have t131 := L.t131; have a131 := L.a131; have z131 := L.z131; have v131 := L.v131
  have t4 := L.t4; have a4 := L.a4; have z4 := L.z4; have v4 := L.v4
  have t37 := L.t37; have a37 := L.a37; have z37 := L.z37; have v37 := L.v37
  have t9 := L.t9; have a9 := L.a9; have z9 := L.z9; have v9 := L.v9
  have e251 : ∀ args w, (callFunc (ρ.f 251) args).run P w = .ok (.enter (ρ.f 251) args) w := Go.Proofs.enters_of L.f251 (by kernel_rfl) rfl
  have e252 : ∀ args w, (callFunc (ρ.f 252) args).run P w = .ok (.enter (ρ.f 252) args) w := Go.Proofs.enters_of L.f252 (by kernel_rfl) rfl
  have c2 := hbk.c2
  have f2 := hbk.f 2
  have hbw := hbk.lt
  have hao : ∀ g, ao = some ⟨g, 0, none⟩ → g ≠ b := fun g hg => by
    rcases hrow with ⟨h, _⟩ | ⟨g', _, _, h, _, h2, _⟩
    · rw [h] at hg; cases hg
    · rw [h] at hg; injection hg with hg; injection hg with hg; rw [← hg]; exact h2
  have hb0 : BufB T b ao l cap 0 (w.setCell ⟨b, 2, none⟩ (.int .i8 0)) := hbk.set2
  have hr0 : BufRow b ao l cap old (w.setCell ⟨b, 2, none⟩ (.int .i8 0)) := hrow.OV (fun j hj => dK _ hj)
  obtain ⟨i0, hi, hz0, hz1, hz2⟩ := info_parts L.i5
  have tail : ∀ W1 g cap', Roomy T b ao l cap s.size old (w.setCell ⟨b, 2, none⟩ (.int .i8 0)) W1 g cap' → ∃ W2, W1.cell? ⟨b, 0, none⟩ = some (.slice (some ⟨g, 0, none⟩) (l + s.size) cap') ∧ (Builtin.copy_ #[(ρ.t 37), (ρ.t 9)] (ρ.t 3) #[.slice (some ⟨g, l, none⟩) s.size (cap' - l), .string s]).run P W1 = .ok (goInt s.size) W2 ∧ cap' ≤ 9223372036854775807 ∧ l + s.size ≤ cap' ∧
      Wrote T b ao l cap s.size (old ++ us) w W2 := fun W1 g cap' hR => by
    have hR' := hR.back hbw hao
    have hsr := hsrc W1 hR'.1
    have hul : us.length = s.size := by have := hsr.size; omega
    obtain ⟨h1, cur, t, lr', h2, h3, h4, h5, h6, h7, h8, h9⟩ := hR
    refine ⟨_, h2.c0, Jq L.t37 hi (by simpa using hz1) hsr h3 (Nat.le_refl _) (by omega), by unfold maxLen at h6; omega, h5, hR'.wrote hul (fun cur' t' h => ?_) (fun k hk => setRow_other _ _ _ _ hk) (by simp) rfl rfl rfl⟩
    obtain ⟨rfl, rfl⟩ := CellsAt.uniq h3 h
    refine ⟨_, ?_, ?_, h.setRow ?_⟩
    · simp only [List.size_toArray, List.length_append, List.length_take, List.length_drop, Array.length_toList, hul]; omega
    · simp only [List.toList_toArray]
      rw [List.take_append_of_le_length (by simp only [List.length_append, List.length_take, Array.length_toList]; omega), List.take_of_length_le (by simp only [List.length_append, List.length_take, Array.length_toList]; omega)]
    · simp only [List.size_toArray, List.length_append, List.length_take, List.length_drop, Array.length_toList, hul]; omega
  clear hbk hrow hsrc
  go_enter L.f178, Body.n178_ntmps ρ
  go_wp2_with (go_at_fn (ρ.f 251); refine (OU { L with } T b ao l cap s.size 0 old _ ?_ ?_ hn).mono ?_)
  · exact hb0
  · exact hr0
  rintro e W1 (⟨rfl, g, cap', hR⟩ | ⟨rfl, rfl, hno⟩)
  · obtain ⟨W2, d0, hcp, hcm, hle, hend⟩ := tail W1 g cap' hR
    have hne : ¬ cap' = l := by omega
    clear c2 f2 hb0 hr0 tail hR
    go_wp2
    go_ret2
    exact ⟨rfl, hend⟩
  · go_wp2_with (go_at_fn (ρ.f 252); refine (Mm { L with } T b ao l cap s.size 0 old _ ?_ ?_ hn hno hlim).mono ?_)
    · exact hb0
    · exact hr0
    rintro e W1 ⟨rfl, g, cap', hR⟩
    obtain ⟨W2, d0, hcp, hcm, hle, hend⟩ := tail W1 g cap' hR
    have hne : ¬ cap' = l := by omega
    clear c2 f2 hb0 hr0 tail hR
    go_wp2
    go_ret2
    exact ⟨rfl, hend⟩
set_option maxHeartbeats 6400000 in
set_option maxRecDepth 100000 in
theorem Tq (L : LaysM.n180 P ρ) (T : TypeId) (b : Nat) (ao : Option Addr) (l cap : Nat) (lr : Int) (old us : List Value) (w : World) (a : Addr) (n c : Nat) (hbk : BufB T b ao l cap lr w) (hrow : BufRow b ao l cap old w) (hn : 1 ≤ n) (hlim : l + n ≤ 140737488355328) (hsrc : ∀ W, Only b w W → Src P W 1 (.slice (some a) n c) n us) :
    Calls P (ρ.f 180) #[.pointer (some ⟨b, 0, none⟩), .slice (some a) n c] w fun e w' => e = .returned (.tuple #[.int .i64 n, .nilIface]) ∧ Wrote T b ao l cap n (old ++ us) w w' := by
  have mixed := L.mixed
  have t5 := L.t5; have a5 := L.a5; have z5 := L.z5; have v5 := L.v5
  have t130 := L.t130; have a130 := L.a130; have z130 := L.z130; have v130 := L.v130
  have t75 := L.t75; have a75 := L.a75; have z75 := L.z75; have v75 := L.v75
  have t0 := L.t0; have a0 := L.a0; have z0 := L.z0; have v0 := L.v0
  have t93 := L.t93; have u93 := run_underlying L.t93; have a93 := L.a93; have z93 := L.z93; have v93 := L.v93
  have t91 := L.t91; have a91 := L.a91; have z91 := L.z91; have v91 := L.v91
  have t3 := L.t3; have a3 := L.a3; have z3 := L.z3; have v3 := L.v3
  have t131 := L.t131; have a131 := L.a131; have z131 := L.z131; have v131 := L.v131
  have t4 := L.t4; have a4 := L.a4; have z4 := L.z4; have v4 := L.v4
  have t37 := L.t37; have a37 := L.a37; have z37 := L.z37; have v37 := L.v37
  have e251 : ∀ args w, (callFunc (ρ.f 251) args).run P w = .ok (.enter (ρ.f 251) args) w := Go.Proofs.enters_of L.f251 (by kernel_rfl) rfl
  have e252 : ∀ args w, (callFunc (ρ.f 252) args).run P w = .ok (.enter (ρ.f 252) args) w := Go.Proofs.enters_of L.f252 (by kernel_rfl) rfl
  have c2 := hbk.c2
  have f2 := hbk.f 2
  have hbw := hbk.lt
  have hao : ∀ g, ao = some ⟨g, 0, none⟩ → g ≠ b := fun g hg => by
    rcases hrow with ⟨h, _⟩ | ⟨g', _, _, h, _, h2, _⟩
    · rw [h] at hg; cases hg
    · rw [h] at hg; injection hg with hg; injection hg with hg; rw [← hg]; exact h2
  have hb0 : BufB T b ao l cap 0 (w.setCell ⟨b, 2, none⟩ (.int .i8 0)) := hbk.set2
  have hr0 : BufRow b ao l cap old (w.setCell ⟨b, 2, none⟩ (.int .i8 0)) := hrow.OV (fun j hj => dK _ hj)
  obtain ⟨i0, hi, hz0, hz1, hz2⟩ := info_parts L.i5
  have tail : ∀ W1 g cap', Roomy T b ao l cap n old (w.setCell ⟨b, 2, none⟩ (.int .i8 0)) W1 g cap' → ∃ W2, W1.cell? ⟨b, 0, none⟩ = some (.slice (some ⟨g, 0, none⟩) (l + n) cap') ∧ (Builtin.copy_ #[(ρ.t 37), (ρ.t 37)] (ρ.t 3) #[.slice (some ⟨g, l, none⟩) n (cap' - l), .slice (some a) n c]).run P W1 = .ok (goInt n) W2 ∧ cap' ≤ 9223372036854775807 ∧ l + n ≤ cap' ∧
      Wrote T b ao l cap n (old ++ us) w W2 := fun W1 g cap' hR => by
    have hR' := hR.back hbw hao
    have hsr := hsrc W1 hR'.1
    have hul : us.length = n := by have := hsr.size; omega
    obtain ⟨h1, cur, t, lr', h2, h3, h4, h5, h6, h7, h8, h9⟩ := hR
    refine ⟨_, h2.c0, Jq L.t37 hi (by simpa using hz1) hsr h3 (Nat.le_refl _) (by omega), by unfold maxLen at h6; omega, h5, hR'.wrote hul (fun cur' t' h => ?_) (fun k hk => setRow_other _ _ _ _ hk) (by simp) rfl rfl rfl⟩
    obtain ⟨rfl, rfl⟩ := CellsAt.uniq h3 h
    refine ⟨_, ?_, ?_, h.setRow ?_⟩
    · simp only [List.size_toArray, List.length_append, List.length_take, List.length_drop, Array.length_toList, hul]; omega
    · simp only [List.toList_toArray]
      rw [List.take_append_of_le_length (by simp only [List.length_append, List.length_take, Array.length_toList]; omega), List.take_of_length_le (by simp only [List.length_append, List.length_take, Array.length_toList]; omega)]
    · simp only [List.size_toArray, List.length_append, List.length_take, List.length_drop, Array.length_toList, hul]; omega
  clear hbk hrow hsrc
  go_enter L.f180, Body.n180_ntmps ρ
  go_wp2_with (go_at_fn (ρ.f 251); refine (OU { L with } T b ao l cap n 0 old _ ?_ ?_ hn).mono ?_)
  · exact hb0
  · exact hr0
  rintro e W1 (⟨rfl, g, cap', hR⟩ | ⟨rfl, rfl, hno⟩)
  · obtain ⟨W2, d0, hcp, hcm, hle, hend⟩ := tail W1 g cap' hR
    have hne : ¬ cap' = l := by omega
    clear c2 f2 hb0 hr0 tail hR
    go_wp2
    go_ret2
    exact ⟨rfl, hend⟩
  · go_wp2_with (go_at_fn (ρ.f 252); refine (Mm { L with } T b ao l cap n 0 old _ ?_ ?_ hn hno hlim).mono ?_)
    · exact hb0
    · exact hr0
    rintro e W1 ⟨rfl, g, cap', hR⟩
    obtain ⟨W2, d0, hcp, hcm, hle, hend⟩ := tail W1 g cap' hR
    have hne : ¬ cap' = l := by omega
    clear c2 f2 hb0 hr0 tail hR
    go_wp2
    go_ret2
    exact ⟨rfl, hend⟩
end Go.Sh
namespace Go.Sh
open Go.RowKit Go.Proofs Go.Shelf
set_option linter.unusedSimpArgs false
set_option linter.unusedVariables false
variable {P : Program} {ρ : Ren}
theorem NQ {A B : AV} {u x y : Value} (hA : owns A x = []) (hB : owns B y = []) (l : List Int) : aF [.ints false .u8 l, A, B] [u, x, y] = [] := by
  show owns (.ints false .u8 l) u ++ (owns A x ++ (owns B y ++ [])) = []
  rw [hA, hB]
  have : owns (.ints false .u8 l) u = [] := jk (.ints true .u8 l) u
  rw [this]; rfl
theorem NR {F : Nat → Prop} {g : Gh} {os : List Rec} {w : World} {t : TypeId} {l : List Int} (h : Core F g [.buf 1 t l] os w) : ∃ b ao cap lr, g.obj = [b] ∧ BufB t b ao l.length cap lr w ∧ BufRow b ao l.length cap (l.map (Value.int .u8)) w ∧
    (∀ n all w', Wrote t b ao l.length cap n all w w' → ∀ m : List Int, m.length = n → 1 ≤ n → all = (l ++ m).map (Value.int .u8) → ∃ g', g'.obj = g.obj ∧ Core F g' [.buf 1 t (l ++ m)] os w' ∧ Step F g w g' w') ∧ VR g w (.ints false .u8 l) (.slice ao l.length cap) ∧ l.length ≤ maxLen ∧ l.length ≤ cap := by
  obtain ⟨b, hb, hob⟩ := Tk h.heap
  simp only [ObjR] at hob
  obtain ⟨u, lr, hw, hu, hnil, hmax⟩ := hob
  have hu' := hu
  simp only [VR] at hu
  obtain ⟨ao, n0, cap, rfl, hrow⟩ := hu
  have hn : n0 = l.length := by have := hrow.1; simp at this; omega
  subst hn
  have hcm := hmax _ _ _ rfl
  have hown : owns (.ints true .u8 l) (.slice ao l.length cap) = recs ao (l.length * 1) (cap * 1) := by cases ao <;> simp [owns, recs]
  have hO : fC w b (.buf 1 t l) = recs ao (l.length * 1) (cap * 1) := by
    rw [← hown]
    simp only [fC, hw]; rfl
  have hH : bi w [.buf 1 t l] g.obj = recs ao (l.length * 1) (cap * 1) := by
    rw [hb]
    show fC w b _ ++ [] = _
    rw [hO, List.append_nil]
  have hne : ∀ ad, ao = some ad → ad.block ≠ b := fun ad he e => by
    have h2 := h.dist b
    rw [hH, hb, he, ← e] at h2
    simp [recs, oc, lives, AObj.dead] at h2
  have hbl := (Array.getElem?_eq_some_iff.1 hw).1
  have hBufRow : BufRow b ao l.length cap (l.map (Value.int .u8)) w := by
    cases ao with
    | none =>
      obtain ⟨e1, e2⟩ := hrow.2.2.2.2.2.1 rfl
      have : l = [] := List.length_eq_zero_iff.1 e1
      subst this
      exact .inl ⟨rfl, rfl, e2, rfl⟩
    | some ad =>
      obtain ⟨e1, e2⟩ := hrow.2.2.2.2.1 rfl ad rfl
      obtain ⟨g0, off, sp⟩ := ad
      simp only at e1 e2
      subst e1 e2
      have hl0 : l ≠ [] := fun e => by have := hnil e; injection this with this; cases this
      obtain ⟨o1, o2, arr, tt, o3, o4⟩ := h.own (g0, l.length * 1, cap * 1) (.inr (by rw [hH]; simp [recs]))
      simp only at o1 o2 o3 o4
      refine .inr ⟨g0, arr, tt, rfl, fun e => hl0 (List.length_eq_zero_iff.1 e), hne _ rfl, o3, by omega, hrow.2.1, hcm, ?_, fun v hv => by obtain ⟨_, _, rfl⟩ := List.mem_map.1 hv; rfl⟩
      obtain ⟨ad, he, hrd⟩ := hrow.2.2.2.1 (by simpa using List.length_pos_iff.2 hl0)
      injection he with he
      subst he
      obtain ⟨rest, hrest⟩ := Md hrd (by simp; omega) o3
      rw [hrest, List.take_append_of_le_length (by simp), List.take_of_length_le (by simp)]
  refine ⟨b, ao, cap, lr, hb, hw, hBufRow, fun n all w' hW m hm hn1 hall => ?_, VR.disown (.ints true .u8 l) _ hu', Nat.le_trans hrow.2.1 hcm, hrow.2.1⟩
  obtain ⟨k1, k2, k3, k4, g0, cap', cur, tt, lr', k5, k6, k7, k8, k9, k10, k11, k12, k13⟩ := hW
  have hO2 : fC w b (.cells t [.ints false .u8 l, .int .i64 0, .int .i8 lr]) = [] := by
    simp only [fC, hw]
    exact NQ rfl rfl l
  obtain ⟨e1, e2, e3⟩ := h.Ld (id := 0) (ob := .buf 1 t l) (ob' := .cells t [.ints false .u8 l, .int .i64 0, .int .i8 lr]) (os0 := recs ao (l.length * 1) (cap * 1)) (os1 := []) (os' := recs ao (l.length * 1) (cap * 1) ++ os) (w' := w) rfl (by rw [hb]; rfl) rfl (fun _ _ => rfl) (Nat.le_refl _) rfl rfl rfl rfl hO hO2 (fun ext => by
      simp only [ObjR]
      refine ⟨_, hw, ?_⟩
      simp only [VRs]
      exact ⟨_, _, rfl, VR.disown (.ints true .u8 l) _ hu', _, _, rfl, by simp only [VR], _, _, rfl, by simp only [VR], rfl⟩) (fun x => by simp only [ax, l7]; omega) (fun r hr => by
      rcases hr with hr | hr
      · rcases List.mem_append.1 hr with hr | hr
        · exact .inr hr
        · exact .inl hr
      · simp at hr)
  rw [show ([AObj.buf 1 t l].set 0 (.cells t [.ints false .u8 l, .int .i64 0, .int .i8 lr])) = [.cells t [.ints false .u8 l, .int .i64 0, .int .i8 lr]] from rfl] at e3
  generalize hw1 : ({ w' with heap := w'.heap.setIfInBounds b (.cells #[.slice ao l.length cap, .int .i64 0, .int .i8 lr] t (0, 0)) } : World) = w1
  have hblt : b < w'.heap.size := by omega
  have h1b : w1.heap[b]? = w.heap[b]? := by rw [← hw1, hw]; simp [Array.getElem?_setIfInBounds_self_of_lt hblt]
  have h1o : ∀ k, k ≠ b → w1.heap[k]? = w'.heap[k]? := fun k hk => by rw [← hw1]; simp [Array.getElem?_setIfInBounds_ne (Ne.symm hk)]
  have h1s : w1.heap.size = w'.heap.size := by rw [← hw1]; simp
  have h1os : w1.os = w.os := by rw [← hw1]; exact k1
  have h1t : w1.tape = w.tape := by rw [← hw1]; exact k2
  have h1out : w1.output = w.output := by rw [← hw1]; exact k3
  have h1c : CellsAt w1 g0 cur tt := k6.of_heap (h1o g0 k10)
  have hlm : (l ++ m).length = l.length + n := by simp [hm]
  have hcur : ∀ j, j < l.length + n → cur[j]? = ((l ++ m).map (Value.int .u8))[j]? := fun j hj => by
    have : (cur.toList.take (l.length + n))[j]? = cur.toList[j]? := by rw [List.getElem?_take, if_pos hj]
    rw [← hall, ← k11, this]; simp
  have mid : ∃ g', g'.obj = g.obj ∧ Ext g w g' w1 ∧ Step F g w g' w1 ∧ Core F g' [.cells t [.ints false .u8 l, .int .i64 0, .int .i8 lr]] (recs (some ⟨g0, 0, none⟩) (l.length + n) cap' ++ os) w1 ∧ g'.len g0 = l.length + n := by
    rcases k12 with ⟨rfl, rfl, q1, q2, q3⟩ | rfl
    · obtain ⟨o1, o2, arr, t0, o3, o4⟩ := e3.own (g0, l.length * 1, cap' * 1) (.inl (by simp [recs]))
      simp only at o1 o2 o3 o4
      have ht0 : t0 = tt := by have := o3.ty; rw [q2] at this; injection this with this; exact this.symm
      subst ht0
      rw [o3.bsz] at q1
      have hrd : Reads g w ⟨g0, 0, none⟩ (l.map (Value.int .u8)) ∨ l = [] := by
        rcases List.eq_nil_or_concat l with e | e
        · exact .inr e
        · obtain ⟨ad, he, hrd⟩ := hrow.2.2.2.1 (by obtain ⟨x, y, rfl⟩ := e; simp)
          injection he with he
          subst he
          exact .inl hrd
      obtain ⟨z1, z2, z3⟩ := e3.write (b := g0) (n := l.length * 1) (cp := cap' * 1) (n' := l.length + n) (arr := arr) (arr' := cur) (t := t0) (w' := w1) o3 h1c (fun k hk => by
        by_cases e : k = b
        · subst e; exact h1b
        · rw [h1o k e]
          rcases Nat.lt_or_ge k w.heap.size with hl | hl
          · exact k13 k hl e hk
          · rw [Array.getElem?_eq_none hl, Array.getElem?_eq_none (by omega)]) (by rw [h1s]; exact q3) h1os h1t h1out q1 (fun j hj => by
        rw [hcur j (by omega)]
        rcases hrd with hrd | hrd
        · have := hrd.2.2 j (by simp; omega)
          rw [Nat.zero_add, o3.cell] at this
          rw [this, List.map_append, List.getElem?_append_left (by simp; omega)]
        · subst hrd; simp at hj) (by omega) (by omega)
      exact ⟨g.set g0 (l.length + n), rfl, z1, z2, by simpa [recs] using z3, by simp [Gh.set]⟩
    · obtain ⟨z1, z2, z3⟩ := (e3.weaken (os' := os) (fun r hr => List.mem_append_right _ hr) (fun b => by rw [ax]; omega)).Oh (w' := w1) (fun k hk => by
        by_cases e : k = b
        · subst e; exact h1b
        · rw [h1o k e]
          exact k13 k hk e (by omega)) (by rw [h1s]; have := h1c.lt; omega) h1os h1t h1out (l.length + n) cap' h1c k8 k7
      exact ⟨g.set w.heap.size (l.length + n), rfl, z1, z2, by simpa [recs] using z3, by simp [Gh.set]⟩
  obtain ⟨g', m1, m2, m3, m4, m5⟩ := mid
  have hrow' : Row g' w1 true (some ⟨g0, 0, none⟩) (l ++ m).length cap' 1 ((l ++ m).map (Value.int .u8)) := by
    refine ⟨by simp, by rw [hlm]; exact k8, Nat.zero_le _, fun _ => ⟨_, rfl, rfl, by rw [m5, List.length_map, hlm]; exact Nat.le_of_eq (Nat.zero_add _), fun j hj => ?_⟩, fun _ ad h => by injection h with h; subst h; exact ⟨rfl, rfl⟩, fun h => (by cases h), fun v hv => by obtain ⟨_, _, rfl⟩ := List.mem_map.1 hv; rfl⟩
    rw [Nat.zero_add, h1c.cell]
    exact hcur j (by rw [List.length_map, hlm] at hj; exact hj)
  have hw1b : w1.heap[b]? = some (.cells #[.slice ao l.length cap, .int .i64 0, .int .i8 lr] t (0, 0)) := by rw [h1b]; exact hw
  have hown' : owns (.ints true .u8 (l ++ m)) (.slice (some ⟨g0, 0, none⟩) (l ++ m).length cap') = recs (some ⟨g0, 0, none⟩) (l.length + n) cap' := by simp [owns, recs, hm]
  have k5' : w'.heap[b]? = some (.cells #[.slice (some ⟨g0, 0, none⟩) (l.length + n) cap', .int .i64 0, .int .i8 lr'] t (0, 0)) := k5
  obtain ⟨y1, y2, y3⟩ := m4.Ld (id := 0) (ob' := .buf 1 t (l ++ m)) (os0 := []) (os1 := recs (some ⟨g0, 0, none⟩) (l.length + n) cap') (os' := os) (w' := w') rfl (by rw [m1, hb]; rfl) rfl (fun k hk => (h1o k hk).symm) (by rw [xw hw1b, xw k5']; exact Nat.le_refl _) h1s.symm (by rw [← hw1]) (by rw [← hw1]) (by rw [← hw1]) (by
      simp only [fC, hw1b]
      exact NQ rfl rfl l) (by
      rw [← hown']
      simp only [fC, k5']
      rw [hlm]; rfl) (fun ext => by
      simp only [ObjR]
      refine ⟨_, lr', k5', ?_, fun hl => ?_, fun a n1 c1 he => ?_⟩
      · simp only [VR]
        exact ⟨_, _, _, rfl, by rw [← hlm]; exact hrow'.ext ext⟩
      · have := congrArg List.length hl
        rw [hlm] at this
        simp at this
        omega
      · injection he with _ _ he
        omega) (fun x => by simp only [ax, l7]; omega) (fun r hr => by
      rcases hr with hr | hr
      · exact .inl (List.mem_append_right _ hr)
      · exact .inl (List.mem_append_left _ hr))
  exact ⟨g', m1, y3, m3.trans y2⟩
def CV (q : List AV → List Int → (R : Type) → (AV → List Int → Option R) → Option R) : FSpec := fun vs hs R K => match vs, hs with
  | .ptr (some (0, 0)) :: ws, [.buf 1 t l] => q ws l R fun v m => K v [.buf 1 t (l ++ m)]
  | _, _ => none
def OW : List AV → List Int → (R : Type) → (AV → List Int → Option R) → Option R := fun ws l R k => match ws with
  | [.int .u8 c] => cond (decide (l.length + 1 ≤ 140737488355328)) (k .nilIface [c]) none
  | _ => none
def J2 : List AV → List Int → (R : Type) → (AV → List Int → Option R) → Option R := fun ws l R k => match ws with
  | [.str s] => cond (decide (0 < s.length) && decide (l.length + s.length ≤ 140737488355328)) (k (.tuple [.int .i64 (s.length : Int), .nilIface]) (au s)) none
  | _ => none
def Mo : List AV → List Int → (R : Type) → (AV → List Int → Option R) → Option R := fun ws l R k => match ws with
  | [.ints _ .u8 m] => cond (decide (0 < m.length) && decide (l.length + m.length ≤ 140737488355328)) (k (.tuple [.int .i64 (m.length : Int), .nilIface]) m) none
  | _ => none
theorem IR {f : FuncId} {q : List AV → List Int → (R : Type) → (AV → List Int → Option R) → Option R} (he : ∀ (args : Array Value) (w : World), (callFunc f args).run P w = .ok (.enter f args) w)
    (hq : ∀ (ws : List AV) (l : List Int) (R : Type) (k : AV → List Int → Option R) (r : R), q ws l R k = some r → ∃ v m, k v m = some r ∧ m ≠ [] ∧ ∃ v' : Value, owns v v' = [] ∧ (∀ (g : Gh) (w : World), VR g w v v') ∧
      ∀ (g : Gh) (us : List Value) (w : World) (T : TypeId) (b : Nat) (ao : Option Addr) (cap : Nat) (lr : Int), VRs g w ws us → g.len b = 0 → (∀ k, 0 < g.len k → k < w.heap.size) → BufB T b ao l.length cap lr w → BufRow b ao l.length cap (l.map (Value.int .u8)) w →
        Calls P f (#[.pointer (some ⟨b, 0, none⟩)] ++ us.toArray) w fun e w' => e = .returned v' ∧ Wrote T b ao l.length cap m.length ((l ++ m).map (Value.int .u8)) w w') : FSound P f (CV q) := by
  refine ⟨he, fun args H R k r h => ?_⟩
  unfold CV at h
  split at h
  case h_2 => cases h
  rename_i ws t l
  obtain ⟨v, m, hk, hm0, v', ho, hv, hrun⟩ := hq ws l R _ r h
  refine ⟨_, _, hk, fun F g vs w hvs hc => ?_⟩
  obtain ⟨v0, us, rfl, hv0, hus⟩ := Bb hvs
  obtain ⟨b, rfl, hb⟩ := U0 hv0
  have hc' : Core F g [.buf 1 t l] [] w := hc.weaken (fun r hr => by simp at hr) (fun b => by rw [l7]; omega)
  obtain ⟨b', ao, cap, lr, hb', hB, hR, hfin, _, _, _⟩ := NR hc'
  rw [hb'] at hb
  simp only [List.getElem?_cons_zero, Option.some.injEq] at hb
  subst hb
  have hcall := hrun g us w t b' ao cap lr hus (hc'.objlen b' (by rw [hb']; simp [lives, AObj.dead])) hc'.lenlt hB hR
  have harr : (Value.pointer (some ⟨b', 0, none⟩) :: us).toArray = #[.pointer (some ⟨b', 0, none⟩)] ++ us.toArray := by simp
  rw [harr]
  refine hcall.mono ?_
  rintro e w' ⟨rfl, hW⟩
  obtain ⟨g', k1, k2, k3⟩ := hfin m.length _ w' hW m rfl (List.length_pos_iff.2 hm0) rfl
  exact ⟨v', g', rfl, hv _ _, by rw [k1]; exact List.prefix_refl _, by rw [ho]; exact k2, k3⟩
theorem Qb (L : LaysM.n179 P ρ) : FSound P (ρ.f 179) (CV OW) := by
  refine IR (Go.Proofs.enters_of L.f179 (by kernel_rfl) rfl) fun ws l R k r h => ?_
  unfold OW at h
  split at h
  case h_2 => cases h
  rename_i c
  obtain ⟨h1, h2⟩ | ⟨_, h2⟩ := af h
  case inr => cases h2
  simp only [decide_eq_true_eq] at h1
  refine ⟨_, _, h2, by simp, .nilIface, rfl, fun g w => by simp only [VR], fun g us w T b ao cap lr hus _ _ hB hR => ?_⟩
  obtain ⟨v1, _, rfl, hv1, hv⟩ := Bb hus
  obtain rfl := Jm hv
  obtain rfl := Xb hv1
  refine (MZ L T b ao l.length cap lr _ c w hB hR h1).mono ?_
  rintro e w' ⟨rfl, hW⟩
  exact ⟨rfl, by simpa using hW⟩
theorem M0 (L : LaysM.n178 P ρ) : FSound P (ρ.f 178) (CV J2) := by
  refine IR (Go.Proofs.enters_of L.f178 (by kernel_rfl) rfl) fun ws l R k r h => ?_
  unfold J2 at h
  split at h
  case h_2 => cases h
  rename_i s
  obtain ⟨h1, h2⟩ | ⟨_, h2⟩ := af h
  case inr => cases h2
  simp only [Bool.and_eq_true, decide_eq_true_eq] at h1
  have hl : (au s).length = s.length := by simp [au]
  refine ⟨_, _, h2, fun e => by rw [e] at hl; simp at hl; omega, .tuple #[.int .i64 (s.length : Int), .nilIface], rfl, fun g w => by simp only [VR]; exact ⟨_, rfl, by simp only [VRs, VR]; exact ⟨_, _, rfl, rfl, _, _, rfl, rfl, rfl⟩⟩, fun g us w T b ao cap lr hus _ _ hB hR => ?_⟩
  obtain ⟨v1, _, rfl, hv1, hv⟩ := Bb hus
  obtain rfl := Jm hv
  obtain ⟨s1, rfl, rfl⟩ := Xa hv1
  have hsz : s1.size = s1.data.toList.length := by simp
  refine (KQ L T b ao l.length cap lr _ (Lib.strCells s1) w s1 hB hR (by omega) (by omega) (fun W _ => Iz W s1)).mono ?_
  rintro e w' ⟨rfl, hW⟩
  refine ⟨by rw [hsz], ?_⟩
  rw [strCells_eq, ← List.map_append] at hW
  rw [hl, ← hsz]
  exact hW
theorem OX (L : LaysM.n180 P ρ) : FSound P (ρ.f 180) (CV Mo) := by
  refine IR (Go.Proofs.enters_of L.f180 (by kernel_rfl) rfl) fun ws l R k r h => ?_
  unfold Mo at h
  split at h
  case h_2 => cases h
  rename_i own m
  obtain ⟨h1, h2⟩ | ⟨_, h2⟩ := af h
  case inr => cases h2
  simp only [Bool.and_eq_true, decide_eq_true_eq] at h1
  refine ⟨_, _, h2, fun e => by rw [e] at h1; simp at h1, .tuple #[.int .i64 (m.length : Int), .nilIface], rfl, fun g w => by simp only [VR]; exact ⟨_, rfl, by simp only [VRs, VR]; exact ⟨_, _, rfl, rfl, _, _, rfl, rfl, rfl⟩⟩, fun g us w T b ao cap lr hus hb0 hlt hB hR => ?_⟩
  obtain ⟨v1, _, rfl, hv1, hv⟩ := Bb hus
  obtain rfl := Jm hv
  simp only [VR] at hv1
  obtain ⟨a, n, c, rfl, hrow⟩ := hv1
  have hn : n = m.length := by have := hrow.1; simp at this; omega
  subst hn
  obtain ⟨ad, rfl, hrd⟩ := hrow.2.2.2.1 (by simp; omega)
  have hne : ad.block ≠ b := fun e => by
    have := hrd.2.1
    rw [e, hb0, List.length_map] at this
    omega
  have hlb : ad.block < w.heap.size := hlt _ (by have := hrd.2.1; simp at this; omega)
  refine (Tq L T b ao l.length cap lr _ (m.map (Value.int .u8)) w ad m.length c hB hR (by omega) (by omega) (fun W hW => ?_)).mono ?_
  · obtain ⟨bb, off, sp⟩ := ad
    have hs := hrd.1
    simp only at hs
    subst hs
    refine JY (fun _ => rfl) (by simp) (fun u hu => by obtain ⟨_, _, rfl⟩ := List.mem_map.1 hu; rfl) (fun j hj => ?_)
    rw [World.cell?_of_block (a := ⟨bb, off + j, none⟩) (hW.2.2.2.2 bb hlb hne)]
    exact hrd.2.2 j hj
  · rintro e w' ⟨rfl, hW⟩
    refine ⟨rfl, ?_⟩
    rw [← List.map_append] at hW
    exact hW
set_option maxRecDepth 100000 in
theorem Tt (L : LaysM.n183 P ρ) (b : Nat) (ao : Option Addr) (l cap : Nat) (w : World) (c0 : w.cell? ⟨b, 0, none⟩ = some (.slice ao l cap)) (c1 : w.cell? ⟨b, 1, none⟩ = some (.int .i64 0)) (hmax : l ≤ maxLen) (hlc : l ≤ cap) :
    Calls P (ρ.f 183) #[.pointer (some ⟨b, 0, none⟩)] w fun e w' => e = .returned (.slice ao l cap) ∧ ∃ n, w' = w.drewN n := by
  have mixed := L.mixed
  have t5 := L.t5; have a5 := L.a5; have z5 := L.z5; have v5 := L.v5
  have t130 := L.t130; have a130 := L.a130; have z130 := L.z130; have v130 := L.v130
  have t3 := L.t3; have a3 := L.a3; have z3 := L.z3; have v3 := L.v3
  have t0 := L.t0; have a0 := L.a0; have z0 := L.z0; have v0 := L.v0
  have t93 := L.t93; have u93 := run_underlying L.t93; have a93 := L.a93; have z93 := L.z93; have v93 := L.v93
  have t37 := L.t37; have a37 := L.a37; have z37 := L.z37; have v37 := L.v37
  unfold maxLen at hmax
  go_enter L.f183, Body.n183_ntmps ρ
  go_wp2
  go_region_o
  all_goals (go_wp2; go_ret; exact ⟨by simp, 1, rfl⟩)
def bytes_sp : FSpec := fun vs hs R K => match vs, hs with
  | [.ptr (some (0, 0))], [.buf 1 t l] => K (.ints false .u8 l) [.buf 1 t l]
  | _, _ => none
theorem Qc (L : LaysM.n183 P ρ) : FSound P (ρ.f 183) bytes_sp := by
  refine ⟨Go.Proofs.enters_of L.f183 (by kernel_rfl) rfl, fun args H R k r h => ?_⟩
  unfold bytes_sp at h
  split at h
  case h_2 => cases h
  rename_i t l
  refine ⟨_, _, h, fun F g vs w hvs hc => ?_⟩
  obtain ⟨v0, us, rfl, hv0, hv⟩ := Bb hvs
  obtain rfl := Jm hv
  obtain ⟨b, rfl, hb⟩ := U0 hv0
  have hc' : Core F g [.buf 1 t l] [] w := hc.weaken (fun r hr => by simp at hr) (fun b => by rw [l7]; omega)
  obtain ⟨b', ao, cap, lr, hb', hB, hR, _, hvr, hmax, hlc⟩ := NR hc'
  rw [hb'] at hb
  simp only [List.getElem?_cons_zero, Option.some.injEq] at hb
  subst hb
  refine (Tt L b' ao l.length cap w hB.c0 hB.c1 hmax hlc).mono ?_
  rintro e w' ⟨rfl, n, rfl⟩
  obtain ⟨e1, e2, e3⟩ := hc'.below (w' := w.drewN n) ⟨rfl, rfl, rfl, Nat.le_refl _, fun _ _ => rfl⟩
  have h0 : owns (.ints false .u8 l) (.slice ao l.length cap) = [] := jk (.ints true .u8 l) _
  exact ⟨_, g, rfl, VR.ext e1 _ _ hvr, List.prefix_refl _, by rw [h0]; exact e3, e2⟩
end Go.Sh

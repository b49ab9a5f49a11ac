/- Regions whose order is drawn: operations by number, moved past each other. -/
import Derived.Test.YtcbgfjghebopoaaDoorSR
namespace Go.Sh
open Go.RowKit
set_option linter.unusedSimpArgs false
set_option linter.unusedVariables false
variable {c : Cx}

/-- Other numbers there and back. -/
theorem back_of {ids : List Nat} {i j : Nat} (h : toPos ids i = some j) : backTo ids j = some i := toPos_some h
mutual
theorem ren_back {ids : List Nat} : ∀ (a a' : AV), Sh.ren (toPos ids) a = some a' → Sh.ren (backTo ids) a' = some a
  | .ptr (some (id, off)), a', h => by
    simp only [Sh.ren] at h
    obtain ⟨j, h1, h2⟩ := Option.bind_eq_some_iff.1 h
    injection h2 with h2
    subst h2
    simp [Sh.ren, back_of h1]
  | .agg cs, a', h => by
    simp only [Sh.ren] at h
    obtain ⟨cs', h1, h2⟩ := Option.bind_eq_some_iff.1 h
    injection h2 with h2
    subst h2
    simp [Sh.ren, renL_back cs cs' h1]
  | .tuple cs, a', h => by
    simp only [Sh.ren] at h
    obtain ⟨cs', h1, h2⟩ := Option.bind_eq_some_iff.1 h
    injection h2 with h2
    subst h2
    simp [Sh.ren, renL_back cs cs' h1]
  | .func fn a b, a', h => by
    simp only [Sh.ren] at h
    obtain ⟨cs', h1, h2⟩ := Option.bind_eq_some_iff.1 h
    obtain ⟨ds', h3, h4⟩ := Option.bind_eq_some_iff.1 h2
    injection h4 with h4
    subst h4
    simp [Sh.ren, renL_back a cs' h1, renL_back b ds' h3]
  | .iface t x, a', h => by
    simp only [Sh.ren] at h
    obtain ⟨x', h1, h2⟩ := Option.bind_eq_some_iff.1 h
    injection h2 with h2
    subst h2
    simp [Sh.ren, ren_back x x' h1]
  | .mut id off m sz, a', h => by
    simp only [Sh.ren] at h
    obtain ⟨j, h1, h2⟩ := Option.bind_eq_some_iff.1 h
    injection h2 with h2
    subst h2
    simp [Sh.ren, back_of h1]
  | .mo id m tot sz, a', h => by
    simp only [Sh.ren] at h
    obtain ⟨j, h1, h2⟩ := Option.bind_eq_some_iff.1 h
    injection h2 with h2
    subst h2
    simp [Sh.ren, back_of h1]
  | .map (some id), a', h => by
    simp only [Sh.ren] at h
    obtain ⟨j, h1, h2⟩ := Option.bind_eq_some_iff.1 h
    injection h2 with h2
    subst h2
    simp [Sh.ren, back_of h1]
  | .yld id, a', h => by
    simp only [Sh.ren] at h
    obtain ⟨j, h1, h2⟩ := Option.bind_eq_some_iff.1 h
    injection h2 with h2
    subst h2
    simp [Sh.ren, back_of h1]
  | .undef, a', h | .int .., a', h | .bool .., a', h | .str .., a', h | .ints .., a', h | .strs .., a', h | .sl .., a', h | .eptr .., a', h | .ptr none, a', h | .map none, a', h | .nilFunc, a', h | .nilIface, a', h => by simp only [Sh.ren] at h; injection h with h; subst h; rfl
theorem renL_back {ids : List Nat} : ∀ (cs cs' : List AV), renL (toPos ids) cs = some cs' → renL (backTo ids) cs' = some cs
  | [], cs', h => by simp only [renL] at h; injection h with h; subst h; rfl
  | c :: cs, cs', h => by
    simp only [renL] at h
    obtain ⟨c', h1, h2⟩ := Option.bind_eq_some_iff.1 h
    obtain ⟨ds', h3, h4⟩ := Option.bind_eq_some_iff.1 h2
    injection h4 with h4
    subst h4
    simp [renL, ren_back c c' h1, renL_back cs ds' h3]
end
theorem renE_back {ids : List Nat} : ∀ (es es' : List (AV × AV)), renE (toPos ids) es = some es' → renE (backTo ids) es' = some es
  | [], es', h => by simp only [renE] at h; injection h with h; subst h; rfl
  | (k, v) :: es, es', h => by
    simp only [renE] at h
    obtain ⟨k', h1, h2⟩ := Option.bind_eq_some_iff.1 h
    obtain ⟨v', h3, h4⟩ := Option.bind_eq_some_iff.1 h2
    obtain ⟨es'', h5, h6⟩ := Option.bind_eq_some_iff.1 h4
    injection h6 with h6
    subst h6
    simp [renE, ren_back k k' h1, ren_back v v' h3, renE_back es es'' h5]
theorem renO_back {ids : List Nat} {o o' : AObj} (h : renO (toPos ids) o = some o') : renO (backTo ids) o' = some o := by
  cases o with
  | cells t cs =>
    simp only [renO] at h
    obtain ⟨cs', h1, h2⟩ := Option.bind_eq_some_iff.1 h
    injection h2 with h2
    subst h2
    simp [renO, renL_back _ _ h1]
  | map es =>
    simp only [renO] at h
    obtain ⟨es', h1, h2⟩ := Option.bind_eq_some_iff.1 h
    injection h2 with h2
    subst h2
    simp [renO, renE_back _ _ h1]
  | rowS t xs => simp only [renO] at h; injection h with h; subst h; rfl
  | rowI t k xs => simp only [renO] at h; injection h with h; subst h; rfl
  | rowC n els => simp only [renO] at h; injection h with h; subst h; rfl
  | rowN k xs => simp only [renO] at h; injection h with h; subst h; rfl
  | loop key cs =>
    simp only [renO] at h
    obtain ⟨cs', h1, h2⟩ := Option.bind_eq_some_iff.1 h
    injection h2 with h2
    subst h2
    simp [renO, renL_back _ _ h1]
  | buf kd t l => simp only [renO] at h; injection h with h; subst h; rfl
  | gone => simp only [renO] at h; injection h with h; subst h; rfl
mutual
/-- More may be renamed. -/
theorem ren_more {f f' : Nat → Option Nat} (hf : ∀ i j, f i = some j → f' i = some j) : ∀ (a a' : AV), Sh.ren f a = some a' → Sh.ren f' a = some a'
  | .ptr (some (id, off)), a', h => by
    simp only [Sh.ren] at h ⊢
    obtain ⟨j, h1, h2⟩ := Option.bind_eq_some_iff.1 h
    rw [hf _ _ h1]; exact h2
  | .agg cs, a', h => by
    simp only [Sh.ren] at h ⊢
    obtain ⟨cs', h1, h2⟩ := Option.bind_eq_some_iff.1 h
    rw [renL_more hf cs cs' h1]; exact h2
  | .tuple cs, a', h => by
    simp only [Sh.ren] at h ⊢
    obtain ⟨cs', h1, h2⟩ := Option.bind_eq_some_iff.1 h
    rw [renL_more hf cs cs' h1]; exact h2
  | .func fn a b, a', h => by
    simp only [Sh.ren] at h ⊢
    obtain ⟨cs', h1, h2⟩ := Option.bind_eq_some_iff.1 h
    obtain ⟨ds', h3, h4⟩ := Option.bind_eq_some_iff.1 h2
    rw [renL_more hf a cs' h1]
    simp only [Option.bind_some]
    rw [renL_more hf b ds' h3]; exact h4
  | .iface t x, a', h => by
    simp only [Sh.ren] at h ⊢
    obtain ⟨x', h1, h2⟩ := Option.bind_eq_some_iff.1 h
    rw [ren_more hf x x' h1]; exact h2
  | .mut id off m sz, a', h => by
    simp only [Sh.ren] at h ⊢
    obtain ⟨j, h1, h2⟩ := Option.bind_eq_some_iff.1 h
    rw [hf _ _ h1]; exact h2
  | .mo id m tot sz, a', h => by
    simp only [Sh.ren] at h ⊢
    obtain ⟨j, h1, h2⟩ := Option.bind_eq_some_iff.1 h
    rw [hf _ _ h1]; exact h2
  | .map (some id), a', h => by
    simp only [Sh.ren] at h ⊢
    obtain ⟨j, h1, h2⟩ := Option.bind_eq_some_iff.1 h
    rw [hf _ _ h1]; exact h2
  | .yld id, a', h => by
    simp only [Sh.ren] at h ⊢
    obtain ⟨j, h1, h2⟩ := Option.bind_eq_some_iff.1 h
    rw [hf _ _ h1]; exact h2
  | .undef, a', h | .int .., a', h | .bool .., a', h | .str .., a', h | .ints .., a', h | .strs .., a', h | .sl .., a', h | .eptr .., a', h | .ptr none, a', h | .map none, a', h | .nilFunc, a', h | .nilIface, a', h => by simp only [Sh.ren] at h ⊢; exact h
theorem renL_more {f f' : Nat → Option Nat} (hf : ∀ i j, f i = some j → f' i = some j) : ∀ (cs cs' : List AV), renL f cs = some cs' → renL f' cs = some cs'
  | [], cs', h => by simp only [renL] at h ⊢; exact h
  | c :: cs, cs', h => by
    simp only [renL] at h ⊢
    obtain ⟨c', h1, h2⟩ := Option.bind_eq_some_iff.1 h
    obtain ⟨ds', h3, h4⟩ := Option.bind_eq_some_iff.1 h2
    rw [ren_more hf c c' h1]
    simp only [Option.bind_some]
    rw [renL_more hf cs ds' h3]; exact h4
end
theorem renE_more {f f' : Nat → Option Nat} (hf : ∀ i j, f i = some j → f' i = some j) : ∀ (es es' : List (AV × AV)), renE f es = some es' → renE f' es = some es'
  | [], es', h => by simp only [renE] at h ⊢; exact h
  | (k, v) :: es, es', h => by
    simp only [renE] at h ⊢
    obtain ⟨k', h1, h2⟩ := Option.bind_eq_some_iff.1 h
    obtain ⟨v', h3, h4⟩ := Option.bind_eq_some_iff.1 h2
    obtain ⟨es'', h5, h6⟩ := Option.bind_eq_some_iff.1 h4
    rw [ren_more hf k k' h1]
    simp only [Option.bind_some]
    rw [ren_more hf v v' h3]
    simp only [Option.bind_some]
    rw [renE_more hf es es'' h5]; exact h6
theorem renO_more {f f' : Nat → Option Nat} (hf : ∀ i j, f i = some j → f' i = some j) {o o' : AObj} (h : renO f o = some o') : renO f' o = some o' := by
  cases o with
  | cells t cs =>
    simp only [renO] at h ⊢
    obtain ⟨cs', h1, h2⟩ := Option.bind_eq_some_iff.1 h
    rw [renL_more hf _ _ h1]; exact h2
  | map es =>
    simp only [renO] at h ⊢
    obtain ⟨es', h1, h2⟩ := Option.bind_eq_some_iff.1 h
    rw [renE_more hf _ _ h1]; exact h2
  | rowS t xs => exact h
  | rowI t k xs => exact h
  | rowC n els => exact h
  | rowN k xs => exact h
  | loop key cs =>
    simp only [renO] at h ⊢
    obtain ⟨cs', h1, h2⟩ := Option.bind_eq_some_iff.1 h
    rw [renL_more hf _ _ h1]; exact h2
  | buf kd t l => exact h
  | gone => exact h
theorem renOs_more {f f' : Nat → Option Nat} (hf : ∀ i j, f i = some j → f' i = some j) : ∀ {os os' : List AObj}, renOs f os = some os' → renOs f' os = some os'
  | [], os', h => h
  | o :: os, os', h => by
    simp only [renOs] at h ⊢
    obtain ⟨o', h1, h2⟩ := Option.bind_eq_some_iff.1 h
    obtain ⟨os'', h3, h4⟩ := Option.bind_eq_some_iff.1 h2
    rw [renO_more hf h1]
    simp only [Option.bind_some]
    rw [renOs_more hf h3]; exact h4
theorem back_more {ids : List Nat} {H : List AObj} (i j : Nat) (h : backTo ids i = some j) : backPos ids H i = some j := by
  have hl : i < ids.length := (List.getElem?_eq_some_iff.1 h).1
  unfold backPos
  have : Nat.blt i ids.length = true := Nat.ble_eq_true_of_le hl
  rw [this]; exact h
/-- What is put where it was. -/
theorem putObjs_same : ∀ {ids : List Nat} {H os : List AObj}, (∀ (p i : Nat) (o : AObj), ids[p]? = some i → os[p]? = some o → H[i]? = some o) → putObjs H ids os = H
  | [], H, os, _ => by simp [putObjs]
  | i :: ids, H, [], _ => by simp [putObjs]
  | i :: ids, H, o :: os, h => by
    have h0 := h 0 i o rfl rfl
    have e : H.set i o = H := by
      apply List.ext_getElem?
      intro k
      by_cases e : i = k
      · subst e
        rw [List.getElem?_set_self (List.getElem?_eq_some_iff.1 h0).1, h0]
      · rw [List.getElem?_set_ne e]
    rw [putObjs, e]
    exact putObjs_same fun p k q hp hq => h (p + 1) k q (by simpa using hp) (by simpa using hq)
theorem pick_put {f : Nat → Option Nat} {H os : List AObj} {a : List Nat} : ∀ {b : List Nat}, (∀ i ∈ b, i ∉ a) → pickObjs f (putObjs H a os) b = pickObjs f H b
  | [], _ => rfl
  | i :: b, h => by
    simp only [pickObjs, putObjs_other (h i (by simp)), pick_put (b := b) fun j hj => h j (by simp [hj])]
theorem putObjs_swap {H o1 o2 : List AObj} {a b : List Nat} (ha : a.Nodup) (hb : b.Nodup) (la : o1.length = a.length) (lb : o2.length = b.length) (hla : ∀ i ∈ a, i < H.length) (hlb : ∀ i ∈ b, i < H.length) (h : ∀ i ∈ a, i ∉ b) : putObjs (putObjs H a o1) b o2 = putObjs (putObjs H b o2) a o1 := by
  apply List.ext_getElem?
  intro k
  by_cases ka : k ∈ a
  · obtain ⟨p, hp, hpk⟩ := List.mem_iff_getElem.1 ka
    have h1 : o1[p]? = some o1[p] := List.getElem?_eq_getElem (by omega)
    have h2 : a[p]? = some k := by rw [List.getElem?_eq_getElem hp, hpk]
    rw [putObjs_other (h k ka), putObjs_at ha h2 h1 (hla k ka), putObjs_at ha h2 h1 (by rw [putObjs_length]; exact hla k ka)]
  · rw [putObjs_other (ids := a) ka]
    by_cases kb : k ∈ b
    · obtain ⟨p, hp, hpk⟩ := List.mem_iff_getElem.1 kb
      have h1 : o2[p]? = some o2[p] := List.getElem?_eq_getElem (by omega)
      have h2 : b[p]? = some k := by rw [List.getElem?_eq_getElem hp, hpk]
      rw [putObjs_at hb h2 h1 (hlb k kb), putObjs_at hb h2 h1 (by rw [putObjs_length]; exact hlb k kb)]
    · rw [putObjs_other kb, putObjs_other kb, putObjs_other ka]
/-- An operation of a drawn region with what it is shown, what it leaves, and what of it is put back. -/
structure It where
  i : Nat
  o : Oper
  d : DOper
  L : St
  L' : St
  B : St
def It.isNo (x : It) : Bool := match x.d.ob with | .no => true | _ => false
def It.isAll (x : It) : Bool := match x.d.ob with | .all => true | _ => false
structure It.OK (c : Cx) (ops : Array Oper) (x : It) : Prop where
  here : ops[x.i]? = some x.o
  dst : x.d.op.dst = x.o.dst
  sem : OneSem c ops x.o x.L x.L'
  sub : ∀ t, t ∉ x.d.rd → x.L.get t = .undef
  noH : x.isNo = true → x.L.heap = []
  pre : x.isNo = true → ∀ t ∈ x.d.rd, below 0 (x.L.get t) = true
  keep : ∀ t, t ∉ x.d.wr → x.L'.get t = x.L.get t
  look : x.isNo = false → x.isAll = false → x.L'.heap = x.L.heap ∨ ∃ ids, x.d.ob = .part ids
  fine : x.isNo = true → ∀ t ∈ x.d.rd ++ x.d.wr, below 0 (x.L'.get t) = true
  whole : (∀ ids, x.d.ob ≠ .part ids) → x.B = x.L'
  part : ∀ ids, x.d.ob = .part ids → ids.Nodup ∧ (∀ t ∈ x.d.wr, Sh.ren (backTo ids) (x.L'.get t) = some (x.B.get t)) ∧ renOs (backTo ids) x.L'.heap = some x.B.heap ∧ x.L'.heap.length = ids.length ∧ (x.d.op.op.still = true → x.L'.heap = x.L.heap)
/-- What it does to the objects. -/
def It.hp (x : It) (H : List AObj) : List AObj := match x.d.ob with
  | .all => x.L'.heap
  | .part ids => match x.d.op.op.still with
    | true => H
    | false => putObjs H ids x.B.heap
  | _ => H
/-- Is it shown these objects. -/
def It.sees (x : It) (H : List AObj) : Prop := match x.d.ob with
  | .no => True
  | .part ids => pickObjs (toPos ids) H ids = some x.L.heap
  | .peek rs => hideX rs 0 H = x.L.heap
  | _ => x.L.heap = H
def It.ids? (x : It) : Option (List Nat) := match x.d.ob with
  | .part ids => some ids
  | _ => none
def It.upd (x : It) (S : St) : St := ⟨(match x.ids? with | some _ => x.d.wr | none => x.d.rd ++ x.d.wr).map (fun t => (t, x.B.get t)) ++ S.slots, x.hp S.heap⟩
def It.fits (x : It) (S : St) : Prop := (∀ t ∈ x.d.rd, match x.ids? with | some ids => Sh.ren (toPos ids) (S.get t) = some (x.L.get t) | none => x.L.get t = S.get t) ∧ x.sees S.heap

theorem get_over {f : Nat → AV} {l : List (Nat × AV)} {H H' : List AObj} (t : Nat) : ∀ (m : List Nat), (⟨m.map (fun t => (t, f t)) ++ l, H⟩ : St).get t = if t ∈ m then f t else (⟨l, H'⟩ : St).get t
  | [] => by simp; rfl
  | u :: m => by
    rw [List.map_cons, List.cons_append, get_cons]
    by_cases e : u = t
    · subst e; simp
    · rw [if_neg e, get_over (H' := H') t m]
      by_cases hm : t ∈ m
      · simp [hm]
      · simp [hm, Ne.symm e]
theorem It.upd_heap (x : It) (S : St) : (x.upd S).heap = x.hp S.heap := rfl
theorem ids_none {x : It} (h : ∀ ids, x.d.ob ≠ .part ids) : x.ids? = none := by
  unfold It.ids?
  split
  · rename_i ids hx; exact absurd hx (h ids)
  · rfl
theorem ids_some {x : It} {ids : List Nat} (h : x.d.ob = .part ids) : x.ids? = some ids := by
  unfold It.ids?
  rw [h]
theorem It.OK.upd_get' {ops : Array Oper} {x : It} (hx : x.OK c ops) {S : St} (hf : x.fits S) (t : Nat) : (x.upd S).get t = if t ∈ x.d.wr then x.B.get t else S.get t := by
  cases hi : x.ids? with
  | some ids =>
    have := get_over (f := x.B.get) (l := S.slots) (H := x.hp S.heap) (H' := S.heap) t x.d.wr
    unfold It.upd
    rw [hi]
    exact this
  | none =>
    have hn : ∀ ids, x.d.ob ≠ .part ids := fun ids h => by rw [ids_some h] at hi; cases hi
    have h1 := get_over (f := x.B.get) (l := S.slots) (H := x.hp S.heap) (H' := S.heap) t (x.d.rd ++ x.d.wr)
    have h2 : (x.upd S).get t = if t ∈ x.d.rd ++ x.d.wr then x.B.get t else S.get t := by
      unfold It.upd
      rw [hi]
      exact h1
    rw [h2]
    by_cases hw : t ∈ x.d.wr
    · simp [hw]
    · by_cases hr : t ∈ x.d.rd
      · simp only [List.mem_append, hr, hw, or_false, if_true, if_false]
        have := hf.1 t hr
        rw [hi] at this
        rw [hx.whole hn, hx.keep t hw, this]
      · simp [hw, hr]

/-- One operation in the whole. -/
theorem It.OK.step {ops : Array Oper} {x : It} (hx : x.OK c ops) {S : St} (hf : x.fits S) {F : Nat → Prop} {g : Gh} {a : Act} {w : World} (hs : SimX F c.nt g S a w []) (ro : Option Nat) (dn : Nat) (K : Act → World → Prop) (Q : Exit → Act → World → Prop)
    (hK : ∀ v' g' w', g.obj <+: g'.obj → SimX F c.nt g' (x.upd S) (a.put x.o.dst v') w' [] → Step F g w g' w' → K (a.put x.o.dst v') w') : wp1 c ro dn ops x.o a w K Q := by
  -- what it is shown of the slots, by the whole's numbers
  have hPg : ∀ t, (⟨x.d.rd.map (fun t => (t, S.get t)) ++ [], S.heap⟩ : St).get t = if t ∈ x.d.rd then S.get t else .undef := fun t => get_over (f := S.get) (l := []) (H' := S.heap) t _
  have hMg : ∀ t, (⟨x.d.rd.map (fun t => (t, AV.undef)) ++ S.slots, S.heap⟩ : St).get t = if t ∈ x.d.rd then .undef else S.get t := fun t => get_over (f := fun _ => AV.undef) (H' := S.heap) t _
  obtain ⟨p1, p2⟩ := slotOwns_part hPg hMg a.tmps.toList 0
  have size : ∀ v', (a.put x.o.dst v').tmps.size = c.nt := fun v' => by
    have := hs.size
    cases x.o.dst <;> simp [Act.put, this]
  have dstne : ∀ t, t ∉ x.d.wr → x.o.dst ≠ some t := fun t hw e => by
    rw [← hx.dst] at e
    exact hw (by unfold DOper.wr; rw [e]; simp)
  have tmpsame : ∀ v' t, t ∉ x.d.wr → (a.put x.o.dst v').tmps.getD t undef = a.tmps.getD t undef := fun v' t hw => by
    have hne := dstne t hw
    cases hd : x.o.dst with
    | none => rfl
    | some u =>
      rw [hd] at hne
      simp only [Act.put, Array.getD_eq_getD_getElem?]
      rw [Array.getElem?_setIfInBounds_ne (fun e => hne (by rw [e]))]
  -- the slots behind
  have slotsBehind : ∀ (v' : Value) (gj : Gh) (w' : World), (∀ t, t ∈ x.d.wr → VR gj w' (x.B.get t) ((a.put x.o.dst v').tmps.getD t undef)) → Ext g w gj w' → ∀ t, VR gj w' ((x.upd S).get t) ((a.put x.o.dst v').tmps.getD t undef) := by
    intro v' gj w' h1 h2 t
    rw [hx.upd_get' hf]
    by_cases hm : t ∈ x.d.wr
    · rw [if_pos hm]; exact h1 t hm
    · rw [if_neg hm, tmpsame v' t hm]
      exact VR.ext h2 _ _ (hs.slots t)
  -- rows of one's own behind
  have ownsBehind : ∀ (v' : Value), (∀ t v, (a.put x.o.dst v').tmps.toList[t]? = some v → t ∈ x.d.rd ++ x.d.wr → owns ((x.upd S).get t) v = owns (x.L'.get t) v) →
      (∀ b, oc b (slotOwns (x.upd S) 0 (a.put x.o.dst v').tmps.toList) ≤ oc b (slotOwns x.L' 0 (a.put x.o.dst v').tmps.toList) + oc b (slotOwns ⟨x.d.rd.map (fun t => (t, AV.undef)) ++ S.slots, S.heap⟩ 0 a.tmps.toList)) ∧
      ∀ r, r ∈ slotOwns (x.upd S) 0 (a.put x.o.dst v').tmps.toList → r ∈ slotOwns x.L' 0 (a.put x.o.dst v').tmps.toList ∨ r ∈ slotOwns ⟨x.d.rd.map (fun t => (t, AV.undef)) ++ S.slots, S.heap⟩ 0 a.tmps.toList := by
    intro v' heq
    have hUg : ∀ t, (⟨(x.d.rd ++ x.d.wr).map (fun t => (t, x.L'.get t)) ++ S.slots, S.heap⟩ : St).get t = if t ∈ x.d.rd ++ x.d.wr then x.L'.get t else S.get t := fun t => get_over (f := x.L'.get) (H' := S.heap) t _
    have e : slotOwns (x.upd S) 0 (a.put x.o.dst v').tmps.toList = slotOwns ⟨(x.d.rd ++ x.d.wr).map (fun t => (t, x.L'.get t)) ++ S.slots, S.heap⟩ 0 (a.put x.o.dst v').tmps.toList := by
      refine slotOwns_eq _ 0 fun t v hv => ?_
      rw [Nat.zero_add, hUg]
      by_cases hm : t ∈ x.d.rd ++ x.d.wr
      · rw [if_pos hm]; exact heq t v hv hm
      · rw [if_neg hm, hx.upd_get' hf, if_neg (fun h => hm (List.mem_append_right _ h))]
    rw [e]
    refine slotOwns_upd (ch := x.d.rd ++ x.d.wr) (d := x.o.dst) (fun t => ?_) (fun t ht => ?_) v' a.tmps.toList _ 0 (fun j hj => ?_) ?_
    · rw [hUg, hMg]
      by_cases hm : t ∈ x.d.rd ++ x.d.wr
      · rw [if_pos hm, if_pos hm]
      · rw [if_neg hm, if_neg hm, if_neg (fun h => hm (List.mem_append_left _ h))]
    · rw [← hx.dst] at ht
      exact List.mem_append_right _ (by unfold DOper.wr; rw [ht]; simp)
    · cases hd : x.o.dst with
      | none => rfl
      | some u =>
        rw [hd] at hj
        simp only [Act.put, Array.toList_setIfInBounds]
        rw [List.getElem?_set_ne (fun e => hj (by rw [Nat.zero_add, e]))]
    · cases x.o.dst <;> simp [Act.put]
  by_cases hpart : ∃ ids, x.d.ob = .part ids
  · obtain ⟨ids, hob⟩ := hpart
    obtain ⟨q1, q2, q3, q4, q5⟩ := hx.part ids hob
    have hids := ids_some hob
    have hfr : ∀ t ∈ x.d.rd, Sh.ren (toPos ids) (S.get t) = some (x.L.get t) := fun t ht => by
      have := hf.1 t ht
      rw [hids] at this
      exact this
    have hpick : pickObjs (toPos ids) S.heap ids = some x.L.heap := by
      have := hf.2
      unfold It.sees at this
      rw [hob] at this
      exact this
    have key : ∀ t u, VR g w (S.get t) u → t ∈ x.d.rd → VR (partOf g ids) w (x.L.get t) u ∧ owns (x.L.get t) u = owns (S.get t) u := fun t u hu ht =>
      VR.ren (g := g) (g1 := partOf g ids) (fun _ => Nat.le_refl _) gpart_ok (noPtr_ok fun _ => Nat.le_refl _) _ _ u (hfr t ht) hu
    have tmpD : ∀ t v, a.tmps.toList[t]? = some v → a.tmps.getD t undef = v := fun t v hv => by
      have hv' : a.tmps[t]? = some v := by simpa using hv
      rw [Array.getD_eq_getD_getElem?, hv']; rfl
    have eL : slotOwns x.L 0 a.tmps.toList = slotOwns ⟨x.d.rd.map (fun t => (t, S.get t)) ++ [], S.heap⟩ 0 a.tmps.toList := by
      refine slotOwns_eq _ 0 fun t v hv => ?_
      rw [Nat.zero_add, hPg]
      by_cases h : t ∈ x.d.rd
      · rw [if_pos h]
        have := hs.slots t
        rw [tmpD t v hv] at this
        exact (key t v this h).2
      · rw [if_neg h, hx.sub t h]
    have hcore : Core F g S.heap (slotOwns x.L 0 a.tmps.toList ++ slotOwns ⟨x.d.rd.map (fun t => (t, AV.undef)) ++ S.slots, S.heap⟩ 0 a.tmps.toList) w :=
      hs.core.weaken (fun r hr => by
        rw [List.nil_append]
        rw [eL] at hr
        exact (p2 r).2 (List.mem_append.1 hr)) (fun b => by have := p1 b; rw [eL]; simp only [oc_append, oc_nil, List.nil_append]; omega)
    have hl := pick_lt hpick
    have hsplit := hcore.split q1 hl hpick
    have hsimL : SimX (Held F g S.heap ids (slotOwns ⟨x.d.rd.map (fun t => (t, AV.undef)) ++ S.slots, S.heap⟩ 0 a.tmps.toList) w) c.nt (partOf g ids) x.L a w [] := by
      refine ⟨hs.size, fun t => ?_, by rw [List.nil_append]; exact hsplit⟩
      by_cases h : t ∈ x.d.rd
      · exact (key t _ (hs.slots t) h).1
      · rw [hx.sub t h]; simp only [VR]
    refine hx.sem _ _ a w (partOf g ids).obj rfl (List.prefix_refl _) hsimL ro dn K Q ?_
    intro v' g' w' hp' hs' hst
    have hc1 := hs'.core
    rw [List.nil_append] at hc1
    have hr3 : renOs (backPos ids S.heap) x.L'.heap = some x.B.heap := renOs_more (fun i j h => back_more i j h) q3
    obtain ⟨j1, j2, j3, j4⟩ := hcore.join q1 hl hc1 hst hp' hr3
    have hBl : x.B.heap.length = ids.length := by rw [(renOs_some q3).1, q4]
    have e1 : x.B.heap.drop ids.length = [] := by rw [← hBl]; exact List.drop_length
    have e2 : addObjs (putObjs S.heap ids x.B.heap) (x.B.heap.drop ids.length) = (x.upd S).heap := by
      rw [e1, x.upd_heap]
      unfold It.hp
      rw [hob]
      simp only [addObjs]
      cases hst : x.d.op.op.still with
      | false => rfl
      | true =>
        refine putObjs_same fun p i o hp ho => ?_
        obtain ⟨o1, o2, k1, k2, k3⟩ := (pickObjs_some hpick).2 p i hp
        rw [q5 hst] at q3
        obtain ⟨o3, k4, k5⟩ := (renOs_some q3).2 p o2 k2
        rw [ho] at k4
        injection k4 with k4
        subst k4
        rw [renO_back k3] at k5
        injection k5 with k5
        rw [← k5]; exact k1
    rw [e2] at j1
    have back : ∀ t, t ∈ x.d.wr → ∀ u, VR g' w' (x.L'.get t) u → VR (joinOf g g' ids) w' (x.B.get t) u ∧ owns (x.B.get t) u = owns (x.L'.get t) u := fun t ht u hu => j4 _ _ u (ren_more (fun i j h => back_more i j h) _ _ (q2 t ht)) hu
    obtain ⟨o1, o2⟩ := ownsBehind v' fun t v hv hm => by
      have hvD : (a.put x.o.dst v').tmps.getD t undef = v := by
        have hv' : (a.put x.o.dst v').tmps[t]? = some v := by simpa using hv
        rw [Array.getD_eq_getD_getElem?, hv']; rfl
      rw [hx.upd_get' hf]
      by_cases hw : t ∈ x.d.wr
      · rw [if_pos hw]
        have := hs'.slots t
        rw [hvD] at this
        exact (back t hw v this).2
      · rw [if_neg hw]
        have hr : t ∈ x.d.rd := (List.mem_append.1 hm).resolve_right hw
        rw [hx.keep t hw]
        have := hs.slots t
        rw [← tmpsame v' t hw, hvD] at this
        exact (key t v this hr).2.symm
    refine hK v' (joinOf g g' ids) w' (by simp [joinOf]) ⟨size v', slotsBehind v' (joinOf g g' ids) w' (fun t ht => (back t ht _ (hs'.slots t)).1) j3, ?_⟩ j2
    exact j1.weaken (fun r hr => by
      rw [List.nil_append] at hr
      exact List.mem_append.2 (o2 r hr)) (fun b => by have := o1 b; simp only [oc_append, List.nil_append]; omega)
  · have hnp : ∀ ids, x.d.ob ≠ .part ids := fun ids h => hpart ⟨ids, h⟩
    have hB := hx.whole hnp
    have hidn := ids_none hnp
    have hfl : ∀ t ∈ x.d.rd, x.L.get t = S.get t := fun t ht => by
      have := hf.1 t ht
      rw [hidn] at this
      exact this
    have hLg : ∀ t, x.L.get t = if t ∈ x.d.rd then S.get t else .undef := fun t => by
      by_cases h : t ∈ x.d.rd
      · rw [if_pos h]; exact hfl t h
      · rw [if_neg h]; exact hx.sub t h
    have eL : slotOwns x.L 0 a.tmps.toList = slotOwns ⟨x.d.rd.map (fun t => (t, S.get t)) ++ [], S.heap⟩ 0 a.tmps.toList := slotOwns_congr _ 0 fun t _ => by rw [hLg, hPg]
    have hcore : Core F g S.heap (slotOwns x.L 0 a.tmps.toList ++ slotOwns ⟨x.d.rd.map (fun t => (t, AV.undef)) ++ S.slots, S.heap⟩ 0 a.tmps.toList) w :=
      hs.core.weaken (fun r hr => by
        rw [List.nil_append]
        rw [eL] at hr
        exact (p2 r).2 (List.mem_append.1 hr)) (fun b => by have := p1 b; rw [eL]; simp only [oc_append, oc_nil, List.nil_append]; omega)
    have hsameL : ∀ (v' : Value) (t : Nat) (v : Value), (a.put x.o.dst v').tmps.toList[t]? = some v → t ∈ x.d.rd ++ x.d.wr → owns ((x.upd S).get t) v = owns (x.L'.get t) v := fun v' t v _ hm => by
      rw [hx.upd_get' hf]
      by_cases hw : t ∈ x.d.wr
      · rw [if_pos hw, hB]
      · rw [if_neg hw, hx.keep t hw, hfl t ((List.mem_append.1 hm).resolve_right hw)]
    cases hno : x.isNo with
    | true =>
      have hob : x.d.ob = .no := by
        unfold It.isNo at hno
        cases h : x.d.ob <;> rw [h] at hno <;> simp at hno ⊢
      have hsplit := hcore.split (ids := []) (hs := []) List.nodup_nil (by simp) rfl
      have zeroRen : ∀ (g1 g2 : Gh) (w : World), (∀ b, g1.len b ≤ g2.len b) → ∀ (v : AV) (u : Value), below 0 v = true → VR g1 w v u → VR g2 w v u := by
        intro g1 g2 w hl v u hb hv
        exact (VR.ren (g := g1) (g1 := g2) (f := fun i => if i < 0 then some i else none) hl (fun i j b h _ => by simp at h) (noPtr_ok hl) _ _ u (below_ren 0 v hb) hv).1
      have hsimL : SimX (Held F g S.heap [] (slotOwns ⟨x.d.rd.map (fun t => (t, AV.undef)) ++ S.slots, S.heap⟩ 0 a.tmps.toList) w) c.nt (partOf g []) x.L a w [] := by
        refine ⟨hs.size, fun t => ?_, by rw [hx.noH hno]; exact hsplit⟩
        by_cases h : t ∈ x.d.rd
        · have h1 := hs.slots t
          rw [← hfl t h] at h1
          exact zeroRen g (partOf g []) w (fun _ => Nat.le_refl _) _ _ (hx.pre hno t h) h1
        · rw [hx.sub t h]; simp only [VR]
      refine hx.sem _ _ a w (partOf g []).obj rfl (List.prefix_refl _) hsimL ro dn K Q ?_
      intro v' g' w' hp' hs' hst
      have hc1 := (hs'.core.gc (ids := []) (hs := []) List.nodup_nil rfl)
      simp only [List.take_zero, List.nil_append] at hc1
      obtain ⟨j1, j2, j3, j4⟩ := hcore.join (ids := []) (g1 := partOf g' []) (hs' := []) (hs'' := []) List.nodup_nil (by simp) hc1 ⟨hst.cell, hst.ty, hst.bsz, hst.len, hst.frame, hst.size, hst.os, hst.tape, hst.output⟩ (by simp [partOf]) rfl
      obtain ⟨o1, o2⟩ := ownsBehind v' (hsameL v')
      refine hK v' (joinOf g (partOf g' []) []) w' (by simp [joinOf, partOf]) ⟨size v', slotsBehind v' (joinOf g (partOf g' []) []) w' (fun t ht => by
        rw [hB]
        exact zeroRen g' (joinOf g (partOf g' []) []) w' (fun _ => Nat.le_refl _) _ _ (hx.fine hno t (List.mem_append_right _ ht)) (hs'.slots t)) j3, ?_⟩ j2
      have eh : (x.upd S).heap = S.heap := by
        rw [x.upd_heap]
        unfold It.hp
        rw [hob]
      rw [eh]
      have e : addObjs (putObjs S.heap [] []) (([] : List AObj).drop ([] : List Nat).length) = S.heap := by simp [addObjs, putObjs]
      rw [e] at j1
      exact j1.weaken (fun r hr => by
        rw [List.nil_append] at hr
        exact List.mem_append.2 (o2 r hr)) (fun b => by have := o1 b; simp only [oc_append, List.nil_append]; omega)
    | false =>
      by_cases hpeek : ∃ rs, x.d.ob = .peek rs
      · obtain ⟨rs, hob⟩ := hpeek
        have hLh : x.L.heap = hideX rs 0 S.heap := by
          have := hf.2
          unfold It.sees at this
          rw [hob] at this
          exact this.symm
        have hsimL : SimX (Held F g S.heap rs (slotOwns ⟨x.d.rd.map (fun t => (t, AV.undef)) ++ S.slots, S.heap⟩ 0 a.tmps.toList) w) c.nt g x.L a w [] := by
          refine ⟨hs.size, fun t => ?_, by rw [hLh]; exact hcore.hide rs⟩
          rw [hLg t]
          by_cases h : t ∈ x.d.rd
          · rw [if_pos h]; exact hs.slots t
          · rw [if_neg h]; simp only [VR]
        refine hx.sem _ _ a w g.obj rfl (List.prefix_refl _) hsimL ro dn K Q ?_
        intro v' g' w' hp' hs' hst
        have hc1 := hs'.core
        simp only [List.nil_append] at hc1
        have hL' : x.L'.heap = hideX rs 0 S.heap := by
          rcases hx.look hno (by unfold It.isAll; rw [hob]) with h' | ⟨ids, h'⟩
          · rw [h', hLh]
          · exact absurd h' (hnp ids)
        rw [hL'] at hc1
        have hobj : g'.obj = g.obj := by
          obtain ⟨t, ht⟩ := hp'
          have h1 := hc1.heap.length
          have h2 := hcore.heap.length
          rw [hideX_len, h2, ← ht, List.length_append] at h1
          have : t = [] := List.length_eq_zero_iff.1 (by omega)
          rw [← ht, this, List.append_nil]
        have j1 := hcore.unhide hc1 hst hobj
        have j3 : Ext g w g' w' := hst.toExt (fun i b hb => by rw [hobj]; exact hb)
        obtain ⟨o1, o2⟩ := ownsBehind v' (hsameL v')
        refine hK v' g' w' hp' ⟨size v', slotsBehind v' _ w' (fun t _ => by rw [hB]; exact hs'.slots t) j3, ?_⟩ (hst.weaken fun b hb => .inl hb)
        have e : (x.upd S).heap = S.heap := by
          rw [x.upd_heap]
          unfold It.hp
          rw [hob]
        rw [e]
        exact j1.weaken (fun r hr => by
          rw [List.nil_append] at hr
          exact List.mem_append.2 (o2 r hr)) (fun b => by have := o1 b; simp only [oc_append, List.nil_append]; omega)
      have hLh : x.L.heap = S.heap := by
        have := hf.2
        unfold It.sees at this
        unfold It.isNo at hno
        cases h : x.d.ob with
        | no => rw [h] at hno; simp at hno
        | part ids => exact absurd h (hnp ids)
        | peek rs => exact absurd ⟨rs, h⟩ hpeek
        | _ => rw [h] at this; exact this
      have hsimL : SimX (fun b => F b ∨ 0 < oc b (slotOwns ⟨x.d.rd.map (fun t => (t, AV.undef)) ++ S.slots, S.heap⟩ 0 a.tmps.toList)) c.nt g x.L a w [] := by
        refine ⟨hs.size, fun t => ?_, by rw [hLh]; exact hcore.setAside⟩
        rw [hLg t]
        by_cases h : t ∈ x.d.rd
        · rw [if_pos h]; exact hs.slots t
        · rw [if_neg h]; simp only [VR]
      refine hx.sem _ _ a w g.obj rfl (List.prefix_refl _) hsimL ro dn K Q ?_
      intro v' g' w' hp' hs' hst
      have hc1 := hs'.core
      simp only [List.nil_append] at hc1
      have j1 := hcore.takeBack hc1 hst
      have j3 : Ext g w g' w' := hst.toExt (fun i b hb => by
        obtain ⟨t, ht⟩ := hp'
        rw [← ht, List.getElem?_append_left (List.getElem?_eq_some_iff.1 hb).1]
        exact hb)
      obtain ⟨o1, o2⟩ := ownsBehind v' (hsameL v')
      refine hK v' g' w' hp' ⟨size v', slotsBehind v' _ w' (fun t _ => by rw [hB]; exact hs'.slots t) j3, ?_⟩ (hst.weaken fun b hb => .inl hb)
      have e : (x.upd S).heap = x.L'.heap := by
        rw [x.upd_heap]
        unfold It.hp
        cases h : x.d.ob with
        | all => rfl
        | part ids => exact absurd h (hnp ids)
        | no => unfold It.isNo at hno; rw [h] at hno; simp at hno
        | peek rs => exact absurd ⟨rs, h⟩ hpeek
        | look =>
          have := hx.look hno (by unfold It.isAll; rw [h])
          rcases this with h' | ⟨ids, h'⟩
          · simp only [h', hLh]
          · exact absurd h' (hnp ids)
      rw [e]
      exact j1.weaken (fun r hr => by
        rw [List.nil_append] at hr
        exact List.mem_append.2 (o2 r hr)) (fun b => by have := o1 b; simp only [oc_append, List.nil_append]; omega)

/-! ### runs along a list -/
def DRun : List It → St → St → Prop
  | [], S, S' => (∀ t, S.get t = S'.get t) ∧ S.heap = S'.heap
  | x :: l, S, S' => x.fits S ∧ DRun l (x.upd S) S'
theorem fits_congr {x : It} {S T : St} (h1 : ∀ t, S.get t = T.get t) (h2 : S.heap = T.heap) (h : x.fits S) : x.fits T := by
  refine ⟨fun t ht => ?_, h2 ▸ h.2⟩
  have := h.1 t ht
  rw [← h1 t]
  exact this
theorem upd_over (x : It) (S : St) (t : Nat) : (x.upd S).get t = if t ∈ (match x.ids? with | some _ => x.d.wr | none => x.d.rd ++ x.d.wr) then x.B.get t else S.get t := get_over (f := x.B.get) (l := S.slots) (H := x.hp S.heap) (H' := S.heap) t _
theorem DRun.congr : ∀ {l : List It} {S T S' : St}, (∀ t, S.get t = T.get t) → S.heap = T.heap → DRun l S S' → DRun l T S'
  | [], S, T, S', h1, h2, h => ⟨fun t => (h1 t).symm.trans (h.1 t), h2.symm.trans h.2⟩
  | x :: l, S, T, S', h1, h2, h => ⟨fits_congr h1 h2 h.1, DRun.congr (S := x.upd S) (fun t => by rw [upd_over, upd_over, h1 t]) (by rw [x.upd_heap, x.upd_heap, h2]) h.2⟩

def dis (l m : List Nat) : Bool := l.all fun t => !m.contains t
theorem dis_spec {l m : List Nat} (h : dis l m = true) : ∀ t ∈ l, t ∉ m := fun t ht hm => by
  have := List.all_eq_true.1 h t ht
  simp [hm] at this
/-- Can two operations not meet in an object. -/
def farB (x y : DOper) : Bool := match x.ob, y.ob with
  | .no, _ => true
  | _, .no => true
  | .look, .look => true
  | .part _, .look => x.op.op.still
  | .look, .part _ => y.op.op.still
  | .peek _, .peek _ => true
  | .peek _, .look => true
  | .look, .peek _ => true
  | .peek a, .part b => y.op.op.still || dis b a
  | .part a, .peek b => x.op.op.still || dis a b
  | .part a, .part b => (x.op.op.still && y.op.op.still) || (dis a b && dis b a)
  | _, _ => false
/-- Two operations that don't meet. -/
structure Apart (x y : It) : Prop where
  xy : ∀ t, t ∈ x.d.wr → t ∉ y.d.rd ∧ t ∉ y.d.wr
  yx : ∀ t, t ∈ y.d.wr → t ∉ x.d.rd ∧ t ∉ x.d.wr
  far : farB x.d y.d = true
theorem hideX_put {rs b : List Nat} {H os : List AObj} (h : ∀ i ∈ b, i ∉ rs) : hideX rs 0 (putObjs H b os) = hideX rs 0 H := by
  apply List.ext_getElem?
  intro i
  rw [hideX_get, hideX_get, Nat.zero_add]
  cases hc : rs.contains i with
  | true => rw [putObjs_other (fun hb => h i hb (by simpa using hc))]
  | false =>
    simp only [cond_false]
    rcases Nat.lt_or_ge i H.length with hl | hl
    · rw [List.getElem?_eq_getElem hl, List.getElem?_eq_getElem (by rw [putObjs_length]; exact hl)]; rfl
    · rw [List.getElem?_eq_none hl, List.getElem?_eq_none (by rw [putObjs_length]; exact hl)]
theorem far_swap {ops : Array Oper} {x y : It} (hx : x.OK c ops) (hy : y.OK c ops) (h : farB x.d y.d = true) {H : List AObj} (h1 : x.sees H) (h2 : y.sees (x.hp H)) : y.sees H ∧ x.sees (y.hp H) ∧ y.hp (x.hp H) = x.hp (y.hp H) := by
  unfold farB at h
  have px := hx.part
  have py := hy.part
  unfold It.sees It.hp at *
  cases ex : x.d.ob with
  | no => rw [ex] at h1 h2; exact ⟨h2, trivial, rfl⟩
  | all => rw [ex] at h h1 h2; cases ey : y.d.ob <;> rw [ey] at h h2 <;> first | (exact ⟨trivial, h1, rfl⟩) | (simp at h)
  | look =>
    rw [ex] at h h1 h2
    cases ey : y.d.ob with
    | no => exact ⟨trivial, h1, rfl⟩
    | all => rw [ey] at h; simp at h
    | look => rw [ey] at h2; exact ⟨h2, h1, rfl⟩
    | peek b => rw [ey] at h2; exact ⟨h2, h1, rfl⟩
    | part b =>
      rw [ey] at h h2
      simp only at h h2 h1 ⊢
      simp only [h]
      exact ⟨h2, h1, trivial⟩
  | peek a =>
    rw [ex] at h h1 h2
    cases ey : y.d.ob with
    | no => exact ⟨trivial, h1, rfl⟩
    | all => rw [ey] at h; simp at h
    | look => rw [ey] at h2; exact ⟨h2, h1, rfl⟩
    | peek b => rw [ey] at h2; exact ⟨h2, h1, rfl⟩
    | part b =>
      rw [ey] at h h2
      simp only at h h2 h1 ⊢
      refine ⟨h2, ?_, trivial⟩
      cases hs2 : y.d.op.op.still with
      | true => exact h1
      | false =>
        rw [hs2, Bool.false_or] at h
        simp only
        rw [hideX_put (dis_spec h)]
        exact h1
  | part a =>
    rw [ex] at h h1 h2
    obtain ⟨a1, a2, a3, a4, a5⟩ := px a ex
    cases ey : y.d.ob with
    | no => exact ⟨trivial, h1, rfl⟩
    | all => rw [ey] at h; simp at h
    | look =>
      rw [ey] at h h2
      simp only [h] at h2 h1 ⊢
      exact ⟨h2, h1, trivial⟩
    | peek b =>
      rw [ey] at h h2
      simp only at h h2 h1 ⊢
      refine ⟨?_, h1, trivial⟩
      cases hs1 : x.d.op.op.still with
      | true => rw [hs1] at h2; exact h2
      | false =>
        rw [hs1, Bool.false_or] at h
        rw [hs1] at h2
        simp only at h2
        rw [hideX_put (dis_spec h)] at h2
        exact h2
    | part b =>
      rw [ey] at h h2
      obtain ⟨b1, b2, b3, b4, b5⟩ := py b ey
      simp only at h h2 h1 ⊢
      simp only [Bool.or_eq_true, Bool.and_eq_true] at h
      rcases h with ⟨hs1, hs2⟩ | ⟨hd1, hd2⟩
      · rw [hs1] at h2 ⊢
        rw [hs2]
        exact ⟨h2, h1, rfl⟩
      · have d1 := dis_spec hd1
        have d2 := dis_spec hd2
        have la : x.B.heap.length = a.length := by rw [(renOs_some a3).1, a4]
        have lb : y.B.heap.length = b.length := by rw [(renOs_some b3).1, b4]
        have h2' : pickObjs (toPos b) H b = some y.L.heap := by
          cases hs1 : x.d.op.op.still with
          | true => rw [hs1] at h2; exact h2
          | false => rw [hs1] at h2; simp only at h2; rw [pick_put d2] at h2; exact h2
        refine ⟨h2', ?_, ?_⟩
        · cases hs2 : y.d.op.op.still with
          | true => exact h1
          | false => simp only; rw [pick_put d1]; exact h1
        · cases hs1 : x.d.op.op.still <;> cases hs2 : y.d.op.op.still <;> simp only
          exact putObjs_swap a1 b1 la lb (pick_lt h1) (pick_lt h2') d1
theorem fits_over {ops : Array Oper} {x y : It} (hx : x.OK c ops) {S : St} (hf : x.fits S) (h : ∀ t, t ∈ x.d.wr → t ∉ y.d.rd) (hh : y.sees S.heap ↔ y.sees (x.upd S).heap) : y.fits S ↔ y.fits (x.upd S) := by
  have e : ∀ t ∈ y.d.rd, (x.upd S).get t = S.get t := fun t ht => by rw [hx.upd_get' hf, if_neg (fun hw => h t hw ht)]
  constructor
  · rintro ⟨h1, h2⟩
    exact ⟨fun t ht => by rw [e t ht]; exact h1 t ht, hh.1 h2⟩
  · rintro ⟨h1, h2⟩
    exact ⟨fun t ht => by have := h1 t ht; rw [e t ht] at this; exact this, hh.2 h2⟩
theorem swap {ops : Array Oper} {x y : It} {l : List It} {S S' : St} (hx : x.OK c ops) (hy : y.OK c ops) (ha : Apart x y) (h : DRun (x :: y :: l) S S') : DRun (y :: x :: l) S S' := by
  obtain ⟨h1, h2, h3⟩ := h
  obtain ⟨k1, k2, k3⟩ := far_swap hx hy ha.far h1.2 h2.2
  have hfy : y.fits S := (fits_over hx h1 (fun t ht => (ha.xy t ht).1) ⟨fun _ => h2.2, fun _ => k1⟩).2 h2
  have hfx : x.fits (y.upd S) := (fits_over hy hfy (fun t ht => (ha.yx t ht).1) ⟨fun _ => k2, fun _ => h1.2⟩).1 h1
  refine ⟨hfy, hfx, DRun.congr (S := y.upd (x.upd S)) (fun t => ?_) k3 h3⟩
  rw [hy.upd_get' h2, hx.upd_get' h1, hx.upd_get' hfx, hy.upd_get' hfy]
  by_cases e1 : t ∈ y.d.wr
  · rw [if_pos e1, if_neg (fun e2 => (ha.xy t e2).2 e1), if_pos e1]
  · rw [if_neg e1]
    by_cases e2 : t ∈ x.d.wr
    · rw [if_pos e2, if_pos e2]
    · rw [if_neg e2, if_neg e2, if_neg e1]
/-- Moved to the front. -/
theorem bubble {ops : Array Oper} {y : It} (hy : y.OK c ops) {B : List It} {S' : St} : ∀ {A : List It} {S : St}, (∀ x ∈ A, x.OK c ops ∧ Apart x y) → DRun (A ++ y :: B) S S' → DRun (y :: (A ++ B)) S S'
  | [], S, _, h => h
  | x :: A, S, hA, h => by
    have h1 : DRun (x :: y :: (A ++ B)) S S' := ⟨h.1, bubble hy (fun z hz => hA z (by simp [hz])) h.2⟩
    obtain ⟨h2, h3⟩ := hA x (by simp)
    exact swap h2 hy h3 h1

/-- One waits for the other one, over others too. -/
inductive Waits (T : List It) : It → It → Prop where
  | edge {x y : It} (h : ∃ e ∈ y.o.after, Region.binds .any e = true ∧ e.on = x.i) : Waits T x y
  | step {x z y : It} (hz : z ∈ T) (h1 : Waits T x z) (h : ∃ e ∈ y.o.after, Region.binds .any e = true ∧ e.on = z.i) : Waits T x y
theorem Waits.last {T : List It} {x y : It} (hx : x ∈ T) (h : Waits T x y) : ∃ z ∈ T, ∃ e ∈ y.o.after, Region.binds .any e = true ∧ e.on = z.i := by
  cases h with
  | edge h => exact ⟨x, hx, h⟩
  | step hz _ h => exact ⟨_, hz, h⟩
theorem Waits.less {A B : List It} {y : It} (hy : ∀ z ∈ A ++ y :: B, ¬ ∃ e ∈ y.o.after, Region.binds .any e = true ∧ e.on = z.i) {x u : It} (hx : x ∈ A ++ y :: B) (h : Waits (A ++ y :: B) x u) : Waits (A ++ B) x u := by
  induction h with
  | edge h => exact .edge h
  | step hz h1 h ih =>
    rename_i z u
    have hne : z ∈ A ++ B := by
      rcases List.mem_append.1 hz with hz | hz
      · exact List.mem_append_left _ hz
      · rcases List.mem_cons.1 hz with rfl | hz
        · obtain ⟨q, hq, hq2⟩ := Waits.last hx h1
          exact absurd hq2 (hy q hq)
        · exact List.mem_append_right _ hz
    exact .step hne ih h

/-- What is still to come, in text order. -/
structure Left (c : Cx) (ops : Array Oper) (listed : Array Bool) (T : List It) : Prop where
  ok : ∀ x ∈ T, x.OK c ops
  size : listed.size = ops.size
  mem : ∀ k, k < ops.size → (listed.getD k true = false ↔ ∃ x ∈ T, x.i = k)
  sorted : T.Pairwise fun x y => x.i < y.i
  free : T.Pairwise fun x y => Waits T x y ∨ Apart x y
  back : ∀ x ∈ T, ∀ e ∈ x.o.after, Region.binds .any e = true → e.on < x.i

theorem lt_size {ops : Array Oper} {x : It} (h : x.OK c ops) : x.i < ops.size := (Array.getElem?_eq_some_iff.1 h.here).1
theorem ready_iff {ops : Array Oper} {listed : Array Bool} {i : Nat} {o : Oper} (hi : ops[i]? = some o) : i ∈ Region.ready .any ops listed ↔ listed.getD i true = false ∧ ∀ e ∈ o.after, Region.binds .any e = true → listed.getD e.on false = true := by
  unfold Region.ready
  have hlt : i < ops.size := (Array.getElem?_eq_some_iff.1 hi).1
  simp only [List.mem_filter, List.mem_range, hlt, true_and, hi, Option.map_some, Option.getD_some, Bool.and_eq_true, Bool.not_eq_true', Array.all_eq_true_iff_forall_mem, Bool.or_eq_true, Bool.not_eq_eq_eq_not, Bool.not_true]
  constructor
  · rintro ⟨h1, h2⟩
    exact ⟨h1, fun e he hb => (h2 e he).resolve_left (by simp [hb])⟩
  · rintro ⟨h1, h2⟩
    refine ⟨h1, fun e he => ?_⟩
    cases hb : Region.binds .any e with
    | true => exact .inr (h2 e he hb)
    | false => exact .inl rfl

theorem any_of_run {ro : Option Nat} {dn : Nat} {ops : Array Oper} {Q : Exit → Act → World → Prop} {S' : St} : ∀ (n : Nat) (T : List It) (listed : Array Bool) (S : St) (F : Nat → Prop) (g : Gh) (a : Act) (w : World), T.length = n → Left c ops listed T → DRun T S S' → SimX F c.nt g S a w [] →
    (∀ g' a' w', a'.defers = a.defers → g.obj <+: g'.obj → SimX F c.nt g' S' a' w' [] → Step F g w g' w' → Q .normal a' w') → wpAnyIn (fw ro) dn c.P .any ops Q n listed a w
  | 0, T, listed, S, F, g, a, w, hn, hl, hr, hs, hQ => by
    have hT : T = [] := List.length_eq_zero_iff.1 hn
    subst hT
    refine ⟨?_, hQ g a w rfl (List.prefix_refl _) (hs.forget (fun t => .inl (hr.1 t).symm) hr.2.symm) (Step.refl _ _ _)⟩
    rw [List.eq_nil_iff_forall_not_mem]
    intro i hi
    have hlt : i < ops.size := by
      unfold Region.ready at hi
      simpa using (List.mem_filter.1 hi).1
    obtain ⟨h1, _⟩ := (ready_iff (Array.getElem?_eq_getElem hlt)).1 hi
    obtain ⟨x, hx, _⟩ := (hl.mem i hlt).1 h1
    simp at hx
  | n + 1, T, listed, S, F, g, a, w, hn, hl, hr, hs, hQ => by
    refine ⟨fun hnil => ?_, fun i hi => ?_⟩
    · -- the first is ready
      exfalso
      cases T with
      | nil => simp at hn
      | cons x T =>
        have hx := hl.ok x (by simp)
        have hmem : x.i ∈ Region.ready .any ops listed := (ready_iff hx.here).2 ⟨(hl.mem x.i (lt_size hx)).2 ⟨x, by simp, rfl⟩, fun e he hb => ?_⟩
        · rw [hnil] at hmem; simp at hmem
        · have hlt := hl.back x (by simp) e he hb
          have hlt2 := lt_size hx
          have hsz : e.on < listed.size := by rw [hl.size]; omega
          have : ¬ (listed.getD e.on true = false) := fun hf => by
            obtain ⟨y, hy, hyi⟩ := (hl.mem e.on (by omega)).1 hf
            rcases List.mem_cons.1 hy with rfl | hy
            · omega
            · have := (List.pairwise_cons.1 hl.sorted).1 y hy
              omega
          rw [Array.getD_eq_getD_getElem?, Array.getElem?_eq_getElem hsz] at this ⊢
          simpa using this
    · have hlt : i < ops.size := by
        unfold Region.ready at hi
        simpa using (List.mem_filter.1 hi).1
      obtain ⟨h1, h2⟩ := (ready_iff (Array.getElem?_eq_getElem hlt)).1 hi
      obtain ⟨y, hy, hyi⟩ := (hl.mem i hlt).1 h1
      obtain ⟨A, B, rfl⟩ := List.append_of_mem hy
      have hyok := hl.ok y hy
      have hoy : y.o = ops[i] := by
        have := hyok.here
        rw [hyi, Array.getElem?_eq_getElem hlt] at this
        injection this with this
        exact this.symm
      obtain ⟨hA1, hA2, hA3⟩ := List.pairwise_append.1 hl.free
      obtain ⟨hB1, hB2, hB3⟩ := List.pairwise_append.1 hl.sorted
      have hready : ∀ z ∈ A ++ y :: B, ¬ ∃ e ∈ y.o.after, Region.binds .any e = true ∧ e.on = z.i := fun z hz => by
        rintro ⟨e, he, hb, heq⟩
        have hzok := hl.ok z hz
        rw [hoy] at he
        have h3 := h2 e he hb
        have h4 := (hl.mem z.i (lt_size hzok)).2 ⟨z, hz, rfl⟩
        rw [heq] at h3
        have hsz : z.i < listed.size := by rw [hl.size]; exact lt_size hzok
        rw [Array.getD_eq_getD_getElem?, Array.getElem?_eq_getElem hsz] at h3 h4
        simp at h3 h4
        rw [h3] at h4
        cases h4
      have hpre : ∀ x ∈ A, x.OK c ops ∧ Apart x y := fun x hx => by
        have hxok := hl.ok x (by simp [hx])
        refine ⟨hxok, (hA3 x hx y (by simp)).resolve_left fun hw => ?_⟩
        obtain ⟨z, hz, hz2⟩ := Waits.last (by simp [hx]) hw
        exact hready z hz hz2
      have hrun := bubble hyok hpre hr
      have key : wp1 c ro dn ops y.o a w (wpAnyIn (fw ro) dn c.P .any ops Q n (listed.setIfInBounds i true)) Q := by
        refine hyok.step hrun.1 hs ro dn _ Q fun v' g' w' hp' hs' hst => ?_
        refine any_of_run n (A ++ B) _ _ F g' _ w' (by simp at hn ⊢; omega) ?_ hrun.2 hs' (fun g'' a'' w'' hd'' hp'' hs'' hst' => hQ g'' a'' w'' (hd''.trans (put_defers _ _ _)) (hp'.trans hp'') hs'' (hst.trans hst'))
        have hsubl : (A ++ B).Sublist (A ++ y :: B) := List.Sublist.append (List.Sublist.refl A) (List.sublist_cons_self y B)
        refine ⟨fun x hx => hl.ok x (hsubl.subset hx), by simp [hl.size], fun k hk => ?_, hl.sorted.sublist hsubl, (hl.free.sublist hsubl).imp_of_mem fun hx _ h => h.imp_left (Waits.less hready (hsubl.subset hx)), fun x hx => hl.back x (hsubl.subset hx)⟩
        have hsz : k < listed.size := by rw [hl.size]; exact hk
        by_cases hki : k = i
        · subst hki
          constructor
          · intro hf
            rw [Array.getD_eq_getD_getElem?, Array.getElem?_setIfInBounds_self_of_lt hsz] at hf
            simp at hf
          · rintro ⟨x, hx, hxi⟩
            exfalso
            rcases List.mem_append.1 hx with hx | hx
            · have := hB3 x hx y (by simp)
              omega
            · have := (List.pairwise_cons.1 hB2).1 x hx
              omega
        · rw [Array.getD_eq_getD_getElem?, Array.getElem?_setIfInBounds_ne (Ne.symm hki), ← Array.getD_eq_getD_getElem?, hl.mem k hk]
          constructor
          · rintro ⟨x, hx, hxi⟩
            refine ⟨x, ?_, hxi⟩
            simp only [List.mem_append, List.mem_cons] at hx ⊢
            rcases hx with hx | rfl | hx
            · exact .inl hx
            · omega
            · exact .inr hx
          · rintro ⟨x, hx, hxi⟩
            exact ⟨x, hsubl.subset hx, hxi⟩
      show wpOpIn (fw ro) dn c.P ops Q i _ a w
      unfold wpOpIn
      rw [Array.getElem?_eq_getElem hlt]
      simp only
      rw [hoy] at key
      unfold wp1 at key
      split
      · rename_i hw
        rw [if_pos hw] at key
        exact key
      · rename_i hw
        rw [if_neg hw] at key
        exact ⟨fun _ _ => trivial, key⟩

/-! ### the check over a drawn region -/
def nodB : List Nat → Bool
  | [] => true
  | i :: l => !l.contains i && nodB l
theorem nodB_ok : ∀ {l : List Nat}, nodB l = true → l.Nodup
  | [], _ => List.nodup_nil
  | i :: l, h => by
    simp only [nodB, Bool.and_eq_true] at h
    exact List.nodup_cons.2 ⟨by simpa using h.1, nodB_ok h.2⟩
def DOper.nod (d : DOper) : Bool := match d.ob with
  | .part ids => nodB ids
  | _ => true
/-- Do two operations not meet. -/
def apartB (x y : DOper) : Bool :=
  dis x.wr y.rd && dis x.wr y.wr && dis y.wr x.rd && farB x y
def edgeB (y : Oper) (i : Nat) : Bool := y.after.any fun e => Region.binds .any e && e.on == i
/-- Does it wait for one of these. -/
def edgeW (y : Oper) (W : List Nat) : Bool := y.after.any fun e => Region.binds .any e && W.contains e.on
/-- From number j on: each waits for one of these numbers (then it is one more of them) or doesn't meet it. -/
def freeB (x : DOper) : List Nat → Nat → List DOper → List Oper → Bool
  | W, j, y :: ys, o :: os => cond (edgeW o W) (freeB x (j :: W) (j + 1) ys os) (apartB x y && freeB x W (j + 1) ys os)
  | _, _, _, _ => true
def drawnB : Nat → List DOper → List Oper → Bool
  | i, d :: ds, o :: os => (o.after.all fun e => !Region.binds .any e || Nat.blt e.on i) && freeB d [i] (i + 1) ds os && d.nod && drawnB (i + 1) ds os
  | _, _, _ => true
def fitDr (nt : Nat) (ops : Array Oper) : List DOper → List Oper → Bool
  | [], [] => true
  | d :: ds, o :: os => fitD nt d.op.dst o.dst && fitG ops d.op.guard o.guard && fitDr nt ops ds os
  | _, _ => false
def DrOK (c : Cx) : List DOper → List Oper → Prop
  | d :: ds, o :: os => OpOK c d.op.op o ∧ DrOK c ds os
  | _, _ => True

/-- The items of a region, from number i on. -/
def Items : Nat → List DOper → List Oper → List It → Prop
  | i, d :: ds, o :: os, x :: xs => x.i = i ∧ x.o = o ∧ x.d = d ∧ Items (i + 1) ds os xs
  | _, [], [], [] => True
  | _, _, _, _ => False
theorem items_ge : ∀ {i : Nat} {ds : List DOper} {os : List Oper} {T : List It}, Items i ds os T → ∀ x ∈ T, i ≤ x.i ∧ x.i < i + os.length
  | i, [], [], [], _, x, hx => by simp at hx
  | i, [], [], _ :: _, h, _, _ => by simp [Items] at h
  | i, [], _ :: _, T, h, _, _ => by cases T <;> simp [Items] at h
  | i, _ :: _, [], T, h, _, _ => by cases T <;> simp [Items] at h
  | i, d :: ds, o :: os, [], h, _, _ => by simp [Items] at h
  | i, d :: ds, o :: os, y :: T, h, x, hx => by
    obtain ⟨h1, h2, h3, h4⟩ := h
    rcases List.mem_cons.1 hx with rfl | hx
    · simp; omega
    · have := items_ge h4 x hx
      simp; omega
theorem items_all : ∀ {i : Nat} {ds : List DOper} {os : List Oper} {T : List It}, Items i ds os T → ∀ k, i ≤ k → k < i + os.length → ∃ x ∈ T, x.i = k
  | i, [], [], [], _, k, h1, h2 => by simp at h2; omega
  | i, [], [], _ :: _, h, _, _, _ => by simp [Items] at h
  | i, [], _ :: _, T, h, _, _, _ => by cases T <;> simp [Items] at h
  | i, _ :: _, [], T, h, _, _, _ => by cases T <;> simp [Items] at h
  | i, d :: ds, o :: os, [], h, _, _, _ => by simp [Items] at h
  | i, d :: ds, o :: os, y :: T, h, k, h1, h2 => by
    obtain ⟨h3, _, _, h4⟩ := h
    by_cases e : k = i
    · exact ⟨y, by simp, by omega⟩
    · obtain ⟨x, hx, hxi⟩ := items_all h4 k (by omega) (by simp at h2; omega)
      exact ⟨x, by simp [hx], hxi⟩
theorem apart_of {x y : It} (h : apartB x.d y.d = true) : Apart x y := by
  simp only [apartB, Bool.and_eq_true] at h
  obtain ⟨⟨⟨h1, h2⟩, h3⟩, h4⟩ := h
  exact ⟨fun t ht => ⟨dis_spec h1 t ht, dis_spec h2 t ht⟩, fun t ht => ⟨dis_spec h3 t ht, fun hx => dis_spec h2 t hx ht⟩, h4⟩
theorem nod_of : ∀ {i : Nat} {ds : List DOper} {os : List Oper}, ds.length = os.length → drawnB i ds os = true → ∀ d ∈ ds, d.nod = true
  | i, [], _, _, _, d, hd => by simp at hd
  | i, _ :: _, [], hl, _, d, hd => by simp at hl
  | i, e :: ds, o :: os, hl, h, d, hd => by
    simp only [drawnB, Bool.and_eq_true] at h
    rcases List.mem_cons.1 hd with rfl | hd
    · exact h.1.2
    · exact nod_of (by simpa using hl) h.2 d hd
theorem fitDr_len {nt : Nat} {ops : Array Oper} : ∀ {ds : List DOper} {os : List Oper}, fitDr nt ops ds os = true → ds.length = os.length
  | [], [], _ => rfl
  | [], _ :: _, h => by simp [fitDr] at h
  | _ :: _, [], h => by simp [fitDr] at h
  | d :: ds, o :: os, h => by
    simp only [fitDr, Bool.and_eq_true] at h
    simp [fitDr_len h.2]
theorem edgeW_of {o : Oper} {W : List Nat} (h : edgeW o W = true) : ∃ k ∈ W, ∃ e ∈ o.after, Region.binds .any e = true ∧ e.on = k := by
  unfold edgeW at h
  obtain ⟨e, he, h2⟩ := Array.any_eq_true'.1 h
  simp only [Bool.and_eq_true, List.contains_iff_mem] at h2
  exact ⟨e.on, h2.2, e, he, h2.1, rfl⟩
theorem free_of {x : It} {U : List It} : ∀ {i : Nat} {ds : List DOper} {os : List Oper} {T : List It} {W : List Nat}, Items i ds os T → (∀ y ∈ T, y ∈ U) → (∀ k ∈ W, k = x.i ∨ ∃ z ∈ U, z.i = k ∧ Waits U x z) → freeB x.d W i ds os = true → ∀ y ∈ T, Waits U x y ∨ Apart x y
  | i, [], [], [], _, _, _, _, _, y, hy => by simp at hy
  | i, [], [], _ :: _, _, h, _, _, _, _, _ => by simp [Items] at h
  | i, [], _ :: _, T, _, h, _, _, _, _, _ => by cases T <;> simp [Items] at h
  | i, _ :: _, [], T, _, h, _, _, _, _, _ => by cases T <;> simp [Items] at h
  | i, d :: ds, o :: os, [], _, h, _, _, _, _, _ => by simp [Items] at h
  | i, d :: ds, o :: os, z :: T, W, h, hU, hW, hf, y, hy => by
    obtain ⟨h1, h2, h3, h4⟩ := h
    simp only [freeB] at hf
    have hU' : ∀ y ∈ T, y ∈ U := fun y hy => hU y (by simp [hy])
    cases hw : edgeW o W with
    | true =>
      rw [hw, cond_true] at hf
      obtain ⟨k, hk, hke⟩ := edgeW_of hw
      have hz : Waits U x z := by
        rcases hW k hk with rfl | ⟨q, hq, rfl, hq2⟩
        · exact .edge (by rw [h2]; exact hke)
        · exact .step hq hq2 (by rw [h2]; exact hke)
      rcases List.mem_cons.1 hy with rfl | hy
      · exact .inl hz
      · refine free_of h4 hU' (fun k hk => ?_) hf y hy
        rcases List.mem_cons.1 hk with rfl | hk
        · exact .inr ⟨z, hU z (by simp), h1, hz⟩
        · exact hW k hk
    | false =>
      rw [hw, cond_false, Bool.and_eq_true] at hf
      rcases List.mem_cons.1 hy with rfl | hy
      · exact .inr (apart_of (by rw [h3]; exact hf.1))
      · exact free_of h4 hU' hW hf.2 y hy
theorem drawn_of {U : List It} : ∀ {i : Nat} {ds : List DOper} {os : List Oper} {T : List It}, Items i ds os T → (∀ y ∈ T, y ∈ U) → drawnB i ds os = true → (T.Pairwise fun x y => x.i < y.i) ∧ (T.Pairwise fun x y => Waits U x y ∨ Apart x y) ∧ ∀ x ∈ T, ∀ e ∈ x.o.after, Region.binds .any e = true → e.on < x.i
  | i, [], [], [], _, _, _ => by simp
  | i, [], [], _ :: _, h, _, _ => by simp [Items] at h
  | i, [], _ :: _, T, h, _, _ => by cases T <;> simp [Items] at h
  | i, _ :: _, [], T, h, _, _ => by cases T <;> simp [Items] at h
  | i, d :: ds, o :: os, [], h, _, _ => by simp [Items] at h
  | i, d :: ds, o :: os, x :: T, h, hU, hd => by
    obtain ⟨h1, h2, h3, h4⟩ := h
    simp only [drawnB, Bool.and_eq_true] at hd
    obtain ⟨⟨⟨hd1, hd2⟩, _⟩, hd3⟩ := hd
    have hU' : ∀ y ∈ T, y ∈ U := fun y hy => hU y (by simp [hy])
    obtain ⟨k1, k2, k3⟩ := drawn_of h4 hU' hd3
    refine ⟨List.pairwise_cons.2 ⟨fun y hy => by have := items_ge h4 y hy; omega, k1⟩, List.pairwise_cons.2 ⟨free_of h4 hU' (fun k hk => .inl (by rw [List.mem_singleton.1 hk, h1])) (by rw [h3]; exact hd2), k2⟩, fun y hy => ?_⟩
    rcases List.mem_cons.1 hy with rfl | hy
    · intro e he hb
      rw [h2] at he
      have h5 := Array.all_eq_true_iff_forall_mem.1 hd1 e he
      simp only [hb, Bool.not_true, Bool.false_or] at h5
      rw [h1]
      exact Nat.le_of_ble_eq_true h5
    · exact k3 y hy

theorem zip_get {H : List AObj} {l : List (Nat × AV)} (H' : List AObj) : ∀ {m : List Nat} {us : List AV}, us.length = m.length → ∀ t, (⟨m.zip us ++ l, H⟩ : St).get t = if t ∈ m then (⟨m.zip us, H'⟩ : St).get t else (⟨l, H'⟩ : St).get t
  | [], us, _, t => by simp; rfl
  | u :: m, [], h, t => by simp at h
  | u :: m, v :: us, h, t => by
    simp only [List.zip_cons_cons, List.cons_append]
    rw [get_cons, get_cons, zip_get H' (by simpa using h) t]
    by_cases e : u = t
    · subst e; simp
    · rw [if_neg e, if_neg e]
      by_cases hm : t ∈ m
      · simp [hm]
      · simp [hm, Ne.symm e]
theorem renL_len {f : Nat → Option Nat} : ∀ {cs cs' : List AV}, renL f cs = some cs' → cs'.length = cs.length
  | [], cs', h => by simp only [renL] at h; injection h with h; subst h; rfl
  | c :: cs, cs', h => by
    simp only [renL] at h
    obtain ⟨c', h1, h2⟩ := Option.bind_eq_some_iff.1 h
    obtain ⟨ds', h3, h4⟩ := Option.bind_eq_some_iff.1 h2
    injection h4 with h4
    subst h4
    simp [renL_len h3]
theorem zip_rens {f : Nat → Option Nat} {s : St} {H : List AObj} : ∀ {m : List Nat} {us : List AV}, renL f (m.map s.get) = some us → (∀ t, t ∉ m → (⟨m.zip us, H⟩ : St).get t = .undef) ∧ ∀ t ∈ m, Sh.ren f (s.get t) = some ((⟨m.zip us, H⟩ : St).get t)
  | [], us, _ => ⟨fun t _ => rfl, fun t h => by simp at h⟩
  | u :: m, us, h => by
    simp only [List.map_cons, renL] at h
    obtain ⟨v', h1, h2⟩ := Option.bind_eq_some_iff.1 h
    obtain ⟨vs', h3, h4⟩ := Option.bind_eq_some_iff.1 h2
    injection h4 with h4
    subst h4
    obtain ⟨k1, k2⟩ := zip_rens (H := H) h3
    simp only [List.zip_cons_cons]
    refine ⟨fun t ht => ?_, fun t ht => ?_⟩
    · simp only [List.mem_cons, not_or] at ht
      rw [get_cons, if_neg (Ne.symm ht.1)]
      exact k1 t ht.2
    · rw [get_cons]
      by_cases e : u = t
      · subst e; rw [if_pos rfl]; exact h1
      · rw [if_neg e]
        exact k2 t ((List.mem_cons.1 ht).resolve_left (Ne.symm e))
theorem runD_ok {ops : Array Oper} {R : Type} {k : St → Option R} {r : R} : ∀ (ds : List DOper) (os : List Oper) (i : Nat) (s : St), (∀ j, os[j]? = ops[i + j]?) → fitDr c.nt ops ds os = true → DrOK c ds os → (∀ d ∈ ds, d.nod = true) → runD ds s R k = some r →
    ∃ T S', Items i ds os T ∧ (∀ x ∈ T, x.OK c ops) ∧ DRun T s S' ∧ k S' = some r
  | [], [], i, s, _, _, _, _, h => ⟨[], s, by simp [Items], by simp, ⟨fun _ => rfl, rfl⟩, h⟩
  | [], _ :: _, _, _, _, h, _, _, _ => by simp [fitDr] at h
  | _ :: _, [], _, _, _, h, _, _, _ => by simp [fitDr] at h
  | d :: ds, o :: os, i, s, hj, hf, hok, hnd, h => by
    simp only [fitDr, Bool.and_eq_true] at hf
    obtain ⟨⟨hd, hg⟩, hrest⟩ := hf
    have hjj : ∀ j, os[j]? = ops[i + 1 + j]? := fun j => by have := hj (j + 1); simp only [List.getElem?_cons_succ] at this; rw [this]; congr 1; omega
    have h0 := hj 0
    have hnd' : ∀ d ∈ ds, d.nod = true := fun e he => hnd e (by simp [he])
    have hndd := hnd d (by simp)
    by_cases hpart : ∃ ids, d.ob = .part ids
    · obtain ⟨ids, hob⟩ := hpart
      simp only [runD, hob] at h
      obtain ⟨vs, e1, h1⟩ := Option.bind_eq_some_iff.1 h
      obtain ⟨hs, e2, h2⟩ := Option.bind_eq_some_iff.1 h1
      have h3 := runOne_keeps (d := d) h2
      obtain ⟨L', h4, h5⟩ := runOne_ok (ops := ops) (o := o) hd hg hok.1 h3
      by_cases hk : (∀ t, t ∉ d.wr → L'.get t = (⟨d.rd.zip vs, hs⟩ : St).get t) ∧ (d.op.op.still = true → L'.heap = (⟨d.rd.zip vs, hs⟩ : St).heap)
      · rw [if_pos hk] at h4
        obtain ⟨us, e3, h6⟩ := Option.bind_eq_some_iff.1 h4
        obtain ⟨hs', e4, h7⟩ := Option.bind_eq_some_iff.1 h6
        obtain ⟨hlen, h8⟩ | ⟨_, h8⟩ := cond_some h7
        case inr => exact absurd h8 (by simp)
        obtain ⟨T, S', k1, k2, k3, k4⟩ := runD_ok ds os (i + 1) _ hjj hrest hok.2 hnd' h8
        obtain ⟨z1, z2⟩ := zip_rens (H := hs) e1
        obtain ⟨z3, z4⟩ := zip_rens (H := hs') e3
        have hN : ids.Nodup := by
          unfold DOper.nod at hndd
          rw [hob] at hndd
          exact nodB_ok hndd
        refine ⟨⟨i, o, d, ⟨d.rd.zip vs, hs⟩, L', ⟨d.wr.zip us, hs'⟩⟩ :: T, S', ⟨rfl, rfl, rfl, k1⟩, fun x hx => ?_, ⟨⟨fun t ht => ?_, ?_⟩, ?_⟩, k4⟩
        · rcases List.mem_cons.1 hx with rfl | hx
          · refine ⟨by simpa using h0.symm, (fitD_ok hd).1, h5, z1, fun hn => ?_, fun hn => ?_, hk.1, fun _ _ => .inr ⟨ids, hob⟩, fun hn => ?_, fun hw => absurd hob (hw ids), fun ids' hi => ?_⟩
            · simp [It.isNo, hob] at hn
            · simp [It.isNo, hob] at hn
            · simp [It.isNo, hob] at hn
            · have hi' : d.ob = .part ids' := hi
              rw [hob] at hi'
              injection hi' with hi'
              subst hi'
              exact ⟨hN, z4, e4, Nat.eq_of_beq_eq_true hlen, hk.2⟩
          · exact k2 x hx
        · rw [ids_some (x := ⟨i, o, d, ⟨d.rd.zip vs, hs⟩, L', ⟨d.wr.zip us, hs'⟩⟩) hob]
          exact z2 t ht
        · unfold It.sees
          simp only [hob]
          exact e2
        · refine DRun.congr (fun t => ?_) ?_ k3
          · rw [upd_over, ids_some (x := ⟨i, o, d, ⟨d.rd.zip vs, hs⟩, L', ⟨d.wr.zip us, hs'⟩⟩) hob]
            exact zip_get hs' (by rw [renL_len e3]; simp) t
          · rw [It.upd_heap]
            unfold It.hp
            simp only [hob]
            cases d.op.op.still <;> rfl
      · rw [if_neg hk] at h4
        exact absurd h4 (by simp)
    · have hnp : ∀ ids, d.ob ≠ .part ids := fun ids h => hpart ⟨ids, h⟩
      have h : cond (d.pre s) (runOps [d.op] (d.loc s) R fun l => cond (d.fine l) (runD ds (d.upd s l) R k) none) none = some r := by
        cases hob : d.ob with
        | part ids => exact absurd hob (hnp ids)
        | _ => simp only [runD, hob] at h; exact h
      obtain ⟨hpre, h1⟩ | ⟨_, h1⟩ := cond_some h
      case inr => exact absurd h1 (by simp)
      have h2 := runOne_keeps h1
      obtain ⟨L', h3, h4⟩ := runOne_ok (ops := ops) (o := o) hd hg hok.1 h2
      by_cases hk : (∀ t, t ∉ d.wr → L'.get t = (d.loc s).get t) ∧ (d.op.op.still = true → L'.heap = (d.loc s).heap)
      · rw [if_pos hk] at h3
        obtain ⟨hfine, h5⟩ | ⟨_, h5⟩ := cond_some h3
        case inr => exact absurd h5 (by simp)
        obtain ⟨T, S', h6, h7, h8, h9⟩ := runD_ok ds os (i + 1) (d.upd s L') hjj hrest hok.2 hnd' h5
        have hloc : ∀ t, (d.loc s).get t = if t ∈ d.rd then s.get t else .undef := fun t => by
          have := get_over (f := s.get) (l := []) (H := (d.loc s).heap) (H' := []) t d.rd
          simp only [List.append_nil] at this
          exact this
        have hidn : (⟨i, o, d, d.loc s, L', L'⟩ : It).ids? = none := ids_none hnp
        refine ⟨⟨i, o, d, d.loc s, L', L'⟩ :: T, S', ⟨rfl, rfl, rfl, h6⟩, fun x hx => ?_, ⟨⟨fun t ht => by rw [hidn]; simp only; rw [hloc, if_pos ht], ?_⟩, ?_⟩, h9⟩
        · rcases List.mem_cons.1 hx with rfl | hx
          · refine ⟨by simpa using h0.symm, (fitD_ok hd).1, h4, fun t ht => by rw [hloc, if_neg ht], fun hn => ?_, fun hn t ht => ?_, hk.1, fun hn ha => .inl ?_, fun hn t ht => ?_, fun _ => rfl, fun ids hi => absurd hi (hnp ids)⟩
            · simp only [It.isNo] at hn
              simp only [DOper.loc]
              cases hob : d.ob <;> rw [hob] at hn <;> simp at hn ⊢
            · simp only [It.isNo] at hn
              rw [hloc, if_pos ht]
              unfold DOper.pre at hpre
              cases hob : d.ob <;> rw [hob] at hn hpre <;> simp at hn
              exact belowL_all hpre _ (List.mem_map.2 ⟨t, ht, rfl⟩)
            · simp only [It.isNo] at hn
              simp only [It.isAll] at ha
              refine hk.2 ?_
              unfold DOper.fine at hfine
              cases hob : d.ob with
              | part ids => exact absurd hob (hnp ids)
              | look => rw [hob] at hfine; exact hfine
              | peek rs => rw [hob] at hfine; exact hfine
              | no => rw [hob] at hn; simp at hn
              | all => rw [hob] at ha; simp at ha
            · simp only [It.isNo] at hn
              unfold DOper.fine at hfine
              cases hob : d.ob <;> rw [hob] at hn hfine <;> simp at hn
              exact belowL_all hfine _ (List.mem_map.2 ⟨t, ht, rfl⟩)
          · exact h7 x hx
        · unfold It.sees
          simp only [DOper.loc]
          cases hob : d.ob with
          | part ids => exact absurd hob (hnp ids)
          | _ => first | trivial | rfl
        · refine DRun.congr (fun t => ?_) ?_ h8
          · rw [upd_over, hidn]
            exact get_over (f := L'.get) (H' := s.heap) t _
          · rw [It.upd_heap]
            unfold It.hp DOper.upd
            cases hob : d.ob with
            | part ids => exact absurd hob (hnp ids)
            | _ => rfl
      · rw [if_neg hk] at h3
        exact absurd h3 (by simp)

theorem snd_drawn {id : Nat} {ds : List DOper} {l : List Oper} (hm : c.P.follows .mixedOrders = true) (hf : fitDr c.nt l.toArray ds l = true) (hd : drawnB 0 ds l = true) (hok : DrOK c ds l) : Snd c (edrawn ds) (.region id l.toArray true) := by
  intro s R k r h
  obtain ⟨T, S', h1, h2, h3, h4⟩ := runD_ok (ops := l.toArray) ds l 0 s (fun j => by simp) hf hok (nod_of (fitDr_len hf) hd) h
  refine ⟨.normal, S', h4, fun F g a w B hB hp hs ro dn hro => wpIn_region_any hm ?_⟩
  obtain ⟨k1, k2, k3⟩ := drawn_of (U := T) h1 (fun _ h => h) hd
  have hlen : T.length = l.toArray.size := by
    have : ∀ {i : Nat} {ds : List DOper} {os : List Oper} {T : List It}, Items i ds os T → T.length = os.length := by
      intro i ds os T
      induction T generalizing i ds os with
      | nil => intro h; cases ds <;> cases os <;> simp [Items] at h ⊢
      | cons x T ih =>
        intro h
        cases ds with
        | nil => cases os <;> simp [Items] at h
        | cons d ds =>
          cases os with
          | nil => simp [Items] at h
          | cons o os => simp [ih h.2.2.2]
    simpa using this h1
  have hdrew : SimX F c.nt g s a { w with drawn := w.drawn + 1 } [] := by
    have hext : Ext g w g { w with drawn := w.drawn + 1 } := ⟨fun _ _ _ => rfl, fun _ _ => rfl, fun _ => Nat.le_refl _, fun _ => Nat.le_refl _, fun _ _ h => h⟩
    have hobj := ObjsR.move hext s.heap g.obj hs.core.heap (fun _ _ => rfl)
    have hc := hs.core
    refine hs.move hext ⟨hobj.1, fun r hr => ?_, fun b => ?_, fun b hF => ?_, hc.objlen, hc.lenlt, hc.flt, hc.good.step (fun _ h => h) fun _ _ => rfl⟩
    · rw [hobj.2] at hr; exact hc.own r hr
    · rw [hobj.2]; exact hc.dist b
    · rw [hobj.2]; exact hc.notF b hF
  refine any_of_run l.toArray.size T (Array.replicate l.toArray.size false) s F g a _ hlen ⟨h2, by simp, fun k hk => ?_, k1, k2, k3⟩ h3 hdrew (fun g' a' w' hd' hp' hs' hst => ⟨rfl, F, g', fun _ h => h, hp.trans hp', hs', ⟨hst.cell, hst.ty, hst.bsz, hst.len, hst.frame, hst.size, hst.os, hst.tape, hst.output⟩, .of_eq hd'⟩)
  constructor
  · intro _
    exact items_all h1 k (Nat.zero_le _) (by simpa using hk)
  · intro _
    rw [Array.getD_eq_getD_getElem?, Array.getElem?_replicate, if_pos hk]
    rfl
end Go.Sh

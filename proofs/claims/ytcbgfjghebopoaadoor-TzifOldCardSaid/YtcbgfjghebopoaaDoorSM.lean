/- A part of the objects handed on: the two laws. -/
import Derived.Test.YtcbgfjghebopoaaDoorSL
namespace Go.Sh
open Go.RowKit
set_option linter.unusedSimpArgs false
set_option linter.unusedVariables false

theorem toPos_go : ∀ (ids : List Nat) (k i p : Nat), toPosGo i ids k = some p → k ≤ p ∧ ids[p - k]? = some i
  | [], k, i, p, h => by simp [toPosGo] at h
  | j :: js, k, i, p, h => by
    simp only [toPosGo] at h
    obtain ⟨h1, h2⟩ | ⟨_, h2⟩ := cond_some h
    · injection h2 with h2
      subst h2
      simp only [beq_iff_eq] at h1
      subst h1
      exact ⟨Nat.le_refl _, by simp⟩
    · obtain ⟨h3, h4⟩ := toPos_go js (k + 1) i p h2
      refine ⟨by omega, ?_⟩
      rw [show p - k = (p - (k + 1)) + 1 by omega, List.getElem?_cons_succ]
      exact h4
theorem toPos_some {ids : List Nat} {i p : Nat} (h : toPos ids i = some p) : ids[p]? = some i := by simpa using (toPos_go ids 0 i p h).2

theorem EntR.ren {f : Nat → Option Nat} {g g1 : Gh} {w : World} (hl : ∀ b, g.len b ≤ g1.len b) (hf : ∀ (i j b : Nat), f i = some j → g.obj[i]? = some b → g1.obj[j]? = some b) : ∀ {es es' : List (AV × AV)} {l : List MapEntry}, renE f es = some es' → EntR g w es l → EntR g1 w es' l
  | [], es', l, h, he => by simp only [renE] at h; injection h with h; subst h; exact he
  | (k, v) :: es, es', l, h, he => by
    simp only [renE] at h
    obtain ⟨k', h1, h2⟩ := Option.bind_eq_some_iff.1 h
    obtain ⟨v', h3, h4⟩ := Option.bind_eq_some_iff.1 h2
    obtain ⟨es'', h5, h6⟩ := Option.bind_eq_some_iff.1 h4
    injection h6 with h6
    subst h6
    obtain ⟨x, rest, rfl, e1, e2, e3⟩ := he
    exact ⟨x, rest, rfl, (VR.ren hl hf (noPtr_ok hl) _ _ _ h1 e1).1, (VR.ren hl hf (noPtr_ok hl) _ _ _ h3 e2).1, EntR.ren hl hf h5 e3⟩
theorem VR.plain {g g1 : Gh} {w w1 : World} : ∀ {a : AV} {v : Value}, a.plain = true → VR g w a v → VR g1 w1 a v
  | .int _ _, _, _, h => h
  | .bool _, _, _, h => h
  | .str _, _, _, h => h
theorem VRs.plain {g g1 : Gh} {w w1 : World} : ∀ {l : List AV} (vs : List Value), l.all AV.plain = true → VRs g w l vs → VRs g1 w1 l vs
  | [], _, _, h => h
  | a :: l, vs, hp, h => by
    simp only [List.all_cons, Bool.and_eq_true] at hp
    simp only [VRs] at h ⊢
    obtain ⟨v, us, rfl, h1, h2⟩ := h
    exact ⟨v, us, rfl, VR.plain hp.1 h1, VRs.plain us hp.2 h2⟩
theorem VRss.plain {g g1 : Gh} {w w1 : World} : ∀ {l : List (List AV)}, (∀ e ∈ l, e.all AV.plain = true) → ∀ (vs : List Value), VRss g w l vs → VRss g1 w1 l vs
  | [], _, _, h => h
  | a :: l, hp, vs, h => by
    simp only [VRss] at h ⊢
    obtain ⟨p, q, rfl, h1, h2⟩ := h
    exact ⟨p, q, rfl, VRs.plain p (hp a (by simp)) h1, VRss.plain (fun e he => hp e (by simp [he])) q h2⟩
theorem ObjR.ren {f : Nat → Option Nat} {g g1 : Gh} {w : World} (hl : ∀ b, g.len b ≤ g1.len b) (hf : ∀ (i j b : Nat), f i = some j → g.obj[i]? = some b → g1.obj[j]? = some b) {b : Nat} {o o' : AObj} (h : renO f o = some o') (ho : ObjR g w b o) : ObjR g1 w b o' ∧ ownsO w b o' = ownsO w b o := by
  cases o with
  | map es =>
    simp only [renO] at h
    obtain ⟨es', h1, h2⟩ := Option.bind_eq_some_iff.1 h
    injection h2 with h2
    subst h2
    simp only [ObjR] at ho ⊢
    obtain ⟨en, cl, hw, hes⟩ := ho
    exact ⟨⟨en, cl, hw, EntR.ren hl hf h1 hes⟩, rfl⟩
  | rowS t xs => simp only [renO] at h; injection h with h; subst h; exact ⟨ho, rfl⟩
  | rowI t k xs => simp only [renO] at h; injection h with h; subst h; exact ⟨ho, rfl⟩
  | rowC n els =>
    simp only [renO] at h; injection h with h; subst h
    refine ⟨?_, rfl⟩
    simp only [ObjR] at ho ⊢
    rcases ho with ho | ⟨ho, arr, t, vs, rest, h5, h6, h7⟩
    · exact .inl ho
    · exact .inr ⟨ho, arr, t, vs, rest, h5, h6, VRss.plain (fun e he => (ho e he).2) _ h7⟩
  | rowN k xs => simp only [renO] at h; injection h with h; subst h; exact ⟨ho, rfl⟩
  | buf kd t l =>
    simp only [renO] at h; injection h with h; subst h
    refine ⟨?_, rfl⟩
    match kd, ho with
    | 0, ho =>
      simp only [ObjR] at ho ⊢
      obtain ⟨x, u, h5, h6, h7, h8⟩ := ho
      exact ⟨x, u, h5, h6, (VR.ren hl hf (noPtr_ok hl) _ _ _ (by rfl) h7).1, h8⟩
    | 1, ho =>
      simp only [ObjR] at ho ⊢
      obtain ⟨x, u, h5, h7, h8⟩ := ho
      exact ⟨x, u, h5, (VR.ren hl hf (noPtr_ok hl) _ _ _ (by rfl) h7).1, h8⟩
    | n + 2, ho => exact absurd ho (by simp [ObjR])
  | gone => simp only [renO] at h; injection h with h; subst h; exact ⟨ho, rfl⟩
  | loop key cs =>
    simp only [renO] at h
    obtain ⟨cs', h1, h2⟩ := Option.bind_eq_some_iff.1 h
    injection h2 with h2
    subst h2
    simp only [ObjR] at ho ⊢
    obtain ⟨r, h5, h6, h7, h8, h9, h10, h11, h12⟩ := ho
    exact ⟨⟨r, h5, h6, h7, h8, h9, h10, h11, (VRs.ren hl hf (noPtr_ok hl) cs cs' _ h1 h12).1⟩, rfl⟩
  | cells t cs =>
    simp only [renO] at h
    obtain ⟨cs', h1, h2⟩ := Option.bind_eq_some_iff.1 h
    injection h2 with h2
    subst h2
    simp only [ObjR] at ho ⊢
    obtain ⟨arr, hw, hvs⟩ := ho
    obtain ⟨h3, h4⟩ := VRs.ren hl hf (noPtr_ok hl) cs cs' _ h1 hvs
    exact ⟨⟨arr, hw, h3⟩, by simp only [ownsO, hw, h4]⟩
theorem pickObjs_some {f : Nat → Option Nat} {H : List AObj} : ∀ {ids : List Nat} {hs : List AObj}, pickObjs f H ids = some hs → hs.length = ids.length ∧ ∀ (p i : Nat), ids[p]? = some i → ∃ o o', H[i]? = some o ∧ hs[p]? = some o' ∧ renO f o = some o'
  | [], hs, h => by simp only [pickObjs] at h; injection h with h; subst h; exact ⟨rfl, fun p i hp => by simp at hp⟩
  | id :: ids, hs, h => by
    simp only [pickObjs] at h
    split at h
    · rename_i o ho
      obtain ⟨o', h1, h2⟩ := Option.bind_eq_some_iff.1 h
      obtain ⟨os, h3, h4⟩ := Option.bind_eq_some_iff.1 h2
      injection h4 with h4
      subst h4
      obtain ⟨h5, h6⟩ := pickObjs_some h3
      refine ⟨by simp [h5], fun p i hp => ?_⟩
      cases p with
      | zero => simp at hp; subst hp; exact ⟨o, o', ho, rfl, h1⟩
      | succ p => exact h6 p i (by simpa using hp)
    · exact absurd h (by simp)
theorem renOs_some {f : Nat → Option Nat} : ∀ {hs hs' : List AObj}, renOs f hs = some hs' → hs'.length = hs.length ∧ ∀ (p : Nat) (o : AObj), hs[p]? = some o → ∃ o', hs'[p]? = some o' ∧ renO f o = some o'
  | [], hs, h => by simp only [renOs] at h; injection h with h; subst h; exact ⟨rfl, fun p i hp => by simp at hp⟩
  | o :: os, hs, h => by
    simp only [renOs] at h
    obtain ⟨o', h1, h2⟩ := Option.bind_eq_some_iff.1 h
    obtain ⟨os', h3, h4⟩ := Option.bind_eq_some_iff.1 h2
    injection h4 with h4
    subst h4
    obtain ⟨h5, h6⟩ := renOs_some h3
    refine ⟨by simp [h5], fun p i hp => ?_⟩
    cases p with
    | zero => simp at hp; subst hp; exact ⟨o', rfl, h1⟩
    | succ p => exact h6 p i (by simpa using hp)
theorem addObjs_eq (h m : List AObj) : addObjs h m = h ++ m := by cases m <;> simp [addObjs]
theorem putObjs_length : ∀ (ids : List Nat) (H os : List AObj), (putObjs H ids os).length = H.length
  | [], H, os => by simp [putObjs]
  | i :: ids, H, [] => by simp [putObjs]
  | i :: ids, H, o :: os => by simp [putObjs, putObjs_length ids]
theorem putObjs_other : ∀ {ids : List Nat} {H os : List AObj} {i : Nat}, i ∉ ids → (putObjs H ids os)[i]? = H[i]?
  | [], H, os, i, h => by simp [putObjs]
  | j :: ids, H, [], i, h => by simp [putObjs]
  | j :: ids, H, o :: os, i, h => by
    simp only [List.mem_cons, not_or] at h
    rw [putObjs, putObjs_other h.2, List.getElem?_set_ne (Ne.symm h.1)]
theorem putObjs_at : ∀ {ids : List Nat} {H os : List AObj} {p i : Nat} {o : AObj}, ids.Nodup → ids[p]? = some i → os[p]? = some o → i < H.length → (putObjs H ids os)[i]? = some o
  | [], H, os, p, i, o, _, h, _, _ => by simp at h
  | j :: ids, H, [], p, i, o, _, _, h, _ => by simp at h
  | j :: ids, H, o' :: os, p, i, o, hn, hp, ho, hl => by
    obtain ⟨h1, h2⟩ := List.nodup_cons.1 hn
    cases p with
    | zero =>
      simp at hp ho
      subst hp; subst ho
      rw [putObjs, putObjs_other h1, List.getElem?_set_self hl]
    | succ p =>
      rw [putObjs]
      exact putObjs_at h2 (by simpa using hp) (by simpa using ho) (by simpa using hl)

/-- The others. -/
def others (H : List AObj) (ids : List Nat) : List Nat := (List.range H.length).filter fun i => !ids.contains i
/-- What isn't touched while a part is handed on. -/
def Held (F : Nat → Prop) (g : Gh) (H : List AObj) (ids : List Nat) (os : List Rec) (w : World) (b : Nat) : Prop := F b ∨ 0 < oc b os ∨ b ∈ (others H ids).flatMap (claims w H g.obj)
/-- The part's numbers. -/
def partOf (g : Gh) (ids : List Nat) : Gh := ⟨ids.map fun i => g.obj.getD i 0, g.len⟩

theorem partOf_get {g : Gh} {ids : List Nat} {p i : Nat} (h : ids[p]? = some i) : (partOf g ids).obj[p]? = some (g.obj.getD i 0) := by
  simp [partOf, h]

section
variable {F : Nat → Prop} {g : Gh} {H : List AObj} {os1 os2 : List Rec} {w : World} {ids : List Nat} {hs : List AObj}

theorem total_split (h : Core F g H (os1 ++ os2) w) (hn : ids.Nodup) (hl : ∀ i ∈ ids, i < H.length) (b : Nat) :
    oc b (ownsH w H g.obj) + (lives H g.obj).count b = (ids.flatMap (claims w H g.obj)).count b + ((others H ids).flatMap (claims w H g.obj)).count b := by
  rw [claims_count w h.heap.length b]
  have := ((perm_split hn hl).flatMap_right (claims w H g.obj)).count_eq b
  rw [this, List.flatMap_append, List.count_append]
  rfl

theorem pick_owns (h : Core F g H (os1 ++ os2) w) (hp : pickObjs (toPos ids) H ids = some hs) {p i : Nat} (hpi : ids[p]? = some i) (hi : i < H.length) : ownsI w hs (partOf g ids).obj p = ownsI w H g.obj i := by
  obtain ⟨o, o', h1, h2, h3⟩ := (pickObjs_some hp).2 p i hpi
  have hb : g.obj[i]? = some (g.obj.getD i 0) := by
    have := h.heap.length
    rw [List.getD_eq_getElem?_getD, List.getElem?_eq_getElem (by omega)]; rfl
  simp only [ownsI, h1, h2, partOf_get hpi, hb]
  have hr := getObj_ok h.heap i _ o h1 hb
  exact (ObjR.ren (g := g) (g1 := partOf g ids) (fun _ => Nat.le_refl _) (fun i j b hij hb => by rw [partOf_get (toPos_some hij), List.getD_eq_getElem?_getD, hb]; rfl) h3 hr).2
theorem pick_claims (h : Core F g H (os1 ++ os2) w) (hp : pickObjs (toPos ids) H ids = some hs) {p i : Nat} (hpi : ids[p]? = some i) (hi : i < H.length) : claims w hs (partOf g ids).obj p = claims w H g.obj i := by
  have hb : g.obj[i]? = some (g.obj.getD i 0) := by
    have := h.heap.length
    rw [List.getD_eq_getElem?_getD, List.getElem?_eq_getElem (by omega)]; rfl
  obtain ⟨o, o', h1, h2, h3⟩ := (pickObjs_some hp).2 p i hpi
  simp only [claims, liveI, pick_owns h hp hpi hi, partOf_get hpi, hb, h1, h2, renO_dead h3]
theorem flatMap_congr' {f f' : Nat → List Nat} : ∀ {l : List Nat}, (∀ i ∈ l, f i = f' i) → l.flatMap f = l.flatMap f'
  | [], _ => rfl
  | i :: l, h => by rw [List.flatMap_cons, List.flatMap_cons, h i (by simp), flatMap_congr' (l := l) (fun j hj => h j (by simp [hj]))]
theorem flatMap_ids {f f' : Nat → List Nat} {n : Nat} (hn : n = ids.length) (h : ∀ p i, ids[p]? = some i → f p = f' i) : (List.range n).flatMap f = ids.flatMap f' := by
  subst hn
  conv => rhs; rw [range_map_get ids]
  rw [List.flatMap_map]
  refine flatMap_congr' fun p hp => ?_
  have hlt : p < ids.length := by simpa using hp
  exact h p _ (by rw [List.getD_eq_getElem?_getD, List.getElem?_eq_getElem hlt]; rfl)

theorem claims_lt {F : Nat → Prop} {g : Gh} {H : List AObj} {os : List Rec} {w : World} (h : Core F g H os w) {i b : Nat} (hb : b ∈ claims w H g.obj i) : b < w.heap.size := by
  rcases List.mem_append.1 hb with hb | hb
  · obtain ⟨r, hr, rfl⟩ := List.mem_map.1 hb
    have hi : i < H.length := by
      rcases Nat.lt_or_ge i H.length with h' | h'
      · exact h'
      · simp [ownsI, List.getElem?_eq_none h'] at hr
    exact (h.own r (.inr ((mem_ownsH h.heap.length).2 ⟨i, hi, hr⟩))).lt
  · obtain ⟨o, h1, h2, h3⟩ := liveI_mem hb
    exact h.heap.lt b (lives_at h1 h2 h3)

/-- The part, on its own. -/
theorem Core.split (h : Core F g H (os1 ++ os2) w) (hn : ids.Nodup) (hl : ∀ i ∈ ids, i < H.length) (hp : pickObjs (toPos ids) H ids = some hs) : Core (Held F g H ids os2 w) (partOf g ids) hs os1 w := by
  have hlen := (pickObjs_some hp).1
  have hlen2 : hs.length = (partOf g ids).obj.length := by rw [hlen]; simp [partOf]
  have hcl : ∀ b, oc b (ownsH w hs (partOf g ids).obj) + (lives hs (partOf g ids).obj).count b = (ids.flatMap (claims w H g.obj)).count b := fun b => by
    rw [claims_count w hlen2 b, flatMap_ids (ids := ids) hlen (fun p i hpi => pick_claims h hp hpi (hl i (List.mem_of_getElem? hpi)))]
  have htot := total_split h hn hl
  refine ⟨objsR_iff.2 ⟨hlen2, fun p b o' ho hb => ?_⟩, fun r hr => ?_, fun b => ?_, fun b hF => ?_, fun b hb => ?_, h.lenlt, fun b hF => ?_, h.good.step (fun _ h => .inl h) fun _ _ => rfl⟩
  · have hlt : p < ids.length := by
      have := (List.getElem?_eq_some_iff.1 ho).1
      omega
    have hpi := List.getElem?_eq_getElem hlt
    obtain ⟨o, o'', h1, h2, h3⟩ := (pickObjs_some hp).2 p _ hpi
    rw [ho] at h2
    injection h2 with h2
    subst h2
    rw [partOf_get hpi] at hb
    injection hb with hb
    have hi := hl _ (List.getElem_mem hlt)
    have hb' : g.obj[ids[p]]? = some b := by
      have := h.heap.length
      rw [← hb, List.getD_eq_getElem?_getD, List.getElem?_eq_getElem (by omega)]; rfl
    exact (ObjR.ren (g := g) (g1 := partOf g ids) (fun _ => Nat.le_refl _) (fun i j b hij hb => by rw [partOf_get (toPos_some hij), List.getD_eq_getElem?_getD, hb]; rfl) h3 (getObj_ok h.heap _ _ _ h1 hb')).1
  · rcases hr with hr | hr
    · exact h.own r (.inl (List.mem_append_left _ hr))
    · obtain ⟨p, hp1, hp2⟩ := (mem_ownsH hlen2).1 hr
      have hlt : p < ids.length := by omega
      have hpi := List.getElem?_eq_getElem hlt
      have hi := hl _ (List.getElem_mem hlt)
      rw [pick_owns h hp hpi hi] at hp2
      exact h.own r (.inr ((mem_ownsH h.heap.length).2 ⟨_, hi, hp2⟩))
  · have := h.dist b
    have := hcl b
    have := htot b
    simp only [oc_append] at *
    omega
  · have := h.dist b
    have := hcl b
    have := htot b
    simp only [oc_append] at *
    rcases hF with hF | hF | hF
    · have := h.notF b hF
      simp only [oc_append] at *
      omega
    · omega
    · have := List.count_pos_iff.2 hF
      omega
  · obtain ⟨p, o', h1, h2, h3⟩ := (mem_lives hlen2).1 hb
    have hpl := (List.getElem?_eq_some_iff.1 h1).1
    have hpi := List.getElem?_eq_getElem (l := ids) (i := p) (by omega)
    obtain ⟨o, o2, k1, k2, k3⟩ := (pickObjs_some hp).2 p _ hpi
    rw [h1] at k2
    injection k2 with k2
    subst k2
    rw [partOf_get hpi] at h2
    injection h2 with h2
    have hlen3 := h.heap.length
    have hi := (List.getElem?_eq_some_iff.1 k1).1
    refine h.objlen _ (lives_at k1 ?_ (by rw [← renO_dead k3]; exact h3))
    rw [← h2, List.getD_eq_getElem?_getD, List.getElem?_eq_getElem (by omega)]
    rfl
  · rcases hF with hF | hF | hF
    · exact h.flt b hF
    · obtain ⟨r, hr, hr2⟩ := List.countP_pos_iff.1 hF
      have := (h.own r (.inl (List.mem_append_right _ hr))).lt
      simp at hr2
      omega
    · obtain ⟨i, _, hb⟩ := List.mem_flatMap.1 hF
      exact claims_lt h hb

/-- The numbers behind. -/
def joinOf (g g1 : Gh) (ids : List Nat) : Gh := ⟨g.obj ++ g1.obj.drop ids.length, g1.len⟩

theorem back_ok {g1 : Gh} {H : List AObj} (hlen : H.length = g.obj.length) (hl : ∀ i ∈ ids, i < H.length) (hpre : (partOf g ids).obj <+: g1.obj) (p j b : Nat) (h : backPos ids H p = some j) (hb : g1.obj[p]? = some b) : (joinOf g g1 ids).obj[j]? = some b := by
  unfold backPos at h
  obtain ⟨h1, h2⟩ | ⟨h1, h2⟩ := cond_some h
  · have hp : (partOf g ids).obj[p]? = some b := by
      obtain ⟨t, ht⟩ := hpre
      have hlt : p < (partOf g ids).obj.length := by
        have := (List.getElem?_eq_some_iff.1 h2).1
        simpa [partOf] using this
      rw [← ht, List.getElem?_append_left hlt] at hb
      exact hb
    rw [partOf_get h2] at hp
    injection hp with hp
    have hj := hl j (List.mem_of_getElem? h2)
    simp only [joinOf]
    rw [List.getElem?_append_left (by omega), ← hp, List.getD_eq_getElem?_getD, List.getElem?_eq_getElem (by omega)]
    rfl
  · injection h2 with h2
    subst h2
    have hge : ids.length ≤ p := by
      rcases Nat.lt_or_ge p ids.length with h' | h'
      · have : Nat.blt p ids.length = true := by simp [Nat.blt]; omega
        rw [this] at h1
        cases h1
      · exact h'
    simp only [joinOf]
    rw [List.getElem?_append_right (by omega), hlen, Nat.add_sub_cancel_left, List.getElem?_drop, show ids.length + (p - ids.length) = p by omega]
    exact hb

/-- Put together again. -/
theorem Core.join {g1 : Gh} {hs' hs'' : List AObj} {os1' : List Rec} {w1 : World} (h : Core F g H (os1 ++ os2) w) (hn : ids.Nodup) (hl : ∀ i ∈ ids, i < H.length)
    (hc : Core (Held F g H ids os2 w) g1 hs' os1' w1) (hst : Step (Held F g H ids os2 w) (partOf g ids) w g1 w1) (hpre : (partOf g ids).obj <+: g1.obj) (hr : renOs (backPos ids H) hs' = some hs'') :
    Core F (joinOf g g1 ids) (addObjs (putObjs H ids hs'') (hs''.drop ids.length)) (os1' ++ os2) w1 ∧ Step F g w (joinOf g g1 ids) w1 ∧ Ext g w (joinOf g g1 ids) w1 ∧
    (∀ (a a' : AV) (v : Value), ren (backPos ids H) a = some a' → VR g1 w1 a v → VR (joinOf g g1 ids) w1 a' v ∧ owns a' v = owns a v) := by
  have hlen := h.heap.length
  have hback := back_ok hlen hl hpre
  have ext : Ext g w (joinOf g g1 ids) w1 := ⟨hst.cell, hst.ty, hst.bsz, hst.len, fun i b hi => by
    simp only [joinOf]
    rw [List.getElem?_append_left (List.getElem?_eq_some_iff.1 hi).1]; exact hi⟩
  have hstep : Step F g w (joinOf g g1 ids) w1 := ⟨hst.cell, hst.ty, hst.bsz, hst.len, fun b hb => hst.frame b (.inl hb), hst.size, hst.os, hst.tape, hst.output⟩
  have hle : ∀ b, g1.len b ≤ (joinOf g g1 ids).len b := fun _ => Nat.le_refl _
  obtain ⟨hr1, hr2⟩ := renOs_some hr
  have hlen1 := hc.heap.length
  have hn1 : ids.length ≤ hs'.length := by
    have := hpre.length_le
    simp [partOf] at this
    omega
  have hH' : addObjs (putObjs H ids hs'') (hs''.drop ids.length) = putObjs H ids hs'' ++ hs''.drop ids.length := addObjs_eq _ _
  rw [hH']
  have hlenH : (putObjs H ids hs'' ++ hs''.drop ids.length).length = H.length + (hs'.length - ids.length) := by simp [putObjs_length, hr1]
  have hlenO : (joinOf g g1 ids).obj.length = H.length + (hs'.length - ids.length) := by simp [joinOf, hlen, hlen1]
  -- where each object is
  have other : ∀ i, i < H.length → i ∉ ids → (putObjs H ids hs'' ++ hs''.drop ids.length)[i]? = H[i]? ∧ (joinOf g g1 ids).obj[i]? = g.obj[i]? := fun i hi hid => by
    refine ⟨?_, ?_⟩
    · rw [List.getElem?_append_left (by rw [putObjs_length]; exact hi), putObjs_other hid]
    · simp only [joinOf]; rw [List.getElem?_append_left (by omega)]
  have mine : ∀ p i, ids[p]? = some i → ∃ o o', hs'[p]? = some o ∧ renO (backPos ids H) o = some o' ∧ (putObjs H ids hs'' ++ hs''.drop ids.length)[i]? = some o' ∧ (joinOf g g1 ids).obj[i]? = g1.obj[p]? := fun p i hpi => by
    have hplt := (List.getElem?_eq_some_iff.1 hpi).1
    have hi := hl i (List.mem_of_getElem? hpi)
    have ho := List.getElem?_eq_getElem (l := hs') (i := p) (by omega)
    obtain ⟨o', h1, h2⟩ := hr2 p _ ho
    refine ⟨_, o', ho, h2, ?_, ?_⟩
    · rw [List.getElem?_append_left (by rw [putObjs_length]; exact hi), putObjs_at hn hpi h1 hi]
    · have hb := List.getElem?_eq_getElem (l := g1.obj) (i := p) (by omega)
      rw [hb]
      refine hback p i _ ?_ hb
      have hblt : Nat.blt p ids.length = true := by simp [Nat.blt]; omega
      simp only [backPos, hblt, cond_true, hpi]
  have fresh : ∀ q, q < hs'.length - ids.length → ∃ o o', hs'[ids.length + q]? = some o ∧ renO (backPos ids H) o = some o' ∧ (putObjs H ids hs'' ++ hs''.drop ids.length)[H.length + q]? = some o' ∧ (joinOf g g1 ids).obj[H.length + q]? = g1.obj[ids.length + q]? := fun q hq => by
    have ho := List.getElem?_eq_getElem (l := hs') (i := ids.length + q) (by omega)
    obtain ⟨o', h1, h2⟩ := hr2 _ _ ho
    refine ⟨_, o', ho, h2, ?_, ?_⟩
    · rw [List.getElem?_append_right (by rw [putObjs_length]; omega), putObjs_length, Nat.add_sub_cancel_left, List.getElem?_drop, h1]
    · simp only [joinOf]; rw [List.getElem?_append_right (by omega), hlen, Nat.add_sub_cancel_left, List.getElem?_drop]
  -- what they claim
  have heldSame : ∀ i b, i ∈ others H ids → b ∈ claims w H g.obj i → w1.heap[b]? = w.heap[b]? ∧ g1.len b = g.len b := fun i b hi hb => hst.frame b (.inr (.inr (List.mem_flatMap.2 ⟨i, hi, hb⟩)))
  have mem_others : ∀ i, i ∈ others H ids ↔ i < H.length ∧ i ∉ ids := fun i => by simp [others]
  have ownsOther : ∀ i, i ∈ others H ids → ownsI w1 (putObjs H ids hs'' ++ hs''.drop ids.length) (joinOf g g1 ids).obj i = ownsI w H g.obj i := fun i hi => by
    obtain ⟨h1, h2⟩ := (mem_others i).1 hi
    obtain ⟨h3, h4⟩ := other i h1 h2
    have ho := List.getElem?_eq_getElem (l := H) (i := i) h1
    have hb := List.getElem?_eq_getElem (l := g.obj) (i := i) (by omega)
    simp only [ownsI, h3, h4, ho, hb]
    cases hd : H[i].dead with
    | true => rw [ownsO_dead hd, ownsO_dead hd]
    | false => exact ownsO_congr (heldSame i g.obj[i] hi (List.mem_append_right _ (liveI_at ho hb hd))).1
  have ownsMine : ∀ p i, ids[p]? = some i → ownsI w1 (putObjs H ids hs'' ++ hs''.drop ids.length) (joinOf g g1 ids).obj i = ownsI w1 hs' g1.obj p := fun p i hpi => by
    obtain ⟨o, o', h1, h2, h3, h4⟩ := mine p i hpi
    have hplt := (List.getElem?_eq_some_iff.1 hpi).1
    have hb := List.getElem?_eq_getElem (l := g1.obj) (i := p) (by omega)
    simp only [ownsI, h1, h3, h4, hb]
    exact (ObjR.ren hle hback h2 (getObj_ok hc.heap p _ o h1 hb)).2
  have ownsFresh : ∀ q, q < hs'.length - ids.length → ownsI w1 (putObjs H ids hs'' ++ hs''.drop ids.length) (joinOf g g1 ids).obj (H.length + q) = ownsI w1 hs' g1.obj (ids.length + q) := fun q hq => by
    obtain ⟨o, o', h1, h2, h3, h4⟩ := fresh q hq
    have hb := List.getElem?_eq_getElem (l := g1.obj) (i := ids.length + q) (by omega)
    simp only [ownsI, h1, h3, h4, hb]
    exact (ObjR.ren hle hback h2 (getObj_ok hc.heap _ _ o h1 hb)).2
  have htot1 : ∀ b, oc b (ownsH w1 (putObjs H ids hs'' ++ hs''.drop ids.length) (joinOf g g1 ids).obj) + (lives (putObjs H ids hs'' ++ hs''.drop ids.length) (joinOf g g1 ids).obj).count b = (oc b (ownsH w1 hs' g1.obj) + (lives hs' g1.obj).count b) + ((others H ids).flatMap (claims w H g.obj)).count b := fun b => by
    rw [claims_count w1 (by rw [hlenH, hlenO]) b, claims_count w1 hlen1 b, hlenH, List.range_add, List.flatMap_append, List.count_append,
      ((perm_split hn hl).flatMap_right _).count_eq b, List.flatMap_append, List.count_append]
    have e1 : ids.flatMap (claims w1 (putObjs H ids hs'' ++ hs''.drop ids.length) (joinOf g g1 ids).obj) = (List.range ids.length).flatMap (claims w1 hs' g1.obj) :=
      (flatMap_ids (ids := ids) rfl (fun p i hpi => by
        obtain ⟨o, o', h1, h2, h3, h4⟩ := mine p i hpi
        have hplt := (List.getElem?_eq_some_iff.1 hpi).1
        have hb := List.getElem?_eq_getElem (l := g1.obj) (i := p) (by omega)
        simp only [claims, liveI, ownsMine p i hpi, h4, h1, h3, hb, renO_dead h2])).symm
    have e2 : ((List.range H.length).filter fun i => !ids.contains i).flatMap (claims w1 (putObjs H ids hs'' ++ hs''.drop ids.length) (joinOf g g1 ids).obj) = (others H ids).flatMap (claims w H g.obj) := by
      refine flatMap_congr' fun i hi => ?_
      obtain ⟨h1, h2⟩ := (mem_others i).1 hi
      simp only [claims, liveI, ownsOther i hi, (other i h1 h2).2, (other i h1 h2).1]
    have e3 : ((List.range (hs'.length - ids.length)).map (H.length + ·)).flatMap (claims w1 (putObjs H ids hs'' ++ hs''.drop ids.length) (joinOf g g1 ids).obj) = ((List.range (hs'.length - ids.length)).map (ids.length + ·)).flatMap (claims w1 hs' g1.obj) := by
      rw [List.flatMap_map, List.flatMap_map]
      refine flatMap_congr' fun q hq => ?_
      have hq' : q < hs'.length - ids.length := by simpa using hq
      obtain ⟨o, o', h1, h2, h3, h4⟩ := fresh q hq'
      have hb := List.getElem?_eq_getElem (l := g1.obj) (i := ids.length + q) (by omega)
      simp only [claims, liveI, ownsFresh q hq', h4, h1, h3, hb, renO_dead h2]
    have e4 : List.range hs'.length = List.range ids.length ++ (List.range (hs'.length - ids.length)).map (ids.length + ·) := by
      rw [← List.range_add, show ids.length + (hs'.length - ids.length) = hs'.length by omega]
    rw [e1, e2, e3, e4, List.flatMap_append, List.count_append]
    omega
  have htot0 := total_split h hn hl
  refine ⟨⟨objsR_iff.2 ⟨by rw [hlenH, hlenO], fun i b o ho hb => ?_⟩, fun r hr => ?_, fun b => ?_, fun b hF => ?_, fun b hb => ?_, hc.lenlt, fun b hF => hc.flt b (.inl hF), h.good.step (fun _ h => h) fun b hF => (hst.frame b (.inl hF)).1⟩, hstep, ext, fun a a' v ha hv => VR.ren hle hback (noPtr_ok hle) a a' v ha hv⟩
  · by_cases hi : i < H.length
    · by_cases hid : i ∈ ids
      · obtain ⟨p, hplt, hp⟩ := List.mem_iff_getElem.1 hid
        obtain ⟨o1, o2, h1, h2, h3, h4⟩ := mine p i (by rw [List.getElem?_eq_getElem hplt, hp])
        rw [ho] at h3
        injection h3 with h3
        subst h3
        rw [hb] at h4
        exact (ObjR.ren hle hback h2 (getObj_ok hc.heap p b o1 h1 h4.symm)).1
      · obtain ⟨h1, h2⟩ := other i hi hid
        rw [h1] at ho
        rw [h2] at hb
        cases hd : o.dead with
        | true => exact ObjR_dead hd
        | false =>
        have hsame := (heldSame i b ((mem_others i).2 ⟨hi, hid⟩) (List.mem_append_right _ (liveI_at ho hb hd))).1
        have := (ObjsR.move ext [o] [b] (by simp only [ObjsR]; exact ⟨b, [], rfl, getObj_ok h.heap i b o ho hb, rfl⟩) (fun k hk => by have hk := lives_mem hk; simp at hk; subst hk; exact hsame)).1
        simp only [ObjsR] at this
        obtain ⟨b2, _, e2, h3, _⟩ := this
        injection e2 with e2 _
        subst e2
        exact h3
    · have hlt := (List.getElem?_eq_some_iff.1 ho).1
      rw [hlenH] at hlt
      obtain ⟨o1, o2, h1, h2, h3, h4⟩ := fresh (i - H.length) (by omega)
      rw [show H.length + (i - H.length) = i by omega] at h3 h4
      rw [ho] at h3
      injection h3 with h3
      subst h3
      rw [hb] at h4
      exact (ObjR.ren hle hback h2 (getObj_ok hc.heap _ b o1 h1 h4.symm)).1
  · have held : ∀ r, OwnOK g w r → Held F g H ids os2 w r.1 → OwnOK (joinOf g g1 ids) w1 r := fun r ⟨o1, o2, arr, t, o3, o4⟩ hh => by
      obtain ⟨h1, h2⟩ := hst.frame r.1 hh
      exact ⟨by rw [← o1]; exact h2, o2, arr, t, o3.of_heap h1, o4⟩
    have new : ∀ r, OwnOK g1 w1 r → OwnOK (joinOf g g1 ids) w1 r := fun r hr => hr
    rcases hr with hr | hr
    · rcases List.mem_append.1 hr with hr | hr
      · exact new r (hc.own r (.inl hr))
      · exact held r (h.own r (.inl (List.mem_append_right _ hr))) (.inr (.inl (oc_mem hr)))
    · obtain ⟨i, hi1, hi2⟩ := (mem_ownsH (by rw [hlenH, hlenO])).1 hr
      by_cases hi : i < H.length
      · by_cases hid : i ∈ ids
        · obtain ⟨p, hplt, hp⟩ := List.mem_iff_getElem.1 hid
          rw [ownsMine p i (by rw [List.getElem?_eq_getElem hplt, hp])] at hi2
          exact new r (hc.own r (.inr ((mem_ownsH hlen1).2 ⟨p, by omega, hi2⟩)))
        · have hio := (mem_others i).2 ⟨hi, hid⟩
          rw [ownsOther i hio] at hi2
          exact held r (h.own r (.inr ((mem_ownsH hlen).2 ⟨i, hi, hi2⟩))) (.inr (.inr (List.mem_flatMap.2 ⟨i, hio, claims_own hi2⟩)))
      · rw [hlenH] at hi1
        have h5 := ownsFresh (i - H.length) (by omega)
        rw [show H.length + (i - H.length) = i by omega] at h5
        rw [h5] at hi2
        exact new r (hc.own r (.inr ((mem_ownsH hlen1).2 ⟨_, by omega, hi2⟩)))
  · have h1 := htot1 b
    have h2 := hc.dist b
    have h3 := h.dist b
    have h4 := htot0 b
    simp only [oc_append] at h3 ⊢
    by_cases hh : Held F g H ids os2 w b
    · have := hc.notF b hh
      omega
    · have h5 : oc b os2 = 0 := by
        rcases Nat.eq_zero_or_pos (oc b os2) with e | e
        · exact e
        · exact absurd (.inr (.inl e)) hh
      have h6 : ((others H ids).flatMap (claims w H g.obj)).count b = 0 := by
        rcases Nat.eq_zero_or_pos (((others H ids).flatMap (claims w H g.obj)).count b) with e | e
        · exact e
        · exact absurd (.inr (.inr (List.count_pos_iff.1 e))) hh
      omega
  · have h1 := htot1 b
    have h2 := hc.notF b (.inl hF)
    have h3 := h.notF b hF
    have h4 := htot0 b
    simp only [oc_append] at h3 ⊢
    omega
  · obtain ⟨i, o, ho, hbi, hd⟩ := (mem_lives (by rw [hlenH, hlenO])).1 hb
    simp only [joinOf]
    by_cases hi : i < H.length
    · by_cases hid : i ∈ ids
      · obtain ⟨p, hplt, hp⟩ := List.mem_iff_getElem.1 hid
        obtain ⟨o1, o2, h1, h2, h3, h4⟩ := mine p i (by rw [List.getElem?_eq_getElem hplt, hp])
        rw [ho] at h3
        injection h3 with h3
        subst h3
        rw [hbi] at h4
        exact hc.objlen b (lives_at h1 h4.symm (by rw [← renO_dead h2]; exact hd))
      · obtain ⟨h1, h2⟩ := other i hi hid
        rw [h1] at ho
        rw [h2] at hbi
        rw [(heldSame i b ((mem_others i).2 ⟨hi, hid⟩) (List.mem_append_right _ (liveI_at ho hbi hd))).2]
        exact h.objlen b (lives_at ho hbi hd)
    · have hlt := (List.getElem?_eq_some_iff.1 ho).1
      rw [hlenH] at hlt
      obtain ⟨o1, o2, h1, h2, h3, h4⟩ := fresh (i - H.length) (by omega)
      rw [show H.length + (i - H.length) = i by omega] at h3 h4
      rw [ho] at h3
      injection h3 with h3
      subst h3
      rw [hbi] at h4
      exact hc.objlen b (lives_at h1 h4.symm (by rw [← renO_dead h2]; exact hd))
/-! ### the others as objects that are used no more -/
theorem hideX_len (rs : List Nat) : ∀ (H : List AObj) (k : Nat), (hideX rs k H).length = H.length
  | [], _ => rfl
  | o :: H, k => by simp [hideX, hideX_len rs H (k + 1)]
theorem hideX_get (rs : List Nat) : ∀ (H : List AObj) (k i : Nat), (hideX rs k H)[i]? = bif rs.contains (k + i) then H[i]? else (H[i]?).map fun _ => .gone
  | [], k, i => by simp [hideX]
  | o :: H, k, 0 => by
    simp only [hideX, List.getElem?_cons_zero, Nat.add_zero]
    cases rs.contains k <;> rfl
  | o :: H, k, i + 1 => by
    simp only [hideX, List.getElem?_cons_succ]
    rw [hideX_get rs H (k + 1) i, show k + 1 + i = k + (i + 1) by omega]
theorem hide_seen {rs : List Nat} {H : List AObj} {i : Nat} (h : rs.contains i = true) : (hideX rs 0 H)[i]? = H[i]? := by
  rw [hideX_get, Nat.zero_add, h]; rfl
theorem hide_gone {rs : List Nat} {H : List AObj} {i : Nat} {o : AObj} (h : rs.contains i = false) (ho : (hideX rs 0 H)[i]? = some o) : o = .gone := by
  rw [hideX_get, Nat.zero_add, h, cond_false] at ho
  obtain ⟨_, _, rfl⟩ := Option.map_eq_some_iff.1 ho
  rfl
theorem hide_claims (w : World) {rs : List Nat} {H : List AObj} {bs : List Nat} {i : Nat} : claims w (hideX rs 0 H) bs i = bif rs.contains i then claims w H bs i else [] := by
  cases h : rs.contains i with
  | true => simp only [claims, ownsI, liveI, hide_seen h, cond_true]
  | false =>
    simp only [claims, ownsI, liveI, cond_false]
    cases ho : (hideX rs 0 H)[i]? with
    | none => rfl
    | some o =>
      have := hide_gone h ho
      subst this
      cases bs[i]? <;> rfl
theorem hide_count (w : World) {rs : List Nat} {H : List AObj} {bs : List Nat} (hl : H.length = bs.length) (b : Nat) :
    oc b (ownsH w H bs) + (lives H bs).count b = (oc b (ownsH w (hideX rs 0 H) bs) + (lives (hideX rs 0 H) bs).count b) + ((others H rs).flatMap (claims w H bs)).count b := by
  have key : ∀ l : List Nat, (l.flatMap (claims w H bs)).count b = (l.flatMap (claims w (hideX rs 0 H) bs)).count b + ((l.filter fun i => !rs.contains i).flatMap (claims w H bs)).count b := by
    intro l
    induction l with
    | nil => simp
    | cons i l ih =>
      rw [List.flatMap_cons, List.flatMap_cons, List.count_append, List.count_append, ih, List.filter_cons, hide_claims]
      cases h : rs.contains i with
      | true => simp only [Bool.not_true, if_false, cond_true, Bool.false_eq_true]; omega
      | false => simp only [Bool.not_false, if_true, cond_false, List.flatMap_cons, List.count_append, List.count_nil]; omega
  rw [claims_count w hl b, claims_count w (by rw [hideX_len, hl]) b, hideX_len]
  exact key _
theorem Core.hide (h : Core F g H (os1 ++ os2) w) (rs : List Nat) : Core (Held F g H rs os2 w) g (hideX rs 0 H) os1 w := by
  have hlen := h.heap.length
  have hl2 : (hideX rs 0 H).length = g.obj.length := by rw [hideX_len, hlen]
  have tot := fun b => hide_count w (rs := rs) hlen b
  refine ⟨objsR_iff.2 ⟨hl2, fun i b o ho hb => ?_⟩, fun r hr => ?_, fun b => ?_, fun b hF => ?_, fun b hb => ?_, h.lenlt, fun b hF => ?_, h.good.step (fun _ h => .inl h) fun _ _ => rfl⟩
  · cases hc : rs.contains i with
    | true => rw [hide_seen hc] at ho; exact getObj_ok h.heap i b o ho hb
    | false => rw [hide_gone hc ho]; exact ObjR_dead rfl
  · rcases hr with hr | hr
    · exact h.own r (.inl (List.mem_append_left _ hr))
    · obtain ⟨i, hi1, hi2⟩ := (mem_ownsH hl2).1 hr
      refine h.own r (.inr ((mem_ownsH hlen).2 ⟨i, by rw [hideX_len] at hi1; exact hi1, ?_⟩))
      unfold ownsI at hi2 ⊢
      cases hc : rs.contains i with
      | true => rw [hide_seen hc] at hi2; exact hi2
      | false =>
        cases ho : (hideX rs 0 H)[i]? with
        | none => rw [ho] at hi2; simp at hi2
        | some o =>
          rw [ho, hide_gone hc ho] at hi2
          cases hb : g.obj[i]? <;> rw [hb] at hi2 <;> simp [ownsO] at hi2
  · have := h.dist b
    have := tot b
    simp only [oc_append] at *
    omega
  · have := h.dist b
    have := tot b
    simp only [oc_append] at *
    rcases hF with hF | hF | hF
    · have := h.notF b hF
      simp only [oc_append] at *
      omega
    · omega
    · have := List.count_pos_iff.2 hF
      omega
  · have h1 := List.count_pos_iff.2 hb
    obtain ⟨i, o, h2, h3, h4⟩ := (mem_lives hl2).1 hb
    cases hc : rs.contains i with
    | true => rw [hide_seen hc] at h2; exact h.objlen b (lives_at h2 h3 h4)
    | false => rw [hide_gone hc h2] at h4; cases h4
  · rcases hF with hF | hF | hF
    · exact h.flt b hF
    · obtain ⟨r, hr, hr2⟩ := List.countP_pos_iff.1 hF
      have := (h.own r (.inl (List.mem_append_right _ hr))).lt
      simp at hr2
      omega
    · obtain ⟨i, _, hb⟩ := List.mem_flatMap.1 hF
      exact claims_lt h hb
/-- They stand for what they stood for. -/
theorem Core.unhide {g1 : Gh} {rs : List Nat} {os1' : List Rec} {w1 : World} (h : Core F g H (os1 ++ os2) w) (hc : Core (Held F g H rs os2 w) g1 (hideX rs 0 H) os1' w1) (hst : Step (Held F g H rs os2 w) g w g1 w1) (hobj : g1.obj = g.obj) :
    Core F g1 H (os1' ++ os2) w1 := by
  have hlen := h.heap.length
  have hlen1 : H.length = g1.obj.length := by rw [hobj, hlen]
  have hl2 : (hideX rs 0 H).length = g1.obj.length := by rw [hideX_len, hlen1]
  have ext : Ext g w g1 w1 := ⟨hst.cell, hst.ty, hst.bsz, hst.len, fun i b hi => by rw [hobj]; exact hi⟩
  have mem_others : ∀ i, i ∈ others H rs ↔ i < H.length ∧ rs.contains i = false := fun i => by simp [others]
  have heldSame : ∀ i b, i ∈ others H rs → b ∈ claims w H g.obj i → w1.heap[b]? = w.heap[b]? ∧ g1.len b = g.len b := fun i b hi hb => hst.frame b (.inr (.inr (List.mem_flatMap.2 ⟨i, hi, hb⟩)))
  have ownsOther : ∀ i, i ∈ others H rs → ownsI w1 H g1.obj i = ownsI w H g.obj i := fun i hi => by
    obtain ⟨h1, h2⟩ := (mem_others i).1 hi
    have ho := List.getElem?_eq_getElem (l := H) (i := i) h1
    have hb := List.getElem?_eq_getElem (l := g.obj) (i := i) (by omega)
    simp only [ownsI, hobj, ho, hb]
    cases hd : H[i].dead with
    | true => rw [ownsO_dead hd, ownsO_dead hd]
    | false => exact ownsO_congr (heldSame i g.obj[i] hi (List.mem_append_right _ (liveI_at ho hb hd))).1
  have held : ∀ r, OwnOK g w r → Held F g H rs os2 w r.1 → OwnOK g1 w1 r := fun r ⟨o1, o2, arr, t, o3, o4⟩ hh => by
    obtain ⟨h1, h2⟩ := hst.frame r.1 hh
    exact ⟨by rw [← o1]; exact h2, o2, arr, t, o3.of_heap h1, o4⟩
  have tot := fun b => hide_count w (rs := rs) hlen b
  have tot1 : ∀ b, oc b (ownsH w1 H g1.obj) + (lives H g1.obj).count b = (oc b (ownsH w1 (hideX rs 0 H) g1.obj) + (lives (hideX rs 0 H) g1.obj).count b) + ((others H rs).flatMap (claims w H g.obj)).count b := fun b => by
    rw [hide_count w1 (rs := rs) hlen1 b]
    congr 2
    refine flatMap_congr' fun i hi => ?_
    unfold claims
    rw [ownsOther i hi, hobj]
  refine ⟨objsR_iff.2 ⟨hlen1, fun i b o ho hb => ?_⟩, fun r hr => ?_, fun b => ?_, fun b hF => ?_, fun b hb => ?_, hc.lenlt, fun b hF => hc.flt b (.inl hF), h.good.step (fun _ h => h) fun b hF => (hst.frame b (.inl hF)).1⟩
  · cases hcn : rs.contains i with
    | true => exact getObj_ok hc.heap i b o (by rw [hide_seen hcn]; exact ho) hb
    | false =>
      have hi := (List.getElem?_eq_some_iff.1 ho).1
      rw [hobj] at hb
      cases hd : o.dead with
      | true => exact ObjR_dead hd
      | false =>
        have hsame := (heldSame i b ((mem_others i).2 ⟨hi, hcn⟩) (List.mem_append_right _ (liveI_at ho hb hd))).1
        have := (ObjsR.move ext [o] [b] (by simp only [ObjsR]; exact ⟨b, [], rfl, getObj_ok h.heap i b o ho hb, rfl⟩) (fun k hk => by have hk := lives_mem hk; simp at hk; subst hk; exact hsame)).1
        simp only [ObjsR] at this
        obtain ⟨b2, _, e2, h3, _⟩ := this
        injection e2 with e2 _
        subst e2
        exact h3
  · rcases hr with hr | hr
    · rcases List.mem_append.1 hr with hr | hr
      · exact hc.own r (.inl hr)
      · exact held r (h.own r (.inl (List.mem_append_right _ hr))) (.inr (.inl (oc_mem hr)))
    · obtain ⟨i, hi1, hi2⟩ := (mem_ownsH hlen1).1 hr
      cases hcn : rs.contains i with
      | true =>
        refine hc.own r (.inr ((mem_ownsH hl2).2 ⟨i, by rw [hideX_len]; exact hi1, ?_⟩))
        unfold ownsI at hi2 ⊢
        rw [hide_seen hcn]; exact hi2
      | false =>
        have hio := (mem_others i).2 ⟨hi1, hcn⟩
        rw [ownsOther i hio] at hi2
        exact held r (h.own r (.inr ((mem_ownsH hlen).2 ⟨i, hi1, hi2⟩))) (.inr (.inr (List.mem_flatMap.2 ⟨i, hio, claims_own hi2⟩)))
  · have h1 := tot1 b
    have h2 := hc.dist b
    have h3 := h.dist b
    have h4 := tot b
    simp only [oc_append] at h3 ⊢
    by_cases hh : Held F g H rs os2 w b
    · have := hc.notF b hh
      omega
    · have h5 : oc b os2 = 0 := by
        rcases Nat.eq_zero_or_pos (oc b os2) with e | e
        · exact e
        · exact absurd (.inr (.inl e)) hh
      have h6 : ((others H rs).flatMap (claims w H g.obj)).count b = 0 := by
        rcases Nat.eq_zero_or_pos (((others H rs).flatMap (claims w H g.obj)).count b) with e | e
        · exact e
        · exact absurd (.inr (.inr (List.count_pos_iff.1 e))) hh
      omega
  · have h1 := tot1 b
    have h2 := hc.notF b (.inl hF)
    have h3 := h.notF b hF
    have h4 := tot b
    simp only [oc_append] at h3 ⊢
    omega
  · obtain ⟨i, o, ho, hbi, hd⟩ := (mem_lives hlen1).1 hb
    have hi := (List.getElem?_eq_some_iff.1 ho).1
    cases hcn : rs.contains i with
    | true => exact hc.objlen b (lives_at (by rw [hide_seen hcn]; exact ho) hbi hd)
    | false =>
      rw [hobj] at hbi
      rw [(heldSame i b ((mem_others i).2 ⟨hi, hcn⟩) (List.mem_append_right _ (liveI_at ho hbi hd))).2]
      exact h.objlen b (lives_at ho hbi hd)
end
end Go.Sh

/- Texts of this session, joined and cut to what one statement needs, under short names. -/
import Derived.Test.YtiegmpnagcdgoaaGreatDoorL0
import Derived.Tactics
import Derived.Deep.LoopGhost
import Derived.TacticsIn
import Derived.Orders
import Derived.OrdersIn
import Derived.Below
import Derived.Lib.Join
import Derived.Carry
import Derived.Laws.StructEq
import Derived.Laws.Entries
import Derived.Stop.IfaceNil
import Derived.RangeFuncRecord
import Derived.RangeFuncLeaves
namespace Go.Sh
open Go.RowKit
set_option linter.unusedSimpArgs false
set_option linter.unusedVariables false
theorem RG : ∀ (ids : List Nat) (k i p : Nat), KW i ids k = some p → k ≤ p ∧ ids[p - k]? = some i
 | [], k, i, p, h => by simp [KW] at h
 | j :: js, k, i, p, h => by
  simp only [KW] at h
  obtain ⟨h1, h2⟩ | ⟨_, h2⟩ := ae h
  ·injection h2 with h2
   subst h2
   simp only [beq_iff_eq] at h1
   subst h1
   exact ⟨Nat.le_refl _, by simp⟩
  ·obtain ⟨h3, h4⟩ := RG js (k + 1) i p h2
   refine ⟨by omega, ?_⟩
   rw [show p - k = (p - (k + 1)) + 1 by omega, List.getElem?_cons_succ]
   exact h4
theorem Be {ids : List Nat} {i p : Nat} (h : mP ids i = some p) : ids[p]? = some i := by simpa using (RG ids 0 i p h).2
theorem EntR.ren {f : Nat → Option Nat} {g g1 : Gh} {w : World} (hl : ∀ b, g.len b ≤ g1.len b) (hf : ∀ (i j b : Nat), f i = some j → g.obj[i]? = some b → g1.obj[j]? = some b) : ∀ {es es' : List (AV × AV)} {l : List MapEntry}, KX f es = some es' → EntR g w es l → EntR g1 w es' l
 | [], es', l, h, he => by simp only [KX] at h; injection h with h; subst h; exact he
 | (k, v) :: es, es', l, h, he => by
  simp only [KX] at h
  obtain ⟨k', h1, h2⟩ := Option.bind_eq_some_iff.1 h
  obtain ⟨v', h3, h4⟩ := Option.bind_eq_some_iff.1 h2
  obtain ⟨es'', h5, h6⟩ := Option.bind_eq_some_iff.1 h4
  injection h6 with h6
  subst h6
  obtain ⟨x, rest, rfl, e1, e2, e3⟩ := he
  exact ⟨x, rest, rfl, (VR.ren hl hf (oO hl) _ _ _ h1 e1).1, (VR.ren hl hf (oO hl) _ _ _ h3 e2).1, EntR.ren hl hf h5 e3⟩
theorem VR.plain {g g1 : Gh} {w w1 : World} : ∀ {a : AV} {v : Value}, a.plain = true → VR g w a v → VR g1 w1 a v
 | .int _ _, _, _, h => h
 | .bool _, _, _, h => h
 | .str _, _, _, h => h
theorem VRs.plain {g g1 : Gh} {w w1 : World} : ∀ {l : List AV} (vs : List Value), l.all AV.plain = true → VRs g w l vs → VRs g1 w1 l vs
 | [], _, _, h => h
 | a :: l, vs, hp, h => by
  simp only [List.all_cons, Bool.and_eq_true] at hp
  simp only [VRs] at h ⊢
  obtain ⟨v, us, rfl, h1, h2⟩ := h
  exact ⟨v, us, rfl, VR.plain hp.1 h1, VRs.plain us hp.2 h2⟩
theorem VRss.plain {g g1 : Gh} {w w1 : World} : ∀ {l : List (List AV)}, (∀ e ∈ l, e.all AV.plain = true) → ∀ (vs : List Value), VRss g w l vs → VRss g1 w1 l vs
 | [], _, _, h => h
 | a :: l, hp, vs, h => by
  simp only [VRss] at h ⊢
  obtain ⟨p, q, rfl, h1, h2⟩ := h
  exact ⟨p, q, rfl, VRs.plain p (hp a (by simp)) h1, VRss.plain (fun e he => hp e (by simp [he])) q h2⟩
theorem ObjR.ren {f : Nat → Option Nat} {g g1 : Gh} {w : World} (hl : ∀ b, g.len b ≤ g1.len b) (hf : ∀ (i j b : Nat), f i = some j → g.obj[i]? = some b → g1.obj[j]? = some b) {b : Nat} {o o' : AObj} (h : si f o = some o') (ho : ObjR g w b o) : ObjR g1 w b o' ∧ jo w b o' = jo w b o := by
 cases o with
 | map es =>
  simp only [si] at h
  obtain ⟨es', h1, h2⟩ := Option.bind_eq_some_iff.1 h
  injection h2 with h2
  subst h2
  simp only [ObjR] at ho ⊢
  obtain ⟨en, cl, hw, hes⟩ := ho
  exact ⟨⟨en, cl, hw, EntR.ren hl hf h1 hes⟩, rfl⟩
 | rowS t xs => simp only [si] at h; injection h with h; subst h; exact ⟨ho, rfl⟩
 | rowI t k xs => simp only [si] at h; injection h with h; subst h; exact ⟨ho, rfl⟩
 | rowC n els =>
  simp only [si] at h; injection h with h; subst h
  refine ⟨?_, rfl⟩
  simp only [ObjR] at ho ⊢
  rcases ho with ho | ⟨ho, arr, t, vs, rest, h5, h6, h7⟩
  ·exact .inl ho
  ·exact .inr ⟨ho, arr, t, vs, rest, h5, h6, VRss.plain (fun e he => (ho e he).2) _ h7⟩
 | rowN k xs => simp only [si] at h; injection h with h; subst h; exact ⟨ho, rfl⟩
 | mapI es => simp only [si] at h; injection h with h; subst h; exact ⟨ho, rfl⟩
 | buf kd t l =>
  simp only [si] at h; injection h with h; subst h
  refine ⟨?_, rfl⟩
  match kd, ho with
  | 0, ho =>
   simp only [ObjR] at ho ⊢
   obtain ⟨x, u, h5, h6, h7, h8⟩ := ho
   exact ⟨x, u, h5, h6, (VR.ren hl hf (oO hl) _ _ _ (by rfl) h7).1, h8⟩
  | 1, ho =>
   simp only [ObjR] at ho ⊢
   obtain ⟨x, u, h5, h7, h8⟩ := ho
   exact ⟨x, u, h5, (VR.ren hl hf (oO hl) _ _ _ (by rfl) h7).1, h8⟩
  | n + 2, ho => exact absurd ho (by simp [ObjR])
 | gone => simp only [si] at h; injection h with h; subst h; exact ⟨ho, rfl⟩
 | loop key cs =>
  simp only [si] at h
  obtain ⟨cs', h1, h2⟩ := Option.bind_eq_some_iff.1 h
  injection h2 with h2
  subst h2
  simp only [ObjR] at ho ⊢
  obtain ⟨r, h5, h6, h7, h8, h9, h10, h11, h12⟩ := ho
  exact ⟨⟨r, h5, h6, h7, h8, h9, h10, h11, (VRs.ren hl hf (oO hl) cs cs' _ h1 h12).1⟩, rfl⟩
 | cells t cs =>
  simp only [si] at h
  obtain ⟨cs', h1, h2⟩ := Option.bind_eq_some_iff.1 h
  injection h2 with h2
  subst h2
  simp only [ObjR] at ho ⊢
  obtain ⟨arr, hw, hvs⟩ := ho
  obtain ⟨h3, h4⟩ := VRs.ren hl hf (oO hl) cs cs' _ h1 hvs
  exact ⟨⟨arr, hw, h3⟩, by simp only [jo, hw, h4]⟩
theorem iP {f : Nat → Option Nat} {H : List AObj} : ∀ {ids : List Nat} {hs : List AObj}, cu f H ids = some hs → hs.length = ids.length ∧ ∀ (p i : Nat), ids[p]? = some i → ∃ o o', H[i]? = some o ∧ hs[p]? = some o' ∧ si f o = some o'
 | [], hs, h => by simp only [cu] at h; injection h with h; subst h; exact ⟨rfl, fun p i hp => by simp at hp⟩
 | id :: ids, hs, h => by
  simp only [cu] at h
  split at h
  ·rename_i o ho
   obtain ⟨o', h1, h2⟩ := Option.bind_eq_some_iff.1 h
   obtain ⟨os, h3, h4⟩ := Option.bind_eq_some_iff.1 h2
   injection h4 with h4
   subst h4
   obtain ⟨h5, h6⟩ := iP h3
   refine ⟨by simp [h5], fun p i hp => ?_⟩
   cases p with
   | zero => simp at hp; subst hp; exact ⟨o, o', ho, rfl, h1⟩
   | succ p => exact h6 p i (by simpa using hp)
  ·exact absurd h (by simp)
theorem vI {f : Nat → Option Nat} : ∀ {hs hs' : List AObj}, zt f hs = some hs' → hs'.length = hs.length ∧ ∀ (p : Nat) (o : AObj), hs[p]? = some o → ∃ o', hs'[p]? = some o' ∧ si f o = some o'
 | [], hs, h => by simp only [zt] at h; injection h with h; subst h; exact ⟨rfl, fun p i hp => by simp at hp⟩
 | o :: os, hs, h => by
  simp only [zt] at h
  obtain ⟨o', h1, h2⟩ := Option.bind_eq_some_iff.1 h
  obtain ⟨os', h3, h4⟩ := Option.bind_eq_some_iff.1 h2
  injection h4 with h4
  subst h4
  obtain ⟨h5, h6⟩ := vI h3
  refine ⟨by simp [h5], fun p i hp => ?_⟩
  cases p with
  | zero => simp at hp; subst hp; exact ⟨o', rfl, h1⟩
  | succ p => exact h6 p i (by simpa using hp)
theorem Oc (h m : List AObj) : xW h m = h ++ m := by cases m <;> simp [xW]
theorem eY : ∀ (ids : List Nat) (H os : List AObj), (aR H ids os).length = H.length
 | [], H, os => by simp [aR]
 | i :: ids, H, [] => by simp [aR]
 | i :: ids, H, o :: os => by simp [aR, eY ids]
theorem jM : ∀ {ids : List Nat} {H os : List AObj} {i : Nat}, i ∉ ids → (aR H ids os)[i]? = H[i]?
 | [], H, os, i, h => by simp [aR]
 | j :: ids, H, [], i, h => by simp [aR]
 | j :: ids, H, o :: os, i, h => by
  simp only [List.mem_cons, not_or] at h
  rw [aR, jM h.2, List.getElem?_set_ne (Ne.symm h.1)]
theorem Bf : ∀ {ids : List Nat} {H os : List AObj} {p i : Nat} {o : AObj}, ids.Nodup → ids[p]? = some i → os[p]? = some o → i < H.length → (aR H ids os)[i]? = some o
 | [], H, os, p, i, o, _, h, _, _ => by simp at h
 | j :: ids, H, [], p, i, o, _, _, h, _ => by simp at h
 | j :: ids, H, o' :: os, p, i, o, hn, hp, ho, hl => by
  obtain ⟨h1, h2⟩ := List.nodup_cons.1 hn
  cases p with
  | zero =>
   simp at hp ho
   subst hp; subst ho
   rw [aR, jM h1, List.getElem?_set_self hl]
  | succ p =>
   rw [aR]
   exact Bf h2 (by simpa using hp) (by simpa using ho) (by simpa using hl)
def others (H : List AObj) (ids : List Nat) : List Nat := (List.range H.length).filter fun i => !ids.contains i
def Held (F : Nat → Prop) (g : Gh) (H : List AObj) (ids : List Nat) (os : List Rec) (w : World) (b : Nat) : Prop := F b ∨ 0 < oc b os ∨ b ∈ (others H ids).flatMap (claims w H g.obj)
def partOf (g : Gh) (ids : List Nat) : Gh := ⟨ids.map fun i => g.obj.getD i 0, g.len⟩
theorem q8 {g : Gh} {ids : List Nat} {p i : Nat} (h : ids[p]? = some i) : (partOf g ids).obj[p]? = some (g.obj.getD i 0) := by
 simp [partOf, h]
section
variable {F : Nat → Prop} {g : Gh} {H : List AObj} {os1 os2 : List Rec} {w : World} {ids : List Nat} {hs : List AObj}
theorem M0 (h : Core F g H (os1 ++ os2) w) (hn : ids.Nodup) (hl : ∀ i ∈ ids, i < H.length) (b : Nat) :
 oc b (aU w H g.obj) + (lives H g.obj).count b = (ids.flatMap (claims w H g.obj)).count b + ((others H ids).flatMap (claims w H g.obj)).count b := by
 rw [wM w h.heap.length b]
 have := ((Oa hn hl).flatMap_right (claims w H g.obj)).count_eq b
 rw [this, List.flatMap_append, List.count_append]
 rfl
theorem PL (h : Core F g H (os1 ++ os2) w) (hp : cu (mP ids) H ids = some hs) {p i : Nat} (hpi : ids[p]? = some i) (hi : i < H.length) : uD w hs (partOf g ids).obj p = uD w H g.obj i := by
 obtain ⟨o, o', h1, h2, h3⟩ := (iP hp).2 p i hpi
 have hb : g.obj[i]? = some (g.obj.getD i 0) := by
  have := h.heap.length
  rw [List.getD_eq_getElem?_getD, List.getElem?_eq_getElem (by omega)]; rfl
 simp only [uD, h1, h2, q8 hpi, hb]
 have hr := aY h.heap i _ o h1 hb
 exact (ObjR.ren (g := g) (g1 := partOf g ids) (fun _ => Nat.le_refl _) (fun i j b hij hb => by rw [q8 (Be hij), List.getD_eq_getElem?_getD, hb]; rfl) h3 hr).2
theorem RH (h : Core F g H (os1 ++ os2) w) (hp : cu (mP ids) H ids = some hs) {p i : Nat} (hpi : ids[p]? = some i) (hi : i < H.length) : claims w hs (partOf g ids).obj p = claims w H g.obj i := by
 have hb : g.obj[i]? = some (g.obj.getD i 0) := by
  have := h.heap.length
  rw [List.getD_eq_getElem?_getD, List.getElem?_eq_getElem (by omega)]; rfl
 obtain ⟨o, o', h1, h2, h3⟩ := (iP hp).2 p i hpi
 simp only [claims, Ef, PL h hp hpi hi, q8 hpi, hb, h1, h2, DZ h3]
theorem vJ {f f' : Nat → List Nat} : ∀ {l : List Nat}, (∀ i ∈ l, f i = f' i) → l.flatMap f = l.flatMap f'
 | [], _ => rfl
 | i :: l, h => by rw [List.flatMap_cons, List.flatMap_cons, h i (by simp), vJ (l := l) (fun j hj => h j (by simp [hj]))]
theorem M3 {f f' : Nat → List Nat} {n : Nat} (hn : n = ids.length) (h : ∀ p i, ids[p]? = some i → f p = f' i) : (List.range n).flatMap f = ids.flatMap f' := by
 subst hn
 conv => rhs; rw [range_map_get ids]
 rw [List.flatMap_map]
 refine vJ fun p hp => ?_
 have hlt : p < ids.length := by simpa using hp
 exact h p _ (by rw [List.getD_eq_getElem?_getD, List.getElem?_eq_getElem hlt]; rfl)
theorem PM {F : Nat → Prop} {g : Gh} {H : List AObj} {os : List Rec} {w : World} (h : Core F g H os w) {i b : Nat} (hb : b ∈ claims w H g.obj i) : b < w.heap.size := by
 rcases List.mem_append.1 hb with hb | hb
 ·obtain ⟨r, hr, rfl⟩ := List.mem_map.1 hb
  have hi : i < H.length := by
   rcases Nat.lt_or_ge i H.length with h' | h'
   ·exact h'
   ·simp [uD, List.getElem?_eq_none h'] at hr
  exact (h.own r (.inr ((qA h.heap.length).2 ⟨i, hi, hr⟩))).lt
 ·obtain ⟨o, h1, h2, h3⟩ := VI hb
  exact h.heap.lt b (mf h1 h2 h3)
theorem Core.split (h : Core F g H (os1 ++ os2) w) (hn : ids.Nodup) (hl : ∀ i ∈ ids, i < H.length) (hp : cu (mP ids) H ids = some hs) : Core (Held F g H ids os2 w) (partOf g ids) hs os1 w := by
 have hlen := (iP hp).1
 have hlen2 : hs.length = (partOf g ids).obj.length := by rw [hlen]; simp [partOf]
 have hcl : ∀ b, oc b (aU w hs (partOf g ids).obj) + (lives hs (partOf g ids).obj).count b = (ids.flatMap (claims w H g.obj)).count b := fun b => by
  rw [wM w hlen2 b, M3 (ids := ids) hlen (fun p i hpi => RH h hp hpi (hl i (List.mem_of_getElem? hpi)))]
 have htot := M0 h hn hl
 refine ⟨DY.2 ⟨hlen2, fun p b o' ho hb => ?_⟩, fun r hr => ?_, fun b => ?_, fun b hF => ?_, fun b hb => ?_, h.lenlt, fun b hF => ?_, h.good.step (fun _ h => .inl h) fun _ _ => rfl⟩
 ·have hlt : p < ids.length := by
   have := (List.getElem?_eq_some_iff.1 ho).1
   omega
  have hpi := List.getElem?_eq_getElem hlt
  obtain ⟨o, o'', h1, h2, h3⟩ := (iP hp).2 p _ hpi
  rw [ho] at h2
  injection h2 with h2
  subst h2
  rw [q8 hpi] at hb
  injection hb with hb
  have hi := hl _ (List.getElem_mem hlt)
  have hb' : g.obj[ids[p]]? = some b := by
   have := h.heap.length
   rw [← hb, List.getD_eq_getElem?_getD, List.getElem?_eq_getElem (by omega)]; rfl
  exact (ObjR.ren (g := g) (g1 := partOf g ids) (fun _ => Nat.le_refl _) (fun i j b hij hb => by rw [q8 (Be hij), List.getD_eq_getElem?_getD, hb]; rfl) h3 (aY h.heap _ _ _ h1 hb')).1
 ·rcases hr with hr | hr
  ·exact h.own r (.inl (List.mem_append_left _ hr))
  ·obtain ⟨p, hp1, hp2⟩ := (qA hlen2).1 hr
   have hlt : p < ids.length := by omega
   have hpi := List.getElem?_eq_getElem hlt
   have hi := hl _ (List.getElem_mem hlt)
   rw [PL h hp hpi hi] at hp2
   exact h.own r (.inr ((qA h.heap.length).2 ⟨_, hi, hp2⟩))
 ·have := h.dist b
  have := hcl b
  have := htot b
  simp only [ax] at *
  omega
 ·have := h.dist b
  have := hcl b
  have := htot b
  simp only [ax] at *
  rcases hF with hF | hF | hF
  ·have := h.notF b hF
   simp only [ax] at *
   omega
  ·omega
  ·have := List.count_pos_iff.2 hF
   omega
 ·obtain ⟨p, o', h1, h2, h3⟩ := (Jr hlen2).1 hb
  have hpl := (List.getElem?_eq_some_iff.1 h1).1
  have hpi := List.getElem?_eq_getElem (l := ids) (i := p) (by omega)
  obtain ⟨o, o2, k1, k2, k3⟩ := (iP hp).2 p _ hpi
  rw [h1] at k2
  injection k2 with k2
  subst k2
  rw [q8 hpi] at h2
  injection h2 with h2
  have hlen3 := h.heap.length
  have hi := (List.getElem?_eq_some_iff.1 k1).1
  refine h.objlen _ (mf k1 ?_ (by rw [← DZ k3]; exact h3))
  rw [← h2, List.getD_eq_getElem?_getD, List.getElem?_eq_getElem (by omega)]
  rfl
 ·rcases hF with hF | hF | hF
  ·exact h.flt b hF
  ·obtain ⟨r, hr, hr2⟩ := List.countP_pos_iff.1 hF
   have := (h.own r (.inl (List.mem_append_right _ hr))).lt
   simp at hr2
   omega
  ·obtain ⟨i, _, hb⟩ := List.mem_flatMap.1 hF
   exact PM h hb
def cB (g g1 : Gh) (ids : List Nat) : Gh := ⟨g.obj ++ g1.obj.drop ids.length, g1.len⟩
theorem Y6 {g1 : Gh} {H : List AObj} (hlen : H.length = g.obj.length) (hl : ∀ i ∈ ids, i < H.length) (hpre : (partOf g ids).obj <+: g1.obj) (p j b : Nat) (h : sj ids H p = some j) (hb : g1.obj[p]? = some b) : (cB g g1 ids).obj[j]? = some b := by
 unfold sj at h
 obtain ⟨h1, h2⟩ | ⟨h1, h2⟩ := ae h
 ·have hp : (partOf g ids).obj[p]? = some b := by
   obtain ⟨t, ht⟩ := hpre
   have hlt : p < (partOf g ids).obj.length := by
    have := (List.getElem?_eq_some_iff.1 h2).1
    simpa [partOf] using this
   rw [← ht, List.getElem?_append_left hlt] at hb
   exact hb
  rw [q8 h2] at hp
  injection hp with hp
  have hj := hl j (List.mem_of_getElem? h2)
  simp only [cB]
  rw [List.getElem?_append_left (by omega), ← hp, List.getD_eq_getElem?_getD, List.getElem?_eq_getElem (by omega)]
  rfl
 ·injection h2 with h2
  subst h2
  have hge : ids.length ≤ p := by
   rcases Nat.lt_or_ge p ids.length with h' | h'
   ·have : Nat.blt p ids.length = true := by simp [Nat.blt]; omega
    rw [this] at h1
    cases h1
   ·exact h'
  simp only [cB]
  rw [List.getElem?_append_right (by omega), hlen, Nat.add_sub_cancel_left, List.getElem?_drop, show ids.length + (p - ids.length) = p by omega]
  exact hb
theorem Core.join {g1 : Gh} {hs' hs'' : List AObj} {os1' : List Rec} {w1 : World} (h : Core F g H (os1 ++ os2) w) (hn : ids.Nodup) (hl : ∀ i ∈ ids, i < H.length)
 (hc : Core (Held F g H ids os2 w) g1 hs' os1' w1) (hst : Step (Held F g H ids os2 w) (partOf g ids) w g1 w1) (hpre : (partOf g ids).obj <+: g1.obj) (hr : zt (sj ids H) hs' = some hs'') :
 Core F (cB g g1 ids) (xW (aR H ids hs'') (hs''.drop ids.length)) (os1' ++ os2) w1 ∧ Step F g w (cB g g1 ids) w1 ∧ Ext g w (cB g g1 ids) w1 ∧
 (∀ (a a' : AV) (v : Value), ren (sj ids H) a = some a' → VR g1 w1 a v → VR (cB g g1 ids) w1 a' v ∧ owns a' v = owns a v) := by
 have hlen := h.heap.length
 have hback := Y6 hlen hl hpre
 have ext : Ext g w (cB g g1 ids) w1 := ⟨hst.cell, hst.ty, hst.bsz, hst.len, fun i b hi => by
  simp only [cB]
  rw [List.getElem?_append_left (List.getElem?_eq_some_iff.1 hi).1]; exact hi⟩
 have hstep : Step F g w (cB g g1 ids) w1 := ⟨hst.cell, hst.ty, hst.bsz, hst.len, fun b hb => hst.frame b (.inl hb), hst.size, hst.os, hst.tape, hst.output⟩
 have hle : ∀ b, g1.len b ≤ (cB g g1 ids).len b := fun _ => Nat.le_refl _
 obtain ⟨hr1, hr2⟩ := vI hr
 have hlen1 := hc.heap.length
 have hn1 : ids.length ≤ hs'.length := by
  have := hpre.length_le
  simp [partOf] at this
  omega
 have hH' : xW (aR H ids hs'') (hs''.drop ids.length) = aR H ids hs'' ++ hs''.drop ids.length := Oc _ _
 rw [hH']
 have hlenH : (aR H ids hs'' ++ hs''.drop ids.length).length = H.length + (hs'.length - ids.length) := by simp [eY, hr1]
 have hlenO : (cB g g1 ids).obj.length = H.length + (hs'.length - ids.length) := by simp [cB, hlen, hlen1]
 have other : ∀ i, i < H.length → i ∉ ids → (aR H ids hs'' ++ hs''.drop ids.length)[i]? = H[i]? ∧ (cB g g1 ids).obj[i]? = g.obj[i]? := fun i hi hid => by
  refine ⟨?_, ?_⟩
  ·rw [List.getElem?_append_left (by rw [eY]; exact hi), jM hid]
  ·simp only [cB]; rw [List.getElem?_append_left (by omega)]
 have mine : ∀ p i, ids[p]? = some i → ∃ o o', hs'[p]? = some o ∧ si (sj ids H) o = some o' ∧ (aR H ids hs'' ++ hs''.drop ids.length)[i]? = some o' ∧ (cB g g1 ids).obj[i]? = g1.obj[p]? := fun p i hpi => by
  have hplt := (List.getElem?_eq_some_iff.1 hpi).1
  have hi := hl i (List.mem_of_getElem? hpi)
  have ho := List.getElem?_eq_getElem (l := hs') (i := p) (by omega)
  obtain ⟨o', h1, h2⟩ := hr2 p _ ho
  refine ⟨_, o', ho, h2, ?_, ?_⟩
  ·rw [List.getElem?_append_left (by rw [eY]; exact hi), Bf hn hpi h1 hi]
  ·have hb := List.getElem?_eq_getElem (l := g1.obj) (i := p) (by omega)
   rw [hb]
   refine hback p i _ ?_ hb
   have hblt : Nat.blt p ids.length = true := by simp [Nat.blt]; omega
   simp only [sj, hblt, cond_true, hpi]
 have fresh : ∀ q, q < hs'.length - ids.length → ∃ o o', hs'[ids.length + q]? = some o ∧ si (sj ids H) o = some o' ∧ (aR H ids hs'' ++ hs''.drop ids.length)[H.length + q]? = some o' ∧ (cB g g1 ids).obj[H.length + q]? = g1.obj[ids.length + q]? := fun q hq => by
  have ho := List.getElem?_eq_getElem (l := hs') (i := ids.length + q) (by omega)
  obtain ⟨o', h1, h2⟩ := hr2 _ _ ho
  refine ⟨_, o', ho, h2, ?_, ?_⟩
  ·rw [List.getElem?_append_right (by rw [eY]; omega), eY, Nat.add_sub_cancel_left, List.getElem?_drop, h1]
  ·simp only [cB]; rw [List.getElem?_append_right (by omega), hlen, Nat.add_sub_cancel_left, List.getElem?_drop]
 have heldSame : ∀ i b, i ∈ others H ids → b ∈ claims w H g.obj i → w1.heap[b]? = w.heap[b]? ∧ g1.len b = g.len b := fun i b hi hb => hst.frame b (.inr (.inr (List.mem_flatMap.2 ⟨i, hi, hb⟩)))
 have mem_others : ∀ i, i ∈ others H ids ↔ i < H.length ∧ i ∉ ids := fun i => by simp [others]
 have ownsOther : ∀ i, i ∈ others H ids → uD w1 (aR H ids hs'' ++ hs''.drop ids.length) (cB g g1 ids).obj i = uD w H g.obj i := fun i hi => by
  obtain ⟨h1, h2⟩ := (mem_others i).1 hi
  obtain ⟨h3, h4⟩ := other i h1 h2
  have ho := List.getElem?_eq_getElem (l := H) (i := i) h1
  have hb := List.getElem?_eq_getElem (l := g.obj) (i := i) (by omega)
  simp only [uD, h3, h4, ho, hb]
  cases hd : H[i].dead with
  | true => rw [oN hd, oN hd]
  | false => exact FC (heldSame i g.obj[i] hi (List.mem_append_right _ (Eg ho hb hd))).1
 have ownsMine : ∀ p i, ids[p]? = some i → uD w1 (aR H ids hs'' ++ hs''.drop ids.length) (cB g g1 ids).obj i = uD w1 hs' g1.obj p := fun p i hpi => by
  obtain ⟨o, o', h1, h2, h3, h4⟩ := mine p i hpi
  have hplt := (List.getElem?_eq_some_iff.1 hpi).1
  have hb := List.getElem?_eq_getElem (l := g1.obj) (i := p) (by omega)
  simp only [uD, h1, h3, h4, hb]
  exact (ObjR.ren hle hback h2 (aY hc.heap p _ o h1 hb)).2
 have ownsFresh : ∀ q, q < hs'.length - ids.length → uD w1 (aR H ids hs'' ++ hs''.drop ids.length) (cB g g1 ids).obj (H.length + q) = uD w1 hs' g1.obj (ids.length + q) := fun q hq => by
  obtain ⟨o, o', h1, h2, h3, h4⟩ := fresh q hq
  have hb := List.getElem?_eq_getElem (l := g1.obj) (i := ids.length + q) (by omega)
  simp only [uD, h1, h3, h4, hb]
  exact (ObjR.ren hle hback h2 (aY hc.heap _ _ o h1 hb)).2
 have htot1 : ∀ b, oc b (aU w1 (aR H ids hs'' ++ hs''.drop ids.length) (cB g g1 ids).obj) + (lives (aR H ids hs'' ++ hs''.drop ids.length) (cB g g1 ids).obj).count b = (oc b (aU w1 hs' g1.obj) + (lives hs' g1.obj).count b) + ((others H ids).flatMap (claims w H g.obj)).count b := fun b => by
  rw [wM w1 (by rw [hlenH, hlenO]) b, wM w1 hlen1 b, hlenH, List.range_add, List.flatMap_append, List.count_append,
   ((Oa hn hl).flatMap_right _).count_eq b, List.flatMap_append, List.count_append]
  have e1 : ids.flatMap (claims w1 (aR H ids hs'' ++ hs''.drop ids.length) (cB g g1 ids).obj) = (List.range ids.length).flatMap (claims w1 hs' g1.obj) :=
   (M3 (ids := ids) rfl (fun p i hpi => by
    obtain ⟨o, o', h1, h2, h3, h4⟩ := mine p i hpi
    have hplt := (List.getElem?_eq_some_iff.1 hpi).1
    have hb := List.getElem?_eq_getElem (l := g1.obj) (i := p) (by omega)
    simp only [claims, Ef, ownsMine p i hpi, h4, h1, h3, hb, DZ h2])).symm
  have e2 : ((List.range H.length).filter fun i => !ids.contains i).flatMap (claims w1 (aR H ids hs'' ++ hs''.drop ids.length) (cB g g1 ids).obj) = (others H ids).flatMap (claims w H g.obj) := by
   refine vJ fun i hi => ?_
   obtain ⟨h1, h2⟩ := (mem_others i).1 hi
   simp only [claims, Ef, ownsOther i hi, (other i h1 h2).2, (other i h1 h2).1]
  have e3 : ((List.range (hs'.length - ids.length)).map (H.length + ·)).flatMap (claims w1 (aR H ids hs'' ++ hs''.drop ids.length) (cB g g1 ids).obj) = ((List.range (hs'.length - ids.length)).map (ids.length + ·)).flatMap (claims w1 hs' g1.obj) := by
   rw [List.flatMap_map, List.flatMap_map]
   refine vJ fun q hq => ?_
   have hq' : q < hs'.length - ids.length := by simpa using hq
   obtain ⟨o, o', h1, h2, h3, h4⟩ := fresh q hq'
   have hb := List.getElem?_eq_getElem (l := g1.obj) (i := ids.length + q) (by omega)
   simp only [claims, Ef, ownsFresh q hq', h4, h1, h3, hb, DZ h2]
  have e4 : List.range hs'.length = List.range ids.length ++ (List.range (hs'.length - ids.length)).map (ids.length + ·) := by
   rw [← List.range_add, show ids.length + (hs'.length - ids.length) = hs'.length by omega]
  rw [e1, e2, e3, e4, List.flatMap_append, List.count_append]
  omega
 have htot0 := M0 h hn hl
 refine ⟨⟨DY.2 ⟨by rw [hlenH, hlenO], fun i b o ho hb => ?_⟩, fun r hr => ?_, fun b => ?_, fun b hF => ?_, fun b hb => ?_, hc.lenlt, fun b hF => hc.flt b (.inl hF), h.good.step (fun _ h => h) fun b hF => (hst.frame b (.inl hF)).1⟩, hstep, ext, fun a a' v ha hv => VR.ren hle hback (oO hle) a a' v ha hv⟩
 ·by_cases hi : i < H.length
  ·by_cases hid : i ∈ ids
   ·obtain ⟨p, hplt, hp⟩ := List.mem_iff_getElem.1 hid
    obtain ⟨o1, o2, h1, h2, h3, h4⟩ := mine p i (by rw [List.getElem?_eq_getElem hplt, hp])
    rw [ho] at h3
    injection h3 with h3
    subst h3
    rw [hb] at h4
    exact (ObjR.ren hle hback h2 (aY hc.heap p b o1 h1 h4.symm)).1
   ·obtain ⟨h1, h2⟩ := other i hi hid
    rw [h1] at ho
    rw [h2] at hb
    cases hd : o.dead with
    | true => exact DV hd
    | false =>
    have hsame := (heldSame i b ((mem_others i).2 ⟨hi, hid⟩) (List.mem_append_right _ (Eg ho hb hd))).1
    have := (ObjsR.move ext [o] [b] (by simp only [ObjsR]; exact ⟨b, [], rfl, aY h.heap i b o ho hb, rfl⟩) (fun k hk => by have hk := Mo hk; simp at hk; subst hk; exact hsame)).1
    simp only [ObjsR] at this
    obtain ⟨b2, _, e2, h3, _⟩ := this
    injection e2 with e2 _
    subst e2
    exact h3
  ·have hlt := (List.getElem?_eq_some_iff.1 ho).1
   rw [hlenH] at hlt
   obtain ⟨o1, o2, h1, h2, h3, h4⟩ := fresh (i - H.length) (by omega)
   rw [show H.length + (i - H.length) = i by omega] at h3 h4
   rw [ho] at h3
   injection h3 with h3
   subst h3
   rw [hb] at h4
   exact (ObjR.ren hle hback h2 (aY hc.heap _ b o1 h1 h4.symm)).1
 ·have held : ∀ r, OwnOK g w r → Held F g H ids os2 w r.1 → OwnOK (cB g g1 ids) w1 r := fun r ⟨o1, o2, arr, t, o3, o4⟩ hh => by
   obtain ⟨h1, h2⟩ := hst.frame r.1 hh
   exact ⟨by rw [← o1]; exact h2, o2, arr, t, o3.of_heap h1, o4⟩
  have new : ∀ r, OwnOK g1 w1 r → OwnOK (cB g g1 ids) w1 r := fun r hr => hr
  rcases hr with hr | hr
  ·rcases List.mem_append.1 hr with hr | hr
   ·exact new r (hc.own r (.inl hr))
   ·exact held r (h.own r (.inl (List.mem_append_right _ hr))) (.inr (.inl (yt hr)))
  ·obtain ⟨i, hi1, hi2⟩ := (qA (by rw [hlenH, hlenO])).1 hr
   by_cases hi : i < H.length
   ·by_cases hid : i ∈ ids
    ·obtain ⟨p, hplt, hp⟩ := List.mem_iff_getElem.1 hid
     rw [ownsMine p i (by rw [List.getElem?_eq_getElem hplt, hp])] at hi2
     exact new r (hc.own r (.inr ((qA hlen1).2 ⟨p, by omega, hi2⟩)))
    ·have hio := (mem_others i).2 ⟨hi, hid⟩
     rw [ownsOther i hio] at hi2
     exact held r (h.own r (.inr ((qA hlen).2 ⟨i, hi, hi2⟩))) (.inr (.inr (List.mem_flatMap.2 ⟨i, hio, N9 hi2⟩)))
   ·rw [hlenH] at hi1
    have h5 := ownsFresh (i - H.length) (by omega)
    rw [show H.length + (i - H.length) = i by omega] at h5
    rw [h5] at hi2
    exact new r (hc.own r (.inr ((qA hlen1).2 ⟨_, by omega, hi2⟩)))
 ·have h1 := htot1 b
  have h2 := hc.dist b
  have h3 := h.dist b
  have h4 := htot0 b
  simp only [ax] at h3 ⊢
  by_cases hh : Held F g H ids os2 w b
  ·have := hc.notF b hh
   omega
  ·have h5 : oc b os2 = 0 := by
    rcases Nat.eq_zero_or_pos (oc b os2) with e | e
    ·exact e
    ·exact absurd (.inr (.inl e)) hh
   have h6 : ((others H ids).flatMap (claims w H g.obj)).count b = 0 := by
    rcases Nat.eq_zero_or_pos (((others H ids).flatMap (claims w H g.obj)).count b) with e | e
    ·exact e
    ·exact absurd (.inr (.inr (List.count_pos_iff.1 e))) hh
   omega
 ·have h1 := htot1 b
  have h2 := hc.notF b (.inl hF)
  have h3 := h.notF b hF
  have h4 := htot0 b
  simp only [ax] at h3 ⊢
  omega
 ·obtain ⟨i, o, ho, hbi, hd⟩ := (Jr (by rw [hlenH, hlenO])).1 hb
  simp only [cB]
  by_cases hi : i < H.length
  ·by_cases hid : i ∈ ids
   ·obtain ⟨p, hplt, hp⟩ := List.mem_iff_getElem.1 hid
    obtain ⟨o1, o2, h1, h2, h3, h4⟩ := mine p i (by rw [List.getElem?_eq_getElem hplt, hp])
    rw [ho] at h3
    injection h3 with h3
    subst h3
    rw [hbi] at h4
    exact hc.objlen b (mf h1 h4.symm (by rw [← DZ h2]; exact hd))
   ·obtain ⟨h1, h2⟩ := other i hi hid
    rw [h1] at ho
    rw [h2] at hbi
    rw [(heldSame i b ((mem_others i).2 ⟨hi, hid⟩) (List.mem_append_right _ (Eg ho hbi hd))).2]
    exact h.objlen b (mf ho hbi hd)
  ·have hlt := (List.getElem?_eq_some_iff.1 ho).1
   rw [hlenH] at hlt
   obtain ⟨o1, o2, h1, h2, h3, h4⟩ := fresh (i - H.length) (by omega)
   rw [show H.length + (i - H.length) = i by omega] at h3 h4
   rw [ho] at h3
   injection h3 with h3
   subst h3
   rw [hbi] at h4
   exact hc.objlen b (mf h1 h4.symm (by rw [← DZ h2]; exact hd))
theorem yJ (rs : List Nat) : ∀ (H : List AObj) (k : Nat), (lm rs k H).length = H.length
 | [], _ => rfl
 | o :: H, k => by simp [lm, yJ rs H (k + 1)]
theorem Gj (rs : List Nat) : ∀ (H : List AObj) (k i : Nat), (lm rs k H)[i]? = bif rs.contains (k + i) then H[i]? else (H[i]?).map fun _ => .gone
 | [], k, i => by simp [lm]
 | o :: H, k, 0 => by
  simp only [lm, List.getElem?_cons_zero, Nat.add_zero]
  cases rs.contains k <;> rfl
 | o :: H, k, i + 1 => by
  simp only [lm, List.getElem?_cons_succ]
  rw [Gj rs H (k + 1) i, show k + 1 + i = k + (i + 1) by omega]
theorem Bg {rs : List Nat} {H : List AObj} {i : Nat} (h : rs.contains i = true) : (lm rs 0 H)[i]? = H[i]? := by
 rw [Gj, Nat.zero_add, h]; rfl
theorem Js {rs : List Nat} {H : List AObj} {i : Nat} {o : AObj} (h : rs.contains i = false) (ho : (lm rs 0 H)[i]? = some o) : o = .gone := by
 rw [Gj, Nat.zero_add, h, cond_false] at ho
 obtain ⟨_, _, rfl⟩ := Option.map_eq_some_iff.1 ho
 rfl
theorem RI (w : World) {rs : List Nat} {H : List AObj} {bs : List Nat} {i : Nat} : claims w (lm rs 0 H) bs i = bif rs.contains i then claims w H bs i else [] := by
 cases h : rs.contains i with
 | true => simp only [claims, uD, Ef, Bg h, cond_true]
 | false =>
  simp only [claims, uD, Ef, cond_false]
  cases ho : (lm rs 0 H)[i]? with
  | none => rfl
  | some o =>
   have := Js h ho
   subst this
   cases bs[i]? <;> rfl
theorem Kn (w : World) {rs : List Nat} {H : List AObj} {bs : List Nat} (hl : H.length = bs.length) (b : Nat) :
 oc b (aU w H bs) + (lives H bs).count b = (oc b (aU w (lm rs 0 H) bs) + (lives (lm rs 0 H) bs).count b) + ((others H rs).flatMap (claims w H bs)).count b := by
 have key : ∀ l : List Nat, (l.flatMap (claims w H bs)).count b = (l.flatMap (claims w (lm rs 0 H) bs)).count b + ((l.filter fun i => !rs.contains i).flatMap (claims w H bs)).count b := by
  intro l
  induction l with
  | nil => simp
  | cons i l ih =>
   rw [List.flatMap_cons, List.flatMap_cons, List.count_append, List.count_append, ih, List.filter_cons, RI]
   cases h : rs.contains i with
   | true => simp only [Bool.not_true, if_false, cond_true, Bool.false_eq_true]; omega
   | false => simp only [Bool.not_false, if_true, cond_false, List.flatMap_cons, List.count_append, List.count_nil]; omega
 rw [wM w hl b, wM w (by rw [yJ, hl]) b, yJ]
 exact key _
theorem Core.hide (h : Core F g H (os1 ++ os2) w) (rs : List Nat) : Core (Held F g H rs os2 w) g (lm rs 0 H) os1 w := by
 have hlen := h.heap.length
 have hl2 : (lm rs 0 H).length = g.obj.length := by rw [yJ, hlen]
 have tot := fun b => Kn w (rs := rs) hlen b
 refine ⟨DY.2 ⟨hl2, fun i b o ho hb => ?_⟩, fun r hr => ?_, fun b => ?_, fun b hF => ?_, fun b hb => ?_, h.lenlt, fun b hF => ?_, h.good.step (fun _ h => .inl h) fun _ _ => rfl⟩
 ·cases hc : rs.contains i with
  | true => rw [Bg hc] at ho; exact aY h.heap i b o ho hb
  | false => rw [Js hc ho]; exact DV rfl
 ·rcases hr with hr | hr
  ·exact h.own r (.inl (List.mem_append_left _ hr))
  ·obtain ⟨i, hi1, hi2⟩ := (qA hl2).1 hr
   refine h.own r (.inr ((qA hlen).2 ⟨i, by rw [yJ] at hi1; exact hi1, ?_⟩))
   unfold uD at hi2 ⊢
   cases hc : rs.contains i with
   | true => rw [Bg hc] at hi2; exact hi2
   | false =>
    cases ho : (lm rs 0 H)[i]? with
    | none => rw [ho] at hi2; simp at hi2
    | some o =>
     rw [ho, Js hc ho] at hi2
     cases hb : g.obj[i]? <;> rw [hb] at hi2 <;> simp [jo] at hi2
 ·have := h.dist b
  have := tot b
  simp only [ax] at *
  omega
 ·have := h.dist b
  have := tot b
  simp only [ax] at *
  rcases hF with hF | hF | hF
  ·have := h.notF b hF
   simp only [ax] at *
   omega
  ·omega
  ·have := List.count_pos_iff.2 hF
   omega
 ·have h1 := List.count_pos_iff.2 hb
  obtain ⟨i, o, h2, h3, h4⟩ := (Jr hl2).1 hb
  cases hc : rs.contains i with
  | true => rw [Bg hc] at h2; exact h.objlen b (mf h2 h3 h4)
  | false => rw [Js hc h2] at h4; cases h4
 ·rcases hF with hF | hF | hF
  ·exact h.flt b hF
  ·obtain ⟨r, hr, hr2⟩ := List.countP_pos_iff.1 hF
   have := (h.own r (.inl (List.mem_append_right _ hr))).lt
   simp at hr2
   omega
  ·obtain ⟨i, _, hb⟩ := List.mem_flatMap.1 hF
   exact PM h hb
theorem Core.aai {g1 : Gh} {rs : List Nat} {os1' : List Rec} {w1 : World} (h : Core F g H (os1 ++ os2) w) (hc : Core (Held F g H rs os2 w) g1 (lm rs 0 H) os1' w1) (hst : Step (Held F g H rs os2 w) g w g1 w1) (hobj : g1.obj = g.obj) :
 Core F g1 H (os1' ++ os2) w1 := by
 have hlen := h.heap.length
 have hlen1 : H.length = g1.obj.length := by rw [hobj, hlen]
 have hl2 : (lm rs 0 H).length = g1.obj.length := by rw [yJ, hlen1]
 have ext : Ext g w g1 w1 := ⟨hst.cell, hst.ty, hst.bsz, hst.len, fun i b hi => by rw [hobj]; exact hi⟩
 have mem_others : ∀ i, i ∈ others H rs ↔ i < H.length ∧ rs.contains i = false := fun i => by simp [others]
 have heldSame : ∀ i b, i ∈ others H rs → b ∈ claims w H g.obj i → w1.heap[b]? = w.heap[b]? ∧ g1.len b = g.len b := fun i b hi hb => hst.frame b (.inr (.inr (List.mem_flatMap.2 ⟨i, hi, hb⟩)))
 have ownsOther : ∀ i, i ∈ others H rs → uD w1 H g1.obj i = uD w H g.obj i := fun i hi => by
  obtain ⟨h1, h2⟩ := (mem_others i).1 hi
  have ho := List.getElem?_eq_getElem (l := H) (i := i) h1
  have hb := List.getElem?_eq_getElem (l := g.obj) (i := i) (by omega)
  simp only [uD, hobj, ho, hb]
  cases hd : H[i].dead with
  | true => rw [oN hd, oN hd]
  | false => exact FC (heldSame i g.obj[i] hi (List.mem_append_right _ (Eg ho hb hd))).1
 have held : ∀ r, OwnOK g w r → Held F g H rs os2 w r.1 → OwnOK g1 w1 r := fun r ⟨o1, o2, arr, t, o3, o4⟩ hh => by
  obtain ⟨h1, h2⟩ := hst.frame r.1 hh
  exact ⟨by rw [← o1]; exact h2, o2, arr, t, o3.of_heap h1, o4⟩
 have tot := fun b => Kn w (rs := rs) hlen b
 have tot1 : ∀ b, oc b (aU w1 H g1.obj) + (lives H g1.obj).count b = (oc b (aU w1 (lm rs 0 H) g1.obj) + (lives (lm rs 0 H) g1.obj).count b) + ((others H rs).flatMap (claims w H g.obj)).count b := fun b => by
  rw [Kn w1 (rs := rs) hlen1 b]
  congr 2
  refine vJ fun i hi => ?_
  unfold claims
  rw [ownsOther i hi, hobj]
 refine ⟨DY.2 ⟨hlen1, fun i b o ho hb => ?_⟩, fun r hr => ?_, fun b => ?_, fun b hF => ?_, fun b hb => ?_, hc.lenlt, fun b hF => hc.flt b (.inl hF), h.good.step (fun _ h => h) fun b hF => (hst.frame b (.inl hF)).1⟩
 ·cases hcn : rs.contains i with
  | true => exact aY hc.heap i b o (by rw [Bg hcn]; exact ho) hb
  | false =>
   have hi := (List.getElem?_eq_some_iff.1 ho).1
   rw [hobj] at hb
   cases hd : o.dead with
   | true => exact DV hd
   | false =>
    have hsame := (heldSame i b ((mem_others i).2 ⟨hi, hcn⟩) (List.mem_append_right _ (Eg ho hb hd))).1
    have := (ObjsR.move ext [o] [b] (by simp only [ObjsR]; exact ⟨b, [], rfl, aY h.heap i b o ho hb, rfl⟩) (fun k hk => by have hk := Mo hk; simp at hk; subst hk; exact hsame)).1
    simp only [ObjsR] at this
    obtain ⟨b2, _, e2, h3, _⟩ := this
    injection e2 with e2 _
    subst e2
    exact h3
 ·rcases hr with hr | hr
  ·rcases List.mem_append.1 hr with hr | hr
   ·exact hc.own r (.inl hr)
   ·exact held r (h.own r (.inl (List.mem_append_right _ hr))) (.inr (.inl (yt hr)))
  ·obtain ⟨i, hi1, hi2⟩ := (qA hlen1).1 hr
   cases hcn : rs.contains i with
   | true =>
    refine hc.own r (.inr ((qA hl2).2 ⟨i, by rw [yJ]; exact hi1, ?_⟩))
    unfold uD at hi2 ⊢
    rw [Bg hcn]; exact hi2
   | false =>
    have hio := (mem_others i).2 ⟨hi1, hcn⟩
    rw [ownsOther i hio] at hi2
    exact held r (h.own r (.inr ((qA hlen).2 ⟨i, hi1, hi2⟩))) (.inr (.inr (List.mem_flatMap.2 ⟨i, hio, N9 hi2⟩)))
 ·have h1 := tot1 b
  have h2 := hc.dist b
  have h3 := h.dist b
  have h4 := tot b
  simp only [ax] at h3 ⊢
  by_cases hh : Held F g H rs os2 w b
  ·have := hc.notF b hh
   omega
  ·have h5 : oc b os2 = 0 := by
    rcases Nat.eq_zero_or_pos (oc b os2) with e | e
    ·exact e
    ·exact absurd (.inr (.inl e)) hh
   have h6 : ((others H rs).flatMap (claims w H g.obj)).count b = 0 := by
    rcases Nat.eq_zero_or_pos (((others H rs).flatMap (claims w H g.obj)).count b) with e | e
    ·exact e
    ·exact absurd (.inr (.inr (List.count_pos_iff.1 e))) hh
   omega
 ·have h1 := tot1 b
  have h2 := hc.notF b (.inl hF)
  have h3 := h.notF b hF
  have h4 := tot b
  simp only [ax] at h3 ⊢
  omega
 ·obtain ⟨i, o, ho, hbi, hd⟩ := (Jr hlen1).1 hb
  have hi := (List.getElem?_eq_some_iff.1 ho).1
  cases hcn : rs.contains i with
  | true => exact hc.objlen b (mf (by rw [Bg hcn]; exact ho) hbi hd)
  | false =>
   rw [hobj] at hbi
   rw [(heldSame i b ((mem_others i).2 ⟨hi, hcn⟩) (List.mem_append_right _ (Eg ho hbi hd))).2]
   exact h.objlen b (mf ho hbi hd)
end
end Go.Sh
namespace Go.Sh
open Go.RowKit
set_option linter.unusedSimpArgs false
set_option linter.unusedVariables false
variable {c : Cx} {o : Oper}
structure FSound (P : Program) (f : FuncId) (sp : FSpec) : Prop where
 enters : ∀ (args : Array Value) (w : World), (callFunc f args).run P w = .ok (.enter f args) w
 law : ∀ (args : List AV) (H : List AObj) (R : Type) (k : AV → List AObj → Option R) (r : R), sp args H R k = some r → ∃ v H', k v H' = some r ∧
  ∀ (F : Nat → Prop) (g : Gh) (vs : List Value) (w : World), VRs g w args vs → Core F g H (aC args vs) w →
   Calls P f vs.toArray w fun e w' => ∃ v' g', e = .returned v' ∧ VR g' w' v v' ∧ g.obj <+: g'.obj ∧ Core F g' H' (owns v v') w' ∧ Step F g w g' w'
theorem enters_of {P : Program} {f : FuncId} {fn : Func} {cd : Code} (hf : P.funcs[f]? = some fn) (hn : (fn.name == "runtime.NumGoroutine") = false) (hb : fn.body = some cd) (args : Array Value) (w : World) : (callFunc f args).run P w = .ok (.enter f args) w := by
 simp [callFunc, hf, hb, Sem.run_bind, Result.andThen]
 simpa using hn
theorem Od : ∀ (xs : List AX) (s : St), (sts s xs).heap = s.heap
 | [], s => rfl
 | x :: xs, s => by
  rw [sts, Od xs]
  cases x <;> rfl
theorem BX {id : Nat} {l : List Nat} (h : l.Nodup) : (KV id l).Nodup := by
 unfold KV
 cases hc : l.contains id with
 | true => exact h
 | false =>
  have : id ∉ l := fun hm => by simp [hm] at hc
  exact List.nodup_append.2 ⟨h, by simp, fun a ha b hb e => by simp at hb; subst hb; subst e; exact this ha⟩
mutual
theorem GX : ∀ (a : AV) (l : List Nat), l.Nodup → (Vy a l).Nodup
 | .ptr (some (id, _)), l, h => BX h
 | .mut id _ _ _, l, h => BX h
 | .map (some id), l, h => BX h
 | .yld id, l, h => BX h
 | .mo id _ _ _, l, h => BX h
 | .agg cs, l, h => vK cs l h
 | .tuple cs, l, h => vK cs l h
 | .func _ a b, l, h => vK b _ (vK a l h)
 | .iface _ v, l, h => GX v l h
 | .undef, l, h | .int .., l, h | .bool .., l, h | .str .., l, h | .ints .., l, h | .strs .., l, h | .sl .., l, h | .eptr .., l, h | .ptr none, l, h | .map none, l, h | .nilFunc, l, h | .nilIface, l, h => h
theorem vK : ∀ (az : List AV) (l : List Nat), l.Nodup → (Pm az l).Nodup
 | [], l, h => h
 | a :: az, l, h => vK az _ (GX a l h)
end
theorem Oe : ∀ (es : List (AV × AV)) (l : List Nat), l.Nodup → (YT es l).Nodup
 | [], l, h => h
 | (k, v) :: es, l, h => Oe es _ (GX v _ (GX k l h))
theorem TN (o : AObj) {l : List Nat} (h : l.Nodup) : (aab o l).Nodup := by
 cases o with
 | cells t cs => exact vK cs l h
 | map es => exact Oe es l h
 | loop k cs => exact vK cs l h
 | _ => exact h
theorem Eh (H : List AObj) : ∀ (n p : Nat) (l : List Nat), l.Nodup → (D9 H n p l).Nodup
 | 0, p, l, h => h
 | n + 1, p, l, h => by
  simp only [D9]
  split
  ·split
   ·exact Eh H n _ _ (TN _ h)
   ·exact Eh H n _ _ h
  ·exact h
theorem II (nb : Nat) (vs : List AV) (H : List AObj) : (Ea nb vs H).Nodup := Eh H _ _ _ (vK vs _ List.nodup_range)
theorem IJ {P : Program} {f : FuncId} {sp : FSpec} (hs : FSound P f sp) {az : List AV} {s1 : St} {R : Type} {k : AV → St → Option R} {r : R}
 (hr : JW sp az s1 R k = some r) :
 ∃ v s', k v s' = some r ∧ ∀ (F : Nat → Prop) (nt : Nat) (g : Gh) (a : Act) (w : World) (vs : List Value), VRs g w az vs → SimX F nt g s1 a w (aC az vs) →
  Calls P f vs.toArray w fun e w' => ∃ v' g', e = .returned v' ∧ VR g' w' v v' ∧ g.obj <+: g'.obj ∧ SimX F nt g' s' a w' (owns v v') ∧ Step F g w g' w' := by
 have hn := II 0 az s1.heap
 unfold JW at hr
 generalize Ea 0 az s1.heap = ids at hr hn
 obtain ⟨args', h1, h2⟩ := Option.bind_eq_some_iff.1 hr
 obtain ⟨hs', h3, h4⟩ := Option.bind_eq_some_iff.1 h2
 obtain ⟨v0, H0, h5, h6⟩ := hs.law _ _ _ _ _ h4
 obtain ⟨v', h7, h8⟩ := Option.bind_eq_some_iff.1 h5
 obtain ⟨H', h9, h10⟩ := Option.bind_eq_some_iff.1 h8
 refine ⟨v', _, h10, fun F nt g a w vs hvs hsim => ?_⟩
 have hl : ∀ i ∈ ids, i < s1.heap.length := fun i hi => by
  obtain ⟨p, hp, hpi⟩ := List.mem_iff_getElem.1 hi
  obtain ⟨o, _, ho, _⟩ := (iP h3).2 p i (by rw [List.getElem?_eq_getElem hp, hpi])
  exact (List.getElem?_eq_some_iff.1 ho).1
 have hpart : ∀ (i j b : Nat), mP ids i = some j → g.obj[i]? = some b → (partOf g ids).obj[j]? = some b := fun i j b hij hb => by
  rw [q8 (Be hij), List.getD_eq_getElem?_getD, hb]; rfl
 obtain ⟨h11, h12⟩ := VRs.ren (g := g) (g1 := partOf g ids) (w := w) (fun _ => Nat.le_refl _) hpart (oO fun _ => Nat.le_refl _) _ _ vs h1 hvs
 have hsplit := hsim.core.split hn hl h3
 rw [← h12] at hsplit
 refine Calls.mono (h6 _ (partOf g ids) vs w h11 hsplit) ?_
 rintro e w1 ⟨v1, g1, rfl, k1, k2, k3, k4⟩
 obtain ⟨j1, j2, j3, j4⟩ := hsim.core.join hn hl k3 k4 k2 h9
 obtain ⟨j5, j6⟩ := j4 _ _ v1 h7 k1
 refine ⟨v1, _, rfl, j5, ⟨_, rfl⟩, ⟨hsim.size, fun t => VR.ext j3 _ _ (hsim.slots t), ?_⟩, j2⟩
 rw [bC, j6]
 exact j1
theorem Y7 {sp : FSpec} {f : FuncId} {xs : List AX} {ps : List Operand} {cl : Call} (h : o.op = .call cl) (hc : cl.callee = .value (.func f)) (hargs : cl.args = ps.toArray) (hs : FSound c.P f sp) (hx : wU xs ps = true) : bK c (.call sp f xs) o := by
 intro s R k r hr
 simp only [AOp.run] at hr
 obtain ⟨v, s', h1, h2⟩ := IJ hs hr
 refine ⟨v, s', h1, fun F g a w B hB hpre hsim ro dn next Q hnext => ?_⟩
 obtain ⟨h3, h4⟩ := AX.oks hsim hx
 have hrun : (execOp a.eval o).run c.P w = .ok (.enter f (ps.map a.eval).toArray) w := by
  simp only [execOp, h, resolve, hc, hargs, Act.eval, Deferred.ofValue, Sem.run_bind, Sem.run_pure, Result.andThen, invoke]
  rw [hs.enters]
  congr 2
  simp
 refine PE hrun (Calls.mono (h2 F c.nt g a w _ h3 (by simpa using h4)) ?_)
 rintro e w1 ⟨v1, g1, rfl, k1, k2, k3, k4⟩
 exact ⟨v1, rfl, hnext v1 g1 w1 k1 (hpre.trans k2) k3 k4⟩
theorem PN {s : St} {fv : AX} {p : Operand} {fn : Fn} {first caps : List AV} (hf : fv.free = true) (hx : bA fv p = true) (h : fv.ev s = .func fn first caps) (vs : List Value) : aC caps vs = [] := by
 cases fv with
 | tmp t =>
  simp only [AX.ev] at h
  cases hg : s.get t <;> rw [hg] at h <;> simp [disown] at h
  obtain ⟨_, _, rfl⟩ := h
  exact tY _ _
 | take t => simp [AX.free] at hf
 | cst v =>
  simp only [AX.ev] at h
  subst h
  cases p with
  | func f => cases fn <;> cases first <;> cases caps <;> simp [bA] at hx <;> cases vs <;> rfl
  | const c => simp [bA, KZ] at hx
  | _ => simp [bA] at hx
theorem RJ {s : St} {fv : AX} {p : Operand} {fn : Fn} {first caps : List AV} (hf : fv.free = true) (hx : bA fv p = true) (h : fv.ev s = .func fn first caps) (vs : List Value) : aC first vs = [] := by
 cases fv with
 | tmp t =>
  simp only [AX.ev] at h
  cases hg : s.get t <;> rw [hg] at h <;> simp [disown] at h
  obtain ⟨_, rfl, _⟩ := h
  exact tY _ _
 | take t => simp [AX.free] at hf
 | cst v =>
  simp only [AX.ev] at h
  subst h
  cases p with
  | func f => cases fn <;> cases first <;> cases caps <;> simp [bA] at hx <;> cases vs <;> rfl
  | const c => simp [bA, KZ] at hx
  | _ => simp [bA] at hx
theorem Ms : ∀ {a : List AV} {x : List Value} {b : List AV} {y : List Value}, a.length = x.length → aC (a ++ b) (x ++ y) = aC a x ++ aC b y
 | [], [], b, y, _ => by simp [aC]
 | [], _ :: _, _, _, h => by simp at h
 | _ :: _, [], _, _, h => by simp at h
 | c :: a, v :: x, b, y, h => by
  simp only [List.cons_append, aC]
  rw [Ms (a := a) (x := x) (by simpa using h), List.append_assoc]
theorem Xi {sp : FSpec} {f : FuncId} {fv : AX} {fp : Operand} {xs : List AX} {ps : List Operand} {cl : Call} (h : o.op = .call cl) (hc : cl.callee = .value fp) (hargs : cl.args = ps.toArray) (hs : FSound c.P f sp) (hfx : bA fv fp = true) (hfr : fv.free = true) (hx : wU xs ps = true) : bK c (.callV sp f fv xs) o := by
 intro s R k r hr
 simp only [AOp.run] at hr
 split at hr
 ·rename_i f' first caps hfv
  obtain ⟨hff, hr2⟩ | ⟨_, hr2⟩ := ae hr
  case inr => exact absurd hr2 (by simp)
  clear hr
  have hff := Nat.eq_of_beq_eq_true hff
  subst hff
  obtain ⟨v, s', h1, h2⟩ := IJ hs hr2
  clear hr2
  refine ⟨v, s', h1, fun F g a w B hB hpre hsim ro dn next Q hnext => ?_⟩
  obtain ⟨h3, h4⟩ := AX.oks hsim hx
  have hfval := aj hsim hfx
  rw [hfv] at hfval
  simp only [VR] at hfval
  obtain ⟨us, ys, hfe, hus, hys⟩ := hfval
  have hrun : (execOp a.eval o).run c.P w = .ok (.enter f' (us.toList ++ (ps.map a.eval ++ ys.toList)).toArray) w := by
   simp only [execOp, h, resolve, hc, hargs, hfe, Deferred.ofValue, Sem.run_bind, Sem.run_pure, Result.andThen, invoke]
   rw [hs.enters]
   congr 2
   simp
  refine PE hrun ?_
  have hown : aC (first ++ (evs s xs ++ caps)) (us.toList ++ (ps.map a.eval ++ ys.toList)) = aC (evs s xs) (ps.map a.eval) := by
   rw [Ms hus.length, Ms h3.length, RJ hfr hfx hfv, PN hfr hfx hfv, List.nil_append, List.append_nil]
  refine Calls.mono (h2 F c.nt g a w _ (hus.append (h3.append hys)) (by rw [hown]; simpa using h4)) ?_
  rintro e w1 ⟨v1, g1, rfl, k1, k2, k3, k4⟩
  exact ⟨v1, rfl, hnext v1 g1 w1 k1 (hpre.trans k2) k3 k4⟩
 ·exact absurd hr (by simp)
end Go.Sh
namespace Go.Sh
open Go.RowKit
set_option linter.unusedSimpArgs false
set_option linter.unusedVariables false
def aba : AExit → Exit
 | .normal => .normal
 | .exit id => .exit id
 | .ret => .ret
def rfn : Code → Bool
 | .seq a b => rfn a || rfn b
 | .cond _ a b => rfn a || rfn b
 | .block _ a => rfn a
 | .loop a => rfn a
 | .rangeFunc .. => true
 | .scope a => rfn a
 | _ => false
def Dfs (F : Nat → Prop) (n : Nat) (w : World) (d d' : List Deferred) : Prop :=
 ∃ ds : List Nat, d' = ds.map (fun D => ({ target := .collected D, args := #[] } : Deferred)) ++ d ∧ ds.Pairwise (fun x y => y < x) ∧ ∀ D ∈ ds, n ≤ D ∧ F D ∧ w.heap[D]? = some (.deferred (some []))
theorem Dfs.refl (F : Nat → Prop) (n : Nat) (w : World) (d : List Deferred) : Dfs F n w d d := ⟨[], rfl, .nil, fun D h => by simp at h⟩
theorem Dfs.ZW {F : Nat → Prop} {n : Nat} {w : World} {d d' : List Deferred} (h : d' = d) : Dfs F n w d d' := h ▸ Dfs.refl F n w d
theorem Dfs.trans {F1 F2 : Nat → Prop} {g g1 : Gh} {n : Nat} {w1 w2 : World} {d d1 d2 : List Deferred} (h : Dfs F1 n w1 d d1) (k : Dfs F2 w1.heap.size w2 d1 d2) (hn : n ≤ w1.heap.size) (hF : ∀ b, F1 b → F2 b) (hst : Step F1 g w1 g1 w2) : Dfs F2 n w2 d d2 := by
 obtain ⟨ds, rfl, h2, h3⟩ := h
 obtain ⟨es, rfl, k2, k3⟩ := k
 refine ⟨es ++ ds, by simp, List.pairwise_append.2 ⟨k2, h2, fun x hx y hy => ?_⟩, fun D hD => ?_⟩
 ·have h4 := (k3 x hx).1
  have h5 := (Array.getElem?_eq_some_iff.1 (h3 y hy).2.2).1
  omega
 ·rcases List.mem_append.1 hD with hD | hD
  ·exact ⟨Nat.le_trans hn (k3 D hD).1, (k3 D hD).2⟩
  ·exact ⟨(h3 D hD).1, hF D (h3 D hD).2.1, by rw [(hst.frame D (h3 D hD).2.1).1]; exact (h3 D hD).2.2⟩
def Ends (c : Cx) (F : Nat → Prop) (g : Gh) (w : World) (B : List Nat) (d : List Deferred) (s' : St) (a' : Act) (w' : World) : Prop :=
 ∃ (F' : Nat → Prop) (g' : Gh), (∀ b, F b → F' b) ∧ B <+: g'.obj ∧ SimX F' c.nt g' s' a' w' [] ∧ Step F g w g' w' ∧ Dfs F' w.heap.size w' d a'.defers
theorem Ends.trans {c : Cx} {F F1 : Nat → Prop} {g g1 : Gh} {w w1 w2 : World} {B : List Nat} {d d1 : List Deferred} {s' : St} {a' : Act} (hF : ∀ b, F b → F1 b) (hst : Step F g w g1 w1) (hd : Dfs F1 w.heap.size w1 d d1) (h : Ends c F1 g1 w1 B d1 s' a' w2) : Ends c F g w B d s' a' w2 := by
 obtain ⟨F2, g2, h1, h2, h3, h4, h5⟩ := h
 exact ⟨F2, g2, fun b hb => h1 b (hF b hb), h2, h3, hst.trans (h4.weaken hF), hd.trans h5 hst.size h1 h4⟩
def Xj (c : Cx) (s : St) (code : Code) (e : AExit) (s' : St) : Prop :=
 ∀ (F : Nat → Prop) (g : Gh) (a : Act) (w : World) (B : List Nat), B.length = c.nb → B <+: g.obj → SimX F c.nt g s a w [] → ∀ (ro : Option Nat) (dn : Nat), (rfn code = true → ro = none) →
  code.wpIn (fw ro) dn c.P (fun e' a' w' => e' = aba e ∧ Ends c F g w B a.defers s' a' w') a w
def Snd (c : Cx) (ex : Ex) (code : Code) : Prop :=
 ∀ (s : St) (R : Type) (k : AExit → St → Option R) (r : R), ex s R k = some r → ∃ e s', k e s' = some r ∧ Xj c s code e s'
variable {c : Cx}
theorem Ends.refl {F : Nat → Prop} {g : Gh} {w : World} {B : List Nat} {s : St} {a : Act} (hp : B <+: g.obj) (hs : SimX F c.nt g s a w []) : Ends c F g w B a.defers s a w := ⟨F, g, fun _ h => h, hp, hs, Step.refl _ _ _, Dfs.refl _ _ _ _⟩
theorem Xk : Snd c ZT .skip := fun s R k r h => ⟨.normal, s, h, fun F g a w B hB hp hs ro dn hro => wpIn_skip ⟨rfl, .refl hp hs⟩⟩
theorem Y8 : Snd c aaJ .ret := fun s R k r h => ⟨.ret, s, h, fun F g a w B hB hp hs ro dn hro => wpIn_ret ⟨rfl, .refl hp hs⟩⟩
theorem Xl {id : Nat} : Snd c (ZU id) (.exit id) := fun s R k r h => ⟨.exit id, s, h, fun F g a w B hB hp hs ro dn hro => wpIn_exit ⟨rfl, .refl hp hs⟩⟩
theorem Y9 {x y : Ex} {cx cy : Code} (hx : Snd c x cx) (hy : Snd c y cy) : Snd c (Vz x y) (.seq cx cy) := by
 intro s R k r h
 obtain ⟨e, s1, h1, h2⟩ := hx s R _ r h
 cases e with
 | normal =>
  obtain ⟨e2, s2, h3, h4⟩ := hy s1 R k r h1
  refine ⟨e2, s2, h3, fun F g a w B hB hp hs ro dn hro => wpIn_seq (wpIn_mono (h2 F g a w B hB hp hs ro dn fun hr => hro (by simp [rfn, hr])) ?_)⟩
  rintro e' a' w' ⟨rfl, F', g', hF, hp', hs', hst, hd⟩
  refine wpIn_mono (h4 F' g' a' w' B hB hp' hs' ro dn fun hr => hro (by simp [rfn, hr])) ?_
  rintro e'' a'' w'' ⟨rfl, h5⟩
  exact ⟨rfl, h5.trans hF hst hd⟩
 | exit id =>
  refine ⟨_, s1, h1, fun F g a w B hB hp hs ro dn hro => wpIn_seq (wpIn_mono (h2 F g a w B hB hp hs ro dn fun hr => hro (by simp [rfn, hr])) ?_)⟩
  rintro e' a' w' ⟨rfl, h⟩
  exact ⟨rfl, h⟩
 | ret =>
  refine ⟨_, s1, h1, fun F g a w B hB hp hs ro dn hro => wpIn_seq (wpIn_mono (h2 F g a w B hB hp hs ro dn fun hr => hro (by simp [rfn, hr])) ?_)⟩
  rintro e' a' w' ⟨rfl, h⟩
  exact ⟨rfl, h⟩
theorem Xm {x : AX} {p : Operand} {y z : Ex} {cy cz : Code} (hx : bA x p = true) (hy : Snd c y cy) (hz : Snd c z cz) : Snd c (WV x y z) (.cond p cy cz) := by
 intro s R k r h
 simp only [WV] at h
 split at h
 ·rename_i b hb
  have key : ∀ (b' : Bool) (ex : Ex) (cd : Code), b = b' → Snd c ex cd → ex (x.know s b') R k = some r → (∀ ro dn Q a w, a.eval p = .bool b' → cd.wpIn (fw ro) dn c.P Q a w → (Code.cond p cy cz).wpIn (fw ro) dn c.P Q a w) → (∀ ro : Option Nat, (rfn (.cond p cy cz) = true → ro = none) → rfn cd = true → ro = none) → ∃ e s', k e s' = some r ∧ Xj c s (.cond p cy cz) e s' := by
   intro b' ex cd hbb hex hr hwp hrf
   obtain ⟨e, s1, h1, h2⟩ := hex _ R k r hr
   refine ⟨e, s1, h1, fun F g a w B hB hp hs ro dn hro => ?_⟩
   have hev := aj hs hx
   rw [hb] at hev
   simp only [VR] at hev
   exact hwp ro dn _ a w (by rw [hev, hbb]) (h2 F g a w B hB hp (K6 hs hx (by rw [hev, hbb])) ro dn (hrf ro hro))
  cases b with
  | true => exact key true y cy rfl hy h (fun ro dn Q a w he hw => wpIn_cond he (by simpa using hw)) (fun ro h hr => h (by simp [rfn, hr]))
  | false => exact key false z cz rfl hz h (fun ro dn Q a w he hw => wpIn_cond he (by simpa using hw)) (fun ro h hr => h (by simp [rfn, hr]))
 ·exact absurd h (by simp)
theorem u7 {i : Option Nat} {n : Nat} {x y : Ex} {cd : Code} (hx : Snd c x cd) (hy : Snd c y cd) : Snd c (JN i n x y) cd := by
 intro s R k r h
 unfold JN at h
 cases i with
 | none =>
  obtain ⟨_, h⟩ | ⟨_, h⟩ := ae h
  ·exact hx s R k r h
  ·exact hy s R k r h
 | some t =>
  obtain ⟨_, h⟩ | ⟨_, h⟩ := ae h
  ·exact hx s R k r h
  ·exact hy s R k r h
theorem VJ {id : Nat} {x : Ex} {cx : Code} (hx : Snd c x cx) : Snd c (TD id x) (.block id cx) := by
 intro s R k r h
 obtain ⟨e, s1, h1, h2⟩ := hx s R _ r h
 cases e with
 | normal =>
  refine ⟨_, s1, h1, fun F g a w B hB hp hs ro dn hro => wpIn_block (wpIn_mono (h2 F g a w B hB hp hs ro dn hro) ?_)⟩
  rintro e' a' w' ⟨rfl, h⟩
  exact ⟨rfl, h⟩
 | ret =>
  refine ⟨_, s1, h1, fun F g a w B hB hp hs ro dn hro => wpIn_block (wpIn_mono (h2 F g a w B hB hp hs ro dn hro) ?_)⟩
  rintro e' a' w' ⟨rfl, h⟩
  exact ⟨rfl, h⟩
 | exit i =>
  by_cases hi : i = id
  ·subst hi
   simp only [beq_self_eq_true] at h1
   refine ⟨.normal, s1, h1, fun F g a w B hB hp hs ro dn hro => wpIn_block (wpIn_mono (h2 F g a w B hB hp hs ro dn hro) ?_)⟩
   rintro e' a' w' ⟨rfl, h⟩
   show (if i = i then _ else _)
   rw [if_pos rfl]
   exact ⟨rfl, h⟩
  ·have hb : (i == id) = false := beq_eq_false_iff_ne.2 hi
   simp only [hb] at h1
   refine ⟨.exit i, s1, h1, fun F g a w B hB hp hs ro dn hro => wpIn_block (wpIn_mono (h2 F g a w B hB hp hs ro dn hro) ?_)⟩
   rintro e' a' w' ⟨rfl, h⟩
   show (if i = id then _ else _)
   rw [if_neg hi]
   exact ⟨rfl, h⟩
theorem wpIn_loop_ghost {FF : Fence} {dn : Nat} {P : Program} {Q : Exit → Act → World → Prop} {a : Act} {w : World} {c : Code} (I : Nat → Act → World → Prop) (n₀ : Nat) (h₀ : I n₀ a w)
 (round : ∀ n a w, I n a w → c.wpIn FF dn P (Exit.then (fun a' w' => ∃ n', n' < n ∧ I n' a' w') Q) a w) : (Code.loop c).wpIn FF dn P Q a w := by
 refine wpIn_loop (fun a w => ∃ n, I n a w) (fun a w => leastOf (fun n => I n a w)) ⟨n₀, h₀⟩ ?_
 intro a w hI
 refine wpIn_mono (round _ a w (leastOf_spec hI).1) ?_
 intro e a' w' hq
 cases e with
 | normal =>
  obtain ⟨n', hlt, hI'⟩ := hq
  exact show (∃ n, I n a' w') ∧ leastOf (fun n => I n a' w') < leastOf (fun n => I n a w) from ⟨⟨n', hI'⟩, Nat.lt_of_le_of_lt ((leastOf_spec ⟨n', hI'⟩).2 n' hI') hlt⟩
 | exit id => exact hq
 | goto l => exact hq
 | ret => exact hq
 | panic ch => exact hq
 | outgrown => exact hq
def QS (c : Cx) (code : Code) : Nat → St → AExit → St → Prop
 | 0, _, _, _ => False
 | n + 1, s, e, s' => (∃ s1, Xj c s code .normal s1 ∧ QS c code n s1 e s') ∨ (e ≠ .normal ∧ Xj c s code e s')
theorem PO {x : Ex} {cx : Code} (hx : Snd c x cx) {R : Type} {k : AExit → St → Option R} {r : R} : ∀ (n : Nat) (s : St), Iu x n s R k = some r → ∃ e s', k e s' = some r ∧ QS c cx n s e s'
 | 0, s, h => absurd h (by simp [Iu])
 | n + 1, s, h => by
  simp only [Iu] at h
  obtain ⟨e, s1, h1, h2⟩ := hx s R _ r h
  cases e with
  | normal =>
   obtain ⟨e', s', h3, h4⟩ := PO hx n s1 h1
   exact ⟨e', s', h3, .inl ⟨s1, h2, h4⟩⟩
  | exit id => exact ⟨_, s1, h1, .inr ⟨by simp, h2⟩⟩
  | ret => exact ⟨_, s1, h1, .inr ⟨by simp, h2⟩⟩
theorem TP {cx : Code} {n : Nat} {s : St} {e : AExit} {s' : St} (h : QS c cx n s e s') : Xj c s (.loop cx) e s' := by
 intro F g a w B hB hp hs ro dn hro
 refine wpIn_loop_ghost (fun m a1 w1 => ∃ s1, QS c cx m s1 e s' ∧ Ends c F g w B a.defers s1 a1 w1) n ⟨s, h, .refl hp hs⟩ ?_
 rintro m a1 w1 ⟨s1, hr, F1, g1, hF1, hp1, hs1, hst1, hd1⟩
 cases m with
 | zero => exact hr.elim
 | succ m =>
  rcases hr with ⟨s2, h1, h2⟩ | ⟨h1, h2⟩
  ·refine wpIn_mono (h1 F1 g1 a1 w1 B hB hp1 hs1 ro dn hro) ?_
   rintro e' a2 w2 ⟨rfl, h5⟩
   exact ⟨m, Nat.lt_succ_self m, s2, h2, h5.trans hF1 hst1 hd1⟩
  ·refine wpIn_mono (h2 F1 g1 a1 w1 B hB hp1 hs1 ro dn hro) ?_
   rintro e' a2 w2 ⟨rfl, h5⟩
   cases e with
   | normal => exact absurd rfl h1
   | exit id => exact ⟨rfl, h5.trans hF1 hst1 hd1⟩
   | ret => exact ⟨rfl, h5.trans hF1 hst1 hd1⟩
theorem Xn {x : Ex} {cx : Code} (n : Nat) (hx : Snd c x cx) : Snd c (Iu x n) (.loop cx) := by
 intro s R k r h
 obtain ⟨e, s', h1, h2⟩ := PO hx n s h
 exact ⟨e, s', h1, TP h2⟩
theorem put_defers (a : Act) (d : Option Nat) (v : Value) : (a.put d v).defers = a.defers := by cases d <;> rfl
def Og (ops : Array Oper) : Option (Nat × Bool) → Option (Nat × Bool) → Bool
 | none, none => true
 | some (t, w), some (j, w') => decide ((ops[j]?).bind (·.dst) = some t) && (w == w')
 | _, _ => false
def QT (nt : Nat) : Option Nat → Option Nat → Bool
 | none, none => true
 | some d, some d' => d == d' && Nat.blt d nt
 | _, _ => false
def RL (nt : Nat) (ops : Array Oper) : List AOper → List Oper → Bool
 | [], [] => true
 | p :: ps, o :: os => QT nt p.dst o.dst && Og ops p.guard o.guard && RL nt ops ps os
 | _, _ => false
def UO (c : Cx) : List AOper → List Oper → Prop
 | p :: ps, o :: os => bK c p.op o ∧ UO c ps os
 | _, _ => True
def aaQ (c : Cx) (ops : Array Oper) (s : St) (l : List Oper) (s' : St) : Prop :=
 ∀ (F : Nat → Prop) (g : Gh) (a : Act) (w : World) (B : List Nat), B.length = c.nb → B <+: g.obj → SimX F c.nt g s a w [] → ∀ (ro : Option Nat) (dn : Nat) (Q : Exit → Act → World → Prop),
  (∀ g' a' w', a'.defers = a.defers → B <+: g'.obj → SimX F c.nt g' s' a' w' [] → Step F g w g' w' → Q .normal a' w') → wpListIn (fw ro) dn c.P ops Q l a w
theorem Jt {nt : Nat} {d d' : Option Nat} (h : QT nt d d' = true) : d = d' ∧ ∀ t, d = some t → t < nt := by
 cases d with
 | none => cases d' <;> simp [QT] at h ⊢
 | some d =>
  cases d' with
  | none => simp [QT] at h
  | some d' =>
   simp only [QT, Bool.and_eq_true, beq_iff_eq] at h
   obtain ⟨rfl, h2⟩ := h
   refine ⟨rfl, fun t ht => ?_⟩
   injection ht with ht
   subst ht
   exact Nat.le_of_ble_eq_true h2
theorem La {ops : Array Oper} {tmps : Array Value} {j t : Nat} {b : Bool} (h : (ops[j]?).bind (·.dst) = some t) (hb : tmps.getD t undef = .bool b) : yielded ops tmps j = some b := by
 unfold yielded
 rw [h]
 simp only [Option.bind_some]
 rw [Array.getD_eq_getD_getElem?] at hb
 cases ht : tmps[t]? with
 | none => rw [ht] at hb; simp [undef] at hb
 | some v => rw [ht] at hb; simp at hb; subst hb; rfl
theorem Lb {ops : Array Oper} {tmps : Array Value} {j t : Nat} (h : (ops[j]?).bind (·.dst) = some t) (hb : tmps.getD t undef = .tuple #[]) : yielded ops tmps j = none := by
 unfold yielded
 rw [h]
 simp only [Option.bind_some]
 rw [Array.getD_eq_getD_getElem?] at hb
 cases ht : tmps[t]? with
 | none => rfl
 | some v => rw [ht] at hb; simp at hb; subst hb; rfl
theorem RN {F : Nat → Prop} {nt : Nat} {g : Gh} {s : St} {a : Act} {w : World} (h : SimX F nt g s a w []) (d : Option Nat) (hlt : ∀ t, d = some t → t < nt) : SimX F nt g (s.put d (.tuple [])) (a.put d undef) w [] :=
 SimX.put (v := .tuple []) (v' := undef) (by rw [yu]; exact h) (by simp only [VR]; exact ⟨#[], rfl, by simp [VRs]⟩) d hlt
theorem Mt {ops : Array Oper} {R : Type} {k : St → Option R} {r : R} : ∀ (ps : List AOper) (l : List Oper) (s : St), RL c.nt ops ps l = true → UO c ps l → oM ps s R k = some r → ∃ s', k s' = some r ∧ aaQ c ops s l s'
 | [], [], s, _, _, h => ⟨s, h, fun F g a w B hB hp hs ro dn Q hq => hq g a w rfl hp hs (Step.refl _ _ _)⟩
 | [], _ :: _, s, h, _, _ => by simp [RL] at h
 | _ :: _, [], s, h, _, _ => by simp [RL] at h
 | p :: ps, o :: l, s, hf, hok, h => by
  simp only [RL, Bool.and_eq_true] at hf
  obtain ⟨⟨hd, hg⟩, hrest⟩ := hf
  obtain ⟨hdst, hdlt⟩ := Jt hd
  have go : ∀ (s0 : St), (p.op.run s0 R fun v s' => oM ps (s'.put p.dst v) R k) = some r → ∃ s', k s' = some r ∧
   ∀ (F : Nat → Prop) (g : Gh) (a : Act) (w : World) (B : List Nat), B.length = c.nb → B <+: g.obj → SimX F c.nt g s0 a w [] → ∀ (ro : Option Nat) (dn : Nat) (Q : Exit → Act → World → Prop),
    (∀ g' a' w', a'.defers = a.defers → B <+: g'.obj → SimX F c.nt g' s' a' w' [] → Step F g w g' w' → Q .normal a' w') → o.wpIn (fw ro) dn c.P a w (wpListIn (fw ro) dn c.P ops Q l) Q := by
   intro s0 h0
   obtain ⟨v, s1, h1, h2⟩ := hok.1 s0 R _ r h0
   obtain ⟨s', h3, h4⟩ := Mt ps l _ hrest hok.2 h1
   refine ⟨s', h3, fun F g a w B hB hp hs ro dn Q hq => h2 F g a w B rfl hp hs ro dn _ Q ?_⟩
   intro v' g' w' hv hp' hs' hst
   have hput := SimX.put hs' hv p.dst hdlt
   rw [← hdst]
   exact h4 F g' _ w' B hB hp' hput ro dn Q (fun g'' a'' w'' hd' hp'' hs'' hst' => hq g'' a'' w'' (hd'.trans (put_defers _ _ _)) hp'' hs'' (hst.trans hst'))
  have skip : ∀ (s0 : St), oM ps (s0.put p.dst (.tuple [])) R k = some r → ∃ s', k s' = some r ∧
   ∀ (F : Nat → Prop) (g : Gh) (a : Act) (w : World) (B : List Nat), B.length = c.nb → B <+: g.obj → SimX F c.nt g s0 a w [] → ∀ (ro : Option Nat) (dn : Nat) (Q : Exit → Act → World → Prop),
    (∀ g' a' w', a'.defers = a.defers → B <+: g'.obj → SimX F c.nt g' s' a' w' [] → Step F g w g' w' → Q .normal a' w') → wpListIn (fw ro) dn c.P ops Q l (a.put o.dst undef) w := by
   intro s0 h0
   obtain ⟨s', h3, h4⟩ := Mt ps l _ hrest hok.2 h0
   refine ⟨s', h3, fun F g a w B hB hp hs ro dn Q hq => ?_⟩
   rw [← hdst]
   exact h4 F g _ w B hB hp (RN hs p.dst hdlt) ro dn Q fun g' a' w' hd' => hq g' a' w' (hd'.trans (put_defers _ _ _))
  simp only [oM] at h
  cases hgp : p.guard with
  | none =>
   rw [hgp] at h hg
   have hgo : o.guard = none := by
    cases ho : o.guard with
    | none => rfl
    | some x => rw [ho] at hg; simp [Og] at hg
   obtain ⟨s', h1, h2⟩ := go s h
   refine ⟨s', h1, fun F g a w B hB hp hs ro dn Q hq => ?_⟩
   simp only [wpListIn, Region.wanted, hgo, if_true]
   exact h2 F g a w B hB hp hs ro dn Q hq
  | some tw =>
   obtain ⟨t, want⟩ := tw
   rw [hgp] at h hg
   obtain ⟨j, hgo, hj⟩ : ∃ j, o.guard = some (j, want) ∧ (ops[j]?).bind (·.dst) = some t := by
    cases ho : o.guard with
    | none => rw [ho] at hg; simp [Og] at hg
    | some x =>
     obtain ⟨j, w'⟩ := x
     rw [ho] at hg
     simp only [Og, Bool.and_eq_true, decide_eq_true_eq, beq_iff_eq] at hg
     obtain ⟨h1, rfl⟩ := hg
     exact ⟨j, rfl, h1⟩
   simp only at h
   split at h
   ·rename_i b hb
    have conclude : ∀ (b' : Bool), b = b' → (b' = want → ∃ s', k s' = some r ∧
     ∀ (F : Nat → Prop) (g : Gh) (a : Act) (w : World) (B : List Nat), B.length = c.nb → B <+: g.obj → SimX F c.nt g (s.know t b') a w [] → ∀ (ro : Option Nat) (dn : Nat) (Q : Exit → Act → World → Prop),
      (∀ g' a' w', a'.defers = a.defers → B <+: g'.obj → SimX F c.nt g' s' a' w' [] → Step F g w g' w' → Q .normal a' w') → o.wpIn (fw ro) dn c.P a w (wpListIn (fw ro) dn c.P ops Q l) Q) →
     (b' ≠ want → ∃ s', k s' = some r ∧
     ∀ (F : Nat → Prop) (g : Gh) (a : Act) (w : World) (B : List Nat), B.length = c.nb → B <+: g.obj → SimX F c.nt g (s.know t b') a w [] → ∀ (ro : Option Nat) (dn : Nat) (Q : Exit → Act → World → Prop),
      (∀ g' a' w', a'.defers = a.defers → B <+: g'.obj → SimX F c.nt g' s' a' w' [] → Step F g w g' w' → Q .normal a' w') → wpListIn (fw ro) dn c.P ops Q l (a.put o.dst undef) w) →
     ∃ s', k s' = some r ∧ aaQ c ops s (o :: l) s' := by
     intro b' hbb h1 h2
     have know : ∀ (F : Nat → Prop) (g : Gh) (a : Act) (w : World), SimX F c.nt g s a w [] → SimX F c.nt g (s.know t b') a w [] ∧ yielded ops a.tmps j = some b' := by
      intro F g a w hs
      have hsl := hs.slots t
      rw [hb] at hsl
      simp only [VR] at hsl
      rw [hbb] at hsl
      exact ⟨K6 (x := .tmp t) (y := .tmp t) hs (by simp [bA]) hsl, La hj hsl⟩
     by_cases hw : b' = want
     ·obtain ⟨s', h3, h4⟩ := h1 hw
      refine ⟨s', h3, fun F g a w B hB hp hs ro dn Q hq => ?_⟩
      obtain ⟨k1, k2⟩ := know F g a w hs
      simp only [wpListIn, Region.wanted, hgo, k2, hw, beq_self_eq_true, if_true]
      exact h4 F g a w B hB hp k1 ro dn Q hq
     ·obtain ⟨s', h3, h4⟩ := h2 hw
      refine ⟨s', h3, fun F g a w B hB hp hs ro dn Q hq => ?_⟩
      obtain ⟨k1, k2⟩ := know F g a w hs
      have hne : (some b' == some want) = false := by simpa using hw
      simp only [wpListIn, Region.wanted, hgo, k2, hne, Bool.false_eq_true, if_false]
      exact ⟨fun _ _ => trivial, h4 F g a w B hB hp k1 ro dn Q hq⟩
    cases want with
    | true =>
     simp only at h
     cases b with
     | true => exact conclude true rfl (fun _ => go _ h) (fun hne => absurd rfl hne)
     | false => exact conclude false rfl (fun he => by cases he) (fun _ => skip _ h)
    | false =>
     simp only at h
     cases b with
     | true => exact conclude true rfl (fun he => by cases he) (fun _ => skip _ h)
     | false => exact conclude false rfl (fun _ => go _ h) (fun hne => absurd rfl hne)
   ·rename_i hb
    obtain ⟨s', h3, h4⟩ := skip _ h
    refine ⟨s', h3, fun F g a w B hB hp hs ro dn Q hq => ?_⟩
    have hsl := hs.slots t
    rw [hb] at hsl
    simp only [VR] at hsl
    obtain ⟨vs, h5, h6⟩ := hsl
    simp only [VRs] at h6
    have h7 : vs = #[] := by cases vs; simpa using h6
    rw [h7] at h5
    have hy := Lb hj h5
    simp only [wpListIn, Region.wanted, hgo, hy]
    exact ⟨fun _ _ => trivial, h4 F g a w B hB hp hs ro dn Q hq⟩
   ·exact absurd h (by simp)
theorem TQ {id : Nat} {ps : List AOper} {l : List Oper} (hf : RL c.nt l.toArray ps l = true) (hok : UO c ps l) : Snd c (UK ps) (.region id l.toArray false) := by
 intro s R k r h
 obtain ⟨s', h1, h2⟩ := Mt (ops := l.toArray) ps l s hf hok h
 exact ⟨.normal, s', h1, fun F g a w B hB hp hs ro dn hro => wpIn_region_lit (h2 F g a w B hB hp hs ro dn _ fun g' a' w' hd hp' hs' hst => ⟨rfl, F, g', fun _ h => h, hp', hs', hst, .ZW hd⟩)⟩
end Go.Sh
namespace Go.Sh
open Go.RowKit
set_option linter.unusedSimpArgs false
set_option linter.unusedVariables false
variable {c : Cx}
theorem BZ (v : Value) : owns .undef v = [] := by cases v <;> rfl
theorem HZ {s s' : St} : ∀ (l : List Value) (i : Nat), (∀ t, s'.get t = s.get t ∨ s'.get t = .undef) → (∀ b, oc b (af s' i l) ≤ oc b (af s i l)) ∧ ∀ r, r ∈ af s' i l → r ∈ af s i l
 | [], _, _ => ⟨fun _ => Nat.le_refl _, fun _ h => h⟩
 | v :: l, i, h => by
  obtain ⟨h1, h2⟩ := HZ (s := s) (s' := s') l (i + 1) h
  simp only [af]
  rcases h i with e | e
  ·rw [e]
   exact ⟨fun b => by have := h1 b; simp only [ax]; omega, fun r hr => by
    simp only [List.mem_append] at hr ⊢
    exact hr.imp id (h2 r)⟩
  ·rw [e, BZ]
   exact ⟨fun b => by have := h1 b; simp only [ax, List.nil_append]; omega, fun r hr => List.mem_append_right _ (h2 r (by simpa using hr))⟩
theorem SimX.forget {F : Nat → Prop} {nt : Nat} {g : Gh} {s s' : St} {a : Act} {w : World} (h : SimX F nt g s a w []) (hg : ∀ t, s'.get t = s.get t ∨ s'.get t = .undef) (hh : s'.heap = s.heap) : SimX F nt g s' a w [] := by
 obtain ⟨h1, h2⟩ := HZ (s := s) (s' := s') a.tmps.toList 0 hg
 refine ⟨h.size, fun t => ?_, ?_⟩
 ·rcases hg t with e | e
  ·rw [e]; exact h.slots t
  ·rw [e]; simp only [VR]
 ·rw [hh]
  exact h.core.weaken (fun r hr => h2 r hr) h1
theorem Oh {s : St} {H : List AObj} (t : Nat) : ∀ (m : List Nat), (⟨m.map fun t => (t, s.get t), H⟩ : St).get t = s.get t ∨ (⟨m.map fun t => (t, s.get t), H⟩ : St).get t = .undef
 | [] => .inr rfl
 | u :: m => by
  simp only [List.map_cons]
  rw [iO]
  by_cases e : u = t
  ·subst e; rw [if_pos rfl]; exact .inl rfl
  ·rw [if_neg e]; exact Oh t m
mutual
theorem Mv (n : Nat) : ∀ (a : AV), below n a = true → Sh.ren (fun i => if i < n then some i else none) a = some a
 | .ptr (some (id, off)), h => by
  simp only [below, decide_eq_true_eq] at h
  simp [Sh.ren, h]
 | .agg cs, h => by simp only [below] at h; simp [Sh.ren, Ei n cs h]
 | .tuple cs, h => by simp only [below] at h; simp [Sh.ren, Ei n cs h]
 | .func fn a b, h => by
  simp only [below, Bool.and_eq_true] at h
  simp [Sh.ren, Ei n a h.1, Ei n b h.2]
 | .iface t v, h => by simp only [below] at h; simp [Sh.ren, Mv n v h]
 | .mut id off m sz, h => by
  simp only [below, decide_eq_true_eq] at h
  simp [Sh.ren, h]
 | .map (some id), h => by
  simp only [below, decide_eq_true_eq] at h
  simp [Sh.ren, h]
 | .yld id, h => by
  simp only [below, decide_eq_true_eq] at h
  simp [Sh.ren, h]
 | .mo id m tot sz, h => by
  simp only [below, decide_eq_true_eq] at h
  simp [Sh.ren, h]
 | .undef, _ | .int .., _ | .bool .., _ | .str .., _ | .ints .., _ | .strs .., _ | .sl .., _ | .eptr .., _ | .ptr none, _ | .map none, _ | .nilFunc, _ | .nilIface, _ => rfl
theorem Ei (n : Nat) : ∀ (cs : List AV), Eb n cs = true → uC (fun i => if i < n then some i else none) cs = some cs
 | [], _ => rfl
 | c :: cs, h => by
  simp only [Eb, Bool.and_eq_true] at h
  simp [uC, Mv n c h.1, Ei n cs h.2]
end
theorem Ko : ∀ {n : Nat} {cs : List AV}, Eb n cs = true → ∀ a ∈ cs, below n a = true
 | n, [], _, a, h => by simp at h
 | n, c :: cs, h, a, ha => by
  simp only [Eb, Bool.and_eq_true] at h
  rcases List.mem_cons.1 ha with rfl | ha
  ·exact h.1
  ·exact Ko h.2 a ha
theorem zw (id : Nat) (l : List Nat) : l <+: KV id l := by
 unfold KV
 cases l.contains id
 ·exact List.prefix_append _ _
 ·exact List.prefix_refl _
mutual
theorem FD : ∀ (a : AV) (l : List Nat), l <+: Vy a l
 | .ptr (some (id, _)), l => zw id l
 | .mut id _ _ _, l => zw id l
 | .map (some id), l => zw id l
 | .yld id, l => zw id l
 | .mo id _ _ _, l => zw id l
 | .agg cs, l => tL cs l
 | .tuple cs, l => tL cs l
 | .func _ a b, l => (tL a l).trans (tL b _)
 | .iface _ v, l => FD v l
 | .undef, l | .int .., l | .bool .., l | .str .., l | .ints .., l | .strs .., l | .sl .., l | .eptr .., l | .ptr none, l | .map none, l | .nilFunc, l | .nilIface, l => List.prefix_refl _
theorem tL : ∀ (az : List AV) (l : List Nat), l <+: Pm az l
 | [], l => List.prefix_refl _
 | a :: az, l => (FD a l).trans (tL az _)
end
theorem M4 : ∀ (es : List (AV × AV)) (l : List Nat), l <+: YT es l
 | [], l => List.prefix_refl _
 | (k, v) :: es, l => ((FD k l).trans (FD v _)).trans (M4 es _)
theorem RO (o : AObj) (l : List Nat) : l <+: aab o l := by
 cases o with
 | cells t cs => exact tL cs l
 | map es => exact M4 es l
 | loop k cs => exact tL cs l
 | _ => exact List.prefix_refl _
theorem CB (H : List AObj) : ∀ (n p : Nat) (l : List Nat), l <+: D9 H n p l
 | 0, p, l => List.prefix_refl _
 | n + 1, p, l => by
  simp only [D9]
  split
  ·split
   ·exact (RO _ l).trans (CB H n _ _)
   ·exact CB H n _ _
  ·exact List.prefix_refl _
theorem QU (nb : Nat) (vs : List AV) (H : List AObj) : List.range nb <+: Ea nb vs H := (tL vs _).trans (CB H _ _ _)
theorem Ju {f : Nat → Option Nat} {H : List AObj} {ids : List Nat} {hs : List AObj} (h : cu f H ids = some hs) : ∀ i ∈ ids, i < H.length := fun i hi => by
 obtain ⟨p, hp, hpi⟩ := List.mem_iff_getElem.1 hi
 obtain ⟨o, _, ho, _⟩ := (iP h).2 p i (by rw [List.getElem?_eq_getElem hp, hpi])
 exact (List.getElem?_eq_some_iff.1 ho).1
theorem Core.gc {F : Nat → Prop} {g : Gh} {H : List AObj} {os : List Rec} {w : World} {ids : List Nat} {hs : List AObj} (h : Core F g H os w) (hn : ids.Nodup) (hp : cu (mP ids) H ids = some hs) : Core F (partOf g ids) hs os w := by
 have h' : Core F g H (os ++ []) w := by simpa using h
 have k := h'.split hn (Ju hp) hp
 exact ⟨k.heap, k.own, k.dist, fun b hF => k.notF b (.inl hF), k.objlen, k.lenlt, h.flt, h.good⟩
theorem Oi {g : Gh} {ids : List Nat} (i j b : Nat) (hij : mP ids i = some j) (hb : g.obj[i]? = some b) : (partOf g ids).obj[j]? = some b := by
 rw [q8 (Be hij), List.getD_eq_getElem?_getD, hb]; rfl
theorem IK {B : List Nat} {g : Gh} {ids : List Nat} (h : B <+: g.obj) (hi : List.range B.length <+: ids) : B <+: (partOf g ids).obj := by
 obtain ⟨t, ht⟩ := hi
 obtain ⟨u, hu⟩ := h
 refine ⟨t.map fun i => g.obj.getD i 0, ?_⟩
 simp only [partOf, ← ht, List.map_append]
 congr 1
 have : ∀ i, i < B.length → g.obj.getD i 0 = B.getD i 0 := fun i hi => by
  rw [← hu, List.getD_eq_getElem?_getD, List.getElem?_append_left hi, List.getD_eq_getElem?_getD]
 conv => lhs; rw [range_map_get B]
 exact List.map_congr_left fun i hi => (this i (by simpa using hi)).symm
theorem Oj {nb : Nat} {vs : List AV} {H : List AObj} {R : Type} {k : List AV → List AObj → Option R} {r : R} (h : gcV nb vs H k = some r) : ∃ ids vs' hs, ids.Nodup ∧ List.range nb <+: ids ∧ uC (mP ids) vs = some vs' ∧ cu (mP ids) H ids = some hs ∧ k vs' hs = some r := by
 unfold gcV at h
 obtain ⟨vs', h1, h2⟩ := Option.bind_eq_some_iff.1 h
 obtain ⟨hs, h3, h4⟩ := Option.bind_eq_some_iff.1 h2
 exact ⟨_, vs', hs, II .., QU .., h1, h3, h4⟩
theorem UQ {f : Nat → Option Nat} {s : St} {H H' : List AObj} : ∀ {m : List Nat} {vs : List AV}, uC f (m.map s.get) = some vs → ∀ t, ((⟨m.zip vs, H⟩ : St).get t = .undef ∧ (⟨m.map fun t => (t, s.get t), H'⟩ : St).get t = .undef) ∨ Sh.ren f ((⟨m.map fun t => (t, s.get t), H'⟩ : St).get t) = some ((⟨m.zip vs, H⟩ : St).get t)
 | [], vs, h, t => .inl ⟨by simp only [List.zip_nil_left]; rfl, rfl⟩
 | u :: m, vs, h, t => by
  simp only [List.map_cons, uC] at h
  obtain ⟨v', h1, h2⟩ := Option.bind_eq_some_iff.1 h
  obtain ⟨vs', h3, h4⟩ := Option.bind_eq_some_iff.1 h2
  injection h4 with h4
  subst h4
  simp only [List.zip_cons_cons, List.map_cons]
  rw [iO, iO]
  by_cases e : u = t
  ·subst e; rw [if_pos rfl, if_pos rfl]; exact .inr h1
  ·rw [if_neg e, if_neg e]; exact UQ h3 t
theorem FE {s s' : St} : ∀ (l : List Value) (i : Nat), (∀ j v, l[j]? = some v → owns (s.get (i + j)) v = owns (s'.get (i + j)) v) → af s i l = af s' i l
 | [], _, _ => rfl
 | v :: l, i, h => by
  have h0 := h 0 v rfl
  simp only [af]
  have h1 : af s (i + 1) l = af s' (i + 1) l := FE l (i + 1) (fun j v hj => by have := h (j + 1) v (by simpa using hj); rw [show i + (j + 1) = i + 1 + j by omega] at this; exact this)
  rw [show owns (s.get i) v = owns (s'.get i) v from h0, h1]
theorem SimX.gc {F : Nat → Prop} {nt : Nat} {g : Gh} {s : St} {a : Act} {w : World} (h : SimX F nt g s a w []) {m : List Nat} {vs : List AV} {ids : List Nat} {hs : List AObj} (hn : ids.Nodup) (hv : uC (mP ids) (m.map s.get) = some vs) (hp : cu (mP ids) s.heap ids = some hs) : SimX F nt (partOf g ids) ⟨m.zip vs, hs⟩ a w [] := by
 have hM := h.forget (s' := ⟨m.map fun t => (t, s.get t), s.heap⟩) (Oh · m) rfl
 have key : ∀ t u, VR g w ((⟨m.map fun t => (t, s.get t), s.heap⟩ : St).get t) u → VR (partOf g ids) w ((⟨m.zip vs, hs⟩ : St).get t) u ∧ owns ((⟨m.zip vs, hs⟩ : St).get t) u = owns ((⟨m.map fun t => (t, s.get t), s.heap⟩ : St).get t) u := fun t u hu => by
  rcases UQ (H := hs) (H' := s.heap) hv t with ⟨h1, h2⟩ | h1
  ·rw [h1, h2]; exact ⟨by simp only [VR], rfl⟩
  ·exact VR.ren (g := g) (g1 := partOf g ids) (fun _ => Nat.le_refl _) Oi (oO fun _ => Nat.le_refl _) _ _ u h1 hu
 refine ⟨hM.size, fun t => (key t _ (hM.slots t)).1, ?_⟩
 have hc := hM.core.gc hn hp
 rw [List.nil_append] at hc ⊢
 rw [FE (s := ⟨m.zip vs, hs⟩) (s' := ⟨m.map fun t => (t, s.get t), s.heap⟩) a.tmps.toList 0 (fun j v hj => by
  rw [Nat.zero_add]
  refine (key j v ?_).2
  have := hM.slots j
  rw [Array.getD_eq_getD_getElem?] at this
  have hj' : a.tmps[j]? = some v := by simpa using hj
  rw [hj'] at this
  exact this)]
 exact hc
theorem PP {s : St} {m : List Nat × Option Nat} {R : Type} {k : St → Option R} {r : R} {nb : Nat} (hm : ∀ n, m.2 = some n → n = nb) (h : s.drop m k = some r) : ∃ s', k s' = some r ∧ ∀ (F : Nat → Prop) (nt : Nat) (g : Gh) (a : Act) (w : World) (B : List Nat), B.length = nb → B <+: g.obj → SimX F nt g s a w [] → ∃ g', B <+: g'.obj ∧ SimX F nt g' s' a w [] ∧ g'.len = g.len := by
 unfold St.drop at h
 split at h
 ·exact ⟨_, h, fun F nt g a w B hB hp hs => ⟨g, hp, hs.forget (Oh · _) rfl, rfl⟩⟩
 ·rename_i n hn
  have := hm n hn
  subst this
  obtain ⟨ids, vs', hs, h1, h2, h3, h4, h5⟩ := Oj h
  exact ⟨_, h5, fun F nt g a w B hB hp hs => ⟨partOf g ids, IK hp (by rw [hB]; exact h2), hs.gc h1 h3 h4, rfl⟩⟩
theorem Step.Xo {F : Nat → Prop} {g g1 g2 : Gh} {w w1 : World} (h : Step F g w g1 w1) (hl : g2.len = g1.len) : Step F g w g2 w1 :=
 ⟨h.cell, h.ty, h.bsz, by rw [hl]; exact h.len, by rw [hl]; exact h.frame, h.size, h.os, h.tape, h.output⟩
theorem Step.aaj {F : Nat → Prop} {g g1 g2 : Gh} {w w1 : World} (h : Step F g1 w g2 w1) (hl : g1.len = g.len) : Step F g w g2 w1 :=
 ⟨by rw [← hl]; exact h.cell, by rw [← hl]; exact h.ty, h.bsz, by rw [← hl]; exact h.len, by rw [← hl]; exact h.frame, h.size, h.os, h.tape, h.output⟩
theorem Kq {m : List Nat × Option Nat} {x : Ex} {cd : Code} (hm : ∀ n, m.2 = some n → n = c.nb) (hx : Snd c x cd) : Snd c (GM m x) cd := by
 intro s R k r h
 obtain ⟨s0, h0, h0'⟩ := PP hm h
 obtain ⟨e, s1, h1, h2⟩ := hx _ R k r h0
 refine ⟨e, s1, h1, fun F g a w B hB hp hs ro dn hro => ?_⟩
 obtain ⟨g0, k1, k2, k3⟩ := h0' F c.nt g a w B hB hp hs
 refine wpIn_mono (h2 F g0 a w B hB k1 k2 ro dn hro) ?_
 rintro e' a' w' ⟨rfl, F', g', hF, hp', hs', hst, hd⟩
 exact ⟨rfl, F', g', hF, hp', hs', hst.aaj k3, hd⟩
theorem RP {m : AExit → List Nat × Option Nat} {x : Ex} {cd : Code} (hm : ∀ e n, (m e).2 = some n → n = c.nb) (hx : Snd c x cd) : Snd c (Pz m x) cd := by
 intro s R k r h
 obtain ⟨e, s1, h1, h2⟩ := hx _ R _ r h
 obtain ⟨s2, h3, h4⟩ := PP (hm e) h1
 refine ⟨e, s2, h3, fun F g a w B hB hp hs ro dn hro => wpIn_mono (h2 F g a w B hB hp hs ro dn hro) ?_⟩
 rintro e' a' w' ⟨rfl, F', g', hF, hp', hs', hst, hd⟩
 obtain ⟨g2, k1, k2, k3⟩ := h4 F' c.nt g' a' w' B hB hp' hs'
 exact ⟨rfl, F', g2, hF, k1, k2, hst.Xo k3, hd⟩
theorem Xp {x y : Ex} {cd : Code} (h : ∀ (s : St) (R : Type) (k : AExit → St → Option R) (r : R), y s R k = some r → x s R k = some r) (hx : Snd c x cd) : Snd c y cd := fun s R k r hr => hx s R k r (h s R k r hr)
theorem JY : ∀ (args : List AV) (vs : List Value) (H : List AObj) (rest : Nat) (i : Nat), args.length = vs.length → ∀ (s : St), (∀ j, s.get (i + j) = (args[j]?).getD .undef) → af s i (vs ++ List.replicate rest undef) = aC args vs
 | [], [], H, rest, i, _, s, h => by
  have : ∀ (r i : Nat), af s i (List.replicate r undef) = [] := by
   intro r
   induction r with
   | zero => intro i; rfl
   | succ r ih => intro i; simp only [List.replicate_succ, af, yu, ih, List.append_nil]
  simpa [aC] using this rest i
 | a :: args, v :: vs, H, rest, i, hl, s, h => by
  simp only [List.cons_append, af, aC]
  rw [JY args vs H rest (i + 1) (by simpa using hl) s (fun j => by have := h (j + 1); rw [show i + 1 + j = i + (j + 1) by omega]; simpa using this)]
  have := h 0
  simp at this
  rw [this]
 | [], _ :: _, _, _, _, hl, _, _ => by simp at hl
 | _ :: _, [], _, _, _, hl, _, _ => by simp at hl
def Ej : Nat → List AV → List (Nat × AV)
 | _, [] => []
 | i, a :: az => (i, a) :: Ej (i + 1) az
theorem GY (H : List AObj) : ∀ (args : List AV) (i j : Nat), (⟨Ej i args, H⟩ : St).get (i + j) = (args[j]?).getD .undef
 | [], i, j => by simp [Ej, St.get, NJ]
 | a :: args, i, j => by
  rw [Ej, iO]
  cases j with
  | zero => simp
  | succ j =>
   rw [if_neg (by omega), show i + (j + 1) = i + 1 + j by omega, GY H args (i + 1) j]
   simp
theorem Mw (tmps : Array Value) : ∀ (ts : List Nat), ts.Nodup → ∀ (s : St), (∀ b, oc b (aC (ts.map s.get) (ts.map fun t => tmps.getD t undef)) ≤ oc b (af s 0 tmps.toList)) ∧ ∀ r, r ∈ aC (ts.map s.get) (ts.map fun t => tmps.getD t undef) → r ∈ af s 0 tmps.toList
 | [], _, s => by simp [aC, nO]
 | t :: ts, hn, s => by
  obtain ⟨hn1, hn2⟩ := List.nodup_cons.1 hn
  have hp := BG (s := s) (s' := ⟨(t, .undef) :: s.slots, s.heap⟩) (d := t) (fun t' ht => by rw [iO, if_neg (fun e => ht e.symm)]) (fun v => by rw [iO, if_pos rfl, BZ]) tmps.toList 0 (Nat.zero_le _)
  have he : tmps.toList.getD (t - 0) undef = tmps.getD t undef := by simp [List.getD_eq_getElem?_getD, Array.getD_eq_getD_getElem?]
  rw [he] at hp
  obtain ⟨h1, h2⟩ := Mw tmps ts hn2 ⟨(t, .undef) :: s.slots, s.heap⟩
  have hm : ts.map (⟨(t, .undef) :: s.slots, s.heap⟩ : St).get = ts.map s.get := List.map_congr_left fun u hu => by
   rw [iO, if_neg (fun (e : t = u) => hn1 (e ▸ hu))]
  rw [hm] at h1 h2
  simp only [List.map_cons, aC]
  exact ⟨fun b => by have := h1 b; have := hp.1 b; simp only [ax]; omega, fun r hr => by
   rcases List.mem_append.1 hr with hr | hr
   ·exact hp.2 r (.inl hr)
   ·exact hp.2 r (.inr (h2 r hr))⟩
end Go.Sh
namespace Go.Sh
open Go.RowKit
set_option linter.unusedSimpArgs false
set_option linter.unusedVariables false
theorem CE (x : AX) (s : St) (t : Nat) (h : t ∉ x.takes) : (x.st s).get t = s.get t := by
 cases x with
 | take u =>
  simp only [AX.takes, List.mem_singleton] at h
  simp only [AX.st]
  rw [iO, if_neg (fun e => h e.symm)]
 | _ => rfl
theorem Lc : ∀ (xs : List AX) (s : St) (t : Nat), t ∉ Kj xs → (sts s xs).get t = s.get t
 | [], s, t, _ => rfl
 | x :: xs, s, t, h => by
  simp only [Kj, List.mem_append, not_or] at h
  rw [sts, Lc xs _ t h.2, CE x s t h.1]
theorem FH (x : AX) (s : St) : (x.st s).heap = s.heap := by cases x <;> rfl
theorem RQ {a : AV} {b : Bool} (h : disown a = .bool b) : a = .bool b := by
 cases a <;> simp [disown] at h
 exact congrArg AV.bool h
theorem RS (x : AX) (s : St) (b : Bool) (t : Nat) (h : x.ev s = .bool b) : (x.know s b).get t = s.get t := by
 cases x with
 | tmp u =>
  show (s.know u b).get t = s.get t
  unfold St.know
  rw [iO]
  by_cases e : u = t
  ·subst e; rw [if_pos rfl]; exact (RQ h).symm
  ·rw [if_neg e]
 | _ => rfl
theorem PQ (x : AX) (s : St) (b : Bool) : (x.know s b).heap = s.heap := by cases x <;> rfl
theorem VK (p : AOp) (s : St) (R : Type) (k k2 : AV → St → Option R) (h : ∀ v s', (∀ t, t ∉ p.takes → s'.get t = s.get t) → (p.still = true → s'.heap = s.heap) → k v s' = k2 v s') : p.run s R k = p.run s R k2 := by
 have same : ∀ v, k v s = k2 v s := fun v => h v s (fun _ _ => rfl) (fun _ => rfl)
 cases p with
 | mv x => exact h _ _ (fun t ht => CE x s t ht) (fun _ => FH x s)
 | chk x =>
  have h1 : ∀ v, k v (x.st s) = k2 v (x.st s) := fun v => h v _ (fun t ht => CE x s t ht) (fun _ => FH x s)
  simp only [AOp.run, h1]
 | pick c a b =>
  simp only [AOp.run]
  cases hc : c.ev s with
  | bool t =>
   cases t with
   | true => exact h _ _ (fun t _ => RS c s true t hc) (fun _ => PQ c s true)
   | false => exact h _ _ (fun t _ => RS c s false t hc) (fun _ => PQ c s false)
  | _ => rfl
 | mark x =>
  have h1 : ∀ v, k v (x.st s) = k2 v (x.st s) := fun v => h v _ (fun t ht => CE x s t ht) (fun _ => FH x s)
  simp only [AOp.run, h1]
 | extract i x =>
  have h1 : ∀ v, k v (x.st s) = k2 v (x.st s) := fun v => h v _ (fun t ht => CE x s t ht) (fun _ => FH x s)
  simp only [AOp.run, h1]
 | append z b x y =>
  have h1 : ∀ v, k v (x.st s) = k2 v (x.st s) := fun v => h v _ (fun t ht => CE x s t ht) (fun _ => FH x s)
  simp only [AOp.run, h1]
 | appendZ b x y =>
  have h1 : ∀ v, k v (x.st s) = k2 v (x.st s) := fun v => h v _ (fun t ht => CE x s t ht) (fun _ => FH x s)
  simp only [AOp.run, h1]
 | appendS b x y =>
  have h1 : ∀ v, k v (x.st s) = k2 v (x.st s) := fun v => h v _ (fun t ht => CE x s t ht) (fun _ => FH x s)
  simp only [AOp.run, h1]
 | appendM z b x y =>
  have h1 : ∀ v, k v (x.st s) = k2 v (x.st s) := fun v => h v _ (fun t ht => CE x s t ht) (fun _ => FH x s)
  simp only [AOp.run, h1]
 | appendN z b x y =>
  have h1 : ∀ v H, k v ⟨(x.st s).slots, H⟩ = k2 v ⟨(x.st s).slots, H⟩ := fun v H => h v _ (fun t ht => CE x s t ht) (fun hh => by simp [AOp.still] at hh)
  simp only [AOp.run, h1]
 | appendO z b x y =>
  have h1 : ∀ v H, k v ⟨s.slots, H⟩ = k2 v ⟨s.slots, H⟩ := fun v H => h v _ (fun t ht => rfl) (fun hh => by simp [AOp.still] at hh)
  simp only [AOp.run, h1]
 | buildB =>
  have h1 : ∀ v H, k v ⟨s.slots, H⟩ = k2 v ⟨s.slots, H⟩ := fun v H => h v _ (fun t ht => rfl) (fun hh => by simp [AOp.still] at hh)
  simp only [AOp.run, h1]
 | boxB t x =>
  have h1 : ∀ v H, k v ⟨s.slots, H⟩ = k2 v ⟨s.slots, H⟩ := fun v H => h v _ (fun t ht => rfl) (fun hh => by simp [AOp.still] at hh)
  simp only [AOp.run, h1]
 | nilO sh z =>
  have h1 : ∀ v H, k v ⟨s.slots, H⟩ = k2 v ⟨s.slots, H⟩ := fun v H => h v _ (fun t ht => rfl) (fun hh => by simp [AOp.still] at hh)
  simp only [AOp.run, h1]
 | build zero ps =>
  have h1 : ∀ v, k v (sts s (ps.map fun p => p.2.2)) = k2 v (sts s (ps.map fun p => p.2.2)) := fun v => h v _ (fun t ht => Lc _ s t ht) (fun _ => Od _ s)
  simp only [AOp.run, h1]
 | box t n x =>
  have h1 : ∀ v H, k v ⟨(x.st s).slots, H⟩ = k2 v ⟨(x.st s).slots, H⟩ := fun v H => h v _ (fun t ht => CE x s t ht) (fun hh => by simp [AOp.still] at hh)
  simp only [AOp.run, h1]
 | alloc t zero =>
  have h1 : ∀ v H, k v ⟨s.slots, H⟩ = k2 v ⟨s.slots, H⟩ := fun v H => h v _ (fun t ht => rfl) (fun hh => by simp [AOp.still] at hh)
  simp only [AOp.run, h1]
 | litP t xs =>
  have h1 : ∀ v H, k v ⟨s.slots, H⟩ = k2 v ⟨s.slots, H⟩ := fun v H => h v _ (fun t ht => rfl) (fun hh => by simp [AOp.still] at hh)
  simp only [AOp.run, h1]
 | allocO ob =>
  have h1 : ∀ v H, k v ⟨s.slots, H⟩ = k2 v ⟨s.slots, H⟩ := fun v H => h v _ (fun t ht => rfl) (fun hh => by simp [AOp.still] at hh)
  simp only [AOp.run, h1]
 | callY sp key fv xs =>
  have h1 : ∀ v H, k v ⟨(sts s xs).slots, H⟩ = k2 v ⟨(sts s xs).slots, H⟩ := fun v H => h v _ (fun t ht => Lc xs s t ht) (fun hh => by simp [AOp.still] at hh)
  simp only [AOp.run, JW, h1]
 | loadT n ag x =>
  have h1 : ∀ v H, k v ⟨s.slots, H⟩ = k2 v ⟨s.slots, H⟩ := fun v H => h v _ (fun t ht => rfl) (fun hh => by simp [AOp.still] at hh)
  simp only [AOp.run, h1]
 | store n x v =>
  have h1 : ∀ u H, k u ⟨(v.st s).slots, H⟩ = k2 u ⟨(v.st s).slots, H⟩ := fun u H => h u _ (fun t ht => CE v s t ht) (fun hh => by simp [AOp.still] at hh)
  have h2 : ∀ u H, k u ⟨s.slots, H⟩ = k2 u ⟨s.slots, H⟩ := fun u H => h u _ (fun t ht => rfl) (fun hh => by simp [AOp.still] at hh)
  simp only [AOp.run, h1, h2]
 | makeMap =>
  have h1 : ∀ v H, k v ⟨s.slots, H⟩ = k2 v ⟨s.slots, H⟩ := fun v H => h v _ (fun t ht => rfl) (fun hh => by simp [AOp.still] at hh)
  simp only [AOp.run, h1]
 | mapPut i m key v =>
  have h1 : ∀ v H, k v ⟨s.slots, H⟩ = k2 v ⟨s.slots, H⟩ := fun v H => h v _ (fun t ht => rfl) (fun hh => by simp [AOp.still] at hh)
  simp only [AOp.run, h1]
 | makeMapI =>
  have h1 : ∀ v H, k v ⟨s.slots, H⟩ = k2 v ⟨s.slots, H⟩ := fun v H => h v _ (fun t ht => rfl) (fun hh => by simp [AOp.still] at hh)
  simp only [AOp.run, h1]
 | mapPutI m key v =>
  have h1 : ∀ v H, k v ⟨s.slots, H⟩ = k2 v ⟨s.slots, H⟩ := fun v H => h v _ (fun t ht => rfl) (fun hh => by simp [AOp.still] at hh)
  simp only [AOp.run, h1]
 | clear x =>
  have h1 : ∀ v H, k v ⟨s.slots, H⟩ = k2 v ⟨s.slots, H⟩ := fun v H => h v _ (fun t ht => rfl) (fun hh => by simp [AOp.still] at hh)
  simp only [AOp.run, h1]
 | callV sp f fv xs =>
  have h1 : ∀ v H, k v ⟨(sts s xs).slots, H⟩ = k2 v ⟨(sts s xs).slots, H⟩ := fun v H => h v _ (fun t ht => Lc xs s t ht) (fun hh => by simp [AOp.still] at hh)
  simp only [AOp.run, JW, h1]
 | call sp f xs =>
  have h1 : ∀ v H, k v ⟨(sts s xs).slots, H⟩ = k2 v ⟨(sts s xs).slots, H⟩ := fun v H => h v _ (fun t ht => Lc xs s t ht) (fun hh => by simp [AOp.still] at hh)
  simp only [AOp.run, JW, h1]
 | _ => simp only [AOp.run, same]
theorem UR {s : St} {d : Option Nat} {v : AV} {t : Nat} (h : ∀ u, d = some u → t ≠ u) : (s.put d v).get t = s.get t := by
 cases d with
 | none => rfl
 | some d =>
  show (⟨(d, v) :: s.slots, s.heap⟩ : St).get t = s.get t
  rw [iO, if_neg (fun e => h d rfl e.symm)]
theorem RU {s : St} {d : Option Nat} {v : AV} : (s.put d v).heap = s.heap := by cases d <;> rfl
theorem UT {d : DOper} {t : Nat} (h : t ∉ d.wr) : t ∉ d.op.op.takes ∧ ∀ u, d.op.dst = some u → t ≠ u := by
 unfold DOper.wr at h
 cases hd : d.op.dst with
 | none => rw [hd] at h; exact ⟨h, fun u hu => by cases hu⟩
 | some u =>
  rw [hd] at h
  simp only [List.mem_cons, not_or] at h
  exact ⟨h.2, fun u' hu => by injection hu with hu; subst hu; exact h.1⟩
theorem VL {s : St} {t u : Nat} {b : Bool} (h : s.get t = .bool b) : (s.know t b).get u = s.get u := by
 unfold St.know
 rw [iO]
 by_cases e : t = u
 ·subst e; rw [if_pos rfl]; exact h.symm
 ·rw [if_neg e]
theorem QV (d : DOper) (s : St) (R : Type) (k k2 : St → Option R) (h : ∀ s', (∀ t, t ∉ d.wr → s'.get t = s.get t) → (d.op.op.still = true → s'.heap = s.heap) → k s' = k2 s') : oM [d.op] s R k = oM [d.op] s R k2 := by
 have go : ∀ (s0 : St), (∀ t, s0.get t = s.get t) → s0.heap = s.heap → (d.op.op.run s0 R fun v s' => k (s'.put d.op.dst v)) = (d.op.op.run s0 R fun v s' => k2 (s'.put d.op.dst v)) := by
  intro s0 h0 h1
  refine VK _ _ _ _ _ fun v s' h2 h3 => h _ (fun t ht => ?_) (fun hs => by rw [RU, h3 hs, h1])
  obtain ⟨h4, h5⟩ := UT ht
  rw [UR h5, h2 t h4, h0 t]
 have skip : ∀ (s0 : St), (∀ t, s0.get t = s.get t) → s0.heap = s.heap → k (s0.put d.op.dst (.tuple [])) = k2 (s0.put d.op.dst (.tuple [])) := by
  intro s0 h0 h1
  refine h _ (fun t ht => ?_) (fun _ => by rw [RU, h1])
  rw [UR (UT ht).2, h0 t]
 simp only [oM]
 cases d.op.guard with
 | none => exact go s (fun _ => rfl) rfl
 | some tw =>
  obtain ⟨t, want⟩ := tw
  simp only
  cases hb : s.get t with
  | bool b =>
   have kt : ∀ b', b = b' → (∀ u, (s.know t b').get u = s.get u) := fun b' e u => VL (by rw [hb, e])
   cases want <;> cases b <;> simp only [cond_true, cond_false]
   ·exact go _ (kt false rfl) rfl
   ·exact skip _ (kt true rfl) rfl
   ·exact skip _ (kt false rfl) rfl
   ·exact go _ (kt true rfl) rfl
  | tuple vs => cases vs <;> simp only; exact skip s (fun _ => rfl) rfl
  | _ => rfl
open Classical in
theorem Dj {d : DOper} {s : St} {R : Type} {k : St → Option R} {r : R} (h : oM [d.op] s R k = some r) :
 oM [d.op] s R (fun s' => if (∀ t, t ∉ d.wr → s'.get t = s.get t) ∧ (d.op.op.still = true → s'.heap = s.heap) then k s' else none) = some r := by
 rw [← h]
 exact QV d s R _ _ fun s' h1 h2 => by rw [if_pos ⟨h1, h2⟩]
end Go.Sh
namespace Go.Sh
open Go.RowKit
set_option linter.unusedSimpArgs false
set_option linter.unusedVariables false
variable {c : Cx}
theorem Core.Xq {F : Nat → Prop} {g : Gh} {H : List AObj} {os1 os2 : List Rec} {w : World} (h : Core F g H (os1 ++ os2) w) : Core (fun b => F b ∨ 0 < oc b os2) g H os1 w := by
 refine ⟨h.heap, fun r hr => h.own r (hr.imp (fun h => List.mem_append_left _ h) id), fun b => ?_, fun b hF => ?_, h.objlen, h.lenlt, fun b hF => ?_, h.good.step (fun _ h => .inl h) fun _ _ => rfl⟩
 ·have := h.dist b
  simp only [ax] at this
  omega
 ·rcases hF with hF | hF
  ·have := h.notF b hF
   simp only [ax] at this
   omega
  ·have := h.dist b
   simp only [ax] at this
   omega
 ·rcases hF with hF | hF
  ·exact h.flt b hF
  ·obtain ⟨r, hr, hr2⟩ := List.countP_pos_iff.1 hF
   have := (h.own r (.inl (List.mem_append_right _ hr))).lt
   simp at hr2
   omega
theorem Core.Xr {F : Nat → Prop} {g g' : Gh} {H H' : List AObj} {os1 os2 os1' : List Rec} {w w' : World} (h : Core F g H (os1 ++ os2) w) (hc : Core (fun b => F b ∨ 0 < oc b os2) g' H' os1' w') (hst : Step (fun b => F b ∨ 0 < oc b os2) g w g' w') : Core F g' H' (os1' ++ os2) w' := by
 refine ⟨hc.heap, fun r hr => ?_, fun b => ?_, fun b hF => ?_, hc.objlen, hc.lenlt, fun b hF => hc.flt b (.inl hF), h.good.step (fun _ h => h) fun b hF => (hst.frame b (.inl hF)).1⟩
 ·rcases hr with hr | hr
  ·rcases List.mem_append.1 hr with hr | hr
   ·exact hc.own r (.inl hr)
   ·obtain ⟨o1, o2, arr, t, o3, o4⟩ := h.own r (.inl (List.mem_append_right _ hr))
    obtain ⟨h1, h2⟩ := hst.frame r.1 (.inr (yt hr))
    exact ⟨by rw [← o1]; exact h2, o2, arr, t, o3.of_heap h1, o4⟩
  ·exact hc.own r (.inr hr)
 ·have h1 := h.dist b
  have h2 := hc.dist b
  simp only [ax] at h1 ⊢
  rcases Nat.eq_zero_or_pos (oc b os2) with e | e
  ·omega
  ·have := hc.notF b (.inr e)
   omega
 ·have h1 := h.notF b hF
  have h2 := hc.notF b (.inl hF)
  simp only [ax] at h1 ⊢
  omega
theorem JZ {S L M : St} {rd : List Nat} (hL : ∀ t, L.get t = if t ∈ rd then S.get t else .undef) (hM : ∀ t, M.get t = if t ∈ rd then .undef else S.get t) : ∀ (l : List Value) (i : Nat),
 (∀ b, oc b (af S i l) = oc b (af L i l) + oc b (af M i l)) ∧ ∀ r, r ∈ af S i l ↔ r ∈ af L i l ∨ r ∈ af M i l
 | [], i => by simp [af, nO]
 | v :: l, i => by
  obtain ⟨h1, h2⟩ := JZ hL hM l (i + 1)
  simp only [af, hL i, hM i]
  by_cases e : i ∈ rd
  ·simp only [e, if_true, BZ, List.nil_append]
   exact ⟨fun b => by have := h1 b; simp only [ax]; omega, fun r => by simp only [List.mem_append]; rw [h2 r]; simp [or_assoc]⟩
  ·simp only [e, if_false, BZ, List.nil_append]
   exact ⟨fun b => by have := h1 b; simp only [ax]; omega, fun r => by
    simp only [List.mem_append]; rw [h2 r]
    constructor
    ·rintro (h | h | h) <;> simp [h]
    ·rintro (h | h | h) <;> simp [h]⟩
theorem Ld {S' L' M : St} {ch : List Nat} {d : Option Nat} (hS : ∀ t, S'.get t = if t ∈ ch then L'.get t else M.get t) (hd : ∀ t, d = some t → t ∈ ch) (v' : Value) : ∀ (l l' : List Value) (i : Nat), (∀ j, (d ≠ some (i + j)) → l'[j]? = l[j]?) → l'.length = l.length →
 (∀ b, oc b (af S' i l') ≤ oc b (af L' i l') + oc b (af M i l)) ∧ ∀ r, r ∈ af S' i l' → r ∈ af L' i l' ∨ r ∈ af M i l
 | [], l', i, _, hl => by
  have : l' = [] := List.length_eq_zero_iff.1 (by simpa using hl)
  subst this
  simp [af, nO]
 | v :: l, [], i, _, hl => by simp at hl
 | v :: l, u :: l', i, hj, hl => by
  obtain ⟨h1, h2⟩ := Ld hS hd v' l l' (i + 1) (fun j h => by have := hj (j + 1) (by rw [show i + (j + 1) = i + 1 + j by omega]; exact h); simpa using this) (by simpa using hl)
  simp only [af, hS i]
  by_cases e : i ∈ ch
  ·simp only [e, if_true]
   exact ⟨fun b => by have := h1 b; simp only [ax]; omega, fun r hr => by
    simp only [List.mem_append] at hr ⊢
    rcases hr with h | h
    ·simp [h]
    ·rcases h2 r h with h | h <;> simp [h]⟩
  ·simp only [e, if_false]
   have hu : u = v := by
    have := hj 0 (fun he => e (hd i (by simpa using he)))
    simpa using this
   subst hu
   exact ⟨fun b => by have := h1 b; simp only [ax]; omega, fun r hr => by
    simp only [List.mem_append] at hr ⊢
    rcases hr with h | h
    ·simp [h]
    ·rcases h2 r h with h | h <;> simp [h]⟩
def wp1 (c : Cx) (ro : Option Nat) (dn : Nat) (ops : Array Oper) (o : Oper) (a : Act) (w : World) (K : Act → World → Prop) (Q : Exit → Act → World → Prop) : Prop :=
 if Region.wanted o (yielded ops a.tmps) then o.wpIn (fw ro) dn c.P a w K Q else K (a.put o.dst undef) w
def QW (c : Cx) (ops : Array Oper) (o : Oper) (L L' : St) : Prop :=
 ∀ (F : Nat → Prop) (g : Gh) (a : Act) (w : World) (B : List Nat), B.length = B.length → B <+: g.obj → SimX F c.nt g L a w [] → ∀ (ro : Option Nat) (dn : Nat) (K : Act → World → Prop) (Q : Exit → Act → World → Prop),
  (∀ v' g' w', B <+: g'.obj → SimX F c.nt g' L' (a.put o.dst v') w' [] → Step F g w g' w' → K (a.put o.dst v') w') → wp1 c ro dn ops o a w K Q
theorem Jv {ops : Array Oper} {R : Type} {k : St → Option R} {r : R} {p : AOper} {o : Oper} {s : St} (hd : QT c.nt p.dst o.dst = true) (hg : Og ops p.guard o.guard = true) (hok : bK c p.op o) (h : oM [p] s R k = some r) : ∃ s', k s' = some r ∧ QW c ops o s s' := by
 obtain ⟨hdst, hdlt⟩ := Jt hd
 have go : ∀ (s0 : St), (p.op.run s0 R fun v s' => k (s'.put p.dst v)) = some r → ∃ s', k s' = some r ∧
  ∀ (F : Nat → Prop) (g : Gh) (a : Act) (w : World) (B : List Nat), B.length = B.length → B <+: g.obj → SimX F c.nt g s0 a w [] → ∀ (ro : Option Nat) (dn : Nat) (K : Act → World → Prop) (Q : Exit → Act → World → Prop),
   (∀ v' g' w', B <+: g'.obj → SimX F c.nt g' s' (a.put o.dst v') w' [] → Step F g w g' w' → K (a.put o.dst v') w') → o.wpIn (fw ro) dn c.P a w K Q := by
  intro s0 h0
  obtain ⟨v, s1, h1, h2⟩ := hok s0 R _ r h0
  refine ⟨_, h1, fun F g a w B hB hp hs ro dn K Q hK => h2 F g a w B hB hp hs ro dn _ Q ?_⟩
  intro v' g' w' hv hp' hs' hst
  have hput := SimX.put hs' hv p.dst hdlt
  rw [hdst] at hput
  exact hK v' g' w' hp' (by rw [hdst]; exact hput) hst
 have skip : ∀ (s0 : St), k (s0.put p.dst (.tuple [])) = some r → ∃ s', k s' = some r ∧
  ∀ (F : Nat → Prop) (g : Gh) (a : Act) (w : World) (B : List Nat), B.length = B.length → B <+: g.obj → SimX F c.nt g s0 a w [] → ∀ (K : Act → World → Prop),
   (∀ v' g' w', B <+: g'.obj → SimX F c.nt g' s' (a.put o.dst v') w' [] → Step F g w g' w' → K (a.put o.dst v') w') → K (a.put o.dst undef) w := by
  intro s0 h0
  refine ⟨_, h0, fun F g a w B hB hp hs K hK => ?_⟩
  have hput := RN hs p.dst hdlt
  rw [hdst] at hput
  exact hK undef g w hp (by rw [hdst]; exact hput) (Step.refl _ _ _)
 simp only [oM] at h
 cases hgp : p.guard with
 | none =>
  rw [hgp] at h hg
  have hgo : o.guard = none := by
   cases ho : o.guard with
   | none => rfl
   | some x => rw [ho] at hg; simp [Og] at hg
  obtain ⟨s', h1, h2⟩ := go s h
  refine ⟨s', h1, fun F g a w B hB hp hs ro dn K Q hK => ?_⟩
  simp only [wp1, Region.wanted, hgo, if_true]
  exact h2 F g a w B hB hp hs ro dn K Q hK
 | some tw =>
  obtain ⟨t, want⟩ := tw
  rw [hgp] at h hg
  obtain ⟨j, hgo, hj⟩ : ∃ j, o.guard = some (j, want) ∧ (ops[j]?).bind (·.dst) = some t := by
   cases ho : o.guard with
   | none => rw [ho] at hg; simp [Og] at hg
   | some x =>
    obtain ⟨j, w'⟩ := x
    rw [ho] at hg
    simp only [Og, Bool.and_eq_true, decide_eq_true_eq, beq_iff_eq] at hg
    obtain ⟨h1, rfl⟩ := hg
    exact ⟨j, rfl, h1⟩
  simp only at h
  split at h
  ·rename_i b hb
   have know : ∀ (b' : Bool), b = b' → ∀ (F : Nat → Prop) (g : Gh) (a : Act) (w : World), SimX F c.nt g s a w [] → SimX F c.nt g (s.know t b') a w [] ∧ yielded ops a.tmps j = some b' := by
    intro b' hbb F g a w hs
    have hsl := hs.slots t
    rw [hb] at hsl
    simp only [VR] at hsl
    rw [hbb] at hsl
    exact ⟨K6 (x := .tmp t) (y := .tmp t) hs (by simp [bA]) hsl, La hj hsl⟩
   have yes : ∀ (b' : Bool), b = b' → b' = want → (p.op.run (s.know t b') R fun v s' => k (s'.put p.dst v)) = some r → ∃ s', k s' = some r ∧ QW c ops o s s' := by
    intro b' hbb hw h0
    obtain ⟨s', h1, h2⟩ := go _ h0
    refine ⟨s', h1, fun F g a w B hB hp hs ro dn K Q hK => ?_⟩
    obtain ⟨k1, k2⟩ := know b' hbb F g a w hs
    simp only [wp1, Region.wanted, hgo, k2, hw, beq_self_eq_true, if_true]
    exact h2 F g a w B hB hp k1 ro dn K Q hK
   have no : ∀ (b' : Bool), b = b' → b' ≠ want → k ((s.know t b').put p.dst (.tuple [])) = some r → ∃ s', k s' = some r ∧ QW c ops o s s' := by
    intro b' hbb hw h0
    obtain ⟨s', h1, h2⟩ := skip _ h0
    refine ⟨s', h1, fun F g a w B hB hp hs ro dn K Q hK => ?_⟩
    obtain ⟨k1, k2⟩ := know b' hbb F g a w hs
    have hne : (some b' == some want) = false := by simpa using hw
    simp only [wp1, Region.wanted, hgo, k2, hne, Bool.false_eq_true, if_false]
    exact h2 F g a w B hB hp k1 K hK
   cases want with
   | true =>
    simp only at h
    cases b with
    | true => exact yes true rfl rfl h
    | false => exact no false rfl (by simp) h
   | false =>
    simp only at h
    cases b with
    | true => exact no true rfl (by simp) h
    | false => exact yes false rfl rfl h
  ·rename_i hb
   obtain ⟨s', h3, h4⟩ := skip _ h
   refine ⟨s', h3, fun F g a w B hB hp hs ro dn K Q hK => ?_⟩
   have hsl := hs.slots t
   rw [hb] at hsl
   simp only [VR] at hsl
   obtain ⟨vs, h5, h6⟩ := hsl
   simp only [VRs] at h6
   have h7 : vs = #[] := by cases vs; simpa using h6
   rw [h7] at h5
   have hy := Lb hj h5
   simp only [wp1, Region.wanted, hgo, hy]
   exact h4 F g a w B hB hp hs K hK
  ·exact absurd h (by simp)
end Go.Sh
namespace Go.Sh
open Go.RowKit
set_option linter.unusedSimpArgs false
set_option linter.unusedVariables false
variable {c : Cx}
theorem Le {ids : List Nat} {i j : Nat} (h : mP ids i = some j) : backTo ids j = some i := Be h
mutual
theorem Gl {ids : List Nat} : ∀ (a a' : AV), Sh.ren (mP ids) a = some a' → Sh.ren (backTo ids) a' = some a
 | .ptr (some (id, off)), a', h => by
  simp only [Sh.ren] at h
  obtain ⟨j, h1, h2⟩ := Option.bind_eq_some_iff.1 h
  injection h2 with h2
  subst h2
  simp [Sh.ren, Le h1]
 | .agg cs, a', h => by
  simp only [Sh.ren] at h
  obtain ⟨cs', h1, h2⟩ := Option.bind_eq_some_iff.1 h
  injection h2 with h2
  subst h2
  simp [Sh.ren, Bh cs cs' h1]
 | .tuple cs, a', h => by
  simp only [Sh.ren] at h
  obtain ⟨cs', h1, h2⟩ := Option.bind_eq_some_iff.1 h
  injection h2 with h2
  subst h2
  simp [Sh.ren, Bh cs cs' h1]
 | .func fn a b, a', h => by
  simp only [Sh.ren] at h
  obtain ⟨cs', h1, h2⟩ := Option.bind_eq_some_iff.1 h
  obtain ⟨ds', h3, h4⟩ := Option.bind_eq_some_iff.1 h2
  injection h4 with h4
  subst h4
  simp [Sh.ren, Bh a cs' h1, Bh b ds' h3]
 | .iface t x, a', h => by
  simp only [Sh.ren] at h
  obtain ⟨x', h1, h2⟩ := Option.bind_eq_some_iff.1 h
  injection h2 with h2
  subst h2
  simp [Sh.ren, Gl x x' h1]
 | .mut id off m sz, a', h => by
  simp only [Sh.ren] at h
  obtain ⟨j, h1, h2⟩ := Option.bind_eq_some_iff.1 h
  injection h2 with h2
  subst h2
  simp [Sh.ren, Le h1]
 | .mo id m tot sz, a', h => by
  simp only [Sh.ren] at h
  obtain ⟨j, h1, h2⟩ := Option.bind_eq_some_iff.1 h
  injection h2 with h2
  subst h2
  simp [Sh.ren, Le h1]
 | .map (some id), a', h => by
  simp only [Sh.ren] at h
  obtain ⟨j, h1, h2⟩ := Option.bind_eq_some_iff.1 h
  injection h2 with h2
  subst h2
  simp [Sh.ren, Le h1]
 | .yld id, a', h => by
  simp only [Sh.ren] at h
  obtain ⟨j, h1, h2⟩ := Option.bind_eq_some_iff.1 h
  injection h2 with h2
  subst h2
  simp [Sh.ren, Le h1]
 | .undef, a', h | .int .., a', h | .bool .., a', h | .str .., a', h | .ints .., a', h | .strs .., a', h | .sl .., a', h | .eptr .., a', h | .ptr none, a', h | .map none, a', h | .nilFunc, a', h | .nilIface, a', h => by simp only [Sh.ren] at h; injection h with h; subst h; rfl
theorem Bh {ids : List Nat} : ∀ (cs cs' : List AV), uC (mP ids) cs = some cs' → uC (backTo ids) cs' = some cs
 | [], cs', h => by simp only [uC] at h; injection h with h; subst h; rfl
 | c :: cs, cs', h => by
  simp only [uC] at h
  obtain ⟨c', h1, h2⟩ := Option.bind_eq_some_iff.1 h
  obtain ⟨ds', h3, h4⟩ := Option.bind_eq_some_iff.1 h2
  injection h4 with h4
  subst h4
  simp [uC, Gl c c' h1, Bh cs ds' h3]
end
theorem PR {ids : List Nat} : ∀ (es es' : List (AV × AV)), KX (mP ids) es = some es' → KX (backTo ids) es' = some es
 | [], es', h => by simp only [KX] at h; injection h with h; subst h; rfl
 | (k, v) :: es, es', h => by
  simp only [KX] at h
  obtain ⟨k', h1, h2⟩ := Option.bind_eq_some_iff.1 h
  obtain ⟨v', h3, h4⟩ := Option.bind_eq_some_iff.1 h2
  obtain ⟨es'', h5, h6⟩ := Option.bind_eq_some_iff.1 h4
  injection h6 with h6
  subst h6
  simp [KX, Gl k k' h1, Gl v v' h3, PR es es'' h5]
theorem Mx {ids : List Nat} {o o' : AObj} (h : si (mP ids) o = some o') : si (backTo ids) o' = some o := by
 cases o with
 | cells t cs =>
  simp only [si] at h
  obtain ⟨cs', h1, h2⟩ := Option.bind_eq_some_iff.1 h
  injection h2 with h2
  subst h2
  simp [si, Bh _ _ h1]
 | map es =>
  simp only [si] at h
  obtain ⟨es', h1, h2⟩ := Option.bind_eq_some_iff.1 h
  injection h2 with h2
  subst h2
  simp [si, PR _ _ h1]
 | rowS t xs => simp only [si] at h; injection h with h; subst h; rfl
 | rowI t k xs => simp only [si] at h; injection h with h; subst h; rfl
 | rowC n els => simp only [si] at h; injection h with h; subst h; rfl
 | rowN k xs => simp only [si] at h; injection h with h; subst h; rfl
 | mapI es => simp only [si] at h; injection h with h; subst h; rfl
 | loop key cs =>
  simp only [si] at h
  obtain ⟨cs', h1, h2⟩ := Option.bind_eq_some_iff.1 h
  injection h2 with h2
  subst h2
  simp [si, Bh _ _ h1]
 | buf kd t l => simp only [si] at h; injection h with h; subst h; rfl
 | gone => simp only [si] at h; injection h with h; subst h; rfl
mutual
theorem El {f f' : Nat → Option Nat} (hf : ∀ i j, f i = some j → f' i = some j) : ∀ (a a' : AV), Sh.ren f a = some a' → Sh.ren f' a = some a'
 | .ptr (some (id, off)), a', h => by
  simp only [Sh.ren] at h ⊢
  obtain ⟨j, h1, h2⟩ := Option.bind_eq_some_iff.1 h
  rw [hf _ _ h1]; exact h2
 | .agg cs, a', h => by
  simp only [Sh.ren] at h ⊢
  obtain ⟨cs', h1, h2⟩ := Option.bind_eq_some_iff.1 h
  rw [Bi hf cs cs' h1]; exact h2
 | .tuple cs, a', h => by
  simp only [Sh.ren] at h ⊢
  obtain ⟨cs', h1, h2⟩ := Option.bind_eq_some_iff.1 h
  rw [Bi hf cs cs' h1]; exact h2
 | .func fn a b, a', h => by
  simp only [Sh.ren] at h ⊢
  obtain ⟨cs', h1, h2⟩ := Option.bind_eq_some_iff.1 h
  obtain ⟨ds', h3, h4⟩ := Option.bind_eq_some_iff.1 h2
  rw [Bi hf a cs' h1]
  simp only [Option.bind_some]
  rw [Bi hf b ds' h3]; exact h4
 | .iface t x, a', h => by
  simp only [Sh.ren] at h ⊢
  obtain ⟨x', h1, h2⟩ := Option.bind_eq_some_iff.1 h
  rw [El hf x x' h1]; exact h2
 | .mut id off m sz, a', h => by
  simp only [Sh.ren] at h ⊢
  obtain ⟨j, h1, h2⟩ := Option.bind_eq_some_iff.1 h
  rw [hf _ _ h1]; exact h2
 | .mo id m tot sz, a', h => by
  simp only [Sh.ren] at h ⊢
  obtain ⟨j, h1, h2⟩ := Option.bind_eq_some_iff.1 h
  rw [hf _ _ h1]; exact h2
 | .map (some id), a', h => by
  simp only [Sh.ren] at h ⊢
  obtain ⟨j, h1, h2⟩ := Option.bind_eq_some_iff.1 h
  rw [hf _ _ h1]; exact h2
 | .yld id, a', h => by
  simp only [Sh.ren] at h ⊢
  obtain ⟨j, h1, h2⟩ := Option.bind_eq_some_iff.1 h
  rw [hf _ _ h1]; exact h2
 | .undef, a', h | .int .., a', h | .bool .., a', h | .str .., a', h | .ints .., a', h | .strs .., a', h | .sl .., a', h | .eptr .., a', h | .ptr none, a', h | .map none, a', h | .nilFunc, a', h | .nilIface, a', h => by simp only [Sh.ren] at h ⊢; exact h
theorem Bi {f f' : Nat → Option Nat} (hf : ∀ i j, f i = some j → f' i = some j) : ∀ (cs cs' : List AV), uC f cs = some cs' → uC f' cs = some cs'
 | [], cs', h => by simp only [uC] at h ⊢; exact h
 | c :: cs, cs', h => by
  simp only [uC] at h ⊢
  obtain ⟨c', h1, h2⟩ := Option.bind_eq_some_iff.1 h
  obtain ⟨ds', h3, h4⟩ := Option.bind_eq_some_iff.1 h2
  rw [El hf c c' h1]
  simp only [Option.bind_some]
  rw [Bi hf cs ds' h3]; exact h4
end
theorem PT {f f' : Nat → Option Nat} (hf : ∀ i j, f i = some j → f' i = some j) : ∀ (es es' : List (AV × AV)), KX f es = some es' → KX f' es = some es'
 | [], es', h => by simp only [KX] at h ⊢; exact h
 | (k, v) :: es, es', h => by
  simp only [KX] at h ⊢
  obtain ⟨k', h1, h2⟩ := Option.bind_eq_some_iff.1 h
  obtain ⟨v', h3, h4⟩ := Option.bind_eq_some_iff.1 h2
  obtain ⟨es'', h5, h6⟩ := Option.bind_eq_some_iff.1 h4
  rw [El hf k k' h1]
  simp only [Option.bind_some]
  rw [El hf v v' h3]
  simp only [Option.bind_some]
  rw [PT hf es es'' h5]; exact h6
theorem VM {f f' : Nat → Option Nat} (hf : ∀ i j, f i = some j → f' i = some j) {o o' : AObj} (h : si f o = some o') : si f' o = some o' := by
 cases o with
 | cells t cs =>
  simp only [si] at h ⊢
  obtain ⟨cs', h1, h2⟩ := Option.bind_eq_some_iff.1 h
  rw [Bi hf _ _ h1]; exact h2
 | map es =>
  simp only [si] at h ⊢
  obtain ⟨es', h1, h2⟩ := Option.bind_eq_some_iff.1 h
  rw [PT hf _ _ h1]; exact h2
 | rowS t xs => exact h
 | rowI t k xs => exact h
 | rowC n els => exact h
 | rowN k xs => exact h
 | mapI es => exact h
 | loop key cs =>
  simp only [si] at h ⊢
  obtain ⟨cs', h1, h2⟩ := Option.bind_eq_some_iff.1 h
  rw [Bi hf _ _ h1]; exact h2
 | buf kd t l => exact h
 | gone => exact h
theorem GZ {f f' : Nat → Option Nat} (hf : ∀ i j, f i = some j → f' i = some j) : ∀ {os os' : List AObj}, zt f os = some os' → zt f' os = some os'
 | [], os', h => h
 | o :: os, os', h => by
  simp only [zt] at h ⊢
  obtain ⟨o', h1, h2⟩ := Option.bind_eq_some_iff.1 h
  obtain ⟨os'', h3, h4⟩ := Option.bind_eq_some_iff.1 h2
  rw [VM hf h1]
  simp only [Option.bind_some]
  rw [GZ hf h3]; exact h4
theorem Jw {ids : List Nat} {H : List AObj} (i j : Nat) (h : backTo ids i = some j) : sj ids H i = some j := by
 have hl : i < ids.length := (List.getElem?_eq_some_iff.1 h).1
 unfold sj
 have : Nat.blt i ids.length = true := Nat.ble_eq_true_of_le hl
 rw [this]; exact h
theorem PU {ids : List Nat} {H : List AObj} : ∀ {l : List Nat} {hs : List AObj}, cu (mP ids) H l = some hs → ∃ hb, zt (backTo ids) hs = some hb
 | [], hs, h => by simp only [cu] at h; injection h with h; subst h; exact ⟨[], rfl⟩
 | i :: l, hs, h => by
  simp only [cu] at h
  split at h
  ·rename_i o ho
   obtain ⟨o', h1, h2⟩ := Option.bind_eq_some_iff.1 h
   obtain ⟨os, h3, h4⟩ := Option.bind_eq_some_iff.1 h2
   injection h4 with h4
   subst h4
   obtain ⟨hb, h5⟩ := PU h3
   exact ⟨o :: hb, by simp only [zt, Mx h1, Option.bind_some, h5]⟩
  ·cases h
theorem G5 : ∀ {ids : List Nat} {H os : List AObj}, (∀ (p i : Nat) (o : AObj), ids[p]? = some i → os[p]? = some o → H[i]? = some o) → aR H ids os = H
 | [], H, os, _ => by simp [aR]
 | i :: ids, H, [], _ => by simp [aR]
 | i :: ids, H, o :: os, h => by
  have h0 := h 0 i o rfl rfl
  have e : H.set i o = H := by
   apply List.ext_getElem?
   intro k
   by_cases e : i = k
   ·subst e
    rw [List.getElem?_set_self (List.getElem?_eq_some_iff.1 h0).1, h0]
   ·rw [List.getElem?_set_ne e]
  rw [aR, e]
  exact G5 fun p k q hp hq => h (p + 1) k q (by simpa using hp) (by simpa using hq)
theorem Ol {f : Nat → Option Nat} {H os : List AObj} {a : List Nat} : ∀ {b : List Nat}, (∀ i ∈ b, i ∉ a) → cu f (aR H a os) b = cu f H b
 | [], _ => rfl
 | i :: b, h => by
  simp only [cu, jM (h i (by simp)), Ol (b := b) fun j hj => h j (by simp [hj])]
theorem QX {H o1 o2 : List AObj} {a b : List Nat} (ha : a.Nodup) (hb : b.Nodup) (la : o1.length = a.length) (lb : o2.length = b.length) (hla : ∀ i ∈ a, i < H.length) (hlb : ∀ i ∈ b, i < H.length) (h : ∀ i ∈ a, i ∉ b) : aR (aR H a o1) b o2 = aR (aR H b o2) a o1 := by
 apply List.ext_getElem?
 intro k
 by_cases ka : k ∈ a
 ·obtain ⟨p, hp, hpk⟩ := List.mem_iff_getElem.1 ka
  have h1 : o1[p]? = some o1[p] := List.getElem?_eq_getElem (by omega)
  have h2 : a[p]? = some k := by rw [List.getElem?_eq_getElem hp, hpk]
  rw [jM (h k ka), Bf ha h2 h1 (hla k ka), Bf ha h2 h1 (by rw [eY]; exact hla k ka)]
 ·rw [jM (ids := a) ka]
  by_cases kb : k ∈ b
  ·obtain ⟨p, hp, hpk⟩ := List.mem_iff_getElem.1 kb
   have h1 : o2[p]? = some o2[p] := List.getElem?_eq_getElem (by omega)
   have h2 : b[p]? = some k := by rw [List.getElem?_eq_getElem hp, hpk]
   rw [Bf hb h2 h1 (hlb k kb), Bf hb h2 h1 (by rw [eY]; exact hlb k kb)]
  ·rw [jM kb, jM kb, jM ka]
structure It where
 i : Nat
 o : Oper
 d : DOper
 L : St
 L' : St
 B : St
def It.FV (x : It) : Bool := match x.d.ob with | .no => true | _ => false
def It.Em (x : It) : Option (List Nat) := match x.d.ob with
 | .part ids => some ids
 | .peek ids _ => some ids
 | .new _ => some []
 | _ => none
def It.Xt (x : It) : Bool := match x.d.ob with | .all => true | _ => false
structure It.OK (c : Cx) (ops : Array Oper) (x : It) : Prop where
 here : ops[x.i]? = some x.o
 dst : x.d.op.dst = x.o.dst
 sem : QW c ops x.o x.L x.L'
 sub : ∀ t, t ∉ x.d.rd → x.L.get t = .undef
 noH : x.FV = true → x.L.heap = []
 pre : x.FV = true → ∀ t ∈ x.d.rd, below 0 (x.L.get t) = true
 keep : ∀ t, t ∉ x.d.wr → x.L'.get t = x.L.get t
 look : x.FV = false → x.Xt = false → x.L'.heap = x.L.heap ∨ ∃ ids, x.Em = some ids
 fine : x.FV = true → ∀ t ∈ x.d.rd ++ x.d.wr, below 0 (x.L'.get t) = true
 whole : (∀ ids, x.Em ≠ some ids) → x.B = x.L'
 peek : ∀ ids rs, x.d.ob = .peek ids rs → ids.Nodup ∧ (∀ t ∈ x.d.wr, Sh.ren (backTo ids) (x.L'.get t) = some (x.B.get t)) ∧ x.L'.heap = x.L.heap
 new : ∀ n, x.d.ob = .new n → x.L.heap = [] ∧ (∀ t ∈ x.d.wr, Sh.ren (Py n) (x.L'.get t) = some (x.B.get t)) ∧ zt (Py n) x.L'.heap = some x.B.heap
 part : ∀ ids, x.d.ob = .part ids → ids.Nodup ∧ (∀ t ∈ x.d.wr, Sh.ren (backTo ids) (x.L'.get t) = some (x.B.get t)) ∧ zt (backTo ids) x.L'.heap = some x.B.heap ∧ x.L'.heap.length = ids.length ∧ (x.d.op.op.still = true → x.L'.heap = x.L.heap)
def It.hp (x : It) (H : List AObj) : List AObj := match x.d.ob with
 | .all => x.L'.heap
 | .part ids => match x.d.op.op.still with
  | true => H
  | false => aR H ids x.B.heap
 | .new _ => H ++ x.B.heap
 | _ => H
def It.sees (x : It) (H : List AObj) : Prop := match x.d.ob with
 | .no => True
 | .part ids => cu (mP ids) H ids = some x.L.heap
 | .peek ids rs => cu (mP ids) (lm rs 0 H) ids = some x.L.heap
 | .new n => H.length = n
 | _ => x.L.heap = H
def It.ids? (x : It) : Option (List Nat) := x.Em
def It.upd (x : It) (S : St) : St := ⟨(match x.ids? with | some _ => x.d.wr | none => x.d.rd ++ x.d.wr).map (fun t => (t, x.B.get t)) ++ S.slots, x.hp S.heap⟩
def It.fits (x : It) (S : St) : Prop := (∀ t ∈ x.d.rd, match x.ids? with | some ids => Sh.ren (mP ids) (S.get t) = some (x.L.get t) | none => x.L.get t = S.get t) ∧ x.sees S.heap
theorem zx {f : Nat → AV} {l : List (Nat × AV)} {H H' : List AObj} (t : Nat) : ∀ (m : List Nat), (⟨m.map (fun t => (t, f t)) ++ l, H⟩ : St).get t = if t ∈ m then f t else (⟨l, H'⟩ : St).get t
 | [] => by simp; rfl
 | u :: m => by
  rw [List.map_cons, List.cons_append, iO]
  by_cases e : u = t
  ·subst e; simp
  ·rw [if_neg e, zx (H' := H') t m]
   by_cases hm : t ∈ m
   ·simp [hm]
   ·simp [hm, Ne.symm e]
theorem It.vL (x : It) (S : St) : (x.upd S).heap = x.hp S.heap := rfl
theorem RX {x : It} (h : ∀ ids, x.Em ≠ some ids) : x.ids? = none := by
 unfold It.ids?
 cases hx : x.Em with
 | none => rfl
 | some ids => exact absurd hx (h ids)
theorem MB {x : It} {ids : List Nat} (h : x.d.ob = .part ids) : x.Em = some ids := by
 unfold It.Em
 rw [h]
theorem MC {x : It} {ids rs : List Nat} (h : x.d.ob = .peek ids rs) : x.Em = some ids := by
 unfold It.Em
 rw [h]
theorem Om {x : It} {n : Nat} (h : x.d.ob = .new n) : x.Em = some [] := by
 unfold It.Em
 rw [h]
theorem Ca {x : It} {ids : List Nat} (h : x.Em = some ids) : x.ids? = some ids := h
theorem It.OK.zy {ops : Array Oper} {x : It} (hx : x.OK c ops) {S : St} (hf : x.fits S) (t : Nat) : (x.upd S).get t = if t ∈ x.d.wr then x.B.get t else S.get t := by
 cases hi : x.ids? with
 | some ids =>
  have := zx (f := x.B.get) (l := S.slots) (H := x.hp S.heap) (H' := S.heap) t x.d.wr
  unfold It.upd
  rw [hi]
  exact this
 | none =>
  have hn : ∀ ids, x.Em ≠ some ids := fun ids h => by rw [Ca h] at hi; cases hi
  have h1 := zx (f := x.B.get) (l := S.slots) (H := x.hp S.heap) (H' := S.heap) t (x.d.rd ++ x.d.wr)
  have h2 : (x.upd S).get t = if t ∈ x.d.rd ++ x.d.wr then x.B.get t else S.get t := by
   unfold It.upd
   rw [hi]
   exact h1
  rw [h2]
  by_cases hw : t ∈ x.d.wr
  ·simp [hw]
  ·by_cases hr : t ∈ x.d.rd
   ·simp only [List.mem_append, hr, hw, or_false, if_true, if_false]
    have := hf.1 t hr
    rw [hi] at this
    rw [hx.whole hn, hx.keep t hw, this]
   ·simp [hw, hr]
theorem It.OK.step {ops : Array Oper} {x : It} (hx : x.OK c ops) {S : St} (hf : x.fits S) {F : Nat → Prop} {g : Gh} {a : Act} {w : World} (hs : SimX F c.nt g S a w []) (ro : Option Nat) (dn : Nat) (K : Act → World → Prop) (Q : Exit → Act → World → Prop)
 (hK : ∀ v' g' w', g.obj <+: g'.obj → SimX F c.nt g' (x.upd S) (a.put x.o.dst v') w' [] → Step F g w g' w' → K (a.put x.o.dst v') w') : wp1 c ro dn ops x.o a w K Q := by
 have hPg : ∀ t, (⟨x.d.rd.map (fun t => (t, S.get t)) ++ [], S.heap⟩ : St).get t = if t ∈ x.d.rd then S.get t else .undef := fun t => zx (f := S.get) (l := []) (H' := S.heap) t _
 have hMg : ∀ t, (⟨x.d.rd.map (fun t => (t, AV.undef)) ++ S.slots, S.heap⟩ : St).get t = if t ∈ x.d.rd then .undef else S.get t := fun t => zx (f := fun _ => AV.undef) (H' := S.heap) t _
 obtain ⟨p1, p2⟩ := JZ hPg hMg a.tmps.toList 0
 have size : ∀ v', (a.put x.o.dst v').tmps.size = c.nt := fun v' => by
  have := hs.size
  cases x.o.dst <;> simp [Act.put, this]
 have dstne : ∀ t, t ∉ x.d.wr → x.o.dst ≠ some t := fun t hw e => by
  rw [← hx.dst] at e
  exact hw (by unfold DOper.wr; rw [e]; simp)
 have tmpsame : ∀ v' t, t ∉ x.d.wr → (a.put x.o.dst v').tmps.getD t undef = a.tmps.getD t undef := fun v' t hw => by
  have hne := dstne t hw
  cases hd : x.o.dst with
  | none => rfl
  | some u =>
   rw [hd] at hne
   simp only [Act.put, Array.getD_eq_getD_getElem?]
   rw [Array.getElem?_setIfInBounds_ne (fun e => hne (by rw [e]))]
 have slotsBehind : ∀ (v' : Value) (gj : Gh) (w' : World), (∀ t, t ∈ x.d.wr → VR gj w' (x.B.get t) ((a.put x.o.dst v').tmps.getD t undef)) → Ext g w gj w' → ∀ t, VR gj w' ((x.upd S).get t) ((a.put x.o.dst v').tmps.getD t undef) := by
  intro v' gj w' h1 h2 t
  rw [hx.zy hf]
  by_cases hm : t ∈ x.d.wr
  ·rw [if_pos hm]; exact h1 t hm
  ·rw [if_neg hm, tmpsame v' t hm]
   exact VR.ext h2 _ _ (hs.slots t)
 have ownsBehind : ∀ (v' : Value), (∀ t v, (a.put x.o.dst v').tmps.toList[t]? = some v → t ∈ x.d.rd ++ x.d.wr → owns ((x.upd S).get t) v = owns (x.L'.get t) v) →
  (∀ b, oc b (af (x.upd S) 0 (a.put x.o.dst v').tmps.toList) ≤ oc b (af x.L' 0 (a.put x.o.dst v').tmps.toList) + oc b (af ⟨x.d.rd.map (fun t => (t, AV.undef)) ++ S.slots, S.heap⟩ 0 a.tmps.toList)) ∧
  ∀ r, r ∈ af (x.upd S) 0 (a.put x.o.dst v').tmps.toList → r ∈ af x.L' 0 (a.put x.o.dst v').tmps.toList ∨ r ∈ af ⟨x.d.rd.map (fun t => (t, AV.undef)) ++ S.slots, S.heap⟩ 0 a.tmps.toList := by
  intro v' heq
  have hUg : ∀ t, (⟨(x.d.rd ++ x.d.wr).map (fun t => (t, x.L'.get t)) ++ S.slots, S.heap⟩ : St).get t = if t ∈ x.d.rd ++ x.d.wr then x.L'.get t else S.get t := fun t => zx (f := x.L'.get) (H' := S.heap) t _
  have e : af (x.upd S) 0 (a.put x.o.dst v').tmps.toList = af ⟨(x.d.rd ++ x.d.wr).map (fun t => (t, x.L'.get t)) ++ S.slots, S.heap⟩ 0 (a.put x.o.dst v').tmps.toList := by
   refine FE _ 0 fun t v hv => ?_
   rw [Nat.zero_add, hUg]
   by_cases hm : t ∈ x.d.rd ++ x.d.wr
   ·rw [if_pos hm]; exact heq t v hv hm
   ·rw [if_neg hm, hx.zy hf, if_neg (fun h => hm (List.mem_append_right _ h))]
  rw [e]
  refine Ld (ch := x.d.rd ++ x.d.wr) (d := x.o.dst) (fun t => ?_) (fun t ht => ?_) v' a.tmps.toList _ 0 (fun j hj => ?_) ?_
  ·rw [hUg, hMg]
   by_cases hm : t ∈ x.d.rd ++ x.d.wr
   ·rw [if_pos hm, if_pos hm]
   ·rw [if_neg hm, if_neg hm, if_neg (fun h => hm (List.mem_append_left _ h))]
  ·rw [← hx.dst] at ht
   exact List.mem_append_right _ (by unfold DOper.wr; rw [ht]; simp)
  ·cases hd : x.o.dst with
   | none => rfl
   | some u =>
    rw [hd] at hj
    simp only [Act.put, Array.toList_setIfInBounds]
    rw [List.getElem?_set_ne (fun e => hj (by rw [Nat.zero_add, e]))]
  ·cases x.o.dst <;> simp [Act.put]
 by_cases hpart : ∃ ids, x.Em = some ids
 ·obtain ⟨ids, hpid⟩ := hpart
  have hids := Ca hpid
  have hfr : ∀ t ∈ x.d.rd, Sh.ren (mP ids) (S.get t) = some (x.L.get t) := fun t ht => by
   have := hf.1 t ht
   rw [hids] at this
   exact this
  have key : ∀ t u, VR g w (S.get t) u → t ∈ x.d.rd → VR (partOf g ids) w (x.L.get t) u ∧ owns (x.L.get t) u = owns (S.get t) u := fun t u hu ht =>
   VR.ren (g := g) (g1 := partOf g ids) (fun _ => Nat.le_refl _) Oi (oO fun _ => Nat.le_refl _) _ _ u (hfr t ht) hu
  have tmpD : ∀ t v, a.tmps.toList[t]? = some v → a.tmps.getD t undef = v := fun t v hv => by
   have hv' : a.tmps[t]? = some v := by simpa using hv
   rw [Array.getD_eq_getD_getElem?, hv']; rfl
  have eL : af x.L 0 a.tmps.toList = af ⟨x.d.rd.map (fun t => (t, S.get t)) ++ [], S.heap⟩ 0 a.tmps.toList := by
   refine FE _ 0 fun t v hv => ?_
   rw [Nat.zero_add, hPg]
   by_cases h : t ∈ x.d.rd
   ·rw [if_pos h]
    have := hs.slots t
    rw [tmpD t v hv] at this
    exact (key t v this h).2
   ·rw [if_neg h, hx.sub t h]
  have hcore : Core F g S.heap (af x.L 0 a.tmps.toList ++ af ⟨x.d.rd.map (fun t => (t, AV.undef)) ++ S.slots, S.heap⟩ 0 a.tmps.toList) w :=
   hs.core.weaken (fun r hr => by
    rw [List.nil_append]
    rw [eL] at hr
    exact (p2 r).2 (List.mem_append.1 hr)) (fun b => by have := p1 b; rw [eL]; simp only [ax, nO, List.nil_append]; omega)
  have slotsL : ∀ t, VR (partOf g ids) w (x.L.get t) (a.tmps.getD t undef) := fun t => by
   by_cases h : t ∈ x.d.rd
   ·exact (key t _ (hs.slots t) h).1
   ·rw [hx.sub t h]; simp only [VR]
  have ob2 : ∀ (v' : Value) (g' gj : Gh) (w' : World), (∀ t, t ∈ x.d.wr → ∀ u, VR g' w' (x.L'.get t) u → VR gj w' (x.B.get t) u ∧ owns (x.B.get t) u = owns (x.L'.get t) u) → (∀ t, VR g' w' (x.L'.get t) ((a.put x.o.dst v').tmps.getD t undef)) →
   (∀ b, oc b (af (x.upd S) 0 (a.put x.o.dst v').tmps.toList) ≤ oc b (af x.L' 0 (a.put x.o.dst v').tmps.toList) + oc b (af ⟨x.d.rd.map (fun t => (t, AV.undef)) ++ S.slots, S.heap⟩ 0 a.tmps.toList)) ∧
   ∀ r, r ∈ af (x.upd S) 0 (a.put x.o.dst v').tmps.toList → r ∈ af x.L' 0 (a.put x.o.dst v').tmps.toList ∨ r ∈ af ⟨x.d.rd.map (fun t => (t, AV.undef)) ++ S.slots, S.heap⟩ 0 a.tmps.toList := fun v' g' gj w' back hsl => ownsBehind v' fun t v hv hm => by
   have hvD : (a.put x.o.dst v').tmps.getD t undef = v := by
    have hv' : (a.put x.o.dst v').tmps[t]? = some v := by simpa using hv
    rw [Array.getD_eq_getD_getElem?, hv']; rfl
   rw [hx.zy hf]
   by_cases hw : t ∈ x.d.wr
   ·rw [if_pos hw]
    have := hsl t
    rw [hvD] at this
    exact (back t hw v this).2
   ·rw [if_neg hw]
    have hr : t ∈ x.d.rd := (List.mem_append.1 hm).resolve_right hw
    rw [hx.keep t hw]
    have := hs.slots t
    rw [← tmpsame v' t hw, hvD] at this
    exact (key t v this hr).2.symm
  have weak : ∀ {os' : List Rec} {g' : Gh} {H' : List AObj} {w' : World} (v' : Value), Core F g' H' (os' ++ af ⟨x.d.rd.map (fun t => (t, AV.undef)) ++ S.slots, S.heap⟩ 0 a.tmps.toList) w' → os' = af x.L' 0 (a.put x.o.dst v').tmps.toList →
   ((∀ b, oc b (af (x.upd S) 0 (a.put x.o.dst v').tmps.toList) ≤ oc b (af x.L' 0 (a.put x.o.dst v').tmps.toList) + oc b (af ⟨x.d.rd.map (fun t => (t, AV.undef)) ++ S.slots, S.heap⟩ 0 a.tmps.toList)) ∧
   ∀ r, r ∈ af (x.upd S) 0 (a.put x.o.dst v').tmps.toList → r ∈ af x.L' 0 (a.put x.o.dst v').tmps.toList ∨ r ∈ af ⟨x.d.rd.map (fun t => (t, AV.undef)) ++ S.slots, S.heap⟩ 0 a.tmps.toList) →
   Core F g' H' ([] ++ af (x.upd S) 0 (a.put x.o.dst v').tmps.toList) w' := fun v' j1 e ⟨o1, o2⟩ => by
   subst e
   exact j1.weaken (fun r hr => by
    rw [List.nil_append] at hr
    exact List.mem_append.2 (o2 r hr)) (fun b => by have := o1 b; simp only [ax, List.nil_append]; omega)
  cases hob : x.d.ob with
  | no => rw [It.Em, hob] at hpid; cases hpid
  | look => rw [It.Em, hob] at hpid; cases hpid
  | all => rw [It.Em, hob] at hpid; cases hpid
  | part ids' =>
   rw [MB hob] at hpid
   injection hpid with hpid
   subst hpid
   obtain ⟨q1, q2, q3, q4, q5⟩ := hx.part ids' hob
   have hpick : cu (mP ids') S.heap ids' = some x.L.heap := by
    have := hf.2
    unfold It.sees at this
    rw [hob] at this
    exact this
   have hl := Ju hpick
   have hsplit := hcore.split q1 hl hpick
   have hsimL : SimX (Held F g S.heap ids' (af ⟨x.d.rd.map (fun t => (t, AV.undef)) ++ S.slots, S.heap⟩ 0 a.tmps.toList) w) c.nt (partOf g ids') x.L a w [] := ⟨hs.size, slotsL, by rw [List.nil_append]; exact hsplit⟩
   refine hx.sem _ _ a w (partOf g ids').obj rfl (List.prefix_refl _) hsimL ro dn K Q ?_
   intro v' g' w' hp' hs' hst
   have hc1 := hs'.core
   rw [List.nil_append] at hc1
   have hr3 : zt (sj ids' S.heap) x.L'.heap = some x.B.heap := GZ (fun i j h => Jw i j h) q3
   obtain ⟨j1, j2, j3, j4⟩ := hcore.join q1 hl hc1 hst hp' hr3
   have hBl : x.B.heap.length = ids'.length := by rw [(vI q3).1, q4]
   have e1 : x.B.heap.drop ids'.length = [] := by rw [← hBl]; exact List.drop_length
   have e2 : xW (aR S.heap ids' x.B.heap) (x.B.heap.drop ids'.length) = (x.upd S).heap := by
    rw [e1, x.vL]
    unfold It.hp
    rw [hob]
    simp only [xW]
    cases hst : x.d.op.op.still with
    | false => rfl
    | true =>
     refine G5 fun p i o hp ho => ?_
     obtain ⟨o1, o2, k1, k2, k3⟩ := (iP hpick).2 p i hp
     rw [q5 hst] at q3
     obtain ⟨o3, k4, k5⟩ := (vI q3).2 p o2 k2
     rw [ho] at k4
     injection k4 with k4
     subst k4
     rw [Mx k3] at k5
     injection k5 with k5
     rw [← k5]; exact k1
   rw [e2] at j1
   have back : ∀ t, t ∈ x.d.wr → ∀ u, VR g' w' (x.L'.get t) u → VR (cB g g' ids') w' (x.B.get t) u ∧ owns (x.B.get t) u = owns (x.L'.get t) u := fun t ht u hu => j4 _ _ u (El (fun i j h => Jw i j h) _ _ (q2 t ht)) hu
   exact hK v' (cB g g' ids') w' (by simp [cB]) ⟨size v', slotsBehind v' (cB g g' ids') w' (fun t ht => (back t ht _ (hs'.slots t)).1) j3, weak v' j1 rfl (ob2 v' g' _ w' back hs'.slots)⟩ j2
  | peek ids' rs =>
   rw [MC hob] at hpid
   injection hpid with hpid
   subst hpid
   obtain ⟨q1, q2, q5⟩ := hx.peek ids' rs hob
   have hpick : cu (mP ids') (lm rs 0 S.heap) ids' = some x.L.heap := by
    have := hf.2
    unfold It.sees at this
    rw [hob] at this
    exact this
   have hl := Ju hpick
   have hhide := hcore.hide rs
   rw [show af x.L 0 a.tmps.toList = af x.L 0 a.tmps.toList ++ [] by simp] at hhide
   have hsplit := hhide.split q1 hl hpick
   have hsimL : SimX (Held (Held F g S.heap rs (af ⟨x.d.rd.map (fun t => (t, AV.undef)) ++ S.slots, S.heap⟩ 0 a.tmps.toList) w) g (lm rs 0 S.heap) ids' [] w) c.nt (partOf g ids') x.L a w [] := ⟨hs.size, slotsL, by rw [List.nil_append]; exact hsplit⟩
   refine hx.sem _ _ a w (partOf g ids').obj rfl (List.prefix_refl _) hsimL ro dn K Q ?_
   intro v' g' w' hp' hs' hst
   have hc1 := hs'.core
   rw [List.nil_append] at hc1
   have hLl := (iP hpick).1
   obtain ⟨hsB, q3⟩ : ∃ hsB, zt (backTo ids') x.L'.heap = some hsB := by
    rw [q5]
    exact PU hpick
   have hr3 : zt (sj ids' (lm rs 0 S.heap)) x.L'.heap = some hsB := GZ (fun i j h => Jw i j h) q3
   obtain ⟨j1, j2, j3, j4⟩ := hhide.join q1 hl hc1 hst hp' hr3
   have hBl : hsB.length = ids'.length := by rw [(vI q3).1, q5, hLl]
   have e1 : hsB.drop ids'.length = [] := by rw [← hBl]; exact List.drop_length
   have e2 : xW (aR (lm rs 0 S.heap) ids' hsB) (hsB.drop ids'.length) = lm rs 0 S.heap := by
    rw [e1]
    simp only [xW]
    refine G5 fun p i o hp ho => ?_
    obtain ⟨o1, o2, k1, k2, k3⟩ := (iP hpick).2 p i hp
    rw [q5] at q3
    obtain ⟨o3, k4, k5⟩ := (vI q3).2 p o2 k2
    rw [ho] at k4
    injection k4 with k4
    subst k4
    rw [Mx k3] at k5
    injection k5 with k5
    rw [← k5]; exact k1
   rw [e2, List.append_nil] at j1
   have hobj : (cB g g' ids').obj = g.obj := by
    have h1 := hc1.heap.length
    rw [q5, hLl] at h1
    have : g'.obj.drop ids'.length = [] := by rw [h1]; exact List.drop_length
    simp [cB, this]
   have j5 := hcore.aai j1 j2 hobj
   have back : ∀ t, t ∈ x.d.wr → ∀ u, VR g' w' (x.L'.get t) u → VR (cB g g' ids') w' (x.B.get t) u ∧ owns (x.B.get t) u = owns (x.L'.get t) u := fun t ht u hu => j4 _ _ u (El (fun i j h => Jw i j h) _ _ (q2 t ht)) hu
   have e3 : (x.upd S).heap = S.heap := by
    rw [x.vL]
    unfold It.hp
    rw [hob]
   refine hK v' (cB g g' ids') w' (by simp [cB]) ⟨size v', slotsBehind v' (cB g g' ids') w' (fun t ht => (back t ht _ (hs'.slots t)).1) j3, ?_⟩ (j2.weaken fun b hb => .inl hb)
   rw [e3]
   exact weak v' j5 rfl (ob2 v' g' _ w' back hs'.slots)
  | new n =>
   rw [Om hob] at hpid
   injection hpid with hpid
   subst hpid
   obtain ⟨q1, q2, q3⟩ := hx.new n hob
   have hn : S.heap.length = n := by
    have := hf.2
    unfold It.sees at this
    rw [hob] at this
    exact this
   have hsplit := hcore.split (ids := []) (hs := []) List.nodup_nil (by simp) rfl
   have hsimL : SimX (Held F g S.heap [] (af ⟨x.d.rd.map (fun t => (t, AV.undef)) ++ S.slots, S.heap⟩ 0 a.tmps.toList) w) c.nt (partOf g []) x.L a w [] := ⟨hs.size, slotsL, by rw [List.nil_append, q1]; exact hsplit⟩
   refine hx.sem _ _ a w (partOf g []).obj rfl (List.prefix_refl _) hsimL ro dn K Q ?_
   intro v' g' w' hp' hs' hst
   have hc1 := hs'.core
   rw [List.nil_append] at hc1
   have hbk : ∀ i j, Py n i = some j → sj [] S.heap i = some j := fun i j h => by
    unfold Py at h
    injection h with h
    subst h
    simp only [sj, hn, List.length_nil, Nat.sub_zero]
    rfl
   have hr3 : zt (sj [] S.heap) x.L'.heap = some x.B.heap := GZ hbk q3
   obtain ⟨j1, j2, j3, j4⟩ := hcore.join (ids := []) List.nodup_nil (by simp) hc1 hst hp' hr3
   have e2 : xW (aR S.heap [] x.B.heap) (x.B.heap.drop ([] : List Nat).length) = (x.upd S).heap := by
    rw [x.vL]
    unfold It.hp
    rw [hob, Oc]
    simp [aR]
   rw [e2] at j1
   have back : ∀ t, t ∈ x.d.wr → ∀ u, VR g' w' (x.L'.get t) u → VR (cB g g' []) w' (x.B.get t) u ∧ owns (x.B.get t) u = owns (x.L'.get t) u := fun t ht u hu => j4 _ _ u (El hbk _ _ (q2 t ht)) hu
   exact hK v' (cB g g' []) w' (by simp [cB]) ⟨size v', slotsBehind v' (cB g g' []) w' (fun t ht => (back t ht _ (hs'.slots t)).1) j3, weak v' j1 rfl (ob2 v' g' _ w' back hs'.slots)⟩ j2
 ·have hnp : ∀ ids, x.Em ≠ some ids := fun ids h => hpart ⟨ids, h⟩
  have hnp1 : ∀ ids, x.d.ob ≠ .part ids := fun ids h => hnp ids (MB h)
  have hnp2 : ∀ ids rs, x.d.ob ≠ .peek ids rs := fun ids rs h => hnp ids (MC h)
  have hnp3 : ∀ n, x.d.ob ≠ .new n := fun n h => hnp [] (Om h)
  have hB := hx.whole hnp
  have hidn := RX hnp
  have hfl : ∀ t ∈ x.d.rd, x.L.get t = S.get t := fun t ht => by
   have := hf.1 t ht
   rw [hidn] at this
   exact this
  have hLg : ∀ t, x.L.get t = if t ∈ x.d.rd then S.get t else .undef := fun t => by
   by_cases h : t ∈ x.d.rd
   ·rw [if_pos h]; exact hfl t h
   ·rw [if_neg h]; exact hx.sub t h
  have eL : af x.L 0 a.tmps.toList = af ⟨x.d.rd.map (fun t => (t, S.get t)) ++ [], S.heap⟩ 0 a.tmps.toList := vH _ 0 fun t _ => by rw [hLg, hPg]
  have hcore : Core F g S.heap (af x.L 0 a.tmps.toList ++ af ⟨x.d.rd.map (fun t => (t, AV.undef)) ++ S.slots, S.heap⟩ 0 a.tmps.toList) w :=
   hs.core.weaken (fun r hr => by
    rw [List.nil_append]
    rw [eL] at hr
    exact (p2 r).2 (List.mem_append.1 hr)) (fun b => by have := p1 b; rw [eL]; simp only [ax, nO, List.nil_append]; omega)
  have hsameL : ∀ (v' : Value) (t : Nat) (v : Value), (a.put x.o.dst v').tmps.toList[t]? = some v → t ∈ x.d.rd ++ x.d.wr → owns ((x.upd S).get t) v = owns (x.L'.get t) v := fun v' t v _ hm => by
   rw [hx.zy hf]
   by_cases hw : t ∈ x.d.wr
   ·rw [if_pos hw, hB]
   ·rw [if_neg hw, hx.keep t hw, hfl t ((List.mem_append.1 hm).resolve_right hw)]
  cases hno : x.FV with
  | true =>
   have hob : x.d.ob = .no := by
    unfold It.FV at hno
    cases h : x.d.ob <;> rw [h] at hno <;> simp at hno ⊢
   have hsplit := hcore.split (ids := []) (hs := []) List.nodup_nil (by simp) rfl
   have zeroRen : ∀ (g1 g2 : Gh) (w : World), (∀ b, g1.len b ≤ g2.len b) → ∀ (v : AV) (u : Value), below 0 v = true → VR g1 w v u → VR g2 w v u := by
    intro g1 g2 w hl v u hb hv
    exact (VR.ren (g := g1) (g1 := g2) (f := fun i => if i < 0 then some i else none) hl (fun i j b h _ => by simp at h) (oO hl) _ _ u (Mv 0 v hb) hv).1
   have hsimL : SimX (Held F g S.heap [] (af ⟨x.d.rd.map (fun t => (t, AV.undef)) ++ S.slots, S.heap⟩ 0 a.tmps.toList) w) c.nt (partOf g []) x.L a w [] := by
    refine ⟨hs.size, fun t => ?_, by rw [hx.noH hno]; exact hsplit⟩
    by_cases h : t ∈ x.d.rd
    ·have h1 := hs.slots t
     rw [← hfl t h] at h1
     exact zeroRen g (partOf g []) w (fun _ => Nat.le_refl _) _ _ (hx.pre hno t h) h1
    ·rw [hx.sub t h]; simp only [VR]
   refine hx.sem _ _ a w (partOf g []).obj rfl (List.prefix_refl _) hsimL ro dn K Q ?_
   intro v' g' w' hp' hs' hst
   have hc1 := (hs'.core.gc (ids := []) (hs := []) List.nodup_nil rfl)
   simp only [List.take_zero, List.nil_append] at hc1
   obtain ⟨j1, j2, j3, j4⟩ := hcore.join (ids := []) (g1 := partOf g' []) (hs' := []) (hs'' := []) List.nodup_nil (by simp) hc1 ⟨hst.cell, hst.ty, hst.bsz, hst.len, hst.frame, hst.size, hst.os, hst.tape, hst.output⟩ (by simp [partOf]) rfl
   obtain ⟨o1, o2⟩ := ownsBehind v' (hsameL v')
   refine hK v' (cB g (partOf g' []) []) w' (by simp [cB, partOf]) ⟨size v', slotsBehind v' (cB g (partOf g' []) []) w' (fun t ht => by
    rw [hB]
    exact zeroRen g' (cB g (partOf g' []) []) w' (fun _ => Nat.le_refl _) _ _ (hx.fine hno t (List.mem_append_right _ ht)) (hs'.slots t)) j3, ?_⟩ j2
   have eh : (x.upd S).heap = S.heap := by
    rw [x.vL]
    unfold It.hp
    rw [hob]
   rw [eh]
   have e : xW (aR S.heap [] []) (([] : List AObj).drop ([] : List Nat).length) = S.heap := by simp [xW, aR]
   rw [e] at j1
   exact j1.weaken (fun r hr => by
    rw [List.nil_append] at hr
    exact List.mem_append.2 (o2 r hr)) (fun b => by have := o1 b; simp only [ax, List.nil_append]; omega)
  | false =>
   have hLh : x.L.heap = S.heap := by
    have := hf.2
    unfold It.sees at this
    unfold It.FV at hno
    cases h : x.d.ob with
    | no => rw [h] at hno; simp at hno
    | part ids => exact absurd h (hnp1 ids)
    | peek ids rs => exact absurd h (hnp2 ids rs)
    | new n => exact absurd h (hnp3 n)
    | _ => rw [h] at this; exact this
   have hsimL : SimX (fun b => F b ∨ 0 < oc b (af ⟨x.d.rd.map (fun t => (t, AV.undef)) ++ S.slots, S.heap⟩ 0 a.tmps.toList)) c.nt g x.L a w [] := by
    refine ⟨hs.size, fun t => ?_, by rw [hLh]; exact hcore.Xq⟩
    rw [hLg t]
    by_cases h : t ∈ x.d.rd
    ·rw [if_pos h]; exact hs.slots t
    ·rw [if_neg h]; simp only [VR]
   refine hx.sem _ _ a w g.obj rfl (List.prefix_refl _) hsimL ro dn K Q ?_
   intro v' g' w' hp' hs' hst
   have hc1 := hs'.core
   simp only [List.nil_append] at hc1
   have j1 := hcore.Xr hc1 hst
   have j3 : Ext g w g' w' := hst.aaN (fun i b hb => by
    obtain ⟨t, ht⟩ := hp'
    rw [← ht, List.getElem?_append_left (List.getElem?_eq_some_iff.1 hb).1]
    exact hb)
   obtain ⟨o1, o2⟩ := ownsBehind v' (hsameL v')
   refine hK v' g' w' hp' ⟨size v', slotsBehind v' _ w' (fun t _ => by rw [hB]; exact hs'.slots t) j3, ?_⟩ (hst.weaken fun b hb => .inl hb)
   have e : (x.upd S).heap = x.L'.heap := by
    rw [x.vL]
    unfold It.hp
    cases h : x.d.ob with
    | all => rfl
    | part ids => exact absurd h (hnp1 ids)
    | no => unfold It.FV at hno; rw [h] at hno; simp at hno
    | peek ids rs => exact absurd h (hnp2 ids rs)
    | new n => exact absurd h (hnp3 n)
    | look =>
     have := hx.look hno (by unfold It.Xt; rw [h])
     rcases this with h' | ⟨ids, h'⟩
     ·simp only [h', hLh]
     ·exact absurd h' (hnp ids)
   rw [e]
   exact j1.weaken (fun r hr => by
    rw [List.nil_append] at hr
    exact List.mem_append.2 (o2 r hr)) (fun b => by have := o1 b; simp only [ax, List.nil_append]; omega)
def DRun : List It → St → St → Prop
 | [], S, S' => (∀ t, S.get t = S'.get t) ∧ S.heap = S'.heap
 | x :: l, S, S' => x.fits S ∧ DRun l (x.upd S) S'
theorem TR {x : It} {S T : St} (h1 : ∀ t, S.get t = T.get t) (h2 : S.heap = T.heap) (h : x.fits S) : x.fits T := by
 refine ⟨fun t ht => ?_, h2 ▸ h.2⟩
 have := h.1 t ht
 rw [← h1 t]
 exact this
theorem Gm (x : It) (S : St) (t : Nat) : (x.upd S).get t = if t ∈ (match x.ids? with | some _ => x.d.wr | none => x.d.rd ++ x.d.wr) then x.B.get t else S.get t := zx (f := x.B.get) (l := S.slots) (H := x.hp S.heap) (H' := S.heap) t _
theorem DRun.congr : ∀ {l : List It} {S T S' : St}, (∀ t, S.get t = T.get t) → S.heap = T.heap → DRun l S S' → DRun l T S'
 | [], S, T, S', h1, h2, h => ⟨fun t => (h1 t).symm.trans (h.1 t), h2.symm.trans h.2⟩
 | x :: l, S, T, S', h1, h2, h => ⟨TR h1 h2 h.1, DRun.congr (S := x.upd S) (fun t => by rw [Gm, Gm, h1 t]) (by rw [x.vL, x.vL, h2]) h.2⟩
def dis (l m : List Nat) : Bool := l.all fun t => !m.contains t
theorem Cb {l m : List Nat} (h : dis l m = true) : ∀ t ∈ l, t ∉ m := fun t ht hm => by
 have := List.all_eq_true.1 h t ht
 simp [hm] at this
def ltB (n : Nat) (b : List Nat) : Bool := b.all fun i => Nat.blt i n
theorem Lf {n : Nat} {b : List Nat} (h : ltB n b = true) : ∀ i ∈ b, i < n := fun i hi => by
 have := List.all_eq_true.1 h i hi
 exact Nat.le_of_ble_eq_true this
def Za (x y : DOper) : Bool := match x.ob, y.ob with
 | .no, _ => true
 | _, .no => true
 | .look, .look => true
 | .part _, .look => x.op.op.still
 | .look, .part _ => y.op.op.still
 | .peek .., .peek .. => true
 | .peek .., .look => true
 | .look, .peek .. => true
 | .peek _ r, .part b => y.op.op.still || dis b r
 | .part a, .peek _ r => x.op.op.still || dis a r
 | .new n, .peek b _ => ltB n b
 | .peek b _, .new n => ltB n b
 | .new n, .part b => ltB n b
 | .part b, .new n => ltB n b
 | .part a, .part b => (x.op.op.still && y.op.op.still) || (dis a b && dis b a)
 | _, _ => false
structure Apart (x y : It) : Prop where
 xy : ∀ t, t ∈ x.d.wr → t ∉ y.d.rd ∧ t ∉ y.d.wr
 yx : ∀ t, t ∈ y.d.wr → t ∉ x.d.rd ∧ t ∉ x.d.wr
 far : Za x.d y.d = true
theorem PV {rs b : List Nat} {H os : List AObj} (h : ∀ i ∈ b, i ∉ rs) : lm rs 0 (aR H b os) = lm rs 0 H := by
 apply List.ext_getElem?
 intro i
 rw [Gj, Gj, Nat.zero_add]
 cases hc : rs.contains i with
 | true => rw [jM (fun hb => h i hb (by simpa using hc))]
 | false =>
  simp only [cond_false]
  rcases Nat.lt_or_ge i H.length with hl | hl
  ·rw [List.getElem?_eq_getElem hl, List.getElem?_eq_getElem (by rw [eY]; exact hl)]; rfl
  ·rw [List.getElem?_eq_none hl, List.getElem?_eq_none (by rw [eY]; exact hl)]
theorem RY (rs : List Nat) : ∀ (H T : List AObj) (k : Nat), lm rs k (H ++ T) = lm rs k H ++ lm rs (k + H.length) T
 | [], T, k => by simp [lm]
 | o :: H, T, k => by
  simp only [List.cons_append, lm, RY rs H T (k + 1), List.length_cons]
  rw [show k + 1 + H.length = k + (H.length + 1) by omega]
theorem Lg {f : Nat → Option Nat} {H T : List AObj} : ∀ {b : List Nat}, (∀ i ∈ b, i < H.length) → cu f (H ++ T) b = cu f H b
 | [], _ => rfl
 | i :: b, h => by
  simp only [cu, List.getElem?_append_left (h i (by simp)), Lg (b := b) fun j hj => h j (by simp [hj])]
theorem IL {T : List AObj} : ∀ {b : List Nat} {H os : List AObj}, (∀ i ∈ b, i < H.length) → aR (H ++ T) b os = aR H b os ++ T
 | [], H, os, _ => by simp [aR]
 | i :: b, H, [], _ => by simp [aR]
 | i :: b, H, o :: os, h => by
  rw [aR, aR, List.set_append_left _ _ (h i (by simp)), IL fun j hj => by rw [List.length_set]; exact h j (by simp [hj])]
theorem J2 {f : Nat → Option Nat} {rs : List Nat} {H T : List AObj} {b : List Nat} (h : ∀ i ∈ b, i < H.length) : cu f (lm rs 0 (H ++ T)) b = cu f (lm rs 0 H) b := by
 rw [RY, Lg (by rw [yJ]; exact h)]
theorem Xu {ops : Array Oper} {x y : It} (hx : x.OK c ops) (hy : y.OK c ops) (h : Za x.d y.d = true) {H : List AObj} (h1 : x.sees H) (h2 : y.sees (x.hp H)) : y.sees H ∧ x.sees (y.hp H) ∧ y.hp (x.hp H) = x.hp (y.hp H) := by
 unfold Za at h
 have px := hx.part
 have py := hy.part
 unfold It.sees It.hp at *
 cases ex : x.d.ob with
 | no => rw [ex] at h1 h2; exact ⟨h2, trivial, rfl⟩
 | all => rw [ex] at h h1 h2; cases ey : y.d.ob <;> rw [ey] at h h2 <;> first | (exact ⟨trivial, h1, rfl⟩) | (simp at h)
 | look =>
  rw [ex] at h h1 h2
  cases ey : y.d.ob with
  | no => exact ⟨trivial, h1, rfl⟩
  | all => rw [ey] at h; simp at h
  | new n => rw [ey] at h; simp at h
  | look => rw [ey] at h2; exact ⟨h2, h1, rfl⟩
  | peek b rb => rw [ey] at h2; exact ⟨h2, h1, rfl⟩
  | part b =>
   rw [ey] at h h2
   simp only at h h2 h1 ⊢
   simp only [h]
   exact ⟨h2, h1, trivial⟩
 | peek a ra =>
  rw [ex] at h h1 h2
  cases ey : y.d.ob with
  | no => exact ⟨trivial, h1, rfl⟩
  | all => rw [ey] at h; simp at h
  | look => rw [ey] at h2; exact ⟨h2, h1, rfl⟩
  | peek b rb => rw [ey] at h2; exact ⟨h2, h1, rfl⟩
  | part b =>
   rw [ey] at h h2
   simp only at h h2 h1 ⊢
   refine ⟨h2, ?_, trivial⟩
   cases hs2 : y.d.op.op.still with
   | true => exact h1
   | false =>
    rw [hs2, Bool.false_or] at h
    simp only
    rw [PV (Cb h)]
    exact h1
  | new n =>
   rw [ey] at h h2
   simp only at h h2 h1 ⊢
   exact ⟨h2, by rw [J2 (by rw [h2]; exact Lf h)]; exact h1, trivial⟩
 | new n =>
  rw [ex] at h h1 h2
  cases ey : y.d.ob with
  | no => exact ⟨trivial, h1, rfl⟩
  | all => rw [ey] at h; simp at h
  | look => rw [ey] at h; simp at h
  | new m => rw [ey] at h; simp at h
  | peek b rb =>
   rw [ey] at h h2
   simp only at h h2 h1 ⊢
   rw [J2 (by rw [h1]; exact Lf h)] at h2
   exact ⟨h2, h1, trivial⟩
  | part b =>
   rw [ey] at h h2
   simp only at h h2 h1 ⊢
   have hb : ∀ i ∈ b, i < H.length := by rw [h1]; exact Lf h
   rw [Lg hb] at h2
   refine ⟨h2, ?_, ?_⟩
   ·cases y.d.op.op.still with
    | true => exact h1
    | false => simp only; rw [eY]; exact h1
   ·cases y.d.op.op.still with
    | true => rfl
    | false => simp only; exact IL hb
 | part a =>
  rw [ex] at h h1 h2
  obtain ⟨a1, a2, a3, a4, a5⟩ := px a ex
  cases ey : y.d.ob with
  | no => exact ⟨trivial, h1, rfl⟩
  | all => rw [ey] at h; simp at h
  | look =>
   rw [ey] at h h2
   simp only [h] at h2 h1 ⊢
   exact ⟨h2, h1, trivial⟩
  | new n =>
   rw [ey] at h h2
   simp only at h h2 h1 ⊢
   have hn : H.length = n := by
    cases hs1 : x.d.op.op.still with
    | true => rw [hs1] at h2; exact h2
    | false => rw [hs1] at h2; simp only at h2; rw [eY] at h2; exact h2
   have hb : ∀ i ∈ a, i < H.length := by rw [hn]; exact Lf h
   refine ⟨hn, by rw [Lg hb]; exact h1, ?_⟩
   cases x.d.op.op.still with
   | true => rfl
   | false => simp only; exact (IL hb).symm
  | peek b rb =>
   rw [ey] at h h2
   simp only at h h2 h1 ⊢
   refine ⟨?_, h1, trivial⟩
   cases hs1 : x.d.op.op.still with
   | true => rw [hs1] at h2; exact h2
   | false =>
    rw [hs1, Bool.false_or] at h
    rw [hs1] at h2
    simp only at h2
    rw [PV (Cb h)] at h2
    exact h2
  | part b =>
   rw [ey] at h h2
   obtain ⟨b1, b2, b3, b4, b5⟩ := py b ey
   simp only at h h2 h1 ⊢
   simp only [Bool.or_eq_true, Bool.and_eq_true] at h
   rcases h with ⟨hs1, hs2⟩ | ⟨hd1, hd2⟩
   ·rw [hs1] at h2 ⊢
    rw [hs2]
    exact ⟨h2, h1, rfl⟩
   ·have d1 := Cb hd1
    have d2 := Cb hd2
    have la : x.B.heap.length = a.length := by rw [(vI a3).1, a4]
    have lb : y.B.heap.length = b.length := by rw [(vI b3).1, b4]
    have h2' : cu (mP b) H b = some y.L.heap := by
     cases hs1 : x.d.op.op.still with
     | true => rw [hs1] at h2; exact h2
     | false => rw [hs1] at h2; simp only at h2; rw [Ol d2] at h2; exact h2
    refine ⟨h2', ?_, ?_⟩
    ·cases hs2 : y.d.op.op.still with
     | true => exact h1
     | false => simp only; rw [Ol d1]; exact h1
    ·cases hs1 : x.d.op.op.still <;> cases hs2 : y.d.op.op.still <;> simp only
     exact QX a1 b1 la lb (Ju h1) (Ju h2') d1
theorem PW {ops : Array Oper} {x y : It} (hx : x.OK c ops) {S : St} (hf : x.fits S) (h : ∀ t, t ∈ x.d.wr → t ∉ y.d.rd) (hh : y.sees S.heap ↔ y.sees (x.upd S).heap) : y.fits S ↔ y.fits (x.upd S) := by
 have e : ∀ t ∈ y.d.rd, (x.upd S).get t = S.get t := fun t ht => by rw [hx.zy hf, if_neg (fun hw => h t hw ht)]
 constructor
 ·rintro ⟨h1, h2⟩
  exact ⟨fun t ht => by rw [e t ht]; exact h1 t ht, hh.1 h2⟩
 ·rintro ⟨h1, h2⟩
  exact ⟨fun t ht => by have := h1 t ht; rw [e t ht] at this; exact this, hh.2 h2⟩
theorem swap {ops : Array Oper} {x y : It} {l : List It} {S S' : St} (hx : x.OK c ops) (hy : y.OK c ops) (ha : Apart x y) (h : DRun (x :: y :: l) S S') : DRun (y :: x :: l) S S' := by
 obtain ⟨h1, h2, h3⟩ := h
 obtain ⟨k1, k2, k3⟩ := Xu hx hy ha.far h1.2 h2.2
 have hfy : y.fits S := (PW hx h1 (fun t ht => (ha.xy t ht).1) ⟨fun _ => h2.2, fun _ => k1⟩).2 h2
 have hfx : x.fits (y.upd S) := (PW hy hfy (fun t ht => (ha.yx t ht).1) ⟨fun _ => k2, fun _ => h1.2⟩).1 h1
 refine ⟨hfy, hfx, DRun.congr (S := y.upd (x.upd S)) (fun t => ?_) k3 h3⟩
 rw [hy.zy h2, hx.zy h1, hx.zy hfx, hy.zy hfy]
 by_cases e1 : t ∈ y.d.wr
 ·rw [if_pos e1, if_neg (fun e2 => (ha.xy t e2).2 e1), if_pos e1]
 ·rw [if_neg e1]
  by_cases e2 : t ∈ x.d.wr
  ·rw [if_pos e2, if_pos e2]
  ·rw [if_neg e2, if_neg e2, if_neg e1]
theorem bubble {ops : Array Oper} {y : It} (hy : y.OK c ops) {B : List It} {S' : St} : ∀ {A : List It} {S : St}, (∀ x ∈ A, x.OK c ops ∧ Apart x y) → DRun (A ++ y :: B) S S' → DRun (y :: (A ++ B)) S S'
 | [], S, _, h => h
 | x :: A, S, hA, h => by
  have h1 : DRun (x :: y :: (A ++ B)) S S' := ⟨h.1, bubble hy (fun z hz => hA z (by simp [hz])) h.2⟩
  obtain ⟨h2, h3⟩ := hA x (by simp)
  exact swap h2 hy h3 h1
inductive Waits (T : List It) : It → It → Prop where
 | edge {x y : It} (h : ∃ e ∈ y.o.after, Region.binds .any e = true ∧ e.on = x.i) : Waits T x y
 | step {x z y : It} (hz : z ∈ T) (h1 : Waits T x z) (h : ∃ e ∈ y.o.after, Region.binds .any e = true ∧ e.on = z.i) : Waits T x y
theorem Waits.last {T : List It} {x y : It} (hx : x ∈ T) (h : Waits T x y) : ∃ z ∈ T, ∃ e ∈ y.o.after, Region.binds .any e = true ∧ e.on = z.i := by
 cases h with
 | edge h => exact ⟨x, hx, h⟩
 | step hz _ h => exact ⟨_, hz, h⟩
theorem Waits.less {A B : List It} {y : It} (hy : ∀ z ∈ A ++ y :: B, ¬ ∃ e ∈ y.o.after, Region.binds .any e = true ∧ e.on = z.i) {x u : It} (hx : x ∈ A ++ y :: B) (h : Waits (A ++ y :: B) x u) : Waits (A ++ B) x u := by
 induction h with
 | edge h => exact .edge h
 | step hz h1 h ih =>
  rename_i z u
  have hne : z ∈ A ++ B := by
   rcases List.mem_append.1 hz with hz | hz
   ·exact List.mem_append_left _ hz
   ·rcases List.mem_cons.1 hz with rfl | hz
    ·obtain ⟨q, hq, hq2⟩ := Waits.last hx h1
     exact absurd hq2 (hy q hq)
    ·exact List.mem_append_right _ hz
  exact .step hne ih h
structure Left (c : Cx) (ops : Array Oper) (listed : Array Bool) (T : List It) : Prop where
 ok : ∀ x ∈ T, x.OK c ops
 size : listed.size = ops.size
 mem : ∀ k, k < ops.size → (listed.getD k true = false ↔ ∃ x ∈ T, x.i = k)
 sorted : T.Pairwise fun x y => x.i < y.i
 free : T.Pairwise fun x y => Waits T x y ∨ Apart x y
 back : ∀ x ∈ T, ∀ e ∈ x.o.after, Region.binds .any e = true → e.on < x.i
theorem NF {ops : Array Oper} {x : It} (h : x.OK c ops) : x.i < ops.size := (Array.getElem?_eq_some_iff.1 h.here).1
theorem ME {ops : Array Oper} {listed : Array Bool} {i : Nat} {o : Oper} (hi : ops[i]? = some o) : i ∈ Region.ready .any ops listed ↔ listed.getD i true = false ∧ ∀ e ∈ o.after, Region.binds .any e = true → listed.getD e.on false = true := by
 unfold Region.ready
 have hlt : i < ops.size := (Array.getElem?_eq_some_iff.1 hi).1
 simp only [List.mem_filter, List.mem_range, hlt, true_and, hi, Option.map_some, Option.getD_some, Bool.and_eq_true, Bool.not_eq_true', Array.all_eq_true_iff_forall_mem, Bool.or_eq_true, Bool.not_eq_eq_eq_not, Bool.not_true]
 constructor
 ·rintro ⟨h1, h2⟩
  exact ⟨h1, fun e he hb => (h2 e he).resolve_left (by simp [hb])⟩
 ·rintro ⟨h1, h2⟩
  refine ⟨h1, fun e he => ?_⟩
  cases hb : Region.binds .any e with
  | true => exact .inr (h2 e he hb)
  | false => exact .inl rfl
theorem Oo {ro : Option Nat} {dn : Nat} {ops : Array Oper} {Q : Exit → Act → World → Prop} {S' : St} : ∀ (n : Nat) (T : List It) (listed : Array Bool) (S : St) (F : Nat → Prop) (g : Gh) (a : Act) (w : World), T.length = n → Left c ops listed T → DRun T S S' → SimX F c.nt g S a w [] →
 (∀ g' a' w', a'.defers = a.defers → g.obj <+: g'.obj → SimX F c.nt g' S' a' w' [] → Step F g w g' w' → Q .normal a' w') → wpAnyIn (fw ro) dn c.P .any ops Q n listed a w
 | 0, T, listed, S, F, g, a, w, hn, hl, hr, hs, hQ => by
  have hT : T = [] := List.length_eq_zero_iff.1 hn
  subst hT
  refine ⟨?_, hQ g a w rfl (List.prefix_refl _) (hs.forget (fun t => .inl (hr.1 t).symm) hr.2.symm) (Step.refl _ _ _)⟩
  rw [List.eq_nil_iff_forall_not_mem]
  intro i hi
  have hlt : i < ops.size := by
   unfold Region.ready at hi
   simpa using (List.mem_filter.1 hi).1
  obtain ⟨h1, _⟩ := (ME (Array.getElem?_eq_getElem hlt)).1 hi
  obtain ⟨x, hx, _⟩ := (hl.mem i hlt).1 h1
  simp at hx
 | n + 1, T, listed, S, F, g, a, w, hn, hl, hr, hs, hQ => by
  refine ⟨fun hnil => ?_, fun i hi => ?_⟩
  ·
   exfalso
   cases T with
   | nil => simp at hn
   | cons x T =>
    have hx := hl.ok x (by simp)
    have hmem : x.i ∈ Region.ready .any ops listed := (ME hx.here).2 ⟨(hl.mem x.i (NF hx)).2 ⟨x, by simp, rfl⟩, fun e he hb => ?_⟩
    ·rw [hnil] at hmem; simp at hmem
    ·have hlt := hl.back x (by simp) e he hb
     have hlt2 := NF hx
     have hsz : e.on < listed.size := by rw [hl.size]; omega
     have : ¬ (listed.getD e.on true = false) := fun hf => by
      obtain ⟨y, hy, hyi⟩ := (hl.mem e.on (by omega)).1 hf
      rcases List.mem_cons.1 hy with rfl | hy
      ·omega
      ·have := (List.pairwise_cons.1 hl.sorted).1 y hy
       omega
     rw [Array.getD_eq_getD_getElem?, Array.getElem?_eq_getElem hsz] at this ⊢
     simpa using this
  ·have hlt : i < ops.size := by
    unfold Region.ready at hi
    simpa using (List.mem_filter.1 hi).1
   obtain ⟨h1, h2⟩ := (ME (Array.getElem?_eq_getElem hlt)).1 hi
   obtain ⟨y, hy, hyi⟩ := (hl.mem i hlt).1 h1
   obtain ⟨A, B, rfl⟩ := List.append_of_mem hy
   have hyok := hl.ok y hy
   have hoy : y.o = ops[i] := by
    have := hyok.here
    rw [hyi, Array.getElem?_eq_getElem hlt] at this
    injection this with this
    exact this.symm
   obtain ⟨hA1, hA2, hA3⟩ := List.pairwise_append.1 hl.free
   obtain ⟨hB1, hB2, hB3⟩ := List.pairwise_append.1 hl.sorted
   have hready : ∀ z ∈ A ++ y :: B, ¬ ∃ e ∈ y.o.after, Region.binds .any e = true ∧ e.on = z.i := fun z hz => by
    rintro ⟨e, he, hb, heq⟩
    have hzok := hl.ok z hz
    rw [hoy] at he
    have h3 := h2 e he hb
    have h4 := (hl.mem z.i (NF hzok)).2 ⟨z, hz, rfl⟩
    rw [heq] at h3
    have hsz : z.i < listed.size := by rw [hl.size]; exact NF hzok
    rw [Array.getD_eq_getD_getElem?, Array.getElem?_eq_getElem hsz] at h3 h4
    simp at h3 h4
    rw [h3] at h4
    cases h4
   have hpre : ∀ x ∈ A, x.OK c ops ∧ Apart x y := fun x hx => by
    have hxok := hl.ok x (by simp [hx])
    refine ⟨hxok, (hA3 x hx y (by simp)).resolve_left fun hw => ?_⟩
    obtain ⟨z, hz, hz2⟩ := Waits.last (by simp [hx]) hw
    exact hready z hz hz2
   have hrun := bubble hyok hpre hr
   have key : wp1 c ro dn ops y.o a w (wpAnyIn (fw ro) dn c.P .any ops Q n (listed.setIfInBounds i true)) Q := by
    refine hyok.step hrun.1 hs ro dn _ Q fun v' g' w' hp' hs' hst => ?_
    refine Oo n (A ++ B) _ _ F g' _ w' (by simp at hn ⊢; omega) ?_ hrun.2 hs' (fun g'' a'' w'' hd'' hp'' hs'' hst' => hQ g'' a'' w'' (hd''.trans (put_defers _ _ _)) (hp'.trans hp'') hs'' (hst.trans hst'))
    have hsubl : (A ++ B).Sublist (A ++ y :: B) := List.Sublist.append (List.Sublist.refl A) (List.sublist_cons_self y B)
    refine ⟨fun x hx => hl.ok x (hsubl.subset hx), by simp [hl.size], fun k hk => ?_, hl.sorted.sublist hsubl, (hl.free.sublist hsubl).imp_of_mem fun hx _ h => h.imp_left (Waits.less hready (hsubl.subset hx)), fun x hx => hl.back x (hsubl.subset hx)⟩
    have hsz : k < listed.size := by rw [hl.size]; exact hk
    by_cases hki : k = i
    ·subst hki
     constructor
     ·intro hf
      rw [Array.getD_eq_getD_getElem?, Array.getElem?_setIfInBounds_self_of_lt hsz] at hf
      simp at hf
     ·rintro ⟨x, hx, hxi⟩
      exfalso
      rcases List.mem_append.1 hx with hx | hx
      ·have := hB3 x hx y (by simp)
       omega
      ·have := (List.pairwise_cons.1 hB2).1 x hx
       omega
    ·rw [Array.getD_eq_getD_getElem?, Array.getElem?_setIfInBounds_ne (Ne.symm hki), ← Array.getD_eq_getD_getElem?, hl.mem k hk]
     constructor
     ·rintro ⟨x, hx, hxi⟩
      refine ⟨x, ?_, hxi⟩
      simp only [List.mem_append, List.mem_cons] at hx ⊢
      rcases hx with hx | rfl | hx
      ·exact .inl hx
      ·omega
      ·exact .inr hx
     ·rintro ⟨x, hx, hxi⟩
      exact ⟨x, hsubl.subset hx, hxi⟩
   show wpOpIn (fw ro) dn c.P ops Q i _ a w
   unfold wpOpIn
   rw [Array.getElem?_eq_getElem hlt]
   simp only
   rw [hoy] at key
   unfold wp1 at key
   split
   ·rename_i hw
    rw [if_pos hw] at key
    exact key
   ·rename_i hw
    rw [if_neg hw] at key
    exact ⟨fun _ _ => trivial, key⟩
def Xv : List Nat → Bool
 | [] => true
 | i :: l => !l.contains i && Xv l
theorem QY : ∀ {l : List Nat}, Xv l = true → l.Nodup
 | [], _ => List.nodup_nil
 | i :: l, h => by
  simp only [Xv, Bool.and_eq_true] at h
  exact List.nodup_cons.2 ⟨by simpa using h.1, QY h.2⟩
def DOper.nod (d : DOper) : Bool := match d.ob with
 | .part ids => Xv ids
 | .peek ids _ => Xv ids
 | _ => true
def TS (x y : DOper) : Bool :=
 dis x.wr y.rd && dis x.wr y.wr && dis y.wr x.rd && Za x y
def UU (y : Oper) (W : List Nat) : Bool := y.after.any fun e => Region.binds .any e && W.contains e.on
def RZ (x : DOper) : List Nat → Nat → List DOper → List Oper → Bool
 | W, j, y :: ys, o :: os => cond (UU o W) (RZ x (j :: W) (j + 1) ys os) (TS x y && RZ x W (j + 1) ys os)
 | _, _, _, _ => true
def Kr : Nat → List DOper → List Oper → Bool
 | i, d :: ds, o :: os => (o.after.all fun e => !Region.binds .any e || Nat.blt e.on i) && RZ d [i] (i + 1) ds os && d.nod && Kr (i + 1) ds os
 | _, _, _ => true
def H5 (nt : Nat) (ops : Array Oper) : List DOper → List Oper → Bool
 | [], [] => true
 | d :: ds, o :: os => QT nt d.op.dst o.dst && Og ops d.op.guard o.guard && H5 nt ops ds os
 | _, _ => false
def Zb (c : Cx) : List DOper → List Oper → Prop
 | d :: ds, o :: os => bK c d.op.op o ∧ Zb c ds os
 | _, _ => True
def Items : Nat → List DOper → List Oper → List It → Prop
 | i, d :: ds, o :: os, x :: xs => x.i = i ∧ x.o = o ∧ x.d = d ∧ Items (i + 1) ds os xs
 | _, [], [], [] => True
 | _, _, _, _ => False
theorem R3 : ∀ {i : Nat} {ds : List DOper} {os : List Oper} {T : List It}, Items i ds os T → ∀ x ∈ T, i ≤ x.i ∧ x.i < i + os.length
 | i, [], [], [], _, x, hx => by simp at hx
 | i, [], [], _ :: _, h, _, _ => by simp [Items] at h
 | i, [], _ :: _, T, h, _, _ => by cases T <;> simp [Items] at h
 | i, _ :: _, [], T, h, _, _ => by cases T <;> simp [Items] at h
 | i, d :: ds, o :: os, [], h, _, _ => by simp [Items] at h
 | i, d :: ds, o :: os, y :: T, h, x, hx => by
  obtain ⟨h1, h2, h3, h4⟩ := h
  rcases List.mem_cons.1 hx with rfl | hx
  ·simp; omega
  ·have := R3 h4 x hx
   simp; omega
theorem PX : ∀ {i : Nat} {ds : List DOper} {os : List Oper} {T : List It}, Items i ds os T → ∀ k, i ≤ k → k < i + os.length → ∃ x ∈ T, x.i = k
 | i, [], [], [], _, k, h1, h2 => by simp at h2; omega
 | i, [], [], _ :: _, h, _, _, _ => by simp [Items] at h
 | i, [], _ :: _, T, h, _, _, _ => by cases T <;> simp [Items] at h
 | i, _ :: _, [], T, h, _, _, _ => by cases T <;> simp [Items] at h
 | i, d :: ds, o :: os, [], h, _, _, _ => by simp [Items] at h
 | i, d :: ds, o :: os, y :: T, h, k, h1, h2 => by
  obtain ⟨h3, _, _, h4⟩ := h
  by_cases e : k = i
  ·exact ⟨y, by simp, by omega⟩
  ·obtain ⟨x, hx, hxi⟩ := PX h4 k (by omega) (by simp at h2; omega)
   exact ⟨x, by simp [hx], hxi⟩
theorem Xw {x y : It} (h : TS x.d y.d = true) : Apart x y := by
 simp only [TS, Bool.and_eq_true] at h
 obtain ⟨⟨⟨h1, h2⟩, h3⟩, h4⟩ := h
 exact ⟨fun t ht => ⟨Cb h1 t ht, Cb h2 t ht⟩, fun t ht => ⟨Cb h3 t ht, fun hx => Cb h2 t hx ht⟩, h4⟩
theorem Xx : ∀ {i : Nat} {ds : List DOper} {os : List Oper}, ds.length = os.length → Kr i ds os = true → ∀ d ∈ ds, d.nod = true
 | i, [], _, _, _, d, hd => by simp at hd
 | i, _ :: _, [], hl, _, d, hd => by simp at hl
 | i, e :: ds, o :: os, hl, h, d, hd => by
  simp only [Kr, Bool.and_eq_true] at h
  rcases List.mem_cons.1 hd with rfl | hd
  ·exact h.1.2
  ·exact Xx (by simpa using hl) h.2 d hd
theorem PY {nt : Nat} {ops : Array Oper} : ∀ {ds : List DOper} {os : List Oper}, H5 nt ops ds os = true → ds.length = os.length
 | [], [], _ => rfl
 | [], _ :: _, h => by simp [H5] at h
 | _ :: _, [], h => by simp [H5] at h
 | d :: ds, o :: os, h => by
  simp only [H5, Bool.and_eq_true] at h
  simp [PY h.2]
theorem Xy {o : Oper} {W : List Nat} (h : UU o W = true) : ∃ k ∈ W, ∃ e ∈ o.after, Region.binds .any e = true ∧ e.on = k := by
 unfold UU at h
 obtain ⟨e, he, h2⟩ := Array.any_eq_true'.1 h
 simp only [Bool.and_eq_true, List.contains_iff_mem] at h2
 exact ⟨e.on, h2.2, e, he, h2.1, rfl⟩
theorem QZ {x : It} {U : List It} : ∀ {i : Nat} {ds : List DOper} {os : List Oper} {T : List It} {W : List Nat}, Items i ds os T → (∀ y ∈ T, y ∈ U) → (∀ k ∈ W, k = x.i ∨ ∃ z ∈ U, z.i = k ∧ Waits U x z) → RZ x.d W i ds os = true → ∀ y ∈ T, Waits U x y ∨ Apart x y
 | i, [], [], [], _, _, _, _, _, y, hy => by simp at hy
 | i, [], [], _ :: _, _, h, _, _, _, _, _ => by simp [Items] at h
 | i, [], _ :: _, T, _, h, _, _, _, _, _ => by cases T <;> simp [Items] at h
 | i, _ :: _, [], T, _, h, _, _, _, _, _ => by cases T <;> simp [Items] at h
 | i, d :: ds, o :: os, [], _, h, _, _, _, _, _ => by simp [Items] at h
 | i, d :: ds, o :: os, z :: T, W, h, hU, hW, hf, y, hy => by
  obtain ⟨h1, h2, h3, h4⟩ := h
  simp only [RZ] at hf
  have hU' : ∀ y ∈ T, y ∈ U := fun y hy => hU y (by simp [hy])
  cases hw : UU o W with
  | true =>
   rw [hw, cond_true] at hf
   obtain ⟨k, hk, hke⟩ := Xy hw
   have hz : Waits U x z := by
    rcases hW k hk with rfl | ⟨q, hq, rfl, hq2⟩
    ·exact .edge (by rw [h2]; exact hke)
    ·exact .step hq hq2 (by rw [h2]; exact hke)
   rcases List.mem_cons.1 hy with rfl | hy
   ·exact .inl hz
   ·refine QZ h4 hU' (fun k hk => ?_) hf y hy
    rcases List.mem_cons.1 hk with rfl | hk
    ·exact .inr ⟨z, hU z (by simp), h1, hz⟩
    ·exact hW k hk
  | false =>
   rw [hw, cond_false, Bool.and_eq_true] at hf
   rcases List.mem_cons.1 hy with rfl | hy
   ·exact .inr (Xw (by rw [h3]; exact hf.1))
   ·exact QZ h4 hU' hW hf.2 y hy
theorem R4 {U : List It} : ∀ {i : Nat} {ds : List DOper} {os : List Oper} {T : List It}, Items i ds os T → (∀ y ∈ T, y ∈ U) → Kr i ds os = true → (T.Pairwise fun x y => x.i < y.i) ∧ (T.Pairwise fun x y => Waits U x y ∨ Apart x y) ∧ ∀ x ∈ T, ∀ e ∈ x.o.after, Region.binds .any e = true → e.on < x.i
 | i, [], [], [], _, _, _ => by simp
 | i, [], [], _ :: _, h, _, _ => by simp [Items] at h
 | i, [], _ :: _, T, h, _, _ => by cases T <;> simp [Items] at h
 | i, _ :: _, [], T, h, _, _ => by cases T <;> simp [Items] at h
 | i, d :: ds, o :: os, [], h, _, _ => by simp [Items] at h
 | i, d :: ds, o :: os, x :: T, h, hU, hd => by
  obtain ⟨h1, h2, h3, h4⟩ := h
  simp only [Kr, Bool.and_eq_true] at hd
  obtain ⟨⟨⟨hd1, hd2⟩, _⟩, hd3⟩ := hd
  have hU' : ∀ y ∈ T, y ∈ U := fun y hy => hU y (by simp [hy])
  obtain ⟨k1, k2, k3⟩ := R4 h4 hU' hd3
  refine ⟨List.pairwise_cons.2 ⟨fun y hy => by have := R3 h4 y hy; omega, k1⟩, List.pairwise_cons.2 ⟨QZ h4 hU' (fun k hk => .inl (by rw [List.mem_singleton.1 hk, h1])) (by rw [h3]; exact hd2), k2⟩, fun y hy => ?_⟩
  rcases List.mem_cons.1 hy with rfl | hy
  ·intro e he hb
   rw [h2] at he
   have h5 := Array.all_eq_true_iff_forall_mem.1 hd1 e he
   simp only [hb, Bool.not_true, Bool.false_or] at h5
   rw [h1]
   exact Nat.le_of_ble_eq_true h5
  ·exact k3 y hy
theorem NG {H : List AObj} {l : List (Nat × AV)} (H' : List AObj) : ∀ {m : List Nat} {us : List AV}, us.length = m.length → ∀ t, (⟨m.zip us ++ l, H⟩ : St).get t = if t ∈ m then (⟨m.zip us, H'⟩ : St).get t else (⟨l, H'⟩ : St).get t
 | [], us, _, t => by simp; rfl
 | u :: m, [], h, t => by simp at h
 | u :: m, v :: us, h, t => by
  simp only [List.zip_cons_cons, List.cons_append]
  rw [iO, iO, NG H' (by simpa using h) t]
  by_cases e : u = t
  ·subst e; simp
  ·rw [if_neg e, if_neg e]
   by_cases hm : t ∈ m
   ·simp [hm]
   ·simp [hm, Ne.symm e]
theorem Lh {f : Nat → Option Nat} : ∀ {cs cs' : List AV}, uC f cs = some cs' → cs'.length = cs.length
 | [], cs', h => by simp only [uC] at h; injection h with h; subst h; rfl
 | c :: cs, cs', h => by
  simp only [uC] at h
  obtain ⟨c', h1, h2⟩ := Option.bind_eq_some_iff.1 h
  obtain ⟨ds', h3, h4⟩ := Option.bind_eq_some_iff.1 h2
  injection h4 with h4
  subst h4
  simp [Lh h3]
theorem En {f : Nat → Option Nat} {s : St} {H : List AObj} : ∀ {m : List Nat} {us : List AV}, uC f (m.map s.get) = some us → (∀ t, t ∉ m → (⟨m.zip us, H⟩ : St).get t = .undef) ∧ ∀ t ∈ m, Sh.ren f (s.get t) = some ((⟨m.zip us, H⟩ : St).get t)
 | [], us, _ => ⟨fun t _ => rfl, fun t h => by simp at h⟩
 | u :: m, us, h => by
  simp only [List.map_cons, uC] at h
  obtain ⟨v', h1, h2⟩ := Option.bind_eq_some_iff.1 h
  obtain ⟨vs', h3, h4⟩ := Option.bind_eq_some_iff.1 h2
  injection h4 with h4
  subst h4
  obtain ⟨k1, k2⟩ := En (H := H) h3
  simp only [List.zip_cons_cons]
  refine ⟨fun t ht => ?_, fun t ht => ?_⟩
  ·simp only [List.mem_cons, not_or] at ht
   rw [iO, if_neg (Ne.symm ht.1)]
   exact k1 t ht.2
  ·rw [iO]
   by_cases e : u = t
   ·subst e; rw [if_pos rfl]; exact h1
   ·rw [if_neg e]
    exact k2 t ((List.mem_cons.1 ht).resolve_left (Ne.symm e))
theorem Li {ops : Array Oper} {R : Type} {k : St → Option R} {r : R} : ∀ (ds : List DOper) (os : List Oper) (i : Nat) (s : St), (∀ j, os[j]? = ops[i + j]?) → H5 c.nt ops ds os = true → Zb c ds os → (∀ d ∈ ds, d.nod = true) → NS ds s R k = some r →
 ∃ T S', Items i ds os T ∧ (∀ x ∈ T, x.OK c ops) ∧ DRun T s S' ∧ k S' = some r
 | [], [], i, s, _, _, _, _, h => ⟨[], s, by simp [Items], by simp, ⟨fun _ => rfl, rfl⟩, h⟩
 | [], _ :: _, _, _, _, h, _, _, _ => by simp [H5] at h
 | _ :: _, [], _, _, _, h, _, _, _ => by simp [H5] at h
 | d :: ds, o :: os, i, s, hj, hf, hok, hnd, h => by
  simp only [H5, Bool.and_eq_true] at hf
  obtain ⟨⟨hd, hg⟩, hrest⟩ := hf
  have hjj : ∀ j, os[j]? = ops[i + 1 + j]? := fun j => by have := hj (j + 1); simp only [List.getElem?_cons_succ] at this; rw [this]; congr 1; omega
  have h0 := hj 0
  have hnd' : ∀ d ∈ ds, d.nod = true := fun e he => hnd e (by simp [he])
  have hndd := hnd d (by simp)
  by_cases hpart : ∃ ids, d.ob = .part ids
  ·obtain ⟨ids, hob⟩ := hpart
   simp only [NS, hob] at h
   obtain ⟨vs, e1, h1⟩ := Option.bind_eq_some_iff.1 h
   obtain ⟨hs, e2, h2⟩ := Option.bind_eq_some_iff.1 h1
   have h3 := Dj (d := d) h2
   obtain ⟨L', h4, h5⟩ := Jv (ops := ops) (o := o) hd hg hok.1 h3
   by_cases hk : (∀ t, t ∉ d.wr → L'.get t = (⟨d.rd.zip vs, hs⟩ : St).get t) ∧ (d.op.op.still = true → L'.heap = (⟨d.rd.zip vs, hs⟩ : St).heap)
   ·rw [if_pos hk] at h4
    obtain ⟨us, e3, h6⟩ := Option.bind_eq_some_iff.1 h4
    obtain ⟨hs', e4, h7⟩ := Option.bind_eq_some_iff.1 h6
    obtain ⟨hlen, h8⟩ | ⟨_, h8⟩ := ae h7
    case inr => exact absurd h8 (by simp)
    obtain ⟨T, S', k1, k2, k3, k4⟩ := Li ds os (i + 1) _ hjj hrest hok.2 hnd' h8
    obtain ⟨z1, z2⟩ := En (H := hs) e1
    obtain ⟨z3, z4⟩ := En (H := hs') e3
    have hN : ids.Nodup := by
     unfold DOper.nod at hndd
     rw [hob] at hndd
     exact QY hndd
    have hpid : (⟨i, o, d, ⟨d.rd.zip vs, hs⟩, L', ⟨(d.rd ++ d.wr).zip us, hs'⟩⟩ : It).Em = some ids := MB hob
    refine ⟨⟨i, o, d, ⟨d.rd.zip vs, hs⟩, L', ⟨(d.rd ++ d.wr).zip us, hs'⟩⟩ :: T, S', ⟨rfl, rfl, rfl, k1⟩, fun x hx => ?_, ⟨⟨fun t ht => ?_, ?_⟩, ?_⟩, k4⟩
    ·rcases List.mem_cons.1 hx with rfl | hx
     ·refine ⟨by simpa using h0.symm, (Jt hd).1, h5, z1, fun hn => ?_, fun hn => ?_, hk.1, fun _ _ => .inr ⟨ids, hpid⟩, fun hn => ?_, fun hw => absurd hpid (hw ids), fun ids' rs' hi => ?_, fun n' hi => ?_, fun ids' hi => ?_⟩
      ·simp [It.FV, hob] at hn
      ·simp [It.FV, hob] at hn
      ·simp [It.FV, hob] at hn
      ·have hi' : d.ob = .peek ids' rs' := hi
       rw [hob] at hi'; cases hi'
      ·have hi' : d.ob = .new n' := hi
       rw [hob] at hi'; cases hi'
      ·have hi' : d.ob = .part ids' := hi
       rw [hob] at hi'
       injection hi' with hi'
       subst hi'
       exact ⟨hN, fun t ht => z4 t (List.mem_append_right _ ht), e4, Nat.eq_of_beq_eq_true hlen, hk.2⟩
     ·exact k2 x hx
    ·rw [Ca hpid]
     exact z2 t ht
    ·unfold It.sees
     simp only [hob]
     exact e2
    ·refine DRun.congr (fun t => ?_) ?_ k3
     ·rw [Gm, Ca hpid]
      refine (NG hs' (by rw [Lh e3]; simp) t).trans ?_
      simp only
      by_cases hw : t ∈ d.wr
      ·rw [if_pos hw, if_pos (List.mem_append_right _ hw)]
      ·rw [if_neg hw]
       by_cases hr : t ∈ d.rd
       ·rw [if_pos (List.mem_append_left _ hr)]
        have q1 := z4 t (List.mem_append_left _ hr)
        rw [hk.1 t hw, Gl _ _ (z2 t hr)] at q1
        injection q1 with q1
        exact q1.symm
       ·rw [if_neg (fun h => (List.mem_append.1 h).elim hr hw)]
        rfl
     ·rw [It.vL]
      unfold It.hp
      simp only [hob]
      cases d.op.op.still <;> rfl
   ·rw [if_neg hk] at h4
    exact absurd h4 (by simp)
  by_cases hpeek : ∃ ids rs, d.ob = .peek ids rs
  ·obtain ⟨ids, rs, hob⟩ := hpeek
   simp only [NS, hob] at h
   obtain ⟨vs, e1, h1⟩ := Option.bind_eq_some_iff.1 h
   obtain ⟨hs, e2, h2⟩ := Option.bind_eq_some_iff.1 h1
   have h3 := Dj (d := d) h2
   obtain ⟨L', h4, h5⟩ := Jv (ops := ops) (o := o) hd hg hok.1 h3
   by_cases hk : (∀ t, t ∉ d.wr → L'.get t = (⟨d.rd.zip vs, hs⟩ : St).get t) ∧ (d.op.op.still = true → L'.heap = (⟨d.rd.zip vs, hs⟩ : St).heap)
   ·rw [if_pos hk] at h4
    obtain ⟨us, e3, h6⟩ := Option.bind_eq_some_iff.1 h4
    obtain ⟨hst, h8⟩ | ⟨_, h8⟩ := ae h6
    case inr => exact absurd h8 (by simp)
    obtain ⟨T, S', k1, k2, k3, k4⟩ := Li ds os (i + 1) _ hjj hrest hok.2 hnd' h8
    obtain ⟨z1, z2⟩ := En (H := hs) e1
    obtain ⟨z3, z4⟩ := En (H := s.heap) e3
    have hN : ids.Nodup := by
     unfold DOper.nod at hndd
     rw [hob] at hndd
     exact QY hndd
    have hpid : (⟨i, o, d, ⟨d.rd.zip vs, hs⟩, L', ⟨(d.rd ++ d.wr).zip us, s.heap⟩⟩ : It).Em = some ids := MC hob
    refine ⟨⟨i, o, d, ⟨d.rd.zip vs, hs⟩, L', ⟨(d.rd ++ d.wr).zip us, s.heap⟩⟩ :: T, S', ⟨rfl, rfl, rfl, k1⟩, fun x hx => ?_, ⟨⟨fun t ht => ?_, ?_⟩, ?_⟩, k4⟩
    ·rcases List.mem_cons.1 hx with rfl | hx
     ·refine ⟨by simpa using h0.symm, (Jt hd).1, h5, z1, fun hn => ?_, fun hn => ?_, hk.1, fun _ _ => .inr ⟨ids, hpid⟩, fun hn => ?_, fun hw => absurd hpid (hw ids), fun ids' rs' hi => ?_, fun n' hi => ?_, fun ids' hi => ?_⟩
      ·simp [It.FV, hob] at hn
      ·simp [It.FV, hob] at hn
      ·simp [It.FV, hob] at hn
      ·have hi' : d.ob = .peek ids' rs' := hi
       rw [hob] at hi'
       injection hi' with hi1 hi2
       subst hi1; subst hi2
       exact ⟨hN, fun t ht => z4 t (List.mem_append_right _ ht), hk.2 hst⟩
      ·have hi' : d.ob = .new n' := hi
       rw [hob] at hi'; cases hi'
      ·have hi' : d.ob = .part ids' := hi
       rw [hob] at hi'; cases hi'
     ·exact k2 x hx
    ·rw [Ca hpid]
     exact z2 t ht
    ·unfold It.sees
     simp only [hob]
     exact e2
    ·refine DRun.congr (fun t => ?_) ?_ k3
     ·rw [Gm, Ca hpid]
      refine (NG s.heap (by rw [Lh e3]; simp) t).trans ?_
      simp only
      by_cases hw : t ∈ d.wr
      ·rw [if_pos hw, if_pos (List.mem_append_right _ hw)]
      ·rw [if_neg hw]
       by_cases hr : t ∈ d.rd
       ·rw [if_pos (List.mem_append_left _ hr)]
        have q1 := z4 t (List.mem_append_left _ hr)
        rw [hk.1 t hw, Gl _ _ (z2 t hr)] at q1
        injection q1 with q1
        exact q1.symm
       ·rw [if_neg (fun h => (List.mem_append.1 h).elim hr hw)]
     ·rw [It.vL]
      unfold It.hp
      simp only [hob]
   ·rw [if_neg hk] at h4
    exact absurd h4 (by simp)
  by_cases hnew : ∃ n, d.ob = .new n
  ·obtain ⟨n, hob⟩ := hnew
   simp only [NS, hob] at h
   obtain ⟨hn0, h⟩ | ⟨_, h⟩ := ae h
   case inr => exact absurd h (by simp)
   have hn0 := Nat.eq_of_beq_eq_true hn0
   obtain ⟨vs, e1, h2⟩ := Option.bind_eq_some_iff.1 h
   have h3 := Dj (d := d) h2
   obtain ⟨L', h4, h5⟩ := Jv (ops := ops) (o := o) hd hg hok.1 h3
   by_cases hk : (∀ t, t ∉ d.wr → L'.get t = (⟨d.rd.zip vs, []⟩ : St).get t) ∧ (d.op.op.still = true → L'.heap = (⟨d.rd.zip vs, []⟩ : St).heap)
   ·rw [if_pos hk] at h4
    obtain ⟨us, e3, h6⟩ := Option.bind_eq_some_iff.1 h4
    obtain ⟨hs', e4, h8⟩ := Option.bind_eq_some_iff.1 h6
    obtain ⟨T, S', k1, k2, k3, k4⟩ := Li ds os (i + 1) _ hjj hrest hok.2 hnd' h8
    obtain ⟨z1, z2⟩ := En (H := []) e1
    obtain ⟨z3, z4⟩ := En (H := hs') e3
    have hpid : (⟨i, o, d, ⟨d.rd.zip vs, []⟩, L', ⟨d.wr.zip us, hs'⟩⟩ : It).Em = some [] := Om hob
    refine ⟨⟨i, o, d, ⟨d.rd.zip vs, []⟩, L', ⟨d.wr.zip us, hs'⟩⟩ :: T, S', ⟨rfl, rfl, rfl, k1⟩, fun x hx => ?_, ⟨⟨fun t ht => ?_, ?_⟩, ?_⟩, k4⟩
    ·rcases List.mem_cons.1 hx with rfl | hx
     ·refine ⟨by simpa using h0.symm, (Jt hd).1, h5, z1, fun hn => ?_, fun hn => ?_, hk.1, fun _ _ => .inr ⟨[], hpid⟩, fun hn => ?_, fun hw => absurd hpid (hw []), fun ids' rs' hi => ?_, fun n' hi => ?_, fun ids' hi => ?_⟩
      ·simp [It.FV, hob] at hn
      ·simp [It.FV, hob] at hn
      ·simp [It.FV, hob] at hn
      ·have hi' : d.ob = .peek ids' rs' := hi
       rw [hob] at hi'; cases hi'
      ·have hi' : d.ob = .new n' := hi
       rw [hob] at hi'
       injection hi' with hi1
       subst hi1
       exact ⟨rfl, z4, e4⟩
      ·have hi' : d.ob = .part ids' := hi
       rw [hob] at hi'; cases hi'
     ·exact k2 x hx
    ·rw [Ca hpid]
     exact z2 t ht
    ·unfold It.sees
     simp only [hob]
     exact hn0
    ·refine DRun.congr (fun t => ?_) ?_ k3
     ·rw [Gm, Ca hpid]
      exact NG hs' (by rw [Lh e3]; simp) t
     ·rw [It.vL]
      unfold It.hp
      simp only [hob]
   ·rw [if_neg hk] at h4
    exact absurd h4 (by simp)
  ·have hnp : ∀ ids, d.ob ≠ .part ids := fun ids h => hpart ⟨ids, h⟩
   have hnp2 : ∀ ids rs, d.ob ≠ .peek ids rs := fun ids rs h => hpeek ⟨ids, rs, h⟩
   have hnp3 : ∀ n, d.ob ≠ .new n := fun n h => hnew ⟨n, h⟩
   have h : cond (d.pre s) (oM [d.op] (d.loc s) R fun l => cond (d.fine l) (NS ds (d.upd s l) R k) none) none = some r := by
    cases hob : d.ob with
    | part ids => exact absurd hob (hnp ids)
    | peek ids rs => exact absurd hob (hnp2 ids rs)
    | new n => exact absurd hob (hnp3 n)
    | _ => simp only [NS, hob] at h; exact h
   obtain ⟨hpre, h1⟩ | ⟨_, h1⟩ := ae h
   case inr => exact absurd h1 (by simp)
   have h2 := Dj h1
   obtain ⟨L', h3, h4⟩ := Jv (ops := ops) (o := o) hd hg hok.1 h2
   by_cases hk : (∀ t, t ∉ d.wr → L'.get t = (d.loc s).get t) ∧ (d.op.op.still = true → L'.heap = (d.loc s).heap)
   ·rw [if_pos hk] at h3
    obtain ⟨hfine, h5⟩ | ⟨_, h5⟩ := ae h3
    case inr => exact absurd h5 (by simp)
    obtain ⟨T, S', h6, h7, h8, h9⟩ := Li ds os (i + 1) (d.upd s L') hjj hrest hok.2 hnd' h5
    have hloc : ∀ t, (d.loc s).get t = if t ∈ d.rd then s.get t else .undef := fun t => by
     have := zx (f := s.get) (l := []) (H := (d.loc s).heap) (H' := []) t d.rd
     simp only [List.append_nil] at this
     exact this
    have hpn : ∀ ids, (⟨i, o, d, d.loc s, L', L'⟩ : It).Em ≠ some ids := fun ids h => by
     unfold It.Em at h
     simp only at h
     cases hob : d.ob with
     | part ids => exact hnp ids hob
     | peek ids rs => exact hnp2 ids rs hob
     | new n => exact hnp3 n hob
     | _ => simp [hob] at h
    have hidn : (⟨i, o, d, d.loc s, L', L'⟩ : It).ids? = none := RX hpn
    refine ⟨⟨i, o, d, d.loc s, L', L'⟩ :: T, S', ⟨rfl, rfl, rfl, h6⟩, fun x hx => ?_, ⟨⟨fun t ht => by rw [hidn]; simp only; rw [hloc, if_pos ht], ?_⟩, ?_⟩, h9⟩
    ·rcases List.mem_cons.1 hx with rfl | hx
     ·refine ⟨by simpa using h0.symm, (Jt hd).1, h4, fun t ht => by rw [hloc, if_neg ht], fun hn => ?_, fun hn t ht => ?_, hk.1, fun hn ha => .inl ?_, fun hn t ht => ?_, fun _ => rfl, fun ids rs hi => absurd hi (hnp2 ids rs), fun n hi => absurd hi (hnp3 n), fun ids hi => absurd hi (hnp ids)⟩
      ·simp only [It.FV] at hn
       simp only [DOper.loc]
       cases hob : d.ob <;> rw [hob] at hn <;> simp at hn ⊢
      ·simp only [It.FV] at hn
       rw [hloc, if_pos ht]
       unfold DOper.pre at hpre
       cases hob : d.ob <;> rw [hob] at hn hpre <;> simp at hn
       exact Ko hpre _ (List.mem_map.2 ⟨t, ht, rfl⟩)
      ·simp only [It.FV] at hn
       simp only [It.Xt] at ha
       refine hk.2 ?_
       unfold DOper.fine at hfine
       cases hob : d.ob with
       | part ids => exact absurd hob (hnp ids)
       | peek ids rs => exact absurd hob (hnp2 ids rs)
       | new n => exact absurd hob (hnp3 n)
       | look => rw [hob] at hfine; exact hfine
       | no => rw [hob] at hn; simp at hn
       | all => rw [hob] at ha; simp at ha
      ·simp only [It.FV] at hn
       unfold DOper.fine at hfine
       cases hob : d.ob <;> rw [hob] at hn hfine <;> simp at hn
       exact Ko hfine _ (List.mem_map.2 ⟨t, ht, rfl⟩)
     ·exact h7 x hx
    ·unfold It.sees
     simp only [DOper.loc]
     cases hob : d.ob with
     | part ids => exact absurd hob (hnp ids)
     | peek ids rs => exact absurd hob (hnp2 ids rs)
     | new n => exact absurd hob (hnp3 n)
     | _ => first | trivial | rfl
    ·refine DRun.congr (fun t => ?_) ?_ h8
     ·rw [Gm, hidn]
      exact zx (f := L'.get) (H' := s.heap) t _
     ·rw [It.vL]
      unfold It.hp DOper.upd
      cases hob : d.ob with
      | part ids => exact absurd hob (hnp ids)
      | peek ids rs => exact absurd hob (hnp2 ids rs)
      | new n => exact absurd hob (hnp3 n)
      | _ => rfl
   ·rw [if_neg hk] at h3
    exact absurd h3 (by simp)
theorem VN {id : Nat} {ds : List DOper} {l : List Oper} (hm : c.P.follows .mixedOrders = true) (hf : H5 c.nt l.toArray ds l = true) (hd : Kr 0 ds l = true) (hok : Zb c ds l) : Snd c (WU ds) (.region id l.toArray true) := by
 intro s R k r h
 obtain ⟨T, S', h1, h2, h3, h4⟩ := Li (ops := l.toArray) ds l 0 s (fun j => by simp) hf hok (Xx (PY hf) hd) h
 refine ⟨.normal, S', h4, fun F g a w B hB hp hs ro dn hro => wpIn_region_any hm ?_⟩
 obtain ⟨k1, k2, k3⟩ := R4 (U := T) h1 (fun _ h => h) hd
 have hlen : T.length = l.toArray.size := by
  have : ∀ {i : Nat} {ds : List DOper} {os : List Oper} {T : List It}, Items i ds os T → T.length = os.length := by
   intro i ds os T
   induction T generalizing i ds os with
   | nil => intro h; cases ds <;> cases os <;> simp [Items] at h ⊢
   | cons x T ih =>
    intro h
    cases ds with
    | nil => cases os <;> simp [Items] at h
    | cons d ds =>
     cases os with
     | nil => simp [Items] at h
     | cons o os => simp [ih h.2.2.2]
  simpa using this h1
 have hdrew : SimX F c.nt g s a { w with drawn := w.drawn + 1 } [] := by
  have hext : Ext g w g { w with drawn := w.drawn + 1 } := ⟨fun _ _ _ => rfl, fun _ _ => rfl, fun _ => Nat.le_refl _, fun _ => Nat.le_refl _, fun _ _ h => h⟩
  have hobj := ObjsR.move hext s.heap g.obj hs.core.heap (fun _ _ => rfl)
  have hc := hs.core
  refine hs.move hext ⟨hobj.1, fun r hr => ?_, fun b => ?_, fun b hF => ?_, hc.objlen, hc.lenlt, hc.flt, hc.good.step (fun _ h => h) fun _ _ => rfl⟩
  ·rw [hobj.2] at hr; exact hc.own r hr
  ·rw [hobj.2]; exact hc.dist b
  ·rw [hobj.2]; exact hc.notF b hF
 refine Oo l.toArray.size T (Array.replicate l.toArray.size false) s F g a _ hlen ⟨h2, by simp, fun k hk => ?_, k1, k2, k3⟩ h3 hdrew (fun g' a' w' hd' hp' hs' hst => ⟨rfl, F, g', fun _ h => h, hp.trans hp', hs', ⟨hst.cell, hst.ty, hst.bsz, hst.len, hst.frame, hst.size, hst.os, hst.tape, hst.output⟩, .ZW hd'⟩)
 constructor
 ·intro _
  exact PX h1 k (Nat.zero_le _) (by simpa using hk)
 ·intro _
  rw [Array.getD_eq_getD_getElem?, Array.getElem?_replicate, if_pos hk]
  rfl
end Go.Sh
namespace Go.Sh
open Go.RowKit
set_option linter.unusedSimpArgs false
set_option linter.unusedVariables false
variable {c : Cx} {o : Oper}
theorem setCells_eq : ∀ (us : List AV) (cs : List AV) (off : Nat), off + us.length ≤ cs.length → setCells cs off us = cs.take off ++ us ++ cs.drop (off + us.length)
 | [], cs, off, _ => by simp [setCells]
 | u :: us, cs, off, h => by
  simp only [List.length_cons] at h
  rw [setCells, setCells_eq us (cs.set off u) (off + 1) (by simp; omega)]
  have h1 : (cs.set off u).take (off + 1) = cs.take off ++ [u] := by
   rw [List.take_succ_eq_append_getElem (by simp; omega)]
   simp only [List.take_set, List.getElem_set_self]
   rw [List.set_eq_of_length_le (by rw [List.length_take]; exact Nat.min_le_left _ _)]
  have h2 : (cs.set off u).drop (off + 1 + us.length) = cs.drop (off + (us.length + 1)) := by
   rw [List.drop_set_of_lt (by omega)]
   congr 1
   omega
  rw [h1, h2]
  simp
theorem zA : ∀ {a : List AV} {u : List Value} {b : List AV} {v : List Value}, a.length = u.length → aC (a ++ b) (u ++ v) = aC a u ++ aC b v
 | [], u, b, v, h => by
  have : u = [] := List.length_eq_zero_iff.1 (by simpa using h.symm)
  subst this
  rfl
 | x :: a, [], b, v, h => by simp at h
 | x :: a, y :: u, b, v, h => by simp only [List.cons_append, aC, zA (a := a) (u := u) (b := b) (v := v) (by simpa using h), List.append_assoc]
theorem Xz {n : Nat} {aggr : Bool} {x : AX} {p : Operand} {t : TypeId} {d : TypeDesc} (h : o.op = .load t p) (ht : c.P.underlying t = some d) (ha : qZ d = aggr) (hn : (c.P.info? t).map (·.size) = some n) (h0 : 0 < n) (hx : bA x p = true) : bK c (.loadT n aggr x) o := by
 intro s R k r hr
 simp only [AOp.run] at hr
 split at hr
 ·rename_i id off hv
  split at hr
  ·rename_i ot cs hob
   obtain ⟨v, h1, h2⟩ := Gi hr
   refine ⟨_, _, h1, OpSem.run fun F g a w B hB hpre hs => ?_⟩
   have hp := aj hs hx
   rw [hv] at hp
   simp only [VR] at hp
   obtain ⟨b, hp, hb⟩ := hp
   have hobj := aY hs.core.heap id b _ hob hb
   simp only [ObjR] at hobj
   obtain ⟨arr, hw, hvs⟩ := hobj
   have hl := hvs.length
   have hpart := (hvs.drop off).take n
   have hplen := hpart.length
   have ecs : cs = cs.take off ++ ((cs.drop off).take n ++ (cs.drop off).drop n) := by rw [List.take_append_drop, List.take_append_drop]
   have earr : arr.toList = arr.toList.take off ++ ((arr.toList.drop off).take n ++ (arr.toList.drop off).drop n) := by rw [List.take_append_drop, List.take_append_drop]
   have hl1 : (cs.take off).length = (arr.toList.take off).length := by simp [hl]
   have hO : aC cs arr.toList = aC (cs.take off) (arr.toList.take off) ++ (aC ((cs.drop off).take n) ((arr.toList.drop off).take n) ++ aC ((cs.drop off).drop n) ((arr.toList.drop off).drop n)) := by
    conv => lhs; rw [ecs, earr]
    rw [zA hl1, zA hplen]
   have hval : ∃ v', (execOp a.eval o).run c.P w = .ok (.value v') w ∧ VR g w v v' ∧ (∀ r, r ∈ owns v v' → r ∈ aC ((cs.drop off).take n) ((arr.toList.drop off).take n)) ∧ ∀ x, oc x (owns v v') ≤ oc x (aC ((cs.drop off).take n) ((arr.toList.drop off).take n)) := by
    have hread : ∀ j, j < ((arr.toList.drop off).take n).length → w.cell? ⟨b, off + j, none⟩ = ((arr.toList.drop off).take n)[j]? := fun j hj => by
     rw [List.length_take] at hj
     rw [List.getElem?_take, if_pos (by omega), List.getElem?_drop]
     simp [World.cell?, hw]
    have run : ∀ v', (loadVar t ⟨b, off, none⟩).run c.P w = .ok v' w → (execOp a.eval o).run c.P w = .ok (.value v') w := fun v' hv' => by
     simp only [execOp, h]
     refine aG ?_
     rw [hp]
     simp only [Instr.loadAt, Instr.sureAddr, Sem.run_bind, Sem.run_pure, Result.andThen]
     exact hv'
    rcases h2 with ⟨rfl, h3, rfl⟩ | ⟨rfl, rest, h3⟩
    ·refine ⟨.agg ((arr.toList.drop off).take n).toArray, run _ ?_, by simp only [VR]; exact ⟨_, rfl, by simpa using hpart⟩, fun r hr => by simpa [owns] using hr, fun x => by simp [owns]⟩
     simp only [loadVar, Sem.run_bind, nE ht, ha, Result.andThen, if_true, iD hn]
     have hn' : n = ((arr.toList.drop off).take n).length := by omega
     conv => lhs; rw [hn']
     rw [run_loadCells_list w ⟨b, off, none⟩ ((arr.toList.drop off).take n) (fun j x hj => by
      have hlt : j < ((arr.toList.drop off).take n).length := (List.getElem?_eq_some_iff.1 hj).1
      rw [zu _ rfl, hread j hlt, hj])]
     rfl
    ·rw [h3] at hpart
     simp only [VRs] at hpart
     obtain ⟨v', us, h4, h5, _⟩ := hpart
     rw [h3, h4]
     refine ⟨v', run _ ?_, h5, fun r hr => by simp [aC, hr], fun x => by simp [aC, ax]⟩
     have h0 := hread 0 (by rw [h4]; simp)
     rw [h4] at h0
     simp only [Nat.add_zero, List.getElem?_cons_zero] at h0
     simp only [loadVar, Sem.run_bind, nE ht, ha, Result.andThen, Bool.false_eq_true, if_false, run_load, h0]
   obtain ⟨v', hrun, hvr, hm1, hm2⟩ := hval
   by_cases hfit : off + (disownL ((cs.drop off).take n)).length ≤ cs.length
   ·have eset : setCells cs off (disownL ((cs.drop off).take n)) = cs.take off ++ (disownL ((cs.drop off).take n) ++ (cs.drop off).drop n) := by
     rw [setCells_eq _ _ _ hfit, List.append_assoc, sN, List.drop_drop]
     congr 2
     simp only [List.length_take, List.length_drop]
     by_cases hh : off + n ≤ cs.length
     ·rw [Nat.min_eq_left (by omega)]
     ·rw [Nat.min_eq_right (by omega), List.drop_eq_nil_of_le (by omega), List.drop_eq_nil_of_le (by omega)]
    have hvs' : VRs g w (setCells cs off (disownL ((cs.drop off).take n))) arr.toList := by
     rw [eset]
     conv => arg 4; rw [earr]
     exact (hvs.take off).append ((VRs.disown _ _ hpart).append ((hvs.drop off).drop n))
    have hO' : aC (setCells cs off (disownL ((cs.drop off).take n))) arr.toList = aC (cs.take off) (arr.toList.take off) ++ aC ((cs.drop off).drop n) ((arr.toList.drop off).drop n) := by
     rw [eset]
     conv => lhs; rw [earr]
     rw [zA hl1, zA (by rw [sN]; exact hplen), tY, List.nil_append]
    have hc := hs.core
    rw [List.nil_append] at hc
    obtain ⟨e1, e2, e3⟩ := hc.setObj (w' := w) (os' := owns v v' ++ af s 0 a.tmps.toList) hob hb hw hw rfl (fun _ _ => rfl) rfl rfl rfl rfl hvs' (fun x => by
     have := hm2 x
     rw [hO, hO']
     simp only [ax]
     omega) (fun r hr => by
     rw [hO]
     rw [hO'] at hr
     simp only [List.mem_append] at hr ⊢
     rcases hr with (hr | hr) | hr | hr
     ·exact .inr (.inr (.inl (hm1 r hr)))
     ·exact .inl hr
     ·exact .inr (.inl hr)
     ·exact .inr (.inr (.inr hr)))
    refine ⟨v', g, w, hrun, hvr, hpre, ⟨hs.size, fun t' => hs.slots t', ?_⟩, e2⟩
    rw [bC]
    exact e3
   ·
    exfalso
    rw [sN, List.length_take, List.length_drop] at hfit
    rcases h2 with ⟨_, h3, _⟩ | ⟨_, rest, h3⟩
    ·rw [List.length_take, List.length_drop] at h3
     omega
    ·have : 0 < ((cs.drop off).take n).length := by rw [h3]; simp
     rw [List.length_take, List.length_drop] at this
     omega
  ·exact absurd hr (by simp)
 ·exact absurd hr (by simp)
theorem Q0 {g : Gh} {w : World} {place : Nat → Option (Nat × Nat)} : ∀ (ps : List (Nat × Nat)) (is : List Nat) (vs : List AV) (us : List Value) (cs cs' : List AV) (cells : Array Value), VRs g w vs us → VRs g w cs cells.toList → D8 cs ps vs = some cs' → is.length = ps.length → (∀ (j i : Nat) (q : Nat × Nat), is[j]? = some i → ps[j]? = some q → place i = some q) →
 ∃ cells', Instr.fill place cells (is.zip us) = some cells' ∧ VRs g w cs' cells'.toList ∧ (∀ b, oc b (aC cs' cells'.toList) ≤ oc b (aC vs us) + oc b (aC cs cells.toList)) ∧ ∀ r, r ∈ aC cs' cells'.toList → r ∈ aC vs us ∨ r ∈ aC cs cells.toList
 | [], is, vs, us, cs, cs', cells, hv, hc, hp, hl, _ => by
  have : is = [] := List.length_eq_zero_iff.1 (by simpa using hl)
  subst this
  cases vs with
  | nil => simp only [D8] at hp; injection hp with hp; subst hp; exact ⟨cells, rfl, hc, fun b => by omega, fun r hr => .inr hr⟩
  | cons v vs => simp [D8] at hp
 | q :: ps, [], vs, us, cs, cs', cells, hv, hc, hp, hl, _ => by simp at hl
 | (off, n) :: ps, i :: is, [], us, cs, cs', cells, hv, hc, hp, hl, _ => by simp [D8] at hp
 | (off, n) :: ps, i :: is, v :: vs, us, cs, cs', cells, hv, hc, hp, hl, hplace => by
  simp only [D8] at hp
  obtain ⟨h1, hp⟩ | ⟨_, hp⟩ := ae hp
  case inr => exact absurd hp (by simp)
  simp only [Bool.and_eq_true] at h1
  obtain ⟨⟨h1, h2⟩, h3⟩ := h1
  have h1 := Nat.eq_of_beq_eq_true h1
  have h3 := Nat.le_of_ble_eq_true h3
  simp only [VRs] at hv
  obtain ⟨u, us', rfl, hv1, hv2⟩ := hv
  obtain ⟨h4, _, h5⟩ := Ed hv1 h2
  have hul := h4.length
  have hcl := hc.length
  simp only [Array.length_toList] at hul hcl
  have hfold : ∀ (l : List Value) (j : Nat) (arr : Array Value), ((l.zipIdx j).foldl (fun cs (x : Value × Nat) => cs.setIfInBounds (off + x.2) x.1) arr).toList = putCells arr.toList (off + j) l := by
   intro l
   induction l with
   | nil => intro j arr; rfl
   | cons y l ih =>
    intro j arr
    simp only [List.zipIdx_cons, List.foldl_cons, putCells]
    rw [ih]
    simp [Array.toList_setIfInBounds, Nat.add_assoc]
  have hcells : (u.cells.zipIdx.foldl (fun cs (x : Value × Nat) => cs.setIfInBounds (off + x.2) x.1) cells).toList = putCells cells.toList off u.cells.toList := by
   rw [← Array.foldl_toList, Array.toList_zipIdx]
   simpa using hfold u.cells.toList 0 cells
  have hput : VRs g w (setCells cs off (cellsOf v)) (u.cells.zipIdx.foldl (fun cs (x : Value × Nat) => cs.setIfInBounds (off + x.2) x.1) cells).toList := by
   rw [hcells]
   exact h4.setCells off hc
  obtain ⟨cells', k1, k2, k3, k4⟩ := Q0 ps is vs us' _ cs' _ hv2 hput hp (by simpa using hl) (fun j i q hj hq => hplace (j + 1) i q (by simpa using hj) (by simpa using hq))
  obtain ⟨m1, m2⟩ := Ee (us := cellsOf v) (vs := u.cells.toList) (cs := cs) (ws := cells.toList) off (by simpa using hul)
  rw [h5] at m1 m2
  rw [hcells] at k3 k4
  refine ⟨cells', ?_, k2, fun b => ?_, fun r hr => ?_⟩
  ·have hpl := hplace 0 i (off, n) rfl rfl
   simp only [List.zip_cons_cons, Instr.fill, hpl]
   have hne : ¬ ((u.cells.size ≠ n || decide (off + u.cells.size > cells.size)) = true) := by
    simp only [Bool.or_eq_true, decide_eq_true_eq, not_or]
    omega
   rw [if_neg hne]
   exact k1
  ·have := k3 b; have := m1 b
   simp only [aC, ax]
   omega
  ·simp only [aC, List.mem_append]
   rcases k4 r hr with h | h
   ·exact .inl (.inr h)
   ·rcases m2 r h with h | h
    ·exact .inl (.inl h)
    ·exact .inr h
def placesOf (P : Program) (fs : Array Field) : Option (List (Nat × Nat)) := fs.toList.mapM fun f => (P.info? f.type).map fun i => (f.offset, i.size)
def Cc : List (Nat × Nat × AX) → List (Nat × Operand) → List (Nat × Nat) → Bool
 | [], [], _ => true
 | (off, n, x) :: ps, (i, p) :: qs, pl => decide (pl[i]? = some (off, n)) && bA x p && Cc ps qs pl
 | _, _, _ => false
theorem M5 : ∀ {ps : List (Nat × Nat × AX)} {qs : List (Nat × Operand)} {pl : List (Nat × Nat)}, Cc ps qs pl = true → wU (ps.map fun p => p.2.2) (qs.map fun q => q.2) = true ∧ (qs.map fun q => q.1).length = (ps.map fun p => (p.1, p.2.1)).length ∧ ∀ (j i : Nat) (q : Nat × Nat), (qs.map fun q => q.1)[j]? = some i → (ps.map fun p => (p.1, p.2.1))[j]? = some q → pl[i]? = some q
 | [], [], _, _ => ⟨rfl, rfl, fun j i q h => by simp at h⟩
 | [], _ :: _, _, h => by simp [Cc] at h
 | (_, _, _) :: _, [], _, h => by simp [Cc] at h
 | (off, n, x) :: ps, (i, p) :: qs, pl, h => by
  simp only [Cc, Bool.and_eq_true, decide_eq_true_eq] at h
  obtain ⟨⟨h1, h2⟩, h3⟩ := h
  obtain ⟨h4, h5, h6⟩ := M5 h3
  refine ⟨by simp [wU, h2, h4], by simpa using h5, fun j i' q hj hq => ?_⟩
  cases j with
  | zero => simp at hj hq; subst hj; subst hq; exact h1
  | succ j => exact h6 j i' q (by simpa using hj) (by simpa using hq)
theorem XA {zero : List AV} {ps : List (Nat × Nat × AX)} {qs : List (Nat × Operand)} {t : TypeId} {fs : Array Field} {pl : List (Nat × Nat)} {zr : Value} (h : o.op = .build t qs.toArray) (ht : c.P.underlying t = some (.struct fs)) (hz : (c.P.info? t).bind (·.zero) = some zr) (hpl : placesOf c.P fs = some pl) (hf : K3 zero zr.cells.toList = true) (hx : Cc ps qs pl = true) : bK c (.build zero ps) o := by
 obtain ⟨hx1, hx2, hx3⟩ := M5 hx
 obtain ⟨it, hi1, hi2⟩ := Option.bind_eq_some_iff.1 hz
 intro s R k r hr
 simp only [AOp.run] at hr
 obtain ⟨cs', h1, h2⟩ := Option.bind_eq_some_iff.1 hr
 refine ⟨_, _, h2, OpSem.run fun F g a w B hB hpre hs => ?_⟩
 obtain ⟨h3, h4⟩ := AX.oks hs hx1
 obtain ⟨h5, h6⟩ := Iw g w zero zr.cells.toList hf
 obtain ⟨cells', k1, k2, k3, k4⟩ := Q0 (place := fun i => pl.toArray[i]?) _ (qs.map fun q => q.1) _ _ zero cs' zr.cells h3 h5 h1 hx2 (fun j i q hj hq => by simpa using hx3 j i q hj hq)
 rw [h6] at k3 k4
 refine ⟨.agg cells', g, w, ?_, by simp only [VR]; exact ⟨_, rfl, k2⟩, hpre, h4.less (fun r hr => ?_) (fun b => ?_), Step.refl _ _ _⟩
 ·simp only [execOp, h]
  refine aG (run_build w t _ cells' ?_)
  have hparts : (qs.toArray.map fun (x : Nat × Operand) => (x.1, a.eval x.2)).toList = (qs.map fun q => q.1).zip ((qs.map fun q => q.2).map a.eval) := by
   simp [List.zip_map', List.map_map, Function.comp_def, List.zip_map]
  unfold Program.built
  unfold placesOf at hpl
  rw [hi1, ht]
  simp only [hi2, hpl]
  exact (congrArg (Instr.fill (fun i => pl.toArray[i]?) zr.cells) hparts).trans k1
 ·simp only [owns] at hr
  exact List.mem_append_left _ ((k4 r hr).resolve_right (by simp))
 ·have := k3 b
  simp only [owns, ax, nO] at this ⊢
  omega
end Go.Sh
namespace Go.Sh
open Go.RowKit
set_option linter.unusedSimpArgs false
set_option linter.unusedVariables false
theorem Core.below {F : Nat → Prop} {g : Gh} {H : List AObj} {os : List Rec} {w w' : World} (h : Core F g H os w) (hb : Below w.heap.size w w') : Ext g w g w' ∧ Step F g w g w' ∧ Core F g H os w' := by
 have ext : Ext g w g w' := ⟨fun b j hj => cell_of (hb.block b (h.lenlt b (by omega))) j, fun b hb' => qY (hb.block b (h.lenlt b hb')), UL hb.block, fun _ => Nat.le_refl _, fun _ _ h => h⟩
 have hobj := ObjsR.move ext H g.obj h.heap (fun b hb' => hb.block b (h.heap.lt b hb'))
 refine ⟨ext, ⟨ext.cell, ext.ty, ext.bsz, ext.len, fun b hF => ⟨hb.block b (h.flt b hF), rfl⟩, hb.size, hb.os, hb.tape, hb.output⟩, hobj.1, fun r hr => ?_, fun b => ?_, fun b hF => ?_, h.objlen, fun b hl => Nat.lt_of_lt_of_le (h.lenlt b hl) hb.size, fun b hF => Nat.lt_of_lt_of_le (h.flt b hF) hb.size, h.good.step (fun _ h => h) fun b hF => hb.block b (h.flt b hF)⟩
 ·rw [hobj.2] at hr
  have h1 := h.own r hr
  have h2 := h1.lt
  obtain ⟨o1, o2, arr, t, o3, o4⟩ := h1
  exact ⟨o1, o2, arr, t, o3.of_heap (hb.block _ h2), o4⟩
 ·rw [hobj.2]; exact h.dist b
 ·rw [hobj.2]; exact h.notF b hF
theorem Pn {P : Program} {f : FuncId} {sp : FSpec} (he : ∀ (args : Array Value) (w : World), (callFunc f args).run P w = .ok (.enter f args) w)
 (h : ∀ (args : List AV) (H : List AObj) (R : Type) (k : AV → List AObj → Option R) (r : R), sp args H R k = some r → ∃ v, k v H = some r ∧ ∀ (g : Gh) (w : World) (vs : List Value), (∃ bs : Array Obj, GdH bs ∧ ∀ b, b < bs.size → w.heap[b]? = bs[b]?) → (∀ b, 0 < g.len b → b < w.heap.size) → VRs g w args vs →
  Calls P f vs.toArray w fun e w' => ∃ v', e = .returned v' ∧ owns v v' = [] ∧ (∀ (g : Gh) (w : World), VR g w v v') ∧ Below w.heap.size w w') : FSound P f sp := by
 refine ⟨he, fun args H R k r hr => ?_⟩
 obtain ⟨v, h1, h2⟩ := h args H R k r hr
 refine ⟨v, H, h1, fun F g vs w hvs hc => ?_⟩
 obtain ⟨bs, hb1, hb2⟩ := hc.good
 refine (h2 g w vs ⟨bs, hb1, fun b hb => (hb2 b hb).2⟩ hc.lenlt hvs).mono ?_
 rintro e w' ⟨v', rfl, h3, h4, hb⟩
 obtain ⟨k1, k2, k3⟩ := (hc.weaken (os' := owns v v') (fun r hr => by rw [h3] at hr; cases hr) (fun b => by rw [h3]; simp [nO])).below hb
 exact ⟨v', g, rfl, h4 _ _, List.prefix_refl _, k3, k2⟩
theorem Lj {P : Program} {f : FuncId} {sp : FSpec} (he : ∀ (args : Array Value) (w : World), (callFunc f args).run P w = .ok (.enter f args) w)
 (h : ∀ (args : List AV) (H : List AObj) (R : Type) (k : AV → List AObj → Option R) (r : R), sp args H R k = some r → ∃ v, k v H = some r ∧ ∀ (g : Gh) (w : World) (vs : List Value), (∀ b, 0 < g.len b → b < w.heap.size) → VRs g w args vs →
  ∃ v', owns v v' = [] ∧ (∀ (g : Gh) (w : World), VR g w v v') ∧ Calls P f vs.toArray w fun e w' => e = .returned v' ∧ Below w.heap.size w w') : FSound P f sp := by
 refine ⟨he, fun args H R k r hr => ?_⟩
 obtain ⟨v, h1, h2⟩ := h args H R k r hr
 refine ⟨v, H, h1, fun F g vs w hvs hc => ?_⟩
 obtain ⟨v', h3, h4, h5⟩ := h2 g w vs hc.lenlt hvs
 refine h5.mono ?_
 rintro e w' ⟨rfl, hb⟩
 obtain ⟨_, k2, k3⟩ := (hc.weaken (os' := []) (fun r hr => by simp at hr) (fun b => by simp [nO])).below hb
 exact ⟨v', g, rfl, h4 g w', List.prefix_refl _, by rw [h3]; exact k3, k2⟩
theorem Dk {g : Gh} {w : World} {vs : List Value} (h : VRs g w [] vs) : vs = [] := by simpa only [VRs] using h
theorem xu {g : Gh} {w : World} {a : AV} {az : List AV} {vs : List Value} (h : VRs g w (a :: az) vs) : ∃ v us, vs = v :: us ∧ VR g w a v ∧ VRs g w az us := by simpa only [VRs] using h
theorem Oq {g : Gh} {w : World} {l : Str} {v : Value} (h : VR g w (.str l) v) : ∃ s : ByteArray, v = .string s ∧ s.data.toList = l := by simpa only [VR] using h
theorem VO (s : Str) : owns (.str s) (.string ⟨s.toArray⟩) = [] ∧ ∀ (g : Gh) (w : World), VR g w (.str s) (.string ⟨s.toArray⟩) := ⟨rfl, fun g w => by simp only [VR]; exact ⟨_, rfl, by simp⟩⟩
theorem Core.XB {F : Nat → Prop} {g : Gh} {H : List AObj} {os : List Rec} {w : World} {gb : Nat} {ob : AObj} (h : Core F g H os w) (hfree : oc gb os + oc gb (aU w H g.obj) + (lives H g.obj).count gb = 0) (hF : ¬ F gb) (hl0 : g.len gb = 0) (hO : jo w gb ob = []) (hR : ObjR ⟨g.obj ++ [gb], g.len⟩ w gb ob) : Core F ⟨g.obj ++ [gb], g.len⟩ (H ++ [ob]) os w := by
 have ext : Ext g w ⟨g.obj ++ [gb], g.len⟩ w := ⟨fun _ _ _ => rfl, fun _ _ => rfl, fun _ => Nat.le_refl _, fun _ => Nat.le_refl _, fun i b hi => by
  simp only
  rw [List.getElem?_append_left (List.getElem?_eq_some_iff.1 hi).1]; exact hi⟩
 have hobj := ObjsR.move ext H g.obj h.heap (fun _ _ => rfl)
 have hH : aU w (H ++ [ob]) (g.obj ++ [gb]) = aU w H g.obj := by rw [wL (g := g) h.heap.length, hO, List.append_nil]
 refine ⟨hobj.1.append hR, fun r hr => ?_, fun b => ?_, fun b hb => ?_, fun b hb => ?_, h.lenlt, h.flt, h.good⟩
 ·simp only at hr
  rw [hH] at hr
  exact h.own r hr
 ·simp only
  rw [hH, jb h.heap.length, List.count_append]
  have := h.dist b
  have h9 := DW gb b ob
  by_cases e : gb = b
  ·subst e; omega
  ·have := h9.2 (Ne.symm e)
   omega
 ·simp only
  rw [hH, jb h.heap.length, List.count_append]
  have := h.notF b hb
  have e : gb ≠ b := fun e => hF (e ▸ hb)
  have := (DW gb b ob).2 (Ne.symm e)
  omega
 ·simp only at hb ⊢
  rw [jb h.heap.length] at hb
  rcases List.mem_append.1 hb with hb | hb
  ·exact h.objlen b hb
  ·have : b = gb := by
    revert hb
    cases ob.dead <;> simp
   subst this
   exact hl0
theorem Core.NH {F : Nat → Prop} {g : Gh} {H : List AObj} {os : List Rec} {w : World} {ob : AObj} (h : Core F g H os w) (gb : Nat) (hd : ob.dead = true) : Core F ⟨g.obj ++ [gb], g.len⟩ (H ++ [ob]) os w := by
 have ext : Ext g w ⟨g.obj ++ [gb], g.len⟩ w := ⟨fun _ _ _ => rfl, fun _ _ => rfl, fun _ => Nat.le_refl _, fun _ => Nat.le_refl _, fun i b hi => by
  simp only
  rw [List.getElem?_append_left (List.getElem?_eq_some_iff.1 hi).1]; exact hi⟩
 have hobj := ObjsR.move ext H g.obj h.heap (fun _ _ => rfl)
 have hH : aU w (H ++ [ob]) (g.obj ++ [gb]) = aU w H g.obj := by rw [wL (g := g) h.heap.length, oN hd, List.append_nil]
 have hL : lives (H ++ [ob]) (g.obj ++ [gb]) = lives H g.obj := by rw [jb h.heap.length, hd]; simp
 refine ⟨hobj.1.append (DV hd), fun r hr => ?_, fun b => ?_, fun b hb => ?_, fun b hb => ?_, h.lenlt, h.flt, h.good⟩
 ·simp only at hr
  rw [hH] at hr
  exact h.own r hr
 ·simp only
  rw [hH, hL]; exact h.dist b
 ·simp only
  rw [hH, hL]; exact h.notF b hb
 ·simp only at hb ⊢
  rw [hL] at hb
  exact h.objlen b hb
end Go.Sh
namespace Go.Sh
open Go.RowKit
set_option linter.unusedSimpArgs false
set_option linter.unusedVariables false
variable {c : Cx} {o : Oper}
theorem TT {t : TypeId} (h : o.op = .makeMap t none) : bK c .makeMap o := by
 intro s R k r hr
 simp only [AOp.run] at hr
 refine ⟨_, _, hr, OpSem.run fun F g a w B hB hpre hs => ?_⟩
 have hc := hs.core
 obtain ⟨g', e1, e2, e3, e4⟩ := Core.ND (os0 := []) (ob := .map []) (w' := w.alloc (.map #[] 0)) hc (fun k hk => heap_alloc_old w _ (h := hk)) (by simp) rfl rfl rfl rfl
  (fun g' _ => by simp only [ObjR]; exact ⟨#[], 0, heap_alloc_new w _, by simp [EntR]⟩)
 refine ⟨.map (some w.heap.size), g', w.alloc (.map #[] 0), ?_, ?_, by rw [e1]; exact hpre.trans (List.prefix_append _ _), ?_, e3⟩
 ·simp [execOp, h, run_makeMap]
 ·simp only [VR]
  refine ⟨_, rfl, ?_⟩
  rw [e1, hs.core.heap.length]
  simp
 ·exact ⟨hs.size, fun t' => VR.ext e2 _ _ (hs.slots t'), by rw [bC]; exact e4⟩
def R5 : TypeDesc → AV → Bool
 | .int _, .int _ _ => true
 | .string, .str _ => true
 | _, _ => false
theorem UV (a b : ByteArray) : (a == b) = (a.data.toList == b.data.toList) := by
 have h1 : (a == b) = (a.data == b.data) := rfl
 rw [h1, Bool.eq_iff_iff, beq_iff_eq, beq_iff_eq]
 exact Array.toList_inj.symm
theorem Kt {R : Type} {key : AV} {kf : Nat → AV → Option R} {kn : Option R} {r : R} {kd : TypeDesc} (hkd : R5 kd key = true) : ∀ {es : List (AV × AV)} {i : Nat}, NQ key es i kf kn = some r →
 (∃ j k v, es[j]? = some (k, v) ∧ kf (i + j) v = some r ∧ ∀ (g : Gh) (w : World) (kv : Value) (l : List MapEntry), VR g w key kv → EntR g w es l → ∃ e, l[j]? = some e ∧ VR g w v e.val ∧ Instr.findNow kd kv l i = some (some (i + j, e.val)) ∧ VR g w key e.key) ∨
 (kn = some r ∧ ∀ (g : Gh) (w : World) (kv : Value) (l : List MapEntry), VR g w key kv → EntR g w es l → Instr.findNow kd kv l i = some none)
 | [], i, h => .inr ⟨h, fun g w kv l hk he => by simp only [EntR] at he; subst he; rfl⟩
 | (k, v) :: es, i, h => by
  simp only [NQ] at h
  have go : ∀ (b : Bool), cond b (kf i v) (NQ key es (i + 1) kf kn) = some r → (∀ (g : Gh) (w : World) (kv : Value) (e : MapEntry), VR g w key kv → VR g w k e.key → Instr.sameNow kd kv e.key = some b ∧ (b = true → VR g w key e.key)) →
   (∃ j k' v', ((k, v) :: es)[j]? = some (k', v') ∧ kf (i + j) v' = some r ∧ ∀ (g : Gh) (w : World) (kv : Value) (l : List MapEntry), VR g w key kv → EntR g w ((k, v) :: es) l → ∃ e, l[j]? = some e ∧ VR g w v' e.val ∧ Instr.findNow kd kv l i = some (some (i + j, e.val)) ∧ VR g w key e.key) ∨
   (kn = some r ∧ ∀ (g : Gh) (w : World) (kv : Value) (l : List MapEntry), VR g w key kv → EntR g w ((k, v) :: es) l → Instr.findNow kd kv l i = some none) := by
   intro b hb hs
   cases b with
   | true =>
    refine .inl ⟨0, k, v, rfl, hb, fun g w kv l hk he => ?_⟩
    simp only [EntR] at he
    obtain ⟨e, rest, rfl, e1, e2, e3⟩ := he
    obtain ⟨h1, h2⟩ := hs g w kv e hk e1
    exact ⟨e, rfl, e2, by simp [Instr.findNow, h1], h2 rfl⟩
   | false =>
    rcases Kt hkd (es := es) (i := i + 1) hb with ⟨j, k', v', h1, h2, h3⟩ | ⟨h1, h2⟩
    ·refine .inl ⟨j + 1, k', v', by simpa using h1, by rw [show i + (j + 1) = i + 1 + j by omega]; exact h2, fun g w kv l hk he => ?_⟩
     simp only [EntR] at he
     obtain ⟨e, rest, rfl, e1, e2, e3⟩ := he
     obtain ⟨h4, _⟩ := hs g w kv e hk e1
     obtain ⟨e', h5, h6, h7, h8⟩ := h3 g w kv rest hk e3
     refine ⟨e', by simpa using h5, h6, ?_, h8⟩
     rw [show i + (j + 1) = i + 1 + j by omega]
     simp only [Instr.findNow, h4]
     exact h7
    ·refine .inr ⟨h1, fun g w kv l hk he => ?_⟩
     simp only [EntR] at he
     obtain ⟨e, rest, rfl, e1, e2, e3⟩ := he
     obtain ⟨h4, _⟩ := hs g w kv e hk e1
     simp only [Instr.findNow, h4]
     exact h2 g w kv rest hk e3
  split at h
  ·rename_i k1 x k2 y
   obtain ⟨h1, h2⟩ | ⟨_, h2⟩ := ae h
   case inr => exact absurd h2 (by simp)
   simp only [decide_eq_true_eq] at h1
   subst h1
   refine go _ h2 (fun g w kv e hk he => ?_)
   simp only [VR] at hk he
   subst hk
   rw [he]
   cases kd <;> simp [R5] at hkd
   simp only [Instr.sameNow, if_true, true_and]
   intro hb
   simp only [beq_iff_eq] at hb
   subst hb
   simp [VR]
  ·rename_i x y
   refine go _ h (fun g w kv e hk he => ?_)
   simp only [VR] at hk he
   obtain ⟨s1, rfl, rfl⟩ := hk
   obtain ⟨s2, he, rfl⟩ := he
   rw [he]
   cases kd <;> simp [R5] at hkd
   simp only [Instr.sameNow, UV, true_and]
   intro hb
   simp only [beq_iff_eq] at hb
   simp only [VR]
   exact ⟨_, rfl, hb.symm⟩
  ·exact absurd h (by simp)
theorem Po {P : Program} {kt : TypeId} {kd : TypeDesc} (hk : P.underlying kt = some kd) {key : AV} (hkd : R5 kd key = true) (b : Bool) (n : Nat) (w : World) (v : Value) : (Instr.checkKey b (n + 1) kt v).run P w = .ok () w := by
 simp only [Instr.checkKey, Sem.run_bind, run_underlying hk, Result.andThen]
 cases kd <;> simp [R5] at hkd <;> cases v <;> rfl
theorem Ce {P : Program} {kt : TypeId} {kd : TypeDesc} (hk : P.underlying kt = some kd) {key : AV} (hkd : R5 kd key = true) (b : Bool) (w : World) (v : Value) : (Instr.checkKey b 10000 kt v).run P w = .ok () w := Po hk hkd b 9999 w v
theorem Eo {P : Program} {kt : TypeId} {kd : TypeDesc} (hk : P.underlying kt = some kd) {v : Value} {l : List MapEntry} {x : Option (Nat × Value)} (h : Instr.findNow kd v l 0 = some x) (w : World) : (Instr.findKey kt v l).run P w = .ok x w := by
 simp only [Instr.findKey, Sem.run_bind, run_underlying hk, Result.andThen, h, Sem.run_pure]
theorem G6 {P : Program} {w : World} {r : Nat} {es : Array MapEntry} {cl : Nat} (h : w.heap[r]? = some (.map es cl)) : (getObj r).run P w = .ok (.map es cl) w := by
 simp [getObj, Sem.run, h]
def XC (int : Bool) : TypeDesc → Bool
 | .int _ => int
 | .string => !int
 | _ => false
theorem TU {int : Bool} {key : AV} {kd : TypeDesc} (h : QN int key = true) (hk : XC int kd = true) : R5 kd key = true := by
 cases kd <;> simp [XC] at hk <;> subst hk <;> cases key <;> simp [QN] at h <;> rfl
theorem Ku {ok : Bool} {v : AV} {b : Bool} (u : Value) : owns (NR ok v b) (if ok then .tuple #[u, .bool b] else u) = [] := by
 cases ok
 ·exact ma _ _
 ·simp [NR, owns, aC, ma]
theorem Ot {g : Gh} {w : World} {ok : Bool} {v : AV} {b : Bool} {u : Value} (h : VR g w v u) : VR g w (NR ok v b) (if ok then .tuple #[u, .bool b] else u) := by
 cases ok
 ·exact VR.disown _ _ h
 ·simp only [NR, VR]
  exact ⟨_, rfl, by simp only [VRs, VR]; exact ⟨u, _, rfl, VR.disown _ _ h, .bool b, [], rfl, rfl, rfl⟩⟩
theorem VP {int ok : Bool} {zero : AV} {m key : AX} {p q : Operand} {t kt et : TypeId} {kd : TypeDesc} {zr : Value} (h : o.op = .lookup t p q ok) (ht : c.P.underlying t = some (.map kt et)) (hk : c.P.underlying kt = some kd) (hkd : XC int kd = true) (hz : (c.P.info? et).bind (·.zero) = some zr) (hf : KZ zero zr = true) (hm : bA m p = true) (hx : bA key q = true) : bK c (.lookup int ok zero m key) o := by
 refine ek fun s R k r hr => ?_
 obtain ⟨it, hz1, hz2⟩ := Option.bind_eq_some_iff.1 hz
 have hzero : ∀ w : World, (zeroValue et).run c.P w = .ok zr w := fun w => by simp [zeroValue, typeInfo, hz1, hz2]
 simp only [AOp.run] at hr
 split at hr
 ·rename_i hv
  obtain ⟨h1, h2⟩ | ⟨_, h2⟩ := ae hr
  case inr => exact absurd h2 (by simp)
  have hkd' := TU h1 hkd
  refine ⟨_, h2, fun F g a w hs => ?_⟩
  have hp := aj hs hm
  rw [hv] at hp
  simp only [VR] at hp
  refine ⟨if ok then .tuple #[zr, .bool false] else zr, ?_, Ot (K4 g w zero zr hf).1, Ku _⟩
  simp only [execOp, h]
  refine aG ?_
  rw [hp]
  have hfk := Eo (P := c.P) hk (v := a.eval q) (l := []) (x := none) rfl w
  simp only [Instr.lookup, Sem.run_bind, run_underlying ht, Result.andThen, Sem.run_pure, Ce hk hkd', hfk, hzero]
 ·rename_i id hv
  split at hr
  ·rename_i es hob
   obtain ⟨h1, h2⟩ | ⟨_, h2⟩ := ae hr
   case inr => exact absurd h2 (by simp)
   have hkd' := TU h1 hkd
   rcases Kt hkd' h2 with ⟨j, k', v, h3, h4, h5⟩ | ⟨h3, h4⟩
   ·refine ⟨_, h4, fun F g a w hs => ?_⟩
    have hp := aj hs hm
    have hq := aj hs hx
    rw [hv] at hp
    simp only [VR] at hp
    obtain ⟨b, hp, hb⟩ := hp
    have hobj := aY hs.core.heap id b _ hob hb
    simp only [ObjR] at hobj
    obtain ⟨en, cl, hw, hes⟩ := hobj
    obtain ⟨e, h6, h7, h8, _⟩ := h5 g w (a.eval q) en.toList hq hes
    refine ⟨if ok then .tuple #[e.val, .bool true] else e.val, ?_, Ot h7, Ku _⟩
    simp only [execOp, h]
    refine aG ?_
    rw [hp]
    have hfk := Eo (P := c.P) hk h8 w
    simp only [Instr.lookup, Sem.run_bind, run_underlying ht, Result.andThen, Sem.run_pure, G6 hw, Ce hk hkd', hfk]
   ·refine ⟨_, h3, fun F g a w hs => ?_⟩
    have hp := aj hs hm
    have hq := aj hs hx
    rw [hv] at hp
    simp only [VR] at hp
    obtain ⟨b, hp, hb⟩ := hp
    have hobj := aY hs.core.heap id b _ hob hb
    simp only [ObjR] at hobj
    obtain ⟨en, cl, hw, hes⟩ := hobj
    have h8 := h4 g w (a.eval q) en.toList hq hes
    refine ⟨if ok then .tuple #[zr, .bool false] else zr, ?_, Ot (K4 g w zero zr hf).1, Ku _⟩
    simp only [execOp, h]
    refine aG ?_
    rw [hp]
    have hfk := Eo (P := c.P) hk h8 w
    simp only [Instr.lookup, Sem.run_bind, run_underlying ht, Result.andThen, Sem.run_pure, G6 hw, Ce hk hkd', hfk, hzero]
  ·exact absurd hr (by simp)
 ·exact absurd hr (by simp)
theorem EntR.set {g : Gh} {w : World} {k v : AV} {e : MapEntry} (hk : VR g w k e.key) (hv : VR g w v e.val) : ∀ {es : List (AV × AV)} {l : List MapEntry} (i : Nat), EntR g w es l → EntR g w (es.set i (k, v)) (l.set i e)
 | [], l, i, h => by simp only [EntR] at h; subst h; simp [EntR]
 | (k0, v0) :: es, l, i, h => by
  obtain ⟨x, rest, rfl, e1, e2, e3⟩ := h
  cases i with
  | zero => exact ⟨e, rest, rfl, hk, hv, e3⟩
  | succ i => exact ⟨x, _, rfl, e1, e2, EntR.set hk hv i e3⟩
theorem EntR.push {g : Gh} {w : World} {k v : AV} {e : MapEntry} (hk : VR g w k e.key) (hv : VR g w v e.val) : ∀ {es : List (AV × AV)} {l : List MapEntry}, EntR g w es l → EntR g w (es ++ [(k, v)]) (l ++ [e])
 | [], l, h => by simp only [EntR] at h; subst h; exact ⟨e, [], rfl, hk, hv, rfl⟩
 | (k0, v0) :: es, l, h => by
  obtain ⟨x, rest, rfl, e1, e2, e3⟩ := h
  exact ⟨x, _, rfl, e1, e2, EntR.push hk hv e3⟩
theorem G7 {P : Program} {w : World} {r : Nat} {en : Array MapEntry} {cl : Nat} (h : w.heap[r]? = some (.map en cl)) (ob : Obj) : (setObj r ob).run P w = .ok () { w with heap := w.heap.setIfInBounds r ob } := by
 simp only [setObj, Sem.run, h]
theorem XD {g : Gh} {w : World} {int : Bool} {key : AV} {a b : Value} (h : QN int key = true) (ha : VR g w key a) (hb : VR g w key b) : a = b := by
 cases int <;> cases key <;> simp [QN] at h
 ·simp only [VR] at ha hb
  obtain ⟨s1, rfl, h1⟩ := ha
  obtain ⟨s2, rfl, h2⟩ := hb
  have : s1.data = s2.data := Array.toList_inj.1 (h1.trans h2.symm)
  cases s1; cases s2; simp_all
 ·simp only [VR] at ha hb
  rw [ha, hb]
theorem FI {P : Program} {w : World} {g : Gh} {int : Bool} {key : AV} {a : Value} (h : QN int key = true) (ha : VR g w key a) : (Instr.keyThatStays a a).run P w = .ok a w := by
 have gen : ∀ n, Instr.sameBits n a a = true := by
  intro n
  cases int <;> cases key <;> simp [QN] at h
  ·simp only [VR] at ha
   obtain ⟨s1, rfl, h1⟩ := ha
   cases n <;> simp [Instr.sameBits, UV]
  ·simp only [VR] at ha
   subst ha
   cases n <;> simp [Instr.sameBits]
 unfold Instr.keyThatStays
 rw [gen, if_pos rfl]
 rfl
theorem VQ {int : Bool} {m key x : AX} {p q u : Operand} {t kt et : TypeId} {kd : TypeDesc} (h : o.op = .insert t p q u ∨ o.op = .mapUpdate t p q u) (ht : c.P.underlying t = some (.map kt et)) (hk : c.P.underlying kt = some kd) (hkd : XC int kd = true) (hm : bA m p = true) (hx : bA key q = true) (hu : bA x u = true) : bK c (.mapPut int m key x) o := by
 intro s R k r hr
 simp only [AOp.run] at hr
 split at hr
 ·rename_i id hv
  split at hr
  ·rename_i es hob
   obtain ⟨h1, h2⟩ | ⟨_, h2⟩ := ae hr
   case inr => exact absurd h2 (by simp)
   have hkd' := TU h1 hkd
   have turn : ∀ (es' : List (AV × AV)) (upd : Array MapEntry → Value → Value → Nat → Array MapEntry) (up : Nat → Nat), (∀ (g : Gh) (w : World) (a : Act) (en : Array MapEntry) (b cl : Nat), VR g w (key.ev s) (a.eval q) → VR g w (x.ev s) (a.eval u) → EntR g w es en.toList → w.heap[b]? = some (.map en cl) → a.eval p = .map (some b) →
    (execOp a.eval o).run c.P w = .ok .skip { w with heap := w.heap.setIfInBounds b (.map (upd en (a.eval q) (a.eval u) cl) (up cl)) } ∧ EntR g w es' (upd en (a.eval q) (a.eval u) cl).toList) →
    OpSem c o s .undef ⟨s.slots, s.heap.set id (.map es')⟩ := by
    intro es' upd up hupd F g a w B hB hpre hs ro dn next Q hnext
    have hp := aj hs hm
    have hq := aj hs hx
    have hxu := aj hs hu
    rw [hv] at hp
    simp only [VR] at hp
    obtain ⟨b, hp, hb⟩ := hp
    have hobj := aY hs.core.heap id b _ hob hb
    simp only [ObjR] at hobj
    obtain ⟨en, cl, hw, hes⟩ := hobj
    have hlt := (Array.getElem?_eq_some_iff.1 hw).1
    obtain ⟨hrun, hes'⟩ := hupd g w a en b cl hq hxu hes hw hp
    have hc := hs.core
    rw [List.nil_append] at hc
    obtain ⟨e1, e2, e3⟩ := hc.NE (ob := .map es) (ob' := .map es') (os0 := []) (os1 := []) (os' := af s 0 a.tmps.toList) (w' := { w with heap := w.heap.setIfInBounds b (.map (upd en (a.eval q) (a.eval u) cl) (up cl)) }) hob hb rfl (fun k hk => by simp [Array.getElem?_setIfInBounds_ne (Ne.symm hk)]) (by have h0 : mQ w b = 0 := (by unfold mQ; rw [hw]); rw [h0]; exact Nat.zero_le _) (by simp) rfl rfl rfl rfl rfl
     (fun ext => by simp only [ObjR]; exact ⟨upd en (a.eval q) (a.eval u) cl, up cl, Array.getElem?_setIfInBounds_self_of_lt hlt, hes'.ext ext⟩) (fun x => Nat.le_refl _) (fun r hr => hr)
    refine K5 hrun (hnext undef g _ (by simp [VR]) hpre ?_ e2)
    refine ⟨hs.size, fun t' => VR.ext e1 _ _ (hs.slots t'), ?_⟩
    rw [bC, yu]
    exact e3
   have run : ∀ (w : World) (a : Act) (en : Array MapEntry) (b cl : Nat) (x0 : Option (Nat × Value)) (res : Obj), w.heap[b]? = some (.map en cl) → a.eval p = .map (some b) → Instr.findNow kd (a.eval q) en.toList 0 = some x0 →
    ((match x0 with
      | some (i, _) => do
       let key ← Instr.keyThatStays (((en[i]?).map (·.key)).getD (a.eval q)) (a.eval q)
       setObj b (.map (en.modify i fun e => { e with key, val := a.eval u }) cl)
      | none => setObj b (.map (en.push { key := a.eval q, val := a.eval u, born := cl }) (cl + 1)) : Sem Unit).run c.P w = .ok () { w with heap := w.heap.setIfInBounds b res }) →
    (execOp a.eval o).run c.P w = .ok .skip { w with heap := w.heap.setIfInBounds b res } := by
    intro w a en b cl x0 res hw hp hfn hres
    have hfk := Eo (P := c.P) hk hfn w
    have hmu : (Instr.mapUpdate t (a.eval p) (a.eval q) (a.eval u)).run c.P w = .ok () { w with heap := w.heap.setIfInBounds b res } := by
     rw [hp]
     simp only [Instr.mapUpdate, Sem.run_bind, run_underlying ht, Result.andThen, G6 hw, Ce hk hkd', hfk]
     exact hres
    rcases h with h | h <;> simp only [execOp, h, Sem.run_bind, hmu, Result.andThen, Sem.run_pure]
   rcases Kt hkd' h2 with ⟨j, k', v, h3, h4, h5⟩ | ⟨h3, h4⟩
   ·refine ⟨_, _, h4, turn _ (fun en kv xv _ => en.modify j fun e => { e with key := kv, val := xv }) (fun x => x) ?_⟩
    intro g w a en b cl hq hxu hes hw hp
    obtain ⟨e, h6, h7, h8, h9⟩ := h5 g w (a.eval q) en.toList hq hes
    have hej : en[j]? = some e := by simpa using h6
    have hsame := XD h1 h9 hq
    refine ⟨run w a en b cl _ _ hw hp h8 ?_, ?_⟩
    ·simp only [Nat.zero_add, hej, Option.map_some, Option.getD_some]
     rw [hsame]
     simp only [Sem.run_bind, FI h1 hq, Result.andThen, G7 hw]
    ·simp only [Nat.zero_add]
     have hjl : j < en.size := (Array.getElem?_eq_some_iff.1 hej).1
     have : (en.modify j fun e => { e with key := a.eval q, val := a.eval u }).toList = en.toList.set j { e with key := a.eval q, val := a.eval u } := by
      apply List.ext_getElem?
      intro i
      rw [Array.getElem?_toList, Array.getElem?_modify, List.getElem?_set]
      by_cases hi : j = i
      ·subst hi
       simp [hej, hjl]
       exact congrArg MapEntry.born (Array.getElem?_eq_some_iff.1 hej).2
      ·simp [hi]
     rw [this]
     exact EntR.set (e := { e with key := a.eval q, val := a.eval u }) hq (VR.disown _ _ hxu) j hes
   ·refine ⟨_, _, h3, turn _ (fun en kv xv cl => en.push { key := kv, val := xv, born := cl }) (· + 1) ?_⟩
    intro g w a en b cl hq hxu hes hw hp
    have h8 := h4 g w (a.eval q) en.toList hq hes
    refine ⟨run w a en b cl _ _ hw hp h8 (G7 hw _), ?_⟩
    simp only [Array.toList_push]
    exact EntR.push (e := { key := a.eval q, val := a.eval u, born := cl }) hq (VR.disown _ _ hxu) hes
  ·exact absurd hr (by simp)
 ·exact absurd hr (by simp)
end Go.Sh
namespace Go.Sh
open Go.RowKit
set_option linter.unusedSimpArgs false
set_option linter.unusedVariables false
variable {c : Cx} {o : Oper}
theorem R6 {l : List AV} {R : Type} {k : AV → List AV → Option R} {r : R} (h : unc l k = some r) : ∃ c cs, l = c :: cs ∧ k c cs = some r := by
 cases l with
 | nil => cases h
 | cons c cs => exact ⟨c, cs, rfl, h⟩
theorem R7 {l : List AV} {R : Type} {k : Option R} {r : R} (h : unn l k = some r) : l = [] ∧ k = some r := by
 cases l with
 | nil => exact ⟨rfl, h⟩
 | cons c cs => cases h
theorem Jy {s : SH} {a : AV} {R : Type} {k : AV → Option R} {r : R} (h : Vx s a k = some r) : k a = some r ∧ ∀ v, owns a v = [] := by
 cases s <;> simp only [Vx] at h
 ·unfold xn at h
  split at h
  ·obtain ⟨h1, h2⟩ | ⟨_, h2⟩ := ae h
   ·simp only [decide_eq_true_eq] at h1; subst h1; exact ⟨h2, fun v => by cases v <;> rfl⟩
   ·cases h2
  ·cases h
 ·unfold zf at h
  split at h
  ·exact ⟨h, fun v => by cases v <;> rfl⟩
  ·cases h
 ·unfold zg at h
  split at h
  ·exact ⟨h, fun v => by cases v <;> rfl⟩
  ·cases h
 ·unfold NM at h
  split at h
  ·obtain ⟨h1, h2⟩ | ⟨_, h2⟩ := ae h
   ·simp only [decide_eq_true_eq] at h1; subst h1; exact ⟨h2, fun v => by cases v <;> rfl⟩
   ·cases h2
  ·cases h
 ·unfold NN at h
  split at h
  ·exact ⟨h, fun v => by cases v <;> rfl⟩
  ·cases h
 ·unfold NP at h
  split at h
  ·obtain ⟨h1, h2⟩ | ⟨_, h2⟩ := ae h
   ·have := Nat.eq_of_beq_eq_true h1; subst this; exact ⟨h2, fun v => by cases v <;> rfl⟩
   ·cases h2
  ·cases h
theorem IM : ∀ {sh : List SH} {cs : List AV} {R : Type} {k : List AV → Option R} {r : R}, shK sh cs k = some r → k cs = some r
 | [], cs, R, k, r, h => by
  simp only [shK] at h
  obtain ⟨rfl, h⟩ := R7 h
  exact h
 | s :: sh, cs, R, k, r, h => by
  simp only [shK] at h
  obtain ⟨c, cs', rfl, h⟩ := R6 h
  have h1 := (Jy h).1
  exact IM (k := fun az => k (c :: az)) h1
theorem VS {α : Type} {l : List α} {i : AV} {R : Type} {k k' : α → Option R} {r : R} (h : NL l i k = some r) (hk : ∀ x, k x = some r → k' x = some r) : NL l i k' = some r := by
 unfold NL at h ⊢
 split at h
 ·obtain ⟨h1, h2⟩ | ⟨h1, h2⟩ := ae h
  ·rw [h1]
   obtain ⟨x, h3, h4⟩ := Option.bind_eq_some_iff.1 h2
   simp only [cond_true]
   rw [h3]
   exact hk x h4
  ·cases h2
 ·cases h
theorem M6 : ∀ (l : List AV) (us : List Value), l.all AV.plain = true → aC l us = []
 | [], us, _ => by cases us <;> rfl
 | a :: l, [], _ => rfl
 | a :: l, u :: us, h => by
  simp only [List.all_cons, Bool.and_eq_true] at h
  have h1 : owns a u = [] := by cases a <;> simp [AV.plain] at h <;> cases u <;> rfl
  rw [aC, h1, M6 l us h.2]
  rfl
theorem Zc {z : Nat} {sh : List SH} {x i : AX} {p q : Operand} {t e : TypeId} (h : o.op = .indexAddr t p q) (ht : c.P.underlying t = some (.slice e)) (hz : (c.P.info? e).map (·.size) = some z) (h0 : 0 < z) (hx : bA x p = true) (hi : bA i q = true) : bK c (.idxT z sh x i) o := by
 intro s R k r hr
 refine UM h ht hz h0 hx hi s R k r ?_
 simp only [AOp.run] at hr ⊢
 split at hr
 ·rename_i own sz els hv
  simp only [hv]
  obtain ⟨h1, h2⟩ | ⟨h1, h2⟩ := ae hr
  ·rw [h1]
   exact VS h2 fun cs hcs => IM hcs
  ·cases h2
 ·rename_i id off m sz hv
  simp only [hv]
  exact hr
 ·rename_i id m tot sz hv
  simp only [hv]
  exact hr
 ·cases hr
theorem UW : ∀ {sh : List SH} {cs : List AV} {R : Type} {k : List AV → Option R} {r : R}, shK sh cs k = some r → cs.length = sh.length
 | [], cs, R, k, r, h => by
  cases cs with
  | nil => rfl
  | cons a b => simp [shK, unn] at h
 | s :: sh, cs, R, k, r, h => by
  cases cs with
  | nil => simp [shK, unc] at h
  | cons a b =>
   simp only [shK, unc] at h
   have h1 := (Jy h).1
   simpa using UW h1
theorem VU {g : Gh} {w : World} {a : AV} {v : Value} (h : a.plain = true) : owns a v = [] := by
 cases a <;> simp [AV.plain] at h <;> cases v <;> rfl
theorem XE {n : Nat} {aggr : Bool} {sh : List SH} {x : AX} {p : Operand} {t : TypeId} {d : TypeDesc} (h : o.op = .load t p) (ht : c.P.underlying t = some d) (ha : qZ d = aggr) (hn : (c.P.info? t).map (·.size) = some n) (hsh : sh.length = n) (h0 : 0 < n) (hx : bA x p = true) : bK c (.loadC sh n aggr x) o := by
 refine ek fun s R k r hr => ?_
 simp only [AOp.run] at hr
 split at hr
 ·rename_i id off hv
  split at hr
  ·rename_i sz els hob
   obtain ⟨e, he, hr⟩ := Option.bind_eq_some_iff.1 hr
   have hlen := UW hr
   have hr := IM hr
   obtain ⟨v, h1, h2⟩ := Gi hr
   have hne : els ≠ [] := by intro e0; subst e0; simp at he
   refine ⟨_, h1, fun F g a w hs => ?_⟩
   have hp := aj hs hx
   rw [hv] at hp
   simp only [VR] at hp
   obtain ⟨b, hp, hb⟩ := hp
   have hobj := aY hs.core.heap id b _ hob hb
   simp only [ObjR] at hobj
   obtain h9 | ⟨hpl, arr, tt, vs, rest, hw, harr, hvs⟩ := hobj
   ·exact absurd h9 hne
   have hel : ∀ e ∈ els, e.length = sz := fun e he => (hpl e he).1
   have hez := hpl e (List.mem_of_getElem? he)
   have hg := hvs.get hel (off / sz) e he
   have hvl := hvs.length hel
   have hlt := (List.getElem?_eq_some_iff.1 he).1
   rw [List.length_take, List.length_drop, hez.1, hsh] at hlen
   have hj : off % sz + n ≤ sz := by omega
   have hdm : off / sz * sz + off % sz = off := by rw [Nat.mul_comm]; exact Nat.div_add_mod off sz
   have hfit : off / sz * sz + sz ≤ vs.length := by
    rw [hvl, ← Nat.succ_mul]
    exact Nat.mul_le_mul_right sz hlt
   have hsub : ((((vs.drop (off / sz * sz)).take sz).drop (off % sz)).take n) = (vs.drop off).take n := by
    rw [List.drop_take, List.take_take, Nat.min_eq_left (by omega), List.drop_drop, hdm]
   have hvv := (hg.drop (off % sz)).take n
   rw [hsub] at hvv
   obtain ⟨v', h3, h4⟩ := GR (b := b) (off := off) (w := w) ht ha hn h2 hvv (fun j hj' => by
    rw [List.length_take, List.length_drop] at hj'
    rw [List.getElem?_take, if_pos (by omega), List.getElem?_drop]
    have : arr.toList[off + j]? = vs[off + j]? := by rw [harr, List.getElem?_append_left (by omega)]
    rw [hw.cell]; simpa using this)
   refine ⟨v', ?_, h4, ?_⟩
   ·simp only [execOp, h]
    refine aG ?_
    rw [hp]
    simp only [Instr.loadAt, Instr.sureAddr, Sem.run_bind, Sem.run_pure, Result.andThen]
    exact h3
   ·have hall : ((e.drop (off % sz)).take n).all AV.plain = true := by
     rw [List.all_eq_true]
     exact fun y hy => List.all_eq_true.1 hez.2 y (List.mem_of_mem_drop (List.mem_of_mem_take hy))
    rcases h2 with ⟨_, _, rfl⟩ | ⟨_, rest', e2⟩
    ·cases v' with
     | agg us =>
      simp only [owns]
      exact M6 _ _ hall
     | _ => rfl
    ·rw [e2, List.all_cons, Bool.and_eq_true] at hall
     exact VU (g := g) (w := w) hall.1
  ·cases hr
 ·cases hr
theorem Zd {m : Nat} {sh : SH} {x i : AX} {p q : Operand} {t e : TypeId} {d : TypeDesc} (h : o.op = .index t p q) (ht : c.P.underlying t = some (.array m e)) (hd : c.P.underlying e = some d) (ha : qZ d = false) (hz : (c.P.info? e).map (·.size) = some 1) (hx : bA x p = true) (hi : bA i q = true) : bK c (.idxG m sh x i) o := by
 refine ek fun s R k r hr => ?_
 simp only [AOp.run] at hr
 split at hr
 ·rename_i cs hv
  obtain ⟨hm, hr⟩ | ⟨_, hr⟩ := ae hr
  case inr => cases hr
  have hm := Nat.eq_of_beq_eq_true hm
  obtain ⟨ki, n, e1, h1, h2, hlt, h3, h4⟩ := Gg hr
  obtain ⟨h5, h6⟩ := Jy h4
  refine ⟨_, h5, fun F g a w hs => ?_⟩
  have hp := aj hs hx
  have hq := aj hs hi
  rw [hv] at hp
  rw [h1] at hq
  simp only [VR] at hp hq
  obtain ⟨vs, hp, hvs⟩ := hp
  have hsub := (hvs.drop n.toNat).take 1
  have he : (cs.drop n.toNat).take 1 = [e1] := by rw [List.take_one, List.head?_drop, h3]; rfl
  rw [he] at hsub
  simp only [VRs] at hsub
  obtain ⟨v', us, k1, k2, _⟩ := hsub
  have hv' : vs[n.toNat]? = some v' := by
   have h7 : ((vs.toList.drop n.toNat).take 1)[0]? = some v' := by rw [k1]; rfl
   rw [List.getElem?_take, if_pos (by omega), List.getElem?_drop] at h7
   simpa using h7
  refine ⟨v', ?_, k2, h6 v'⟩
  simp only [execOp, h]
  refine aG ?_
  have hn : 0 ≤ n ∧ n < (m : Int) := ⟨h2, by omega⟩
  have hsz := iD hz w
  rw [hp, hq]
  simp [Instr.index, asIntOf, run_underlying ht, hn, BI, Sem.run_bind, hsz, part, nE hd, ha, hv']
 ·cases hr
theorem PZ : ∀ {n m : Nat} {R : Type} {k : Nat → Option R} {r : R}, YS n m k = some r → m < n ∧ k m = some r
 | 0, m, R, k, r, h => by cases h
 | n + 1, m, R, k, r, h => by
  simp only [YS] at h
  obtain ⟨h1, h2⟩ | ⟨h1, h2⟩ := ae h
  ·have := Nat.eq_of_beq_eq_true h1
   subst this
   exact ⟨by omega, h2⟩
  ·obtain ⟨h3, h4⟩ := PZ h2
   exact ⟨by omega, h4⟩
theorem Ze {z n : Nat} {x i : AX} {p q : Operand} {t e : TypeId} (h : o.op = .indexAddr t p q) (ht : c.P.underlying t = some (.array n e)) (hz : (c.P.info? e).map (·.size) = some z) (hx : bA x p = true) (hi : bA i q = true) : bK c (.idxP z n x i) o := by
 refine ek fun s R k r hr => ?_
 simp only [AOp.run] at hr
 split at hr
 ·rename_i id off hv
  split at hr
  ·rename_i ki m hn
   obtain ⟨h1, hr⟩ | ⟨_, hr⟩ := ae hr
   case inr => exact absurd hr (by simp)
   simp only [decide_eq_true_eq] at h1
   obtain ⟨h2, hr⟩ := PZ hr
   refine ⟨_, hr, fun F g a w hs => ?_⟩
   have hp := aj hs hx
   have hq := aj hs hi
   rw [hv] at hp
   rw [hn] at hq
   simp only [VR] at hp hq
   obtain ⟨b, hp, hb⟩ := hp
   refine ⟨.pointer (some ⟨b, off + m.toNat * z, none⟩), ?_, by simp only [VR]; exact ⟨b, rfl, hb⟩, rfl⟩
   simp only [execOp, h]
   refine aG ?_
   have hel : c.P.elem t = e := by simp [Program.elem, ht]
   have hal : c.P.arrayLen t = n := by simp [Program.arrayLen, ht]
   rw [hp, hq, run_indexAt_array w t _ ki m (by rw [hel, hal]; exact ht), if_pos ⟨h1, by rw [hal]; omega⟩, hel, iD hz]
   simp only [Result.andThen]
   rw [zu _ rfl]
  ·exact absurd hr (by simp)
 ·exact absurd hr (by simp)
theorem R8 {neg : Bool} {x : AX} {p : Operand} {t t' : TypeId} (h : o.op = .binOp (if neg then .neq else .eql) t p (.const .nilIface) t') (ht : c.P.isIface t = true) (hx : bA x p = true) : bK c (.isNil neg x) o := by
 refine ek fun s R k r hr => ?_
 simp only [AOp.run] at hr
 split at hr
 ·rename_i hv
  refine ⟨_, hr, fun F g a w hs => ?_⟩
  have hp := aj hs hx
  rw [hv] at hp
  simp only [VR] at hp
  refine ⟨.bool (!neg), ?_, by cases neg <;> simp [VR], by cases neg <;> rfl⟩
  simp only [execOp, h]
  refine aG ?_
  rw [hp, show a.eval (.const .nilIface) = .nilIface from rfl]
  cases neg
  ·have hg : (eqGuard .eql t p (.const .nilIface) .nilIface .nilIface).run c.P w = .ok () w := by simp [eqGuard, Sem.run_bind]
   simp [Sem.run_bind, hg, run_eql_nil_nil_at w t ht]
  ·have hg : (eqGuard .neq t p (.const .nilIface) .nilIface .nilIface).run c.P w = .ok () w := by simp [eqGuard, Sem.run_bind]
   simp [Sem.run_bind, hg, run_neq_nil_nil_at w t ht]
 ·rename_i u v hv
  refine ⟨_, hr, fun F g a w hs => ?_⟩
  have hp := aj hs hx
  rw [hv] at hp
  simp only [VR] at hp
  obtain ⟨y, hp, _⟩ := hp
  refine ⟨.bool neg, ?_, by cases neg <;> simp [VR], by cases neg <;> rfl⟩
  simp only [execOp, h]
  refine aG ?_
  rw [hp, show a.eval (.const .nilIface) = .nilIface from rfl]
  cases neg
  ·have hg : (eqGuard .eql t p (.const .nilIface) (.iface u y) .nilIface).run c.P w = .ok () w := by simp [eqGuard, Sem.run_bind]
   simp [Sem.run_bind, hg, run_eql_iface_nil w t ht]
  ·have hg : (eqGuard .neq t p (.const .nilIface) (.iface u y) .nilIface).run c.P w = .ok () w := by simp [eqGuard, Sem.run_bind]
   simp [Sem.run_bind, hg, run_neq_iface_nil w t ht]
 ·cases hr
theorem M7 {w : World} {b k : Nat} {arr : Array Value} {tt : TypeId} {fz : Nat × Nat} (hw : w.heap[b]? = some (.cells arr tt fz)) :
 (∃ fz', (w.freeze ⟨b, k, none⟩ 1).heap[b]? = some (.cells arr tt fz') ∧ (k = arr.size → fz.2 = fz.1 ∨ arr.size ≤ fz.1 → fz'.2 = fz'.1 ∨ arr.size ≤ fz'.1)) ∧ (∀ j, j ≠ b → (w.freeze ⟨b, k, none⟩ 1).heap[j]? = w.heap[j]?) ∧ (w.freeze ⟨b, k, none⟩ 1).heap.size = w.heap.size := by
 have hlt := (Array.getElem?_eq_some_iff.1 hw).1
 have hg := (Array.getElem?_eq_some_iff.1 hw).2
 unfold World.freeze
 rw [if_neg (by decide)]
 refine ⟨?_, fun j hj => ?_, by simp⟩
 ·simp only [Array.getElem?_modify, if_true, hw, Option.map_some]
  refine ⟨_, rfl, fun hk hf => ?_⟩
  subst hk
  obtain ⟨lo, hi⟩ := fz
  simp only at hf ⊢
  right
  split
  ·exact Nat.le_refl _
  ·rename_i hne
   have : lo ≠ hi := by simpa using hne
   have : arr.size ≤ lo := by omega
   exact Nat.le_min.2 ⟨this, Nat.le_refl _⟩
 ·simp only [Array.getElem?_modify, if_neg (Ne.symm hj)]
theorem R9 {w : World} {b k : Nat} {arr : Array Value} {tt : TypeId} {fz : Nat × Nat} (hw : w.heap[b]? = some (.cells arr tt fz)) (i j : Nat) : (w.freeze ⟨b, k, none⟩ 1).cell? ⟨i, j, none⟩ = w.cell? ⟨i, j, none⟩ := by
 obtain ⟨⟨fz', h1, _⟩, h2, _⟩ := M7 (k := k) hw
 by_cases h : i = b
 ·subst h; simp [World.cell?, h1, hw]
 ·simp [World.cell?, h2 i h]
theorem Zf {x : AX} {p : Operand} {t e : TypeId} (h : o.op = .convert t t p) (ht : c.P.underlying t = some (.slice e)) (he : c.P.underlying e = some (.int .u8)) (hx : bA x p = true) : bK c (.mark x) o := by
 intro s R k r hr
 simp only [AOp.run] at hr
 split at hr
 ·rename_i n0 l hv
  refine ⟨_, _, hr, OpSem.run fun F g a w B _ hp hs => ?_⟩
  obtain ⟨h1, h2⟩ := AX.ok hs hx
  rw [hv] at h1 h2
  have h1' := h1
  simp only [VR] at h1
  obtain ⟨ad, n, cc, e1, hl, hc, _, hne, hown, hno, hcell⟩ := h1
  obtain ⟨a', rfl, hreads⟩ := hne (by simp)
  obtain ⟨ho1, ho2⟩ := hown rfl a' rfl
  obtain ⟨b, off, spot⟩ := a'
  simp only at ho1 ho2
  subst ho1 ho2
  rw [e1] at h2 h1'
  have howns : owns (.ints true .u8 (n0 :: l)) (.slice (some ⟨b, 0, none⟩) n cc) = [(b, (n0 :: l).length, cc)] := rfl
  rw [howns] at h2
  have hc2 := h2.core
  obtain ⟨w1, w2, arr, tt, hw, w4⟩ := hc2.own (b, (n0 :: l).length, cc) (.inl (by simp))
  simp only at hw
  obtain ⟨fz0, hw, hz0⟩ := hw
  obtain ⟨⟨fz', f1, f1z⟩, f2, f3⟩ := M7 (k := arr.size) hw
  have hsh : w.shape? b = some (tt, arr.size) := by unfold World.shape?; rw [hw]
  have hrun : (convert t t (.slice (some ⟨b, 0, none⟩) n cc)).run c.P w = .ok (.slice (some ⟨b, 0, none⟩) n cc) (w.freeze ⟨b, arr.size, none⟩ 1) := by
   simp [convert, run_underlying ht, run_underlying he, markStringish, hsh]
  have hext : Ext g w g (w.freeze ⟨b, arr.size, none⟩ 1) := ⟨fun i j _ => R9 hw i j, fun i _ => by
   by_cases e : i = b
   ·subst e; rw [GQ hw, GQ f1]
   ·exact qY (f2 i e), GN f2 (by rw [Gf hw, Gf f1]; exact Nat.le_refl _), fun _ => Nat.le_refl _, fun _ _ h => h⟩
  have hd := hc2.dist b
  have hone : oc b ([(b, (n0 :: l).length, cc)] ++ [] ++ af (x.st s) 0 a.tmps.toList) = 1 + oc b (af (x.st s) 0 a.tmps.toList) := by simp [oc, Nat.add_comm]
  rw [hone] at hd
  have hobjne : ∀ i ∈ lives (x.st s).heap g.obj, i ≠ b := fun i hi e => by
   subst e
   have := List.count_pos_iff.2 hi
   omega
  have hobj := ObjsR.move hext (x.st s).heap g.obj hc2.heap (fun i hi => f2 i (hobjne i hi))
  have hFb : ∀ i, F i → i ≠ b := fun i hi e => by
   subst e
   have := hc2.notF i hi
   rw [hone] at this
   omega
  refine ⟨.slice (some ⟨b, 0, none⟩) n cc, g, w.freeze ⟨b, arr.size, none⟩ 1, ?_, ?_, hp, ?_, ?_⟩
  ·simp only [execOp, h]
   refine aG ?_
   rw [e1]
   exact hrun
  ·exact VR.ext hext _ _ h1'
  ·rw [howns]
   refine h2.move hext ⟨hobj.1, fun r hr => ?_, fun i => ?_, fun i hF => ?_, hc2.objlen, fun i hi => by rw [f3]; exact hc2.lenlt i hi, fun i hi => by rw [f3]; exact hc2.flt i hi, hc2.good.step (fun _ h => h) fun i hi => f2 i (hFb i hi)⟩
   ·rw [hobj.2] at hr
    obtain ⟨k1, k2, arr', t', k3, k4⟩ := hc2.own r hr
    by_cases hrb : r.1 = b
    ·obtain ⟨rfl, rfl⟩ := CellsAt.uniq ⟨fz0, by rw [hrb]; exact hw, hz0⟩ k3
     exact ⟨k1, k2, arr', t', by rw [hrb]; exact ⟨fz', f1, f1z rfl hz0⟩, k4⟩
    ·exact ⟨k1, k2, arr', t', k3.of_heap (f2 _ hrb), k4⟩
   ·rw [hobj.2]; exact hc2.dist i
   ·rw [hobj.2]; exact hc2.notF i hF
  ·exact ⟨hext.cell, hext.ty, hext.bsz, hext.len, fun i hi => ⟨f2 i (hFb i hi), rfl⟩, by rw [f3]; exact Nat.le_refl _, by unfold World.freeze; rfl, by unfold World.freeze; rfl, by unfold World.freeze; rfl⟩
 ·exact absurd hr (by simp)
def XF : TypeDesc → Value → Option Nat
 | .pointer _, .pointer none => some 0
 | .map _ _, .map none => some 1
 | .func _ _ _, .nilFunc => some 2
 | _, _ => none
theorem P5 {kd : Nat} {neg : Bool} {x : AX} {p : Operand} {t t' : TypeId} {d : TypeDesc} {v0 : Value} (h : o.op = .binOp (if neg then .neq else .eql) t p (.const v0) t') (ht : c.P.underlying t = some d) (hd : XF d v0 = some kd) (hx : bA x p = true) : bK c (.isNilP kd neg x) o := by
 refine ek fun s R k r hr => ?_
 simp only [AOp.run] at hr
 split at hr
 ·rename_i b hb
  refine ⟨_, hr, fun F g a w hs => ?_⟩
  have hp := aj hs hx
  have key : (Op.equal t (a.eval p) v0).run c.P w = .ok b w ∧ (∀ op, (eqGuard op t p (.const v0) (a.eval p) v0).run c.P w = .ok () w) ∧ (binOp .eql t (a.eval p) v0 = do pure (.bool (← Op.equal t (a.eval p) v0))) ∧ (binOp .neq t (a.eval p) v0 = do pure (.bool (!(← Op.equal t (a.eval p) v0)))) := by
   generalize a.eval p = v at hp
   generalize x.ev s = av at hp hb
   unfold aaI at hb
   split at hb <;> first | (cases hb; done) | skip
   all_goals
    unfold XF at hd
    split at hd <;> first | (cases hd; done) | skip
   all_goals
    injection hb with hb
    subst hb
    simp only [VR] at hp
   all_goals first | subst hp | (obtain ⟨_, _, rfl, _⟩ := hp) | (obtain ⟨_, rfl, _⟩ := hp)
   all_goals
    refine ⟨?_, fun op => by cases op <;> simp [eqGuard, Sem.run_bind], by simp [binOp], by simp [binOp]⟩
    show (Op.equalIn (9999 + 1) t _ _).run c.P w = _
    generalize 9999 = dd
    simp [Op.equalIn, run_underlying ht]
  obtain ⟨h1, h2, h3, h4⟩ := key
  refine ⟨.bool (match neg with | true => !b | false => b), ?_, by cases neg <;> simp [VR], by cases neg <;> rfl⟩
  simp only [execOp, h]
  refine aG ?_
  rw [show a.eval (.const v0) = v0 from rfl]
  cases neg
  ·simp [Sem.run_bind, h2, h3, h1]
  ·simp [Sem.run_bind, h2, h4, h1]
 ·cases hr
def yK (z : Nat) : List (Nat × Nat × AX) → List (Nat × Operand) → Bool
 | [], [] => true
 | (off, n, x) :: ps, (i, p) :: qs => Nat.beq off (i * z) && Nat.beq n z && bA x p && yK z ps qs
 | _, _ => false
theorem Ll {z : Nat} : ∀ {ps : List (Nat × Nat × AX)} {qs : List (Nat × Operand)}, yK z ps qs = true → wU (ps.map fun p => p.2.2) (qs.map fun q => q.2) = true ∧ (qs.map fun q => q.1).length = (ps.map fun p => (p.1, p.2.1)).length ∧ ∀ (j i : Nat) (q : Nat × Nat), (qs.map fun q => q.1)[j]? = some i → (ps.map fun p => (p.1, p.2.1))[j]? = some q → some (i * z, z) = some q
 | [], [], _ => ⟨rfl, rfl, fun j i q h => by simp at h⟩
 | [], _ :: _, h => by simp [yK] at h
 | (_, _, _) :: _, [], h => by simp [yK] at h
 | (off, n, x) :: ps, (i, p) :: qs, h => by
  simp only [yK, Bool.and_eq_true] at h
  obtain ⟨⟨⟨h1, h1'⟩, h2⟩, h3⟩ := h
  have h1 := Nat.eq_of_beq_eq_true h1
  have h1' := Nat.eq_of_beq_eq_true h1'
  obtain ⟨h4, h5, h6⟩ := Ll h3
  refine ⟨by simp [wU, h2, h4], by simpa using h5, fun j i' q hj hq => ?_⟩
  cases j with
  | zero => simp at hj hq; subst hj; subst hq; rw [h1, h1']
  | succ j => exact h6 j i' q (by simpa using hj) (by simpa using hq)
theorem VV {zero : List AV} {ps : List (Nat × Nat × AX)} {qs : List (Nat × Operand)} {t e : TypeId} {m z : Nat} {zr : Value} (h : o.op = .build t qs.toArray) (ht : c.P.underlying t = some (.array m e)) (hz : (c.P.info? t).bind (·.zero) = some zr) (he : (c.P.info? e).map (·.size) = some z) (hf : K3 zero zr.cells.toList = true) (hx : yK z ps qs = true) : bK c (.build zero ps) o := by
 obtain ⟨hx1, hx2, hx3⟩ := Ll hx
 obtain ⟨it, hi1, hi2⟩ := Option.bind_eq_some_iff.1 hz
 obtain ⟨ie, hj1, hj2⟩ := Option.map_eq_some_iff.1 he
 intro s R k r hr
 simp only [AOp.run] at hr
 obtain ⟨cs', h1, h2⟩ := Option.bind_eq_some_iff.1 hr
 refine ⟨_, _, h2, OpSem.run fun F g a w B hB hpre hs => ?_⟩
 obtain ⟨h3, h4⟩ := AX.oks hs hx1
 obtain ⟨h5, h6⟩ := Iw g w zero zr.cells.toList hf
 obtain ⟨cells', k1, k2, k3, k4⟩ := Q0 (place := fun i => some (i * z, z)) _ (qs.map fun q => q.1) _ _ zero cs' zr.cells h3 h5 h1 hx2 (fun j i q hj hq => hx3 j i q hj hq)
 rw [h6] at k3 k4
 refine ⟨.agg cells', g, w, ?_, by simp only [VR]; exact ⟨_, rfl, k2⟩, hpre, h4.less (fun r hr => ?_) (fun b => ?_), Step.refl _ _ _⟩
 ·simp only [execOp, h]
  refine aG ?_
  have hparts : (qs.toArray.map fun (x : Nat × Operand) => (x.1, a.eval x.2)).toList = (qs.map fun q => q.1).zip ((qs.map fun q => q.2).map a.eval) := by
   simp [List.zip_map', List.map_map, Function.comp_def, List.zip_map]
  have hzero : (zeroValue t).run c.P w = .ok zr w := by simp [zeroValue, typeInfo, hi1, hi2]
  simp only [Instr.build, Sem.run_bind, hzero, Result.andThen, run_underlying ht, iD he]
  rw [hparts, k1]
  rfl
 ·simp only [owns] at hr
  exact List.mem_append_left _ ((k4 r hr).resolve_right (by simp))
 ·have := k3 b
  simp only [owns, ax, nO] at this ⊢
  omega
def XG (P : Program) (g : TypeId → Option (List SH)) : Nat → List Field → Option (List SH)
 | _, [] => some []
 | off, f :: fs => match g f.type, (P.info? f.type).map (·.size) with
  | some l, some z => if f.offset = off ∧ l.length = z ∧ 0 < z ∧ f.name ≠ "_" then (XG P g (off + z) fs).map (l ++ ·) else none
  | _, _ => none
def VW (P : Program) : Nat → TypeId → Option (List SH)
 | 0, _ => none
 | n + 1, t => match P.underlying t with
  | some .bool => some [.bool]
  | some (.int k) => some [.int k]
  | some .string => some [.str]
  | some (.struct fs) => if P.stoodInHeld t = true then none else XG P (VW P n) 0 fs.toList
  | _ => none
def VX : SH → AV → Prop
 | .int k, a => ∃ n, a = .int k n
 | .bool, a => ∃ b, a = .bool b
 | .str, a => ∃ s, a = .str s
 | _, _ => True
def Fits : List SH → List AV → Prop
 | [], az => az = []
 | s :: sh, az => ∃ a r, az = a :: r ∧ VX s a ∧ Fits sh r
theorem XH {s : SH} {a : AV} {R : Type} {k : AV → Option R} {r : R} (h : Vx s a k = some r) : VX s a := by
 cases s <;> simp only [Vx] at h
 ·unfold xn at h
  split at h
  ·obtain ⟨h1, h2⟩ | ⟨_, h2⟩ := ae h
   ·simp only [decide_eq_true_eq] at h1; subst h1; exact ⟨_, rfl⟩
   ·cases h2
  ·cases h
 ·unfold zf at h
  split at h
  ·exact ⟨_, rfl⟩
  ·cases h
 ·unfold zg at h
  split at h
  ·exact ⟨_, rfl⟩
  ·cases h
 ·trivial
 ·trivial
 ·trivial
theorem Ou : ∀ {sh : List SH} {cs : List AV} {R : Type} {k : List AV → Option R} {r : R}, shK sh cs k = some r → Fits sh cs
 | [], cs, R, k, r, h => by
  simp only [shK] at h
  exact (R7 h).1
 | s :: sh, cs, R, k, r, h => by
  simp only [shK] at h
  obtain ⟨c, cs', rfl, h⟩ := R6 h
  exact ⟨c, cs', rfl, XH h, Ou (Jy h).1⟩
theorem Fits.length : ∀ {sh : List SH} {az : List AV}, Fits sh az → az.length = sh.length
 | [], _, h => by simp only [Fits] at h; subst h; rfl
 | _ :: sh, _, h => by obtain ⟨a, r, rfl, _, h⟩ := h; simp [h.length]
theorem Fits.split : ∀ {s1 s2 : List SH} {az : List AV}, Fits (s1 ++ s2) az → Fits s1 (az.take s1.length) ∧ Fits s2 (az.drop s1.length)
 | [], _, _, h => ⟨by simp [Fits], h⟩
 | s :: s1, s2, _, h => by
  obtain ⟨a, r, rfl, h1, h2⟩ := h
  obtain ⟨h3, h4⟩ := h2.split
  exact ⟨⟨a, _, rfl, h1, h3⟩, h4⟩
def eqB : AV → AV → Option Bool
 | .int ka x, .int kb y => cond (decide (ka = kb)) (some (x == y)) none
 | .bool x, .bool y => some (x == y)
 | .str x, .str y => some (x == y)
 | _, _ => none
def aak : List AV → List AV → Option Bool
 | [], [] => some true
 | a :: az, b :: bs => (eqB a b).bind fun p => (aak az bs).bind fun q => some (p && q)
 | _, _ => none
theorem ZX {α : Type} (x : Option α) : x.bind some = x := by cases x <;> rfl
theorem Ov (a b : AV) {R : Type} (f : Bool → Option R) : eqK a b f = (eqB a b).bind f := by
 unfold eqK
 split
 ·rename_i ka x kb y
  simp only [eqB]
  cases decide (ka = kb) <;> rfl
 ·rfl
 ·rfl
 ·rename_i h1 h2 h3
  have : eqB a b = none := by
   unfold eqB
   split
   ·exact (h1 _ _ _ _ rfl rfl).elim
   ·exact (h2 _ _ rfl rfl).elim
   ·exact (h3 _ _ rfl rfl).elim
   ·rfl
  rw [this]
  rfl
theorem Lm : ∀ (az bs : List AV) {R : Type} (f : Bool → Option R), Ki az bs f = (aak az bs).bind f
 | [], [], R, f => rfl
 | [], _ :: _, R, f => rfl
 | _ :: _, [], R, f => rfl
 | a :: az, b :: bs, R, f => by
  simp only [Ki, aak, Ov, Option.bind_assoc]
  congr 1
  funext p
  rw [Lm az bs]
  rfl
theorem Sa {a b : AV} {R : Type} {k : Bool → Option R} {r : R} (h : eqK a b k = some r) : ∃ q, eqK a b some = some q ∧ k q = some r := by
 rw [Ov] at h
 obtain ⟨q, h1, h2⟩ := Option.bind_eq_some_iff.1 h
 exact ⟨q, by rw [Ov, h1]; rfl, h2⟩
theorem P6 {az bs : List AV} {R : Type} {k : Bool → Option R} {r : R} (h : Ki az bs k = some r) : ∃ q, Ki az bs some = some q ∧ k q = some r := by
 rw [Lm] at h
 obtain ⟨q, h1, h2⟩ := Option.bind_eq_some_iff.1 h
 exact ⟨q, by rw [Lm, h1]; rfl, h2⟩
theorem P7 : ∀ {a1 a2 b1 b2 : List AV} {q : Bool}, a1.length = b1.length → Ki (a1 ++ a2) (b1 ++ b2) some = some q → ∃ q1 q2, Ki a1 b1 some = some q1 ∧ Ki a2 b2 some = some q2 ∧ q = (q1 && q2)
 | [], a2, [], b2, q, _, h => ⟨true, q, rfl, h, by simp⟩
 | [], _, _ :: _, _, _, hl, _ => by simp at hl
 | _ :: _, _, [], _, _, hl, _ => by simp at hl
 | a :: a1, a2, b :: b1, b2, q, hl, h => by
  simp only [List.cons_append, Ki] at h ⊢
  obtain ⟨p, h1, h2⟩ := Sa h
  obtain ⟨q', h3, h4⟩ := P6 h2
  injection h4 with h4
  obtain ⟨q1, q2, k1, k2, k3⟩ := P7 (by simpa using hl) h3
  subst h4 k3
  refine ⟨p && q1, q2, ?_, k2, by rw [Bool.and_assoc]⟩
  rw [Ov, ZX] at h1
  rw [Lm, ZX] at k1
  rw [Ov, h1, Option.bind_some, Lm, k1]
  rfl
section
variable {P : Program} {g : Gh} {w : World}
theorem UX {t : TypeId} {z off : Nat} {xs : Array Value} {az : List AV} {d : TypeDesc} (hd : P.underlying t = some d) (hz : (P.info? t).map (·.size) = some z) (hz0 : 0 < z) (h : VRs g w az xs.toList) (hl : off + z ≤ az.length) :
 ∃ v, (part t xs off).run P w = .ok v w ∧ ((qZ d = true ∧ ∃ ys, v = .agg ys ∧ VRs g w ((az.drop off).take z) ys.toList) ∨ (qZ d = false ∧ ∃ a r, (az.drop off).take z = a :: r ∧ VR g w a v)) := by
 have hsub := (h.drop off).take z
 cases ha : qZ d with
 | true =>
  refine ⟨.agg (xs.extract off (off + z)), by simp [part, nE hd, ha, iD hz], .inl ⟨rfl, _, rfl, ?_⟩⟩
  rw [show (xs.extract off (off + z)).toList = (xs.toList.drop off).take z by simp [List.extract_eq_take_drop]]
  exact hsub
 | false =>
  have hlen := h.length
  have hlt : off < az.length := by omega
  cases hc : (az.drop off).take z with
  | nil =>
   have : ((az.drop off).take z).length = 0 := by rw [hc]; rfl
   simp at this; omega
  | cons a r =>
   rw [hc] at hsub
   simp only [VRs] at hsub
   obtain ⟨v', us, h4, h5, _⟩ := hsub
   have h6 : xs[off]? = some v' := by
    have h7 : ((xs.toList.drop off).take z)[0]? = some v' := by rw [h4]; rfl
    rw [List.getElem?_take, if_pos hz0, List.getElem?_drop] at h7
    simpa using h7
   exact ⟨v', by simp [part, nE hd, ha, h6], .inr ⟨rfl, a, r, rfl, h5⟩⟩
theorem M8 {gt : TypeId → Option (List SH)} {d : Nat} (hg : ∀ t l z, gt t = some l → (P.info? t).map (·.size) = some z → l.length = z → ∃ dd, P.underlying t = some dd ∧
 (qZ dd = true → ∀ (xs ys : Array Value) (az bs : List AV) q, VRs g w az xs.toList → VRs g w bs ys.toList → Fits l az → Fits l bs → Ki az bs some = some q → (Op.equalIn d t (.agg xs) (.agg ys)).run P w = .ok q w) ∧
 (qZ dd = false → ∃ s, l = [s] ∧ ∀ (x y : Value) (a b : AV) q, VR g w a x → VR g w b y → VX s a → VX s b → eqK a b some = some q → (Op.equalIn d t x y).run P w = .ok q w)) :
 ∀ (fs : List Field) (off : Nat) (l : List SH) (xs ys : Array Value) (az bs : List AV) (q : Bool), XG P gt off fs = some l → VRs g w az xs.toList → VRs g w bs ys.toList → Fits l (az.drop off) → Fits l (bs.drop off) → Ki (az.drop off) (bs.drop off) some = some q →
  (Op.eqFields d xs ys fs).run P w = .ok q w
 | [], off, l, xs, ys, az, bs, q, h, ha, hb, fa, fb, hq => by
  simp only [XG, Option.some.injEq] at h
  subst h
  simp only [Fits] at fa fb
  rw [fa, fb] at hq
  simp only [Ki, Option.some.injEq] at hq
  subst hq
  simp [Op.eqFields]
 | f :: fs, off, l, xs, ys, az, bs, q, h, ha, hb, fa, fb, hq => by
  simp only [XG] at h
  split at h
  ·rename_i l1 z hl1 hz
   split at h
   ·rename_i hc
    obtain ⟨h1, h2, h3, h4⟩ := hc
    obtain ⟨l2, h5, rfl⟩ := Option.map_eq_some_iff.1 h
    obtain ⟨dd, k1, k2, k3⟩ := hg f.type l1 z hl1 hz h2
    obtain ⟨fa1, fa2⟩ := fa.split
    obtain ⟨fb1, fb2⟩ := fb.split
    rw [h2] at fa1 fa2 fb1 fb2
    rw [List.drop_drop] at fa2 fb2
    have la := fa.length
    have lb := fb.length
    simp only [List.length_drop, List.length_append] at la lb
    obtain ⟨v, p1, p2⟩ := UX (off := off) k1 hz h3 ha (by omega)
    obtain ⟨u, r1, r2⟩ := UX (off := off) k1 hz h3 hb (by omega)
    have ea : az.drop off = (az.drop off).take z ++ az.drop (off + z) := by rw [← List.drop_drop, List.take_append_drop]
    have eb : bs.drop off = (bs.drop off).take z ++ bs.drop (off + z) := by rw [← List.drop_drop, List.take_append_drop]
    rw [ea, eb] at hq
    have hl1' := fa1.length
    have hl2' := fb1.length
    obtain ⟨q1, q2, e1, e2, rfl⟩ := P7 (by omega) hq
    have ih := M8 hg fs (off + z) l2 xs ys az bs q2 h5 ha hb fa2 fb2 e2
    have hrun : (Op.equalIn d f.type v u).run P w = .ok q1 w := by
     rcases p2 with ⟨g1, ys1, rfl, g2⟩ | ⟨g1, a, ra, g2, g3⟩
     ·rcases r2 with ⟨_, ys2, rfl, g4⟩ | ⟨g4, _⟩
      ·exact k2 g1 _ _ _ _ _ g2 g4 fa1 fb1 e1
      ·rw [g1] at g4; cases g4
     ·rcases r2 with ⟨g4, _⟩ | ⟨_, b, rb, g4, g5⟩
      ·rw [g1] at g4; cases g4
      ·obtain ⟨s, rfl, k4⟩ := k3 g1
       rw [g2] at fa1 e1
       rw [g4] at fb1 e1
       simp only [Fits] at fa1 fb1
       obtain ⟨a', r', ha', f1, rfl⟩ := fa1
       obtain ⟨b', r'', hb', f2, rfl⟩ := fb1
       simp only [List.cons.injEq] at ha' hb'
       obtain ⟨rfl, rfl⟩ := ha'
       obtain ⟨rfl, rfl⟩ := hb'
       simp only [Ki] at e1
       obtain ⟨q', g6, g7⟩ := Sa e1
       simp only [Bool.and_true, Option.some.injEq] at g7
       subst g7
       exact k4 _ _ _ _ _ g3 g5 f1 f2 g6
    simp only [Op.eqFields, ne_eq, h4, not_false_eq_true, if_true, Sem.run_bind, h1, p1, r1, Result.andThen_ok, hrun]
    cases q1
    ·simp
    ·simpa using ih
   ·cases h
  ·cases h
theorem aaR : ∀ (n : Nat) (t : TypeId) (l : List SH), VW P n t = some l → ∀ (d : Nat), n ≤ d → ∃ dd, P.underlying t = some dd ∧
 (qZ dd = true → ∀ (xs ys : Array Value) (az bs : List AV) q, VRs g w az xs.toList → VRs g w bs ys.toList → Fits l az → Fits l bs → Ki az bs some = some q → (Op.equalIn d t (.agg xs) (.agg ys)).run P w = .ok q w) ∧
 (qZ dd = false → ∃ s, l = [s] ∧ ∀ (x y : Value) (a b : AV) q, VR g w a x → VR g w b y → VX s a → VX s b → eqK a b some = some q → (Op.equalIn d t x y).run P w = .ok q w) := by
 intro n
 induction n with
 | zero => intro t l h; cases h
 | succ n ih =>
  intro t l h d hd
  obtain ⟨d, rfl⟩ : ∃ j, d = j + 1 := ⟨d - 1, by omega⟩
  unfold VW at h
  split at h
  ·rename_i hu
   injection h with h; subst h
   refine ⟨_, hu, (fun h => by cases h), fun _ => ⟨_, rfl, fun x y a b q hx hy fa fb hq => ?_⟩⟩
   obtain ⟨p, rfl⟩ := fa
   obtain ⟨p', rfl⟩ := fb
   simp only [VR] at hx hy; subst hx hy
   simp only [eqK, Option.some.injEq] at hq; subst hq
   exact run_equalIn_bool' w d t _ _ hu
  ·rename_i k hu
   injection h with h; subst h
   refine ⟨_, hu, (fun h => by cases h), fun _ => ⟨_, rfl, fun x y a b q hx hy fa fb hq => ?_⟩⟩
   obtain ⟨p, rfl⟩ := fa
   obtain ⟨p', rfl⟩ := fb
   simp only [VR] at hx hy; subst hx hy
   simp only [eqK, decide_true, cond_true, Option.some.injEq] at hq; subst hq
   exact run_equalIn_int w d t k k _ _ hu
  ·rename_i hu
   injection h with h; subst h
   refine ⟨_, hu, (fun h => by cases h), fun _ => ⟨_, rfl, fun x y a b q hx hy fa fb hq => ?_⟩⟩
   obtain ⟨p, rfl⟩ := fa
   obtain ⟨p', rfl⟩ := fb
   simp only [VR] at hx hy
   obtain ⟨s1, rfl, rfl⟩ := hx
   obtain ⟨s2, rfl, rfl⟩ := hy
   simp only [eqK, Option.some.injEq] at hq; subst hq
   rw [run_equalIn_string w d t _ _ hu, ByteArray.toList_eq, ByteArray.toList_eq]
  ·rename_i fs hu
   split at h
   ·cases h
   ·rename_i hs
    have hfo : P.fieldsOf t = fs := by simp [Program.fieldsOf, hu]
    refine ⟨_, hu, fun _ xs ys az bs q hx hy fa fb hq => ?_, (fun h => by cases h)⟩
    rw [run_equalIn_agg w d t xs ys (by rw [hfo]; exact hu) (by simpa using hs), hfo]
    exact M8 (gt := VW P n) (d := d) (fun t l z h1 _ _ => ih t l h1 d (by omega)) fs.toList 0 l xs ys az bs q h hx hy (by simpa using fa) (by simpa using fb) (by simpa using hq)
  ·cases h
end
theorem XI {neg : Bool} {n : Nat} {sh : List SH} {x y : AX} {p q : Operand} {t t' : TypeId} {d : TypeDesc} (h : o.op = .binOp (if neg then .neq else .eql) t p q t') (hty : VW c.P n t = some sh) (hn : n ≤ 10000) (hd : c.P.underlying t = some d) (ha : qZ d = true) (hgt : c.P.eqGuardType c.P.depth t = false) (hx : bA x p = true) (hy : bA y q = true) : bK c (.eqA neg sh x y) o := by
 refine ek fun s R k r hr => ?_
 simp only [AOp.run] at hr
 split at hr
 ·rename_i cs ds h1 h2
  have f1 := Ou hr
  have hr2 := IM hr
  have f2 := Ou hr2
  have hr3 := IM hr2
  obtain ⟨b, h3, h4⟩ := P6 hr3
  refine ⟨_, h4, fun F g a w hs => ?_⟩
  have hp := aj hs hx
  have hq := aj hs hy
  rw [h1] at hp
  rw [h2] at hq
  simp only [VR] at hp hq
  obtain ⟨xs, hp, hxs⟩ := hp
  obtain ⟨ys, hq, hys⟩ := hq
  obtain ⟨dd, k1, k2, _⟩ := aaR (g := g) (w := w) n t sh hty 10000 hn
  rw [hd] at k1
  injection k1 with k1
  subst k1
  have hrun := k2 ha xs ys cs ds b hxs hys f1 f2 h3
  refine ⟨.bool (match neg with | true => !b | false => b), ?_, by cases neg <;> simp [VR], by cases neg <;> rfl⟩
  simp only [execOp, h]
  refine aG ?_
  rw [hp, hq]
  cases neg
  ·simp [Sem.run_bind, run_eqGuard_agg w .eql t p q xs ys hgt, run_eql_struct w t xs ys, hrun, Result.andThen]
  ·simp [Sem.run_bind, run_eqGuard_agg w .neq t p q xs ys hgt, run_neq_struct w t xs ys, hrun, Result.andThen]
 ·cases hr
theorem bD {c : Cx} {o : Oper} : bK c (.extract 0 (.cst .undef)) o := fun s R k r h => by
 simp only [AOp.run, AX.ev] at h
 cases h
end Go.Sh
namespace Go.Sh
open Go.RowKit
set_option linter.unusedSimpArgs false
set_option linter.unusedVariables false
def RV.var : RV → ResultVar
 | .tmp t => .tmp t
 | .cell t ty _ _ => .cell t ty
def RV.slots : List RV → List Nat
 | [] => []
 | .tmp t :: rs => t :: RV.slots rs
 | .cell .. :: rs => RV.slots rs
def TV (P : Program) : List RV → Bool
 | [] => true
 | .tmp _ :: rs => TV P rs
 | .cell _ ty n ag :: rs => (match P.underlying ty with | some d => qZ d == ag | none => false) && ((P.info? ty).map (·.size) == some n) && TV P rs
def Zg (tmps : Array Value) : ResultVar → Sem Value := fun
 | .tmp t => pure (tmps.getD t undef)
 | .cell a t => do loadVar t (← asAddr (tmps.getD a undef))
theorem Ow {P : Program} {nt : Nat} {s : St} : ∀ {rs : List RV} {R : Type} {k : List AV → Option R} {r : R}, TV P rs = true → TE s rs k = some r → ∃ vs, k vs = some r ∧ ∀ (F : Nat → Prop) (g : Gh) (a : Act) (w : World), SimX F nt g s a w [] →
 ∃ us, ((rs.map RV.var).mapM (Zg a.tmps)).run P w = .ok us w ∧ VRs g w vs us ∧ aC vs us = aC ((RV.slots rs).map s.get) ((RV.slots rs).map fun t => a.tmps.getD t undef)
 | [], R, k, r, _, h => ⟨[], h, fun F g a w hs => ⟨[], by simp, by simp [VRs], rfl⟩⟩
 | .tmp t :: rs, R, k, r, hok, h => by
  simp only [TE] at h
  obtain ⟨vs, h1, h2⟩ := Ow (by simpa [TV] using hok) h
  refine ⟨s.get t :: vs, h1, fun F g a w hs => ?_⟩
  obtain ⟨us, h3, h4, h5⟩ := h2 F g a w hs
  refine ⟨a.tmps.getD t undef :: us, ?_, ?_, ?_⟩
  ·simp only [List.map_cons, List.mapM_cons, RV.var, Zg, Sem.run_bind, Sem.run_pure, Result.andThen]
   rw [h3]
  ·simp only [VRs]
   exact ⟨_, _, rfl, hs.slots t, h4⟩
  ·simp only [RV.slots, List.map_cons, aC, h5]
 | .cell t ty n ag :: rs, R, k, r, hok, h => by
  simp only [TE] at h
  simp only [TV, Bool.and_eq_true, beq_iff_eq] at hok
  obtain ⟨⟨hd, hz⟩, hok⟩ := hok
  split at hd
  case h_2 => cases hd
  rename_i d hu
  simp only [beq_iff_eq] at hd
  split at h
  ·rename_i id off hv
   split at h
   ·rename_i ot cs hob
    obtain ⟨v, h1, h2⟩ := Gi h
    obtain ⟨vs, h3, h4⟩ := Ow hok h1
    refine ⟨disown v :: vs, h3, fun F g a w hs => ?_⟩
    obtain ⟨us, h5, h6, h7⟩ := h4 F g a w hs
    have hp := hs.slots t
    rw [hv] at hp
    simp only [VR] at hp
    obtain ⟨b, hp, hb⟩ := hp
    have hobj := aY hs.core.heap id b _ hob hb
    simp only [ObjR] at hobj
    obtain ⟨arr, hw, hvs⟩ := hobj
    obtain ⟨v', h8, h9⟩ := GR (b := b) (off := off) hu hd hz h2 ((hvs.drop off).take n) (fun j hj => by
     rw [List.length_take] at hj
     rw [List.getElem?_take, if_pos (by omega), List.getElem?_drop]
     simp [World.cell?, hw])
    refine ⟨v' :: us, ?_, ?_, ?_⟩
    ·simp only [List.map_cons, List.mapM_cons, RV.var, Zg, Sem.run_bind, hp, asAddr, Sem.run_pure, Result.andThen, h8]
     rw [h5]
    ·simp only [VRs]
     exact ⟨_, _, rfl, VR.disown _ _ h9, h6⟩
    ·simp only [RV.slots, aC, ma, List.nil_append, h7]
   ·cases h
  ·cases h
theorem M9 {fn : Func} {P : Program} {w : World} {tmps : Array Value} {rs : List RV} {us : List Value} (h : fn.results = (rs.map RV.var).toArray) (hm : ((rs.map RV.var).mapM (Zg tmps)).run P w = .ok us w) :
 (results fn tmps).run P w = .ok (if h : us.length = 1 then us[0] else .tuple us.toArray) w := by
 unfold results
 rw [h, List.mapM_toArray]
 rw [Sem.run_bind, Sem.run_map]
 erw [hm]
 simp only [Result.andThen, Sem.run_pure]
 simp
theorem UY {g : Gh} {w : World} {vs : List AV} {us : List Value} (h : VRs g w vs us) : VR g w (Ml vs) (if h : us.length = 1 then us[0] else .tuple us.toArray) ∧ owns (Ml vs) (if h : us.length = 1 then us[0] else .tuple us.toArray) = aC vs us := by
 have hl := h.length
 match vs, us, h, hl with
 | [], [], h, _ => exact ⟨by simp only [Ml]; simp [VR, VRs], by simp [Ml, owns, aC]⟩
 | [v], [u], h, _ =>
  simp only [VRs] at h
  obtain ⟨_, _, he, h1, _⟩ := h
  simp only [List.cons.injEq] at he
  obtain ⟨rfl, rfl⟩ := he
  exact ⟨by simpa [Ml] using h1, by simp [Ml, aC]⟩
 | v :: v' :: vs, u :: u' :: us, h, _ =>
  refine ⟨?_, by simp [Ml, owns]⟩
  simp only [Ml]
  rw [dif_neg (by simp)]
  simp only [VR]
  exact ⟨_, rfl, h⟩
 | [], _ :: _, _, hl => simp at hl
 | [_], [], _, hl => simp at hl
 | [_], _ :: _ :: _, _, hl => simp at hl
 | _ :: _ :: _, [], _, hl => simp at hl
 | _ :: _ :: _, [_], _, hl => simp at hl
theorem Core.Sb {F F' : Nat → Prop} {g : Gh} {H : List AObj} {os : List Rec} {w : World} (h : Core F' g H os w) (hF : ∀ b, F b → F' b) (hk : Keeps F w) : Core F g H os w :=
 ⟨h.heap, h.own, h.dist, fun b hb => h.notF b (hF b hb), h.objlen, h.lenlt, fun b hb => h.flt b (hF b hb), hk⟩
theorem Core.turn {F : Nat → Prop} {g : Gh} {H : List AObj} {os : List Rec} {w : World} {l : Nat} {x : Obj} (h : Core F g H os w) (hl : F l) (hlt : l < w.heap.size) (hw : ∀ j, w.cell? ⟨l, j, none⟩ = none) (hx : ∀ j, (w.putObj l x).cell? ⟨l, j, none⟩ = none) (hty : Fg (w.putObj l x) l = Fg w l) (hk : Keeps F (w.putObj l x)) :
 Ext g w g (w.putObj l x) ∧ Core F g H os (w.putObj l x) := by
 have hoth : ∀ b, b ≠ l → (w.putObj l x).heap[b]? = w.heap[b]? := fun b hb => by simp [World.putObj, Array.getElem?_setIfInBounds_ne (Ne.symm hb)]
 have hn := h.notF l hl
 have ext : Ext g w g (w.putObj l x) := ⟨fun b j _ => by
  by_cases e : b = l
  ·subst e; rw [hw, hx]
  ·exact cell_of (hoth b e) j, fun b _ => by
  by_cases e : b = l
  ·subst e; exact hty
  ·exact qY (hoth b e), GN hoth (by
   have h0 : mQ w l = 0 := by
    unfold mQ
    split
    ·rename_i arr t f he
     have := hw 0
     simp only [World.cell?, he] at this
     simp at this
     simpa using this
    ·rfl
   rw [h0]; exact Nat.zero_le _), fun _ => Nat.le_refl _, fun _ _ h => h⟩
 have hobj : ∀ b ∈ lives H g.obj, b ≠ l := fun b hb e => by subst e; have := List.count_pos_iff.2 hb; omega
 have hmv := ObjsR.move ext H g.obj h.heap (fun b hb => hoth b (hobj b hb))
 have hsz : (w.putObj l x).heap.size = w.heap.size := by simp [World.putObj]
 refine ⟨ext, hmv.1, fun x hx => ?_, fun b => ?_, fun b hF => ?_, h.objlen, fun b hb => by rw [hsz]; exact h.lenlt b hb, fun b hb => by rw [hsz]; exact h.flt b hb, hk⟩
 ·rw [hmv.2] at hx
  obtain ⟨o1, o2, arr, t, o3, o4⟩ := h.own x hx
  have hne : x.1 ≠ l := fun e => by
   rcases hx with hx | hx
   ·have := yt hx; rw [e] at this; omega
   ·have := yt hx; rw [e] at this; omega
  exact ⟨o1, o2, arr, t, o3.of_heap (hoth _ hne), o4⟩
 ·rw [hmv.2]; exact h.dist b
 ·rw [hmv.2]; exact h.notF b hF
theorem P8 {F : Nat → Prop} {nt : Nat} {g : Gh} {s : St} {a : Act} {w : World} {l : Nat} {x : Obj} (h : SimX F nt g s a w []) (hl : F l) (hlt : l < w.heap.size) (hw : ∀ j, w.cell? ⟨l, j, none⟩ = none) (hx : ∀ j, (w.putObj l x).cell? ⟨l, j, none⟩ = none) (hty : Fg (w.putObj l x) l = Fg w l) (hk : Keeps F (w.putObj l x)) : SimX F nt g s a (w.putObj l x) [] :=
 let ⟨e, k⟩ := h.core.turn hl hlt hw hx hty hk; ⟨h.size, fun t => VR.ext e _ _ (h.slots t), k⟩
theorem SimX.Sb {F F' : Nat → Prop} {nt : Nat} {g : Gh} {s : St} {a : Act} {w : World} {os : List Rec} (h : SimX F' nt g s a w os) (hF : ∀ b, F b → F' b) (hk : Keeps F w) : SimX F nt g s a w os := ⟨h.size, h.slots, h.core.Sb hF hk⟩
theorem Na {F : Nat → Prop} {P : Program} {fn : Func} {nt : Nat} {g0 g' : Gh} {s' : St} {a' : Act} {w0 : World} {R : Ending → World → Prop} (hflt : ∀ b, F b → b < w0.heap.size) (hlen : ∀ b, 0 < g0.len b → b < w0.heap.size) (hgood : ∀ W : World, (∀ b, F b → W.heap[b]? = w0.heap[b]?) → Keeps F W)
 (hfin : ∀ W, SimX F nt g' s' a' W [] → Step F g0 w0 g' W → ∃ v, (results fn a'.tmps).run P W = .ok v W ∧ R (.returned v) W) : ∀ (ds : List Nat) (w' : World), ds.Pairwise (fun x y => y < x) → (∀ D ∈ ds, w0.heap.size ≤ D ∧ w'.heap[D]? = some (.deferred (some []))) →
  SimX (fun b => F b ∨ b ∈ ds) nt g' s' a' w' [] → Step F g0 w0 g' w' → LeavesInM Fence.wide 0 P fn a'.tmps R (ds.map fun D => ({ target := .collected D, args := #[] } : Deferred)) .returning w'
 | [], w', _, _, hs, hst => hfin w' (hs.Sb (fun b h => .inl h) (hgood w' fun b hb => (hst.frame b hb).1)) hst
 | D :: ds, w', hp, hD, hs, hst => by
  obtain ⟨hD1, hD2⟩ := hD D (by simp)
  obtain ⟨hp1, hp2⟩ := List.pairwise_cons.1 hp
  have hlt := (Array.getElem?_eq_some_iff.1 hD2).1
  have hoth : ∀ b, b ≠ D → (w'.putObj D (.deferred none)).heap[b]? = w'.heap[b]? := fun b hb => by simp [World.putObj, Array.getElem?_setIfInBounds_ne (Ne.symm hb)]
  have hsame : (w'.putObj D (.deferred none)).heap[D]? = some (.deferred none) := by simp [World.putObj, Array.getElem?_setIfInBounds_self_of_lt hlt]
  have hfr : ∀ b, F b → (w'.putObj D (.deferred none)).heap[b]? = w0.heap[b]? := fun b hb => by
   have := hflt b hb
   rw [hoth b (by omega)]; exact (hst.frame b hb).1
  have hk : Keeps (fun b => F b ∨ b ∈ D :: ds) (w'.putObj D (.deferred none)) := by
   obtain ⟨bs, k1, k2⟩ := hgood _ hfr
   exact ⟨bs, k1, fun b hb => ⟨.inl (k2 b hb).1, (k2 b hb).2⟩⟩
  have hs' := P8 hs (l := D) (x := .deferred none) (.inr (by simp)) hlt (fun j => by simp [World.cell?, hD2]) (fun j => by simp [World.cell?, hsame]) (by simp [Fg, hsame, hD2]) hk
  have hst' : Step F g0 w0 g' (w'.putObj D (.deferred none)) := by
   refine ⟨fun b j hj => ?_, fun b hb => ?_, fun b => Nat.le_trans (hst.bsz b) (GN hoth (by have h0 : mQ w' D = 0 := (by unfold mQ; rw [hD2]); rw [h0]; exact Nat.zero_le _) b), hst.len, fun b hb => ⟨hfr b hb, (hst.frame b hb).2⟩, by have := hst.size; simpa [World.putObj] using this, hst.os, hst.tape, hst.output⟩
   ·have h1 := hlen b (by omega)
    rw [cell_of (hoth b (by omega)), hst.cell b j hj]
   ·have h1 := hlen b hb
    rw [qY (hoth b (by omega)), hst.ty b hb]
  refine ⟨by simp, .inl ⟨D, _, rfl, run_takeDeferred hD2, ?_⟩⟩
  refine Na hflt hlen hgood hfin ds _ hp2 (fun E hE => ⟨(hD E (by simp [hE])).1, ?_⟩) (SimX.Sb hs' (fun b h => h.imp id fun h => by simp [h]) ?_) hst'
  ·have := hp1 E hE
   rw [hoth E (by omega)]; exact (hD E (by simp [hE])).2
  ·obtain ⟨bs, k1, k2⟩ := hgood _ hfr
   exact ⟨bs, k1, fun b hb => ⟨.inl (k2 b hb).1, (k2 b hb).2⟩⟩
theorem VY {P : Program} {f : FuncId} {fn : Func} {cd : Code} {nb nt : Nat} {ex : Ex} {rs : List RV} {n : Option Nat} {sp : FSpec} (hf : P.funcs[f]? = some fn) (hn : (fn.name == "runtime.NumGoroutine") = false) (hb : fn.body = some cd) (hnt : fn.ntmps = nt) (hres : fn.results = (rs.map RV.var).toArray)
 (hnn : ∀ m, n = some m → m = nb) (hnd : (RV.slots rs).Nodup) (hok : TV P rs = true) (hx : Snd ⟨P, nb, nt⟩ ex cd)
 (hsp : ∀ (args : List AV) (H : List AObj) (R : Type) (k : AV → List AObj → Option R) (r : R), sp args H R k = some r → args.length ≤ nt ∧ H.length = nb ∧ ex ⟨Ej 0 args, H⟩ R (fun e s => Ry rs n e s k) = some r) : FSound P f sp := by
 refine ⟨enters_of hf hn hb, fun args H R k r hr => ?_⟩
 obtain ⟨hargs, hH, hrun⟩ := hsp args H R k r hr
 obtain ⟨e, s', h1, h2⟩ := hx _ R _ r hrun
 have body : ∀ (v : AV) (H' : List AObj), (∀ (F : Nat → Prop) (g' : Gh) (a' : Act) (w' : World), SimX F nt g' s' a' w' [] → (∀ B : List Nat, B.length = nb → B <+: g'.obj → ∃ v' g'', (results fn a'.tmps).run P w' = .ok v' w' ∧ VR g'' w' v v' ∧ B <+: g''.obj ∧ g''.len = g'.len ∧ Core F g'' H' (owns v v') w')) → (e = .normal ∨ e = .ret) → k v H' = some r →
  ∃ v H', k v H' = some r ∧ ∀ (F : Nat → Prop) (g : Gh) (vs : List Value) (w : World), VRs g w args vs → Core F g H (aC args vs) w →
   Calls P f vs.toArray w fun e w' => ∃ v' g', e = .returned v' ∧ VR g' w' v v' ∧ g.obj <+: g'.obj ∧ Core F g' H' (owns v v') w' ∧ Step F g w g' w' := by
  intro v H' hfin he hk
  refine ⟨v, H', hk, fun F g vs w hvs hcore => callsIn_wide.1 (callsIn_of_wp_marks (n := 0) hf hb trivial ?_)⟩
  have hlen := hvs.length
  have hsim : SimX F nt g ⟨Ej 0 args, H⟩ { tmps := vs.toArray ++ Array.replicate (fn.ntmps - vs.toArray.size) undef, defers := [] } w [] := by
   refine ⟨by simp [hnt]; omega, fun t => ?_, ?_⟩
   ·have hg := GY H args 0 t
    rw [Nat.zero_add] at hg
    rw [hg]
    by_cases ht : t < args.length
    ·rw [List.getElem?_eq_getElem ht]
     obtain ⟨v', h5, h6⟩ := hvs.get t _ (List.getElem?_eq_getElem ht)
     have : (vs.toArray ++ Array.replicate (fn.ntmps - vs.toArray.size) undef).getD t undef = v' := by
      rw [Array.getD_eq_getD_getElem?, Array.getElem?_append_left (by simp; omega)]
      simp [h5]
     simp only [Option.getD_some]
     rw [this]; exact h6
    ·rw [List.getElem?_eq_none (by omega)]
     simp only [Option.getD_none, VR]
   ·have : (({ tmps := vs.toArray ++ Array.replicate (fn.ntmps - vs.toArray.size) undef, defers := [] } : Act)).tmps.toList = vs ++ List.replicate (fn.ntmps - vs.toArray.size) undef := by simp
    rw [this, JY args vs H _ 0 hlen _ (fun j => GY H args 0 j)]
    exact hcore
  have hBlen : g.obj.length = nb := by rw [← hcore.heap.length]; exact hH
  refine wpIn_mono (h2 F g _ w g.obj hBlen (List.prefix_refl _) hsim none 0 (fun _ => rfl)) ?_
  rintro e' a' w' ⟨rfl, F', g', hF', hp', hs', hst, ds, hds1, hds2, hds3⟩
  obtain ⟨bs, hg1, hg2⟩ := hcore.good
  have hgood : ∀ W : World, (∀ b, F b → W.heap[b]? = w.heap[b]?) → Keeps F W := fun W hW => ⟨bs, hg1, fun b hb => ⟨(hg2 b hb).1, (hW b (hg2 b hb).1).trans (hg2 b hb).2⟩⟩
  simp only [List.append_nil] at hds1
  have hle := Na (fn := fn) (P := P) (R := fun e w' => ∃ v' g', e = .returned v' ∧ VR g' w' v v' ∧ g.obj <+: g'.obj ∧ Core F g' H' (owns v v') w' ∧ Step F g w g' w') (fun b hb => hcore.flt b hb) (fun b hb => hcore.lenlt b hb) hgood (fun W hsW hstW => by
   obtain ⟨v', g'', h5, h6, h7, h8, h9⟩ := hfin F g' a' W hsW g.obj hBlen hp'
   exact ⟨v', h5, v', g'', rfl, h6, h7, h9, ⟨hstW.cell, hstW.ty, hstW.bsz, by rw [h8]; exact hstW.len, by rw [h8]; exact hstW.frame, hstW.size, hstW.os, hstW.tape, hstW.output⟩⟩) ds w' hds2 (fun D hD => ⟨(hds3 D hD).1, (hds3 D hD).2.2⟩)
   (hs'.Sb (fun b h => h.elim (hF' b) fun h => (hds3 b h).2.1) (by
    obtain ⟨bs, k1, k2⟩ := hgood w' fun b hb => (hst.frame b hb).1
    exact ⟨bs, k1, fun b hb => ⟨.inl (k2 b hb).1, (k2 b hb).2⟩⟩)) hst
  rw [← hds1] at hle
  rcases he with rfl | rfl
  ·exact hle
  ·exact hle
 have main : (e = .normal ∨ e = .ret) → Ry rs n .normal s' k = some r → ∃ v H', k v H' = some r ∧ ∀ (F : Nat → Prop) (g : Gh) (vs : List Value) (w : World), VRs g w args vs → Core F g H (aC args vs) w →
  Calls P f vs.toArray w fun e w' => ∃ v' g', e = .returned v' ∧ VR g' w' v v' ∧ g.obj <+: g'.obj ∧ Core F g' H' (owns v v') w' ∧ Step F g w g' w' := by
  intro he hk
  simp only [Ry] at hk
  obtain ⟨vs, hk2, hrn⟩ := Ow (nt := nt) hok hk
  cases n with
  | none =>
   refine body (Ml vs) s'.heap (fun F g' a' w' hs B hB hp => ?_) he hk2
   obtain ⟨us, h3, h4, h5⟩ := hrn F g' a' w' hs
   obtain ⟨h6, h7⟩ := UY h4
   obtain ⟨h8, h9⟩ := Mw a'.tmps (RV.slots rs) hnd s'
   exact ⟨_, g', M9 hres h3, h6, hp, rfl, (show Core F g' s'.heap (af s' 0 a'.tmps.toList) w' by simpa using hs.core).weaken (fun r hr => by rw [h7, h5] at hr; exact h9 r hr) (fun b => by rw [h7, h5]; exact h8 b)⟩
  | some m =>
   simp only at hk2
   have hm := hnn m rfl
   subst hm
   obtain ⟨ids, vs', hs, g1, g2, g3, g4, g5⟩ := Oj hk2
   refine body (Ml vs') hs (fun F g' a' w' hsx B hB hp => ?_) he g5
   obtain ⟨us, k3, k4, k5⟩ := hrn F g' a' w' hsx
   obtain ⟨r1, r2⟩ := VRs.ren (g := g') (g1 := partOf g' ids) (w := w') (fun _ => Nat.le_refl _) Oi (oO fun _ => Nat.le_refl _) _ _ us g3 k4
   obtain ⟨h6, h7⟩ := UY r1
   obtain ⟨h8, h9⟩ := Mw a'.tmps (RV.slots rs) hnd s'
   refine ⟨_, partOf g' ids, M9 hres k3, h6, IK hp (by rw [hB]; exact g2), rfl, ?_⟩
   exact ((show Core F g' s'.heap (af s' 0 a'.tmps.toList) w' by simpa using hsx.core).gc g1 g4).weaken (fun r hr => by rw [h7, r2, k5] at hr; exact h9 r hr) (fun b => by rw [h7, r2, k5]; exact h8 b)
 cases e with
 | normal => exact main (.inl rfl) h1
 | ret => exact main (.inr rfl) h1
 | exit id => exact absurd h1 (by simp [Ry])
theorem wpList_append_run {P : Program} {ops : Array Oper} {rest : List Oper} {o : Oper} {a : Act} {w w' : World} {Q : Exit → Act → World → Prop} (hgd : o.guard = none) (sl x : Operand) (t u : TypeId)
 (ho : o.op = .call { callee := .builtin .append, args := #[sl, x], argTypes := #[t, u] }) (v y v' : Value) (hs : a.eval sl = v) (hx : a.eval x = y) (hr : (Builtin.append_ #[t, u] o.type #[v, y]).run P w = .ok v' w') (h : wpList P ops Q rest (a.put o.dst v') w') : wpList P ops Q (o :: rest) a w := by
 refine wpList_plain hgd fun K hK => ?_
 unfold Oper.wp execOp
 simp only [ho, resolve, invoke, builtin, Sem.run_bind, Sem.run_pure, Result.andThen_ok, List.map_toArray, List.map_cons, List.map_nil, hs, hx, hr]
 exact hK _ _ h
end Go.Sh

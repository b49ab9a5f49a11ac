/- A part of the objects handed on, the rest left alone: how the relation is taken apart and put together again. -/
import Derived.Test.YtcbgfjghebopoaaDoorSK
namespace Go.Sh
open Go.RowKit
set_option linter.unusedSimpArgs false
set_option linter.unusedVariables false

/-! ### objects by number -/
def ownsI (w : World) (H : List AObj) (bs : List Nat) (i : Nat) : List Rec := match H[i]?, bs[i]? with
  | some o, some b => ownsO w b o
  | _, _ => []
theorem ownsH_range (w : World) : ∀ (H : List AObj) (bs : List Nat), H.length = bs.length → ownsH w H bs = (List.range H.length).flatMap (ownsI w H bs)
  | [], bs, h => by cases bs <;> simp at h; simp [ownsH]
  | o :: H, [], h => by simp at h
  | o :: H, b :: bs, h => by
    have ih := ownsH_range w H bs (by simpa using h)
    rw [ownsH, ih, List.length_cons, List.range_succ_eq_map, List.flatMap_cons, List.flatMap_map]
    rfl
theorem bs_range : ∀ (bs : List Nat), bs = (List.range bs.length).flatMap fun i => (bs[i]?).toList
  | [] => by simp
  | b :: bs => by
    rw [List.length_cons, List.range_succ_eq_map, List.flatMap_cons, List.flatMap_map]
    have ih := bs_range bs
    simp only [List.getElem?_cons_zero, Option.toList_some, List.getElem?_cons_succ, List.singleton_append]
    congr 1
theorem objsR_iff {g : Gh} {w : World} : ∀ {H : List AObj} {bs : List Nat}, ObjsR g w H bs ↔ H.length = bs.length ∧ ∀ (i b : Nat) (o : AObj), H[i]? = some o → bs[i]? = some b → ObjR g w b o
  | [], bs => by
    simp only [ObjsR]
    constructor
    · rintro rfl; exact ⟨rfl, fun i b o h => by simp at h⟩
    · rintro ⟨h, _⟩; exact List.length_eq_zero_iff.1 (by simpa using h.symm)
  | o :: H, bs => by
    simp only [ObjsR]
    constructor
    · rintro ⟨b, cs, rfl, h1, h2⟩
      obtain ⟨h3, h4⟩ := objsR_iff.1 h2
      refine ⟨by simp [h3], fun i b' o' hi hb => ?_⟩
      cases i with
      | zero => simp at hi hb; subst hi; subst hb; exact h1
      | succ i => exact h4 i b' o' (by simpa using hi) (by simpa using hb)
    · rintro ⟨h, h'⟩
      cases bs with
      | nil => simp at h
      | cons b cs =>
        exact ⟨b, cs, rfl, h' 0 b o rfl rfl, objsR_iff.2 ⟨by simpa using h, fun i b' o' hi hb => h' (i + 1) b' o' (by simpa using hi) (by simpa using hb)⟩⟩

/-- The blocks that an object claims: its own, and its rows'. -/
def liveI (H : List AObj) (bs : List Nat) (i : Nat) : List Nat := match H[i]?, bs[i]? with
  | some o, some b => bif o.dead then [] else [b]
  | _, _ => []
theorem lives_range : ∀ (H : List AObj) (bs : List Nat), H.length = bs.length → lives H bs = (List.range H.length).flatMap (liveI H bs)
  | [], bs, h => by cases bs <;> simp at h; simp [lives]
  | o :: H, [], h => by simp at h
  | o :: H, b :: bs, h => by
    have ih := lives_range H bs (by simpa using h)
    rw [lives, ih, List.length_cons, List.range_succ_eq_map, List.flatMap_cons, List.flatMap_map]
    have e : liveI (o :: H) (b :: bs) 0 = bif o.dead then [] else [b] := rfl
    rw [e]
    cases o.dead <;> rfl
theorem mem_lives {H : List AObj} {bs : List Nat} (h : H.length = bs.length) {b : Nat} : b ∈ lives H bs ↔ ∃ (i : Nat) (o : AObj), H[i]? = some o ∧ bs[i]? = some b ∧ o.dead = false := by
  refine ⟨fun hb => ?_, fun ⟨i, o, h1, h2, h3⟩ => lives_at h1 h2 h3⟩
  rw [lives_range H bs h, List.mem_flatMap] at hb
  obtain ⟨i, _, hb⟩ := hb
  unfold liveI at hb
  split at hb
  · rename_i o c h1 h2
    cases hd : o.dead with
    | true => rw [hd] at hb; simp at hb
    | false =>
      rw [hd] at hb
      simp at hb
      subst hb
      exact ⟨i, o, h1, h2, hd⟩
  · simp at hb
theorem liveI_mem {H : List AObj} {bs : List Nat} {i b : Nat} (hb : b ∈ liveI H bs i) : ∃ o : AObj, H[i]? = some o ∧ bs[i]? = some b ∧ o.dead = false := by
  unfold liveI at hb
  split at hb
  · rename_i o c h1 h2
    cases hd : o.dead with
    | true => rw [hd] at hb; simp at hb
    | false =>
      rw [hd] at hb
      simp at hb
      subst hb
      exact ⟨o, h1, h2, hd⟩
  · simp at hb
theorem liveI_at {H : List AObj} {bs : List Nat} {i b : Nat} {o : AObj} (h1 : H[i]? = some o) (h2 : bs[i]? = some b) (hd : o.dead = false) : b ∈ liveI H bs i := by
  unfold liveI
  rw [h1, h2]
  simp [hd]
theorem renO_dead {f : Nat → Option Nat} {o o' : AObj} (h : renO f o = some o') : o'.dead = o.dead := by
  cases o with
  | cells t cs =>
    simp only [renO] at h
    obtain ⟨_, _, h2⟩ := Option.bind_eq_some_iff.1 h
    injection h2 with h2; subst h2; rfl
  | map es =>
    simp only [renO] at h
    obtain ⟨_, _, h2⟩ := Option.bind_eq_some_iff.1 h
    injection h2 with h2; subst h2; rfl
  | loop key cs =>
    simp only [renO] at h
    obtain ⟨_, _, h2⟩ := Option.bind_eq_some_iff.1 h
    injection h2 with h2; subst h2; rfl
  | _ => simp only [renO] at h; injection h with h; subst h; rfl
def claims (w : World) (H : List AObj) (bs : List Nat) (i : Nat) : List Nat := (ownsI w H bs i).map (·.1) ++ liveI H bs i
theorem oc_map (b : Nat) (l : List Rec) : oc b l = (l.map (·.1)).count b := by
  simp [oc, List.count, List.countP_map, Function.comp_def]
theorem count_flatMap_append (b : Nat) {f g : Nat → List Nat} : ∀ (l : List Nat), (l.flatMap fun i => f i ++ g i).count b = (l.flatMap f).count b + (l.flatMap g).count b
  | [] => by simp
  | i :: l => by
    simp only [List.flatMap_cons, List.count_append, count_flatMap_append b l]
    omega
theorem claims_count (w : World) {H : List AObj} {bs : List Nat} (h : H.length = bs.length) (b : Nat) : oc b (ownsH w H bs) + (lives H bs).count b = ((List.range H.length).flatMap (claims w H bs)).count b := by
  rw [oc_map, ownsH_range w H bs h, List.map_flatMap]
  show _ = ((List.range H.length).flatMap fun i => (ownsI w H bs i).map (·.1) ++ liveI H bs i).count b
  rw [count_flatMap_append]
  congr 1
  exact congrArg (List.count b) (lives_range H bs h)
theorem claims_own {w : World} {H : List AObj} {bs : List Nat} {i : Nat} {r : Rec} (h : r ∈ ownsI w H bs i) : r.1 ∈ claims w H bs i := List.mem_append_left _ (List.mem_map.2 ⟨r, h, rfl⟩)
theorem mem_ownsH {w : World} {H : List AObj} {bs : List Nat} (h : H.length = bs.length) {r : Rec} : r ∈ ownsH w H bs ↔ ∃ i, i < H.length ∧ r ∈ ownsI w H bs i := by
  rw [ownsH_range w H bs h, List.mem_flatMap]
  simp

theorem perm_split {ids : List Nat} {n : Nat} (hn : ids.Nodup) (hl : ∀ i ∈ ids, i < n) : (List.range n).Perm (ids ++ (List.range n).filter fun i => !ids.contains i) := by
  refine ((List.filter_append_perm (fun i => ids.contains i) (List.range n)).symm).trans (List.Perm.append_right _ ?_)
  refine List.perm_iff_count.2 fun a => ?_
  have h1 : ((List.range n).filter fun i => ids.contains i).Nodup := List.nodup_range.filter _
  rw [h1.count, hn.count]
  by_cases ha : a ∈ ids
  · simp [ha, hl a ha]
  · simp [ha]
theorem range_map_get : ∀ (ids : List Nat), ids = (List.range ids.length).map fun p => ids.getD p 0
  | [] => by simp
  | i :: ids => by
    rw [List.length_cons, List.range_succ_eq_map, List.map_cons, List.map_map]
    have ih := range_map_get ids
    simp only [List.getD_cons_zero, Function.comp_def, List.getD_cons_succ]
    congr 1

/-! ### pointers by other numbers -/
mutual
theorem VR.ren {f : Nat → Option Nat} {g g1 : Gh} {w : World} (hl : ∀ b, g.len b ≤ g1.len b) (hf : ∀ (i j b : Nat), f i = some j → g.obj[i]? = some b → g1.obj[j]? = some b) (hnp : ∀ (a : AV) (v : Value), noPtr a = true → VR g w a v → VR g1 w a v) :
    ∀ (a a' : AV) (v : Value), Sh.ren f a = some a' → VR g w a v → VR g1 w a' v ∧ owns a' v = owns a v
  | .ptr (some (id, off)), a', v, h, hv => by
    simp only [Sh.ren] at h
    obtain ⟨j, h1, h2⟩ := Option.bind_eq_some_iff.1 h
    injection h2 with h2
    subst h2
    simp only [VR] at hv ⊢
    obtain ⟨b, rfl, hb⟩ := hv
    exact ⟨⟨b, rfl, hf _ _ _ h1 hb⟩, rfl⟩
  | .agg cs, a', v, h, hv => by
    simp only [Sh.ren] at h
    obtain ⟨cs', h1, h2⟩ := Option.bind_eq_some_iff.1 h
    injection h2 with h2
    subst h2
    simp only [VR] at hv ⊢
    obtain ⟨vs, rfl, hvs⟩ := hv
    obtain ⟨h3, h4⟩ := VRs.ren hl hf hnp cs cs' _ h1 hvs
    exact ⟨⟨vs, rfl, h3⟩, by simp only [owns, h4]⟩
  | .tuple cs, a', v, h, hv => by
    simp only [Sh.ren] at h
    obtain ⟨cs', h1, h2⟩ := Option.bind_eq_some_iff.1 h
    injection h2 with h2
    subst h2
    simp only [VR] at hv ⊢
    obtain ⟨vs, rfl, hvs⟩ := hv
    obtain ⟨h3, h4⟩ := VRs.ren hl hf hnp cs cs' _ h1 hvs
    exact ⟨⟨vs, rfl, h3⟩, by simp only [owns, h4]⟩
  | .func fn a b, a', v, h, hv => by
    simp only [Sh.ren] at h
    obtain ⟨cs', h1, h2⟩ := Option.bind_eq_some_iff.1 h
    obtain ⟨ds', h3, h4⟩ := Option.bind_eq_some_iff.1 h2
    injection h4 with h4
    subst h4
    simp only [VR] at hv ⊢
    obtain ⟨xs, ys, rfl, hxs, hys⟩ := hv
    exact ⟨⟨xs, ys, rfl, (VRs.ren hl hf hnp a cs' _ h1 hxs).1, (VRs.ren hl hf hnp b ds' _ h3 hys).1⟩, rfl⟩
  | .iface t x, a', v, h, hv => by
    simp only [Sh.ren] at h
    obtain ⟨x', h1, h2⟩ := Option.bind_eq_some_iff.1 h
    injection h2 with h2
    subst h2
    simp only [VR] at hv ⊢
    obtain ⟨y, rfl, hy⟩ := hv
    exact ⟨⟨y, rfl, (VR.ren hl hf hnp x x' y h1 hy).1⟩, rfl⟩
  | .undef, a', v, h, hv => by simp only [Sh.ren] at h; injection h with h; subst h; exact ⟨hnp _ _ rfl hv, rfl⟩
  | .int .., a', v, h, hv => by simp only [Sh.ren] at h; injection h with h; subst h; exact ⟨hnp _ _ rfl hv, rfl⟩
  | .bool .., a', v, h, hv => by simp only [Sh.ren] at h; injection h with h; subst h; exact ⟨hnp _ _ rfl hv, rfl⟩
  | .str .., a', v, h, hv => by simp only [Sh.ren] at h; injection h with h; subst h; exact ⟨hnp _ _ rfl hv, rfl⟩
  | .ints .., a', v, h, hv => by simp only [Sh.ren] at h; injection h with h; subst h; exact ⟨hnp _ _ rfl hv, rfl⟩
  | .strs .., a', v, h, hv => by simp only [Sh.ren] at h; injection h with h; subst h; exact ⟨hnp _ _ rfl hv, rfl⟩
  | .sl .., a', v, h, hv => by simp only [Sh.ren] at h; injection h with h; subst h; exact ⟨hnp _ _ rfl hv, rfl⟩
  | .eptr .., a', v, h, hv => by simp only [Sh.ren] at h; injection h with h; subst h; exact ⟨hnp _ _ rfl hv, rfl⟩
  | .ptr none, a', v, h, hv => by simp only [Sh.ren] at h; injection h with h; subst h; exact ⟨hnp _ _ rfl hv, rfl⟩
  | .mut id off m sz, a', v, h, hv => by
    simp only [Sh.ren] at h
    obtain ⟨j, h1, h2⟩ := Option.bind_eq_some_iff.1 h
    injection h2 with h2
    subst h2
    simp only [VR] at hv ⊢
    obtain ⟨ao, b, c, rfl, ha, hm, hb⟩ := hv
    exact ⟨⟨ao, b, c, rfl, ha, hm, hf _ _ _ h1 hb⟩, by cases ao <;> rfl⟩
  | .map none, a', v, h, hv => by simp only [Sh.ren] at h; injection h with h; subst h; exact ⟨hnp _ _ rfl hv, rfl⟩
  | .mo id m tot sz, a', v, h, hv => by
    simp only [Sh.ren] at h
    obtain ⟨j, h1, h2⟩ := Option.bind_eq_some_iff.1 h
    injection h2 with h2
    subst h2
    simp only [VR] at hv ⊢
    obtain ⟨ao, b, c, rfl, ha, hm, hb, h5, h6⟩ := hv
    exact ⟨⟨ao, b, c, rfl, ha, hm, hf _ _ _ h1 hb, h5, h6⟩, by cases ao <;> rfl⟩
  | .yld id, a', v, h, hv => by
    simp only [Sh.ren] at h
    obtain ⟨j, h1, h2⟩ := Option.bind_eq_some_iff.1 h
    injection h2 with h2
    subst h2
    simp only [VR] at hv ⊢
    obtain ⟨b, rfl, hb⟩ := hv
    exact ⟨⟨b, rfl, hf _ _ _ h1 hb⟩, rfl⟩
  | .map (some id), a', v, h, hv => by
    simp only [Sh.ren] at h
    obtain ⟨j, h1, h2⟩ := Option.bind_eq_some_iff.1 h
    injection h2 with h2
    subst h2
    simp only [VR] at hv ⊢
    obtain ⟨b, rfl, hb⟩ := hv
    exact ⟨⟨b, rfl, hf _ _ _ h1 hb⟩, rfl⟩
  | .nilFunc, a', v, h, hv => by simp only [Sh.ren] at h; injection h with h; subst h; exact ⟨hnp _ _ rfl hv, rfl⟩
  | .nilIface, a', v, h, hv => by simp only [Sh.ren] at h; injection h with h; subst h; exact ⟨hnp _ _ rfl hv, rfl⟩
theorem VRs.ren {f : Nat → Option Nat} {g g1 : Gh} {w : World} (hl : ∀ b, g.len b ≤ g1.len b) (hf : ∀ (i j b : Nat), f i = some j → g.obj[i]? = some b → g1.obj[j]? = some b) (hnp : ∀ (a : AV) (v : Value), noPtr a = true → VR g w a v → VR g1 w a v) :
    ∀ (cs cs' : List AV) (vs : List Value), renL f cs = some cs' → VRs g w cs vs → VRs g1 w cs' vs ∧ ownsL cs' vs = ownsL cs vs
  | [], cs', vs, h, hv => by simp only [renL] at h; injection h with h; subst h; exact ⟨hv, rfl⟩
  | c :: cs, cs', vs, h, hv => by
    simp only [renL] at h
    obtain ⟨c', h1, h2⟩ := Option.bind_eq_some_iff.1 h
    obtain ⟨ds', h3, h4⟩ := Option.bind_eq_some_iff.1 h2
    injection h4 with h4
    subst h4
    simp only [VRs] at hv ⊢
    obtain ⟨v, us, rfl, hv1, hv2⟩ := hv
    obtain ⟨h5, h6⟩ := VR.ren hl hf hnp c c' v h1 hv1
    obtain ⟨h7, h8⟩ := VRs.ren hl hf hnp cs ds' us h3 hv2
    exact ⟨⟨v, us, rfl, h5, h7⟩, by simp only [ownsL, h6, h8]⟩
end

theorem Reads.len {g g1 : Gh} {w : World} (hl : ∀ b, g.len b ≤ g1.len b) {a : Addr} {vs : List Value} (h : Reads g w a vs) : Reads g1 w a vs := ⟨h.1, Nat.le_trans h.2.1 (hl _), h.2.2⟩
theorem Row.len {g g1 : Gh} {w : World} (hl : ∀ b, g.len b ≤ g1.len b) {own : Bool} {a : Option Addr} {n c sz : Nat} {vs : List Value} (h : Row g w own a n c sz vs) : Row g1 w own a n c sz vs :=
  ⟨h.1, h.2.1, h.2.2.1, fun hp => let ⟨ad, h1, h2⟩ := h.2.2.2.1 hp; ⟨ad, h1, h2.len hl⟩, h.2.2.2.2⟩
mutual
/-- What leads to no object is the same under other numbers. -/
theorem noPtr_ok {g g1 : Gh} {w : World} (hl : ∀ b, g.len b ≤ g1.len b) : ∀ (a : AV) (v : Value), noPtr a = true → VR g w a v → VR g1 w a v
  | .undef, _, _, h => by simp only [VR]
  | .int .., _, _, h => by simpa only [VR] using h
  | .bool .., _, _, h => by simpa only [VR] using h
  | .str .., _, _, h => by simpa only [VR] using h
  | .ints .., _, _, h => by
    simp only [VR] at h ⊢
    obtain ⟨a, n, c, h1, h2⟩ := h
    exact ⟨a, n, c, h1, h2.len hl⟩
  | .strs .., _, _, h => by
    simp only [VR] at h ⊢
    obtain ⟨a, n, c, h1, h2⟩ := h
    exact ⟨a, n, c, h1, h2.len hl⟩
  | .sl own sz els, _, _, h => by
    simp only [VR] at h ⊢
    obtain ⟨a, n, c, vs, h1, h2, h3, h4, h5⟩ := h
    exact ⟨a, n, c, vs, h1, h2.len hl, h3, h4, noPtrss_ok hl els vs (fun e he => (h4 e he).2) h5⟩
  | .eptr cs, _, _, h => by
    simp only [VR] at h ⊢
    obtain ⟨a, vs, h1, h2, h3, h4⟩ := h
    exact ⟨a, vs, h1, h2.len hl, noPtrs_ok hl cs vs h4 h3, h4⟩
  | .ptr none, _, _, h => by simpa only [VR] using h
  | .ptr (some _), _, hn, _ => by simp [noPtr] at hn
  | .mut .., _, hn, _ => by simp [noPtr] at hn
  | .mo .., _, hn, _ => by simp [noPtr] at hn
  | .map none, _, _, h => by simpa only [VR] using h
  | .map (some _), _, hn, _ => by simp [noPtr] at hn
  | .func fn a b, _, hn, h => by
    simp only [noPtr, Bool.and_eq_true] at hn
    simp only [VR] at h ⊢
    obtain ⟨xs, ys, h1, h2, h3⟩ := h
    exact ⟨xs, ys, h1, noPtrs_ok hl a _ hn.1 h2, noPtrs_ok hl b _ hn.2 h3⟩
  | .nilFunc, _, _, h => by simpa only [VR] using h
  | .nilIface, _, _, h => by simpa only [VR] using h
  | .iface t x, _, hn, h => by
    simp only [noPtr] at hn
    simp only [VR] at h ⊢
    obtain ⟨y, h1, h2⟩ := h
    exact ⟨y, h1, noPtr_ok hl x y hn h2⟩
  | .agg cs, _, hn, h => by
    simp only [noPtr] at hn
    simp only [VR] at h ⊢
    obtain ⟨vs, h1, h2⟩ := h
    exact ⟨vs, h1, noPtrs_ok hl cs _ hn h2⟩
  | .tuple cs, _, hn, h => by
    simp only [noPtr] at hn
    simp only [VR] at h ⊢
    obtain ⟨vs, h1, h2⟩ := h
    exact ⟨vs, h1, noPtrs_ok hl cs _ hn h2⟩
theorem noPtrs_ok {g g1 : Gh} {w : World} (hl : ∀ b, g.len b ≤ g1.len b) : ∀ (cs : List AV) (vs : List Value), noPtrL cs = true → VRs g w cs vs → VRs g1 w cs vs
  | [], _, _, h => by simpa only [VRs] using h
  | c :: cs, vs, hn, h => by
    simp only [noPtrL, Bool.and_eq_true] at hn
    simp only [VRs] at h ⊢
    obtain ⟨v, us, h1, h2, h3⟩ := h
    exact ⟨v, us, h1, noPtr_ok hl c v hn.1 h2, noPtrs_ok hl cs us hn.2 h3⟩
theorem noPtrss_ok {g g1 : Gh} {w : World} (hl : ∀ b, g.len b ≤ g1.len b) : ∀ (es : List (List AV)) (vs : List Value), (∀ e ∈ es, noPtrL e = true) → VRss g w es vs → VRss g1 w es vs
  | [], _, _, h => by simpa only [VRss] using h
  | e :: es, vs, hn, h => by
    simp only [VRss] at h ⊢
    obtain ⟨p, q, h1, h2, h3⟩ := h
    exact ⟨p, q, h1, noPtrs_ok hl e p (hn e (by simp)) h2, noPtrss_ok hl es q (fun e he => hn e (by simp [he])) h3⟩
end

end Go.Sh

/- Pieces: fewer slots known; functions. -/
import Derived.Test.YtcbgfjghebopoaaDoorSO
namespace Go.Sh
open Go.RowKit
set_option linter.unusedSimpArgs false
set_option linter.unusedVariables false
variable {c : Cx}

theorem owns_undefA (v : Value) : owns .undef v = [] := by cases v <;> rfl
theorem slotOwns_forget {s s' : St} : ∀ (l : List Value) (i : Nat), (∀ t, s'.get t = s.get t ∨ s'.get t = .undef) → (∀ b, oc b (slotOwns s' i l) ≤ oc b (slotOwns s i l)) ∧ ∀ r, r ∈ slotOwns s' i l → r ∈ slotOwns s i l
  | [], _, _ => ⟨fun _ => Nat.le_refl _, fun _ h => h⟩
  | v :: l, i, h => by
    obtain ⟨h1, h2⟩ := slotOwns_forget (s := s) (s' := s') l (i + 1) h
    simp only [slotOwns]
    rcases h i with e | e
    · rw [e]
      exact ⟨fun b => by have := h1 b; simp only [oc_append]; omega, fun r hr => by
        simp only [List.mem_append] at hr ⊢
        exact hr.imp id (h2 r)⟩
    · rw [e, owns_undefA]
      exact ⟨fun b => by have := h1 b; simp only [oc_append, List.nil_append]; omega, fun r hr => List.mem_append_right _ (h2 r (by simpa using hr))⟩
theorem SimX.forget {F : Nat → Prop} {nt : Nat} {g : Gh} {s s' : St} {a : Act} {w : World} (h : SimX F nt g s a w []) (hg : ∀ t, s'.get t = s.get t ∨ s'.get t = .undef) (hh : s'.heap = s.heap) : SimX F nt g s' a w [] := by
  obtain ⟨h1, h2⟩ := slotOwns_forget (s := s) (s' := s') a.tmps.toList 0 hg
  refine ⟨h.size, fun t => ?_, ?_⟩
  · rcases hg t with e | e
    · rw [e]; exact h.slots t
    · rw [e]; simp only [VR]
  · rw [hh]
    exact h.core.weaken (fun r hr => h2 r hr) h1
theorem get_mask {s : St} {H : List AObj} (t : Nat) : ∀ (m : List Nat), (⟨m.map fun t => (t, s.get t), H⟩ : St).get t = s.get t ∨ (⟨m.map fun t => (t, s.get t), H⟩ : St).get t = .undef
  | [] => .inr rfl
  | u :: m => by
    simp only [List.map_cons]
    rw [get_cons]
    by_cases e : u = t
    · subst e; rw [if_pos rfl]; exact .inl rfl
    · rw [if_neg e]; exact get_mask t m

mutual
theorem below_ren (n : Nat) : ∀ (a : AV), below n a = true → Sh.ren (fun i => if i < n then some i else none) a = some a
  | .ptr (some (id, off)), h => by
    simp only [below, decide_eq_true_eq] at h
    simp [Sh.ren, h]
  | .agg cs, h => by simp only [below] at h; simp [Sh.ren, belowL_ren n cs h]
  | .tuple cs, h => by simp only [below] at h; simp [Sh.ren, belowL_ren n cs h]
  | .func fn a b, h => by
    simp only [below, Bool.and_eq_true] at h
    simp [Sh.ren, belowL_ren n a h.1, belowL_ren n b h.2]
  | .iface t v, h => by simp only [below] at h; simp [Sh.ren, below_ren n v h]
  | .mut id off m sz, h => by
    simp only [below, decide_eq_true_eq] at h
    simp [Sh.ren, h]
  | .map (some id), h => by
    simp only [below, decide_eq_true_eq] at h
    simp [Sh.ren, h]
  | .yld id, h => by
    simp only [below, decide_eq_true_eq] at h
    simp [Sh.ren, h]
  | .mo id m tot sz, h => by
    simp only [below, decide_eq_true_eq] at h
    simp [Sh.ren, h]
  | .undef, _ | .int .., _ | .bool .., _ | .str .., _ | .ints .., _ | .strs .., _ | .sl .., _ | .eptr .., _ | .ptr none, _ | .map none, _ | .nilFunc, _ | .nilIface, _ => rfl
theorem belowL_ren (n : Nat) : ∀ (cs : List AV), belowL n cs = true → renL (fun i => if i < n then some i else none) cs = some cs
  | [], _ => rfl
  | c :: cs, h => by
    simp only [belowL, Bool.and_eq_true] at h
    simp [renL, below_ren n c h.1, belowL_ren n cs h.2]
end
theorem belowL_all : ∀ {n : Nat} {cs : List AV}, belowL n cs = true → ∀ a ∈ cs, below n a = true
  | n, [], _, a, h => by simp at h
  | n, c :: cs, h, a, ha => by
    simp only [belowL, Bool.and_eq_true] at h
    rcases List.mem_cons.1 ha with rfl | ha
    · exact h.1
    · exact belowL_all h.2 a ha
/-! ### objects given up -/
theorem addId_prefix (id : Nat) (l : List Nat) : l <+: addId id l := by
  unfold addId
  cases l.contains id
  · exact List.prefix_append _ _
  · exact List.prefix_refl _
mutual
theorem idsV_prefix : ∀ (a : AV) (l : List Nat), l <+: idsV a l
  | .ptr (some (id, _)), l => addId_prefix id l
  | .mut id _ _ _, l => addId_prefix id l
  | .map (some id), l => addId_prefix id l
  | .yld id, l => addId_prefix id l
  | .mo id _ _ _, l => addId_prefix id l
  | .agg cs, l => idsL_prefix cs l
  | .tuple cs, l => idsL_prefix cs l
  | .func _ a b, l => (idsL_prefix a l).trans (idsL_prefix b _)
  | .iface _ v, l => idsV_prefix v l
  | .undef, l | .int .., l | .bool .., l | .str .., l | .ints .., l | .strs .., l | .sl .., l | .eptr .., l | .ptr none, l | .map none, l | .nilFunc, l | .nilIface, l => List.prefix_refl _
theorem idsL_prefix : ∀ (az : List AV) (l : List Nat), l <+: idsL az l
  | [], l => List.prefix_refl _
  | a :: az, l => (idsV_prefix a l).trans (idsL_prefix az _)
end
theorem idsE_prefix : ∀ (es : List (AV × AV)) (l : List Nat), l <+: idsE es l
  | [], l => List.prefix_refl _
  | (k, v) :: es, l => ((idsV_prefix k l).trans (idsV_prefix v _)).trans (idsE_prefix es _)
theorem idsO_prefix (o : AObj) (l : List Nat) : l <+: idsO o l := by
  cases o with
  | cells t cs => exact idsL_prefix cs l
  | map es => exact idsE_prefix es l
  | loop k cs => exact idsL_prefix cs l
  | _ => exact List.prefix_refl _
theorem closeIds_prefix (H : List AObj) : ∀ (n p : Nat) (l : List Nat), l <+: closeIds H n p l
  | 0, p, l => List.prefix_refl _
  | n + 1, p, l => by
    simp only [closeIds]
    split
    · split
      · exact (idsO_prefix _ l).trans (closeIds_prefix H n _ _)
      · exact closeIds_prefix H n _ _
    · exact List.prefix_refl _
theorem gcIds_prefix (nb : Nat) (vs : List AV) (H : List AObj) : List.range nb <+: gcIds nb vs H := (idsL_prefix vs _).trans (closeIds_prefix H _ _ _)
theorem pick_lt {f : Nat → Option Nat} {H : List AObj} {ids : List Nat} {hs : List AObj} (h : pickObjs f H ids = some hs) : ∀ i ∈ ids, i < H.length := fun i hi => by
  obtain ⟨p, hp, hpi⟩ := List.mem_iff_getElem.1 hi
  obtain ⟨o, _, ho, _⟩ := (pickObjs_some h).2 p i (by rw [List.getElem?_eq_getElem hp, hpi])
  exact (List.getElem?_eq_some_iff.1 ho).1
theorem Core.gc {F : Nat → Prop} {g : Gh} {H : List AObj} {os : List Rec} {w : World} {ids : List Nat} {hs : List AObj} (h : Core F g H os w) (hn : ids.Nodup) (hp : pickObjs (toPos ids) H ids = some hs) : Core F (partOf g ids) hs os w := by
  have h' : Core F g H (os ++ []) w := by simpa using h
  have k := h'.split hn (pick_lt hp) hp
  exact ⟨k.heap, k.own, k.dist, fun b hF => k.notF b (.inl hF), k.objlen, k.lenlt, h.flt, h.good⟩
theorem gpart_ok {g : Gh} {ids : List Nat} (i j b : Nat) (hij : toPos ids i = some j) (hb : g.obj[i]? = some b) : (partOf g ids).obj[j]? = some b := by
  rw [partOf_get (toPos_some hij), List.getD_eq_getElem?_getD, hb]; rfl
theorem prefix_part {B : List Nat} {g : Gh} {ids : List Nat} (h : B <+: g.obj) (hi : List.range B.length <+: ids) : B <+: (partOf g ids).obj := by
  obtain ⟨t, ht⟩ := hi
  obtain ⟨u, hu⟩ := h
  refine ⟨t.map fun i => g.obj.getD i 0, ?_⟩
  simp only [partOf, ← ht, List.map_append]
  congr 1
  have : ∀ i, i < B.length → g.obj.getD i 0 = B.getD i 0 := fun i hi => by
    rw [← hu, List.getD_eq_getElem?_getD, List.getElem?_append_left hi, List.getD_eq_getElem?_getD]
  conv => lhs; rw [range_map_get B]
  exact List.map_congr_left fun i hi => (this i (by simpa using hi)).symm
/-- Values, and the objects that they lead to. -/
theorem gcV_some {nb : Nat} {vs : List AV} {H : List AObj} {R : Type} {k : List AV → List AObj → Option R} {r : R} (h : gcV nb vs H k = some r) : ∃ ids vs' hs, ids.Nodup ∧ List.range nb <+: ids ∧ renL (toPos ids) vs = some vs' ∧ pickObjs (toPos ids) H ids = some hs ∧ k vs' hs = some r := by
  unfold gcV at h
  obtain ⟨vs', h1, h2⟩ := Option.bind_eq_some_iff.1 h
  obtain ⟨hs, h3, h4⟩ := Option.bind_eq_some_iff.1 h2
  exact ⟨_, vs', hs, gcIds_nodup .., gcIds_prefix .., h1, h3, h4⟩
theorem zip_ren {f : Nat → Option Nat} {s : St} {H H' : List AObj} : ∀ {m : List Nat} {vs : List AV}, renL f (m.map s.get) = some vs → ∀ t, ((⟨m.zip vs, H⟩ : St).get t = .undef ∧ (⟨m.map fun t => (t, s.get t), H'⟩ : St).get t = .undef) ∨ Sh.ren f ((⟨m.map fun t => (t, s.get t), H'⟩ : St).get t) = some ((⟨m.zip vs, H⟩ : St).get t)
  | [], vs, h, t => .inl ⟨by simp only [List.zip_nil_left]; rfl, rfl⟩
  | u :: m, vs, h, t => by
    simp only [List.map_cons, renL] at h
    obtain ⟨v', h1, h2⟩ := Option.bind_eq_some_iff.1 h
    obtain ⟨vs', h3, h4⟩ := Option.bind_eq_some_iff.1 h2
    injection h4 with h4
    subst h4
    simp only [List.zip_cons_cons, List.map_cons]
    rw [get_cons, get_cons]
    by_cases e : u = t
    · subst e; rw [if_pos rfl, if_pos rfl]; exact .inr h1
    · rw [if_neg e, if_neg e]; exact zip_ren h3 t
theorem slotOwns_eq {s s' : St} : ∀ (l : List Value) (i : Nat), (∀ j v, l[j]? = some v → owns (s.get (i + j)) v = owns (s'.get (i + j)) v) → slotOwns s i l = slotOwns s' i l
  | [], _, _ => rfl
  | v :: l, i, h => by
    have h0 := h 0 v rfl
    simp only [slotOwns]
    have h1 : slotOwns s (i + 1) l = slotOwns s' (i + 1) l := slotOwns_eq l (i + 1) (fun j v hj => by have := h (j + 1) v (by simpa using hj); rw [show i + (j + 1) = i + 1 + j by omega] at this; exact this)
    rw [show owns (s.get i) v = owns (s'.get i) v from h0, h1]
theorem SimX.gc {F : Nat → Prop} {nt : Nat} {g : Gh} {s : St} {a : Act} {w : World} (h : SimX F nt g s a w []) {m : List Nat} {vs : List AV} {ids : List Nat} {hs : List AObj} (hn : ids.Nodup) (hv : renL (toPos ids) (m.map s.get) = some vs) (hp : pickObjs (toPos ids) s.heap ids = some hs) : SimX F nt (partOf g ids) ⟨m.zip vs, hs⟩ a w [] := by
  have hM := h.forget (s' := ⟨m.map fun t => (t, s.get t), s.heap⟩) (get_mask · m) rfl
  have key : ∀ t u, VR g w ((⟨m.map fun t => (t, s.get t), s.heap⟩ : St).get t) u → VR (partOf g ids) w ((⟨m.zip vs, hs⟩ : St).get t) u ∧ owns ((⟨m.zip vs, hs⟩ : St).get t) u = owns ((⟨m.map fun t => (t, s.get t), s.heap⟩ : St).get t) u := fun t u hu => by
    rcases zip_ren (H := hs) (H' := s.heap) hv t with ⟨h1, h2⟩ | h1
    · rw [h1, h2]; exact ⟨by simp only [VR], rfl⟩
    · exact VR.ren (g := g) (g1 := partOf g ids) (fun _ => Nat.le_refl _) gpart_ok (noPtr_ok fun _ => Nat.le_refl _) _ _ u h1 hu
  refine ⟨hM.size, fun t => (key t _ (hM.slots t)).1, ?_⟩
  have hc := hM.core.gc hn hp
  rw [List.nil_append] at hc ⊢
  rw [slotOwns_eq (s := ⟨m.zip vs, hs⟩) (s' := ⟨m.map fun t => (t, s.get t), s.heap⟩) a.tmps.toList 0 (fun j v hj => by
    rw [Nat.zero_add]
    refine (key j v ?_).2
    have := hM.slots j
    rw [Array.getD_eq_getD_getElem?] at this
    have hj' : a.tmps[j]? = some v := by simpa using hj
    rw [hj'] at this
    exact this)]
  exact hc
theorem drop_some {s : St} {m : List Nat × Option Nat} {R : Type} {k : St → Option R} {r : R} {nb : Nat} (hm : ∀ n, m.2 = some n → n = nb) (h : s.drop m k = some r) : ∃ s', k s' = some r ∧ ∀ (F : Nat → Prop) (nt : Nat) (g : Gh) (a : Act) (w : World) (B : List Nat), B.length = nb → B <+: g.obj → SimX F nt g s a w [] → ∃ g', B <+: g'.obj ∧ SimX F nt g' s' a w [] ∧ g'.len = g.len := by
  unfold St.drop at h
  split at h
  · exact ⟨_, h, fun F nt g a w B hB hp hs => ⟨g, hp, hs.forget (get_mask · _) rfl, rfl⟩⟩
  · rename_i n hn
    have := hm n hn
    subst this
    obtain ⟨ids, vs', hs, h1, h2, h3, h4, h5⟩ := gcV_some h
    exact ⟨_, h5, fun F nt g a w B hB hp hs => ⟨partOf g ids, prefix_part hp (by rw [hB]; exact h2), hs.gc h1 h3 h4, rfl⟩⟩
theorem Step.lenEq {F : Nat → Prop} {g g1 g2 : Gh} {w w1 : World} (h : Step F g w g1 w1) (hl : g2.len = g1.len) : Step F g w g2 w1 :=
  ⟨h.cell, h.ty, h.bsz, by rw [hl]; exact h.len, by rw [hl]; exact h.frame, h.size, h.os, h.tape, h.output⟩
theorem Step.lenEq' {F : Nat → Prop} {g g1 g2 : Gh} {w w1 : World} (h : Step F g1 w g2 w1) (hl : g1.len = g.len) : Step F g w g2 w1 :=
  ⟨by rw [← hl]; exact h.cell, by rw [← hl]; exact h.ty, h.bsz, by rw [← hl]; exact h.len, by rw [← hl]; exact h.frame, h.size, h.os, h.tape, h.output⟩
theorem snd_maskIn {m : List Nat × Option Nat} {x : Ex} {cd : Code} (hm : ∀ n, m.2 = some n → n = c.nb) (hx : Snd c x cd) : Snd c (emaskIn m x) cd := by
  intro s R k r h
  obtain ⟨s0, h0, h0'⟩ := drop_some hm h
  obtain ⟨e, s1, h1, h2⟩ := hx _ R k r h0
  refine ⟨e, s1, h1, fun F g a w B hB hp hs ro dn hro => ?_⟩
  obtain ⟨g0, k1, k2, k3⟩ := h0' F c.nt g a w B hB hp hs
  refine wpIn_mono (h2 F g0 a w B hB k1 k2 ro dn hro) ?_
  rintro e' a' w' ⟨rfl, F', g', hF, hp', hs', hst, hd⟩
  exact ⟨rfl, F', g', hF, hp', hs', hst.lenEq' k3, hd⟩
theorem snd_mask {m : AExit → List Nat × Option Nat} {x : Ex} {cd : Code} (hm : ∀ e n, (m e).2 = some n → n = c.nb) (hx : Snd c x cd) : Snd c (emask m x) cd := by
  intro s R k r h
  obtain ⟨e, s1, h1, h2⟩ := hx _ R _ r h
  obtain ⟨s2, h3, h4⟩ := drop_some (hm e) h1
  refine ⟨e, s2, h3, fun F g a w B hB hp hs ro dn hro => wpIn_mono (h2 F g a w B hB hp hs ro dn hro) ?_⟩
  rintro e' a' w' ⟨rfl, F', g', hF, hp', hs', hst, hd⟩
  obtain ⟨g2, k1, k2, k3⟩ := h4 F' c.nt g' a' w' B hB hp' hs'
  exact ⟨rfl, F', g2, hF, k1, k2, hst.lenEq k3, hd⟩

/-- A piece: what it is told to be is what it is. -/
theorem snd_of {x y : Ex} {cd : Code} (h : ∀ (s : St) (R : Type) (k : AExit → St → Option R) (r : R), y s R k = some r → x s R k = some r) (hx : Snd c x cd) : Snd c y cd := fun s R k r hr => hx s R k r (h s R k r hr)

/-! ### functions -/
theorem slotOwns_args : ∀ (args : List AV) (vs : List Value) (H : List AObj) (rest : Nat) (i : Nat), args.length = vs.length → ∀ (s : St), (∀ j, s.get (i + j) = (args[j]?).getD .undef) → slotOwns s i (vs ++ List.replicate rest undef) = ownsL args vs
  | [], [], H, rest, i, _, s, h => by
    have : ∀ (r i : Nat), slotOwns s i (List.replicate r undef) = [] := by
      intro r
      induction r with
      | zero => intro i; rfl
      | succ r ih => intro i; simp only [List.replicate_succ, slotOwns, owns_undef, ih, List.append_nil]
    simpa [ownsL] using this rest i
  | a :: args, v :: vs, H, rest, i, hl, s, h => by
    simp only [List.cons_append, slotOwns, ownsL]
    rw [slotOwns_args args vs H rest (i + 1) (by simpa using hl) s (fun j => by have := h (j + 1); rw [show i + 1 + j = i + (j + 1) by omega]; simpa using this)]
    have := h 0
    simp at this
    rw [this]
  | [], _ :: _, _, _, _, hl, _, _ => by simp at hl
  | _ :: _, [], _, _, _, hl, _, _ => by simp at hl

/-- The slots at a function's start. -/
def argSlots : Nat → List AV → List (Nat × AV)
  | _, [] => []
  | i, a :: az => (i, a) :: argSlots (i + 1) az
theorem argSlots_get (H : List AObj) : ∀ (args : List AV) (i j : Nat), (⟨argSlots i args, H⟩ : St).get (i + j) = (args[j]?).getD .undef
  | [], i, j => by simp [argSlots, St.get, getS]
  | a :: args, i, j => by
    rw [argSlots, get_cons]
    cases j with
    | zero => simp
    | succ j =>
      rw [if_neg (by omega), show i + (j + 1) = i + 1 + j by omega, argSlots_get H args (i + 1) j]
      simp
theorem argSlots_none (H : List AObj) : ∀ (args : List AV) (i t : Nat), t < i → (⟨argSlots i args, H⟩ : St).get t = .undef
  | [], i, t, _ => rfl
  | a :: args, i, t, h => by
    rw [argSlots, get_cons, if_neg (by omega)]
    exact argSlots_none H args (i + 1) t (by omega)

theorem take_many (tmps : Array Value) : ∀ (ts : List Nat), ts.Nodup → ∀ (s : St), (∀ b, oc b (ownsL (ts.map s.get) (ts.map fun t => tmps.getD t undef)) ≤ oc b (slotOwns s 0 tmps.toList)) ∧ ∀ r, r ∈ ownsL (ts.map s.get) (ts.map fun t => tmps.getD t undef) → r ∈ slotOwns s 0 tmps.toList
  | [], _, s => by simp [ownsL, oc_nil]
  | t :: ts, hn, s => by
    obtain ⟨hn1, hn2⟩ := List.nodup_cons.1 hn
    have hp := slotOwns_give (s := s) (s' := ⟨(t, .undef) :: s.slots, s.heap⟩) (d := t) (fun t' ht => by rw [get_cons, if_neg (fun e => ht e.symm)]) (fun v => by rw [get_cons, if_pos rfl, owns_undefA]) tmps.toList 0 (Nat.zero_le _)
    have he : tmps.toList.getD (t - 0) undef = tmps.getD t undef := by simp [List.getD_eq_getElem?_getD, Array.getD_eq_getD_getElem?]
    rw [he] at hp
    obtain ⟨h1, h2⟩ := take_many tmps ts hn2 ⟨(t, .undef) :: s.slots, s.heap⟩
    have hm : ts.map (⟨(t, .undef) :: s.slots, s.heap⟩ : St).get = ts.map s.get := List.map_congr_left fun u hu => by
      rw [get_cons, if_neg (fun (e : t = u) => hn1 (e ▸ hu))]
    rw [hm] at h1 h2
    simp only [List.map_cons, ownsL]
    exact ⟨fun b => by have := h1 b; have := hp.1 b; simp only [oc_append]; omega, fun r hr => by
      rcases List.mem_append.1 hr with hr | hr
      · exact hp.2 r (.inl hr)
      · exact hp.2 r (.inr (h2 r hr))⟩
end Go.Sh
